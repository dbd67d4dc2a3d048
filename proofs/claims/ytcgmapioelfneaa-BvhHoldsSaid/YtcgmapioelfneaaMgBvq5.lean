/- bvh.tree and bvh.boxed over a tree made of triangles: walked. No condition. A range over a function whose state hangs on things that turn up on the way; a row of slices, some of them of the run's own. No condition. bvh.Sound over a tree made of triangles: plain. No condition. -/
import Derived.Test.YtcgmapioelfneaaMgSymAR
import Derived.Test.YtcgmapioelfneaaMgTre2
namespace Go.Proofs.Ytcgmapioelfneaa
open Go.RowKit
set_option maxRecDepth 100000
set_option maxHeartbeats 2000000
/-! ### a place is like itself -/
theorem eqFields_refl {P : Program} (d : Nat) (xs : Array Value) (w : World) : ∀ (fs : List Field), (∀ f ∈ fs, ∃ u, (part f.type xs f.offset).run P w = .ok u w ∧ (Op.equalIn d f.type u u).run P w = .ok true w) → (Op.eqFields d xs xs fs).run P w = .ok true w
  | [], _ => by simp [Op.eqFields]
  | f :: fs, h => by
    obtain ⟨u, h1, h2⟩ := h f (by simp)
    have ih := eqFields_refl d xs w fs fun g hg => h g (by simp [hg])
    rw [Op.eqFields]
    split
    · simp only [Sem.run_bind, h1, Result.andThen_ok, h2, Bool.not_true, Bool.false_eq_true, if_false]
      exact ih
    · exact ih
theorem part_one {P : Program} {w : World} {t : TypeId} {k : IntKind} {xs : Array Value} {off : Nat} {v : Value} (ht : P.underlying t = some (.int k)) (hx : xs[off]? = some v) : (part t xs off).run P w = .ok v w := by
  simp [part, isAgg, run_underlying ht, hx]
theorem eqP_refl (x y z : Int) (w : World) : (Op.equalIn 10000 32 (.agg #[.int .i64 x, .int .i64 y, .int .i64 z]) (.agg #[.int .i64 x, .int .i64 y, .int .i64 z])).run Try.prog w = .ok true w := by
  have hu := Try.underlying32
  have hfo : Try.prog.underlying 32 = some (.struct (Try.prog.fieldsOf 32)) := by simp [Program.fieldsOf, hu]
  rw [run_equalIn_struct w 9999 32 _ _ hfo (by kernel_rfl)]
  refine eqFields_refl 9999 _ w _ fun f hf => ?_
  simp only [Program.fieldsOf, hu, List.mem_cons, List.not_mem_nil, or_false] at hf
  rcases hf with rfl | rfl | rfl
  · exact ⟨_, part_one Try.underlying3 (show (#[Value.int .i64 x, .int .i64 y, .int .i64 z] : Array Value)[0]? = some (.int .i64 x) from rfl), by rw [run_equalIn_int w 9998 _ _ _ _ _ Try.underlying3]; simp⟩
  · exact ⟨_, part_one Try.underlying3 (show (#[Value.int .i64 x, .int .i64 y, .int .i64 z] : Array Value)[1]? = some (.int .i64 y) from rfl), by rw [run_equalIn_int w 9998 _ _ _ _ _ Try.underlying3]; simp⟩
  · exact ⟨_, part_one Try.underlying3 (show (#[Value.int .i64 x, .int .i64 y, .int .i64 z] : Array Value)[2]? = some (.int .i64 z) from rfl), by rw [run_equalIn_int w 9998 _ _ _ _ _ Try.underlying3]; simp⟩
/-! ### how often each node is led on to -/
def parL (N : List NodeS) (j : Nat) : List Nat := (List.range N.length).map fun q => sumF (parF N q) (List.range j)
theorem parL_len (N : List NodeS) (j : Nat) : (parL N j).length = N.length := by simp [parL]
theorem parL_zero (N : List NodeS) : parL N 0 = List.replicate N.length 0 := by
  unfold parL
  apply List.ext_getElem
  · simp
  · intro i h1 h2
    simp [sumF]
theorem sumF_range (f : Nat → Nat) (j : Nat) : sumF f (List.range (j + 1)) = sumF f (List.range j) + f j := by
  rw [List.range_succ, sumF_app, sumF_cons]
  simp [sumF]
def incL (l : List Nat) (i : Nat) : List Nat := l.set i (l.getD i 0 + 1)
theorem incL_get {l : List Nat} {i q : Nat} (hq : q < l.length) : (incL l i)[q]? = some (l.getD q 0 + (if i = q then 1 else 0)) := by
  unfold incL
  rw [List.getElem?_set]
  by_cases h : i = q
  · subst h
    rw [if_pos rfl, if_pos hq, if_pos rfl]
  · rw [if_neg h, if_neg h, List.getElem?_eq_getElem hq, List.getD_eq_getElem?_getD, List.getElem?_eq_getElem hq]
    rfl
theorem incL_len {l : List Nat} {i : Nat} : (incL l i).length = l.length := by simp [incL]
theorem parL_fork {N : List NodeS} {j L R : Nat} (h1 : (nodeAt N j).left = (L : Int)) (h2 : (nodeAt N j).right = (R : Int)) : incL (incL (parL N j) L) R = parL N (j + 1) := by
  apply List.ext_getElem?
  intro q
  by_cases hq : q < N.length
  · rw [incL_get (by rw [incL_len, parL_len]; exact hq), List.getD_eq_getElem?_getD, incL_get (by rw [parL_len]; exact hq)]
    unfold parL
    rw [List.getD_eq_getElem?_getD, List.getElem?_map, List.getElem?_map, List.getElem?_range hq, Option.map_some, Option.map_some, sumF_range]
    simp only [Option.getD_some, parF, h1, h2, Int.natCast_inj]
    congr 1
    omega
  · rw [List.getElem?_eq_none (by rw [incL_len, incL_len, parL_len]; omega), List.getElem?_eq_none (by rw [parL_len]; omega)]
theorem parL_leaf {N : List NodeS} {j : Nat} (h1 : (nodeAt N j).left = -1) (h2 : (nodeAt N j).right = -1) : parL N (j + 1) = parL N j := by
  unfold parL
  apply List.map_congr_left
  intro q _
  rw [sumF_range, parF, h1, h2, if_neg (by omega)]
  rfl
theorem parL_le (N : List NodeS) (j : Nat) (q : Nat) : (parL N j).getD q 0 ≤ 2 * j := by
  by_cases hq : q < N.length
  · unfold parL
    rw [List.getD_eq_getElem?_getD, List.getElem?_map, List.getElem?_range hq, Option.map_some, Option.getD_some]
    induction j with
    | zero => simp [sumF]
    | succ j ih =>
      rw [sumF_range]
      have : parF N q j ≤ 2 := by unfold parF; split <;> split <;> omega
      omega
  · rw [List.getD_eq_getElem?_getD, List.getElem?_eq_none (by rw [parL_len]; omega)]
    exact Nat.zero_le _
attribute [local irreducible] Calls Walk1 WalkTo Tri EndA
theorem treeB_any {l : List TriS} {N : List NodeS} {K : List Nat} {M : Nat → List Nat} {D : Nat → Nat} (hS : SoundF l N K M D) (hN : N.length ≤ 1000000) (v1 v2 : Value) (w : World) (hv1 : FS w 10 v1 N.length (nodesC N)) :
    Calls Try.prog 24 #[.agg #[v1, v2]] w fun e w' => e = .returned (.bool true) ∧ Below w.heap.size w w' := by
  have hlen := nodes_len N
  have hnode := hS.nodes
  have hrows := fun (i : Nat) (n : NodeS) (h : N[i]? = some n) => node_row h
  have hat := fun (i : Nat) (n : NodeS) (h : N[i]? = some n) => nodeAt_of h
  have hmade := ordC_made N.length
  rw [← parL_zero N] at hmade
  have hfin : ∀ i, i < N.length → (ordC (parL N N.length))[i]? = some (.int .i64 ((min i 1 : Nat) : Int)) := fun i hi => by
    refine ordC_get ?_
    unfold parL
    rw [List.getElem?_map, List.getElem?_range hi, Option.map_some, hS.par i]
    congr 1
    split <;> omega
  have hpl := parL_len N
  have hle := parL_le N
  have hleaf := fun j h1 h2 => parL_leaf (N := N) (j := j) h1 h2
  have hfork := fun j L R h1 h2 => parL_fork (N := N) (j := j) (L := L) (R := R) h1 h2
  generalize hNC : nodesC N = NC at *
  refine calls_tri Try.func24 rfl Try.ntmps24 rfl ?_
  repeat (first | (show Walk1 _ _ _ (_ :: _) _ _; first | (show HW1 (.move _); refine wz40 ?_) | (show HW1 (.assign _); refine wz2 ?_) | (show HW1 (.load _ _); refine wz3 ?_) | (show HW1 (.box _ _); refine wz11 ?_) | (show HW1 (.fieldAddr _ _ _); refine wz4 ?_) | (show HW1 (.makeSlice _ _ _); refine wz114 ?_) | (show HW1 (.call ⟨.builtin .len, _, _⟩); refine wz27 ?_)) | refine go1 ?_ | refine end_block_other rfl ?_ | refine end_scope (fun _ h => by cases h) ?_ | (refine walk_endD ?_ ?_; (· kernel_rfl)) | refine tri_yesA rfl ?_ | refine tri_noA rfl ?_ | refine tri_trueA rfl ?_ | refine tri_falseA rfl ?_)
  rw [hmade]
  generalize parL N = PL at *
  clear hmade hS
  refine tri_loop (X := Nat) (fun i => ⟨[(15, SV.c (.int .i64 ((i : Nat) : Int))), (14, SV.c (.int .i64 ((N.length : Nat) : Int))), (13, .c v1), (3, .v 11), (1, .p 1 0)], [(1, some (.blk 1 27 (.c #[v1, v2]))), (11, some (.own 11 3 1 N.length (ordC (PL i))))]⟩)
    (fun i => i ≤ N.length) (fun i => N.length - i) 0 (by omega) (by exact ent_kp) ?_
  intro i hi Q next
  by_cases h : i < N.length
  · obtain ⟨nd, hnd⟩ : ∃ nd, N[i]? = some nd := ⟨_, List.getElem?_eq_getElem h⟩
    have hrow := hrows i nd hnd
    have hrl : 0 + i * 10 + 10 ≤ NC.length := by omega
    have nx := fun S' => next S' (i + 1)
    have hk := hnode i nd hnd
    have hl1 := hleaf i
    have hf1 := hfork i
    have hp1 := hpl i
    have hle1 := hle i
    rw [hat i nd hnd] at hl1 hf1
    clear hnode hrows next hat hleaf hfork hpl hle hfin
    generalize PL (i + 1) = P2 at *
    generalize PL i = P0 at *
    obtain ⟨⟨lx, ly, lz⟩, ⟨hx, hy, hz⟩, le, ri, fi, co⟩ := nd
    rw [nodeC_row] at hrow
    dsimp only at hl1 hf1
    rcases hk with ⟨f, c, ⟨e1, e2, e3, e4, _⟩, _⟩ | ⟨L, R, ⟨e1, e2, e3, e4, c1, c2, c3, c4⟩, _⟩
    · dsimp only at e1 e2 e3 e4
      subst e1 e2 e3 e4
      rw [hl1 rfl rfl] at nx
      repeat (first | (show Walk1 _ _ _ (_ :: _) _ _; first | (show HW1 (.move _); refine wz1 ?_) | (show HW1 (.binOp .add _ _ _ _); refine wz10 ?_) | (show HW1 (.binOp .lss _ _ _ _); refine wz5 ?_) | (show HW1 (.binOp .geq _ _ _ _); refine wz71 ?_) | (show HW1 (.indexAddr _ _ _); refine wz26 ?_) | (show HW1 (.load _ _); first | refine wz3 ?_ | refine wz51 ?_) | (show HW1 (.store _ _ _); refine wz14 ?_) | (show HW1 (.alloc _); refine wz6 ?_) | (show HW1 (.fieldAddr _ _ _); refine wz4 ?_)) | refine go1 ?_ | refine end_block_other rfl ?_ | refine end_scope (fun _ h => by cases h) ?_ | (refine walk_endD ?_ ?_; (· kernel_rfl)) | refine tri_yesA rfl ?_ | refine tri_noA rfl ?_ | refine tri_trueA rfl ?_ | refine tri_falseA rfl ?_)
      exact nx _ (by omega) (by omega) (by exact ent_kp)
    · dsimp only at e1 e2 e3 e4
      subst e1 e2 e3 e4
      have hP := hf1 L R rfl rfl
      clear hl1 hf1
      have hiL : incL P0 L = P0.set L (P0.getD L 0 + 1) := rfl
      have q1 : P0[L]? = some (P0.getD L 0) := by
        rw [List.getD_eq_getElem?_getD, List.getElem?_eq_getElem (by omega)]
        rfl
      have q2 : (incL P0 L)[R]? = some ((incL P0 L).getD R 0) := by
        rw [List.getD_eq_getElem?_getD, List.getElem?_eq_getElem (by rw [incL_len]; omega)]
        rfl
      have b1 := hle1 L
      have b2 : (incL P0 L).getD R 0 ≤ 2 * i + 1 := by
        have := incL_get (l := P0) (i := L) (q := R) (by omega)
        rw [List.getD_eq_getElem?_getD, this, Option.getD_some]
        have := hle1 R
        split <;> omega
      have hst1 : (ordC P0).set L (.int .i64 ((P0.getD L 0 + 1 : Nat) : Int)) = ordC (incL P0 L) := ordC_set _ _ _
      have hst2 : (ordC (incL P0 L)).set R (.int .i64 (((incL P0 L).getD R 0 + 1 : Nat) : Int)) = ordC P2 := by
        rw [← hP]
        exact ordC_set _ _ _
      have g1 := ordC_get q1
      have g2 := ordC_get q2
      clear hle1 q1 q2 hP hiL
      generalize (incL P0 L).getD R 0 = y at *
      generalize ordC (incL P0 L) = X1 at *
      generalize P0.getD L 0 = x at *
      generalize ordC P0 = X0 at *
      generalize ordC P2 = X2 at *
      repeat (first | (show Walk1 _ _ _ (_ :: _) _ _; first | (show HW1 (.move _); refine wz1 ?_) | (show HW1 (.binOp .add _ _ _ _); refine wz10 ?_) | (show HW1 (.binOp .lss _ _ _ _); refine wz5 ?_) | (show HW1 (.binOp .geq _ _ _ _); refine wz70 ?_) | (show HW1 (.indexAddr _ _ _); first | refine walk1_t (op_idxV rfl rfl rfl rfl rfl evk rfl rfl (by first | omega | decide) off_one) ?_ | refine wz26 ?_) | (show HW1 (.load _ _); first | refine wz3 ?_ | refine walk1_t (op_loadV rfl rfl rfl rfl rfl rfl rfl (by assumption)) ?_ | refine wz51 ?_) | (show HW1 (.store _ _ _); refine wz14 ?_) | (show HW1 (.alloc _); refine wz6 ?_) | (show HW1 (.fieldAddr _ _ _); refine wz4 ?_)) | refine go1 ?_ | refine end_block_other rfl ?_ | refine end_scope (fun _ h => by cases h) ?_ | (refine walk_endD ?_ ?_; (· kernel_rfl)) | refine tri_yesA rfl ?_ | refine tri_noA rfl ?_ | refine tri_trueA rfl ?_ | refine tri_falseA rfl ?_)
      refine walk1_b (op_storeV rfl rfl rfl rfl rfl rfl rfl rfl rfl (by omega) hst1) ?_
      repeat (first | (show Walk1 _ _ _ (_ :: _) _ _; first | (show HW1 (.move _); refine wz1 ?_) | (show HW1 (.binOp .add _ _ _ _); refine wz10 ?_) | (show HW1 (.indexAddr _ _ _); refine walk1_t (op_idxV rfl rfl rfl rfl rfl evk rfl rfl (by first | omega | decide) off_one) ?_) | (show HW1 (.load _ _); first | refine wz3 ?_ | refine walk1_t (op_loadV rfl rfl rfl rfl rfl rfl rfl (by assumption)) ?_) | (show HW1 (.fieldAddr _ _ _); refine wz4 ?_)) | refine go1 ?_ | refine end_block_other rfl ?_ | refine end_scope (fun _ h => by cases h) ?_ | (refine walk_endD ?_ ?_; (· kernel_rfl)) | refine tri_yesA rfl ?_ | refine tri_noA rfl ?_ | refine tri_trueA rfl ?_ | refine tri_falseA rfl ?_)
      refine walk1_b (op_storeV rfl rfl rfl rfl rfl rfl rfl rfl rfl (by omega) hst2) ?_
      repeat (first | (show Walk1 _ _ _ (_ :: _) _ _; first | (show HW1 (.move _); refine wz1 ?_) | (show HW1 (.binOp .add _ _ _ _); refine wz10 ?_)) | refine go1 ?_ | refine end_block_other rfl ?_ | refine end_scope (fun _ h => by cases h) ?_ | (refine walk_endD ?_ ?_; (· kernel_rfl)) | refine tri_yesA rfl ?_ | refine tri_noA rfl ?_ | refine tri_trueA rfl ?_ | refine tri_falseA rfl ?_)
      exact nx _ (by omega) (by omega) (by exact ent_kp)
  · obtain rfl : i = N.length := by omega
    clear next hnode hrows hat hleaf hfork hle
    have hpl1 := hpl N.length
    clear hpl
    generalize PL N.length = P2 at *
    generalize ordC P2 = X2 at *
    repeat (first | (show Walk1 _ _ _ (_ :: _) _ _; first | (show HW1 (.move _); first | refine wz40 ?_ | refine wz1 ?_) | (show HW1 (.binOp .lss _ _ _ _); refine wz5 ?_) | (show HW1 (.call ⟨.builtin .len, _, _⟩); refine wz57 ?_)) | refine go1 ?_ | refine end_block_other rfl ?_ | refine end_scope (fun _ h => by cases h) ?_ | (refine walk_endD ?_ ?_; (· kernel_rfl)) | refine tri_yesA rfl ?_ | refine tri_noA rfl ?_ | refine tri_trueA rfl ?_ | refine tri_falseA rfl ?_)
    refine tri_loop (X := Nat) (fun i => ⟨[(39, SV.c (.int .i64 ((i : Nat) : Int))), (38, SV.c (.int .i64 ((N.length : Nat) : Int))), (37, .v 11)], [(11, some (.own 11 3 1 N.length X2))]⟩)
      (fun i => i ≤ N.length) (fun i => N.length - i) 0 (by omega) (by exact ent_kp) ?_
    intro i hi Q next
    by_cases h : i < N.length
    · have hg := hfin i h
      have nx := fun S' => next S' (i + 1)
      clear next hfin
      repeat (first | (show Walk1 _ _ _ (_ :: _) _ _; first | (show HW1 (.move _); refine wz1 ?_) | (show HW1 (.assign _); refine wz2 ?_) | (show HW1 (.binOp .add _ _ _ _); refine wz10 ?_) | (show HW1 (.binOp .lss _ _ _ _); refine wz5 ?_) | (show HW1 (.binOp .neq _ _ _ _); refine wz61 ?_) | (show HW1 (.indexAddr _ _ _); refine walk1_t (op_idxV rfl rfl rfl rfl rfl evk rfl rfl (by first | omega | decide) off_one) ?_) | (show HW1 (.load _ _); refine walk1_t (op_loadV rfl rfl rfl rfl rfl rfl rfl (by assumption)) ?_) | (show HW1 (.call ⟨.builtin .min, _, _⟩); refine walk1_t (op_minN rfl evn evn) ?_)) | refine go1 ?_ | refine end_block_other rfl ?_ | refine end_scope (fun _ h => by cases h) ?_ | (refine walk_endD ?_ ?_; (· kernel_rfl)) | refine tri_yesA rfl ?_ | refine tri_noA rfl ?_ | refine tri_trueA rfl ?_ | refine tri_falseA rfl ?_)
      exact nx _ (by omega) (by omega) (by exact ent_kp)
    · obtain rfl : i = N.length := by omega
      clear next hfin
      repeat (first | (show Walk1 _ _ _ (_ :: _) _ _; first | (show HW1 (.assign _); refine wz2 ?_) | (show HW1 (.binOp .lss _ _ _ _); refine wz5 ?_)) | refine go1 ?_ | refine end_block_other rfl ?_ | refine end_scope (fun _ h => by cases h) ?_ | (refine walk_endD ?_ ?_; (· kernel_rfl)) | refine tri_yesA rfl ?_ | refine tri_noA rfl ?_ | refine tri_trueA rfl ?_ | refine tri_falseA rfl ?_)
      refine end_ret (.c (.bool true)) (res_tmp rfl rfl) ?_
      exact fin_below fun _ => rfl
theorem boxed_any (l : List TriS) (hok : ∀ t ∈ l, t.ok) (n : NodeS) (ks : List Nat) (hks : ∀ k ∈ ks, k < l.length) (hl : ks.length ≤ 100000) (h0 : 1 ≤ ks.length) (hB : BBx l ks (n.lo, n.hi)) (vl vo : Value) (w : World) (hvl : RdV w 19 vl l.length (trisC l)) (hvo : RdV w 1 vo ks.length (ordC ks)) :
    Calls Try.prog 27 #[.agg (nodeC n).toArray, vl, vo] w fun e w' => e = .returned (.bool true) ∧ Below w.heap.size w w' := by
  have cB := fun w h h' => bvhBox_any l hok ks hks hl vl vo w h h'
  rw [(bbN_all l ks h0).uniq hB] at cB
  have hvo1 : RdV w 1 vo ks.length (ks.map fun k => Value.int .i64 ((k : Nat) : Int)) := hvo
  obtain ⟨⟨lx, ly, lz⟩, ⟨hx, hy, hz⟩, le, ri, fi, co⟩ := n
  rw [nodeC_row]
  have r1 := eqP_refl lx ly lz
  have r2 := eqP_refl hx hy hz
  simp only [P3.c] at cB
  clear hB hvo hok hks
  refine calls_tri Try.func27 rfl Try.ntmps27 rfl ?_
  repeat (first | (show Walk1 _ _ _ (_ :: _) _ _; first | (show Walk1 _ _ _ (⟨_, _, _, _, _, some _⟩ :: _) _ _; refine zy1 ?_) | (show HW1 (.move _); refine wz1 ?_) | (show HW1 (.assign _); refine wz2 ?_) | (show HW1 (.binOp .eql _ _ _ _); refine wz47 ?_) | (show HW1 (.pick _ _ _); refine wz8 ?_) | (show HW1 (.load _ _); first | refine wz9 ?_ | refine wz31 ?_) | (show HW1 (.store _ _ _); refine wz14 ?_) | (show HW1 (.alloc _); refine wz6 ?_) | (show HW1 (.box _ _); refine wz11 ?_) | (show HW1 (.fieldAddr _ _ _); refine wz4 ?_) | (show HW1 (.extract _ _); first | refine wz16 ?_ | refine wz15 ?_) | (show HW1 (.call ⟨.value (.func 17), _, _⟩); (refine cwalk1M 17 ?_; refine ⟨_, _, callM_2 (rdn_old hvl (by omega) rfl) (rdn_old hvo1 (by omega) rfl) (fun e w h1 h2 => cB w h1 h2), ?_⟩))) | refine go1 ?_ | refine end_block_other rfl ?_ | refine end_scope (fun _ h => by cases h) ?_ | (refine walk_endD ?_ ?_; (· kernel_rfl)) | refine tri_yesA rfl ?_ | refine tri_noA rfl ?_ | refine tri_trueA rfl ?_ | refine tri_falseA rfl ?_)
  refine end_ret (.c (.bool true)) (res_tmp rfl rfl) ?_
  exact fin_below fun _ => rfl
end Go.Proofs.Ytcgmapioelfneaa
namespace Go.Proofs.Ytcgmapioelfneaa
open Go.RowKit
set_option maxRecDepth 100000
set_option maxHeartbeats 1000000
theorem tri_rangeX {X : Type} {C : Ctx} {P : Program} {tv : List (Nat × Value)} {g : Operand} {p1 p2 : Tmp} {assign body : Code} {Q : Exit → Act → World → Prop} (gf : Nat) (lb : Array Value) (x1 x2 : Nat → Value) (N : Nat) (hk : X → List (Nat × Option Res)) (I : Nat → X → Prop) (X0 : X) (Rd : World → Prop) (hI0 : I 0 X0)
    (hg : (St.mk (closedT tv) []).ev g = some (.c (.func (.func gf) #[] lb))) (hgf : ∀ args w, (callFunc gf args).run P w = .ok (.enter gf args) w) (hit : IterAt P gf lb (fun k => #[x1 k, x2 k]) N Rd)
    (hRd : ∀ k x e a w L D o oD, I k x → Holds C ⟨closedT tv, (7778, some (.lay L o)) :: (7777, some (.lay D oD)) :: hk x⟩ e a w → Rd w) (hp : p1 ≠ p2 ∧ p1 < C.nt ∧ p2 < C.nt)
    (hround : ∀ (L D : Nat) (o ob oD : Go.Obj) (k : Nat) (x : X), k < N → I k x → ∀ (Kb : Act → World → Prop) (QR : Exit → Act → World → Prop),
      (∀ S' : St, S'.res 7778 = some (.lay L o) → TriG (some L) [] C P ⟨S'.t, (7778, some (.lay L ob)) :: S'.h⟩ body QR → EndA C S' Kb) →
      (∀ (S' : St) (x' : X), I (k + 1) x' → Ents C S' ⟨[], (7778, some (.lay L ob)) :: (7777, some (.lay D oD)) :: hk x'⟩ → EndA C S' (QR .normal)) →
      TriG (some L) [] C P ⟨(p1, .c (x1 k)) :: (p2, .c (x2 k)) :: closedT tv, (7778, some (.lay L o)) :: (7777, some (.lay D oD)) :: hk x⟩ assign (Exit.then Kb (fun _ _ _ => False)))
    (hdone : ∀ (L D : Nat) (o : Go.Obj) (x : X), I N x → EndA C ⟨closedT tv, (7778, some (.lay L o)) :: (7777, some (.lay D (.deferred (some [])))) :: hk x⟩ (fun a w => Q .normal (dfs [markD D] a) w)) :
    Tri C P ⟨closedT tv, hk X0⟩ (.rangeFunc g #[p1, p2] assign body) Q := by
  intro e a w hS
  have hgv : a.eval g = .func (.func gf) #[] lb := hS.ev (show (St.mk (closedT tv) (hk X0)).ev g = _ from hg)
  refine (wpIn_wide (n := 9)).1 (wpIn_rangeFunc ?_)
  intro fn hfn
  have hS1 := (hS.layNew 7777 (.deferred (some []))).layNew 7778 (.loop (loopOf fn a.tmps #[p1, p2] assign body w.heap.size .ready))
  rw [World.size_alloc] at hS1
  obtain ⟨W1, hW1⟩ : ∃ W1, (w.alloc (.deferred (some []))).alloc (.loop (loopOf fn a.tmps #[p1, p2] assign body w.heap.size .ready)) = W1 := ⟨_, rfl⟩
  rw [hW1] at hS1
  have hdf : a.defers = [] := hS.defers
  refine ⟨w.heap.size + 1, [markD w.heap.size], W1, { target := .fn (.func gf) lb, args := #[.func (.yield (w.heap.size + 1)) #[] #[]] }, W1, gf, #[.func (.yield (w.heap.size + 1)) #[] #[]] ++ lb, W1, ?_, ?_, ?_, ?_, fun _ => (by decide), ?_⟩
  · rw [← hW1]; exact run_enterLoop_outer _ _ _ _ _
  · simp only [resolve, hgv]
    simp [go_sem]
  · intro f' _; trivial
  · simp [invoke, go_sem, hgf]
  · have tmps_of : ∀ i v, look (closedT tv) i = some v → ∃ u, v = SV.c u ∧ a.tmps[i]? = some u := fun i v hv => by
      have h1 := hS.tmp i v hv
      rw [look_closedT] at hv
      cases hl : look tv i with
      | none => rw [hl] at hv; cases hv
      | some u =>
        rw [hl] at hv
        obtain rfl := Option.some.inj hv
        exact ⟨u, rfl, h1⟩
    have again : ∀ {x : X} {o oD : Go.Obj} {L D : Nat} {e : Env} {a' : Act} {W : World}, Holds C ⟨[], (7778, some (.lay L o)) :: (7777, some (.lay D oD)) :: hk x⟩ e a' W → Holds C ⟨closedT tv, (7778, some (.lay L o)) :: (7777, some (.lay D oD)) :: hk x⟩ e a W := fun h =>
      ⟨hdf, hS.size, fun i v hv => (by obtain ⟨u, rfl, h2⟩ := tmps_of i v hv; exact h2), h.res, h.mine, h.sep, h.frame⟩
    refine (hit (w.heap.size + 1) (fun k W => ∃ x e, I k x ∧ Holds C ⟨closedT tv, (7778, some (.lay (w.heap.size + 1) (.loop (loopOf fn a.tmps #[p1, p2] assign body w.heap.size .ready)))) :: (7777, some (.lay w.heap.size (.deferred (some [])))) :: hk x⟩ e a W) (fun _ => False) W1 (fun k W ⟨x, e, hx, h⟩ => hRd k x e a W _ _ _ _ hx h) (fun k W W' ⟨x, e, hx, h⟩ hb => ⟨x, e, hx, h.world hb⟩) (fun _ _ h _ => h) ?_ ⟨X0, e, hI0, hS1⟩).mono ?_
    · rintro k W hkN ⟨x, e1, hx, h1⟩
      have hl : W.heap[w.heap.size + 1]? = some (.loop (loopOf fn a.tmps #[p1, p2] assign body w.heap.size .ready)) := h1.res 7778 _ rfl
      have hy := run_yield (P := P) (args := #[x1 k, x2 k]) hl rfl
      have hy : (Instr.yield (w.heap.size + 1) #[x1 k, x2 k]).run P W = .ok (.round (w.heap.size + 1) fn ((a.tmps.setIfInBounds p1 (x1 k)).setIfInBounds p2 (x2 k)) assign body) W := by
        rw [hy]
        simp [loopOf]
      refine ⟨fn, _, assign, body, hy, roundIn_of_wpIn hfn ?_⟩
      have h2 : Holds C ⟨(p1, .c (x1 k)) :: (p2, .c (x2 k)) :: closedT tv, (7778, some (.lay (w.heap.size + 1) (.loop (loopOf fn a.tmps #[p1, p2] assign body w.heap.size .ready)))) :: (7777, some (.lay w.heap.size (.deferred (some [])))) :: hk x⟩ e1 { tmps := (a.tmps.setIfInBounds p1 (x1 k)).setIfInBounds p2 (x2 k), defers := [] } W := by
        refine ⟨rfl, by simp [hS.size], fun i v hv => ?_, h1.res, h1.mine, h1.sep, h1.frame⟩
        have hv : look ((p1, SV.c (x1 k)) :: (p2, SV.c (x2 k)) :: closedT tv) i = some v := hv
        rw [look_cons, look_cons] at hv
        have hz := hS.size
        have hp1 : (p1 : Nat) < a.tmps.size := Nat.lt_of_lt_of_eq hp.2.1 hz.symm
        have hp2 : (p2 : Nat) < a.tmps.size := Nat.lt_of_lt_of_eq hp.2.2 hz.symm
        show ((a.tmps.setIfInBounds p1 (x1 k)).setIfInBounds p2 (x2 k))[i]? = _
        split at hv
        · rename_i hi
          obtain rfl := Option.some.inj hv
          subst hi
          rw [Array.getElem?_setIfInBounds_ne (Ne.symm hp.1), Array.getElem?_setIfInBounds_self_of_lt hp1]
          rfl
        · rename_i hi
          split at hv
          · rename_i hj
            obtain rfl := Option.some.inj hv
            subst hj
            rw [Array.getElem?_setIfInBounds_self_of_lt (by rw [Array.size_setIfInBounds]; exact hp2)]
            rfl
          · rename_i hj
            obtain ⟨u, rfl, hu⟩ := tmps_of i v hv
            rw [Array.getElem?_setIfInBounds_ne hj, Array.getElem?_setIfInBounds_ne hi]
            exact hu
      obtain ⟨R, hR⟩ : ∃ R : Ending → World → Prop, R = fun e W' => (e = .returned (.bool true) ∧ ∃ x e, I (k + 1) x ∧ Holds C ⟨closedT tv, (7778, some (.lay (w.heap.size + 1) (.loop (loopOf fn a.tmps #[p1, p2] assign body w.heap.size .ready)))) :: (7777, some (.lay w.heap.size (.deferred (some [])))) :: hk x⟩ e a W') ∨ (e = .returned (.bool false) ∧ False) := ⟨_, rfl⟩
      rw [← hR]
      have key := hround (w.heap.size + 1) w.heap.size (.loop (loopOf fn a.tmps #[p1, p2] assign body w.heap.size .ready)) (.loop (loopOf fn a.tmps #[p1, p2] assign body w.heap.size .busy)) (.deferred (some [])) k x hkN hx
        (fun a₁ w₁ => ∃ w₂, (Instr.beginRound (w.heap.size + 1)).run P w₁ = .ok () w₂ ∧ body.wpIn (fenR (some (w.heap.size + 1))) 7 P (roundPost P (w.heap.size + 1) R) (dfs [] a₁) w₂)
        (fun x _ W' => x = .normal ∧ ∃ x e a', I (k + 1) x ∧ Holds C ⟨[], (7778, some (.lay (w.heap.size + 1) (.loop (loopOf fn a.tmps #[p1, p2] assign body w.heap.size .busy)))) :: (7777, some (.lay w.heap.size (.deferred (some [])))) :: hk x⟩ e a' W')
        (fun S' hr hT e a' W' hS' => by
          have hl' : W'.heap[w.heap.size + 1]? = some (.loop (loopOf fn a.tmps #[p1, p2] assign body w.heap.size .ready)) := hS'.res 7778 _ hr
          have hb := run_beginRound (P := P) hl' rfl
          refine ⟨_, hb, wide_n (n := 9) (wpIn_mono (hT e a' _ ?_) ?_)⟩
          · exact hS'.layPut hr (.loop (loopOf fn a.tmps #[p1, p2] assign body w.heap.size .busy))
          · rintro y a2 W2 ⟨a3, rfl, rfl, x3, e3, a4, hx3, h3⟩
            have hl2 : W2.heap[w.heap.size + 1]? = some (.loop (loopOf fn a.tmps #[p1, p2] assign body w.heap.size .busy)) := h3.res 7778 _ rfl
            refine ⟨_, _, run_endRound (P := P) none hl2, ?_⟩
            rw [hR]
            refine .inl ⟨rfl, x3, e3, hx3, again (a' := a4) ?_⟩
            have h4 := h3.layPut (k := 7778) (L := w.heap.size + 1) rfl (.loop (loopOf fn a.tmps #[p1, p2] assign body w.heap.size .ready))
            exact h4.like ⟨fun _ => rfl, fun q => by
              simp only [St.res_cons]
              split <;> rfl⟩)
        (fun S' x' hx' hE e a' W' hS' => by
          obtain ⟨e', h'⟩ := hE e a' W' hS'
          exact ⟨rfl, x', e', a', hx', h'⟩) e1 _ W h2
      have key : assign.wpIn (fenR (some (w.heap.size + 1))) 9 P _ { tmps := (a.tmps.setIfInBounds p1 (x1 k)).setIfInBounds p2 (x2 k), defers := [] } W := key
      refine wide_n (n := 9) (wpIn_mono key ?_)
      rintro y a2 W2 ⟨a3, rfl, hx⟩
      cases y <;> first | exact hx | exact hx.elim
    · rintro y W2 ⟨⟨v, rfl⟩, ⟨x, e1, hx, h1⟩ | hf⟩
      · have hl : W2.heap[w.heap.size + 1]? = some (.loop (loopOf fn a.tmps #[p1, p2] assign body w.heap.size .ready)) := h1.res 7778 _ rfl
        have hend := run_endLoop (P := P) hl (by intro h; cases h)
        refine ⟨none, _, hend, ?_⟩
        have h2 := h1.layPut (k := 7778) (L := w.heap.size + 1) rfl (.loop { loopOf fn a.tmps #[p1, p2] assign body w.heap.size .ready with state := .exhausted })
        have h3 := hdone (w.heap.size + 1) w.heap.size (.loop { loopOf fn a.tmps #[p1, p2] assign body w.heap.size .ready with state := .exhausted }) x hx e1 a _ (h2.like ⟨fun _ => rfl, fun q => ?_⟩)
        · show Q .normal { a with defers := [markD w.heap.size] ++ a.defers } _
          rw [hdf]
          exact h3
        · simp only [St.res_cons]
          split <;> rfl
      · exact hf.elim
/-! ### slices that lie in a row of slices -/
/-- A slice of ints: one that lay there, or one in a block of these. -/
def ElI (w0 : World) (B : List Nat) (u : Value) (xs : List Value) (w : World) : Prop := (∀ w', Below w0.heap.size w0 w' → FS w' 1 u xs.length xs) ∨ ((∀ b, u.ownBlock = some b → b ∈ B) ∧ FS w 1 u xs.length xs)
theorem ElI.fs {w0 w : World} {B : List Nat} {u : Value} {xs : List Value} (h : ElI w0 B u xs w) (hb : Below w0.heap.size w0 w) : FS w 1 u xs.length xs := by
  rcases h with h | h
  · exact h w hb
  · exact h.2
def Res.els (w0 : World) (B : List Nat) (L : List (Value × List Value)) : Res where
  foot _ b := b ∈ B
  ok _ w := (∀ b ∈ B, b < w.heap.size) ∧ ∀ p ∈ L, ElI w0 B p.1 p.2 w
  sup := []
  wr := false
  ind _ _ _ := ⟨rfl, rfl⟩
  loc e w w' h hok := by
    refine ⟨fun b hb => ?_, fun p hp => ?_⟩
    · have h5 := hok.1 b hb
      have h6 := h b hb
      rw [Array.getElem?_eq_getElem h5] at h6
      exact (Array.getElem?_eq_some_iff.1 h6).1
    · rcases hok.2 p hp with h1 | ⟨h1, h2⟩
      · exact .inl h1
      · exact .inr ⟨h1, h2.locB fun x hx => h x (h1 x hx)⟩
  lt e w b hok hf := hok.1 b hf
section
variable {C : Ctx} {P : Program} {S : St} {Q : Exit → Act → World → Prop} {r : Option Nat} {ds : List Deferred}
theorem rdn_els {k : Nat} {B : List Nat} {L : List (Value × List Value)} {u : Value} {xs : List Value} (hr : S.res k = some (.els C.w0 B L)) (hm : (u, xs) ∈ L) (hC : C.m = []) : RdN C S [k] 1 (.c u) xs.length xs := fun S' e a w h hS =>
  ((hS.res k _ ((h k (by simp)).trans hr)).2 _ hm).fs (hS.frame.below hC) |>.rd
/-- An own row of single cells, one of which is a slice that has a name. -/
def Res.ownV (n : Nat) (T : TypeId) (len : Nat) (xs : List Value) (off q : Nat) : Res where
  foot e b := (e n).v.ownBlock = some b
  ok e w := w.ownsRow 0 T 1 (e n).v len (xs.set off (e q).v)
  sup := [n, q]
  wr := true
  ind e e' h := by have h1 := h n (by simp); have h2 := h q (by simp); simp only [h1, h2, and_self]
  loc e w w' h hok := by
    refine ⟨hok.1, ?_⟩
    rcases hok.2 with hn | ⟨g, cap, cur, hv, hb, hgg, rest⟩
    · exact .inl hn
    · exact .inr ⟨g, cap, cur, hv, hb, (h g (by rw [hv]; rfl)).trans hgg, rest⟩
  lt e w b hok hf := (hok.lt b hf).2
theorem op_storeVV {ops : Array Oper} {o : Oper} {x y : Operand} {t : TypeId} {n off len q m U sz : Nat} {T0 : TypeId} {xs ys : List Value} (ho : o.op = .store t x y) (hg : o.guard = none) (hdst : o.dst = none) (hx : S.ev x = some (.vp n off)) (hy : S.ev y = some (.v q)) (hr : S.res n = some (.own n T0 1 len xs)) (hq : S.res q = some (.own q U sz m ys)) (hi' : tabLook sizT t = some 1) (hoff : off < len) :
    OpG C Try.prog ops o S ⟨opT x ++ opT y, [n, q], [], [(n, some (.ownV n T0 len xs off q))], []⟩ := by
  have hi := tabAll_look sizT_ok hi'
  refine opG_mk hg fun S' h1 h2 h3 e a w hS => ?_
  have hr' := (h2 n (by simp)).trans hr
  have hq' := (h2 q (by simp)).trans hq
  have hok : w.ownsRow 0 T0 1 (e n).v len xs := hS.res n _ hr'
  have hokq : w.ownsRow 0 U sz (e q).v m ys := hS.res q _ hq'
  have h1c : (e q).v.oneCell' = true := by
    obtain ⟨_, a1, c1, h, _⟩ := fs_ownN hokq
    rw [h]; rfl
  have hxl : xs.length = len := by have := hok.1; omega
  rcases hok.2 with ⟨_, h0⟩ | ⟨g, cap, cur, hev, _, hb, hnc, hcm, hcs, htk⟩
  · omega
  have hevx : a.eval x = .pointer (some ⟨g, off, none⟩) := by
    rw [hS.ev ((ev_like h1 fun _ h => List.mem_append_left _ h).trans hx)]
    show (match (e n).v with | .slice (some a) _ _ => Value.pointer (some ⟨a.block, off, none⟩) | _ => undef) = _
    rw [hev]
  obtain ⟨u, hu⟩ : ∃ u, u = (e q).v := ⟨_, rfl⟩
  have hevy : a.eval y = u := by rw [hu]; exact hS.ev ((ev_like h1 fun _ h => List.mem_append_right _ h).trans hy)
  rw [← hu] at h1c
  have hok2 := hok
  rw [hev] at hok2
  obtain ⟨hst, hgr⟩ := hok2.stored off u
  have hc : w.cell? ⟨g, off, none⟩ = some (cur[off]'(by omega)) := (cell_of_row w _ off _ _ _ hb).trans (by simp)
  have hf : w.frozen? ⟨g, off, none⟩ = false := frozen_of_row w _ off _ _ hb
  have hcells : u.cells = #[u] := by cases hh : u <;> rw [hh] at h1c <;> first | rfl | (simp [Value.oneCell'] at h1c)
  have hmine : ∀ b, (e n).v.ownBlock = some b → C.mine b := fun b hb => hS.mine n _ hr' rfl b hb
  have hg0 : (e n).v.ownBlock = some g := by rw [hev]; rfl
  refine wp_skip' (w' := w.setCell ⟨g, off, none⟩ u) ?_ ⟨e, ?_⟩
  · cases hq : Try.prog.info? t with
    | none => simp [hq] at hi
    | some i =>
      have hs : i.size = 1 := by simpa [hq] using hi
      simp [execOp, ho, hevx, hevy, Instr.storeAt, Instr.sureAddr, storeVar, sizeOf, typeInfo, hq, hs, hcells, storeCells, run_store Try.prog _ _ _ _ h1c, hc, hf, Addr.add]
  · rw [hdst]
    refine ⟨hS.defers, hS.size, hS.tmp, fun m r h => ?_, fun m r h hw b hb => ?_, fun m k r r' h h' hne hw b hb => ?_, ⟨hS.frame.os, hS.frame.tape, hS.frame.output, by simpa [World.setCell] using hS.frame.size, fun k hk hkm => ?_⟩⟩
    · have h : (St.mk S'.t ((n, some (.ownV n T0 len xs off q)) :: S'.h)).res m = some r := h
      rw [St.res_cons] at h
      split at h
      · cases h
        show (w.setCell ⟨g, off, none⟩ u).ownsRow 0 T0 1 (e n).v len (xs.set off (e q).v)
        rw [hev, ← hu]; exact hst
      · rename_i hne
        refine r.loc e w _ (fun b hfb => Below.heap_setCell w _ _ b fun he => ?_) (hS.res m r h)
        have he : b = g := he
        subst he
        exact hS.sep n m _ r hr' h hne rfl b hg0 hfb
    · have h : (St.mk S'.t ((n, some (.ownV n T0 len xs off q)) :: S'.h)).res m = some r := h
      rw [St.res_cons] at h
      split at h
      · cases h; exact hmine b hb
      · exact hS.mine m r h hw b hb
    · have h : (St.mk S'.t ((n, some (.ownV n T0 len xs off q)) :: S'.h)).res m = some r := h
      have h' : (St.mk S'.t ((n, some (.ownV n T0 len xs off q)) :: S'.h)).res k = some r' := h'
      rw [St.res_cons] at h h'
      split at h
      · rename_i h1; cases h; subst h1
        split at h'
        · rename_i h2; exact absurd h2 hne
        · exact hS.sep n k _ r' hr' h' hne rfl b hb
      · split at h'
        · rename_i h2; cases h'; subst h2
          exact hS.sep m n r _ h hr' hne hw b hb
        · exact hS.sep m k r r' h h' hne hw b hb
    · refine (Below.heap_setCell w ⟨g, off, none⟩ u k fun he => ?_).trans (hS.frame.block k hk hkm)
      have he : k = g := he
      subst he
      rcases hmine k hg0 with h | h
      · omega
      · exact hkm h
/-- An own slice is kept among the slices of the row. -/
theorem Holds.keepEl {e : Env} {a : Act} {w : World} {k n q len off T U m : Nat} {xs ys : List Value} {B : List Nat} {L : List (Value × List Value)} (hS : Holds C S e a w) (hn0 : S.res n = some (.ownV n T len xs off q)) (hq : S.res q = some (.own q U 1 m ys)) (hk : S.res k = some (.els C.w0 B L)) (hnq : n ≠ q) (hnk : n ≠ k) (hkq : q ≠ k) :
    (∃ a0 c, (e q).v = .slice a0 m c) ∧ Holds C ⟨S.t, (q, none) :: (n, some (.own n T 1 len (xs.set off (e q).v))) :: (k, some (.els C.w0 ((e q).v.ownBlock.toList ++ B) (((e q).v, ys) :: L))) :: S.h⟩ e a w := by
  have hown : w.ownsRow 0 U 1 (e q).v m ys := hS.res q _ hq
  have hlen : ys.length = m := by have := hown.1; omega
  subst hlen
  have hfs := fs_ownN hown
  refine ⟨by obtain ⟨_, a0, c, h, _⟩ := hfs; exact ⟨a0, c, h⟩, hS.defers, hS.size, hS.tmp, fun n' rr hn => ?_, fun n' rr hn hw b hb => ?_, fun n' m rr rr' hn hm hne hw b hb hb' => ?_, hS.frame⟩
  · rw [St.res_cons, St.res_cons, St.res_cons] at hn
    split at hn
    · cases hn
    · split at hn
      · obtain rfl := Option.some.inj hn
        have h9 : w.ownsRow 0 T 1 (e n).v len (xs.set off (e q).v) := hS.res n _ hn0
        exact h9
      · split at hn
        · obtain rfl := Option.some.inj hn
          obtain ⟨h1, h2⟩ := hS.res k _ hk
          refine ⟨fun b hb => ?_, fun p hp => ?_⟩
          · rcases List.mem_append.1 hb with hb | hb
            · exact (hown.lt b (Option.mem_toList.1 hb)).2
            · exact h1 b hb
          · rcases List.mem_cons.1 hp with rfl | hp
            · exact .inr ⟨fun b hb => List.mem_append_left _ (Option.mem_toList.2 hb), hfs⟩
            · rcases h2 p hp with h3 | ⟨h3, h4⟩
              · exact .inl h3
              · exact .inr ⟨fun b hb => List.mem_append_right _ (h3 b hb), h4⟩
        · exact hS.res n' rr hn
  · rw [St.res_cons, St.res_cons, St.res_cons] at hn
    split at hn
    · cases hn
    · split at hn
      · obtain rfl := Option.some.inj hn
        exact hS.mine n _ hn0 rfl b hb
      · split at hn
        · obtain rfl := Option.some.inj hn; cases hw
        · exact hS.mine n' rr hn hw b hb
  · have old : ∀ (p : Nat) (r1 : Res), (St.mk S.t ((q, none) :: (n, some (.own n T 1 len (xs.set off (e q).v))) :: (k, some (.els C.w0 ((e q).v.ownBlock.toList ++ B) (((e q).v, ys) :: L))) :: S.h)).res p = some r1 → p ≠ q ∧ ((p = k ∧ r1 = .els C.w0 ((e q).v.ownBlock.toList ++ B) (((e q).v, ys) :: L)) ∨ (p ≠ k ∧ ∃ r2, S.res p = some r2 ∧ r2.wr = r1.wr ∧ ∀ x, r2.foot e x ↔ r1.foot e x)) := fun p r1 hp => by
      rw [St.res_cons, St.res_cons, St.res_cons] at hp
      split at hp
      · cases hp
      · rename_i hpq
        refine ⟨Ne.symm hpq, ?_⟩
        split at hp
        · rename_i hpn
          subst hpn
          obtain rfl := Option.some.inj hp
          exact .inr ⟨hnk, _, hn0, rfl, fun _ => Iff.rfl⟩
        · split at hp
          · rename_i hpk
            exact .inl ⟨hpk.symm, (Option.some.inj hp).symm⟩
          · rename_i hpk
            exact .inr ⟨Ne.symm hpk, r1, hp, rfl, fun _ => Iff.rfl⟩
    obtain ⟨p1, h1⟩ := old n' rr hn
    obtain ⟨p2, h2⟩ := old m rr' hm
    rcases h1 with ⟨rfl, rfl⟩ | ⟨k1, r1, g1, w1, f1⟩
    · cases hw
    · rcases h2 with ⟨rfl, rfl⟩ | ⟨k2, r2, g2, w2, f2⟩
      · rcases List.mem_append.1 hb' with hb' | hb'
        · exact hS.sep n' q r1 _ g1 hq p1 (w1.trans hw) b ((f1 b).2 hb) (Option.mem_toList.1 hb')
        · exact hS.sep n' m r1 _ g1 hk k1 (w1.trans hw) b ((f1 b).2 hb) hb'
      · exact hS.sep n' m r1 r2 g1 g2 hne (w1.trans hw) b ((f1 b).2 hb) ((f2 b).2 hb')
theorem triG_keepEl {k n q len off T U m : Nat} {xs ys : List Value} {B : List Nat} {L : List (Value × List Value)} {c : Code} (hn0 : S.res n = some (.ownV n T len xs off q)) (hq : S.res q = some (.own q U 1 m ys)) (hk : S.res k = some (.els C.w0 B L)) (hnq : n ≠ q) (hnk : n ≠ k) (hkq : q ≠ k)
    (h : ∀ (a0 : Option Addr) (cp : Nat) (B' : List Nat), TriG r ds C P ⟨S.t, (q, none) :: (n, some (.own n T 1 len (xs.set off (.slice a0 m cp)))) :: (k, some (.els C.w0 B' ((.slice a0 m cp, ys) :: L))) :: S.h⟩ c Q) : TriG r ds C P S c Q := fun e a w hS => by
  obtain ⟨⟨a0, cp, hu⟩, h1⟩ := hS.keepEl hn0 hq hk hnq hnk hkq
  rw [hu] at h1
  exact h a0 cp _ e a w h1
/-- One that lay there is told of, too. -/
theorem ents_el {k : Nat} {u : Value} {xs : List Value} {B : List Nat} {L : List (Value × List Value)} (hk : S.res k = some (.els C.w0 B L)) (hu : ∀ w', Below C.w0.heap.size C.w0 w' → FS w' 1 u xs.length xs) : Ents C S ⟨S.t, (k, some (.els C.w0 B ((u, xs) :: L))) :: S.h⟩ := fun e a w hS => by
  refine ⟨e, hS.defers, hS.size, hS.tmp, fun n rr hn => ?_, fun n rr hn hw b hb => ?_, fun n m rr rr' hn hm hne hw b hb hb' => ?_, hS.frame⟩
  · rw [St.res_cons] at hn
    split at hn
    · obtain rfl := Option.some.inj hn
      obtain ⟨h1, h2⟩ := hS.res k _ hk
      refine ⟨h1, fun p hp => ?_⟩
      rcases List.mem_cons.1 hp with rfl | hp
      · exact .inl hu
      · exact h2 p hp
    · exact hS.res n rr hn
  · rw [St.res_cons] at hn
    split at hn
    · obtain rfl := Option.some.inj hn; cases hw
    · exact hS.mine n rr hn hw b hb
  · rw [St.res_cons] at hn hm
    split at hn
    · obtain rfl := Option.some.inj hn; cases hw
    · rename_i n2
      split at hm
      · obtain rfl := Option.some.inj hm
        exact hS.sep n k rr _ hn hk (Ne.symm n2) hw b hb hb'
      · exact hS.sep n m rr rr' hn hm hne hw b hb hb'
/-- None yet. -/
theorem ents_el0 {k : Nat} (h0 : S.res k = none) : Ents C S ⟨S.t, (k, some (.els C.w0 [] [])) :: S.h⟩ := fun e a w hS => by
  refine ⟨e, hS.defers, hS.size, hS.tmp, fun n rr hn => ?_, fun n rr hn hw b hb => ?_, fun n m rr rr' hn hm hne hw b hb hb' => ?_, hS.frame⟩
  · rw [St.res_cons] at hn
    split at hn
    · obtain rfl := Option.some.inj hn
      exact ⟨fun b hb => (by cases hb), fun p hp => (by cases hp)⟩
    · exact hS.res n rr hn
  · rw [St.res_cons] at hn
    split at hn
    · obtain rfl := Option.some.inj hn; cases hw
    · exact hS.mine n rr hn hw b hb
  · rw [St.res_cons] at hn hm
    split at hn
    · obtain rfl := Option.some.inj hn; cases hw
    · split at hm
      · obtain rfl := Option.some.inj hm
        cases hb'
      · exact hS.sep n m rr rr' hn hm hne hw b hb hb'
theorem res_cell1 {fn : Func} {t : Tmp} {ty : TypeId} {n : Nat} {T : TypeId} {A : SA} {wr : Bool} {d : TypeDesc} {v : SV} (h : fn.results = #[.cell t ty]) (hv : S.tmp t = some (.p n 0)) (hr : S.res n = some (.blk n T A wr)) (hu' : tabLook undT ty = some d) (hda : d.isRow = false) (hA : ∀ e, (A.den e)[0]? = some (v.den e)) :
    ∀ e a w, Holds C S e a w → (results fn a.tmps).run Try.prog w = .ok (v.den e) w := fun e a w hS => by
  have hu := tabAll_look undT_ok hu'
  obtain ⟨fr, hb, _⟩ := res_blk hS hr
  have hp : a.tmps.getD t undef = .pointer (some ⟨(e n).b, 0, none⟩) := getD_of (hS.tmp t _ hv)
  have hp' : a.tmps[t]?.getD undef = .pointer (some ⟨(e n).b, 0, none⟩) := by simpa using hp
  have hc : w.cell? ⟨(e n).b, 0, none⟩ = some (v.den e) := (cell_of_row w _ 0 _ _ _ hb).trans (hA e)
  have hagg : (isAgg ty).run Try.prog w = .ok false w := by
    unfold isAgg
    rw [Sem.run_bind, run_underlying hu w]
    cases d <;> simp_all
  simp [results, h, hp', asAddr, loadVar, Sem.run_bind, hagg, hc]
end
end Go.Proofs.Ytcgmapioelfneaa
namespace Go.Proofs.Ytcgmapioelfneaa
open Go.RowKit
set_option maxRecDepth 100000
set_option maxHeartbeats 1000000
/-! ### how often each place lies in a leaf -/
def csum (f : Nat → Nat) (n : Nat) : Nat → Nat
  | 0 => 0
  | k + 1 => csum f n k + f (n - 1 - k)
theorem csum_part (f : Nat → Nat) (n : Nat) : ∀ k, k ≤ n → sumF f (List.range n) = sumF f (List.range (n - k)) + csum f n k
  | 0, _ => rfl
  | k + 1, h => by
    rw [csum_part f n k (by omega), csum, show n - k = (n - (k + 1)) + 1 by omega, sumF_range, show n - 1 - k = n - (k + 1) by omega]
    omega
theorem csum_all (f : Nat → Nat) (n : Nat) : csum f n n = sumF f (List.range n) := by
  rw [csum_part f n n (Nat.le_refl _), Nat.sub_self, List.range_zero]
  simp [sumF]
theorem csum_le {f : Nat → Nat} (hf : ∀ i, f i ≤ 1) (n : Nat) : ∀ k, csum f n k ≤ k
  | 0 => Nat.le_refl _
  | k + 1 => by
    have := csum_le hf n k
    have := hf (n - 1 - k)
    rw [csum]
    omega
def leafL (N : List NodeS) (n k : Nat) : List Nat := (List.range n).map fun q => csum (covF N q) N.length k
theorem leafL_len (N : List NodeS) (n k : Nat) : (leafL N n k).length = n := by simp [leafL]
theorem leafL_zero (N : List NodeS) (n : Nat) : leafL N n 0 = List.replicate n 0 := by
  unfold leafL
  apply List.ext_getElem
  · simp
  · intro i h1 h2
    simp [csum]
theorem leafL_le (N : List NodeS) (n k q : Nat) : (leafL N n k).getD q 0 ≤ k := by
  by_cases hq : q < n
  · unfold leafL
    rw [List.getD_eq_getElem?_getD, List.getElem?_map, List.getElem?_range hq, Option.map_some, Option.getD_some]
    exact csum_le (fun i => by unfold covF; split <;> omega) _ _
  · rw [List.getD_eq_getElem?_getD, List.getElem?_eq_none (by rw [leafL_len]; omega)]
    exact Nat.zero_le _
/-- One more at these places. -/
def addR (P : List Nat) (f j : Nat) : List Nat := (List.range P.length).map fun q => P.getD q 0 + if f ≤ q ∧ q < f + j then 1 else 0
theorem addR_len (P : List Nat) (f j : Nat) : (addR P f j).length = P.length := by simp [addR]
theorem addR_at (P : List Nat) (f j q : Nat) (hq : q < P.length) : (addR P f j)[q]? = some (P.getD q 0 + if f ≤ q ∧ q < f + j then 1 else 0) := by
  unfold addR
  rw [List.getElem?_map, List.getElem?_range hq]
  rfl
theorem addR_zero (P : List Nat) (f : Nat) : addR P f 0 = P := by
  apply List.ext_getElem?
  intro q
  by_cases hq : q < P.length
  · rw [addR_at P f 0 q hq, if_neg (by omega), List.getD_eq_getElem?_getD, List.getElem?_eq_getElem hq]
    rfl
  · rw [List.getElem?_eq_none (by rw [addR_len]; omega), List.getElem?_eq_none (by omega)]
theorem addR_next (P : List Nat) (f j : Nat) (h : f + j < P.length) : (addR P f j).set (f + j) (P.getD (f + j) 0 + 1) = addR P f (j + 1) := by
  apply List.ext_getElem?
  intro q
  by_cases hq : q < P.length
  · rw [addR_at P f _ q hq, List.getElem?_set]
    by_cases h1 : f + j = q
    · subst h1
      rw [if_pos rfl, if_pos (by rw [addR_len]; exact hq), if_pos (by omega)]
    · rw [if_neg h1, addR_at P f j q hq]
      by_cases h2 : f ≤ q ∧ q < f + j
      · rw [if_pos h2, if_pos (by omega)]
      · rw [if_neg h2, if_neg (by omega)]
  · rw [List.getElem?_eq_none (by rw [List.length_set, addR_len]; omega), List.getElem?_eq_none (by rw [addR_len]; omega)]
theorem leafL_leaf {N : List NodeS} {n k f c : Nat} (h1 : (nodeAt N (N.length - 1 - k)).left = -1) (h2 : (nodeAt N (N.length - 1 - k)).first = (f : Int)) (h3 : (nodeAt N (N.length - 1 - k)).count = (c : Int)) : leafL N n (k + 1) = addR (leafL N n k) f c := by
  apply List.ext_getElem?
  intro q
  by_cases hq : q < n
  · rw [addR_at _ _ _ q (by rw [leafL_len]; exact hq), List.getD_eq_getElem?_getD]
    unfold leafL
    rw [List.getElem?_map, List.getElem?_map, List.getElem?_range hq, Option.map_some, Option.map_some, csum, Option.getD_some]
    congr 1
    congr 1
    unfold covF
    rw [h1, h2, h3]
    by_cases h : f ≤ q ∧ q < f + c
    · rw [if_pos h, if_pos ⟨rfl, by omega, by omega⟩]
    · rw [if_neg h, if_neg (by omega)]
  · rw [List.getElem?_eq_none (by rw [leafL_len]; omega), List.getElem?_eq_none (by rw [addR_len, leafL_len]; omega)]
theorem leafL_fork {N : List NodeS} {n k L : Nat} (h1 : (nodeAt N (N.length - 1 - k)).left = (L : Int)) : leafL N n (k + 1) = leafL N n k := by
  unfold leafL
  apply List.map_congr_left
  intro q _
  rw [csum, covF, h1, if_neg (by omega)]
  rfl
/-! ### which were met -/
def boolsC (l : List Bool) : List Value := l.map Value.bool
theorem boolsC_set (l : List Bool) (i : Nat) (b : Bool) : (boolsC l).set i (.bool b) = boolsC (l.set i b) := by
  unfold boolsC
  rw [List.map_set]
theorem boolsC_get {l : List Bool} {i : Nat} {b : Bool} (h : l[i]? = some b) : (boolsC l)[i]? = some (.bool b) := by
  unfold boolsC
  rw [List.getElem?_map, h]
  rfl
theorem boolsC_made (n : Nat) : (madeCells #[Value.bool false] (n * 1)).toList = boolsC (List.replicate n false) := by
  unfold boolsC madeCells
  rw [List.map_replicate, Nat.mul_one, Array.toList_map, Array.toList_range]
  apply List.ext_getElem
  · simp
  · intro i h1 h2
    simp [Nat.mod_one]
def onceL (K : List Nat) (n j : Nat) : List Bool := (List.range n).map fun q => decide (q ∈ K.take j)
theorem onceL_zero (K : List Nat) (n : Nat) : onceL K n 0 = List.replicate n false := by
  unfold onceL
  apply List.ext_getElem
  · simp
  · intro i h1 h2
    simp
theorem onceL_get {K : List Nat} {n j k : Nat} (hp : K.Perm (List.range n)) (hk : K[j]? = some k) : k < n ∧ (onceL K n j)[k]? = some false ∧ (onceL K n j).set k true = onceL K n (j + 1) := by
  have hkn : k < n := List.mem_range.1 ((hp.mem_iff (a := k)).1 (List.mem_of_getElem? hk))
  have hnd : K.Nodup := hp.nodup_iff.2 List.nodup_range
  have hj := (List.getElem?_eq_some_iff.1 hk).1
  have htk : K.take (j + 1) = K.take j ++ [k] := by rw [List.take_add_one, hk]; rfl
  have hnot : k ∉ K.take j := fun h => by
    have h1 : (K.take (j + 1)).Nodup := hnd.sublist (List.take_sublist _ _)
    rw [htk, List.nodup_append] at h1
    exact h1.2.2 _ h _ (by simp) rfl
  refine ⟨hkn, ?_, ?_⟩
  · unfold onceL
    rw [List.getElem?_map, List.getElem?_range hkn, Option.map_some, decide_eq_false hnot]
  · unfold onceL
    apply List.ext_getElem?
    intro q
    rw [List.getElem?_set]
    by_cases hq : q < n
    · rw [List.getElem?_map, List.getElem?_map, List.getElem?_range hq, Option.map_some, Option.map_some, htk]
      by_cases h1 : k = q
      · subst h1
        rw [if_pos rfl, if_pos (by simpa using hq), decide_eq_true (by simp)]
      · rw [if_neg h1]
        congr 1
        exact decide_eq_decide.2 (by simp [Ne.symm h1])
    · rw [if_neg (by omega), List.getElem?_eq_none (by simp; omega), List.getElem?_eq_none (by simp; omega)]
/-! ### slices of slices -/
theorem nils_made (n : Nat) : (madeCells #[Value.slice none 0 0] (n * 1)).toList = List.replicate n (.slice none 0 0) := by
  unfold madeCells
  rw [Nat.mul_one, Array.toList_map, Array.toList_range]
  apply List.ext_getElem
  · simp
  · intro i h1 h2
    simp [Nat.mod_one]
theorem ordC_cut (K : List Nat) (f c : Nat) : ordC ((K.drop f).take c) = ((ordC K).drop f).take c := by
  unfold ordC
  rw [List.map_take, List.map_drop]
theorem concat2_any (dv : Value) (A B : List Nat) (w : World) (hv : SlcI w dv [A, B]) (hn : (A ++ B).length ≤ 100000) :
    Calls Try.prog 26 #[dv] w (RetOwn w 3 1 (A ++ B).length (ordC (A ++ B))) := by
  have e : [A, B].flatten = A ++ B := by simp
  have := concatI_any dv [A, B] w hv (by rw [e]; exact hn) (by simp)
  rwa [e] at this
theorem slc2_of {C : Ctx} {S S' : St} {e : Env} {a : Act} {w : World} {q k T : Nat} {wr : Bool} {uL uR : Value} {A A' B : List Nat} {L : List (Value × List Value)} (hq : S.res q = some (.blk q T (.l [.c uL, .c uR]) wr)) (hk : S.res k = some (.els C.w0 B L)) (hL : (uL, ordC A) ∈ L) (hR : (uR, ordC A') ∈ L) (hC : C.m = [])
    (hS : Holds C S' e a w) (hr : ∀ x ∈ [q, k], S'.res x = S.res x) : SlcI w (.slice (some ⟨(e q).b, 0, none⟩) 2 2) [A, A'] := by
  obtain ⟨fr, hb, _⟩ := res_blk hS ((hr q (by simp)).trans hq)
  obtain ⟨_, hel⟩ := hS.res k _ ((hr k (by simp)).trans hk)
  refine ⟨[uL, uR], ⟨rfl, some ⟨(e q).b, 0, none⟩, 2, rfl, .inr ⟨(e q).b, 0, rfl, fun j u hu => ?_⟩⟩, fun i d hd => ?_⟩
  · rw [cell_of_row w _ _ _ _ _ hb, Nat.zero_add]
    simpa [SA.l, SV.c] using hu
  · match i, hd with
    | 0, hd =>
      obtain rfl := Option.some.inj hd
      have := (hel _ hL).fs (hS.frame.below hC)
      rw [ordC_len] at this
      exact ⟨uL, rfl, this⟩
    | 1, hd =>
      obtain rfl := Option.some.inj hd
      have := (hel _ hR).fs (hS.frame.below hC)
      rw [ordC_len] at this
      exact ⟨uR, rfl, this⟩
end Go.Proofs.Ytcgmapioelfneaa
