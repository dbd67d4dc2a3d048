/- A tree made of triangles is sound: plain. No condition. A walk begun anew from a later world in which nothing that was made is written any more: own slices and blocks become given ones. No condition. The program's own looks at a tree: shaped, leaves: walked. No condition. Walks within a round of a range over a function, and behind one, over the same states. No condition. -/
import Derived.Test.YtcgmapioelfneaaMgWkC
import Derived.Test.YtcgmapioelfneaaSymX
import Derived.Test.YtcgmapioelfneaaMgSymY
import Derived.RangeFuncLeaves
import Derived.RangeFuncCalls
import Derived.RangeFuncRecord
import Derived.OrdersIn
import Derived.TacticsIn
import Derived.LoopNIn
namespace Go.Proofs.Ytcgmapioelfneaa
open Go.RowKit
set_option maxRecDepth 100000
set_option maxHeartbeats 1000000
def Tr.fst : Tr → Nat
  | .leaf _ f _ _ _ => f
  | .node _ _ _ L _ => L.fst
def Tr.cnt : Tr → Nat
  | .leaf _ _ c _ _ => c
  | .node _ _ _ L R => L.cnt + R.cnt
theorem nic_fst {l : List TriS} : ∀ (t : Tr) (f : Nat) (M : List Nat) (d : Nat), t.Nic l f M d → t.fst = f ∧ t.cnt = M.length
  | .leaf _ _ _ _ _, _, _, _, h => ⟨h.1.1, h.1.2.1⟩
  | .node _ _ _ L R, f, M, d, h => by
    obtain ⟨X, Y, rfl, h1, h2, _⟩ := h
    have a1 := nic_fst L _ _ _ h1
    have a2 := nic_fst R _ _ _ h2
    rw [Tr.fst, Tr.cnt, List.length_append, a1.1, a1.2, a2.2]
    exact ⟨rfl, rfl⟩
open Classical in
noncomputable def subT (N : List NodeS) (K : List Nat) (i : Nat) : Tr := if h : ∃ t : Tr, t.In N K ∧ t.ix = i then h.choose else .leaf 0 0 0 zP zP
theorem subT_of {N : List NodeS} {K : List Nat} {t : Tr} (h : t.In N K) : subT N K t.ix = t := by
  unfold subT
  have hx : ∃ t' : Tr, t'.In N K ∧ t'.ix = t.ix := ⟨t, h, rfl⟩
  rw [dif_pos hx]
  exact in_one _ _ hx.choose_spec.1 h hx.choose_spec.2
/-- A leaf, or a node that leads on. -/
def LeafN (l : List TriS) (K : List Nat) (n : NodeS) (f c : Nat) : Prop := n.left = -1 ∧ n.right = -1 ∧ n.first = (f : Int) ∧ n.count = (c : Int) ∧ 1 ≤ c ∧ f + c ≤ l.length ∧ (c ≤ 4 ∨ sameM l ((K.drop f).take c))
def ForkN (N : List NodeS) (i : Nat) (n : NodeS) (L R : Nat) : Prop := n.left = (L : Int) ∧ n.right = (R : Int) ∧ n.first = 0 ∧ n.count = 0 ∧ i < L ∧ i < R ∧ L < N.length ∧ R < N.length
structure SoundF (l : List TriS) (N : List NodeS) (K : List Nat) (M : Nat → List Nat) (D : Nat → Nat) : Prop where
  nodes : ∀ (i : Nat) (n : NodeS), N[i]? = some n → (∃ f c, LeafN l K n f c ∧ M i = (K.drop f).take c ∧ D i = 1) ∨ (∃ L R, ForkN N i n L R ∧ M i = M L ++ M R ∧ D i = 1 + max (D L) (D R))
  box : ∀ (i : Nat) (n : NodeS), N[i]? = some n → BBx l (M i) (n.lo, n.hi)
  small : ∀ (i : Nat) (n : NodeS), N[i]? = some n → smN n
  perm : K.Perm (List.range l.length)
  par : ∀ q, sumF (parF N q) (List.range N.length) = if q < N.length ∧ q ≠ 0 then 1 else 0
  cov : ∀ k, sumF (covF N k) (List.range N.length) = if k < l.length then 1 else 0
  nz : N.length = 0 ↔ l.length = 0
  nl : N.length ≤ 2 * l.length
  deep : D 0 ≤ 64
  deeps : ∀ i, D i ≤ 1000000
  sub : ∀ i, (M i).Sublist K
theorem sound_of (l : List TriS) (hnr : ∀ t ∈ l, nearT t) (h4 : l.length ≤ 4096) : ∃ M D, SoundF l (treeL l).1 (treeL l).2 M D := by
  by_cases h0 : 0 < l.length
  · obtain ⟨T, a1, a2, a3, a4, a5, a6, a7⟩ := nic_of l h0 hnr
    generalize (treeL l).1 = N at *
    generalize (treeL l).2 = K at *
    have hKl : K.length = l.length := by rw [a4.length_eq, List.length_range]
    have hnod : T.ixs.Nodup := a7.nodup_iff.2 List.nodup_range
    have hmem : ∀ j, j ∈ T.ixs ↔ j < N.length := fun j => (a7.mem_iff (a := j)).trans List.mem_range
    have hat : ∀ (i : Nat) (n : NodeS), N[i]? = some n → ∃ (t : Tr) (P M Q : List Nat) (d : Nat), t.ix = i ∧ t.In N K ∧ t.Nic l P.length M d ∧ K = P ++ (M ++ Q) ∧ (∀ j ∈ t.ixs, j < N.length) ∧ subT N K i = t ∧ (K.drop t.fst).take t.cnt = M := by
      intro i n hn
      obtain ⟨t, P, M, Q, d, h1, h2, h3, h4, h5⟩ := nic_at T [] K [] 1 i ((hmem i).2 (List.getElem?_eq_some_iff.1 hn).1) a1 a3 (by simp)
      obtain ⟨e1, e2⟩ := nic_fst t _ _ _ h3
      exact ⟨t, P, M, Q, d, h1, h2, h3, h4, fun j hj => (hmem j).1 (h5 j hj), by rw [← h1]; exact subT_of h2, by rw [e1, e2, h4, List.drop_left, List.take_left]⟩
    have hnic : ∀ (T : Tr) (f : Nat) (M : List Nat) (d : Nat), T.Nic l f M d → T.nodes ≤ 2 * M.length - 1 ∧ 1 ≤ M.length := by
      intro T
      induction T with
      | leaf i f c lo hi =>
        intro f0 M d h
        obtain ⟨⟨_, h2, h3, _⟩, _⟩ := h
        rw [Tr.nodes]
        omega
      | node i lo hi L R ihL ihR =>
        intro f0 M d h
        obtain ⟨X, Y, rfl, h1, h2, _⟩ := h
        have := ihL _ _ _ h1
        have := ihR _ _ _ h2
        rw [Tr.nodes, List.length_append]
        omega
    have hnodes : N.length ≤ 2 * l.length := by
      have := hnic T 0 K 1 a3
      omega
    refine ⟨fun i => (K.drop (subT N K i).fst).take (subT N K i).cnt, fun i => if i < N.length then (subT N K i).deep else 0, ⟨fun i n hn => ?_, fun i n hn => ?_, fun i n hn => a6 n (List.mem_of_getElem? hn), a4, fun q => ?_, fun k => ?_, ?_, hnodes, ?_, fun i => ?_, fun i => (List.take_sublist _ _).trans (List.drop_sublist _ _)⟩⟩
    · obtain ⟨t, P, M, Q, d, rfl, h2, h3, h4', h5, h6, h7⟩ := hat i n hn
      rw [h6, if_pos (List.getElem?_eq_some_iff.1 hn).1]
      cases t with
      | leaf i f c lo hi =>
        left
        have hh := Option.some.inj (hn.symm.trans h2.1)
        subst hh
        obtain ⟨⟨rfl, rfl, c1, _⟩, c2⟩ := h3
        refine ⟨P.length, M.length, ⟨rfl, rfl, rfl, rfl, c1, by rw [← hKl]; exact h2.2, ?_⟩, rfl, rfl⟩
        rw [show (K.drop P.length).take M.length = M by rw [h4', List.drop_left, List.take_left]]
        exact c2
      | node i lo hi L R =>
        right
        have hh := Option.some.inj (hn.symm.trans h2.1)
        subst hh
        have hcK : ∀ (t : Tr) (f : Nat) (X A B : List Nat) (d : Nat), t.Nic l f X d → K = A ++ (X ++ B) → f = A.length → (K.drop t.fst).take t.cnt = X := fun t f X A B d hN hK hf => by
          obtain ⟨e1, e2⟩ := nic_fst t _ _ _ hN
          rw [e1, e2, hf, hK, List.drop_left, List.take_left]
        obtain ⟨X, Y, rfl, b1, b2, b3, b4, b5, b6, b7⟩ := h3
        refine ⟨L.ix, R.ix, ⟨rfl, rfl, rfl, rfl, b4, b5, h5 _ (by simp [Tr.ixs, L.ix_mem]), h5 _ (by simp [Tr.ixs, R.ix_mem])⟩, ?_, ?_⟩
        · rw [h7, subT_of h2.2.1, subT_of h2.2.2, hcK L _ X P (Y ++ Q) _ b1 (by rw [h4']; simp) rfl, hcK R _ Y (P ++ X) Q _ b2 (by rw [h4']; simp) (by rw [List.length_append])]
        · rw [if_pos (h5 _ (by simp [Tr.ixs, L.ix_mem])), if_pos (h5 _ (by simp [Tr.ixs, R.ix_mem])), subT_of h2.2.1, subT_of h2.2.2]
          rfl
    · obtain ⟨t, P, M, Q, d, rfl, h2, h3, h4', h5, h6, h7⟩ := hat i n hn
      rw [h6, h7]
      cases t with
      | leaf i f c lo hi =>
        have hh := Option.some.inj (hn.symm.trans h2.1)
        subst hh
        exact h3.1.2.2.2
      | node i lo hi L R =>
        have hh := Option.some.inj (hn.symm.trans h2.1)
        subst hh
        obtain ⟨X, Y, rfl, _, _, b3, _⟩ := h3
        exact b3
    · rw [← sumF_perm a7, par_tree q T a1 hnod, a2]
      by_cases hq : q ∈ T.ixs ∧ q ≠ 0
      · rw [if_pos hq, if_pos ⟨(hmem q).1 hq.1, hq.2⟩]
      · rw [if_neg hq, if_neg fun hh => hq ⟨(hmem q).2 hh.1, hh.2⟩]
    · rw [← sumF_perm a7, cov_tree k T 0 K 1 a1 a3, hKl]
      by_cases hk : k < l.length
      · rw [if_pos hk, if_pos (by omega)]
      · rw [if_neg hk, if_neg (by omega)]
    · have : 0 < N.length := by
        have := (hmem T.ix).1 T.ix_mem
        omega
      omega
    · have hs := subT_of a1
      rw [a2] at hs
      rw [hs]
      have := deep_early T 0 K 1 (by omega) a3 (by omega)
      split <;> omega
    · have hdn : ∀ t : Tr, t.deep ≤ t.nodes := fun t => by
        induction t with
        | leaf i f c lo hi => exact Nat.le_refl _
        | node i lo hi L R ihL ihR => rw [Tr.deep, Tr.nodes]; omega
      split
      · obtain ⟨n, hn⟩ : ∃ n, N[i]? = some n := ⟨_, List.getElem?_eq_getElem (by assumption)⟩
        obtain ⟨t, P, M, Q, d, rfl, h2, h3, h4', h5, h6, h7⟩ := hat i n hn
        rw [h6]
        have h8 := hnic t _ _ _ h3
        have h9 : K.length = P.length + (M.length + Q.length) := by rw [h4', List.length_append, List.length_append]
        have := hdn t
        omega
      · omega
  · obtain rfl := List.eq_nil_of_length_eq_zero (show l.length = 0 by omega)
    exact ⟨fun _ => [], fun _ => 0, fun i n hn => (by cases i <;> cases hn), fun i n hn => (by cases i <;> cases hn), fun i n hn => (by cases i <;> cases hn), List.Perm.refl _, fun q => rfl, fun k => rfl, Iff.rfl, Nat.le_refl _, by decide, fun i => Nat.zero_le _, fun i => List.nil_sublist _⟩
end Go.Proofs.Ytcgmapioelfneaa
namespace Go.Proofs.Ytcgmapioelfneaa
open Go.RowKit
set_option maxRecDepth 100000
set_option maxHeartbeats 1000000
/-- All values as they are now. -/
def closeT (e : Env) (t : List (Nat × SV)) : List (Nat × SV) := t.map fun p => (p.1, SV.c (p.2.den e))
theorem look_closeT (e : Env) (i : Nat) : ∀ t : List (Nat × SV), look (closeT e t) i = (look t i).map fun v => SV.c (v.den e)
  | [] => rfl
  | (j, x) :: l => by
    show look ((j, SV.c (x.den e)) :: closeT e l) i = _
    rw [look_cons, look_cons, look_closeT e i l]
    split <;> rfl
section
variable {C : Ctx} {S : St}
theorem tri_close {P : Program} {c : Code} {Q : Exit → Act → World → Prop} (hm : C.m = []) (h : ∀ (e : Env) (w : World), Below C.w0.heap.size C.w0 w → (∀ n r, S.res n = some r → r.ok e w) → Tri ⟨C.nt, w, []⟩ P ⟨closeT e S.t, []⟩ c Q) : Tri C P S c Q := fun e a w hS => by
  refine h e w (hS.frame.below hm) hS.res e a w ⟨hS.defers, hS.size, fun i v hv => ?_, fun n r hr => (by cases hr), fun n r hr => (by cases hr), fun n m r r' hr => (by cases hr), ⟨rfl, rfl, rfl, Nat.le_refl _, fun _ _ _ => rfl⟩⟩
  have hv : look (closeT e S.t) i = some v := hv
  rw [look_closeT] at hv
  cases hl : look S.t i with
  | none => rw [hl] at hv; cases hv
  | some u =>
    rw [hl] at hv
    obtain rfl := Option.some.inj hv
    exact hS.tmp i u hl
end
theorem below_andThen {w w' w'' : World} (h : Below w.heap.size w w') (h' : Below w'.heap.size w' w'') : Below w.heap.size w w'' :=
  ⟨h'.os.trans h.os, h'.tape.trans h.tape, h'.output.trans h.output, Nat.le_trans h.size h'.size, fun k hk => (h'.block k (Nat.lt_of_lt_of_le hk h.size)).trans (h.block k hk)⟩
theorem FS.anew {w w' : World} {size : Nat} {v : Value} {n : Nat} {xs : List Value} (h : FS w size v n xs) (hs : 0 < size) (hb : Below w.heap.size w w') : FS w' size v n xs := h.later hs hb.block
theorem fs_ownN {w : World} {T size len : Nat} {v : Value} {xs : List Value} (h : w.ownsRow 0 T size v len xs) : FS w size v len xs := by
  refine ⟨⟨h.1, ?_⟩, ?_⟩
  · rcases h.2 with ⟨h1, h2⟩ | ⟨g, cap, cur, h1, _, h3, _, _, _, h4⟩
    · exact ⟨none, 0, by rw [h1, h2], .inl h2⟩
    · refine ⟨some ⟨g, 0, none⟩, cap, h1, .inr ⟨g, 0, rfl, fun j u hu => ?_⟩⟩
      have := h.cells (g := g) (by rw [h1]; rfl) j u hu
      rwa [add_place] at this
  · rcases h.2 with ⟨h1, h2⟩ | ⟨g, cap, cur, h1, _, h3, hle, _, _, h4⟩
    · exact ⟨none, 0, by rw [h1, h2], by omega⟩
    · exact ⟨_, cap, h1, hle⟩
/-- A block, told as a slice of one row. -/
def blkV (b : Nat) : Value := .slice (some ⟨b, 0, none⟩) 1 1
theorem fs_blkN {e : Env} {w : World} {n T : Nat} {A : SA} {cells : Array Value} (h : (Res.blk n T A).ok e w) (hA : A.den e = cells) : FS w cells.size (blkV (e n).b) 1 cells.toList := by
  obtain ⟨fr, h1, _⟩ := h
  rw [hA] at h1
  refine ⟨⟨by simp, some ⟨(e n).b, 0, none⟩, 1, rfl, .inr ⟨(e n).b, 0, rfl, fun j u hu => ?_⟩⟩, some ⟨(e n).b, 0, none⟩, 1, rfl, Nat.le_refl 1⟩
  rw [Nat.zero_add]
  refine (cell_of_row w (e n).b j cells T fr h1).trans ?_
  rw [← Array.getElem?_toList]; exact hu
/-- The end of a walk that was begun anew. -/
theorem fin_anew {S : St} {u : Value} {V : SV} {w0 w1 : World} {n : Nat} (hb : Below w0.heap.size w0 w1) (h : ∀ e, V.den e = u) : ∀ e a w, Holds ⟨n, w1, []⟩ S e a w → (fun r w' => r = Ending.returned u ∧ Below w0.heap.size w0 w') (.returned (V.den e)) w := fun e a w hS =>
  ⟨by rw [h e], below_andThen hb (hS.frame.below rfl)⟩
end Go.Proofs.Ytcgmapioelfneaa
namespace Go.Proofs.Ytcgmapioelfneaa
open Go.RowKit
set_option maxRecDepth 100000
set_option maxHeartbeats 2000000
theorem node_row {N : List NodeS} {i : Nat} {n : NodeS} (h : N[i]? = some n) : ((nodesC N).drop (0 + i * 10)).take 10 = nodeC n := by
  rw [Nat.zero_add]
  exact flat_row (sz := 10) (f := nodeC) N (fun _ _ => nodeC_length _) i n h
theorem nodeC_row (lx ly lz hx hy hz : Int) (a b c d : Int) : nodeC ⟨⟨lx, ly, lz⟩, ⟨hx, hy, hz⟩, a, b, c, d⟩ = [.int .i64 lx, .int .i64 ly, .int .i64 lz, .int .i64 hx, .int .i64 hy, .int .i64 hz, .int .i64 a, .int .i64 b, .int .i64 c, .int .i64 d] := rfl
attribute [local irreducible] Calls Walk1 WalkTo Tri EndA
theorem shaped_any {l : List TriS} {N : List NodeS} {K : List Nat} {M : Nat → List Nat} {D : Nat → Nat} (hS : SoundF l N K M D) (hN : N.length ≤ 1000000) (v1 v2 : Value) (w : World) (hv1 : FS w 10 v1 N.length (nodesC N)) :
    Calls Try.prog 23 #[.agg #[v1, v2]] w fun e w' => e = .returned (.bool true) ∧ Below w.heap.size w w' := by
  have hlen := nodes_len N
  have hnode := hS.nodes
  have hrows := fun (i : Nat) (n : NodeS) (h : N[i]? = some n) => node_row h
  generalize hNC : nodesC N = NC at *
  refine calls_tri Try.func23 rfl Try.ntmps23 rfl ?_
  repeat (first | (show Walk1 _ _ _ (_ :: _) _ _; first | (show HW1 (.move _); refine wz40 ?_) | (show HW1 (.assign _); refine wz2 ?_) | (show HW1 (.load _ _); refine wz3 ?_) | (show HW1 (.box _ _); refine wz11 ?_) | (show HW1 (.fieldAddr _ _ _); refine wz4 ?_) | (show HW1 (.call ⟨.builtin .len, _, _⟩); refine wz27 ?_)) | refine go1 ?_ | refine end_block_other rfl ?_ | refine end_scope (fun _ h => by cases h) ?_ | (refine walk_endD ?_ ?_; (· kernel_rfl)) | refine tri_yesA rfl ?_ | refine tri_noA rfl ?_ | refine tri_trueA rfl ?_ | refine tri_falseA rfl ?_)
  refine tri_loop (X := Nat) (fun i => ⟨[(9, SV.c (.int .i64 ((i : Nat) : Int))), (8, SV.c (.int .i64 ((N.length : Nat) : Int))), (7, .c v1), (1, .p 1 0), (2, .c (.bool false))], [(1, some (.blk 1 27 (.c #[v1, v2])))]⟩)
    (fun i => i ≤ N.length) (fun i => N.length - i) 0 (by omega) (by exact ent_kp) ?_
  intro i hi Q next
  by_cases h : i < N.length
  · obtain ⟨nd, hnd⟩ : ∃ nd, N[i]? = some nd := ⟨_, List.getElem?_eq_getElem h⟩
    have hrow := hrows i nd hnd
    have hrl : 0 + i * 10 + 10 ≤ NC.length := by omega
    have nx := fun S' => next S' (i + 1)
    have hk := hnode i nd hnd
    clear hnode hrows next
    obtain ⟨⟨lx, ly, lz⟩, ⟨hx, hy, hz⟩, le, ri, fi, co⟩ := nd
    rw [nodeC_row] at hrow
    rcases hk with ⟨f, c, ⟨e1, e2, e3, e4, _⟩, _⟩ | ⟨L, R, ⟨e1, e2, e3, e4, c1, c2, c3, c4⟩, _⟩
    all_goals
      dsimp only at e1 e2 e3 e4
      subst e1 e2 e3 e4
      repeat (first | (show Walk1 _ _ _ (_ :: _) _ _; first | (show Walk1 _ _ _ (⟨_, _, _, _, _, some _⟩ :: _) _ _; first | refine zy1 ?_ | refine zn1 ?_ | refine zu1 ?_) | (show HW1 (.move _); refine wz1 ?_) | (show HW1 (.assign _); refine wz2 ?_) | (show HW1 (.binOp .add _ _ _ _); refine wz10 ?_) | (show HW1 (.binOp .lss _ _ _ _); refine wz5 ?_) | (show HW1 (.binOp .leq _ _ _ _); refine wz64 ?_) | (show HW1 (.binOp .geq _ _ _ _); refine wz70 ?_) | (show HW1 (.binOp .eql _ _ _ _); refine wz18 ?_) | (show HW1 (.pick _ _ _); first | refine wz8 ?_ | refine wz7 ?_) | (show HW1 (.unOp _ _ _); refine wz19 ?_) | (show HW1 (.indexAddr _ _ _); refine wz26 ?_) | (show HW1 (.load _ _); first | refine wz3 ?_ | refine wz51 ?_) | (show HW1 (.store _ _ _); refine wz14 ?_) | (show HW1 (.alloc _); refine wz6 ?_) | (show HW1 (.fieldAddr _ _ _); refine wz4 ?_) | (show HW1 (.call ⟨.builtin .len, _, _⟩); refine wz27 ?_) | (show HW1 (.call ⟨.builtin .min, _, _⟩); refine walk1_t (op_minN rfl evn evn) ?_) | (show HW1 (.call ⟨.builtin .max, _, _⟩); refine walk1_t (op_maxN rfl evn evn) ?_)) | refine go1 ?_ | refine end_block_other rfl ?_ | refine end_scope (fun _ h => by cases h) ?_ | (refine walk_endD ?_ ?_; (· kernel_rfl)) | refine tri_yesA rfl ?_ | refine tri_noA rfl ?_ | refine tri_trueA rfl ?_ | refine tri_falseA rfl ?_)
      exact nx _ (by omega) (by omega) (by exact ent_kp)
  · obtain rfl : i = N.length := by omega
    repeat (first | (show Walk1 _ _ _ (_ :: _) _ _; first | (show HW1 (.assign _); refine wz2 ?_) | (show HW1 (.binOp .lss _ _ _ _); refine wz5 ?_)) | refine go1 ?_ | refine end_block_other rfl ?_ | refine end_scope (fun _ h => by cases h) ?_ | (refine walk_endD ?_ ?_; (· kernel_rfl)) | refine tri_yesA rfl ?_ | refine tri_noA rfl ?_ | refine tri_trueA rfl ?_ | refine tri_falseA rfl ?_)
    refine end_ret (.c (.bool true)) (res_tmp rfl rfl) ?_
    exact fin_below fun _ => rfl
/-- The leaves among the first nodes. -/
def leavesL (N : List NodeS) (j : Nat) : List Nat := (List.range j).filter fun i => decide ((nodeAt N i).left = -1)
theorem leaves_step (N : List NodeS) (j : Nat) : leavesL N (j + 1) = leavesL N j ++ (if (nodeAt N j).left = -1 then [j] else []) := by
  unfold leavesL
  rw [List.range_succ, List.filter_append, List.filter_cons, List.filter_nil]
  simp only [decide_eq_true_eq]
theorem ordC_app (a b : List Nat) : ordC (a ++ b) = ordC a ++ ordC b := List.map_append
theorem leaves_any {l : List TriS} {N : List NodeS} {K : List Nat} {M : Nat → List Nat} {D : Nat → Nat} (hS : SoundF l N K M D) (hN : N.length ≤ 1000000) (v1 v2 : Value) (w : World) (hv1 : FS w 10 v1 N.length (nodesC N)) :
    Calls Try.prog 14 #[.agg #[v1, v2]] w (RetOwn w 3 1 (leavesL N N.length).length (ordC (leavesL N N.length))) := by
  have cS := fun w h => shaped_any hS hN v1 v2 w h
  have hlen := nodes_len N
  have hnode := hS.nodes
  have hrows := fun (i : Nat) (n : NodeS) (h : N[i]? = some n) => node_row h
  have hat := fun (i : Nat) (n : NodeS) (h : N[i]? = some n) => nodeAt_of h
  have hle : ∀ j, (leavesL N j).length ≤ j := fun j => by
    refine Nat.le_trans (List.length_filter_le _ _) ?_
    rw [List.length_range]; omega
  obtain ⟨LC, hLC⟩ : ∃ f : Nat → List Value, ∀ j, f j = ordC (leavesL N j) := ⟨_, fun _ => rfl⟩
  obtain ⟨LN, hLN⟩ : ∃ f : Nat → Nat, ∀ j, f j = (leavesL N j).length := ⟨_, fun _ => rfl⟩
  have hst : ∀ j, LC (j + 1) = LC j ++ (if (nodeAt N j).left = -1 then [.int .i64 ((j : Nat) : Int)] else []) ∧ LN (j + 1) = LN j + (if (nodeAt N j).left = -1 then 1 else 0) := fun j => by
    rw [hLC, hLC, hLN, hLN, leaves_step, ordC_app, List.length_append]
    split <;> exact ⟨rfl, rfl⟩
  have hL0 : LC 0 = [] := hLC 0
  have hN0 : LN 0 = 0 := hLN 0
  rw [← hLC, ← hLN]
  simp only [← hLN] at hle
  clear hLC hLN hS
  generalize hNC : nodesC N = NC at *
  refine calls_tri Try.func14 rfl Try.ntmps14 rfl ?_
  repeat (first | (show Walk1 _ _ _ (_ :: _) _ _; first | (show HW1 (.move _); refine wz40 ?_) | (show HW1 (.assign _); refine wz2 ?_) | (show HW1 (.load _ _); refine wz3 ?_) | (show HW1 (.box _ _); refine wz11 ?_) | (show HW1 (.fieldAddr _ _ _); refine wz4 ?_) | (show HW1 (.call ⟨.builtin .len, _, _⟩); refine wz27 ?_)) | refine go1 ?_ | refine end_block_other rfl ?_ | refine end_scope (fun _ h => by cases h) ?_ | (refine walk_endD ?_ ?_; (· kernel_rfl)) | refine tri_yesA rfl ?_ | refine tri_noA rfl ?_ | refine tri_trueA rfl ?_ | refine tri_falseA rfl ?_)
  refine tri_ent (ent_nil (i := 3) (n := 3) 3 1 rfl (by kernel_rfl)) ?_
  refine tri_loop (X := Nat) (fun i => ⟨[(9, SV.c (.int .i64 ((i : Nat) : Int))), (8, SV.c (.int .i64 ((N.length : Nat) : Int))), (7, .c v1), (1, .p 1 0), (3, .v 3)], [(1, some (.blk 1 27 (.c #[v1, v2]))), (3, some (.own 3 3 1 (LN i) (LC i)))]⟩)
    (fun i => i ≤ N.length) (fun i => N.length - i) 0 (by omega) (by rw [hL0, hN0]; exact ent_keep (by repeat (first | exact hasT_nil | refine hasT_cons rfl ?_ | refine hasT_eq rfl (svi (by omega)) ?_)) (by repeat (first | exact hasR_nil | refine hasR_cons rfl ?_))) ?_
  intro i hi Q next
  by_cases h : i < N.length
  · obtain ⟨nd, hnd⟩ : ∃ nd, N[i]? = some nd := ⟨_, List.getElem?_eq_getElem h⟩
    have hrow := hrows i nd hnd
    have hrl : 0 + i * 10 + 10 ≤ NC.length := by omega
    have nx := fun S' => next S' (i + 1)
    obtain ⟨s1, s2⟩ := hst i
    rw [s1, s2, hat i nd hnd] at nx
    have hk := hnode i nd hnd
    have hi1 := hle i
    clear hnode hrows next hst s1 s2 hat hle
    generalize LC i = XC at *
    generalize LN i = XN at *
    obtain ⟨⟨lx, ly, lz⟩, ⟨hx, hy, hz⟩, le, ri, fi, co⟩ := nd
    rw [nodeC_row] at hrow
    rcases hk with ⟨f, c, ⟨e1, e2, e3, e4, _⟩, _⟩ | ⟨L, R, ⟨e1, e2, e3, e4, c1, c2, c3, c4⟩, _⟩
    · dsimp only at e1 e2 e3 e4 nx
      subst e1 e2 e3 e4
      rw [if_pos rfl, if_pos rfl] at nx
      repeat (first | (show Walk1 _ _ _ (_ :: _) _ _; first | (show Walk1 _ _ _ (⟨_, _, _, _, _, some _⟩ :: _) _ _; refine zy1 ?_) | (show HW1 (.move _); refine wz1 ?_) | (show HW1 (.assign _); refine wz2 ?_) | (show HW1 (.binOp .add _ _ _ _); refine wz10 ?_) | (show HW1 (.binOp .lss _ _ _ _); refine wz5 ?_) | (show HW1 (.binOp .eql _ _ _ _); refine wz18 ?_) | (show HW1 (.pick _ _ _); refine wz8 ?_) | (show HW1 (.indexAddr _ _ _); refine wz26 ?_) | (show HW1 (.load _ _); first | refine wz3 ?_ | refine wz9 ?_ | refine wz51 ?_) | (show HW1 (.store _ _ _); refine wz14 ?_) | (show HW1 (.alloc _); refine wz6 ?_) | (show HW1 (.fieldAddr _ _ _); refine wz4 ?_) | (show HW1 (.call ⟨.builtin .append, _, _⟩); refine wz122 ?_) | (show HW1 (.buildSlice _ _ _); refine wz85 ?_) | (show HW1 (.call ⟨.value (.func 23), _, _⟩); (refine cwalk1M 23 ?_; refine ⟨_, _, callM_1 (rdn_old hv1.rd (by omega) rfl) (fun e w h1 => cS w ⟨h1, hv1.2⟩), ?_⟩))) | refine go1 ?_ | refine end_block_other rfl ?_ | refine end_scope (fun _ h => by cases h) ?_ | (refine walk_endD ?_ ?_; (· kernel_rfl)) | refine tri_yesA rfl ?_ | refine tri_noA rfl ?_ | refine tri_trueA rfl ?_ | refine tri_falseA rfl ?_)
      exact nx _ (by omega) (by omega) (ent_ren (fun n => cond (Nat.beq n 3) 29 n) (by repeat (first | exact hasTm_nil | refine hasTm_cons rfl (fun _ => rfl) ?_)) (by repeat (first | exact hasRm_nil | refine hasRm_cons rfl (fun _ => rfl) (fun _ _ h => h) rfl ?_)) (by kernel_rfl))
    · dsimp only at e1 e2 e3 e4 nx
      subst e1 e2 e3 e4
      rw [if_neg (by omega), if_neg (by omega), List.append_nil, Nat.add_zero] at nx
      repeat (first | (show Walk1 _ _ _ (_ :: _) _ _; first | (show Walk1 _ _ _ (⟨_, _, _, _, _, some _⟩ :: _) _ _; refine zn1 ?_) | (show HW1 (.move _); refine wz1 ?_) | (show HW1 (.assign _); refine wz2 ?_) | (show HW1 (.binOp .add _ _ _ _); refine wz10 ?_) | (show HW1 (.binOp .lss _ _ _ _); refine wz5 ?_) | (show HW1 (.binOp .eql _ _ _ _); refine wz18 ?_) | (show HW1 (.pick _ _ _); refine wz7 ?_) | (show HW1 (.indexAddr _ _ _); refine wz26 ?_) | (show HW1 (.load _ _); first | refine wz3 ?_ | refine wz51 ?_) | (show HW1 (.store _ _ _); refine wz14 ?_) | (show HW1 (.alloc _); refine wz6 ?_) | (show HW1 (.fieldAddr _ _ _); refine wz4 ?_)) | refine go1 ?_ | refine end_block_other rfl ?_ | refine end_scope (fun _ h => by cases h) ?_ | (refine walk_endD ?_ ?_; (· kernel_rfl)) | refine tri_yesA rfl ?_ | refine tri_noA rfl ?_ | refine tri_trueA rfl ?_ | refine tri_falseA rfl ?_)
      exact nx _ (by omega) (by omega) (by exact ent_kp)
  · obtain rfl : i = N.length := by omega
    clear next cS hst hrows hnode
    repeat (first | (show Walk1 _ _ _ (_ :: _) _ _; first | (show HW1 (.move _); refine wz1 ?_) | (show HW1 (.assign _); refine wz2 ?_) | (show HW1 (.binOp .lss _ _ _ _); refine wz5 ?_)) | refine go1 ?_ | refine end_block_other rfl ?_ | refine end_scope (fun _ h => by cases h) ?_ | (refine walk_endD ?_ ?_; (· kernel_rfl)) | refine tri_yesA rfl ?_ | refine tri_noA rfl ?_ | refine tri_trueA rfl ?_ | refine tri_falseA rfl ?_)
    refine end_ret (.v 3) (res_tmp rfl rfl) ?_
    exact fin_own rfl
end Go.Proofs.Ytcgmapioelfneaa
namespace Go.Proofs.Ytcgmapioelfneaa
open Go.RowKit
set_option maxRecDepth 100000
set_option maxHeartbeats 1000000
/-- No bar but the round. -/
def fenR (r : Option Nat) : Fence := { Fence.wide with round := r }
def dfs (ds : List Deferred) (a : Act) : Act := { a with defers := ds }
/-- What is asked is asked of the frame without its deferred calls. -/
def liftQ (ds : List Deferred) (Q : Exit → Act → World → Prop) : Exit → Act → World → Prop := fun e a w => ∃ a0, a = dfs ds a0 ∧ Q e a0 w
def wpG (r : Option Nat) (ds : List Deferred) (c : Code) (P : Program) (Q : Exit → Act → World → Prop) (a : Act) (w : World) : Prop := c.wpIn (fenR r) 9 P (liftQ ds Q) (dfs ds a) w
section
variable {r : Option Nat} {ds : List Deferred} {P : Program} {Q Q' : Exit → Act → World → Prop} {a : Act} {w : World} {c x y : Code} {ops : Array Oper}
theorem wpG_seq (h : wpG r ds x P (Exit.then (fun a w => wpG r ds y P Q a w) Q) a w) : wpG r ds (.seq x y) P Q a w :=
  wpIn_seq (wpIn_mono h fun e a w ⟨a0, h1, h2⟩ => by
    subst h1
    cases e <;> first | exact h2 | exact ⟨a0, rfl, h2⟩)
theorem wpG_block {id : Nat} (h : wpG r ds c P (Exit.inBlock id Q) a w) : wpG r ds (.block id c) P Q a w :=
  wpIn_block (wpIn_mono h fun e a w ⟨a0, h1, h2⟩ => by
    subst h1
    cases e with
    | exit id' =>
      show if id' = id then _ else _
      have h2 : if id' = id then Q .normal a0 w else Q (.exit id') a0 w := h2
      split
      · rename_i hh; rw [if_pos hh] at h2; exact ⟨a0, rfl, h2⟩
      · rename_i hh; rw [if_neg hh] at h2; exact ⟨a0, rfl, h2⟩
    | _ => exact ⟨a0, rfl, h2⟩)
theorem wpG_skip (h : Q .normal a w) : wpG r ds .skip P Q a w := wpIn_skip ⟨a, rfl, h⟩
theorem wpG_label {l : Nat} (h : Q .normal a w) : wpG r ds (.label l) P Q a w := wpIn_label ⟨a, rfl, h⟩
theorem wpG_ret (h : Q .ret a w) : wpG r ds .ret P Q a w := wpIn_ret ⟨a, rfl, h⟩
theorem wpG_exit {id : Nat} (h : Q (.exit id) a w) : wpG r ds (.exit id) P Q a w := wpIn_exit ⟨a, rfl, h⟩
theorem wpG_cond {o : Operand} {t : Bool} (hc : a.eval o = .bool t) (ht : t = true → wpG r ds x P Q a w) (hf : t = false → wpG r ds y P Q a w) : wpG r ds (.cond o x y) P Q a w :=
  wpIn_cond_split (t := t) hc ht hf
theorem put_dfs (a : Act) (d : Option Tmp) (v : Value) : (dfs ds a).put d v = dfs ds (a.put d v) := by cases d <;> rfl
/-- No statement that defers. -/
def calmO (o : Oper) : Bool := match o.op with | .defer _ => false | _ => true
theorem sem_fen {o : Oper} (h : calmO o = true) (a : Act) : o.semAt (fenR r).round (dfs ds a).eval = execOp a.eval o := by
  cases r with
  | none => rfl
  | some l => exact Oper.semAt_some l _ _ fun c hc => by unfold calmO at h; rw [hc] at h; cases h
theorem callsG {f : FuncId} {args : Array Value} {R : Ending → World → Prop} {n : Nat} (h : Calls P f args w R) : CallsIn (fenR r) n P f args w R := by
  have : CallsIn Fence.wide n P f args w R := callsIn_wide.2 h
  exact this
theorem rowsG {row : String} {args : Array Value} {R : Value → World → Prop} {n : Nat} (h : Rows P row args w R) : RowsIn (fenR r) n P row args w R := fun c cs _ => by
  obtain ⟨v, w', h1, h2⟩ := h c cs
  exact ⟨v, w', h1, stepsIn_wide.2 h2⟩
theorem put_defers (a : Act) (d : Option Tmp) (v : Value) : (a.put d v).defers = a.defers := by cases d <;> rfl
theorem oper_in {n : Nat} {o : Oper} (hc : calmO o = true) {K : Act → World → Prop} (hK : ∀ a w, K a w → a.defers = []) {Q : Exit → Act → World → Prop} (h : o.wp P a w K (fun _ _ _ => False)) : o.wpIn (fenR r) n P (dfs ds a) w (fun a' w' => ∃ a0, a' = dfs ds a0 ∧ K a0 w') Q := by
  refine ⟨fun _ _ => trivial, ?_⟩
  rw [sem_fen hc]
  unfold Oper.wp at h
  generalize (execOp a.eval o).run P w = res at *
  cases res with
  | ok nx w' =>
    cases nx <;> simp only [Oper.upon, Oper.uponIn] at h ⊢ <;> first | exact h | skip
    case value v => exact ⟨_, put_dfs a _ _, h⟩
    case skip => exact ⟨_, put_dfs a _ _, h⟩
    case defer d => have := hK _ _ h; rw [put_defers] at this; cases this
    case enter f args =>
      refine ⟨fun hh => (by cases hh), callsG (Calls.mono h fun e w'' he => ?_)⟩
      cases e with
      | returned u => exact ⟨_, put_dfs a _ _, he⟩
      | panicked c => exact he.elim
      | outgrown => obtain ⟨_, _, hf⟩ := he; exact hf.elim
    case row rw args => exact ⟨fun hh => (by cases hh), rowsG (Rows.mono h fun v w'' hv => ⟨_, put_dfs a _ _, hv⟩)⟩
  | halt x w' => cases x <;> simp only [Oper.upon, Oper.uponIn] at h ⊢
end
section
variable {C : Ctx} {r : Option Nat} {ds : List Deferred} {P : Program} {Q Q' : Exit → Act → World → Prop} {S S' : St}
def TriG (r : Option Nat) (ds : List Deferred) (C : Ctx) (P : Program) (S : St) (c : Code) (Q : Exit → Act → World → Prop) : Prop := ∀ e a w, Holds C S e a w → wpG r ds c P Q a w
theorem triG_seq {x y : Code} (h : TriG r ds C P S x (Exit.then (fun a w => wpG r ds y P Q a w) Q)) : TriG r ds C P S (.seq x y) Q := fun e a w hS => wpG_seq (h e a w hS)
theorem endG_seq {y : Code} {Q' : Exit → Act → World → Prop} (h : TriG r ds C P S y Q) : EndA C S (Exit.then (fun a w => wpG r ds y P Q a w) Q' .normal) := h
theorem triG_skip (h : EndA C S (Q .normal)) : TriG r ds C P S .skip Q := fun e a w hS => wpG_skip (h e a w hS)
theorem triG_label {l : Nat} (h : EndA C S (Q .normal)) : TriG r ds C P S (.label l) Q := fun e a w hS => wpG_label (h e a w hS)
theorem triG_ret (h : EndA C S (Q .ret)) : TriG r ds C P S .ret Q := fun e a w hS => wpG_ret (h e a w hS)
theorem triG_exit {id : Nat} (h : EndA C S (Q (.exit id))) : TriG r ds C P S (.exit id) Q := fun e a w hS => wpG_exit (h e a w hS)
theorem triG_block {id : Nat} {c : Code} (h : TriG r ds C P S c (Exit.inBlock id Q)) : TriG r ds C P S (.block id c) Q := fun e a w hS => wpG_block (h e a w hS)
theorem triG_cond {c : Operand} {x y : Code} {b : Bool} (hc : S.ev c = some (.c (.bool b))) (ht : b = true → TriG r ds C P S x Q) (hf : b = false → TriG r ds C P S y Q) : TriG r ds C P S (.cond c x y) Q := fun e a w hS =>
  wpG_cond (t := b) (hS.ev hc) (fun h => ht h e a w hS) (fun h => hf h e a w hS)
theorem triG_ent (h : Ents C S S') {c : Code} (ht : TriG r ds C P S' c Q) : TriG r ds C P S c Q := fun e a w hS => let ⟨e', h'⟩ := h e a w hS; ht e' a w h'
theorem triG_keep (t : List (Nat × SV)) (h : List (Nat × Option Res)) {c : Code} (ht : HasT S t) (hr : HasR S h) (hc : TriG r ds C P ⟨t, h⟩ c Q) : TriG r ds C P S c Q := triG_ent (ent_keep ht hr) hc
theorem triG_yesA {c : Operand} {x y : Code} {p : Prop} [Decidable p] (hc : S.ev c = some (.c (.bool (decide p)))) (h : TriG r ds C P S x Q) (hp : p := by first | omega | (simp <;> fail) | assumption) : TriG r ds C P S (.cond c x y) Q := triG_cond hc (fun _ => h) (fun h2 => absurd hp (of_decide_eq_false h2))
theorem triG_noA {c : Operand} {x y : Code} {p : Prop} [Decidable p] (hc : S.ev c = some (.c (.bool (decide p)))) (h : TriG r ds C P S y Q) (hp : ¬ p := by first | omega | (simp <;> fail) | assumption) : TriG r ds C P S (.cond c x y) Q := triG_cond hc (fun h2 => absurd (of_decide_eq_true h2) hp) (fun _ => h)
theorem triG_trueA {c : Operand} {x y : Code} {b : Bool} (hc : S.ev c = some (.c (.bool b))) (h : TriG r ds C P S x Q) (hb : b = true := by first | with_reducible rfl | with_reducible exact Bool.not_false | with_reducible assumption) : TriG r ds C P S (.cond c x y) Q := triG_cond hc (fun _ => h) (fun h2 => by rw [hb] at h2; cases h2)
theorem triG_falseA {c : Operand} {x y : Code} {b : Bool} (hc : S.ev c = some (.c (.bool b))) (h : TriG r ds C P S y Q) (hb : b = false := by first | with_reducible rfl | with_reducible exact Bool.not_true | with_reducible assumption) : TriG r ds C P S (.cond c x y) Q := triG_cond hc (fun h2 => by rw [hb] at h2; cases h2) (fun _ => h)
theorem holds_calm {S : St} : ∀ a w, (∃ e, Holds C S e a w) → a.defers = [] := fun _ _ ⟨_, h⟩ => h.defers
theorem chain_listG {ops : Array Oper} : ∀ (l : List Oper) (S : St) (os : List OS) (S' : St), l.all calmO = true → Chain C P ops l S os S' → ∀ e a w, Holds C S e a w → (∀ e a w, Holds C S' e a w → Q .normal a w) → wpListIn (fenR r) 9 P ops (liftQ ds Q) l (dfs ds a) w
  | [], S, [], S', _, h, e, a, w, hS, hQ => by cases h; exact ⟨a, rfl, hQ e a w hS⟩
  | o :: l, S, os :: rr, S', hc, ⟨h, hf, ht⟩, e, a, w, hS, hQ => by
    rw [List.all_cons, Bool.and_eq_true] at hc
    have h1 := h S (fun _ _ => rfl) (fun _ _ => rfl) (fun n hn => freshB_spec (List.all_eq_true.1 hf n hn)) e a w hS
    unfold wpListIn
    rw [show (dfs ds a).tmps = a.tmps from rfl]
    split at h1
    · rename_i hw
      rw [if_pos hw]
      exact Oper.wpIn_mono (fun a' w' ⟨a0, ha, e', h'⟩ => by
        subst ha
        exact chain_listG l _ rr S' hc.2 ht e' a0 w' h' hQ) (oper_in hc.1 holds_calm h1)
    · rename_i hw
      rw [if_neg hw, put_dfs]
      obtain ⟨e', h'⟩ := h1
      exact ⟨fun _ _ => trivial, chain_listG l _ rr S' hc.2 ht e' _ w h' hQ⟩
  | [], _, _ :: _, _, _, h, _, _, _, _, _ => h.elim
  | _ :: _, _, [], _, _, h, _, _, _, _, _ => h.elim
theorem triG_reg {id : Nat} {l : List Oper} (h : Walk1 C P l.toArray l S fun S' => EndA C S' (Q .normal)) (hc : l.all calmO = true := by rfl) : TriG r ds C P S (.region id l.toArray false) Q := fun e a w hS => by
  obtain ⟨os, S', h1, h2⟩ := walk1_chain l S h
  exact wpIn_region_lit (chain_listG l S os S' hc h1 e a w hS h2)
end
section
variable {C : Ctx} {P : Program} {ops : Array Oper} {Q : Exit → Act → World → Prop}
theorem any_orderG {rd : Option Nat} {ds : List Deferred} {l : List Oper} {S S' : St} {r : List OS} (hch : Chain C P l.toArray l S r S') (hk : chk l r = true) (hca : l.all calmO = true) (hQ : ∀ e a w, Holds C S' e a w → Q .normal a w) :
    ∀ (fuel : Nat) (listed : Array Bool), listed.size = l.length → (listed.toList.countP (· == false)) = fuel → ClosedE (fun j => listed.getD j false) l → ∀ e a w, Holds C (folds r (fun j => listed.getD j false) 0 S) e a w →
      wpAnyIn (fenR rd) 9 P .any l.toArray (liftQ ds Q) fuel listed (dfs ds a) w := by
  intro fuel
  have hdown : downB l = true := by simp only [chk, Bool.and_eq_true] at hk; exact hk.1.1
  induction fuel with
  | zero =>
    intro listed hsz hcnt hE e a w hS
    have hall : ∀ i, i < l.length → listed.getD i false = true := by
      intro i hi
      rw [List.countP_eq_zero] at hcnt
      have := hcnt (listed[i]'(by omega)) (by simp)
      simp only [beq_false, Bool.not_eq_true', Bool.not_eq_false] at this
      simp only [Array.getD_eq_getD_getElem?, Array.getElem?_eq_getElem (show i < listed.size by omega), Option.getD_some]
      simpa using this
    refine ⟨?_, a, rfl, hQ e a w (hS.like ?_)⟩
    · unfold Region.ready
      rw [List.filter_eq_nil_iff]
      intro i hi
      have hi' : i < l.length := by simpa using hi
      have := hall i hi'
      have h2 : listed.getD i true = true := by
        simp only [Array.getD_eq_getD_getElem?, Array.getElem?_eq_getElem (show i < listed.size by omega), Option.getD_some] at this ⊢
        exact this
      simp [h2]
    · rw [chain_end 0 hch]
      have hlen := chain_len hch
      constructor
      · intro x
        rw [folds_tmp, folds_tmp]
        refine lastAt_congr _ _ _ _ _ fun j y hj => ?_
        have hjl : j < l.length := by have := (List.getElem?_eq_some_iff.1 hj).1; simp at this; omega
        simp only [Nat.zero_add, hall j hjl]
      · intro x
        rw [folds_res, folds_res]
        refine lastAt_congr _ _ _ _ _ fun j y hj => ?_
        have hjl : j < l.length := by have := (List.getElem?_eq_some_iff.1 hj).1; simp at this; omega
        simp only [Nat.zero_add, hall j hjl]
  | succ fuel ih =>
    intro listed hsz hcnt hE e a w hS
    refine ⟨fun hnil => ?_, fun i hi => ?_⟩
    · -- the first that was not taken is ready
      exfalso
      have hex : ∃ i, i < l.length ∧ listed.getD i true = false := by
        have : 0 < listed.toList.countP (· == false) := by omega
        rw [List.countP_pos_iff] at this
        obtain ⟨b, hb, hf⟩ := this
        obtain ⟨i, hi, he⟩ := List.getElem_of_mem hb
        have hi2 : i < listed.size := by simpa using hi
        refine ⟨i, by omega, ?_⟩
        have hb2 : b = false := by simpa using hf
        simp only [Array.getD_eq_getD_getElem?, Array.getElem?_eq_getElem hi2, Option.getD_some]
        rw [← hb2, ← he]; simp
      obtain ⟨i, ⟨hi, hif⟩, hmin⟩ := exists_least' (p := fun i => i < l.length ∧ listed.getD i true = false) hex
      have : i ∈ Region.ready .any l.toArray listed := by
        unfold Region.ready
        rw [List.mem_filter]
        refine ⟨by simpa using hi, ?_⟩
        have ho : l[i]? = some l[i] := List.getElem?_eq_getElem hi
        simp only [hif, Bool.not_false, Bool.true_and, List.getElem?_toArray, ho, Option.map_some, Option.getD_some]
        rw [← Array.all_toList, List.all_eq_true]
        intro x hx
        by_cases hb : Region.binds .any x = true
        · have hd := List.all_eq_true.1 hdown i (List.mem_range.2 hi)
          rw [ho] at hd
          have hlt := List.all_eq_true.1 hd x hx
          rw [hb] at hlt
          have hlt2 : x.on < i := by simpa [Nat.blt_eq] using hlt
          simp only [hb, Bool.not_true, Bool.false_or]
          cases hl : listed.getD x.on false with
          | true => rfl
          | false =>
            exfalso
            have h3 : listed.getD x.on true = false := by
              simp only [Array.getD_eq_getD_getElem?, Array.getElem?_eq_getElem (show x.on < listed.size by omega), Option.getD_some] at hl ⊢
              exact hl
            have := hmin x.on ⟨by omega, h3⟩
            omega
        · simp [hb]
      rw [hnil] at this
      cases this
    · unfold Region.ready at hi
      rw [List.mem_filter] at hi
      obtain ⟨hir, hi2⟩ := hi
      have hil : i < l.length := by simpa using hir
      have ho : l[i]? = some l[i] := List.getElem?_eq_getElem hil
      simp only [List.getElem?_toArray, ho, Option.map_some, Option.getD_some, Bool.and_eq_true, Bool.not_eq_true'] at hi2
      obtain ⟨hif, hed⟩ := hi2
      have hif2 : listed.getD i false = false := by
        simp only [Array.getD_eq_getD_getElem?, Array.getElem?_eq_getElem (show i < listed.size by omega), Option.getD_some] at hif ⊢
        exact hif
      rw [← Array.all_toList, List.all_eq_true] at hed
      have hed2 : ∀ x ∈ l[i].after.toList, Region.binds .any x = true → listed.getD x.on false = true := by
        intro x hx hb
        have := hed x hx
        rw [hb] at this
        simpa using this
      have h1 := step_any hch hk (fun j => listed.getD j false) hE ho hif2 hed2 hS
      have hset := listed_set (listed := listed) (i := i) (by omega)
      have hE2 : ClosedE (fun j => (listed.setIfInBounds i true).getD j false) l := by
        rw [hset]
        intro j o' ho' hj x hx hb
        simp only [Bool.or_eq_true, decide_eq_true_eq] at hj ⊢
        rcases hj with hj | rfl
        · exact .inl (hE j o' ho' hj x hx hb)
        · rw [ho] at ho'; cases ho'; exact .inl (hed2 x hx hb)
      have hcnt2 : (listed.setIfInBounds i true).toList.countP (· == false) = fuel := by
        rw [Array.toList_setIfInBounds, List.countP_set (by simp; omega)]
        have : listed.toList[i]'(by simp; omega) = false := by
          simp only [Array.getD_eq_getD_getElem?, Array.getElem?_eq_getElem (show i < listed.size by omega), Option.getD_some] at hif
          simpa using hif
        rw [this, hcnt]
        simp
      have next : ∀ e' a' w', Holds C (folds r (fun j => (listed.getD j false || decide (j = i))) 0 S) e' a' w' → wpAnyIn (fenR rd) 9 P .any l.toArray (liftQ ds Q) fuel (listed.setIfInBounds i true) (dfs ds a') w' := by
        intro e' a' w' h'
        rw [← hset] at h'
        exact ih _ (by simpa using hsz) hcnt2 hE2 e' a' w' h'
      unfold wpOpIn
      simp only [List.getElem?_toArray, ho]
      rw [show (dfs ds a).tmps = a.tmps from rfl]
      have hcal : calmO l[i] = true := List.all_eq_true.1 hca _ (List.getElem_mem hil)
      split at h1
      · rename_i hw
        rw [if_pos hw]
        exact Oper.wpIn_mono (fun a' w' ⟨a0, ha, e', h'⟩ => by
          subst ha
          exact next e' a0 w' h') (oper_in hcal holds_calm h1)
      · rename_i hw
        rw [if_neg hw, put_dfs]
        obtain ⟨e', h'⟩ := h1
        exact ⟨fun _ _ => trivial, next e' _ w h'⟩
theorem triG_draw0 {rd : Option Nat} {ds : List Deferred} {id : Nat} {l : List Oper} {S S' : St} {r : List OS} (hm : P.follows .mixedOrders = true) (h : Chain C P l.toArray l S r S') (hk : chk l r = true) (hca : l.all calmO = true) {e : Env} {a : Act} {w : World} (hS : Holds C S e a w) (hQ : ∀ e a w, Holds C S' e a w → Q .normal a w) :
    wpG rd ds (Code.region id l.toArray true) P Q a w := by
  refine wpIn_region_any hm ?_
  have h0 : folds r (fun j => (Array.replicate l.length false).getD j false) 0 S = S := by
    have : (fun j => (Array.replicate l.length false).getD j false) = fun j => decide (j < 0) := by
      funext j
      simp only [Array.getD_eq_getD_getElem?, Array.getElem?_replicate]
      split <;> simp
    rw [this]
    exact folds_lt r 0 0 S (Nat.le_refl _)
  have := any_orderG (rd := rd) (ds := ds) (Q := Q) h hk hca hQ l.length (Array.replicate l.length false) (by simp) (by simp [List.countP_replicate]) (by
    intro i o ho hi
    simp only [Array.getD_eq_getD_getElem?, Array.getElem?_replicate] at hi
    split at hi <;> cases hi) e a _ (by rw [h0]; exact hS.drew')
  simpa using this
theorem triG_draw {rd : Option Nat} {ds : List Deferred} {S : St} {id : Nat} {l : List Oper} (h : WalkTo C Try.prog l.toArray [] l S [] fun S' r => chk l r = true ∧ EndA C S' (Q .normal)) (hc : l.all calmO = true := by rfl) : TriG rd ds C Try.prog S (.region id l.toArray true) Q := fun e a w hS => by
  obtain ⟨r, S', h1, hk, hK⟩ := walk_chain [] l S [] h
  exact triG_draw0 mixed_ok h1 hk hc hS hK
end
/-! ### loops -/
section
variable {C : Ctx} {P : Program} {S : St} {Q : Exit → Act → World → Prop} {r : Option Nat} {ds : List Deferred}
theorem triG_loop {X : Type} (Inv : X → St) (I : X → Prop) (μ : X → Nat) (x0 : X) (h0 : I x0) (hS0 : Ents C S (Inv x0)) {body : Code}
    (round : ∀ x, I x → ∀ K : Act → World → Prop, (∀ (S' : St) (x' : X), I x' → μ x' < μ x → Ents C S' (Inv x') → EndA C S' K) → TriG r ds C P (Inv x) body (Exit.then K Q)) : TriG r ds C P S (.loop body) Q := by
  intro e a w hS
  obtain ⟨e0, h1⟩ := hS0 e a w hS
  have key : ∀ (n : Nat) (x : X), μ x < n → I x → ∀ e a w, Holds C (Inv x) e a w → Code.roundsIn (fenR r) 9 P body (liftQ ds Q) n (dfs ds a) w := by
    intro n
    induction n with
    | zero => intro x h; omega
    | succ n ih =>
      intro x hx hI e a w hS
      rw [roundsIn_succ]
      have := round x hI (fun a w => Code.roundsIn (fenR r) 9 P body (liftQ ds Q) n (dfs ds a) w) (fun S' x' hI' hlt hE e a w hS' => by
        obtain ⟨e', h'⟩ := hE e a w hS'
        exact ih x' (by omega) hI' e' a w h') e a w hS
      refine Code.wpIn_mono (fun e a w hq => ?_) this
      obtain ⟨a0, rfl, hq⟩ := hq
      cases e <;> first | exact hq | exact ⟨a0, rfl, hq⟩
  exact wpIn_loop_rounds _ (key (μ x0 + 1) x0 (by omega) h0 e0 a w h1)
end
section
variable {C : Ctx} {P : Program} {S : St} {Q Q' : Exit → Act → World → Prop} {x y c : Code} {id l : Nat} {r : Option Nat} {ds : List Deferred}
instance : Go1 (TriG r ds C P S (.seq x y) Q) (TriG r ds C P S x (Exit.then (fun a w => wpG r ds y P Q a w) Q)) := ⟨triG_seq⟩
instance : Go1 (TriG r ds C P S (.block id c) Q) (TriG r ds C P S c (Exit.inBlock id Q)) := ⟨triG_block⟩
instance : Go1 (TriG r ds C P S .skip Q) (EndA C S (Q .normal)) := ⟨triG_skip⟩
instance : Go1 (TriG r ds C P S (.label l) Q) (EndA C S (Q .normal)) := ⟨triG_label⟩
instance : Go1 (TriG r ds C P S .ret Q) (EndA C S (Q .ret)) := ⟨triG_ret⟩
instance : Go1 (TriG r ds C P S (.exit id) Q) (EndA C S (Q (.exit id))) := ⟨triG_exit⟩
instance (priority := high) : Go1 (EndA C S (Exit.then (fun a w => wpG r ds y P Q a w) Q' .normal)) (TriG r ds C P S y Q) := ⟨endG_seq⟩
end
end Go.Proofs.Ytcgmapioelfneaa
