/- What a walk's questions reckon: trees, and what is looked at: plain. No condition. A tree made: walked. No condition. -/
import Derived.Test.YtcgmapioelfneaaMgRecW0
import Derived.Test.YtcgmapioelfneaaMgWkC
namespace Go.Proofs.Ytcgmapioelfneaa
open Go.RowKit
set_option maxRecDepth 100000
set_option maxHeartbeats 1000000
/-- A tree, with the places of its nodes. -/
inductive Tr where
  | leaf (i f c : Nat) (lo hi : P3)
  | node (i : Nat) (lo hi : P3) (L R : Tr)
def Tr.ix : Tr → Nat
  | .leaf i _ _ _ _ => i
  | .node i _ _ _ _ => i
/-- The tree is what the nodes and the order say. -/
def Tr.In (N : List NodeS) (K : List Nat) : Tr → Prop
  | .leaf i f c lo hi => N[i]? = some ⟨lo, hi, -1, -1, (f : Int), (c : Int)⟩ ∧ f + c ≤ K.length
  | .node i lo hi L R => N[i]? = some ⟨lo, hi, (L.ix : Int), (R.ix : Int), 0, 0⟩ ∧ L.In N K ∧ R.In N K
def Tr.cost : Tr → Nat
  | .leaf _ _ c _ _ => 1 + c
  | .node _ _ _ L R => 1 + (L.cost + R.cost)
theorem Tr.cost_pos (t : Tr) : 1 ≤ t.cost := by cases t <;> unfold Tr.cost <;> omega
/-- What a walk has: its steps, and the best so far. -/
structure WSt where
  n : Nat
  i : Int
  m : M4
def WSt.up (s : WSt) : WSt := ⟨s.n + 1, s.i, s.m⟩
def lookW (l : List TriS) (o d : P3) (mask : BitVec 8) (skip : Int) (s : WSt) (k : Nat) : WSt := match l[k]? with
  | some t => if ((meetW o d mask skip k t).2 && (decide (s.i < 0) || (lessM (meetW o d mask skip k t).1 s.m || (decide ((k : Int) < s.i) && !lessM s.m (meetW o d mask skip k t).1)))) = true then ⟨s.n + 1, (k : Int), (meetW o d mask skip k t).1⟩ else ⟨s.n + 1, s.i, s.m⟩
  | none => ⟨s.n + 1, s.i, s.m⟩
def outW (o d lo hi : P3) (s : WSt) : Bool := !(spanP lo hi o d).2 || (decide (0 ≤ s.i) && decide (rlt (s.m.num, s.m.det) (spanP lo hi o d).1))
def Tr.vis (l : List TriS) (K : List Nat) (o d : P3) (mask : BitVec 8) (skip : Int) : Tr → WSt → WSt
  | .leaf _ f c lo hi, s => if outW o d lo hi s = true then s.up else ((K.drop f).take c).foldl (lookW l o d mask skip) s.up
  | .node _ lo hi L R, s => if outW o d lo hi s = true then s.up else R.vis l K o d mask skip (L.vis l K o d mask skip s.up)
end Go.Proofs.Ytcgmapioelfneaa
namespace Go.Proofs.Ytcgmapioelfneaa
open Go.RowKit
set_option maxRecDepth 100000
set_option maxHeartbeats 4000000
section
variable {C : Ctx}
theorem ent_ownR {t : List (Nat × SV)} {h : List (Nat × Option Res)} {i n q len sz : Nat} {T : TypeId} {A : Array Value} (hv : look t i = some (.s n 0 len len)) (hr : (St.mk t h).res n = some (.blk n T (.c A))) (hl : A.size = len * sz) (hf : freshB ⟨t, h⟩ q = true) (hmax : len ≤ 1099511627776) :
    Ents C ⟨t, h⟩ ⟨(i, .v q) :: t, (n, none) :: (q, some (.own q T sz len A.toList)) :: h⟩ := fun e a w hS => by
  have hfr := freshB_spec hf
  obtain ⟨V, hVe⟩ : ∃ V : Value, V = .slice (some ⟨(e n).b, 0, none⟩) len len := ⟨_, rfl⟩
  have h1 := hS.rename hfr ⟨0, 0, V⟩
  obtain ⟨fr, hb, hfr2⟩ := res_blk hS hr
  rw [hfr2 rfl] at hb
  have hqn : q ≠ n := fun he => hfr.2 n _ hr (by rw [he]; exact List.mem_cons_self)
  have hfoot : ∀ b, (Res.own q T sz len A.toList).foot (e.set q ⟨0, 0, V⟩) b → b = (e n).b := by
    intro b hb
    have hb : ((e.set q ⟨0, 0, V⟩) q).v.ownBlock = some b := hb
    rw [Env.set_self, hVe] at hb
    exact (Option.some.inj hb).symm
  have hfn : (Res.blk n T (.c A)).foot (e.set q ⟨0, 0, V⟩) (e n).b := by
    show (e n).b = ((e.set q ⟨0, 0, V⟩) n).b
    rw [Env.set_ne e _ (Ne.symm hqn)]
  refine ⟨e.set q ⟨0, 0, V⟩, h1.defers, h1.size, fun j v hj => ?_, fun m' r hm => ?_, fun m' r hm hw b hb => ?_, fun m' q' r r' hm hq hne hw b hb hb' => ?_, h1.frame⟩
  · have hj2 : look ((i, SV.v q) :: t) j = some v := hj
    rw [look_cons] at hj2
    by_cases e0 : i = j
    · rw [if_pos e0] at hj2
      have hj3 : SV.v q = v := by simpa using hj2
      subst hj3
      subst e0
      show a.tmps[i]? = some ((e.set q ⟨0, 0, V⟩) q).v
      rw [Env.set_self, hVe]
      exact hS.tmp i _ hv
    · rw [if_neg e0] at hj2
      exact h1.tmp j v hj2
  · rw [St.res_cons] at hm
    split at hm
    · cases hm
    · rw [St.res_cons] at hm
      split at hm
      · cases hm
        show w.ownsRow 0 T sz ((e.set q ⟨0, 0, V⟩) q).v len A.toList
        rw [Env.set_self, hVe]
        exact ⟨by rw [Array.length_toList, hl], .inr ⟨(e n).b, len, A, rfl, Nat.zero_le _, hb, Nat.le_refl _, by simp only [maxLen]; omega, hl, List.take_of_length_le (show A.toList.length ≤ len * sz from Nat.le_of_eq (by rw [Array.length_toList, hl]))⟩⟩
      · exact h1.res m' r hm
  · rw [St.res_cons] at hm
    split at hm
    · cases hm
    · rw [St.res_cons] at hm
      split at hm
      · cases hm
        rw [hfoot b hb]
        exact h1.mine n _ hr rfl _ hfn
      · exact h1.mine m' r hm hw b hb
  · rw [St.res_cons] at hm hq
    split at hm
    · cases hm
    · rename_i hm0
      split at hq
      · cases hq
      · rename_i hq0
        rw [St.res_cons] at hm hq
        split at hm
        · rename_i hm1
          cases hm
          split at hq
          · rename_i hq1; exact hne (hm1.symm.trans hq1)
          · rw [hfoot b hb] at hb'
            exact h1.sep n q' _ r' hr hq hq0 rfl _ hfn hb'
        · split at hq
          · cases hq
            rw [hfoot b hb'] at hb
            exact h1.sep n m' _ r hr hm hm0 rfl _ hfn hb
          · exact h1.sep m' q' r r' hm hq hne hw b hb hb'
end
theorem near_of {t : TriS} (h : farT t = false) : nearT t := by
  unfold farT at h
  rw [Bool.or_eq_false_iff, decide_eq_false_iff_not, decide_eq_false_iff_not] at h
  unfold nearT
  have h0 : ∀ k, axP (tbox t).1 k ≤ axP (tbox t).2 k := fun k => by
    have := boxP_le (ps := cornersT t) (p := t.p0) (by simp [cornersT]) k
    unfold tbox
    omega
  have h1 := h0 0
  have h2 := h0 1
  have h3 := h0 2
  simp only [axP, if_true, if_false, show ¬ (1 : Nat) = 0 by decide, show ¬ (2 : Nat) = 0 by decide, show ¬ (2 : Nat) = 1 by decide] at h1 h2 h3
  obtain ⟨ha, hb⟩ := h
  simp only [min3, max3] at ha hb
  generalize tbox t = B at *
  obtain ⟨⟨a, b, c⟩, ⟨a', b', c'⟩⟩ := B
  unfold smB
  dsimp only at *
  omega
theorem nodes_app (N N' : List NodeS) : nodesC (N ++ N') = nodesC N ++ nodesC N' := by simp [nodesC]
theorem nodes_set (N : List NodeS) (i : Nat) (hi : i < N.length) (n : NodeS) : (nodesC N).take (0 + i * 10) ++ nodeC n ++ (nodesC N).drop (0 + i * 10 + 10) = nodesC (N.set i n) := by
  have h1 := flat_cut N (fun n _ => nodeC_length n) i
  have h2 := flat_cut N (fun n _ => nodeC_length n) (i + 1)
  rw [Nat.zero_add]
  unfold nodesC
  rw [← h1.1, show i * 10 + 10 = (i + 1) * 10 by omega, ← h2.2, List.set_eq_take_append_cons_drop, if_pos hi, List.flatMap_append, List.flatMap_cons, List.append_assoc]
attribute [local irreducible] Calls Walk1 WalkTo Tri EndA
theorem build_any (l : List TriS) (hok : ∀ t ∈ l, t.ok) (h0 : 0 < l.length) (h4 : l.length ≤ 4096) (hfar : ∀ t ∈ l, farT t = false) (vl : Value) (w : World) (hvl : RdV w 19 vl l.length (trisC l)) :
    Calls Try.prog 7 #[vl] w (RetB w 43 10 (treeL l).1.length (nodesC (treeL l).1) 3 1 (treeL l).2.length (ordC (treeL l).2) (fun v1 v2 => #[v1, v2]) (.int .i64 0)) := by
  have hnr : ∀ t ∈ l, nearT t := fun t ht => near_of (hfar t ht)
  have hT : treeL l = ((runB l (2 * l.length) ⟨[zN], List.range l.length, [⟨0, 0, l.length, 1⟩]⟩).N, (runB l (2 * l.length) ⟨[zN], List.range l.length, [⟨0, 0, l.length, 1⟩]⟩).K) := by unfold treeL; rw [if_neg (by omega)]
  have hG := good_start l h0
  have cX := fun (ks : List Nat) h1 h2 vo w => bvhBox_any l hok ks h1 h2 vl vo w
  have cP := fun pre post ks N cap b h1 h2 h3 d w => part_any l hok hnr pre post ks N cap b h1 h2 h3 d vl w
  have hlen := tris_len l hok
  have cB := fun (t : TriS) (v : Value) (w : World) h => boxT_any v [t.p0, t.p1, t.p2] w h (by simp)
  have hrow : ∀ j t, l[j]? = some t → ((trisC l).drop (0 + j * 19)).take 19 = triC t := fun j t h => by
    rw [Nat.zero_add]
    exact flat_row (sz := 19) (f := triC) l (fun t ht => triC_length t (hok t ht)) j t h
  generalize hXS : trisC l = XS at *
  refine calls_tri Try.func7 rfl Try.ntmps7 rfl ?_
  repeat (first | (show Walk1 _ _ _ (_ :: _) _ _; first | (show HW1 (.move _); first | refine wz40 ?_ | refine wz1 ?_) | (show HW1 (.assign _); refine wz13 ?_) | (show HW1 (.binOp .gtr _ _ _ _); refine wz33 ?_) | (show HW1 (.alloc _); refine wz6 ?_) | (show HW1 (.call ⟨.builtin .len, _, _⟩); refine wz27 ?_)) | refine go1 ?_ | refine end_block_other rfl ?_ | refine end_scope (fun _ h => by cases h) ?_ | (refine walk_endD ?_ ?_; (· kernel_rfl)) | refine tri_yesA rfl ?_ | refine tri_noA rfl ?_ | refine tri_trueA rfl ?_ | refine tri_falseA rfl ?_)
  refine tri_loop (X := Nat) (fun j => ⟨[(24, SV.c (.int .i64 ((j : Nat) : Int))), (23, SV.c (.int .i64 ((l.length : Nat) : Int))), (22, .c vl), (2, .p 2 0), (3, .c (.int .i64 0)), (0, .c vl)], [(2, some (.blk 2 27 (.c #[.slice none 0 0, .slice none 0 0])))]⟩)
    (fun j => j ≤ l.length) (fun j => l.length - j) 0 (by omega) (by exact ent_kp) ?_
  intro j hj K next
  by_cases h : j < l.length
  · obtain ⟨t, htj⟩ : ∃ t, l[j]? = some t := ⟨_, List.getElem?_eq_getElem h⟩
    have hr := hrow j t htj
    have hlt : j * 19 + 19 ≤ XS.length := by rw [hlen]; omega
    have htok := hok t (List.mem_of_getElem? htj)
    have hf := hfar t (List.mem_of_getElem? htj)
    have c1 := fun v w h => cB t v w h
    have ht9 : ((triC t).toArray.toList.drop 0).take (ptsC [t.p0, t.p1, t.p2]).length = ptsC [t.p0, t.p1, t.p2] := by
      rw [triC]
      rfl
    have hts : (triC t).toArray.size = 19 := by rw [List.size_toArray]; exact triC_length t htok
    have hto : (triC t).toArray.all (·.oneCell') = true := by
      rw [List.all_toArray, List.all_eq_true]
      intro u hu
      rw [triC] at hu
      rcases List.mem_append.1 hu with hu | hu
      · simp [P9] at hu
        rcases hu with rfl | rfl | rfl | rfl | rfl | rfl | rfl | rfl | rfl <;> rfl
      · rcases List.mem_append.1 hu with hu | hu
        · exact htok.2 u hu
        · rw [List.mem_singleton] at hu
          rw [hu]
          rfl
    unfold farT tbox cornersT at hf
    rw [Bool.or_eq_false_iff, decide_eq_false_iff_not, decide_eq_false_iff_not] at hf
    obtain ⟨hf1, hf2⟩ := hf
    generalize boxP [t.p0, t.p1, t.p2] = F at *
    obtain ⟨⟨a, b, c⟩, ⟨a', b', c'⟩⟩ := F
    simp only [P3.c] at hf1 hf2 c1
    have nx := fun S' => next S' (j + 1)
    clear next hrow cB hXS
    generalize triC t = TC at *
    repeat (first | (show Walk1 _ _ _ (_ :: _) _ _; first | (show Walk1 _ _ _ (⟨_, _, _, _, _, some _⟩ :: _) _ _; refine zy1 ?_) | (show HW1 (.move _); refine wz1 ?_) | (show HW1 (.binOp .add _ _ _ _); refine wz10 ?_) | (show HW1 (.binOp .lss _ _ _ _); first | refine wz5 ?_ | refine wz12 ?_) | (show HW1 (.binOp .gtr _ _ _ _); refine wz21 ?_) | (show HW1 (.pick _ _ _); refine wz7 ?_) | (show HW1 (.indexAddr _ _ _); refine wz26 ?_) | (show HW1 (.load _ _); first | refine wz3 ?_ | refine wz51 ?_) | (show HW1 (.store _ _ _); first | refine wz23 ?_ | refine wz14 ?_) | (show HW1 (.alloc _); refine wz6 ?_) | (show HW1 (.fieldAddr _ _ _); refine wz4 ?_) | (show HW1 (.extract _ _); first | refine wz16 ?_ | refine wz15 ?_) | (show HW1 (.call ⟨.builtin .min, _, _⟩); refine wz73 ?_) | (show HW1 (.call ⟨.builtin .max, _, _⟩); refine wz74 ?_) | (show HW1 (.slice _ _ _ _ _); refine wz63 ?_) | (show HW1 (.call ⟨.value (.func 13), _, _⟩); (refine cwalk1M 13 ?_; refine ⟨_, _, callM_1 (rdn_part (n := 5) _ rfl ht9 rfl) (fun e w h1 => c1 _ w h1), ?_⟩))) | refine go1 ?_ | refine end_block_other rfl ?_ | refine end_scope (fun _ h => by cases h) ?_ | (refine walk_endD ?_ ?_; (· kernel_rfl)) | refine tri_yesA rfl ?_ | refine tri_noA rfl ?_ | refine tri_trueA rfl ?_ | refine tri_falseA rfl ?_)
    exact nx _ (by omega) (by omega) (by exact ent_kp)
  · obtain rfl : j = l.length := by omega
    clear next hrow cB hfar
    repeat (first | (show Walk1 _ _ _ (_ :: _) _ _; first | (show HW1 (.move _); first | refine wz40 ?_ | refine wz1 ?_) | (show HW1 (.binOp .lss _ _ _ _); refine wz5 ?_) | (show HW1 (.binOp .eql _ _ _ _); refine wz30 ?_) | (show HW1 (.alloc _); refine wz6 ?_) | (show HW1 (.call ⟨.builtin .len, _, _⟩); refine wz27 ?_)) | refine go1 ?_ | refine end_block_other rfl ?_ | refine end_scope (fun _ h => by cases h) ?_ | (refine walk_endD ?_ ?_; (· kernel_rfl)) | refine tri_yesA rfl ?_ | refine tri_noA rfl ?_ | refine tri_trueA rfl ?_ | refine tri_falseA rfl ?_)
    refine tri_ent (ent_nilG (n := 8) (q := 900) (T0 := 3) 1 (.l [.c (.slice none 0 0), .v 900]) rfl (fun e h => by simp only [SA.l, SV.c, SV.v, List.map_cons, List.map_nil, h]; rfl) rfl (by kernel_rfl)) ?_
    obtain ⟨K1, hK1⟩ : ∃ f : Nat → List Value, ∀ j, f j = (List.range j).map fun k => Value.int .i64 ((k : Nat) : Int) := ⟨_, fun _ => rfl⟩
    have hK0 : K1 0 = [] := by rw [hK1]; rfl
    have sK : ∀ j, K1 (j + 1) = K1 j ++ [.int .i64 ((j : Nat) : Int)] := fun j => by rw [hK1, hK1, List.range_succ, List.map_append]; rfl
    refine tri_loop (X := Nat) (fun j => ⟨[(60, SV.c (.int .i64 ((j : Nat) : Int))), (59, SV.c (.int .i64 ((l.length : Nat) : Int))), (8, .p 8 0), (2, .p 2 0), (3, .c (.int .i64 0)), (0, .c vl)], [(2, some (.blk 2 27 (.c #[.slice none 0 0, .slice none 0 0]))), (8, some (.blk 8 27 (.l [.c (.slice none 0 0), .v 900]))), (900, some (.own 900 3 1 j (K1 j)))]⟩)
      (fun j => j ≤ l.length) (fun j => l.length - j) 0 (by omega) (by rw [hK0]; exact ent_keep (by repeat (first | exact hasT_nil | refine hasT_cons rfl ?_ | refine hasT_eq rfl (svi (by omega)) ?_)) (by repeat (first | exact hasR_nil | refine hasR_cons rfl ?_))) ?_
    intro j hj K next
    by_cases h : j < l.length
    · have nx := fun S' => next S' (j + 1)
      rw [sK] at nx
      clear next hK0 sK hK1
      generalize K1 j = KL at *
      repeat (first | (show Walk1 _ _ _ (_ :: _) _ _; first | (show HW1 (.move _); refine wz1 ?_) | (show HW1 (.assign _); refine wz2 ?_) | (show HW1 (.binOp .add _ _ _ _); refine wz10 ?_) | (show HW1 (.binOp .lss _ _ _ _); refine wz5 ?_) | (show HW1 (.load _ _); refine wz3 ?_) | (show HW1 (.store _ _ _); refine wz97 ?_) | (show HW1 (.fieldAddr _ _ _); refine wz4 ?_) | (show HW1 (.call ⟨.builtin .append, _, _⟩); refine wz122 ?_) | (show HW1 (.buildSlice _ _ _); refine wz85 ?_)) | refine go1 ?_ | refine end_block_other rfl ?_ | refine end_scope (fun _ h => by cases h) ?_ | (refine walk_endD ?_ ?_; (· kernel_rfl)) | refine tri_yesA rfl ?_ | refine tri_noA rfl ?_ | refine tri_trueA rfl ?_ | refine tri_falseA rfl ?_)
      exact nx _ (by omega) (by omega) (ent_ren (fun n => cond (Nat.beq n 900) 67 n) (by repeat (first | exact hasTm_nil | refine hasTm_cons rfl (fun _ => rfl) ?_)) (by repeat (first | exact hasRm_nil | refine hasRm_cons rfl (fun _ => rfl) (fun _ _ h => h) rfl ?_)) (by kernel_rfl))
    · obtain rfl : j = l.length := by omega
      clear next hK0 sK
      generalize hKL : K1 l.length = KL at *
      have hKL2 : KL = (List.range l.length).map intV := by rw [← hKL, hK1]; rfl
      clear hKL hK1 K1
      subst hKL2
      repeat (first | (show Walk1 _ _ _ (_ :: _) _ _; first | (show HW1 (.binOp .lss _ _ _ _); refine wz5 ?_) | (show HW1 (.build _ _); refine wz32 ?_)) | refine go1 ?_ | refine end_block_other rfl ?_ | refine end_scope (fun _ h => by cases h) ?_ | (refine walk_endD ?_ ?_; (· kernel_rfl)) | refine tri_yesA rfl ?_ | refine tri_noA rfl ?_ | refine tri_trueA rfl ?_ | refine tri_falseA rfl ?_)
      refine walk1_n (op_bslice1 (A := SA.c #[.int .i64 0, .int .i64 0, .int .i64 0, .int .i64 0, .int .i64 0, .int .i64 0, .int .i64 0, .int .i64 0, .int .i64 0, .int .i64 0]) rfl rfl rfl rfl rfl rfl rfl rfl rfl rfl rfl (fun _ => rfl) (fun _ => rfl) rfl) (by kernel_rfl) ?_
      repeat (first | (show Walk1 _ _ _ (_ :: _) _ _; first | (show HW1 (.move _); refine wz1 ?_) | (show HW1 (.store _ _ _); refine wz50 ?_) | (show HW1 (.fieldAddr _ _ _); refine wz4 ?_) | (show HW1 (.call ⟨.builtin .len, _, _⟩); refine wz27 ?_)) | refine go1 ?_ | refine end_block_other rfl ?_ | refine end_scope (fun _ h => by cases h) ?_ | (refine walk_endD ?_ ?_; (· kernel_rfl)) | refine tri_yesA rfl ?_ | refine tri_noA rfl ?_ | refine tri_trueA rfl ?_ | refine tri_falseA rfl ?_)
      refine walk1_t (op_buildC (parts := [(0, .const (.int .i64 0)), (1, .const (.int .i64 0)), (2, .tmp 74), (3, .const (.int .i64 1))]) (vs := [.int .i64 0, .int .i64 0, .int .i64 (l.length : Int), .int .i64 1]) #[.int .i64 0, .int .i64 0, .int .i64 (l.length : Int), .int .i64 1] rfl rfl rfl rfl rfl rfl (by kernel_rfl) (by kernel_rfl)) ?_
      refine walk1_n (op_bslice1 (A := SA.c #[.int .i64 0, .int .i64 0, .int .i64 (l.length : Int), .int .i64 1]) rfl rfl rfl rfl rfl rfl rfl rfl rfl rfl rfl (fun _ => rfl) (fun _ => rfl) rfl) (by kernel_rfl) ?_
      repeat (first | (show Walk1 _ _ _ (_ :: _) _ _; (show HW1 (.assign _); refine wz2 ?_)) | refine go1 ?_ | refine end_block_other rfl ?_ | refine end_scope (fun _ h => by cases h) ?_ | (refine walk_endD ?_ ?_; (· kernel_rfl)) | refine tri_yesA rfl ?_ | refine tri_noA rfl ?_ | refine tri_trueA rfl ?_ | refine tri_falseA rfl ?_)
      refine tri_ent (ent_blkA 8 (.l [.s 71 0 1 1, .v 900]) rfl (fun _ => rfl)) ?_
      refine tri_ent (ent_ownB (n := 71) (m0 := 8) (q := 901) (len := 1) (sz := 10) (.l [.v 901, .v 900]) rfl rfl rfl rfl rfl (by omega) (fun e h => by simp only [SA.l, SV.s, SV.v, List.map_cons, List.map_nil, h])) ?_
      refine tri_ent (ent_ownR (i := 10) (n := 76) (q := 910) (len := 1) (sz := 4) rfl rfl rfl (by kernel_rfl) (by omega)) ?_
      obtain ⟨FIN, hFIN⟩ : ∃ s, s = runB l (2 * l.length) ⟨[zN], List.range l.length, [⟨0, 0, l.length, 1⟩]⟩ := ⟨_, rfl⟩
      rw [hT, ← hFIN]
      dsimp only
      clear hT
      refine tri_loop (X := BSt × Nat) (fun x => ⟨[(10, .v 910), (8, .p 8 0), (2, .p 2 0), (3, .c (.int .i64 0)), (0, .c vl)], [(2, some (.blk 2 27 (.c #[.slice none 0 0, .slice none 0 0]))), (8, some (.blk 8 27 (.l [.v 901, .v 900]))), (900, some (.own 900 3 1 l.length (x.1.K.map intV))), (901, some (.own 901 43 10 x.1.N.length (nodesC x.1.N))), (910, some (.own 910 53 4 x.1.S.length (todosC x.1.S)))]⟩)
        (fun x => GoodB l l.length x.1 ∧ muS x.1.S ≤ x.2 ∧ runB l x.2 x.1 = FIN) (fun x => muS x.1.S) (⟨[zN], List.range l.length, [⟨0, 0, l.length, 1⟩]⟩, 2 * l.length) ⟨hG, by simp [muS], hFIN.symm⟩ (by exact ent_kp) ?_
      clear hG hFIN
      rintro ⟨⟨N, K, S⟩, f⟩ ⟨hG, hmu, hrun⟩ KK next
      dsimp only at hG hmu hrun next ⊢
      rcases List.eq_nil_or_concat S with rfl | ⟨S0, t, rfl⟩
      · rw [runB_end] at hrun
        subst hrun
        dsimp only
        clear next cX cP
        have hKlen : K.length = l.length := hG.len
        rw [hKlen]
        repeat (first | (show Walk1 _ _ _ (_ :: _) _ _; first | (show HW1 (.move _); refine wz1 ?_) | (show HW1 (.binOp .gtr _ _ _ _); refine wz33 ?_) | (show HW1 (.load _ _); refine wz9 ?_) | (show HW1 (.call ⟨.builtin .len, _, _⟩); refine wz57 ?_)) | refine go1 ?_ | refine end_block_other rfl ?_ | refine end_scope (fun _ h => by cases h) ?_ | (refine walk_endD ?_ ?_; (· kernel_rfl)) | refine tri_yesA rfl ?_ | refine tri_noA rfl ?_ | refine tri_trueA rfl ?_ | refine tri_falseA rfl ?_)
        refine walk1_b (op_storeB (q1 := 901) (q2 := 900) rfl rfl rfl rfl rfl (fun _ => rfl) rfl rfl rfl rfl (fun _ => rfl)) ?_
        repeat (first | (show Walk1 _ _ _ (_ :: _) _ _; (show HW1 (.assign _); refine wz13 ?_)) | refine go1 ?_ | refine end_block_other rfl ?_ | refine end_scope (fun _ h => by cases h) ?_ | (refine walk_endD ?_ ?_; (· kernel_rfl)) | refine tri_yesA rfl ?_ | refine tri_noA rfl ?_ | refine tri_trueA rfl ?_ | refine tri_falseA rfl ?_)
        refine end_ret _ (res_cellS rfl rfl rfl rfl rfl rfl rfl (fun _ => rfl)) ?_
        exact fin_B (q1 := 901) (q2 := 900) rfl rfl rfl (fun _ => rfl)
      · rw [List.concat_eq_append] at *
        obtain ⟨gs1, gs2⟩ := good_step hG
        obtain ⟨nd, fi, co, de⟩ := t
        obtain ⟨t1, t2, t3, t4⟩ := hG.todo ⟨nd, fi, co, de⟩ (by simp)
        have hKl : K.length = l.length := hG.len
        have hKd := hG.dom
        have hNs := hG.size
        have hmuS := muS_len (S0 ++ [⟨nd, fi, co, de⟩]) fun x hx => (hG.todo x hx).2.1
        dsimp only at t1 t2 t3 t4 hKd hNs
        have hsl : (S0 ++ [(⟨nd, fi, co, de⟩ : TodoS)]).length = S0.length + 1 := by simp
        rw [hsl] at hmuS ⊢
        obtain ⟨g, rfl⟩ : ∃ g, f = g + 1 := ⟨f - 1, by omega⟩
        rw [runB_step] at hrun
        have hol : ((K.drop fi).take co).length = co := by simp; omega
        have hod : ∀ k ∈ (K.drop fi).take co, k < l.length := fun k hk => hKd k (List.mem_of_mem_drop (List.mem_of_mem_take hk))
        have hP := partL_lt l ((K.drop fi).take co) de
        have b1 : ((todosC (S0 ++ [⟨nd, fi, co, de⟩])).drop (0 + (S0.length + 1 - 1) * 4)).take 4 = [.int .i64 ((nd : Nat) : Int), .int .i64 ((fi : Nat) : Int), .int .i64 ((co : Nat) : Int), .int .i64 ((de : Nat) : Int)] := by
          rw [Nat.zero_add, Nat.add_sub_cancel]
          exact flat_row (sz := 4) (f := todoC) _ (fun _ _ => rfl) S0.length ⟨nd, fi, co, de⟩ (by simp)
        have b2 : (todosC (S0 ++ [⟨nd, fi, co, de⟩])).take ((S0.length + 1 - 1) * 4) = todosC S0 := by
          rw [Nat.add_sub_cancel]
          have := (flat_cut (S0 ++ [⟨nd, fi, co, de⟩]) (f := todoC) (sz := 4) (fun _ _ => rfl) S0.length).1
          rw [List.take_left] at this
          exact this.symm
        have b3 : (todosC (S0 ++ [⟨nd, fi, co, de⟩])).length = (S0.length + 1) * 4 := by
          have := flat_length (f := todoC) (sz := 4) (S0 ++ [⟨nd, fi, co, de⟩]) fun _ _ => rfl
          rw [hsl] at this
          exact this
        have hkm : ((K.map intV).drop fi).take co = ((K.drop fi).take co).map intV := by rw [← List.map_drop, ← List.map_take]
        obtain ⟨F, hF⟩ : ∃ F, F = bbN l ((K.drop fi).take co) co := ⟨_, rfl⟩
        have cX1 : ∀ vo w, RdV w 19 vl l.length XS → RdV w 1 vo co (((K.map intV).drop fi).take co) → Calls Try.prog 17 #[vl, vo] w fun e w' => e = .returned (.tuple #[.agg F.1.c, .agg F.2.c]) ∧ Below w.heap.size w w' := fun vo w h1 h2 => by
          have := cX ((K.drop fi).take co) hod (by omega) vo w h1
          rw [hol] at this
          rw [hkm] at h2
          rw [hF]
          exact this h2
        have cP1 := fun pre post b cap w => cP pre post ((K.drop fi).take co) co cap b hod hol.symm (by omega) de w
        have hq : stepQ l N K S0 ⟨nd, fi, co, de⟩ = _ := rfl
        conv at hq => rhs; unfold stepQ partK boxK
        dsimp only at hq
        rw [← hF] at hq
        rw [hol] at hP
        generalize partL l ((K.drop fi).take co) de = P at *
        clear cX cP hol
        have hmu' : muS (stepQ l N K S0 ⟨nd, fi, co, de⟩).S ≤ g := by omega
        have nx := fun S' hE => next S' (stepQ l N K S0 ⟨nd, fi, co, de⟩, g) ⟨gs1, hmu', hrun⟩ gs2 hE
        dsimp only at nx
        rw [hq] at nx
        clear gs1 gs2 hmu hmu' hrun next hq hF
        obtain ⟨p1, p2, _, p3⟩ := hP
        generalize todosC (S0 ++ [⟨nd, fi, co, de⟩]) = XT at *
        have hlK : (K.take fi ++ (P.2 ++ K.drop (fi + co))).length = l.length := by
          simp only [List.length_append, List.length_take, List.length_drop, p1]; omega
        obtain ⟨⟨fa, fb, fc⟩, ⟨fa', fb', fc'⟩⟩ := F
        simp only [P3.c] at cX1
        have con : ∀ (S' : St) (e : Env) (a : Act) (w' : World), Holds ⟨169, w, []⟩ S' e a w' → ∀ b cap pre post, (Ctx.mk 169 w []).mine b → pre.length = fi → Blk w' b (segA pre post ((K.drop fi).take co)) 3 → Calls Try.prog 18 (([SV.c vl].map (·.den e)) ++ Value.slice (some ⟨b, pre.length, none⟩) co cap :: ([SV.c (.int .i64 ((de : Nat) : Int))].map (·.den e))).toArray w' (RetP w' b 3 (segA pre post P.2) (.int .i64 P.1)) := by
          intro S' e a w' hS b cap pre post hm hpl hB
          refine cP1 pre post b cap w' (fun w2 hw2 => ?_) hB
          refine hvl.later (by omega) fun x hx => ?_
          rw [hw2.block x (Nat.lt_of_lt_of_le hx hS.frame.size) ?_, hS.frame.block x hx (by simp)]
          simp only [List.mem_singleton]
          intro he
          subst he
          rcases hm with hm | hm
          · exact absurd hx (by simpa using hm)
          · cases hm
        clear cP1
        repeat (first | (show Walk1 _ _ _ (_ :: _) _ _; first | (show HW1 (.move _); refine wz1 ?_) | (show HW1 (.binOp .sub _ _ _ _); refine wz35 ?_) | (show HW1 (.binOp .gtr _ _ _ _); refine wz33 ?_) | (show HW1 (.indexAddr _ _ _); refine wz102 ?_) | (show HW1 (.load _ _); refine walk1_t (op_loadsQ rfl rfl rfl rfl rfl rfl rfl rfl (by decide) (by first | omega | decide) (by with_reducible assumption)) ?_) | (show HW1 (.store _ _ _); refine wz14 ?_) | (show HW1 (.alloc _); refine wz6 ?_) | (show HW1 (.call ⟨.builtin .len, _, _⟩); refine wz57 ?_)) | refine go1 ?_ | refine end_block_other rfl ?_ | refine end_scope (fun _ h => by cases h) ?_ | (refine walk_endD ?_ ?_; (· kernel_rfl)) | refine tri_yesA rfl ?_ | refine tri_noA rfl ?_ | refine tri_trueA rfl ?_ | refine tri_falseA rfl ?_)
        refine walk1_t (op_cutV0 rfl rfl rfl rfl rfl rfl rfl (evO_some (evK_tmp rfl)) (by omega)) ?_
        repeat (first | (show Walk1 _ _ _ (_ :: _) _ _; first | (show HW1 (.move _); refine wz1 ?_) | (show HW1 (.assign _); refine wz2 ?_) | (show HW1 (.binOp .add _ _ _ _); refine wz10 ?_) | (show HW1 (.load _ _); refine wz3 ?_) | (show HW1 (.fieldAddr _ _ _); refine wz4 ?_) | (show HW1 (.slice _ _ _ _ _); refine wz98 ?_)) | refine go1 ?_ | refine end_block_other rfl ?_ | refine end_scope (fun _ h => by cases h) ?_ | (refine walk_endD ?_ ?_; (· kernel_rfl)) | refine tri_yesA rfl ?_ | refine tri_noA rfl ?_ | refine tri_trueA rfl ?_ | refine tri_falseA rfl ?_)
        simp only [Nat.add_sub_cancel_left]
        repeat (first | (show Walk1 _ _ _ (_ :: _) _ _; first | (show HW1 (.move _); refine wz1 ?_) | (show HW1 (.load _ _); first | refine wz3 ?_ | refine wz9 ?_) | (show HW1 (.store _ _ _); refine wz14 ?_) | (show HW1 (.alloc _); refine wz6 ?_) | (show HW1 (.fieldAddr _ _ _); refine wz4 ?_) | (show HW1 (.extract _ _); first | refine wz16 ?_ | refine wz15 ?_) | (show HW1 (.call ⟨.value (.func 17), _, _⟩); (refine cwalk1M 17 ?_; refine ⟨_, _, callM_2 (rdn_old hvl (by omega) rfl) (rdn_subG (n := 900) rfl (by omega)) (fun e w h1 h2 => cX1 _ w h1 h2), ?_⟩))) | refine go1 ?_ | refine end_block_other rfl ?_ | refine end_scope (fun _ h => by cases h) ?_ | (refine walk_endD ?_ ?_; (· kernel_rfl)) | refine tri_yesA rfl ?_ | refine tri_noA rfl ?_ | refine tri_trueA rfl ?_ | refine tri_falseA rfl ?_)
        refine walk1_t (op_buildC (parts := [(0, .tmp 107), (1, .tmp 108), (2, .const (.int .i64 (-1))), (3, .const (.int .i64 (-1))), (4, .tmp 110), (5, .tmp 112)]) (vs := [.agg #[.int .i64 fa, .int .i64 fb, .int .i64 fc], .agg #[.int .i64 fa', .int .i64 fb', .int .i64 fc'], .int .i64 (-1), .int .i64 (-1), .int .i64 ((fi : Nat) : Int), .int .i64 ((co : Nat) : Int)]) #[.int .i64 fa, .int .i64 fb, .int .i64 fc, .int .i64 fa', .int .i64 fb', .int .i64 fc', .int .i64 (-1), .int .i64 (-1), .int .i64 ((fi : Nat) : Int), .int .i64 ((co : Nat) : Int)] rfl rfl rfl rfl rfl rfl (by kernel_rfl) (by kernel_rfl)) ?_
        repeat (first | (show Walk1 _ _ _ (_ :: _) _ _; first | (show HW1 (.move _); refine wz1 ?_) | (show HW1 (.load _ _); refine wz3 ?_) | (show HW1 (.store _ _ _); refine wz14 ?_) | (show HW1 (.alloc _); refine wz6 ?_) | (show HW1 (.fieldAddr _ _ _); refine wz4 ?_)) | refine go1 ?_ | refine end_block_other rfl ?_ | refine end_scope (fun _ h => by cases h) ?_ | (refine walk_endD ?_ ?_; (· kernel_rfl)) | refine tri_yesA rfl ?_ | refine tri_noA rfl ?_ | refine tri_trueA rfl ?_ | refine tri_falseA rfl ?_)
        refine walk1_tb (op_callSub (vs1 := [.c vl]) (vs2 := [.c (.int .i64 ((de : Nat) : Int))]) (ks' := P.2) rfl rfl rfl (by rfl) rfl rfl (by omega) (by omega) p1 con) ?_
        clear con cX1
        repeat (first | (show Walk1 _ _ _ (_ :: _) _ _; first | (show HW1 (.move _); refine wz1 ?_) | (show HW1 (.assign _); refine wz2 ?_) | (show HW1 (.binOp .gtr _ _ _ _); refine wz21 ?_)) | refine go1 ?_ | refine end_block_other rfl ?_ | refine end_scope (fun _ h => by cases h) ?_ | (refine walk_endD ?_ ?_; (· kernel_rfl)) | refine tri_yesA rfl ?_ | refine tri_noA rfl ?_ | refine tri_trueA rfl ?_ | refine tri_falseA rfl ?_)
        refine tri_ent (ent_cutR (i := 10) (n := 910) 911 rfl rfl (by omega) rfl (by kernel_rfl)) ?_
        rw [b2, Nat.add_sub_cancel]
        obtain ⟨P1, P2⟩ := P
        dsimp only at *
        by_cases hat : 0 < P1
        · obtain ⟨at', rfl⟩ : ∃ a : Nat, P1 = (a : Int) := ⟨P1.toNat, by omega⟩
          rw [if_pos hat] at nx
          have p3 := p3 hat
          simp only [Int.toNat_natCast] at nx
          simp only [List.length_set, List.length_append, List.length_cons, List.length_nil, Nat.zero_add, Nat.reduceAdd] at nx
          have hZZ : ∀ u ∈ nodesC [zN, zN], u.oneCell' = true := fun u hu => List.all_eq_true.1 (show (nodesC [zN, zN]).all (·.oneCell') = true by kernel_rfl) u hu
          have hTT : ∀ (a b : TodoS), ∀ u ∈ todosC [a, b], u.oneCell' = true := fun a b u hu => by
            simp only [todosC, todoC, List.flatMap_cons, List.flatMap_nil, List.append_nil, List.cons_append, List.nil_append, List.mem_cons, List.not_mem_nil, or_false] at hu
            rcases hu with rfl | rfl | rfl | rfl | rfl | rfl | rfl | rfl <;> rfl
          have hys := nodes_set (N ++ [zN, zN]) nd (by rw [List.length_append]; omega) ⟨⟨fa, fb, fc⟩, ⟨fa', fb', fc'⟩, ((N.length : Nat) : Int), ((N.length + 1 : Nat) : Int), 0, 0⟩
          rw [nodes_app] at hys
          have hts : ∀ a b : TodoS, todosC (S0 ++ [a, b]) = todosC S0 ++ todosC [a, b] := fun a b => by simp [todosC]
          rw [hts] at nx
          repeat (first | (show Walk1 _ _ _ (_ :: _) _ _; first | (show HW1 (.move _); refine wz1 ?_) | (show HW1 (.assign _); refine wz2 ?_) | (show HW1 (.binOp .add _ _ _ _); refine wz10 ?_) | (show HW1 (.load _ _); first | refine wz3 ?_ | refine wz9 ?_) | (show HW1 (.fieldAddr _ _ _); refine wz4 ?_) | (show HW1 (.call ⟨.builtin .len, _, _⟩); refine wz57 ?_)) | refine go1 ?_ | refine end_block_other rfl ?_ | refine end_scope (fun _ h => by cases h) ?_ | (refine walk_endD ?_ ?_; (· kernel_rfl)) | refine tri_yesA rfl ?_ | refine tri_noA rfl ?_ | refine tri_trueA rfl ?_ | refine tri_falseA rfl ?_)
          refine walk1_t (op_buildC (parts := [(0, .tmp 124), (1, .tmp 125), (2, .tmp 126), (3, .tmp 128)]) (vs := [.agg #[.int .i64 fa, .int .i64 fb, .int .i64 fc], .agg #[.int .i64 fa', .int .i64 fb', .int .i64 fc'], .int .i64 ((N.length : Nat) : Int), .int .i64 ((N.length + 1 : Nat) : Int)]) #[.int .i64 fa, .int .i64 fb, .int .i64 fc, .int .i64 fa', .int .i64 fb', .int .i64 fc', .int .i64 ((N.length : Nat) : Int), .int .i64 ((N.length + 1 : Nat) : Int), .int .i64 0, .int .i64 0] rfl rfl rfl rfl rfl rfl (by kernel_rfl) (by kernel_rfl)) ?_
          repeat (first | (show Walk1 _ _ _ (_ :: _) _ _; first | (show HW1 (.load _ _); refine wz3 ?_) | (show HW1 (.store _ _ _); refine wz14 ?_) | (show HW1 (.fieldAddr _ _ _); refine wz4 ?_) | (show HW1 (.build _ _); refine wz32 ?_)) | refine go1 ?_ | refine end_block_other rfl ?_ | refine end_scope (fun _ h => by cases h) ?_ | (refine walk_endD ?_ ?_; (· kernel_rfl)) | refine tri_yesA rfl ?_ | refine tri_noA rfl ?_ | refine tri_trueA rfl ?_ | refine tri_falseA rfl ?_)
          refine walk1_n (op_bsliceQ rfl rfl rfl rfl rfl rfl rfl rfl rfl rfl (by decide) (by kernel_rfl)) (by kernel_rfl) ?_
          refine walk1_g (op_append (len := N.length) (cnt := 2) (news := nodesC [zN, zN]) rfl rfl rfl rfl rfl rfl rfl rfl rfl (by decide) (rdn_row (n := 134) rfl rfl) hZZ (by omega) rfl) (by kernel_rfl) ?_
          repeat (first | (show Walk1 _ _ _ (_ :: _) _ _; first | (show HW1 (.move _); refine wz1 ?_) | (show HW1 (.binOp .add _ _ _ _); refine wz10 ?_) | (show HW1 (.binOp .sub _ _ _ _); refine wz35 ?_) | (show HW1 (.load _ _); refine wz3 ?_) | (show HW1 (.store _ _ _); refine wz97 ?_) | (show HW1 (.fieldAddr _ _ _); refine wz4 ?_)) | refine go1 ?_ | refine end_block_other rfl ?_ | refine end_scope (fun _ h => by cases h) ?_ | (refine walk_endD ?_ ?_; (· kernel_rfl)) | refine tri_yesA rfl ?_ | refine tri_noA rfl ?_ | refine tri_trueA rfl ?_ | refine tri_falseA rfl ?_)
          refine walk1_t (op_buildC (parts := [(0, .tmp 139), (1, .tmp 143), (2, .tmp 147), (3, .tmp 150)]) (vs := [.int .i64 ((N.length + 1 : Nat) : Int), .int .i64 ((fi + at' : Nat) : Int), .int .i64 ((co - at' : Nat) : Int), .int .i64 ((de + 1 : Nat) : Int)]) #[.int .i64 ((N.length + 1 : Nat) : Int), .int .i64 ((fi + at' : Nat) : Int), .int .i64 ((co - at' : Nat) : Int), .int .i64 ((de + 1 : Nat) : Int)] rfl rfl rfl rfl rfl rfl (by kernel_rfl) (by kernel_rfl)) ?_
          repeat (first | (show Walk1 _ _ _ (_ :: _) _ _; first | (show HW1 (.move _); refine wz1 ?_) | (show HW1 (.binOp .add _ _ _ _); refine wz10 ?_) | (show HW1 (.load _ _); refine wz3 ?_) | (show HW1 (.fieldAddr _ _ _); refine wz4 ?_)) | refine go1 ?_ | refine end_block_other rfl ?_ | refine end_scope (fun _ h => by cases h) ?_ | (refine walk_endD ?_ ?_; (· kernel_rfl)) | refine tri_yesA rfl ?_ | refine tri_noA rfl ?_ | refine tri_trueA rfl ?_ | refine tri_falseA rfl ?_)
          refine walk1_t (op_buildC (parts := [(0, .tmp 152), (1, .tmp 154), (2, .tmp 155), (3, .tmp 158)]) (vs := [.int .i64 ((N.length : Nat) : Int), .int .i64 ((fi : Nat) : Int), .int .i64 ((at' : Nat) : Int), .int .i64 ((de + 1 : Nat) : Int)]) #[.int .i64 ((N.length : Nat) : Int), .int .i64 ((fi : Nat) : Int), .int .i64 ((at' : Nat) : Int), .int .i64 ((de + 1 : Nat) : Int)] rfl rfl rfl rfl rfl rfl (by kernel_rfl) (by kernel_rfl)) ?_
          refine walk1_n (op_bsliceQ rfl rfl rfl rfl rfl rfl rfl rfl rfl rfl (by decide) (by kernel_rfl)) (by kernel_rfl) ?_
          refine walk1_g (op_append (len := S0.length) (cnt := 2) (news := todosC [⟨N.length + 1, fi + at', co - at', de + 1⟩, ⟨N.length, fi, at', de + 1⟩]) rfl rfl rfl rfl rfl rfl rfl rfl rfl (by decide) (rdn_row (n := 160) rfl rfl) (hTT _ _) (by omega) rfl) (by kernel_rfl) ?_
          repeat (first | (show Walk1 _ _ _ (_ :: _) _ _; first | (show HW1 (.assign _); refine wz2 ?_) | (show HW1 (.indexAddr _ _ _); refine wz102 ?_) | (show HW1 (.load _ _); first | refine wz3 ?_ | refine wz9 ?_) | (show HW1 (.fieldAddr _ _ _); refine wz4 ?_)) | refine go1 ?_ | refine end_block_other rfl ?_ | refine end_scope (fun _ h => by cases h) ?_ | (refine walk_endD ?_ ?_; (· kernel_rfl)) | refine tri_yesA rfl ?_ | refine tri_noA rfl ?_ | refine tri_trueA rfl ?_ | refine tri_falseA rfl ?_)
          refine walk1_b (op_storesU rfl rfl rfl rfl rfl rfl rfl rfl (by simp [Value.oneCell']) (by omega) (by omega) hys) ?_
          repeat (first | refine go1 ?_ | refine end_block_other rfl ?_ | refine end_scope (fun _ h => by cases h) ?_ | (refine walk_endD ?_ ?_; (· kernel_rfl)) | refine tri_yesA rfl ?_ | refine tri_noA rfl ?_ | refine tri_trueA rfl ?_ | refine tri_falseA rfl ?_)
          exact nx _ (ent_ren (fun n => cond (Nat.beq n 901) 135 (cond (Nat.beq n 910) 161 n)) (by repeat (first | exact hasTm_nil | refine hasTm_cons rfl (fun _ => rfl) ?_)) (by repeat (first | exact hasRm_nil | refine hasRm_cons rfl (fun _ => rfl) (fun _ _ h => h) rfl ?_)) (by kernel_rfl))
        · rw [if_neg hat] at nx
          repeat (first | (show Walk1 _ _ _ (_ :: _) _ _; first | (show HW1 (.indexAddr _ _ _); refine wz102 ?_) | (show HW1 (.load _ _); first | refine wz3 ?_ | refine wz9 ?_) | (show HW1 (.fieldAddr _ _ _); refine wz4 ?_)) | refine go1 ?_ | refine end_block_other rfl ?_ | refine end_scope (fun _ h => by cases h) ?_ | (refine walk_endD ?_ ?_; (· kernel_rfl)) | refine tri_yesA rfl ?_ | refine tri_noA rfl ?_ | refine tri_trueA rfl ?_ | refine tri_falseA rfl ?_)
          rw [List.length_set] at nx
          refine walk1_b (op_storesU rfl rfl rfl rfl rfl rfl rfl rfl (by simp [Value.oneCell']) (by omega) (by omega) (nodes_set N nd t1 ⟨⟨fa, fb, fc⟩, ⟨fa', fb', fc'⟩, -1, -1, ((fi : Nat) : Int), ((co : Nat) : Int)⟩)) ?_
          repeat (first | refine go1 ?_ | refine end_block_other rfl ?_ | refine end_scope (fun _ h => by cases h) ?_ | (refine walk_endD ?_ ?_; (· kernel_rfl)) | refine tri_yesA rfl ?_ | refine tri_noA rfl ?_ | refine tri_trueA rfl ?_ | refine tri_falseA rfl ?_)
          exact nx _ (ent_ren (fun n => cond (Nat.beq n 910) 911 n) (by repeat (first | exact hasTm_nil | refine hasTm_cons rfl (fun _ => rfl) ?_)) (by repeat (first | exact hasRm_nil | refine hasRm_cons rfl (fun _ => rfl) (fun _ _ h => h) rfl ?_)) (by kernel_rfl))
end Go.Proofs.Ytcgmapioelfneaa
