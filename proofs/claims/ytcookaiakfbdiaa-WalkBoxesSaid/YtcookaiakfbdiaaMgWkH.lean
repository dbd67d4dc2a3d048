/- A walk's Any: walked. No condition. A walk's questions: those it does not look into; as methods of an object. No condition. A walk tells what one triangle after the other tells: plain. No condition. Walks of any triangles: made new: walked. No condition. -/
import Derived.Test.YtcookaiakfbdiaaMgWkB
import Derived.Test.YtcookaiakfbdiaaMgWkL
import Derived.Test.YtcookaiakfbdiaaMgWkA
import Derived.Test.YtcookaiakfbdiaaMgBld10
namespace Go.Proofs.Ytcookaiakfbdiaa
open Go.RowKit
set_option maxRecDepth 100000
set_option maxHeartbeats 1000000
attribute [local irreducible] Calls Walk1 WalkTo Tri EndA
end Go.Proofs.Ytcookaiakfbdiaa
namespace Go.Proofs.Ytcookaiakfbdiaa
open Go.RowKit
set_option maxRecDepth 100000
set_option maxHeartbeats 1000000
attribute [local irreducible] Calls Walk1 WalkTo Tri EndA
theorem wkNearNo_any (v1 v2 v3 : Value) (n : Nat) (N : List NodeS) (o d : P3) (mask : BitVec 8) (skip : Int) (hno : N.length = 0 ∨ mayP o d = false) (w : World) (b : Nat) (hB : Blk w b (wkC v1 v2 v3 n) 59) (hv1 : RdX w [b] 10 v1 N.length (nodesC N)) :
    Calls Try.prog 15 #[.pointer (some ⟨b, 0, none⟩), .agg o.c, .agg d.c, .int .u8 (bvi mask), .int .i64 skip] w (RetP w b 59 (wkC v1 v2 v3 n) (.tuple #[.int .i64 (-1), .agg zM.c])) := by
  have cn := fun w b hB => wkNone_any v1 v2 v3 n w b hB
  have cM := fun w => mayT_any o d w
  have hos : o.c.size = 3 := rfl
  have hds : d.c.size = 3 := rfl
  have hzc : zM.c = #[.int .i64 0, .int .i64 0, .int .i64 0, .int .i64 0] := rfl
  rw [hzc]
  generalize o.c = OC at *
  generalize d.c = DC at *
  obtain ⟨hv1l, a1, c1, rfl, hv1c⟩ := hv1.rd
  generalize N.length = NL at *
  generalize mayP o d = MP at *
  by_cases h0 : NL = 0
  · refine calls_triP (b := b) (59) (SA.l [SV.c (.slice a1 NL c1), SV.c v2, SV.c (.bool true), SV.c v3, SV.c (.int .i64 (n : Int))]) Try.func15 rfl Try.ntmps15 rfl rfl (hB) (fun _ => rfl) ?_
    repeat (first | (show Walk1 _ _ _ (_ :: _) _ _; first | (show Walk1 _ _ _ (⟨_, _, _, _, _, some _⟩ :: _) _ _; first | refine zy1 ?_ | refine zn1 ?_) | (show HW1 (.move _); refine wz1 ?_) | (show HW1 (.assign _); first | refine wz13 ?_ | refine wz2 ?_) | (show HW1 (.binOp .eql _ _ _ _); refine wz30 ?_) | (show HW1 (.pick _ _ _); first | refine wz8 ?_ | refine wz7 ?_) | (show HW1 (.load _ _); refine wz3 ?_) | (show HW1 (.alloc _); refine wz6 ?_) | (show HW1 (.nilCheck _); refine wz29 ?_) | (show HW1 (.box _ _); refine wz11 ?_) | (show HW1 (.fieldAddr _ _ _); refine wz4 ?_) | (show HW1 (.call ⟨.builtin .len, _, _⟩); refine wz39 ?_) | (show HW1 (.call ⟨.value (.func 36), _, _⟩); ((first | refine walk1_callPE (SA.l [SV.c (.slice a1 NL c1), SV.c v2, SV.c (.bool true), SV.c v3, SV.c (.int .i64 (n : Int))]) rfl rfl rfl rfl evq rfl rfl rfl ?_ | refine walk1_callPE0 (SA.l [SV.c (.slice a1 NL c1), SV.c v2, SV.c (.bool true), SV.c v3, SV.c (.int .i64 (n : Int))]) rfl rfl rfl evq rfl rfl rfl ?_); refine ⟨_, _, callPE_0 rfl (fun e w h => cn w _ h), ?_⟩))) | (show WalkTo _ _ _ _ (_ :: _) _ _ _; first | (show HW2 (.move _); refine wz20 ?_) | (show HW2 (.assign _); refine wz17 ?_) | (show HW2 (.load _ _); refine wz22 ?_) | (show HW2 (.store _ _ _); refine wz48 ?_)) | refine go1 ?_ | refine end_block_other rfl ?_ | refine end_scope (fun _ h => by cases h) ?_ | (refine walk_endD ?_ ?_; (· kernel_rfl)) | refine tri_yesA rfl ?_ | refine tri_noA rfl ?_ | refine tri_trueA rfl ?_ | refine tri_falseA rfl ?_)
    refine end_ret (.c (.tuple #[.int .i64 (-1), .agg #[.int .i64 0, .int .i64 0, .int .i64 0, .int .i64 0]])) (res_tmpC rfl rfl rfl rfl rfl rfl rfl rfl) ?_
    exact fin_obj rfl rfl (fun _ => rfl) (fun _ => rfl)
  · obtain rfl : MP = false := hno.resolve_left h0
    refine calls_triP (b := b) (59) (SA.l [SV.c (.slice a1 NL c1), SV.c v2, SV.c (.bool true), SV.c v3, SV.c (.int .i64 (n : Int))]) Try.func15 rfl Try.ntmps15 rfl rfl (hB) (fun _ => rfl) ?_
    repeat (first | (show Walk1 _ _ _ (_ :: _) _ _; first | (show Walk1 _ _ _ (⟨_, _, _, _, _, some _⟩ :: _) _ _; refine zy1 ?_) | (show HW1 (.move _); refine wz1 ?_) | (show HW1 (.assign _); first | refine wz13 ?_ | refine wz2 ?_) | (show HW1 (.binOp .eql _ _ _ _); refine wz30 ?_) | (show HW1 (.pick _ _ _); refine wz7 ?_) | (show HW1 (.unOp _ _ _); refine wz19 ?_) | (show HW1 (.load _ _); first | refine wz3 ?_ | refine wz9 ?_) | (show HW1 (.alloc _); refine wz6 ?_) | (show HW1 (.nilCheck _); refine wz29 ?_) | (show HW1 (.box _ _); refine wz11 ?_) | (show HW1 (.fieldAddr _ _ _); refine wz4 ?_) | (show HW1 (.call ⟨.builtin .len, _, _⟩); refine wz39 ?_) | (show HW1 (.call ⟨.value (.func 36), _, _⟩); ((first | refine walk1_callPE (SA.l [SV.c (.slice a1 NL c1), SV.c v2, SV.c (.bool true), SV.c v3, SV.c (.int .i64 (n : Int))]) rfl rfl rfl rfl evq rfl rfl rfl ?_ | refine walk1_callPE0 (SA.l [SV.c (.slice a1 NL c1), SV.c v2, SV.c (.bool true), SV.c v3, SV.c (.int .i64 (n : Int))]) rfl rfl rfl evq rfl rfl rfl ?_); refine ⟨_, _, callPE_0 rfl (fun e w h => cn w _ h), ?_⟩)) | (show HW1 (.call ⟨.value (.func 12), _, _⟩); ((first | refine cwalk11 12 ?_ | refine cwalk10 12 ?_); refine ⟨_, fun e w => cM w, ?_⟩))) | (show WalkTo _ _ _ _ (_ :: _) _ _ _; first | (show HW2 (.move _); refine wz20 ?_) | (show HW2 (.assign _); refine wz17 ?_) | (show HW2 (.load _ _); refine wz22 ?_) | (show HW2 (.store _ _ _); refine wz48 ?_)) | refine go1 ?_ | refine end_block_other rfl ?_ | refine end_scope (fun _ h => by cases h) ?_ | (refine walk_endD ?_ ?_; (· kernel_rfl)) | refine tri_yesA rfl ?_ | refine tri_noA rfl ?_ | refine tri_trueA rfl ?_ | refine tri_falseA rfl ?_)
    refine end_ret (.c (.tuple #[.int .i64 (-1), .agg #[.int .i64 0, .int .i64 0, .int .i64 0, .int .i64 0]])) (res_tmpC rfl rfl rfl rfl rfl rfl rfl rfl) ?_
    exact fin_obj rfl rfl (fun _ => rfl) (fun _ => rfl)
/-- The nodes and the order are a tree's, or there are none. -/
structure TreeS (l : List TriS) (N : List NodeS) (K : List Nat) (T : Option Tr) : Prop where
  ok : ∀ t ∈ l, t.ok
  tr : ∀ t, T = some t → t.In N K ∧ t.ix = 0
  no : T = none → N.length = 0
  box : ∀ x ∈ N, smP x.lo ∧ smP x.hi
  nl : N.length ≤ 1000000
  kl : K.length ≤ 1000000
  dom : ∀ k ∈ K, k < l.length
def costT (T : Option Tr) : Nat := match T with
  | none => 0
  | some t => t.cost
def nearW (T : Option Tr) (l : List TriS) (K : List Nat) (o d : P3) (mask : BitVec 8) (skip : Int) (n : Nat) : WSt := if mayP o d = true then (match T with
  | none => ⟨n, -1, zM⟩
  | some t => t.vis l K o d mask skip ⟨n, -1, zM⟩) else ⟨n, -1, zM⟩
def anyW (T : Option Tr) (l : List TriS) (K : List Nat) (o d : P3) (mask : BitVec 8) (skip : Int) (near : Bool) (n : Nat) : Nat × Bool := if mayP o d = true then (match T with
  | none => (n, false)
  | some t => t.visA l K o d mask skip near (n, false)) else (n, false)
theorem wk_retO {s : WkS} {v1 v2 v3 : Value} {w : World} {b n' : Nat} {u : Value} (hok : wkO.ok w b (.tuple #[v1, v2, v3]) s) {e : Ending} {w' : World} (h : RetP w b 59 (wkC v1 v2 v3 n') u e w') : RetO wkO w b (.tuple #[v1, v2, v3]) ⟨s.N, s.K, s.l, n'⟩ u e w' := by
  obtain ⟨rfl, hb, hx⟩ := h
  obtain ⟨x1, x2, x3, he, h1, h2, h3, h4, h5, h6⟩ := hok
  injection he with he
  injection he with he
  simp only [List.cons.injEq, and_true] at he
  obtain ⟨rfl, rfl, rfl⟩ := he
  have hv : ∀ x, (v1.ownBlock = some x ∨ v2.ownBlock = some x ∨ v3.ownBlock = some x) → x ∈ vblk (.tuple #[v1, v2, v3]) := fun x hx => by
    simp only [vblk, List.flatMap_cons, List.flatMap_nil, List.append_nil, List.mem_append, Option.mem_toList]
    exact hx
  have hbl : ∀ x, x ∈ vblk (.tuple #[v1, v2, v3]) → w'.heap[x]? = w.heap[x]? := fun x hxx => hx.block x (h6 x hxx).1 (by simpa using (h6 x hxx).2)
  refine ⟨rfl, ⟨v1, v2, v3, rfl, hb, h2.locB fun x hx => hbl x (hv x (.inl hx)), h3.locB fun x hx => hbl x (hv x (.inr (.inl hx))), h4.locB fun x hx => hbl x (hv x (.inr (.inr hx))), Nat.lt_of_lt_of_le h5 hx.size, fun x hxx => ⟨Nat.lt_of_lt_of_le (h6 x hxx).1 hx.size, (h6 x hxx).2⟩⟩, ?_⟩
  exact ⟨hx.os, hx.tape, hx.output, hx.size, fun k hk hm => hx.block k hk fun hmm => hm (by simp only [List.mem_singleton] at hmm; subst hmm; exact List.mem_cons_self)⟩
theorem wk_rds {s : WkS} {v1 v2 v3 : Value} {w : World} {b : Nat} (hok : wkO.ok w b (.tuple #[v1, v2, v3]) s) : Blk w b (wkC v1 v2 v3 s.n) 59 ∧ RdX w [b] 10 v1 s.N.length (nodesC s.N) ∧ FSX w [b] 1 v2 s.K.length (ordC s.K) ∧ RdX w [b] 19 v3 s.l.length (trisC s.l) := by
  obtain ⟨x1, x2, x3, he, h1, h2, h3, h4, h5, h6⟩ := hok
  injection he with he
  injection he with he
  simp only [List.cons.injEq, and_true] at he
  obtain ⟨rfl, rfl, rfl⟩ := he
  have hv : ∀ x, (v1.ownBlock = some x ∨ v2.ownBlock = some x ∨ v3.ownBlock = some x) → x ∈ vblk (.tuple #[v1, v2, v3]) := fun x hx => by
    simp only [vblk, List.flatMap_cons, List.flatMap_nil, List.append_nil, List.mem_append, Option.mem_toList]
    exact hx
  have hbl : ∀ w', BelowX w w' [b] → ∀ x, x ∈ vblk (.tuple #[v1, v2, v3]) → w'.heap[x]? = w.heap[x]? := fun w' hx x hxx => hx.block x (h6 x hxx).1 (by simpa using (h6 x hxx).2)
  exact ⟨h1, fun w' hw => h2.locB fun x hx => hbl w' hw x (hv x (.inl hx)), fun w' hw => h3.locB fun x hx => hbl w' hw x (hv x (.inr (.inl hx))), fun w' hw => h4.locB fun x hx => hbl w' hw x (hv x (.inr (.inr hx)))⟩
theorem wkNear_obj (N : List NodeS) (K : List Nat) (l : List TriS) (n : Nat) (T : Option Tr) (h : TreeS l N K T) (hc : n + costT T ≤ 100000000) (o d : P3) (mask : BitVec 8) (skip : Int) : ObjM wkO 15 (fun b => #[.pointer (some ⟨b, 0, none⟩), .agg o.c, .agg d.c, .int .u8 (bvi mask), .int .i64 skip]) ⟨N, K, l, n⟩ ⟨N, K, l, (nearW T l K o d mask skip n).n⟩ (.tuple #[.int .i64 (nearW T l K o d mask skip n).i, .agg (nearW T l K o d mask skip n).m.c]) := by
  intro w b v hok
  have hok2 := hok
  obtain ⟨v1, v2, v3, rfl, _⟩ := hok2
  obtain ⟨h1, h2, h3, h4⟩ := wk_rds hok
  cases hm : mayP o d with
  | false =>
    have : nearW T l K o d mask skip n = ⟨n, -1, zM⟩ := by unfold nearW; rw [hm, if_neg (by decide)]
    rw [this]
    exact Calls.mono (wkNearNo_any v1 v2 v3 n N o d mask skip (.inr hm) w b h1 h2) fun r w' hr => wk_retO hok hr
  | true =>
    cases T with
    | none =>
      have : nearW none l K o d mask skip n = ⟨n, -1, zM⟩ := by unfold nearW; rw [hm, if_pos rfl]
      rw [this]
      exact Calls.mono (wkNearNo_any v1 v2 v3 n N o d mask skip (.inl (h.no rfl)) w b h1 h2) fun r w' hr => wk_retO hok hr
    | some t =>
      have : nearW (some t) l K o d mask skip n = t.vis l K o d mask skip ⟨n, -1, zM⟩ := by unfold nearW; rw [hm, if_pos rfl]
      rw [this]
      obtain ⟨ht, ht0⟩ := h.tr t rfl
      exact Calls.mono (wkNear_any v1 v2 v3 n l h.ok N K t ht ht0 h.box h.nl h.kl h.dom hc o d mask skip hm w b h1 h2 h3 h4) fun r w' hr => wk_retO hok hr
end Go.Proofs.Ytcookaiakfbdiaa
namespace Go.Proofs.Ytcookaiakfbdiaa
open Go.RowKit
set_option maxRecDepth 100000
set_option maxHeartbeats 1000000
theorem mt_meet {l : List TriS} {o d : P3} {mask : BitVec 8} {skip : Int} {k : Nat} {t : TriS} (ht : l[k]? = some t) : (meetM o d mask skip k t).2 = (mtW l o d mask skip k).2 ∧ ((mtW l o d mask skip k).2 = true → (meetM o d mask skip k t).1 = (mtW l o d mask skip k).1) := by
  unfold mtW meetM meetW
  rw [ht]
  dsimp only
  split
  · rename_i hc
    rw [hc, Bool.and_true]
    exact ⟨rfl, fun _ => rfl⟩
  · rename_i hc
    rw [Bool.not_eq_true] at hc
    rw [hc, Bool.and_false]
    exact ⟨rfl, fun h => by cases h⟩
theorem nearS_best (l : List TriS) (o d : P3) (mask : BitVec 8) (skip : Int) : ∀ j, j ≤ l.length → Best (mtW l o d mask skip) (fun x => x < j) (nearS l o d mask skip j).1 (nearS l o d mask skip j).2
  | 0, _ => Best.none fun k hk => absurd hk (Nat.not_lt_zero k)
  | j + 1, h => by
    obtain ⟨t, ht⟩ : ∃ t, l[j]? = some t := ⟨_, List.getElem?_eq_getElem (by omega)⟩
    have hB := nearS_best l o d mask skip j (by omega)
    have hi : ¬ (j : Int) < (nearS l o d mask skip j).1 := by
      rcases hB with ⟨a1, _⟩ | ⟨k0, a1, a2, _⟩ <;> omega
    obtain ⟨e1, e2⟩ := mt_meet (o := o) (d := d) (mask := mask) (skip := skip) ht
    refine (best_step mtW_pos hB j ?_).congr fun k => by omega
    rw [nearS, ht]
    dsimp only
    rw [e1, decide_eq_false hi, Bool.false_and, Bool.or_false]
    cases hm : (mtW l o d mask skip j).2 with
    | false => rw [Bool.false_and]; rfl
    | true =>
      rw [e2 hm]
theorem hit_may {l : List TriS} {o d : P3} {mask : BitVec 8} {skip : Int} {k : Nat} (h : (mtW l o d mask skip k).2 = true) : mayP o d = true := by
  unfold mtW at h
  split at h
  · unfold meetW at h
    split at h
    · unfold hitM at h
      split at h
      · rename_i hc
        rw [Bool.and_eq_true] at hc
        exact hc.1
      · cases h
    · cases h
  · cases h
theorem hitA_mt {l : List TriS} {o d : P3} {mask : BitVec 8} {skip : Int} {near : Bool} {k : Nat} (h : hitA l o d mask skip near k = true) : (mtW l o d mask skip k).2 = true := by
  unfold hitA at h
  unfold mtW
  split at h
  · rename_i t ht
    rw [Bool.and_eq_true] at h
    rw [ht]
    exact h.1
  · cases h
theorem looksA_any {l : List TriS} {o d : P3} {mask : BitVec 8} {skip : Int} {near : Bool} : ∀ (ks : List Nat) (n : Nat), (ks.foldl (lookA l o d mask skip near) (n, false)).2 = ks.any (hitA l o d mask skip near)
  | [], _ => rfl
  | k :: ks, n => by
    rw [List.foldl_cons, List.any_cons, lookA, if_neg (by simp)]
    cases hh : hitA l o d mask skip near k with
    | true => rw [lookA_done, Bool.true_or]
    | false => rw [looksA_any ks, Bool.false_or]
theorem outA {l : List TriS} {o d : P3} {mask : BitVec 8} {skip : Int} {near : Bool} {M : List Nat} {lo hi : P3} (hb : BBx l M (lo, hi)) (ho : (spanP lo hi o d).2 = false) : M.any (hitA l o d mask skip near) = false := by
  rw [List.any_eq_false]
  intro k hk hh
  obtain ⟨t, ht, hf⟩ := mtW_hit (hitA_mt hh)
  have hin : inBx lo hi t := fun a => by
    have := hb.1 k hk a
    rw [List.getD_eq_getElem?_getD, ht] at this
    exact this
  rw [(span_hit hf hin).1] at ho
  cases ho
theorem visA_any {l : List TriS} {o d : P3} {mask : BitVec 8} {skip : Int} {near : Bool} : ∀ (T : Tr) (P M Q : List Nat) (n : Nat), T.Good l P.length M → (T.visA l (P ++ (M ++ Q)) o d mask skip near (n, false)).2 = M.any (hitA l o d mask skip near)
  | .leaf i f c lo hi, P, M, Q, n, hG => by
    obtain ⟨rfl, rfl, _, hb⟩ := hG
    rw [Tr.visA, if_neg (by simp)]
    split
    · rename_i ho
      rw [outA hb ho]
    · rw [List.drop_left, List.take_left]
      exact looksA_any M _
  | .node i lo hi L R, P, M, Q, n, hG => by
    obtain ⟨X, Y, rfl, hL, hR, hb⟩ := hG
    rw [Tr.visA, if_neg (by simp)]
    split
    · rename_i ho
      rw [outA hb ho]
    · have h1 := visA_any (o := o) (d := d) (mask := mask) (skip := skip) (near := near) L P X (Y ++ Q) (n + 1) hL
      rw [← List.append_assoc X Y Q] at h1
      dsimp only
      rw [List.any_append, ← h1]
      generalize L.visA l (P ++ ((X ++ Y) ++ Q)) o d mask skip near (n + 1, false) = s
      obtain ⟨n', b⟩ := s
      cases b with
      | true => rw [visA_done, Bool.true_or]
      | false =>
        have h2 := visA_any (o := o) (d := d) (mask := mask) (skip := skip) (near := near) R (P ++ X) Y Q n' (by rw [List.length_append]; exact hR)
        rw [show (P ++ X) ++ (Y ++ Q) = P ++ ((X ++ Y) ++ Q) by simp] at h2
        rw [h2, Bool.false_or]
theorem anyS_iff (l : List TriS) (o d : P3) (mask : BitVec 8) (skip : Int) (near : Bool) : ∀ j, j ≤ l.length → anyS l o d mask skip near j = (List.range j).any (hitA l o d mask skip near)
  | 0, _ => rfl
  | j + 1, h => by
    obtain ⟨t, ht⟩ : ∃ t, l[j]? = some t := ⟨_, List.getElem?_eq_getElem (by omega)⟩
    obtain ⟨e1, e2⟩ := mt_meet (o := o) (d := d) (mask := mask) (skip := skip) ht
    have hm : mtW l o d mask skip j = meetW o d mask skip j t := by unfold mtW; rw [ht]
    rw [anyS, ht, List.range_succ, List.any_append, List.any_cons, List.any_nil, Bool.or_false, ← anyS_iff l o d mask skip near j (by omega)]
    dsimp only
    rw [e1, hitA, ht]
    dsimp only
    rw [hm] at e2 ⊢
    cases hc : (meetW o d mask skip j t).2 with
    | false => rw [Bool.false_and, Bool.false_and, Bool.or_false]; rfl
    | true =>
      rw [e2 hc, Bool.true_and]
      split
      · rename_i hh; rw [hh, Bool.or_true]
      · rename_i hh
        rw [Bool.not_eq_true] at hh
        rw [hh, Bool.or_false]
/-- A walk over triangles, and what it tells. -/
structure WalkOf (l : List TriS) (N : List NodeS) (K : List Nat) (T : Option Tr) : Prop where
  ts : TreeS l N K T
  cost : costT T ≤ N.length + l.length
  steps : 0 < l.length → ∀ o d mask skip n, mayP o d = true → n + 1 ≤ (nearW T l K o d mask skip n).n
  stepsA : 0 < l.length → ∀ o d mask skip near n, mayP o d = true → n + 1 ≤ (anyW T l K o d mask skip near n).1
  less : ∀ o d mask skip n, n ≤ (nearW T l K o d mask skip n).n ∧ (nearW T l K o d mask skip n).n ≤ n + costT T
  lessA : ∀ o d mask skip near n, n ≤ (anyW T l K o d mask skip near n).1 ∧ (anyW T l K o d mask skip near n).1 ≤ n + costT T
  near : ∀ o d mask skip n, (nearW T l K o d mask skip n).i = (nearS l o d mask skip l.length).1 ∧ (nearW T l K o d mask skip n).m = (nearS l o d mask skip l.length).2
  any : ∀ o d mask skip near n, (anyW T l K o d mask skip near n).2 = anyS l o d mask skip near l.length
theorem sm_smP {p : P3} (h : smB 1048576 p) : smP p := by
  unfold smB at h
  intro z hz
  simp only [P3.l, List.mem_cons, List.not_mem_nil, or_false] at hz
  rcases hz with rfl | rfl | rfl <;> omega
theorem no_may {l : List TriS} {o d : P3} {mask : BitVec 8} {skip : Int} (h : mayP o d = false) (k : Nat) : (mtW l o d mask skip k).2 = false := by
  cases hh : (mtW l o d mask skip k).2 with
  | false => rfl
  | true => rw [hit_may hh] at h; cases h
theorem okW_zero (n : Nat) : okW ⟨n, -1, zM⟩ := ⟨okM_zero, Int.le_refl 0⟩
theorem walk_of (l : List TriS) (hok : ∀ t ∈ l, t.ok) (h4 : l.length ≤ 4096) (hfar : ∀ t ∈ l, farT t = false) : ∃ T, WalkOf l (treeL l).1 (treeL l).2 T := by
  by_cases h0 : l.length = 0
  · obtain rfl := List.eq_nil_of_length_eq_zero h0
    refine ⟨none, ⟨hok, fun t h => (by cases h), fun _ => rfl, fun x hx => (by cases hx), by decide, by decide, fun k hk => (by cases hk)⟩, Nat.zero_le _, fun h => absurd h (by decide), fun h => absurd h (by decide), fun o d mask skip n => ?_, fun o d mask skip near n => ?_, fun o d mask skip n => ?_, fun o d mask skip near n => ?_⟩
    · have : nearW none [] (treeL []).2 o d mask skip n = ⟨n, -1, zM⟩ := by unfold nearW; split <;> rfl
      rw [this]; exact ⟨Nat.le_refl _, Nat.le_refl _⟩
    · have : anyW none [] (treeL []).2 o d mask skip near n = (n, false) := by unfold anyW; split <;> rfl
      rw [this]; exact ⟨Nat.le_refl _, Nat.le_refl _⟩
    · have : nearW none [] (treeL []).2 o d mask skip n = ⟨n, -1, zM⟩ := by unfold nearW; split <;> rfl
      rw [this]; exact ⟨rfl, rfl⟩
    · have : anyW none [] (treeL []).2 o d mask skip near n = (n, false) := by unfold anyW; split <;> rfl
      rw [this]; rfl
  · have hnr : ∀ t ∈ l, nearT t := fun t ht => near_of (hfar t ht)
    obtain ⟨T, a1, a2, a3, a4, a5, a6, _⟩ := tree_of l (by omega) hnr
    generalize (treeL l).1 = N at *
    generalize (treeL l).2 = K at *
    have hKl : K.length = l.length := by rw [a4.length_eq, List.length_range]
    have hKm : ∀ k, k ∈ K ↔ k < l.length := fun k => (a4.mem_iff (a := k)).trans List.mem_range
    have hcost := Tr.cost_eq T 0 K a3
    have hNl : N.length ≤ 2 * l.length := by
      have : ∀ (T : Tr) (f : Nat) (M : List Nat), T.Good l f M → T.nodes ≤ 2 * M.length - 1 ∧ 1 ≤ M.length := by
        intro T
        induction T with
        | leaf i f c lo hi =>
          intro f0 M h
          obtain ⟨_, h2, h3, _⟩ := h
          rw [Tr.nodes]
          omega
        | node i lo hi L R ihL ihR =>
          intro f0 M h
          obtain ⟨X, Y, rfl, h1, h2, _⟩ := h
          have := ihL _ _ h1
          have := ihR _ _ h2
          rw [Tr.nodes, List.length_append]
          omega
      have := this T 0 K a3
      omega
    refine ⟨some T, ⟨hok, fun t h => (by obtain rfl := Option.some.inj h; exact ⟨a1, a2⟩), fun h => (by cases h), fun x hx => ⟨sm_smP (a6 x hx).1, sm_smP (a6 x hx).2⟩, by omega, by omega, fun k hk => (hKm k).1 hk⟩, ?_, fun _ o d mask skip n hm => ?_, fun _ o d mask skip near n hm => ?_, fun o d mask skip n => ?_, fun o d mask skip near n => ?_, fun o d mask skip n => ?_, fun o d mask skip near n => ?_⟩
    · show T.cost ≤ _
      omega
    · unfold nearW
      rw [if_pos hm]
      exact (vis_ok T ⟨n, -1, zM⟩ (okW_zero n)).2.1
    · unfold anyW
      rw [if_pos hm]
      exact visA_pos T n
    · unfold nearW
      split
      · have := (vis_ok (l := l) (K := K) (o := o) (d := d) (mask := mask) (skip := skip) T ⟨n, -1, zM⟩ (okW_zero n)).2
        dsimp only at this ⊢
        exact ⟨by omega, this.2⟩
      · exact ⟨Nat.le_refl _, Nat.le_add_right _ _⟩
    · unfold anyW
      split
      · exact visA_n T (n, false)
      · exact ⟨Nat.le_refl _, Nat.le_add_right _ _⟩
    · have hS := nearS_best l o d mask skip l.length (Nat.le_refl _)
      have hV : Best (mtW l o d mask skip) (fun x => x < l.length) (nearW (some T) l K o d mask skip n).i (nearW (some T) l K o d mask skip n).m := by
        unfold nearW
        split
        · have := vis_best (l := l) (o := o) (d := d) (mask := mask) (skip := skip) T [] K [] (fun _ => False) ⟨n, -1, zM⟩ a3 (Best.none fun _ h => h.elim)
          simp only [List.nil_append, List.append_nil, false_or] at this
          exact this.congr hKm
        · rename_i hm
          rw [Bool.not_eq_true] at hm
          exact Best.none fun k _ => no_may hm k
      exact hV.uniq hS
    · rw [anyS_iff l o d mask skip near l.length (Nat.le_refl _)]
      unfold anyW
      split
      · have := visA_any (o := o) (d := d) (mask := mask) (skip := skip) (near := near) T [] K [] n a3
        simp only [List.nil_append, List.append_nil] at this
        dsimp only
        rw [this]
        exact Bool.eq_iff_iff.2 ⟨fun h => by
          obtain ⟨k, hk, hh⟩ := List.any_eq_true.1 h
          exact List.any_eq_true.2 ⟨k, List.mem_range.2 ((hKm k).1 hk), hh⟩, fun h => by
          obtain ⟨k, hk, hh⟩ := List.any_eq_true.1 h
          exact List.any_eq_true.2 ⟨k, (hKm k).2 (List.mem_range.1 hk), hh⟩⟩
      · rename_i hm
        rw [Bool.not_eq_true] at hm
        dsimp only
        symm
        rw [List.any_eq_false]
        intro k _ hh
        rw [hit_may (hitA_mt hh)] at hm
        cases hm
end Go.Proofs.Ytcookaiakfbdiaa
namespace Go.Proofs.Ytcookaiakfbdiaa
open Go.RowKit
set_option maxRecDepth 100000
set_option maxHeartbeats 1000000
attribute [local irreducible] Calls Walk1 WalkTo Tri EndA
theorem build_all (l : List TriS) (hok : ∀ t ∈ l, t.ok) (h4 : l.length ≤ 4096) (hfar : ∀ t ∈ l, farT t = false) (vl : Value) (w : World) (hvl : RdV w 19 vl l.length (trisC l)) :
    Calls Try.prog 9 #[vl] w (RetB w 37 10 (treeL l).1.length (nodesC (treeL l).1) 3 1 (treeL l).2.length (ordC (treeL l).2) (fun v1 v2 => #[v1, v2]) (.int .i64 0)) := by
  by_cases h0 : 0 < l.length
  · exact build_any l hok h0 h4 hfar vl w hvl
  · obtain rfl := List.eq_nil_of_length_eq_zero (show l.length = 0 by omega)
    refine Calls.mono (buildNil_any vl w hvl) ?_
    rintro r w' ⟨rfl, hb⟩
    exact ⟨.slice none 0 0, .slice none 0 0, rfl, ⟨by rfl, .inl ⟨rfl, rfl⟩⟩, ⟨by rfl, .inl ⟨rfl, rfl⟩⟩, fun x hx => (by cases hx), hb⟩
end Go.Proofs.Ytcookaiakfbdiaa
