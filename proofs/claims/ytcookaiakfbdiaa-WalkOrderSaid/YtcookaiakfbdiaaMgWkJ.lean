/- The example of chapter 22: walked. No condition. Triangles in another order, and those that a mask leaves out: plain. No condition. A law's questions. No condition. The law WalkOrder: walked. No condition. -/
import Derived.Test.YtcookaiakfbdiaaMgWkH
import Derived.Test.YtcookaiakfbdiaaMgSwp11
namespace Go.Proofs.Ytcookaiakfbdiaa
open Go.RowKit
set_option maxRecDepth 100000
set_option maxHeartbeats 1000000
section
variable {C : Ctx} {ops : Array Oper} {t : List (Nat × SV)} {h : List (Nat × Option Res)} {l : List Oper} {o : Oper} {d : Nat}
theorem walk1_callNOT {σ : Type} {f : FuncId} {xs : Array Operand} {ats : Array TypeId} {vs : List SV} {rb : List Nat} {j : Nat} {O : Obj σ} {s : σ} {u : Value} {K : St → Prop} (k : Nat) (ho : o.op = .call { callee := .value (.func f), args := xs, argTypes := ats }) (hdn : o.dst = some d) (hg : o.guard = none) (hd : dstB o.dst C.nt = true) (hf : freshB ⟨t, h⟩ d = true) (hxs : EvS ⟨t, h⟩ xs.toList vs) (hc' : tabLook calT f = some j)
    (hcon : ∀ (S' : St) e a w, Holds C S' e a w → (∀ q ∈ rb, S'.res q = (St.mk t h).res q) → Calls Try.prog j (vs.map (·.den e)).toArray w (RetNOT O w s u))
    (hK : Walk1 C Try.prog ops l ⟨(d, .tup [.p d 0, .c u]) :: t, (d, none) :: (k, some (.obj d O s)) :: h⟩ K) : Walk1 C Try.prog ops (o :: l) ⟨t, h⟩ K :=
  ⟨_, op_callNOT (C := C) (ops := ops) ho hdn hg hd hxs hc' k hcon, by simp [hf], hK⟩
end
def exA : TriS := ⟨⟨0, 0, 9⟩, ⟨5, 0, 9⟩, ⟨0, 5, 9⟩, List.replicate 9 (Value.int .i64 0), 1⟩
def exB : TriS := ⟨⟨0, 0, 4⟩, ⟨5, 0, 4⟩, ⟨0, 5, 4⟩, List.replicate 9 (Value.int .i64 0), 1⟩
theorem ex_ok : ∀ t ∈ [exA, exB], t.ok := fun t ht => by
  simp only [List.mem_cons, List.not_mem_nil, or_false] at ht
  rcases ht with rfl | rfl <;> exact ⟨rfl, fun u hu => by obtain ⟨_, rfl⟩ := List.mem_replicate.1 hu; rfl⟩
def exN : List NodeS := [⟨⟨0, 0, 4⟩, ⟨5, 5, 9⟩, -1, -1, 0, 2⟩]
theorem ex_tree : treeL [exA, exB] = (exN, [0, 1]) := by kernel_rfl
def exT : Tr := .leaf 0 0 2 ⟨0, 0, 4⟩ ⟨5, 5, 9⟩
theorem ex_treeS : TreeS [exA, exB] exN [0, 1] (some exT) where
  ok := ex_ok
  tr t h := by
    obtain rfl := Option.some.inj h
    exact ⟨⟨rfl, by decide⟩, rfl⟩
  no h := by cases h
  box x hx := by
    rw [exN, List.mem_singleton] at hx
    subst hx
    constructor <;> intro z hz <;> simp [P3.l] at hz <;> omega
  nl := by decide
  kl := by decide
  dom k hk := by simp at hk; rcases hk with rfl | rfl <;> decide
theorem ex_near1 : nearW (some exT) [exA, exB] [0, 1] ⟨1, 1, 0⟩ ⟨0, 0, 1⟩ 1 (-1) 0 = ⟨3, 1, ⟨100, 25, 5, 5⟩⟩ := by kernel_rfl
theorem ex_near2 : nearW (some exT) [exA, exB] [0, 1] ⟨1, 1, 0⟩ ⟨0, 0, 1⟩ 1 1 3 = ⟨6, 0, ⟨225, 25, 5, 5⟩⟩ := by kernel_rfl
attribute [local irreducible] Calls Walk1 WalkTo Tri EndA
theorem works22_any (w : World) : Calls Try.prog 10 #[] w fun e w' => e = .returned (.bool true) ∧ Below w.heap.size w w' := by
  have cN : ∀ w v, RdV w 19 v 2 (trisC [exA, exB]) → Calls Try.prog 14 #[v] w (RetNOT wkO w ⟨exN, [0, 1], [exA, exB], 0⟩ (.int .i64 0)) := fun w v h => walkNew_any [exA, exB] ex_ok (by decide) exN [0, 1] v w h fun w h => by
    have := build_any [exA, exB] ex_ok (by decide) (by decide) (by intro t ht; simp only [List.mem_cons, List.not_mem_nil, or_false] at ht; rcases ht with rfl | rfl <;> decide) v w h
    rw [ex_tree] at this
    exact this
  have m1 := wkNear_obj exN [0, 1] [exA, exB] 0 (some exT) ex_treeS (by decide) ⟨1, 1, 0⟩ ⟨0, 0, 1⟩ 1 (-1)
  have m2 := wkNear_obj exN [0, 1] [exA, exB] 3 (some exT) ex_treeS (by decide) ⟨1, 1, 0⟩ ⟨0, 0, 1⟩ 1 1
  rw [ex_near1] at m1
  rw [ex_near2] at m2
  simp only [P3.c, M4.c] at m1 m2
  refine calls_tri Try.func10 rfl Try.ntmps10 rfl ?_
  repeat (first | (show Walk1 _ _ _ (_ :: _) _ _; (show HW1 (.assign _); refine wz2 ?_)) | refine go1 ?_ | refine end_block_other rfl ?_ | refine end_scope (fun _ h => by cases h) ?_ | (refine walk_endD ?_ ?_; (· kernel_rfl)) | refine tri_yesA rfl ?_ | refine tri_noA rfl ?_ | refine tri_trueA rfl ?_ | refine tri_falseA rfl ?_)
  refine walk1_t (op_buildC (parts := [(2, .const (.int .i64 9))]) (vs := [.int .i64 9]) #[.int .i64 0, .int .i64 0, .int .i64 9] rfl rfl rfl rfl rfl rfl (by kernel_rfl) (by kernel_rfl)) ?_
  refine walk1_t (op_buildC (parts := [(0, .const (.int .i64 5)), (2, .const (.int .i64 9))]) (vs := [.int .i64 5, .int .i64 9]) #[.int .i64 5, .int .i64 0, .int .i64 9] rfl rfl rfl rfl rfl rfl (by kernel_rfl) (by kernel_rfl)) ?_
  refine walk1_t (op_buildC (parts := [(1, .const (.int .i64 5)), (2, .const (.int .i64 9))]) (vs := [.int .i64 5, .int .i64 9]) #[.int .i64 0, .int .i64 5, .int .i64 9] rfl rfl rfl rfl rfl rfl (by kernel_rfl) (by kernel_rfl)) ?_
  refine walk1_t (op_buildA (parts := [(0, .tmp 8), (1, .tmp 9), (2, .tmp 10)]) (vs := [.agg #[.int .i64 0, .int .i64 0, .int .i64 9], .agg #[.int .i64 5, .int .i64 0, .int .i64 9], .agg #[.int .i64 0, .int .i64 5, .int .i64 9]]) #[.int .i64 0, .int .i64 0, .int .i64 9, .int .i64 5, .int .i64 0, .int .i64 9, .int .i64 0, .int .i64 5, .int .i64 9] rfl rfl rfl rfl rfl rfl rfl (by kernel_rfl)) ?_
  refine walk1_t (op_buildC (parts := [(0, .tmp 11), (5, .const (.int .u8 1))]) (vs := [.agg #[.int .i64 0, .int .i64 0, .int .i64 9, .int .i64 5, .int .i64 0, .int .i64 9, .int .i64 0, .int .i64 5, .int .i64 9], .int .u8 1]) #[.int .i64 0, .int .i64 0, .int .i64 9, .int .i64 5, .int .i64 0, .int .i64 9, .int .i64 0, .int .i64 5, .int .i64 9, .int .i64 0, .int .i64 0, .int .i64 0, .int .i64 0, .int .i64 0, .int .i64 0, .int .i64 0, .int .i64 0, .int .i64 0, .int .u8 1] rfl rfl rfl rfl rfl rfl (by kernel_rfl) (by kernel_rfl)) ?_
  refine walk1_t (op_buildC (parts := [(2, .const (.int .i64 4))]) (vs := [.int .i64 4]) #[.int .i64 0, .int .i64 0, .int .i64 4] rfl rfl rfl rfl rfl rfl (by kernel_rfl) (by kernel_rfl)) ?_
  refine walk1_t (op_buildC (parts := [(0, .const (.int .i64 5)), (2, .const (.int .i64 4))]) (vs := [.int .i64 5, .int .i64 4]) #[.int .i64 5, .int .i64 0, .int .i64 4] rfl rfl rfl rfl rfl rfl (by kernel_rfl) (by kernel_rfl)) ?_
  refine walk1_t (op_buildC (parts := [(1, .const (.int .i64 5)), (2, .const (.int .i64 4))]) (vs := [.int .i64 5, .int .i64 4]) #[.int .i64 0, .int .i64 5, .int .i64 4] rfl rfl rfl rfl rfl rfl (by kernel_rfl) (by kernel_rfl)) ?_
  refine walk1_t (op_buildA (parts := [(0, .tmp 13), (1, .tmp 14), (2, .tmp 15)]) (vs := [.agg #[.int .i64 0, .int .i64 0, .int .i64 4], .agg #[.int .i64 5, .int .i64 0, .int .i64 4], .agg #[.int .i64 0, .int .i64 5, .int .i64 4]]) #[.int .i64 0, .int .i64 0, .int .i64 4, .int .i64 5, .int .i64 0, .int .i64 4, .int .i64 0, .int .i64 5, .int .i64 4] rfl rfl rfl rfl rfl rfl rfl (by kernel_rfl)) ?_
  refine walk1_t (op_buildC (parts := [(0, .tmp 16), (5, .const (.int .u8 1))]) (vs := [.agg #[.int .i64 0, .int .i64 0, .int .i64 4, .int .i64 5, .int .i64 0, .int .i64 4, .int .i64 0, .int .i64 5, .int .i64 4], .int .u8 1]) #[.int .i64 0, .int .i64 0, .int .i64 4, .int .i64 5, .int .i64 0, .int .i64 4, .int .i64 0, .int .i64 5, .int .i64 4, .int .i64 0, .int .i64 0, .int .i64 0, .int .i64 0, .int .i64 0, .int .i64 0, .int .i64 0, .int .i64 0, .int .i64 0, .int .u8 1] rfl rfl rfl rfl rfl rfl (by kernel_rfl) (by kernel_rfl)) ?_
  refine walk1_n (op_bsliceQ rfl rfl rfl rfl rfl rfl rfl rfl rfl rfl (by decide) (by kernel_rfl)) (by kernel_rfl) ?_
  repeat (first | (show Walk1 _ _ _ (_ :: _) _ _; first | (show HW1 (.move _); refine wz1 ?_) | (show HW1 (.assign _); refine wz2 ?_)) | refine go1 ?_ | refine end_block_other rfl ?_ | refine end_scope (fun _ h => by cases h) ?_ | (refine walk_endD ?_ ?_; (· kernel_rfl)) | refine tri_yesA rfl ?_ | refine tri_noA rfl ?_ | refine tri_trueA rfl ?_ | refine tri_falseA rfl ?_)
  refine walk1_callNOT (rb := [18]) (vs := [.s 18 0 2 2]) 900 rfl rfl rfl rfl (by kernel_rfl) evq rfl (fun S' e a w' hS hq => cN w' _ ((rdn_cells (n := 18) (us := trisC [exA, exB]) rfl (by kernel_rfl) (by kernel_rfl)) S' e a w' hq hS)) ?_
  repeat (first | (show Walk1 _ _ _ (_ :: _) _ _; first | (show Walk1 _ _ _ (⟨_, _, _, _, _, some _⟩ :: _) _ _; refine zy1 ?_) | (show HW1 (.move _); refine wz1 ?_) | (show HW1 (.assign _); refine wz2 ?_) | (show HW1 (.binOp .mul _ _ _ _); refine wz125 ?_) | (show HW1 (.binOp .eql _ _ _ _); first | refine wz30 ?_ | refine wz76 ?_) | (show HW1 (.binOp .neq _ _ _ _); refine wz61 ?_) | (show HW1 (.pick _ _ _); first | refine wz8 ?_ | refine wz7 ?_) | (show HW1 (.load _ _); refine wz3 ?_) | (show HW1 (.store _ _ _); refine wz14 ?_) | (show HW1 (.alloc _); refine wz6 ?_) | (show HW1 (.fieldAddr _ _ _); refine wz4 ?_) | (show HW1 (.extract _ _); first | refine wz16 ?_ | refine wz15 ?_ | refine wz84 ?_) | (show HW1 (.build _ _); refine wz25 ?_) | (show HW1 (.call ⟨.value (.func 15), _, _⟩); (first | refine walk1_callObj 900 (m1) rfl rfl rfl rfl evq rfl rfl (fun _ => rfl) ?_ | refine walk1_callObj0 900 (m1) rfl rfl rfl evq rfl rfl (fun _ => rfl) ?_)) | (show HW1 (.call ⟨.value (.func 15), _, _⟩); (first | refine walk1_callObj 900 (m2) rfl rfl rfl rfl evq rfl rfl (fun _ => rfl) ?_ | refine walk1_callObj0 900 (m2) rfl rfl rfl evq rfl rfl (fun _ => rfl) ?_))) | refine go1 ?_ | refine end_block_other rfl ?_ | refine end_scope (fun _ h => by cases h) ?_ | (refine walk_endD ?_ ?_; (· kernel_rfl)) | refine tri_yesA rfl ?_ | refine tri_noA rfl ?_ | refine tri_trueA rfl ?_ | refine tri_falseA rfl ?_)

  refine end_ret (.c (.bool true)) (res_tmp rfl rfl) ?_
  exact fin_below fun _ => rfl
end Go.Proofs.Ytcookaiakfbdiaa
namespace Go.Proofs.Ytcookaiakfbdiaa
open Go.RowKit
set_option maxRecDepth 100000
set_option maxHeartbeats 1000000
/-- What a ray sees of a triangle, whatever its place. -/
def seeT (o d : P3) (mask : BitVec 8) (t : TriS) : M4 × Bool := if (t.mask &&& mask != BitVec.ofInt 8 0) = true then hitM o d t.p0 t.p1 t.p2 else (zM, false)
theorem meetW_see {o d : P3} {mask : BitVec 8} {k : Nat} {t : TriS} : meetW o d mask (-1) k t = seeT o d mask t := by
  unfold meetW seeT
  rw [decide_eq_true (show (k : Int) ≠ -1 by omega), Bool.and_true]
theorem mtW_see {l : List TriS} {o d : P3} {mask : BitVec 8} {k : Nat} {t : TriS} (h : l[k]? = some t) : mtW l o d mask (-1) k = seeT o d mask t := by
  unfold mtW
  rw [h]
  exact meetW_see
theorem zero_lessM (m : M4) : lessM zM m = false := by
  unfold lessM
  rw [show decide (0 < zM.det) = false from rfl, Bool.false_and]
/-- The other way round: found just if it was found, and as near. -/
theorem near_back (l : List TriS) (o d : P3) (mask : BitVec 8) :
    decide ((nearS l o d mask (-1) l.length).1 < 0) = decide ((nearS l.reverse o d mask (-1) l.reverse.length).1 < 0) ∧
      lessM (nearS l o d mask (-1) l.length).2 (nearS l.reverse o d mask (-1) l.reverse.length).2 = false ∧ lessM (nearS l.reverse o d mask (-1) l.reverse.length).2 (nearS l o d mask (-1) l.length).2 = false := by
  have hA := nearS_best l o d mask (-1) l.length (Nat.le_refl _)
  have hB := nearS_best l.reverse o d mask (-1) l.reverse.length (Nat.le_refl _)
  generalize (nearS l o d mask (-1) l.length) = p at *
  generalize (nearS l.reverse o d mask (-1) l.reverse.length) = q at *
  obtain ⟨i, m⟩ := p
  obtain ⟨j, n⟩ := q
  dsimp only at hA hB ⊢
  have hlen : l.reverse.length = l.length := List.length_reverse
  have key : ∀ k, k < l.length → mtW l.reverse o d mask (-1) k = mtW l o d mask (-1) (l.length - 1 - k) ∧ l.length - 1 - k < l.length ∧ l.length - 1 - (l.length - 1 - k) = k := fun k hk => by
    have h1 : l[l.length - 1 - k]? = some l[l.length - 1 - k] := List.getElem?_eq_getElem (by omega)
    have h2 : l.reverse[k]? = some l[l.length - 1 - k] := by rw [List.getElem?_reverse hk, h1]
    exact ⟨(mtW_see h2).trans (mtW_see h1).symm, by omega, by omega⟩
  rcases hA with ⟨rfl, rfl, a3⟩ | ⟨k1, rfl, a2, a3, rfl, a5⟩ <;> rcases hB with ⟨rfl, rfl, b3⟩ | ⟨k2, rfl, b2, b3, rfl, b5⟩
  · exact ⟨rfl, zero_lessM _, zero_lessM _⟩
  · exfalso
    obtain ⟨e1, e2, _⟩ := key k2 (by omega)
    rw [e1] at b3
    rw [a3 _ e2] at b3
    cases b3
  · exfalso
    obtain ⟨_, e2, e3⟩ := key k1 a2
    obtain ⟨f1, _, _⟩ := key (l.length - 1 - k1) e2
    rw [e3] at f1
    have := b3 (l.length - 1 - k1) (by omega)
    rw [f1, a3] at this
    cases this
  · obtain ⟨e1, e2, _⟩ := key k2 (by omega)
    obtain ⟨_, g2, g3⟩ := key k1 a2
    obtain ⟨f1, _, _⟩ := key (l.length - 1 - k1) g2
    rw [g3] at f1
    have p1 := mtW_pos k1 a3
    have p2 := mtW_pos k2 b3
    have q1 := (a5 (l.length - 1 - k2) e2 (by rw [← e1]; exact b3)).1
    have q2 := (b5 (l.length - 1 - k1) (by omega) (by rw [f1]; exact a3)).1
    rw [← e1] at q1
    rw [f1] at q2
    exact ⟨by rw [decide_eq_false (by omega), decide_eq_false (by omega)], (lef_iff p1 p2).2 q2, (lef_iff p2 p1).2 q1⟩
def keepL (mask : BitVec 8) (l : List TriS) : List TriS := l.filter fun t => t.mask &&& mask != BitVec.ofInt 8 0
/-- One triangle more, at the end. -/
def stepN (o d : P3) (mask : BitVec 8) (j : Nat) (t : TriS) (s : Int × M4) : Int × M4 := if ((seeT o d mask t).2 && (decide (s.1 < 0) || lessM (seeT o d mask t).1 s.2)) = true then ((j : Int), (seeT o d mask t).1) else s
theorem near_pre (l r : List TriS) (o d : P3) (mask : BitVec 8) (skip : Int) : ∀ j, j ≤ l.length → nearS (l ++ r) o d mask skip j = nearS l o d mask skip j
  | 0, _ => rfl
  | j + 1, h => by rw [nearS, nearS, List.getElem?_append_left (by omega), near_pre l r o d mask skip j (by omega)]
theorem near_one (l : List TriS) (t : TriS) (o d : P3) (mask : BitVec 8) : nearS (l ++ [t]) o d mask (-1) (l ++ [t]).length = stepN o d mask l.length t (nearS l o d mask (-1) l.length) := by
  have hlen : (l ++ [t]).length = l.length + 1 := by simp
  have ht : (l ++ [t])[l.length]? = some t := by simp
  rw [hlen, nearS, ht, near_pre l [t] o d mask (-1) l.length (Nat.le_refl _)]
  dsimp only
  obtain ⟨e1, e2⟩ := mt_meet (o := o) (d := d) (mask := mask) (skip := -1) ht
  rw [mtW_see ht] at e1 e2
  rw [e1]
  unfold stepN
  cases hs : (seeT o d mask t).2 with
  | false => rw [Bool.false_and, Bool.false_and, if_neg (by decide), if_neg (by decide)]
  | true => rw [e2 hs]
theorem near_keep1 (o d : P3) (mask : BitVec 8) (l : List TriS) : ∀ j, j ≤ l.length →
    decide ((nearS (l.take j) o d mask (-1) (l.take j).length).1 < 0) = decide ((nearS (keepL mask (l.take j)) o d mask (-1) (keepL mask (l.take j)).length).1 < 0) ∧ (nearS (l.take j) o d mask (-1) (l.take j).length).2 = (nearS (keepL mask (l.take j)) o d mask (-1) (keepL mask (l.take j)).length).2
  | 0, _ => ⟨rfl, rfl⟩
  | j + 1, h => by
    obtain ⟨i1, i2⟩ := near_keep1 o d mask l j (by omega)
    have ht : l.take (j + 1) = l.take j ++ [l[j]] := by rw [List.take_succ_eq_append_getElem (by omega)]
    rw [ht]
    generalize l.take j = x at *
    generalize l[j] = t at *
    rw [near_one]
    unfold keepL at *
    rw [List.filter_append]
    cases hm : (t.mask &&& mask != BitVec.ofInt 8 0) with
    | false =>
      have hs : (seeT o d mask t).2 = false := by unfold seeT; rw [hm, if_neg (by decide)]
      have hf : [t].filter (fun t => t.mask &&& mask != BitVec.ofInt 8 0) = [] := by simp only [List.filter_cons, hm, Bool.false_eq_true, if_false, List.filter_nil]
      rw [hf, List.append_nil, stepN, hs, Bool.false_and, if_neg (by decide)]
      exact ⟨i1, i2⟩
    | true =>
      have hf : [t].filter (fun t => t.mask &&& mask != BitVec.ofInt 8 0) = [t] := by simp only [List.filter_cons, hm, if_true, List.filter_nil]
      rw [hf, near_one]
      generalize nearS x o d mask (-1) x.length = s at *
      generalize nearS (x.filter fun t => t.mask &&& mask != BitVec.ofInt 8 0) o d mask (-1) (x.filter fun t => t.mask &&& mask != BitVec.ofInt 8 0).length = u at *
      generalize (x.filter fun t => t.mask &&& mask != BitVec.ofInt 8 0).length = y at *
      unfold stepN
      rw [i1, i2]
      split
      · exact ⟨by rw [decide_eq_false (by dsimp only; omega), decide_eq_false (by dsimp only; omega)], rfl⟩
      · exact ⟨i1, i2⟩
theorem near_keep (o d : P3) (mask : BitVec 8) (l : List TriS) :
    decide ((nearS l o d mask (-1) l.length).1 < 0) = decide ((nearS (keepL mask l) o d mask (-1) (keepL mask l).length).1 < 0) ∧ (nearS l o d mask (-1) l.length).2 = (nearS (keepL mask l) o d mask (-1) (keepL mask l).length).2 := by
  have := near_keep1 o d mask l l.length (Nat.le_refl _)
  rwa [List.take_length] at this
theorem any_see (l : List TriS) (o d : P3) (mask : BitVec 8) (near : Bool) : anyS l o d mask (-1) near l.length = l.any fun t => (seeT o d mask t).2 && (!near || decide ((seeT o d mask t).1.num < (seeT o d mask t).1.det)) := by
  rw [anyS_iff l o d mask (-1) near l.length (Nat.le_refl _)]
  rw [Bool.eq_iff_iff]
  constructor
  · intro h
    obtain ⟨k, hk, hh⟩ := List.any_eq_true.1 h
    have hk := List.mem_range.1 hk
    unfold hitA at hh
    rw [List.getElem?_eq_getElem hk] at hh
    dsimp only at hh
    rw [meetW_see] at hh
    exact List.any_eq_true.2 ⟨l[k], List.getElem_mem hk, hh⟩
  · intro h
    obtain ⟨t, ht, hh⟩ := List.any_eq_true.1 h
    obtain ⟨k, hk, rfl⟩ := List.getElem_of_mem ht
    refine List.any_eq_true.2 ⟨k, List.mem_range.2 hk, ?_⟩
    unfold hitA
    rw [List.getElem?_eq_getElem hk]
    dsimp only
    rw [meetW_see]
    exact hh
theorem any_back (l : List TriS) (o d : P3) (mask : BitVec 8) (near : Bool) : anyS l.reverse o d mask (-1) near l.reverse.length = anyS l o d mask (-1) near l.length := by
  rw [any_see, any_see, List.any_reverse]
end Go.Proofs.Ytcookaiakfbdiaa
namespace Go.Proofs.Ytcookaiakfbdiaa
open Go.RowKit
set_option maxRecDepth 100000
/-- A question. -/
structure AskS where
  o : P3
  d : P3
  mask : BitVec 8
  skip : Int
  near : Bool
def AskS.c (a : AskS) : Array Value := askC a.o a.d a.mask a.skip a.near
end Go.Proofs.Ytcookaiakfbdiaa
namespace Go.Proofs.Ytcookaiakfbdiaa
open Go.RowKit
set_option maxRecDepth 100000
set_option maxHeartbeats 2000000
theorem keep_snoc (mask : BitVec 8) (l : List TriS) (j : Nat) (t : TriS) (h : l[j]? = some t) : keepL mask (l.take (j + 1)) = keepL mask (l.take j) ++ (if (t.mask &&& mask != BitVec.ofInt 8 0) = true then [t] else []) := by
  obtain ⟨hj, rfl⟩ := List.getElem?_eq_some_iff.1 h
  rw [List.take_succ_eq_append_getElem hj]
  unfold keepL
  rw [List.filter_append, List.filter_cons, List.filter_nil]
theorem tris_app (l r : List TriS) : trisC (l ++ r) = trisC l ++ trisC r := List.flatMap_append
theorem tris_single (t : TriS) : trisC [t] = triC t := by simp [trisC]
theorem back_snoc (l : List TriS) (j : Nat) (h : j < l.length) (t : TriS) (ht : l[l.length - 1 - j]? = some t) : l.reverse.take (j + 1) = l.reverse.take j ++ [t] := by
  rw [List.take_succ_eq_append_getElem (by rw [List.length_reverse]; exact h)]
  congr 2
  have : l.reverse[j]? = some t := by rw [List.getElem?_reverse h, ht]
  exact (List.getElem?_eq_some_iff.1 this).2
theorem keep_mem {mask : BitVec 8} {l : List TriS} {t : TriS} (h : t ∈ keepL mask l) : t ∈ l := (List.mem_filter.1 h).1
theorem near_okM (l : List TriS) (o d : P3) (mask : BitVec 8) (skip : Int) (j : Nat) (l' : List TriS) (j' : Nat) (w : World) : Calls Try.prog 16 #[.agg (nearS l o d mask skip j).2.c, .agg (nearS l' o d mask skip j').2.c] w fun e w' => e = .returned (.bool (lessM (nearS l o d mask skip j).2 (nearS l' o d mask skip j').2)) ∧ Below w.heap.size w w' := by
  have h1 := near_ok l o d mask skip j
  have h2 := near_ok l' o d mask skip j'
  exact lessT_any _ _ w (.inr (.inr ⟨h1.1, h2.1⟩)) h1.2.1 h2.2.1 h1.2.2 h2.2.2
theorem far_or (l : List TriS) : (∃ t ∈ l, farT t = true) ∨ (∀ t ∈ l, farT t = false) := by
  by_cases h : ∃ t ∈ l, farT t = true
  · exact .inl h
  · refine .inr fun t ht => ?_
    cases hb : farT t with
    | false => rfl
    | true => exact absurd ⟨t, ht, hb⟩ h
/-- The three walks, and what they tell. -/
theorem order_facts (D : List TriS) (hD : D.length ≤ 60) (hok : ∀ t ∈ D, t.ok) (hnf : ∀ t ∈ D, farT t = false) (o d : P3) (mask : BitVec 8) (near : Bool) :
    ∃ (N1 N2 N3 : List NodeS) (K1 K2 K3 : List Nat) (n1 n2 n3 a1 a2 : Nat) (x y z : Int) (m n : M4) (b : Bool),
      (∀ v w, RdV w 19 v D.length (trisC D) → Calls Try.prog 14 #[v] w (RetNOT wkO w ⟨N1, K1, D, 0⟩ (.int .i64 0))) ∧
      (∀ v w, RdV w 19 v D.reverse.length (trisC D.reverse) → Calls Try.prog 14 #[v] w (RetNOT wkO w ⟨N2, K2, D.reverse, 0⟩ (.int .i64 0))) ∧
      (∀ v w, RdV w 19 v (keepL mask D).length (trisC (keepL mask D)) → Calls Try.prog 14 #[v] w (RetNOT wkO w ⟨N3, K3, keepL mask D, 0⟩ (.int .i64 0))) ∧
      ObjM wkO 15 (fun b => #[.pointer (some ⟨b, 0, none⟩), .agg o.c, .agg d.c, .int .u8 (bvi mask), .int .i64 (-1)]) ⟨N1, K1, D, 0⟩ ⟨N1, K1, D, n1⟩ (.tuple #[.int .i64 x, .agg m.c]) ∧
      ObjM wkO 15 (fun b => #[.pointer (some ⟨b, 0, none⟩), .agg o.c, .agg d.c, .int .u8 (bvi mask), .int .i64 (-1)]) ⟨N2, K2, D.reverse, 0⟩ ⟨N2, K2, D.reverse, n2⟩ (.tuple #[.int .i64 y, .agg n.c]) ∧
      ObjM wkO 15 (fun b => #[.pointer (some ⟨b, 0, none⟩), .agg o.c, .agg d.c, .int .u8 (bvi mask), .int .i64 (-1)]) ⟨N3, K3, keepL mask D, 0⟩ ⟨N3, K3, keepL mask D, n3⟩ (.tuple #[.int .i64 z, .agg m.c]) ∧
      ObjM wkO 17 (fun b => #[.pointer (some ⟨b, 0, none⟩), .agg o.c, .agg d.c, .int .u8 (bvi mask), .int .i64 (-1), .bool near]) ⟨N1, K1, D, n1⟩ ⟨N1, K1, D, a1⟩ (.bool b) ∧
      ObjM wkO 17 (fun b => #[.pointer (some ⟨b, 0, none⟩), .agg o.c, .agg d.c, .int .u8 (bvi mask), .int .i64 (-1), .bool near]) ⟨N2, K2, D.reverse, n2⟩ ⟨N2, K2, D.reverse, a2⟩ (.bool b) ∧
      decide (x < 0) = decide (y < 0) ∧ decide (x < 0) = decide (z < 0) ∧
      (∀ w, Calls Try.prog 16 #[.agg m.c, .agg n.c] w fun e w' => e = .returned (.bool false) ∧ Below w.heap.size w w') ∧
      (∀ w, Calls Try.prog 16 #[.agg n.c, .agg m.c] w fun e w' => e = .returned (.bool false) ∧ Below w.heap.size w w') := by
  have okB : ∀ t ∈ D.reverse, t.ok := fun t ht => hok t (List.mem_reverse.1 ht)
  have nfB : ∀ t ∈ D.reverse, farT t = false := fun t ht => hnf t (List.mem_reverse.1 ht)
  have okF : ∀ t ∈ keepL mask D, t.ok := fun t ht => hok t (keep_mem ht)
  have nfF : ∀ t ∈ keepL mask D, farT t = false := fun t ht => hnf t (keep_mem ht)
  have lB : D.reverse.length ≤ 60 := by rw [List.length_reverse]; exact hD
  have lF : (keepL mask D).length ≤ 60 := Nat.le_trans (List.length_filter_le _ _) hD
  obtain ⟨T1, W1⟩ := walk_of D hok (by omega) hnf
  obtain ⟨T2, W2⟩ := walk_of D.reverse okB (by omega) nfB
  obtain ⟨T3, W3⟩ := walk_of (keepL mask D) okF (by omega) nfF
  have c1 : costT T1 ≤ 2000000 := by have := W1.cost; have := W1.ts.nl; omega
  have c2 : costT T2 ≤ 2000000 := by have := W2.cost; have := W2.ts.nl; omega
  have c3 : costT T3 ≤ 2000000 := by have := W3.cost; have := W3.ts.nl; omega
  have e1 := wkNear_obj _ _ D 0 T1 W1.ts (by omega) o d mask (-1)
  have e2 := wkNear_obj _ _ D.reverse 0 T2 W2.ts (by omega) o d mask (-1)
  have e3 := wkNear_obj _ _ (keepL mask D) 0 T3 W3.ts (by omega) o d mask (-1)
  have b1 := (W1.less o d mask (-1) 0).2
  have b2 := (W2.less o d mask (-1) 0).2
  have f1 := wkAny_obj _ _ D (nearW T1 D (treeL D).2 o d mask (-1) 0).n T1 W1.ts (by omega) o d mask (-1) near
  have f2 := wkAny_obj _ _ D.reverse (nearW T2 D.reverse (treeL D.reverse).2 o d mask (-1) 0).n T2 W2.ts (by omega) o d mask (-1) near
  rw [(W1.near ..).1, (W1.near ..).2] at e1
  rw [(W2.near ..).1, (W2.near ..).2] at e2
  rw [(W3.near ..).1, (W3.near ..).2] at e3
  rw [W1.any ..] at f1
  rw [W2.any .., any_back] at f2
  obtain ⟨g1, g2, g3⟩ := near_back D o d mask
  obtain ⟨k1, k2⟩ := near_keep o d mask D
  rw [← k2] at e3
  have l1 := near_okM D o d mask (-1) D.length D.reverse D.reverse.length
  have l2 := near_okM D.reverse o d mask (-1) D.reverse.length D D.length
  rw [g2] at l1
  rw [g3] at l2
  exact ⟨_, _, _, _, _, _, _, _, _, _, _, _, _, _, _, _, _, fun v w h => walkNew_all D hok (by omega) hnf v w h, fun v w h => walkNew_all _ okB (by omega) nfB v w h, fun v w h => walkNew_all _ okF (by omega) nfF v w h, e1, e2, e3, f1, f2, g1, k1, l1, l2⟩
attribute [local irreducible] Calls Walk1 WalkTo Tri EndA
theorem walkOrder_walk (v : Value) (es : List TriS) (hok : ∀ e ∈ es, e.ok) (o d : P3) (mask : BitVec 8) (skip : Int) (near : Bool) (w : World) (hv : FS w 19 v es.length (trisC es)) :
    Calls Try.prog 4 #[v, .agg (askC o d mask skip near)] w fun e w' => e = .returned (.bool true) ∧ Below w.heap.size w w' := by
  obtain ⟨D, u, hD, hDok, hfx, hcv⟩ := few21_cut hv hok
  have hrd := hv.rd
  have hsl := hv.2
  have cf := fun w h => few21_any es.length (trisC es) v w ⟨h, hsl⟩
  rw [hcv] at cf
  have hdr := hfx.rd
  have cw := fun w => works22_any w
  clear hcv hsl hfx hok hv
  obtain ⟨B, hB⟩ : ∃ B, B = D.reverse := ⟨_, rfl⟩
  obtain ⟨F, hF⟩ : ∃ F, F = keepL mask D := ⟨_, rfl⟩
  have hBl : B.length = D.length := by rw [hB, List.length_reverse]
  have hFl : F.length ≤ D.length := by rw [hF]; exact List.length_filter_le _ _
  have hBok : ∀ t ∈ B, t.ok := fun t ht => hDok t (by rw [hB] at ht; exact List.mem_reverse.1 ht)
  have hFok : ∀ t ∈ F, t.ok := fun t ht => hDok t (by rw [hF] at ht; exact keep_mem ht)
  obtain ⟨XB, hXB⟩ : ∃ f : Nat → List Value, ∀ j, f j = trisC (D.reverse.take j) := ⟨_, fun _ => rfl⟩
  obtain ⟨XF, hXF⟩ : ∃ f : Nat → List Value, ∀ j, f j = trisC (keepL mask (D.take j)) := ⟨_, fun _ => rfl⟩
  obtain ⟨nF, hnF⟩ : ∃ f : Nat → Nat, ∀ j, f j = (keepL mask (D.take j)).length := ⟨_, fun _ => rfl⟩
  have hB0 : XB 0 = [] := hXB 0
  have hF0 : XF 0 = [] := hXF 0
  have hn0 : nF 0 = 0 := hnF 0
  have hBe : trisC B = XB D.length := by rw [hXB, hB, ← List.length_reverse, List.take_length]
  have hFe : trisC F = XF D.length := by rw [hXF, hF, List.take_length]
  have hne : F.length = nF D.length := by rw [hnF, hF, List.take_length]
  have hnle : ∀ j, j ≤ D.length → nF j ≤ j := fun j hj => by rw [hnF]; refine Nat.le_trans (List.length_filter_le _ _) ?_; rw [List.length_take]; omega
  have step : ∀ j, j < D.length → ∃ t s : TriS, t ∈ D ∧ s ∈ D ∧ ((trisC D).drop (0 + (D.length - 1 - j) * 19)).take 19 = triC t ∧ ((trisC D).drop (0 + j * 19)).take 19 = triC s ∧ (trisC D)[0 + j * 19 + 18]? = some (.int .u8 (bvi s.mask)) ∧ XB (j + 1) = XB j ++ triC t ∧ XF (j + 1) = XF j ++ (if (s.mask &&& mask != BitVec.ofInt 8 0) = true then triC s else []) ∧ nF (j + 1) = nF j + (if (s.mask &&& mask != BitVec.ofInt 8 0) = true then 1 else 0) := by
    intro j hj
    obtain ⟨t, ht⟩ : ∃ t, D[D.length - 1 - j]? = some t := ⟨_, List.getElem?_eq_getElem (by omega)⟩
    obtain ⟨s, hs⟩ : ∃ s, D[j]? = some s := ⟨_, List.getElem?_eq_getElem hj⟩
    refine ⟨t, s, List.mem_of_getElem? ht, List.mem_of_getElem? hs, tri_row hDok ht, tri_row hDok hs, ?_, ?_, ?_, ?_⟩
    · have := tris_mask D hDok j s hs
      rw [Nat.zero_add]; exact this
    · rw [hXB, hXB, back_snoc D j hj t ht, tris_app, tris_single]
    · rw [hXF, hXF, keep_snoc mask D j s hs, tris_app]
      split
      · rw [tris_single]
      · rfl
    · rw [hnF, hnF, keep_snoc mask D j s hs, List.length_append]
      split <;> rfl
  have hlen := tris_len D hDok
  have h19 := fun (t : TriS) (ht : t ∈ D) => triC_length t (hDok t ht)
  have h1c : ∀ t ∈ D, ∀ u ∈ triC t, u.oneCell' = true := fun t ht u hu => tris_oneC D hDok u (List.mem_flatMap.2 ⟨t, ht, hu⟩)
  have hfarB : (∃ t ∈ B, farT t = true) ↔ ∃ t ∈ D, farT t = true := by rw [hB]; simp only [List.mem_reverse]
  have hcase : ((∀ w, RdV w 19 u D.length (trisC D) → Calls Try.prog 14 #[u] w fun e w' => e = .returned (.tuple #[.pointer none, .int .i64 8]) ∧ Below w.heap.size w w') ∧ (∀ v w, RdV w 19 v D.length (XB D.length) → Calls Try.prog 14 #[v] w fun e w' => e = .returned (.tuple #[.pointer none, .int .i64 8]) ∧ Below w.heap.size w w') ∧
      ((∀ v w, RdV w 19 v (nF D.length) (XF D.length) → Calls Try.prog 14 #[v] w fun e w' => e = .returned (.tuple #[.pointer none, .int .i64 8]) ∧ Below w.heap.size w w') ∨ (∃ N3 K3, ∀ v w, RdV w 19 v (nF D.length) (XF D.length) → Calls Try.prog 14 #[v] w (RetNOT wkO w ⟨N3, K3, F, 0⟩ (.int .i64 0))))) ∨
      (∀ t ∈ D, farT t = false) := by
    rcases far_or D with hfar | hnf
    · refine .inl ⟨fun w h => walkNewFar_any D hDok (by omega) hfar u w h, ?_, ?_⟩
      · rw [← hBe, ← hBl]
        exact fun v w h => walkNewFar_any B hBok (by omega) (hfarB.2 hfar) v w h
      · rw [← hFe, ← hne]
        rcases far_or F with hf | hf
        · exact .inl fun v w h => walkNewFar_any F hFok (by omega) hf v w h
        · exact .inr ⟨_, _, fun v w h => walkNew_all F hFok (by omega) hf v w h⟩
    · exact .inr hnf
  have hfacts := fun hnf => order_facts D hD hDok hnf o d mask near
  rw [← hB, ← hF, hBl, hBe, hne, hFe] at hfacts
  clear hfarB hBok hFok hBe hFe hne hXB hXF hnF hBl hFl hDok hB hF
  obtain ⟨ox, oy, oz⟩ := o
  obtain ⟨dx, dy, dz⟩ := d
  simp only [askC, P3.c] at *
  generalize trisC es = ES at *
  generalize es.length = EL at *
  generalize hdn : D.length = dn at *
  generalize hXS : trisC D = XS at *
  refine calls_tri Try.func4 rfl Try.ntmps4 rfl ?_
  repeat (first | (show Walk1 _ _ _ (_ :: _) _ _; first | (show HW1 (.move _); first | refine wz40 ?_ | refine wz1 ?_) | (show HW1 (.assign _); refine wz2 ?_) | (show HW1 (.box _ _); refine wz11 ?_) | (show HW1 (.call ⟨.builtin .len, _, _⟩); refine wz27 ?_) | (show HW1 (.call ⟨.value (.func 8), _, _⟩); (refine cwalk1M 8 ?_; refine ⟨_, _, callM_1 (rdn_old hrd (by omega) rfl) (fun e w h1 => cf w h1), ?_⟩))) | refine go1 ?_ | refine end_block_other rfl ?_ | refine end_scope (fun _ h => by cases h) ?_ | (refine walk_endD ?_ ?_; (· kernel_rfl)) | refine tri_yesA rfl ?_ | refine tri_noA rfl ?_ | refine tri_trueA rfl ?_ | refine tri_falseA rfl ?_)
  refine tri_ent (ent_nil (i := 5) (n := 5) 48 19 rfl (by kernel_rfl)) ?_
  refine tri_ent (ent_nil (i := 6) (n := 6) 48 19 rfl (by kernel_rfl)) ?_
  repeat (first | refine go1 ?_ | refine end_block_other rfl ?_ | refine end_scope (fun _ h => by cases h) ?_ | (refine walk_endD ?_ ?_; (· kernel_rfl)) | refine tri_yesA rfl ?_ | refine tri_noA rfl ?_ | refine tri_trueA rfl ?_ | refine tri_falseA rfl ?_)
  refine tri_loop (X := Nat) (fun j => ⟨[(24, SV.c (.int .i64 ((j : Nat) : Int))), (23, SV.c (.int .i64 ((dn : Nat) : Int))), (0, .c u), (3, .p 3 0), (4, .c (.bool false)), (5, .v 5), (6, .v 6)], [(3, some (.blk 3 26 (.c #[.int .i64 ox, .int .i64 oy, .int .i64 oz, .int .i64 dx, .int .i64 dy, .int .i64 dz, .int .u8 (bvi mask), .int .i64 skip, .bool near]))), (5, some (.own 5 48 19 j (XB j))), (6, some (.own 6 48 19 (nF j) (XF j)))]⟩)
    (fun j => j ≤ dn) (fun j => dn - j) 0 (by omega) (by rw [hB0, hF0, hn0]; exact ent_keep (by repeat (first | exact hasT_nil | refine hasT_cons rfl ?_ | refine hasT_eq rfl (svi (by omega)) ?_)) (by repeat (first | exact hasR_nil | refine hasR_cons rfl ?_))) ?_
  intro j hj K next
  by_cases h : j < dn
  · obtain ⟨t, s, htD, hsD, r1, r2, r3, x1, x2, x3⟩ := step j h
    have nx := fun S' => next S' (j + 1)
    rw [x1, x2, x3] at nx
    have g1 := hnle j hj
    have i1 : (dn - 1 - j) * 19 + 19 ≤ XS.length := by rw [hlen]; omega
    have i2 : j * 19 + 19 ≤ XS.length := by rw [hlen]; omega
    have m1 := h19 t htD
    have m2 := h1c t htD
    have m3 : (triC t).toArray.size = 19 := by simpa using m1
    have m4 := h19 s hsD
    have m5 := h1c s hsD
    have m6 : (triC s).toArray.size = 19 := by simpa using m4
    clear next step hnle hcase hfacts cf cw h19 h1c hB0 hF0 hn0 hrd x1 x2 x3
    generalize hq : (s.mask &&& mask != BitVec.ofInt 8 0) = Q at *
    generalize s.mask = SM at *
    generalize triC t = TC at *
    generalize triC s = SC at *
    generalize XB j = YB at *
    generalize XF j = YF at *
    generalize nF j = yn at *
    cases Q
    · rw [if_neg (by decide), if_neg (by decide), List.append_nil, Nat.add_zero] at nx
      repeat (first | (show Walk1 _ _ _ (_ :: _) _ _; first | (show HW1 (.move _); refine wz1 ?_) | (show HW1 (.assign _); refine wz2 ?_) | (show HW1 (.binOp .add _ _ _ _); refine wz10 ?_) | (show HW1 (.binOp .sub _ _ _ _); refine wz35 ?_) | (show HW1 (.binOp .lss _ _ _ _); refine wz5 ?_) | (show HW1 (.indexAddr _ _ _); refine wz26 ?_) | (show HW1 (.load _ _); refine wz51 ?_) | (show HW1 (.call ⟨.builtin .len, _, _⟩); refine wz27 ?_) | (show HW1 (.call ⟨.builtin .append, _, _⟩); refine walk1_g (op_appendE rfl rfl rfl rfl rfl rfl rfl rfl rfl rfl (by decide) (by first | (with_reducible assumption) | rfl) (by first | (with_reducible assumption) | rfl) (by omega) rfl) (by kernel_rfl) ?_) | (show HW1 (.buildSlice _ _ _); refine walk1_n (op_bslice1 rfl rfl rfl rfl rfl rfl rfl rfl rfl rfl rfl ce_c (sm_c (by with_reducible assumption)) (by kernel_rfl)) (by kernel_rfl) ?_)) | (show WalkTo _ _ _ _ (_ :: _) _ _ _; first | (show HW2 (.move _); refine wz20 ?_) | (show HW2 (.binOp .neq _ _ _ _); refine walk_t (op_neB rfl rfl rfl evb evb) ?_) | (show HW2 (.binOp .and _ _ _ _); refine walk_t (op_andB rfl rfl rfl evb evb) ?_) | (show HW2 (.indexAddr _ _ _); refine wz45 ?_) | (show HW2 (.load _ _); first | refine wz24 ?_ | refine walk_t (op_loadF rfl rfl rfl rfl rfl rfl rfl rva (by omega) (by assumption)) ?_) | (show HW2 (.fieldAddr _ _ _); first | refine wz49 ?_ | refine wz62 ?_)) | refine go1 ?_ | refine end_block_other rfl ?_ | refine end_scope (fun _ h => by cases h) ?_ | (refine walk_endD ?_ ?_; (· kernel_rfl)) | refine tri_yesA rfl ?_ | refine tri_noA rfl ?_ | refine tri_trueA rfl ?_ | refine tri_falseA rfl ?_)
      exact nx _ (by omega) (by omega) (ent_ren (fun n => cond (Nat.beq n 5) 37 n) (by repeat (first | exact hasTm_nil | refine hasTm_cons rfl (fun _ => rfl) ?_)) (by repeat (first | exact hasRm_nil | refine hasRm_cons rfl (fun _ => rfl) (fun _ _ h => h) rfl ?_)) (by kernel_rfl))
    · rw [if_pos rfl, if_pos rfl] at nx
      repeat (first | (show Walk1 _ _ _ (_ :: _) _ _; first | (show HW1 (.move _); refine wz1 ?_) | (show HW1 (.assign _); refine wz2 ?_) | (show HW1 (.binOp .add _ _ _ _); refine wz10 ?_) | (show HW1 (.binOp .sub _ _ _ _); refine wz35 ?_) | (show HW1 (.binOp .lss _ _ _ _); refine wz5 ?_) | (show HW1 (.indexAddr _ _ _); refine wz26 ?_) | (show HW1 (.load _ _); refine wz51 ?_) | (show HW1 (.call ⟨.builtin .len, _, _⟩); refine wz27 ?_) | (show HW1 (.call ⟨.builtin .append, _, _⟩); refine walk1_g (op_appendE rfl rfl rfl rfl rfl rfl rfl rfl rfl rfl (by decide) (by first | (with_reducible assumption) | rfl) (by first | (with_reducible assumption) | rfl) (by omega) rfl) (by kernel_rfl) ?_) | (show HW1 (.buildSlice _ _ _); refine walk1_n (op_bslice1 rfl rfl rfl rfl rfl rfl rfl rfl rfl rfl rfl ce_c (sm_c (by with_reducible assumption)) (by kernel_rfl)) (by kernel_rfl) ?_)) | (show WalkTo _ _ _ _ (_ :: _) _ _ _; first | (show HW2 (.move _); refine wz20 ?_) | (show HW2 (.binOp .neq _ _ _ _); refine walk_t (op_neB rfl rfl rfl evb evb) ?_) | (show HW2 (.binOp .and _ _ _ _); refine walk_t (op_andB rfl rfl rfl evb evb) ?_) | (show HW2 (.indexAddr _ _ _); refine wz45 ?_) | (show HW2 (.load _ _); first | refine wz24 ?_ | refine walk_t (op_loadF rfl rfl rfl rfl rfl rfl rfl rva (by omega) (by assumption)) ?_) | (show HW2 (.fieldAddr _ _ _); first | refine wz49 ?_ | refine wz62 ?_)) | refine go1 ?_ | refine end_block_other rfl ?_ | refine end_scope (fun _ h => by cases h) ?_ | (refine walk_endD ?_ ?_; (· kernel_rfl)) | refine tri_yesA rfl ?_ | refine tri_noA rfl ?_ | refine tri_trueA rfl ?_ | refine tri_falseA rfl ?_)
      exact nx _ (by omega) (by omega) (ent_ren (fun n => cond (Nat.beq n 5) 37 (cond (Nat.beq n 6) 53 n)) (by repeat (first | exact hasTm_nil | refine hasTm_cons rfl (fun _ => rfl) ?_)) (by repeat (first | exact hasRm_nil | refine hasRm_cons rfl (fun _ => rfl) (fun _ _ h => h) rfl ?_)) (by kernel_rfl))
  · obtain rfl : j = dn := by omega
    clear next step hnle h hj h19 h1c hB0 hF0 hn0 hlen hXS
    generalize XB j = YB at *
    generalize XF j = YF at *
    generalize nF j = yn at *
    rcases hcase with ⟨c1, c2, c3⟩ | hnf
    · clear hfacts
      rcases c3 with c3 | ⟨N3, K3, c3⟩
      · repeat (first | (show Walk1 _ _ _ (_ :: _) _ _; first | (show Walk1 _ _ _ (⟨_, _, _, _, _, some _⟩ :: _) _ _; first | refine zy1 ?_ | refine zn1 ?_) | (show HW1 (.move _); refine wz1 ?_) | (show HW1 (.assign _); refine wz2 ?_) | (show HW1 (.binOp .lss _ _ _ _); refine wz5 ?_) | (show HW1 (.binOp .eql _ _ _ _); refine wz30 ?_) | (show HW1 (.binOp .neq _ _ _ _); refine wz61 ?_) | (show HW1 (.pick _ _ _); refine wz8 ?_) | (show HW1 (.extract _ _); first | refine wz16 ?_ | refine wz15 ?_) | (show HW1 (.call ⟨.value (.func 14), _, _⟩); (refine cwalk1M 14 ?_; refine ⟨_, _, callM_1 (rdn_old hdr (by omega) rfl) (fun e w h1 => c1 w h1), ?_⟩)) | (show HW1 (.call ⟨.value (.func 14), _, _⟩); (refine cwalk1M 14 ?_; refine ⟨_, _, callM_1 (rdn_own rfl) (fun e w h1 => c2 _ w h1), ?_⟩)) | (show HW1 (.call ⟨.value (.func 14), _, _⟩); (refine cwalk1M 14 ?_; refine ⟨_, _, callM_1 (rdn_own rfl) (fun e w h1 => c3 _ w h1), ?_⟩)) | (show HW1 (.call ⟨.value (.func 10), _, _⟩); ((first | refine cwalk11 10 ?_ | refine cwalk10 10 ?_); refine ⟨_, fun e w => cw w, ?_⟩))) | refine go1 ?_ | refine end_block_other rfl ?_ | refine end_scope (fun _ h => by cases h) ?_ | (refine walk_endD ?_ ?_; (· kernel_rfl)) | refine tri_yesA rfl ?_ | refine tri_noA rfl ?_ | refine tri_trueA rfl ?_ | refine tri_falseA rfl ?_)
        refine end_ret (.c (.bool true)) (res_tmp rfl rfl) ?_
        exact fin_below fun _ => rfl
      · repeat (first | (show Walk1 _ _ _ (_ :: _) _ _; first | (show HW1 (.move _); refine wz1 ?_) | (show HW1 (.assign _); refine wz2 ?_) | (show HW1 (.binOp .lss _ _ _ _); refine wz5 ?_) | (show HW1 (.extract _ _); first | refine wz16 ?_ | refine wz15 ?_) | (show HW1 (.call ⟨.value (.func 14), _, _⟩); (refine cwalk1M 14 ?_; refine ⟨_, _, callM_1 (rdn_old hdr (by omega) rfl) (fun e w h1 => c1 w h1), ?_⟩)) | (show HW1 (.call ⟨.value (.func 14), _, _⟩); (refine cwalk1M 14 ?_; refine ⟨_, _, callM_1 (rdn_own rfl) (fun e w h1 => c2 _ w h1), ?_⟩))) | refine go1 ?_ | refine end_block_other rfl ?_ | refine end_scope (fun _ h => by cases h) ?_ | (refine walk_endD ?_ ?_; (· kernel_rfl)) | refine tri_yesA rfl ?_ | refine tri_noA rfl ?_ | refine tri_trueA rfl ?_ | refine tri_falseA rfl ?_)
        refine walk1_callNOT (rb := [6]) (vs := [.v 6]) 912 rfl rfl rfl rfl (by kernel_rfl) evq rfl (fun S' e a w' hS hq => c3 _ w' (rdn_own rfl S' e a w' hq hS)) ?_
        repeat (first | (show Walk1 _ _ _ (_ :: _) _ _; first | (show Walk1 _ _ _ (⟨_, _, _, _, _, some _⟩ :: _) _ _; first | refine zy1 ?_ | refine zn1 ?_) | (show HW1 (.move _); refine wz1 ?_) | (show HW1 (.assign _); refine wz2 ?_) | (show HW1 (.binOp .eql _ _ _ _); refine wz30 ?_) | (show HW1 (.binOp .neq _ _ _ _); refine wz61 ?_) | (show HW1 (.pick _ _ _); refine wz8 ?_) | (show HW1 (.extract _ _); refine wz84 ?_) | (show HW1 (.call ⟨.value (.func 10), _, _⟩); ((first | refine cwalk11 10 ?_ | refine cwalk10 10 ?_); refine ⟨_, fun e w => cw w, ?_⟩))) | refine go1 ?_ | refine end_block_other rfl ?_ | refine end_scope (fun _ h => by cases h) ?_ | (refine walk_endD ?_ ?_; (· kernel_rfl)) | refine tri_yesA rfl ?_ | refine tri_noA rfl ?_ | refine tri_trueA rfl ?_ | refine tri_falseA rfl ?_)
        refine end_ret (.c (.bool true)) (res_tmp rfl rfl) ?_
        exact fin_below fun _ => rfl
    · obtain ⟨N1, N2, N3, K1, K2, K3, n1, n2, n3, a1, a2, x, y, z, m, n, b, c1, c2, c3, e1, e2, e3, f1, f2, g1, g2, l1, l2⟩ := hfacts hnf
      have hms1 : m.c.size = 4 := rfl
      have hmo1 : m.c.all (·.oneCell') = true := by simp [M4.c]; exact ⟨rfl, rfl, rfl, rfl⟩
      have hmr1 := eqMt_refl m
      have hns1 : n.c.size = 4 := rfl
      have hno1 : n.c.all (·.oneCell') = true := by simp [M4.c]; exact ⟨rfl, rfl, rfl, rfl⟩
      have hYY : (b == b) = true := by cases b <;> rfl
      have q1 : (!(decide (x < 0) == decide (y < 0))) = false := by rw [g1]; cases decide (y < 0) <;> rfl
      have q2 : (!(decide (x < 0) == decide (z < 0))) = false := by rw [g2]; cases decide (z < 0) <;> rfl
      clear hfacts hnf g1 g2
      generalize m.c = MC at *
      generalize n.c = NC at *
      generalize hBd : D.reverse = B at *
      repeat (first | (show Walk1 _ _ _ (_ :: _) _ _; first | (show HW1 (.move _); refine wz1 ?_) | (show HW1 (.binOp .lss _ _ _ _); refine wz5 ?_)) | refine go1 ?_ | refine end_block_other rfl ?_ | refine end_scope (fun _ h => by cases h) ?_ | (refine walk_endD ?_ ?_; (· kernel_rfl)) | refine tri_yesA rfl ?_ | refine tri_noA rfl ?_ | refine tri_trueA rfl ?_ | refine tri_falseA rfl ?_)
      refine walk1_callNOT (rb := []) (vs := [.c u]) 910 rfl rfl rfl rfl (by kernel_rfl) evq rfl (fun S' e a w' hS _ => c1 _ w' (rdn_old (S := S') hdr (by omega) rfl S' e a w' (fun _ h => by cases h) hS)) ?_
      repeat (first | (show Walk1 _ _ _ (_ :: _) _ _; first | (show HW1 (.move _); refine wz1 ?_) | (show HW1 (.assign _); refine wz2 ?_) | (show HW1 (.extract _ _); refine wz84 ?_)) | refine go1 ?_ | refine end_block_other rfl ?_ | refine end_scope (fun _ h => by cases h) ?_ | (refine walk_endD ?_ ?_; (· kernel_rfl)) | refine tri_yesA rfl ?_ | refine tri_noA rfl ?_ | refine tri_trueA rfl ?_ | refine tri_falseA rfl ?_)
      refine walk1_callNOT (rb := [5]) (vs := [.v 5]) 911 rfl rfl rfl rfl (by kernel_rfl) evq rfl (fun S' e a w' hS hq => c2 _ w' (rdn_own rfl S' e a w' hq hS)) ?_
      repeat (first | (show Walk1 _ _ _ (_ :: _) _ _; first | (show HW1 (.move _); refine wz1 ?_) | (show HW1 (.assign _); refine wz2 ?_) | (show HW1 (.extract _ _); refine wz84 ?_)) | refine go1 ?_ | refine end_block_other rfl ?_ | refine end_scope (fun _ h => by cases h) ?_ | (refine walk_endD ?_ ?_; (· kernel_rfl)) | refine tri_yesA rfl ?_ | refine tri_noA rfl ?_ | refine tri_trueA rfl ?_ | refine tri_falseA rfl ?_)
      refine walk1_callNOT (rb := [6]) (vs := [.v 6]) 912 rfl rfl rfl rfl (by kernel_rfl) evq rfl (fun S' e a w' hS hq => c3 _ w' (rdn_own rfl S' e a w' hq hS)) ?_
      repeat (first | (show Walk1 _ _ _ (_ :: _) _ _; first | (show Walk1 _ _ _ (⟨_, _, _, _, _, some _⟩ :: _) _ _; refine zy1 ?_) | (show HW1 (.move _); refine wz1 ?_) | (show HW1 (.assign _); refine wz2 ?_) | (show HW1 (.binOp .lss _ _ _ _); refine wz12 ?_) | (show HW1 (.binOp .eql _ _ _ _); refine wz76 ?_) | (show HW1 (.binOp .neq _ _ _ _); first | refine wz61 ?_ | refine wz69 ?_ | refine walk1_t (op_neR (by assumption) rfl rfl rfl rfl rfl (fun _ => rfl) (fun _ => rfl) (by kernel_rfl)) ?_) | (show HW1 (.pick _ _ _); refine wz7 ?_) | (show HW1 (.load _ _); first | refine wz3 ?_ | refine wz9 ?_ | refine wz31 ?_) | (show HW1 (.store _ _ _); refine wz23 ?_) | (show HW1 (.alloc _); refine wz6 ?_) | (show HW1 (.fieldAddr _ _ _); refine wz4 ?_) | (show HW1 (.extract _ _); first | refine wz16 ?_ | refine wz15 ?_ | refine wz84 ?_) | (show HW1 (.call ⟨.value (.func 15), _, _⟩); (first | refine walk1_callObj 910 (e1) rfl rfl rfl rfl evq rfl rfl (fun _ => rfl) ?_ | refine walk1_callObj0 910 (e1) rfl rfl rfl evq rfl rfl (fun _ => rfl) ?_)) | (show HW1 (.call ⟨.value (.func 15), _, _⟩); (first | refine walk1_callObj 911 (e2) rfl rfl rfl rfl evq rfl rfl (fun _ => rfl) ?_ | refine walk1_callObj0 911 (e2) rfl rfl rfl evq rfl rfl (fun _ => rfl) ?_)) | (show HW1 (.call ⟨.value (.func 15), _, _⟩); (first | refine walk1_callObj 912 (e3) rfl rfl rfl rfl evq rfl rfl (fun _ => rfl) ?_ | refine walk1_callObj0 912 (e3) rfl rfl rfl evq rfl rfl (fun _ => rfl) ?_)) | (show HW1 (.call ⟨.value (.func 16), _, _⟩); ((first | refine cwalk11 16 ?_ | refine cwalk10 16 ?_); refine ⟨_, fun e w => l1 w, ?_⟩)) | (show HW1 (.call ⟨.value (.func 16), _, _⟩); ((first | refine cwalk11 16 ?_ | refine cwalk10 16 ?_); refine ⟨_, fun e w => l2 w, ?_⟩))) | (show WalkTo _ _ _ _ (_ :: _) _ _ _; first | (show WalkTo _ _ _ _ (⟨_, _, _, _, _, some _⟩ :: _) _ _ _; refine zy2 ?_) | (show HW2 (.move _); refine wz20 ?_) | (show HW2 (.assign _); refine wz17 ?_) | (show HW2 (.binOp .eql _ _ _ _); refine walk_t (op_eqT rfl rfl rfl rfl rfl rfl) ?_) | (show HW2 (.pick _ _ _); refine wz90 ?_) | (show HW2 (.load _ _); first | refine wz24 ?_ | refine wz130 ?_) | (show HW2 (.fieldAddr _ _ _); refine wz49 ?_) | (show HW2 (.call ⟨.value (.func 17), _, _⟩); (first | refine walk_callObj 910 (f1) rfl rfl rfl rfl evq rfl rfl (fun _ => rfl) ?_ | refine walk_callObj0 910 (f1) rfl rfl rfl evq rfl rfl (fun _ => rfl) ?_)) | (show HW2 (.call ⟨.value (.func 17), _, _⟩); (first | refine walk_callObj 911 (f2) rfl rfl rfl rfl evq rfl rfl (fun _ => rfl) ?_ | refine walk_callObj0 911 (f2) rfl rfl rfl evq rfl rfl (fun _ => rfl) ?_)) | (show HW2 (.call ⟨.value (.func 10), _, _⟩); ((first | refine cwalk1 10 ?_ | refine cwalk0 10 ?_); refine ⟨_, fun e w => cw w, ?_⟩))) | refine go1 ?_ | refine end_block_other rfl ?_ | refine end_scope (fun _ h => by cases h) ?_ | (refine walk_endD ?_ ?_; (· kernel_rfl)) | refine tri_yesA rfl ?_ | refine tri_noA rfl ?_ | refine tri_trueA rfl ?_ | refine tri_falseA rfl ?_)
      refine end_ret (.c (.bool true)) (res_tmp rfl rfl) ?_
      exact fin_below fun _ => rfl
end Go.Proofs.Ytcookaiakfbdiaa
