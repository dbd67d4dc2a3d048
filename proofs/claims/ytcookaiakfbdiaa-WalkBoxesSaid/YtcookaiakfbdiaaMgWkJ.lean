/- The example of chapter 22: walked. No condition. When a ray meets a box, told twice: plain. No condition. A ray that meets a box begins in it or comes through a side: plain. No condition. Whether a ray meets a box, by the program: walked. No condition. Boxes within boxes: plain. No condition. A tree's boxes and a ray: what the law WalkBoxes asks, plain. No condition. A walk begun anew from a later world in which nothing that was made is written any more: own slices and blocks become given ones. No condition. -/
import Derived.Test.YtcookaiakfbdiaaMgWkH
import Derived.Test.YtcookaiakfbdiaaMgWlk3
import Derived.Test.YtcookaiakfbdiaaSymX
namespace Go.Proofs.Ytcookaiakfbdiaa
open Go.RowKit
set_option maxRecDepth 100000
set_option maxHeartbeats 1000000
section
variable {C : Ctx} {ops : Array Oper} {t : List (Nat × SV)} {h : List (Nat × Option Res)} {l : List Oper} {o : Oper} {d : Nat}
theorem walk1_callNOT {σ : Type} {f : FuncId} {xs : Array Operand} {ats : Array TypeId} {vs : List SV} {rb : List Nat} {j : Nat} {O : Obj σ} {s : σ} {u : Value} {K : St → Prop} (k : Nat) (ho : o.op = .call { callee := .value (.func f), args := xs, argTypes := ats }) (hdn : o.dst = some d) (hg : o.guard = none) (hd : dstB o.dst C.nt = true) (hf : freshB ⟨t, h⟩ d = true) (hxs : EvS ⟨t, h⟩ xs.toList vs) (hc' : tabLook calT f = some j)
    (hcon : ∀ (S' : St) e a w, Holds C S' e a w → (∀ q ∈ rb, S'.res q = (St.mk t h).res q) → Calls Try.prog j (vs.map (·.den e)).toArray w (RetNOT O w s u))
    (hK : Walk1 C Try.prog ops l ⟨(d, .tup [.p d 0, .c u]) :: t, (d, none) :: (k, some (.obj d O s)) :: h⟩ K) : Walk1 C Try.prog ops (o :: l) ⟨t, h⟩ K :=
  ⟨_, op_callNOT (C := C) (ops := ops) ho hdn hg hd hxs hc' k hcon, by simp [hf], hK⟩
end
def exA : TriS := ⟨⟨0, 0, 9⟩, ⟨5, 0, 9⟩, ⟨0, 5, 9⟩, List.replicate 9 (Value.int .i64 0), 1⟩
def exB : TriS := ⟨⟨0, 0, 4⟩, ⟨5, 0, 4⟩, ⟨0, 5, 4⟩, List.replicate 9 (Value.int .i64 0), 1⟩
theorem ex_ok : ∀ t ∈ [exA, exB], t.ok := fun t ht => by
  simp only [List.mem_cons, List.not_mem_nil, or_false] at ht
  rcases ht with rfl | rfl <;> exact ⟨rfl, fun u hu => by obtain ⟨_, rfl⟩ := List.mem_replicate.1 hu; rfl⟩
def exN : List NodeS := [⟨⟨0, 0, 4⟩, ⟨5, 5, 9⟩, -1, -1, 0, 2⟩]
theorem ex_tree : treeL [exA, exB] = (exN, [0, 1]) := by kernel_rfl
def exT : Tr := .leaf 0 0 2 ⟨0, 0, 4⟩ ⟨5, 5, 9⟩
theorem ex_treeS : TreeS [exA, exB] exN [0, 1] (some exT) where
  ok := ex_ok
  tr t h := by
    obtain rfl := Option.some.inj h
    exact ⟨⟨rfl, by decide⟩, rfl⟩
  no h := by cases h
  box x hx := by
    rw [exN, List.mem_singleton] at hx
    subst hx
    constructor <;> intro z hz <;> simp [P3.l] at hz <;> omega
  nl := by decide
  kl := by decide
  dom k hk := by simp at hk; rcases hk with rfl | rfl <;> decide
theorem ex_near1 : nearW (some exT) [exA, exB] [0, 1] ⟨1, 1, 0⟩ ⟨0, 0, 1⟩ 1 (-1) 0 = ⟨3, 1, ⟨100, 25, 5, 5⟩⟩ := by kernel_rfl
theorem ex_near2 : nearW (some exT) [exA, exB] [0, 1] ⟨1, 1, 0⟩ ⟨0, 0, 1⟩ 1 1 3 = ⟨6, 0, ⟨225, 25, 5, 5⟩⟩ := by kernel_rfl
attribute [local irreducible] Calls Walk1 WalkTo Tri EndA
theorem works22_any (w : World) : Calls Try.prog 10 #[] w fun e w' => e = .returned (.bool true) ∧ Below w.heap.size w w' := by
  have cN : ∀ w v, RdV w 19 v 2 (trisC [exA, exB]) → Calls Try.prog 14 #[v] w (RetNOT wkO w ⟨exN, [0, 1], [exA, exB], 0⟩ (.int .i64 0)) := fun w v h => walkNew_any [exA, exB] ex_ok (by decide) exN [0, 1] v w h fun w h => by
    have := build_any [exA, exB] ex_ok (by decide) (by decide) (by intro t ht; simp only [List.mem_cons, List.not_mem_nil, or_false] at ht; rcases ht with rfl | rfl <;> decide) v w h
    rw [ex_tree] at this
    exact this
  have m1 := wkNear_obj exN [0, 1] [exA, exB] 0 (some exT) ex_treeS (by decide) ⟨1, 1, 0⟩ ⟨0, 0, 1⟩ 1 (-1)
  have m2 := wkNear_obj exN [0, 1] [exA, exB] 3 (some exT) ex_treeS (by decide) ⟨1, 1, 0⟩ ⟨0, 0, 1⟩ 1 1
  rw [ex_near1] at m1
  rw [ex_near2] at m2
  simp only [P3.c, M4.c] at m1 m2
  refine calls_tri Try.func10 rfl Try.ntmps10 rfl ?_
  repeat (first | (show Walk1 _ _ _ (_ :: _) _ _; (show HW1 (.assign _); refine wz2 ?_)) | refine go1 ?_ | refine end_block_other rfl ?_ | refine end_scope (fun _ h => by cases h) ?_ | (refine walk_endD ?_ ?_; (· kernel_rfl)) | refine tri_yesA rfl ?_ | refine tri_noA rfl ?_ | refine tri_trueA rfl ?_ | refine tri_falseA rfl ?_)
  refine walk1_t (op_buildC (parts := [(2, .const (.int .i64 9))]) (vs := [.int .i64 9]) #[.int .i64 0, .int .i64 0, .int .i64 9] rfl rfl rfl rfl rfl rfl (by kernel_rfl) (by kernel_rfl)) ?_
  refine walk1_t (op_buildC (parts := [(0, .const (.int .i64 5)), (2, .const (.int .i64 9))]) (vs := [.int .i64 5, .int .i64 9]) #[.int .i64 5, .int .i64 0, .int .i64 9] rfl rfl rfl rfl rfl rfl (by kernel_rfl) (by kernel_rfl)) ?_
  refine walk1_t (op_buildC (parts := [(1, .const (.int .i64 5)), (2, .const (.int .i64 9))]) (vs := [.int .i64 5, .int .i64 9]) #[.int .i64 0, .int .i64 5, .int .i64 9] rfl rfl rfl rfl rfl rfl (by kernel_rfl) (by kernel_rfl)) ?_
  refine walk1_t (op_buildA (parts := [(0, .tmp 8), (1, .tmp 9), (2, .tmp 10)]) (vs := [.agg #[.int .i64 0, .int .i64 0, .int .i64 9], .agg #[.int .i64 5, .int .i64 0, .int .i64 9], .agg #[.int .i64 0, .int .i64 5, .int .i64 9]]) #[.int .i64 0, .int .i64 0, .int .i64 9, .int .i64 5, .int .i64 0, .int .i64 9, .int .i64 0, .int .i64 5, .int .i64 9] rfl rfl rfl rfl rfl rfl rfl (by kernel_rfl)) ?_
  refine walk1_t (op_buildC (parts := [(0, .tmp 11), (5, .const (.int .u8 1))]) (vs := [.agg #[.int .i64 0, .int .i64 0, .int .i64 9, .int .i64 5, .int .i64 0, .int .i64 9, .int .i64 0, .int .i64 5, .int .i64 9], .int .u8 1]) #[.int .i64 0, .int .i64 0, .int .i64 9, .int .i64 5, .int .i64 0, .int .i64 9, .int .i64 0, .int .i64 5, .int .i64 9, .int .i64 0, .int .i64 0, .int .i64 0, .int .i64 0, .int .i64 0, .int .i64 0, .int .i64 0, .int .i64 0, .int .i64 0, .int .u8 1] rfl rfl rfl rfl rfl rfl (by kernel_rfl) (by kernel_rfl)) ?_
  refine walk1_t (op_buildC (parts := [(2, .const (.int .i64 4))]) (vs := [.int .i64 4]) #[.int .i64 0, .int .i64 0, .int .i64 4] rfl rfl rfl rfl rfl rfl (by kernel_rfl) (by kernel_rfl)) ?_
  refine walk1_t (op_buildC (parts := [(0, .const (.int .i64 5)), (2, .const (.int .i64 4))]) (vs := [.int .i64 5, .int .i64 4]) #[.int .i64 5, .int .i64 0, .int .i64 4] rfl rfl rfl rfl rfl rfl (by kernel_rfl) (by kernel_rfl)) ?_
  refine walk1_t (op_buildC (parts := [(1, .const (.int .i64 5)), (2, .const (.int .i64 4))]) (vs := [.int .i64 5, .int .i64 4]) #[.int .i64 0, .int .i64 5, .int .i64 4] rfl rfl rfl rfl rfl rfl (by kernel_rfl) (by kernel_rfl)) ?_
  refine walk1_t (op_buildA (parts := [(0, .tmp 13), (1, .tmp 14), (2, .tmp 15)]) (vs := [.agg #[.int .i64 0, .int .i64 0, .int .i64 4], .agg #[.int .i64 5, .int .i64 0, .int .i64 4], .agg #[.int .i64 0, .int .i64 5, .int .i64 4]]) #[.int .i64 0, .int .i64 0, .int .i64 4, .int .i64 5, .int .i64 0, .int .i64 4, .int .i64 0, .int .i64 5, .int .i64 4] rfl rfl rfl rfl rfl rfl rfl (by kernel_rfl)) ?_
  refine walk1_t (op_buildC (parts := [(0, .tmp 16), (5, .const (.int .u8 1))]) (vs := [.agg #[.int .i64 0, .int .i64 0, .int .i64 4, .int .i64 5, .int .i64 0, .int .i64 4, .int .i64 0, .int .i64 5, .int .i64 4], .int .u8 1]) #[.int .i64 0, .int .i64 0, .int .i64 4, .int .i64 5, .int .i64 0, .int .i64 4, .int .i64 0, .int .i64 5, .int .i64 4, .int .i64 0, .int .i64 0, .int .i64 0, .int .i64 0, .int .i64 0, .int .i64 0, .int .i64 0, .int .i64 0, .int .i64 0, .int .u8 1] rfl rfl rfl rfl rfl rfl (by kernel_rfl) (by kernel_rfl)) ?_
  refine walk1_n (op_bsliceQ rfl rfl rfl rfl rfl rfl rfl rfl rfl rfl (by decide) (by kernel_rfl)) (by kernel_rfl) ?_
  repeat (first | (show Walk1 _ _ _ (_ :: _) _ _; first | (show HW1 (.move _); refine wz1 ?_) | (show HW1 (.assign _); refine wz2 ?_)) | refine go1 ?_ | refine end_block_other rfl ?_ | refine end_scope (fun _ h => by cases h) ?_ | (refine walk_endD ?_ ?_; (· kernel_rfl)) | refine tri_yesA rfl ?_ | refine tri_noA rfl ?_ | refine tri_trueA rfl ?_ | refine tri_falseA rfl ?_)
  refine walk1_callNOT (rb := [18]) (vs := [.s 18 0 2 2]) 900 rfl rfl rfl rfl (by kernel_rfl) evq rfl (fun S' e a w' hS hq => cN w' _ ((rdn_cells (n := 18) (us := trisC [exA, exB]) rfl (by kernel_rfl) (by kernel_rfl)) S' e a w' hq hS)) ?_
  repeat (first | (show Walk1 _ _ _ (_ :: _) _ _; first | (show Walk1 _ _ _ (⟨_, _, _, _, _, some _⟩ :: _) _ _; refine zy1 ?_) | (show HW1 (.move _); refine wz1 ?_) | (show HW1 (.assign _); refine wz2 ?_) | (show HW1 (.binOp .mul _ _ _ _); refine wz125 ?_) | (show HW1 (.binOp .eql _ _ _ _); first | refine wz30 ?_ | refine wz76 ?_) | (show HW1 (.binOp .neq _ _ _ _); refine wz61 ?_) | (show HW1 (.pick _ _ _); first | refine wz8 ?_ | refine wz7 ?_) | (show HW1 (.load _ _); refine wz3 ?_) | (show HW1 (.store _ _ _); refine wz14 ?_) | (show HW1 (.alloc _); refine wz6 ?_) | (show HW1 (.fieldAddr _ _ _); refine wz4 ?_) | (show HW1 (.extract _ _); first | refine wz16 ?_ | refine wz15 ?_ | refine wz84 ?_) | (show HW1 (.build _ _); refine wz25 ?_) | (show HW1 (.call ⟨.value (.func 15), _, _⟩); (first | refine walk1_callObj 900 (m1) rfl rfl rfl rfl evq rfl rfl (fun _ => rfl) ?_ | refine walk1_callObj0 900 (m1) rfl rfl rfl evq rfl rfl (fun _ => rfl) ?_)) | (show HW1 (.call ⟨.value (.func 15), _, _⟩); (first | refine walk1_callObj 900 (m2) rfl rfl rfl rfl evq rfl rfl (fun _ => rfl) ?_ | refine walk1_callObj0 900 (m2) rfl rfl rfl evq rfl rfl (fun _ => rfl) ?_))) | refine go1 ?_ | refine end_block_other rfl ?_ | refine end_scope (fun _ h => by cases h) ?_ | (refine walk_endD ?_ ?_; (· kernel_rfl)) | refine tri_yesA rfl ?_ | refine tri_noA rfl ?_ | refine tri_trueA rfl ?_ | refine tri_falseA rfl ?_)

  refine end_ret (.c (.bool true)) (res_tmp rfl rfl) ?_
  exact fin_below fun _ => rfl
end Go.Proofs.Ytcookaiakfbdiaa
namespace Go.Proofs.Ytcookaiakfbdiaa
open Go.RowKit
set_option maxRecDepth 100000
theorem rat_trans {a b c d e f : Int} (hb : 0 < b) (hd : 0 < d) (hf : 0 < f) (h1 : a * d ≤ c * b) (h2 : c * f ≤ e * d) : a * f ≤ e * b := by
  have k1 : a * d * f ≤ c * b * f := Int.mul_le_mul_of_nonneg_right h1 (Int.le_of_lt hf)
  have k2 : c * f * b ≤ e * d * b := Int.mul_le_mul_of_nonneg_right h2 (Int.le_of_lt hb)
  have e1 : a * d * f = a * f * d := by rw [Int.mul_assoc, Int.mul_comm d f, ← Int.mul_assoc]
  have e2 : c * b * f = c * f * b := by rw [Int.mul_assoc, Int.mul_comm b f, ← Int.mul_assoc]
  have e3 : e * d * b = e * b * d := by rw [Int.mul_assoc, Int.mul_comm d b, ← Int.mul_assoc]
  exact Int.le_of_mul_le_mul_right (a := d) (by omega) hd
abbrev Ax := Int × Int × Int
def inT (N W : Int) (x : Ax) : Prop := x.1 * W ≤ x.2.2 * N ∧ x.2.2 * N ≤ x.2.1 * W
def nearA (x : Ax) : Int := if x.2.2 < 0 then -x.2.1 else x.1
def farA (x : Ax) : Int := if x.2.2 < 0 then -x.1 else x.2.1
def wayA (x : Ax) : Int := if x.2.2 < 0 then -x.2.2 else x.2.2
theorem wayA_pos {x : Ax} (h : x.2.2 ≠ 0) : 0 < wayA x := by
  unfold wayA
  split <;> omega
theorem inT_iff {N W : Int} {x : Ax} : inT N W x ↔ nearA x * W ≤ N * wayA x ∧ N * wayA x ≤ farA x * W := by
  obtain ⟨n, r, w⟩ := x
  unfold inT nearA farA wayA
  dsimp only
  rw [Int.mul_comm w N]
  split
  · rw [Int.mul_neg, Int.neg_mul, Int.neg_mul]
    omega
  · exact Iff.rfl
def maxF (f : Int × Int) (x : Ax) : Int × Int := if rlt f (nearA x, wayA x) then (nearA x, wayA x) else f
def minT (t : Int × Int) (b : Bool) (x : Ax) : Int × Int := if b = false ∨ rlt (farA x, wayA x) t then (farA x, wayA x) else t
theorem spanL_step {x : Ax} {l : List Ax} {f t : Int × Int} {b : Bool} (h1 : ¬ x.1 > x.2.1) (h2 : x.2.2 ≠ 0) : spanL (x :: l) f t b = spanL l (maxF f x) (minT t b x) true := by
  obtain ⟨n, r, w⟩ := x
  dsimp only at h1 h2
  by_cases h5 : w < 0
  · rw [spanL_neg h1 h5]
    simp only [maxF, minT, nearA, farA, wayA, h5, if_true]
  · rw [spanL_pos h1 h2 h5]
    simp only [maxF, minT, nearA, farA, wayA, h5, if_false]
theorem spanL_iff : ∀ (l : List Ax) (f t : Int × Int) (b : Bool), 0 < f.2 → 0 ≤ f.1 → (b = true → 0 < t.2) →
    ((spanL l f t b).2 = true ↔ (∀ x ∈ l, x.1 ≤ x.2.1) ∧ ∃ N W : Int, 0 < W ∧ 0 ≤ N ∧ f.1 * W ≤ N * f.2 ∧ (b = true → N * t.2 ≤ t.1 * W) ∧ ∀ x ∈ l, inT N W x)
  | [], f, t, b, hf, hf0, ht => by
    rw [spanL]
    cases b with
    | false =>
      refine ⟨fun _ => ⟨fun x hx => by simp at hx, f.1, f.2, hf, hf0, Int.le_refl _, fun h => (by cases h), fun x hx => by simp at hx⟩, fun _ => rfl⟩
    | true =>
      have ht := ht rfl
      show (false || !decide (rlt t f)) = true ↔ _
      rw [Bool.false_or, Bool.not_eq_true', decide_eq_false_iff_not]
      unfold rlt
      constructor
      · intro h
        exact ⟨fun x hx => by simp at hx, f.1, f.2, hf, hf0, Int.le_refl _, fun _ => by omega, fun x hx => by simp at hx⟩
      · rintro ⟨_, N, W, hW, hN, h1, h2, _⟩
        have := rat_trans (a := f.1) (b := f.2) (c := N) (d := W) (e := t.1) (f := t.2) hf hW ht h1 (h2 rfl)
        omega
  | x :: l, f, t, b, hf, hf0, ht => by
    by_cases h1 : x.1 > x.2.1
    · obtain ⟨n, r, w⟩ := x
      rw [spanL_bad h1]
      refine ⟨fun h => by simp at h, fun h => ?_⟩
      have := h.1 (n, r, w) (by simp)
      exact absurd this (by omega)
    · by_cases h2 : x.2.2 = 0
      · obtain ⟨n, r, w⟩ := x
        dsimp only at h1 h2
        subst h2
        by_cases h3 : n > 0 ∨ r < 0
        · rw [spanL_out h1 rfl h3]
          refine ⟨fun h => by simp at h, ?_⟩
          rintro ⟨_, N, W, hW, hN, _, _, h⟩
          have h4 := h (n, r, 0) (by simp)
          unfold inT at h4
          dsimp only at h4
          rw [Int.zero_mul] at h4
          rcases h3 with h3 | h3
          · exact absurd (Int.mul_pos h3 hW) (by omega)
          · exact absurd (Int.mul_neg_of_neg_of_pos h3 hW) (by omega)
        · rw [spanL_in h1 rfl h3, spanL_iff l f t b hf hf0 ht]
          constructor
          · rintro ⟨g, N, W, hW, hN, k1, k2, k3⟩
            refine ⟨fun x hx => ?_, N, W, hW, hN, k1, k2, fun x hx => ?_⟩
            · rcases List.mem_cons.1 hx with rfl | hx
              · dsimp only; omega
              · exact g x hx
            · rcases List.mem_cons.1 hx with rfl | hx
              · unfold inT
                dsimp only
                rw [Int.zero_mul]
                exact ⟨Int.mul_nonpos_of_nonpos_of_nonneg (by omega) (by omega), Int.mul_nonneg (by omega) (by omega)⟩
              · exact k3 x hx
          · rintro ⟨g, N, W, hW, hN, k1, k2, k3⟩
            exact ⟨fun x hx => g x (by simp [hx]), N, W, hW, hN, k1, k2, fun x hx => k3 x (by simp [hx])⟩
      · have hw := wayA_pos h2
        have hm : 0 < (maxF f x).2 ∧ 0 ≤ (maxF f x).1 := by
          unfold maxF
          split
          · rename_i h
            unfold rlt at h
            dsimp only at h ⊢
            refine ⟨hw, ?_⟩
            by_cases h0 : 0 ≤ nearA x
            · exact h0
            · exfalso
              have k1 : 0 ≤ f.1 * wayA x := Int.mul_nonneg hf0 (by omega)
              have k2 : nearA x * f.2 < 0 := Int.mul_neg_of_neg_of_pos (by omega) hf
              omega
          · exact ⟨hf, hf0⟩
        have hmt : 0 < (minT t b x).2 := by
          unfold minT
          split
          · exact hw
          · rename_i h
            refine ht ?_
            cases b with
            | false => exact absurd (.inl rfl) h
            | true => rfl
        rw [spanL_step h1 h2, spanL_iff l _ _ true hm.1 hm.2 (fun _ => hmt)]
        have key : ∀ N W : Int, 0 < W → 0 ≤ N → ((maxF f x).1 * W ≤ N * (maxF f x).2 ∧ N * (minT t b x).2 ≤ (minT t b x).1 * W ↔ f.1 * W ≤ N * f.2 ∧ (b = true → N * t.2 ≤ t.1 * W) ∧ inT N W x) := by
          intro N W hW hN
          rw [inT_iff]
          have p1 : (maxF f x).1 * W ≤ N * (maxF f x).2 ↔ f.1 * W ≤ N * f.2 ∧ nearA x * W ≤ N * wayA x := by
            unfold maxF
            split
            · rename_i h
              unfold rlt at h
              dsimp only at h ⊢
              refine ⟨fun k => ⟨?_, k⟩, fun k => k.2⟩
              exact rat_trans (c := nearA x) (d := wayA x) hf hw hW (by omega) k
            · rename_i h
              unfold rlt at h
              dsimp only at h
              refine ⟨fun k => ⟨k, ?_⟩, fun k => k.1⟩
              exact rat_trans (c := f.1) (d := f.2) hw hf hW (by omega) k
          have p2 : N * (minT t b x).2 ≤ (minT t b x).1 * W ↔ (b = true → N * t.2 ≤ t.1 * W) ∧ N * wayA x ≤ farA x * W := by
            unfold minT
            cases b with
            | false =>
              rw [if_pos (.inl rfl)]
              exact ⟨fun k => ⟨fun h => (by cases h), k⟩, fun k => k.2⟩
            | true =>
              have ht := ht rfl
              split
              · rename_i h
                have h : rlt (farA x, wayA x) t := h.resolve_left (by simp)
                unfold rlt at h
                dsimp only at h ⊢
                refine ⟨fun k => ⟨fun _ => ?_, k⟩, fun k => k.2⟩
                exact rat_trans (c := farA x) (d := wayA x) hW hw ht k (by omega)
              · rename_i h
                have h : ¬ rlt (farA x, wayA x) t := fun k => h (.inr k)
                unfold rlt at h
                dsimp only at h
                refine ⟨fun k => ⟨fun _ => k, ?_⟩, fun k => k.1 rfl⟩
                exact rat_trans (c := t.1) (d := t.2) hW ht hw k (by omega)
          rw [p1, p2]
          constructor
          · rintro ⟨⟨q1, q2⟩, q3, q4⟩
            exact ⟨q1, q3, q2, q4⟩
          · rintro ⟨q1, q3, q2, q4⟩
            exact ⟨⟨q1, q2⟩, q3, q4⟩
        constructor
        · rintro ⟨g, N, W, hW, hN, k1, k2, k3⟩
          obtain ⟨q1, q2, q3⟩ := (key N W hW hN).1 ⟨k1, k2 rfl⟩
          refine ⟨fun y hy => ?_, N, W, hW, hN, q1, q2, fun y hy => ?_⟩
          · rcases List.mem_cons.1 hy with rfl | hy
            · omega
            · exact g y hy
          · rcases List.mem_cons.1 hy with rfl | hy
            · exact q3
            · exact k3 y hy
        · rintro ⟨g, N, W, hW, hN, k1, k2, k3⟩
          obtain ⟨q1, q2⟩ := (key N W hW hN).2 ⟨k1, k2, k3 x (by simp)⟩
          exact ⟨fun y hy => g y (by simp [hy]), N, W, hW, hN, q1, fun _ => q2, fun y hy => k3 y (by simp [hy])⟩
end Go.Proofs.Ytcookaiakfbdiaa
namespace Go.Proofs.Ytcookaiakfbdiaa
open Go.RowKit
set_option maxRecDepth 100000
def Hit22 (l : List Ax) : Prop := ∃ N W : Int, 0 < W ∧ 0 ≤ N ∧ ∀ x ∈ l, inT N W x
def insideA (l : List Ax) : Prop := ∀ x ∈ l, x.1 ≤ 0 ∧ 0 ≤ x.2.1
def sgA (x : Ax) (m : Int) : Int := if x.2.2 < 0 then -m else m
def faceA (l : List Ax) : Prop := ∃ x ∈ l, ∃ m, (m = x.1 ∨ m = x.2.1) ∧ wayA x ≠ 0 ∧ 0 ≤ sgA x m ∧ ∀ y ∈ l, inT (sgA x m) (wayA x) y
theorem way_nonneg (x : Ax) : 0 ≤ wayA x := by
  unfold wayA
  split <;> omega
theorem max_exists : ∀ (l : List Ax), (∃ k ∈ l, k.2.2 ≠ 0) → ∃ x ∈ l, x.2.2 ≠ 0 ∧ ∀ y ∈ l, y.2.2 ≠ 0 → nearA y * wayA x ≤ nearA x * wayA y
  | [], h => by obtain ⟨k, hk, _⟩ := h; simp at hk
  | a :: l, h => by
    by_cases hl : ∃ k ∈ l, k.2.2 ≠ 0
    · obtain ⟨x, hx, hx0, hm⟩ := max_exists l hl
      by_cases ha : a.2.2 ≠ 0
      · by_cases hc : nearA x * wayA a ≤ nearA a * wayA x
        · refine ⟨a, by simp, ha, fun y hy hy0 => ?_⟩
          rcases List.mem_cons.1 hy with rfl | hy
          · exact Int.le_refl _
          · exact rat_trans (wayA_pos hy0) (wayA_pos hx0) (wayA_pos ha) (hm y hy hy0) hc
        · refine ⟨x, by simp [hx], hx0, fun y hy hy0 => ?_⟩
          rcases List.mem_cons.1 hy with rfl | hy
          · omega
          · exact hm y hy hy0
      · refine ⟨x, by simp [hx], hx0, fun y hy hy0 => ?_⟩
        rcases List.mem_cons.1 hy with rfl | hy
        · exact absurd hy0 ha
        · exact hm y hy hy0
    · obtain ⟨k, hk, hk0⟩ := h
      rcases List.mem_cons.1 hk with rfl | hk
      · refine ⟨k, by simp, hk0, fun y hy hy0 => ?_⟩
        rcases List.mem_cons.1 hy with rfl | hy
        · exact Int.le_refl _
        · exact absurd ⟨y, hy, hy0⟩ hl
      · exact absurd ⟨k, hk, hk0⟩ hl
theorem inT_flat {N W : Int} {x : Ax} (h0 : x.2.2 = 0) (hW : 0 < W) : inT N W x ↔ x.1 ≤ 0 ∧ 0 ≤ x.2.1 := by
  unfold inT
  rw [h0, Int.zero_mul]
  constructor
  · rintro ⟨h1, h2⟩
    constructor
    · by_cases h : x.1 ≤ 0
      · exact h
      · exact absurd (Int.mul_pos (show 0 < x.1 by omega) hW) (by omega)
    · by_cases h : 0 ≤ x.2.1
      · exact h
      · exact absurd (Int.mul_neg_of_neg_of_pos (show x.2.1 < 0 by omega) hW) (by omega)
  · rintro ⟨h1, h2⟩
    exact ⟨Int.mul_nonpos_of_nonpos_of_nonneg h1 (by omega), Int.mul_nonneg h2 (by omega)⟩
theorem hit_iff (l : List Ax) : Hit22 l ↔ insideA l ∨ faceA l := by
  constructor
  · rintro ⟨N, W, hW, hN, h⟩
    by_cases hin : insideA l
    · exact .inl hin
    right
    obtain ⟨k, hk, hkn⟩ : ∃ k ∈ l, ¬ (k.1 ≤ 0 ∧ 0 ≤ k.2.1) := by
      refine Classical.byContradiction fun hc => hin fun x hx => ?_
      exact Classical.byContradiction fun hx2 => hc ⟨x, hx, hx2⟩
    have hk0 : k.2.2 ≠ 0 := fun h0 => hkn ((inT_flat h0 hW).1 (h k hk))
    have hkw := wayA_pos hk0
    have hkp : 0 < nearA k := by
      obtain ⟨q1, q2⟩ := inT_iff.1 (h k hk)
      have q3 : 0 ≤ N * wayA k := Int.mul_nonneg hN (by omega)
      have q4 : 0 ≤ farA k := by
        by_cases h4 : 0 ≤ farA k
        · exact h4
        · exact absurd (Int.mul_neg_of_neg_of_pos (show farA k < 0 by omega) hW) (by omega)
      unfold nearA farA at *
      split at q4 <;> rename_i hs <;> simp only [hs, if_true, if_false] at * <;> omega
    obtain ⟨x, hx, hx0, hm⟩ := max_exists l ⟨k, hk, hk0⟩
    have hxw := wayA_pos hx0
    have hxp : 0 < nearA x := by
      have q1 := hm k hk hk0
      have q2 : 0 < nearA k * wayA x := Int.mul_pos hkp hxw
      by_cases h4 : 0 < nearA x
      · exact h4
      · exact absurd (Int.mul_nonpos_of_nonpos_of_nonneg (show nearA x ≤ 0 by omega) (show 0 ≤ wayA k by omega)) (by omega)
    have hsg : sgA x (if x.2.2 < 0 then x.2.1 else x.1) = nearA x := by
      unfold sgA nearA
      split <;> rfl
    refine ⟨x, hx, if x.2.2 < 0 then x.2.1 else x.1, ?_, by omega, by rw [hsg]; omega, fun y hy => ?_⟩
    · split
      · exact .inr rfl
      · exact .inl rfl
    · rw [hsg]
      by_cases hy0 : y.2.2 = 0
      · exact (inT_flat hy0 hxw).2 ((inT_flat hy0 hW).1 (h y hy))
      · refine inT_iff.2 ⟨hm y hy hy0, ?_⟩
        have q1 := (inT_iff.1 (h x hx)).1
        have q2 := (inT_iff.1 (h y hy)).2
        exact rat_trans (c := N) (d := W) hxw hW (wayA_pos hy0) q1 q2
  · rintro (h | ⟨x, hx, m, _, hw, hs, h⟩)
    · refine ⟨0, 1, by omega, by omega, fun x hx => ?_⟩
      obtain ⟨h1, h2⟩ := h x hx
      unfold inT
      omega
    · have := way_nonneg x
      exact ⟨sgA x m, wayA x, by omega, hs, h⟩
theorem spanP_iff (lo hi o d : P3) : (spanP lo hi o d).2 = true ↔ (∀ x ∈ axesP lo hi o d, x.1 ≤ x.2.1) ∧ (insideA (axesP lo hi o d) ∨ faceA (axesP lo hi o d)) := by
  unfold spanP
  rw [spanL_iff _ _ _ _ (by decide) (by decide) (fun h => by cases h), ← hit_iff]
  unfold Hit22
  constructor
  · rintro ⟨h1, N, W, hW, hN, _, _, h⟩
    exact ⟨h1, N, W, hW, hN, h⟩
  · rintro ⟨h1, N, W, hW, hN, h⟩
    refine ⟨h1, N, W, hW, hN, ?_, fun h => (by cases h), h⟩
    dsimp only
    omega
end Go.Proofs.Ytcookaiakfbdiaa
namespace Go.Proofs.Ytcookaiakfbdiaa
open Go.RowKit
set_option maxRecDepth 100000
set_option maxHeartbeats 4000000
def maxL (l : List Int) (a : Int) : Int := l.foldl (fun m x => if m < x then x else m) a
def minL (l : List Int) (a : Int) : Int := l.foldl (fun m x => if x < m then x else m) a
theorem maxL_le : ∀ (l : List Int) (a m : Int), maxL l a ≤ m ↔ a ≤ m ∧ ∀ x ∈ l, x ≤ m
  | [], a, m => by simp [maxL]
  | x :: l, a, m => by
    show maxL l (if a < x then x else a) ≤ m ↔ _
    rw [maxL_le l]
    constructor
    · rintro ⟨h1, h2⟩
      refine ⟨by split at h1 <;> omega, fun y hy => ?_⟩
      rcases List.mem_cons.1 hy with rfl | hy
      · split at h1 <;> omega
      · exact h2 y hy
    · rintro ⟨h1, h2⟩
      have := h2 x (by simp)
      exact ⟨by split <;> omega, fun y hy => h2 y (by simp [hy])⟩
theorem minL_le : ∀ (l : List Int) (a m : Int), m ≤ minL l a ↔ m ≤ a ∧ ∀ x ∈ l, m ≤ x
  | [], a, m => by simp [minL]
  | x :: l, a, m => by
    show m ≤ minL l (if x < a then x else a) ↔ _
    rw [minL_le l]
    constructor
    · rintro ⟨h1, h2⟩
      refine ⟨by split at h1 <;> omega, fun y hy => ?_⟩
      rcases List.mem_cons.1 hy with rfl | hy
      · split at h1 <;> omega
      · exact h2 y hy
    · rintro ⟨h1, h2⟩
      have := h2 x (by simp)
      exact ⟨by split <;> omega, fun y hy => h2 y (by simp [hy])⟩
section
variable {C : Ctx} {ops : Array Oper} {S : St} {dst : Option Tmp} {x0 x1 x2 x3 x4 x5 : Operand} {ats : Array TypeId} {ty : TypeId} {pos : String} {after : Array Edge} {a b c d e f : Int}
theorem op_max6I (hd : dstB dst C.nt = true) (h0 : EvI S x0 a) (h1 : EvI S x1 b) (h2 : EvI S x2 c) (h3 : EvI S x3 d) (h4 : EvI S x4 e) (h5 : EvI S x5 f) : OpG C Try.prog ops ⟨dst, .call { callee := .builtin .max, args := #[x0, x1, x2, x3, x4, x5], argTypes := ats }, ty, pos, after, none⟩ S ⟨[x0, x1, x2, x3, x4, x5].flatMap opT, [], dw dst (.c (.int .i64 (maxL [b, c, d, e, f] a))), [], []⟩ := by
  have := op_value (C := C) (P := Try.prog) (ops := ops) (S := S) (o := ⟨dst, .call { callee := .builtin .max, args := #[x0, x1, x2, x3, x4, x5], argTypes := ats }, ty, pos, after, none⟩) rfl hd [x0, x1, x2, x3, x4, x5] [] (.c (.int .i64 (maxL [b, c, d, e, f] a))) fun S' ee aa w hS g1 g2 => by
    have e0 : aa.eval x0 = .int .i64 a := hS.ev ((g1 x0 (by simp)).trans h0)
    have e1 : aa.eval x1 = .int .i64 b := hS.ev ((g1 x1 (by simp)).trans h1)
    have e2 : aa.eval x2 = .int .i64 c := hS.ev ((g1 x2 (by simp)).trans h2)
    have e3 : aa.eval x3 = .int .i64 d := hS.ev ((g1 x3 (by simp)).trans h3)
    have e4 : aa.eval x4 = .int .i64 e := hS.ev ((g1 x4 (by simp)).trans h4)
    have e5 : aa.eval x5 = .int .i64 f := hS.ev ((g1 x5 (by simp)).trans h5)
    simp [execOp, resolve, invoke, builtin, e0, e1, e2, e3, e4, e5, Builtin.max_, Builtin.max2, SV.c, maxL]
  simpa using this
theorem op_min6I (hd : dstB dst C.nt = true) (h0 : EvI S x0 a) (h1 : EvI S x1 b) (h2 : EvI S x2 c) (h3 : EvI S x3 d) (h4 : EvI S x4 e) (h5 : EvI S x5 f) : OpG C Try.prog ops ⟨dst, .call { callee := .builtin .min, args := #[x0, x1, x2, x3, x4, x5], argTypes := ats }, ty, pos, after, none⟩ S ⟨[x0, x1, x2, x3, x4, x5].flatMap opT, [], dw dst (.c (.int .i64 (minL [b, c, d, e, f] a))), [], []⟩ := by
  have := op_value (C := C) (P := Try.prog) (ops := ops) (S := S) (o := ⟨dst, .call { callee := .builtin .min, args := #[x0, x1, x2, x3, x4, x5], argTypes := ats }, ty, pos, after, none⟩) rfl hd [x0, x1, x2, x3, x4, x5] [] (.c (.int .i64 (minL [b, c, d, e, f] a))) fun S' ee aa w hS g1 g2 => by
    have e0 : aa.eval x0 = .int .i64 a := hS.ev ((g1 x0 (by simp)).trans h0)
    have e1 : aa.eval x1 = .int .i64 b := hS.ev ((g1 x1 (by simp)).trans h1)
    have e2 : aa.eval x2 = .int .i64 c := hS.ev ((g1 x2 (by simp)).trans h2)
    have e3 : aa.eval x3 = .int .i64 d := hS.ev ((g1 x3 (by simp)).trans h3)
    have e4 : aa.eval x4 = .int .i64 e := hS.ev ((g1 x4 (by simp)).trans h4)
    have e5 : aa.eval x5 = .int .i64 f := hS.ev ((g1 x5 (by simp)).trans h5)
    simp [execOp, resolve, invoke, builtin, e0, e1, e2, e3, e4, e5, Builtin.min_, Builtin.min2, SV.c, minL]
  simpa using this
end
def cross22 (lo hi o d : P3) : Bool := mayP o d && (decide (maxL [lo.y, lo.z, hi.x, hi.y, hi.z] lo.x ≤ 65536) && (decide (-65536 ≤ minL [lo.y, lo.z, hi.x, hi.y, hi.z] lo.x) && (spanP lo hi o d).2))
attribute [local irreducible] Calls Walk1 WalkTo Tri EndA
theorem crosses_any (lo hi o d : P3) (w : World) : Calls Try.prog 11 #[.agg lo.c, .agg hi.c, .agg o.c, .agg d.c] w fun e w' => e = .returned (.bool (cross22 lo hi o d)) ∧ Below w.heap.size w w' := by
  have c1 := fun w => mayT_any o d w
  have hso : o.c.size = 3 := rfl
  have hsd : d.c.size = 3 := rfl
  have hsm : mayP o d = true → maxL [lo.y, lo.z, hi.x, hi.y, hi.z] lo.x ≤ 65536 → -65536 ≤ minL [lo.y, lo.z, hi.x, hi.y, hi.z] lo.x → smP lo ∧ smP hi ∧ smP o ∧ smP d := by
    intro h1 h2 h3
    rw [maxL_le] at h2
    rw [minL_le] at h3
    have m := fun x hx => h2.2 x hx
    have k := fun x hx => h3.2 x hx
    have mo : ∀ (p : P3) (b : Int), inP p b = true → 0 ≤ b → b ≤ 131072 → smP p := fun p b hp hb0 hb => by
      unfold inP max3 min3 at hp
      simp only [Bool.and_eq_true, decide_eq_true_eq] at hp
      intro z hz
      simp only [P3.l, List.mem_cons, List.not_mem_nil, or_false] at hz
      rcases hz with rfl | rfl | rfl <;> omega
    unfold mayP at h1
    simp only [Bool.and_eq_true] at h1
    refine ⟨fun z hz => ?_, fun z hz => ?_, mo o 65536 h1.1 (by omega) (by omega), mo d 131072 h1.2.1 (by omega) (by omega)⟩
    · simp only [P3.l, List.mem_cons, List.not_mem_nil, or_false] at hz
      rcases hz with rfl | rfl | rfl
      · have := h2.1; have := h3.1; omega
      · have := m lo.y (by simp); have := k lo.y (by simp); omega
      · have := m lo.z (by simp); have := k lo.z (by simp); omega
    · simp only [P3.l, List.mem_cons, List.not_mem_nil, or_false] at hz
      rcases hz with rfl | rfl | rfl
      · have := m hi.x (by simp); have := k hi.x (by simp); omega
      · have := m hi.y (by simp); have := k hi.y (by simp); omega
      · have := m hi.z (by simp); have := k hi.z (by simp); omega
  have c2 := fun a b c d' w => span22_any lo hi o d a b c d' w
  unfold cross22
  generalize hM : maxL [lo.y, lo.z, hi.x, hi.y, hi.z] lo.x = M at *
  generalize hm : minL [lo.y, lo.z, hi.x, hi.y, hi.z] lo.x = m at *
  generalize mayP o d = A at *
  generalize (spanP lo hi o d).1 = F at *
  generalize (spanP lo hi o d).2 = G at *
  generalize o.c = O at *
  generalize d.c = D at *
  obtain ⟨lx, ly, lz⟩ := lo
  obtain ⟨hx, hy, hz⟩ := hi
  simp only [P3.c] at *
  cases A with
  | false =>
    rw [Bool.false_and]
    refine calls_tri Try.func11 rfl Try.ntmps11 rfl ?_
    repeat (first | (show Walk1 _ _ _ (_ :: _) _ _; first | (show Walk1 _ _ _ (⟨_, _, _, _, _, some _⟩ :: _) _ _; refine zn1 ?_) | (show HW1 (.move _); refine wz1 ?_) | (show HW1 (.assign _); refine wz2 ?_) | (show HW1 (.pick _ _ _); refine wz8 ?_) | (show HW1 (.unOp _ _ _); refine wz19 ?_) | (show HW1 (.load _ _); refine wz9 ?_) | (show HW1 (.box _ _); refine wz11 ?_) | (show HW1 (.call ⟨.value (.func 12), _, _⟩); ((first | refine cwalk11 12 ?_ | refine cwalk10 12 ?_); refine ⟨_, fun e w => c1 w, ?_⟩))) | refine go1 ?_ | refine end_block_other rfl ?_ | refine end_scope (fun _ h => by cases h) ?_ | (refine walk_endD ?_ ?_; (· kernel_rfl)) | refine tri_yesA rfl ?_ | refine tri_noA rfl ?_ | refine tri_trueA rfl ?_ | refine tri_falseA rfl ?_)
    refine end_ret _ (res_tmp rfl rfl) ?_
    exact fin_below fun _ => rfl
  | true =>
    rw [Bool.true_and]
    by_cases h1 : M > 65536
    · rw [decide_eq_false (by omega), Bool.false_and]
      refine calls_tri Try.func11 rfl Try.ntmps11 rfl ?_
      repeat (first | (show Walk1 _ _ _ (_ :: _) _ _; first | (show Walk1 _ _ _ (⟨_, _, _, _, _, some _⟩ :: _) _ _; first | refine zy1 ?_ | refine zn1 ?_) | (show HW1 (.move _); refine wz1 ?_) | (show HW1 (.assign _); refine wz2 ?_) | (show HW1 (.binOp .gtr _ _ _ _); refine wz21 ?_) | (show HW1 (.pick _ _ _); first | refine wz8 ?_ | refine wz7 ?_) | (show HW1 (.unOp _ _ _); refine wz19 ?_) | (show HW1 (.load _ _); first | refine wz3 ?_ | refine wz9 ?_) | (show HW1 (.box _ _); refine wz11 ?_) | (show HW1 (.fieldAddr _ _ _); refine wz4 ?_) | (show HW1 (.call ⟨.builtin .max, _, _⟩); refine wz106 ?_) | (show HW1 (.call ⟨.value (.func 12), _, _⟩); ((first | refine cwalk11 12 ?_ | refine cwalk10 12 ?_); refine ⟨_, fun e w => c1 w, ?_⟩))) | refine go1 ?_ | refine end_block_other rfl ?_ | refine end_scope (fun _ h => by cases h) ?_ | (refine walk_endD ?_ ?_; (· kernel_rfl)) | refine tri_yesA rfl ?_ | refine tri_noA rfl ?_ | refine tri_trueA rfl ?_ | refine tri_falseA rfl ?_)
      refine end_ret _ (res_tmp rfl rfl) ?_
      exact fin_below fun _ => rfl
    · rw [decide_eq_true (by omega), Bool.true_and]
      by_cases h2 : m < -65536
      · rw [decide_eq_false (by omega), Bool.false_and]
        refine calls_tri Try.func11 rfl Try.ntmps11 rfl ?_
        repeat (first | (show Walk1 _ _ _ (_ :: _) _ _; first | (show Walk1 _ _ _ (⟨_, _, _, _, _, some _⟩ :: _) _ _; refine zy1 ?_) | (show HW1 (.move _); refine wz1 ?_) | (show HW1 (.assign _); refine wz2 ?_) | (show HW1 (.binOp .lss _ _ _ _); refine wz12 ?_) | (show HW1 (.binOp .gtr _ _ _ _); refine wz21 ?_) | (show HW1 (.pick _ _ _); refine wz7 ?_) | (show HW1 (.unOp _ _ _); refine wz19 ?_) | (show HW1 (.load _ _); first | refine wz3 ?_ | refine wz9 ?_) | (show HW1 (.box _ _); refine wz11 ?_) | (show HW1 (.fieldAddr _ _ _); refine wz4 ?_) | (show HW1 (.call ⟨.builtin .min, _, _⟩); refine wz119 ?_) | (show HW1 (.call ⟨.builtin .max, _, _⟩); refine wz106 ?_) | (show HW1 (.call ⟨.value (.func 12), _, _⟩); ((first | refine cwalk11 12 ?_ | refine cwalk10 12 ?_); refine ⟨_, fun e w => c1 w, ?_⟩))) | refine go1 ?_ | refine end_block_other rfl ?_ | refine end_scope (fun _ h => by cases h) ?_ | (refine walk_endD ?_ ?_; (· kernel_rfl)) | refine tri_yesA rfl ?_ | refine tri_noA rfl ?_ | refine tri_trueA rfl ?_ | refine tri_falseA rfl ?_)
        refine end_ret _ (res_tmp rfl rfl) ?_
        exact fin_below fun _ => rfl
      · rw [decide_eq_true (by omega), Bool.true_and]
        obtain ⟨q1, q2, q3, q4⟩ := hsm rfl (by omega) (by omega)
        have c3 := fun w => c2 q1 q2 q3 q4 w
        have hFs : (ratC F).size = 2 := rfl
        have hFo : (ratC F).all (·.oneCell') = true := by simp [ratC]; exact ⟨rfl, rfl⟩
        generalize ratC F = RF at *
        clear c2 hsm q1 q2 q3 q4
        refine calls_tri Try.func11 rfl Try.ntmps11 rfl ?_
        repeat (first | (show Walk1 _ _ _ (_ :: _) _ _; first | (show Walk1 _ _ _ (⟨_, _, _, _, _, some _⟩ :: _) _ _; refine zy1 ?_) | (show HW1 (.move _); refine wz1 ?_) | (show HW1 (.assign _); refine wz2 ?_) | (show HW1 (.binOp .lss _ _ _ _); refine wz12 ?_) | (show HW1 (.binOp .gtr _ _ _ _); refine wz21 ?_) | (show HW1 (.pick _ _ _); refine wz7 ?_) | (show HW1 (.unOp _ _ _); refine wz19 ?_) | (show HW1 (.load _ _); first | refine wz3 ?_ | refine wz9 ?_) | (show HW1 (.store _ _ _); refine wz23 ?_) | (show HW1 (.alloc _); refine wz6 ?_) | (show HW1 (.box _ _); refine wz11 ?_) | (show HW1 (.fieldAddr _ _ _); refine wz4 ?_) | (show HW1 (.extract _ _); first | refine wz16 ?_ | refine wz15 ?_) | (show HW1 (.call ⟨.builtin .min, _, _⟩); refine wz119 ?_) | (show HW1 (.call ⟨.builtin .max, _, _⟩); refine wz106 ?_) | (show HW1 (.call ⟨.value (.func 12), _, _⟩); ((first | refine cwalk11 12 ?_ | refine cwalk10 12 ?_); refine ⟨_, fun e w => c1 w, ?_⟩)) | (show HW1 (.call ⟨.value (.func 28), _, _⟩); ((first | refine cwalk11 28 ?_ | refine cwalk10 28 ?_); refine ⟨_, fun e w => c3 w, ?_⟩))) | refine go1 ?_ | refine end_block_other rfl ?_ | refine end_scope (fun _ h => by cases h) ?_ | (refine walk_endD ?_ ?_; (· kernel_rfl)) | refine tri_yesA rfl ?_ | refine tri_noA rfl ?_ | refine tri_trueA rfl ?_ | refine tri_falseA rfl ?_)
        refine end_ret _ (res_tmp rfl rfl) ?_
        exact fin_below fun _ => rfl
end Go.Proofs.Ytcookaiakfbdiaa
namespace Go.Proofs.Ytcookaiakfbdiaa
open Go.RowKit
set_option maxRecDepth 100000
set_option maxHeartbeats 1000000
/-- A ray that crosses a box has a place in there. -/
theorem spanP_place {lo hi o d : P3} (h : (spanP lo hi o d).2 = true) : ∃ num det : Int, 0 ≤ num ∧ 0 < det ∧ ∀ x ∈ axesP lo hi o d, x.1 * det ≤ x.2.2 * num ∧ x.2.2 * num ≤ x.2.1 * det := by
  obtain ⟨_, h2⟩ := (spanP_iff lo hi o d).1 h
  rcases h2 with h2 | ⟨x, _, m, _, hw, hs, ht⟩
  · refine ⟨0, 1, Int.le_refl 0, by decide, fun x hx => ?_⟩
    have := h2 x hx
    omega
  · refine ⟨sgA x m, wayA x, hs, by have := way_nonneg x; omega, fun y hy => ?_⟩
    have := ht y hy
    unfold inT at this
    have e1 : y.2.2 * sgA x m = sgA x m * y.2.2 := Int.mul_comm _ _
    omega
/-- A box lies in another one. -/
def inBB (lo hi lo' hi' : P3) : Prop := ∀ a, axP lo a ≤ axP lo' a ∧ axP hi' a ≤ axP hi a
theorem span_sub {lo hi lo' hi' o d : P3} (hb : inBB lo hi lo' hi') (h : (spanP lo' hi' o d).2 = true) : (spanP lo hi o d).2 = true := by
  obtain ⟨num, det, h1, h2, h3⟩ := spanP_place h
  have key : ∀ a, a < 3 → (axP lo a - axP o a) * det ≤ axP d a * num ∧ axP d a * num ≤ (axP hi a - axP o a) * det := by
    intro a ha
    have hq : (axP lo' a - axP o a) * det ≤ axP d a * num ∧ axP d a * num ≤ (axP hi' a - axP o a) * det := by
      have m0 := h3 (lo'.x - o.x, hi'.x - o.x, d.x) (by simp [axesP])
      have m1 := h3 (lo'.y - o.y, hi'.y - o.y, d.y) (by simp [axesP])
      have m2 := h3 (lo'.z - o.z, hi'.z - o.z, d.z) (by simp [axesP])
      obtain rfl | rfl | rfl : a = 0 ∨ a = 1 ∨ a = 2 := by omega
      · exact m0
      · exact m1
      · exact m2
    have hba := hb a
    have p1 : (axP lo a - axP o a) * det ≤ (axP lo' a - axP o a) * det := Int.mul_le_mul_of_nonneg_right (by omega) (Int.le_of_lt h2)
    have p2 : (axP hi' a - axP o a) * det ≤ (axP hi a - axP o a) * det := Int.mul_le_mul_of_nonneg_right (by omega) (Int.le_of_lt h2)
    omega
  have hx : ∀ x ∈ axesP lo hi o d, x.1 * det ≤ x.2.2 * num ∧ x.2.2 * num ≤ x.2.1 * det := by
    intro x hx
    simp only [axesP, List.mem_cons, List.not_mem_nil, or_false] at hx
    rcases hx with rfl | rfl | rfl
    · exact key 0 (by omega)
    · exact key 1 (by omega)
    · exact key 2 (by omega)
  exact (spanL_hit (num := num) (det := det) h1 h2 (axesP lo hi o d) (0, 1) (0, 0) false hx (by decide) (by dsimp only; omega) (fun hh => by cases hh)).1
theorem cross_grid {lo hi o d : P3} (hm : mayP o d = true) (h1 : smB 65536 lo) (h2 : smB 65536 hi) (hs : (spanP lo hi o d).2 = true) : cross22 lo hi o d = true := by
  unfold cross22
  unfold smB at h1 h2
  rw [hm, hs, Bool.true_and, Bool.and_true, Bool.and_eq_true, decide_eq_true_eq, decide_eq_true_eq, maxL_le, minL_le]
  simp only [List.mem_cons, List.not_mem_nil, or_false, forall_eq_or_imp, forall_eq]
  omega
theorem cross_parts {lo hi o d : P3} (h : cross22 lo hi o d = true) : mayP o d = true ∧ (spanP lo hi o d).2 = true := by
  unfold cross22 at h
  rw [Bool.and_eq_true, Bool.and_eq_true, Bool.and_eq_true] at h
  exact ⟨h.1, h.2.2.2⟩
/-- What lies at a node of a tree. -/
theorem tree_at {N : List NodeS} {K : List Nat} {l : List TriS} : ∀ (T : Tr) (P M Q : List Nat) (i : Nat), i ∈ T.ixs → T.In N K → T.Good l P.length M → K = P ++ (M ++ Q) →
    ∃ (t : Tr) (P' M' Q' : List Nat), t.ix = i ∧ t.In N K ∧ t.Good l P'.length M' ∧ K = P' ++ (M' ++ Q')
  | .leaf j f c lo hi, P, M, Q, i, hi', hI, hG, hK => by
    simp only [Tr.ixs, List.mem_singleton] at hi'
    subst hi'
    exact ⟨_, P, M, Q, rfl, hI, hG, hK⟩
  | .node j lo hi L R, P, M, Q, i, hi', hI, hG, hK => by
    simp only [Tr.ixs, List.mem_cons, List.mem_append] at hi'
    rcases hi' with rfl | hi' | hi'
    · exact ⟨_, P, M, Q, rfl, hI, hG, hK⟩
    · obtain ⟨X, Y, rfl, hL, hR, _⟩ := hG
      exact tree_at L P X (Y ++ Q) i hi' hI.2.1 hL (by rw [hK]; simp)
    · obtain ⟨X, Y, rfl, hL, hR, _⟩ := hG
      exact tree_at R (P ++ X) Y Q i hi' hI.2.2 (by rw [List.length_append]; exact hR) (by rw [hK]; simp)
def Tr.lo : Tr → P3
  | .leaf _ _ _ lo _ => lo
  | .node _ lo _ _ _ => lo
def Tr.hi : Tr → P3
  | .leaf _ _ _ _ hi => hi
  | .node _ _ hi _ _ => hi
theorem good_box {l : List TriS} {t : Tr} {f : Nat} {M : List Nat} (h : t.Good l f M) : BBx l M (t.lo, t.hi) := by
  cases t with
  | leaf i f c lo hi => exact h.2.2.2
  | node i lo hi L R =>
    obtain ⟨X, Y, rfl, _, _, hb⟩ := h
    exact hb
theorem box_in {l : List TriS} {M X : List Nat} {B B' : P3 × P3} (h : BBx l M B) (h' : BBx l X B') (hs : ∀ k ∈ X, k ∈ M) : inBB B.1 B.2 B'.1 B'.2 := fun a => by
  obtain ⟨⟨k1, m1, e1⟩, k2, m2, e2⟩ := h'.2 a
  have := h.1 k1 (hs k1 m1) a
  have := h.1 k2 (hs k2 m2) a
  omega
end Go.Proofs.Ytcookaiakfbdiaa
namespace Go.Proofs.Ytcookaiakfbdiaa
open Go.RowKit
set_option maxRecDepth 100000
set_option maxHeartbeats 1000000
/-- What is known of a node. -/
def NodeF (l : List TriS) (N : List NodeS) (K : List Nat) (o d : P3) (nd : NodeS) : Prop :=
  (∃ L R : Nat, nd.left = (L : Int) ∧ nd.right = (R : Int) ∧ nd.first = 0 ∧ nd.count = 0 ∧ ∀ k, k = L ∨ k = R → ∃ c, N[k]? = some c ∧ ((spanP c.lo c.hi o d).2 = true → (spanP nd.lo nd.hi o d).2 = true)) ∨
  (∃ f c : Nat, nd.left = -1 ∧ nd.first = (f : Int) ∧ nd.count = (c : Int) ∧ f + c ≤ K.length ∧ ∀ k ∈ (K.drop f).take c, ∃ t, l[k]? = some t ∧ ((hitM o d t.p0 t.p1 t.p2).2 = true → (spanP nd.lo nd.hi o d).2 = true))
theorem in_node {N : List NodeS} {K : List Nat} {t : Tr} (h : t.In N K) : ∃ c, N[t.ix]? = some c ∧ c.lo = t.lo ∧ c.hi = t.hi := by
  cases t with
  | leaf i f c lo hi => exact ⟨_, h.1, rfl, rfl⟩
  | node i lo hi L R => exact ⟨_, h.1, rfl, rfl⟩
theorem node_facts {l : List TriS} (hnr : ∀ t ∈ l, nearT t) (h0 : 0 < l.length) (o d : P3) {i : Nat} {nd : NodeS} (hnd : (treeL l).1[i]? = some nd) : NodeF l (treeL l).1 (treeL l).2 o d nd := by
  obtain ⟨T, a1, _, a3, a4, a5, _, a7⟩ := tree_of l h0 hnr
  generalize (treeL l).1 = N at *
  generalize (treeL l).2 = K at *
  have hlt : i < N.length := (List.getElem?_eq_some_iff.1 hnd).1
  obtain ⟨t, P, M, Q, rfl, hI, hG, hK⟩ := tree_at T [] K [] i (a7 i hlt) a1 a3 (by simp)
  have hKm : ∀ k, k ∈ K → k < l.length := fun k hk => List.mem_range.1 ((a4.mem_iff (a := k)).1 hk)
  cases t with
  | leaf i f c lo hi =>
    have h1 := hI.1
    obtain ⟨rfl, rfl, _, hb⟩ := hG
    rw [show (Tr.leaf i P.length M.length lo hi).ix = i from rfl] at hnd
    rw [h1] at hnd
    obtain rfl := Option.some.inj hnd
    refine .inr ⟨P.length, M.length, rfl, rfl, rfl, hI.2, fun k hk => ?_⟩
    rw [hK, List.drop_left, List.take_left] at hk
    have hkl := hKm k (by rw [hK]; simp [hk])
    obtain ⟨t, ht⟩ : ∃ t, l[k]? = some t := ⟨_, List.getElem?_eq_getElem hkl⟩
    refine ⟨t, ht, fun hh => ?_⟩
    have hf := hit_facts (m := (hitM o d t.p0 t.p1 t.p2).1) (by rw [← hh])
    refine (span_hit hf fun a => ?_).1
    have := hb.1 k hk a
    rw [List.getD_eq_getElem?_getD, ht] at this
    exact this
  | node i lo hi L R =>
    have h1 := hI.1
    obtain ⟨X, Y, rfl, hL, hR, hb⟩ := hG
    rw [show (Tr.node i lo hi L R).ix = i from rfl] at hnd
    rw [h1] at hnd
    obtain rfl := Option.some.inj hnd
    refine .inl ⟨L.ix, R.ix, rfl, rfl, rfl, rfl, fun k hk => ?_⟩
    rcases hk with rfl | rfl
    · obtain ⟨c, hc, e1, e2⟩ := in_node hI.2.1
      refine ⟨c, hc, fun hs => ?_⟩
      rw [e1, e2] at hs
      exact span_sub (box_in hb (good_box hL) fun k hk => List.mem_append_left _ hk) hs
    · obtain ⟨c, hc, e1, e2⟩ := in_node hI.2.2
      refine ⟨c, hc, fun hs => ?_⟩
      rw [e1, e2] at hs
      exact span_sub (box_in hb (good_box hR) fun k hk => List.mem_append_right _ hk) hs
/-- Of four answers, looked at one after the other, one is no. -/
def Four (a cr m1 m2 : Bool) : Prop := a = false ∨ (a = true ∧ cr = true ∧ (!cr) = false) ∨ (a = true ∧ cr = false ∧ (!cr) = true ∧ m1 = false) ∨ (a = true ∧ cr = false ∧ (!cr) = true ∧ m1 = true ∧ m2 = false)
theorem fourB_of {a : Bool} {lo hi o d q : P3} (hm : a = true → mayP o d = true) (hs : a = true → (spanP lo hi o d).2 = true) : Four a (cross22 lo hi o d) (mayP lo q) (mayP hi q) := by
  unfold Four
  cases ha : a with
  | false => exact .inl rfl
  | true =>
    cases hc : cross22 lo hi o d with
    | true => exact .inr (.inl ⟨rfl, rfl, rfl⟩)
    | false =>
      cases h1 : mayP lo q with
      | false => exact .inr (.inr (.inl ⟨rfl, rfl, rfl, rfl⟩))
      | true =>
        cases h2 : mayP hi q with
        | false => exact .inr (.inr (.inr ⟨rfl, rfl, rfl, rfl, rfl⟩))
        | true =>
          exfalso
          unfold mayP at h1 h2
          rw [Bool.and_eq_true] at h1 h2
          have := cross_grid (hm ha) (inP_sm h1.1) (inP_sm h2.1) (hs ha)
          rw [this] at hc
          cases hc
theorem hitM_may {o d p0 p1 p2 : P3} (h : (hitM o d p0 p1 p2).2 = true) : mayP o d = true := by
  unfold hitM at h
  split at h
  · rename_i hc
    rw [Bool.and_eq_true] at hc
    exact hc.1
  · cases h
end Go.Proofs.Ytcookaiakfbdiaa
namespace Go.Proofs.Ytcookaiakfbdiaa
open Go.RowKit
set_option maxRecDepth 100000
set_option maxHeartbeats 1000000
/-- All values as they are now. -/
def closeT (e : Env) (t : List (Nat × SV)) : List (Nat × SV) := t.map fun p => (p.1, SV.c (p.2.den e))
theorem look_closeT (e : Env) (i : Nat) : ∀ t : List (Nat × SV), look (closeT e t) i = (look t i).map fun v => SV.c (v.den e)
  | [] => rfl
  | (j, x) :: l => by
    show look ((j, SV.c (x.den e)) :: closeT e l) i = _
    rw [look_cons, look_cons, look_closeT e i l]
    split <;> rfl
section
variable {C : Ctx} {S : St}
theorem tri_close {P : Program} {c : Code} {Q : Exit → Act → World → Prop} (hm : C.m = []) (h : ∀ (e : Env) (w : World), Below C.w0.heap.size C.w0 w → (∀ n r, S.res n = some r → r.ok e w) → Tri ⟨C.nt, w, []⟩ P ⟨closeT e S.t, []⟩ c Q) : Tri C P S c Q := fun e a w hS => by
  refine h e w (hS.frame.below hm) hS.res e a w ⟨hS.defers, hS.size, fun i v hv => ?_, fun n r hr => (by cases hr), fun n r hr => (by cases hr), fun n m r r' hr => (by cases hr), ⟨rfl, rfl, rfl, Nat.le_refl _, fun _ _ _ => rfl⟩⟩
  have hv : look (closeT e S.t) i = some v := hv
  rw [look_closeT] at hv
  cases hl : look S.t i with
  | none => rw [hl] at hv; cases hv
  | some u =>
    rw [hl] at hv
    obtain rfl := Option.some.inj hv
    exact hS.tmp i u hl
end
theorem below_andThen {w w' w'' : World} (h : Below w.heap.size w w') (h' : Below w'.heap.size w' w'') : Below w.heap.size w w'' :=
  ⟨h'.os.trans h.os, h'.tape.trans h.tape, h'.output.trans h.output, Nat.le_trans h.size h'.size, fun k hk => (h'.block k (Nat.lt_of_lt_of_le hk h.size)).trans (h.block k hk)⟩
theorem FS.anew {w w' : World} {size : Nat} {v : Value} {n : Nat} {xs : List Value} (h : FS w size v n xs) (hs : 0 < size) (hb : Below w.heap.size w w') : FS w' size v n xs := h.later hs hb.block
theorem fs_ownN {w : World} {T size len : Nat} {v : Value} {xs : List Value} (h : w.ownsRow 0 T size v len xs) : FS w size v len xs := by
  refine ⟨⟨h.1, ?_⟩, ?_⟩
  · rcases h.2 with ⟨h1, h2⟩ | ⟨g, cap, cur, h1, _, h3, _, _, _, h4⟩
    · exact ⟨none, 0, by rw [h1, h2], .inl h2⟩
    · refine ⟨some ⟨g, 0, none⟩, cap, h1, .inr ⟨g, 0, rfl, fun j u hu => ?_⟩⟩
      have := h.cells (g := g) (by rw [h1]; rfl) j u hu
      rwa [add_place] at this
  · rcases h.2 with ⟨h1, h2⟩ | ⟨g, cap, cur, h1, _, h3, hle, _, _, h4⟩
    · exact ⟨none, 0, by rw [h1, h2], by omega⟩
    · exact ⟨_, cap, h1, hle⟩
/-- A block, told as a slice of one row. -/
def blkV (b : Nat) : Value := .slice (some ⟨b, 0, none⟩) 1 1
theorem fs_blkN {e : Env} {w : World} {n T : Nat} {A : SA} {cells : Array Value} (h : (Res.blk n T A).ok e w) (hA : A.den e = cells) : FS w cells.size (blkV (e n).b) 1 cells.toList := by
  obtain ⟨fr, h1, _⟩ := h
  rw [hA] at h1
  refine ⟨⟨by simp, some ⟨(e n).b, 0, none⟩, 1, rfl, .inr ⟨(e n).b, 0, rfl, fun j u hu => ?_⟩⟩, some ⟨(e n).b, 0, none⟩, 1, rfl, Nat.le_refl 1⟩
  rw [Nat.zero_add]
  refine (cell_of_row w (e n).b j cells T fr h1).trans ?_
  rw [← Array.getElem?_toList]; exact hu
/-- The end of a walk that was begun anew. -/
theorem fin_anew {S : St} {u : Value} {V : SV} {w0 w1 : World} {n : Nat} (hb : Below w0.heap.size w0 w1) (h : ∀ e, V.den e = u) : ∀ e a w, Holds ⟨n, w1, []⟩ S e a w → (fun r w' => r = Ending.returned u ∧ Below w0.heap.size w0 w') (.returned (V.den e)) w := fun e a w hS =>
  ⟨by rw [h e], below_andThen hb (hS.frame.below rfl)⟩
end Go.Proofs.Ytcookaiakfbdiaa
