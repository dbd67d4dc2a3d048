/- When a ray meets a box, told twice: plain. No condition. A ray that meets a box begins in it or comes through a side: plain. No condition. Whether a ray meets a box, by the program: walked. No condition. -/
import Derived.Test.YtmpnkknocfaciaaWlk3
namespace Go.Proofs.Ytmpnkknocfaciaa
open Go.RowKit
set_option maxRecDepth 100000
theorem rat_trans {a b c d e f : Int} (hb : 0 < b) (hd : 0 < d) (hf : 0 < f) (h1 : a * d ≤ c * b) (h2 : c * f ≤ e * d) : a * f ≤ e * b := by
  have k1 : a * d * f ≤ c * b * f := Int.mul_le_mul_of_nonneg_right h1 (Int.le_of_lt hf)
  have k2 : c * f * b ≤ e * d * b := Int.mul_le_mul_of_nonneg_right h2 (Int.le_of_lt hb)
  have e1 : a * d * f = a * f * d := by rw [Int.mul_assoc, Int.mul_comm d f, ← Int.mul_assoc]
  have e2 : c * b * f = c * f * b := by rw [Int.mul_assoc, Int.mul_comm b f, ← Int.mul_assoc]
  have e3 : e * d * b = e * b * d := by rw [Int.mul_assoc, Int.mul_comm d b, ← Int.mul_assoc]
  exact Int.le_of_mul_le_mul_right (a := d) (by omega) hd
abbrev Ax := Int × Int × Int
def inT (N W : Int) (x : Ax) : Prop := x.1 * W ≤ x.2.2 * N ∧ x.2.2 * N ≤ x.2.1 * W
def nearA (x : Ax) : Int := if x.2.2 < 0 then -x.2.1 else x.1
def farA (x : Ax) : Int := if x.2.2 < 0 then -x.1 else x.2.1
def wayA (x : Ax) : Int := if x.2.2 < 0 then -x.2.2 else x.2.2
theorem wayA_pos {x : Ax} (h : x.2.2 ≠ 0) : 0 < wayA x := by
  unfold wayA
  split <;> omega
theorem inT_iff {N W : Int} {x : Ax} : inT N W x ↔ nearA x * W ≤ N * wayA x ∧ N * wayA x ≤ farA x * W := by
  obtain ⟨n, r, w⟩ := x
  unfold inT nearA farA wayA
  dsimp only
  rw [Int.mul_comm w N]
  split
  · rw [Int.mul_neg, Int.neg_mul, Int.neg_mul]
    omega
  · exact Iff.rfl
def maxF (f : Int × Int) (x : Ax) : Int × Int := if rlt f (nearA x, wayA x) then (nearA x, wayA x) else f
def minT (t : Int × Int) (b : Bool) (x : Ax) : Int × Int := if b = false ∨ rlt (farA x, wayA x) t then (farA x, wayA x) else t
theorem spanL_step {x : Ax} {l : List Ax} {f t : Int × Int} {b : Bool} (h1 : ¬ x.1 > x.2.1) (h2 : x.2.2 ≠ 0) : spanL (x :: l) f t b = spanL l (maxF f x) (minT t b x) true := by
  obtain ⟨n, r, w⟩ := x
  dsimp only at h1 h2
  by_cases h5 : w < 0
  · rw [spanL_neg h1 h5]
    simp only [maxF, minT, nearA, farA, wayA, h5, if_true]
  · rw [spanL_pos h1 h2 h5]
    simp only [maxF, minT, nearA, farA, wayA, h5, if_false]
theorem spanL_iff : ∀ (l : List Ax) (f t : Int × Int) (b : Bool), 0 < f.2 → 0 ≤ f.1 → (b = true → 0 < t.2) →
    ((spanL l f t b).2 = true ↔ (∀ x ∈ l, x.1 ≤ x.2.1) ∧ ∃ N W : Int, 0 < W ∧ 0 ≤ N ∧ f.1 * W ≤ N * f.2 ∧ (b = true → N * t.2 ≤ t.1 * W) ∧ ∀ x ∈ l, inT N W x)
  | [], f, t, b, hf, hf0, ht => by
    rw [spanL]
    cases b with
    | false =>
      refine ⟨fun _ => ⟨fun x hx => by simp at hx, f.1, f.2, hf, hf0, Int.le_refl _, fun h => (by cases h), fun x hx => by simp at hx⟩, fun _ => rfl⟩
    | true =>
      have ht := ht rfl
      show (false || !decide (rlt t f)) = true ↔ _
      rw [Bool.false_or, Bool.not_eq_true', decide_eq_false_iff_not]
      unfold rlt
      constructor
      · intro h
        exact ⟨fun x hx => by simp at hx, f.1, f.2, hf, hf0, Int.le_refl _, fun _ => by omega, fun x hx => by simp at hx⟩
      · rintro ⟨_, N, W, hW, hN, h1, h2, _⟩
        have := rat_trans (a := f.1) (b := f.2) (c := N) (d := W) (e := t.1) (f := t.2) hf hW ht h1 (h2 rfl)
        omega
  | x :: l, f, t, b, hf, hf0, ht => by
    by_cases h1 : x.1 > x.2.1
    · obtain ⟨n, r, w⟩ := x
      rw [spanL_bad h1]
      refine ⟨fun h => by simp at h, fun h => ?_⟩
      have := h.1 (n, r, w) (by simp)
      exact absurd this (by omega)
    · by_cases h2 : x.2.2 = 0
      · obtain ⟨n, r, w⟩ := x
        dsimp only at h1 h2
        subst h2
        by_cases h3 : n > 0 ∨ r < 0
        · rw [spanL_out h1 rfl h3]
          refine ⟨fun h => by simp at h, ?_⟩
          rintro ⟨_, N, W, hW, hN, _, _, h⟩
          have h4 := h (n, r, 0) (by simp)
          unfold inT at h4
          dsimp only at h4
          rw [Int.zero_mul] at h4
          rcases h3 with h3 | h3
          · exact absurd (Int.mul_pos h3 hW) (by omega)
          · exact absurd (Int.mul_neg_of_neg_of_pos h3 hW) (by omega)
        · rw [spanL_in h1 rfl h3, spanL_iff l f t b hf hf0 ht]
          constructor
          · rintro ⟨g, N, W, hW, hN, k1, k2, k3⟩
            refine ⟨fun x hx => ?_, N, W, hW, hN, k1, k2, fun x hx => ?_⟩
            · rcases List.mem_cons.1 hx with rfl | hx
              · dsimp only; omega
              · exact g x hx
            · rcases List.mem_cons.1 hx with rfl | hx
              · unfold inT
                dsimp only
                rw [Int.zero_mul]
                exact ⟨Int.mul_nonpos_of_nonpos_of_nonneg (by omega) (by omega), Int.mul_nonneg (by omega) (by omega)⟩
              · exact k3 x hx
          · rintro ⟨g, N, W, hW, hN, k1, k2, k3⟩
            exact ⟨fun x hx => g x (by simp [hx]), N, W, hW, hN, k1, k2, fun x hx => k3 x (by simp [hx])⟩
      · have hw := wayA_pos h2
        have hm : 0 < (maxF f x).2 ∧ 0 ≤ (maxF f x).1 := by
          unfold maxF
          split
          · rename_i h
            unfold rlt at h
            dsimp only at h ⊢
            refine ⟨hw, ?_⟩
            by_cases h0 : 0 ≤ nearA x
            · exact h0
            · exfalso
              have k1 : 0 ≤ f.1 * wayA x := Int.mul_nonneg hf0 (by omega)
              have k2 : nearA x * f.2 < 0 := Int.mul_neg_of_neg_of_pos (by omega) hf
              omega
          · exact ⟨hf, hf0⟩
        have hmt : 0 < (minT t b x).2 := by
          unfold minT
          split
          · exact hw
          · rename_i h
            refine ht ?_
            cases b with
            | false => exact absurd (.inl rfl) h
            | true => rfl
        rw [spanL_step h1 h2, spanL_iff l _ _ true hm.1 hm.2 (fun _ => hmt)]
        have key : ∀ N W : Int, 0 < W → 0 ≤ N → ((maxF f x).1 * W ≤ N * (maxF f x).2 ∧ N * (minT t b x).2 ≤ (minT t b x).1 * W ↔ f.1 * W ≤ N * f.2 ∧ (b = true → N * t.2 ≤ t.1 * W) ∧ inT N W x) := by
          intro N W hW hN
          rw [inT_iff]
          have p1 : (maxF f x).1 * W ≤ N * (maxF f x).2 ↔ f.1 * W ≤ N * f.2 ∧ nearA x * W ≤ N * wayA x := by
            unfold maxF
            split
            · rename_i h
              unfold rlt at h
              dsimp only at h ⊢
              refine ⟨fun k => ⟨?_, k⟩, fun k => k.2⟩
              exact rat_trans (c := nearA x) (d := wayA x) hf hw hW (by omega) k
            · rename_i h
              unfold rlt at h
              dsimp only at h
              refine ⟨fun k => ⟨k, ?_⟩, fun k => k.1⟩
              exact rat_trans (c := f.1) (d := f.2) hw hf hW (by omega) k
          have p2 : N * (minT t b x).2 ≤ (minT t b x).1 * W ↔ (b = true → N * t.2 ≤ t.1 * W) ∧ N * wayA x ≤ farA x * W := by
            unfold minT
            cases b with
            | false =>
              rw [if_pos (.inl rfl)]
              exact ⟨fun k => ⟨fun h => (by cases h), k⟩, fun k => k.2⟩
            | true =>
              have ht := ht rfl
              split
              · rename_i h
                have h : rlt (farA x, wayA x) t := h.resolve_left (by simp)
                unfold rlt at h
                dsimp only at h ⊢
                refine ⟨fun k => ⟨fun _ => ?_, k⟩, fun k => k.2⟩
                exact rat_trans (c := farA x) (d := wayA x) hW hw ht k (by omega)
              · rename_i h
                have h : ¬ rlt (farA x, wayA x) t := fun k => h (.inr k)
                unfold rlt at h
                dsimp only at h
                refine ⟨fun k => ⟨fun _ => k, ?_⟩, fun k => k.1 rfl⟩
                exact rat_trans (c := t.1) (d := t.2) hW ht hw k (by omega)
          rw [p1, p2]
          constructor
          · rintro ⟨⟨q1, q2⟩, q3, q4⟩
            exact ⟨q1, q3, q2, q4⟩
          · rintro ⟨q1, q3, q2, q4⟩
            exact ⟨⟨q1, q2⟩, q3, q4⟩
        constructor
        · rintro ⟨g, N, W, hW, hN, k1, k2, k3⟩
          obtain ⟨q1, q2, q3⟩ := (key N W hW hN).1 ⟨k1, k2 rfl⟩
          refine ⟨fun y hy => ?_, N, W, hW, hN, q1, q2, fun y hy => ?_⟩
          · rcases List.mem_cons.1 hy with rfl | hy
            · omega
            · exact g y hy
          · rcases List.mem_cons.1 hy with rfl | hy
            · exact q3
            · exact k3 y hy
        · rintro ⟨g, N, W, hW, hN, k1, k2, k3⟩
          obtain ⟨q1, q2⟩ := (key N W hW hN).2 ⟨k1, k2, k3 x (by simp)⟩
          exact ⟨fun y hy => g y (by simp [hy]), N, W, hW, hN, q1, fun _ => q2, fun y hy => k3 y (by simp [hy])⟩
end Go.Proofs.Ytmpnkknocfaciaa
namespace Go.Proofs.Ytmpnkknocfaciaa
open Go.RowKit
set_option maxRecDepth 100000
def Hit22 (l : List Ax) : Prop := ∃ N W : Int, 0 < W ∧ 0 ≤ N ∧ ∀ x ∈ l, inT N W x
def insideA (l : List Ax) : Prop := ∀ x ∈ l, x.1 ≤ 0 ∧ 0 ≤ x.2.1
def sgA (x : Ax) (m : Int) : Int := if x.2.2 < 0 then -m else m
def faceA (l : List Ax) : Prop := ∃ x ∈ l, ∃ m, (m = x.1 ∨ m = x.2.1) ∧ wayA x ≠ 0 ∧ 0 ≤ sgA x m ∧ ∀ y ∈ l, inT (sgA x m) (wayA x) y
theorem way_nonneg (x : Ax) : 0 ≤ wayA x := by
  unfold wayA
  split <;> omega
theorem max_exists : ∀ (l : List Ax), (∃ k ∈ l, k.2.2 ≠ 0) → ∃ x ∈ l, x.2.2 ≠ 0 ∧ ∀ y ∈ l, y.2.2 ≠ 0 → nearA y * wayA x ≤ nearA x * wayA y
  | [], h => by obtain ⟨k, hk, _⟩ := h; simp at hk
  | a :: l, h => by
    by_cases hl : ∃ k ∈ l, k.2.2 ≠ 0
    · obtain ⟨x, hx, hx0, hm⟩ := max_exists l hl
      by_cases ha : a.2.2 ≠ 0
      · by_cases hc : nearA x * wayA a ≤ nearA a * wayA x
        · refine ⟨a, by simp, ha, fun y hy hy0 => ?_⟩
          rcases List.mem_cons.1 hy with rfl | hy
          · exact Int.le_refl _
          · exact rat_trans (wayA_pos hy0) (wayA_pos hx0) (wayA_pos ha) (hm y hy hy0) hc
        · refine ⟨x, by simp [hx], hx0, fun y hy hy0 => ?_⟩
          rcases List.mem_cons.1 hy with rfl | hy
          · omega
          · exact hm y hy hy0
      · refine ⟨x, by simp [hx], hx0, fun y hy hy0 => ?_⟩
        rcases List.mem_cons.1 hy with rfl | hy
        · exact absurd hy0 ha
        · exact hm y hy hy0
    · obtain ⟨k, hk, hk0⟩ := h
      rcases List.mem_cons.1 hk with rfl | hk
      · refine ⟨k, by simp, hk0, fun y hy hy0 => ?_⟩
        rcases List.mem_cons.1 hy with rfl | hy
        · exact Int.le_refl _
        · exact absurd ⟨y, hy, hy0⟩ hl
      · exact absurd ⟨k, hk, hk0⟩ hl
theorem inT_flat {N W : Int} {x : Ax} (h0 : x.2.2 = 0) (hW : 0 < W) : inT N W x ↔ x.1 ≤ 0 ∧ 0 ≤ x.2.1 := by
  unfold inT
  rw [h0, Int.zero_mul]
  constructor
  · rintro ⟨h1, h2⟩
    constructor
    · by_cases h : x.1 ≤ 0
      · exact h
      · exact absurd (Int.mul_pos (show 0 < x.1 by omega) hW) (by omega)
    · by_cases h : 0 ≤ x.2.1
      · exact h
      · exact absurd (Int.mul_neg_of_neg_of_pos (show x.2.1 < 0 by omega) hW) (by omega)
  · rintro ⟨h1, h2⟩
    exact ⟨Int.mul_nonpos_of_nonpos_of_nonneg h1 (by omega), Int.mul_nonneg h2 (by omega)⟩
theorem hit_iff (l : List Ax) : Hit22 l ↔ insideA l ∨ faceA l := by
  constructor
  · rintro ⟨N, W, hW, hN, h⟩
    by_cases hin : insideA l
    · exact .inl hin
    right
    obtain ⟨k, hk, hkn⟩ : ∃ k ∈ l, ¬ (k.1 ≤ 0 ∧ 0 ≤ k.2.1) := by
      refine Classical.byContradiction fun hc => hin fun x hx => ?_
      exact Classical.byContradiction fun hx2 => hc ⟨x, hx, hx2⟩
    have hk0 : k.2.2 ≠ 0 := fun h0 => hkn ((inT_flat h0 hW).1 (h k hk))
    have hkw := wayA_pos hk0
    have hkp : 0 < nearA k := by
      obtain ⟨q1, q2⟩ := inT_iff.1 (h k hk)
      have q3 : 0 ≤ N * wayA k := Int.mul_nonneg hN (by omega)
      have q4 : 0 ≤ farA k := by
        by_cases h4 : 0 ≤ farA k
        · exact h4
        · exact absurd (Int.mul_neg_of_neg_of_pos (show farA k < 0 by omega) hW) (by omega)
      unfold nearA farA at *
      split at q4 <;> rename_i hs <;> simp only [hs, if_true, if_false] at * <;> omega
    obtain ⟨x, hx, hx0, hm⟩ := max_exists l ⟨k, hk, hk0⟩
    have hxw := wayA_pos hx0
    have hxp : 0 < nearA x := by
      have q1 := hm k hk hk0
      have q2 : 0 < nearA k * wayA x := Int.mul_pos hkp hxw
      by_cases h4 : 0 < nearA x
      · exact h4
      · exact absurd (Int.mul_nonpos_of_nonpos_of_nonneg (show nearA x ≤ 0 by omega) (show 0 ≤ wayA k by omega)) (by omega)
    have hsg : sgA x (if x.2.2 < 0 then x.2.1 else x.1) = nearA x := by
      unfold sgA nearA
      split <;> rfl
    refine ⟨x, hx, if x.2.2 < 0 then x.2.1 else x.1, ?_, by omega, by rw [hsg]; omega, fun y hy => ?_⟩
    · split
      · exact .inr rfl
      · exact .inl rfl
    · rw [hsg]
      by_cases hy0 : y.2.2 = 0
      · exact (inT_flat hy0 hxw).2 ((inT_flat hy0 hW).1 (h y hy))
      · refine inT_iff.2 ⟨hm y hy hy0, ?_⟩
        have q1 := (inT_iff.1 (h x hx)).1
        have q2 := (inT_iff.1 (h y hy)).2
        exact rat_trans (c := N) (d := W) hxw hW (wayA_pos hy0) q1 q2
  · rintro (h | ⟨x, hx, m, _, hw, hs, h⟩)
    · refine ⟨0, 1, by omega, by omega, fun x hx => ?_⟩
      obtain ⟨h1, h2⟩ := h x hx
      unfold inT
      omega
    · have := way_nonneg x
      exact ⟨sgA x m, wayA x, by omega, hs, h⟩
theorem spanP_iff (lo hi o d : P3) : (spanP lo hi o d).2 = true ↔ (∀ x ∈ axesP lo hi o d, x.1 ≤ x.2.1) ∧ (insideA (axesP lo hi o d) ∨ faceA (axesP lo hi o d)) := by
  unfold spanP
  rw [spanL_iff _ _ _ _ (by decide) (by decide) (fun h => by cases h), ← hit_iff]
  unfold Hit22
  constructor
  · rintro ⟨h1, N, W, hW, hN, _, _, h⟩
    exact ⟨h1, N, W, hW, hN, h⟩
  · rintro ⟨h1, N, W, hW, hN, h⟩
    refine ⟨h1, N, W, hW, hN, ?_, fun h => (by cases h), h⟩
    dsimp only
    omega
end Go.Proofs.Ytmpnkknocfaciaa
namespace Go.Proofs.Ytmpnkknocfaciaa
open Go.RowKit
set_option maxRecDepth 100000
set_option maxHeartbeats 4000000
def maxL (l : List Int) (a : Int) : Int := l.foldl (fun m x => if m < x then x else m) a
def minL (l : List Int) (a : Int) : Int := l.foldl (fun m x => if x < m then x else m) a
theorem maxL_le : ∀ (l : List Int) (a m : Int), maxL l a ≤ m ↔ a ≤ m ∧ ∀ x ∈ l, x ≤ m
  | [], a, m => by simp [maxL]
  | x :: l, a, m => by
    show maxL l (if a < x then x else a) ≤ m ↔ _
    rw [maxL_le l]
    constructor
    · rintro ⟨h1, h2⟩
      refine ⟨by split at h1 <;> omega, fun y hy => ?_⟩
      rcases List.mem_cons.1 hy with rfl | hy
      · split at h1 <;> omega
      · exact h2 y hy
    · rintro ⟨h1, h2⟩
      have := h2 x (by simp)
      exact ⟨by split <;> omega, fun y hy => h2 y (by simp [hy])⟩
theorem minL_le : ∀ (l : List Int) (a m : Int), m ≤ minL l a ↔ m ≤ a ∧ ∀ x ∈ l, m ≤ x
  | [], a, m => by simp [minL]
  | x :: l, a, m => by
    show m ≤ minL l (if x < a then x else a) ↔ _
    rw [minL_le l]
    constructor
    · rintro ⟨h1, h2⟩
      refine ⟨by split at h1 <;> omega, fun y hy => ?_⟩
      rcases List.mem_cons.1 hy with rfl | hy
      · split at h1 <;> omega
      · exact h2 y hy
    · rintro ⟨h1, h2⟩
      have := h2 x (by simp)
      exact ⟨by split <;> omega, fun y hy => h2 y (by simp [hy])⟩
section
variable {C : Ctx} {ops : Array Oper} {S : St} {dst : Option Tmp} {x0 x1 x2 x3 x4 x5 : Operand} {ats : Array TypeId} {ty : TypeId} {pos : String} {after : Array Edge} {a b c d e f : Int}
theorem op_max6I (hd : dstB dst C.nt = true) (h0 : EvI S x0 a) (h1 : EvI S x1 b) (h2 : EvI S x2 c) (h3 : EvI S x3 d) (h4 : EvI S x4 e) (h5 : EvI S x5 f) : OpG C Try.prog ops ⟨dst, .call { callee := .builtin .max, args := #[x0, x1, x2, x3, x4, x5], argTypes := ats }, ty, pos, after, none⟩ S ⟨[x0, x1, x2, x3, x4, x5].flatMap opT, [], dw dst (.c (.int .i64 (maxL [b, c, d, e, f] a))), [], []⟩ := by
  have := op_value (C := C) (P := Try.prog) (ops := ops) (S := S) (o := ⟨dst, .call { callee := .builtin .max, args := #[x0, x1, x2, x3, x4, x5], argTypes := ats }, ty, pos, after, none⟩) rfl hd [x0, x1, x2, x3, x4, x5] [] (.c (.int .i64 (maxL [b, c, d, e, f] a))) fun S' ee aa w hS g1 g2 => by
    have e0 : aa.eval x0 = .int .i64 a := hS.ev ((g1 x0 (by simp)).trans h0)
    have e1 : aa.eval x1 = .int .i64 b := hS.ev ((g1 x1 (by simp)).trans h1)
    have e2 : aa.eval x2 = .int .i64 c := hS.ev ((g1 x2 (by simp)).trans h2)
    have e3 : aa.eval x3 = .int .i64 d := hS.ev ((g1 x3 (by simp)).trans h3)
    have e4 : aa.eval x4 = .int .i64 e := hS.ev ((g1 x4 (by simp)).trans h4)
    have e5 : aa.eval x5 = .int .i64 f := hS.ev ((g1 x5 (by simp)).trans h5)
    simp [execOp, resolve, invoke, builtin, e0, e1, e2, e3, e4, e5, Builtin.max_, Builtin.max2, SV.c, maxL]
  simpa using this
theorem op_min6I (hd : dstB dst C.nt = true) (h0 : EvI S x0 a) (h1 : EvI S x1 b) (h2 : EvI S x2 c) (h3 : EvI S x3 d) (h4 : EvI S x4 e) (h5 : EvI S x5 f) : OpG C Try.prog ops ⟨dst, .call { callee := .builtin .min, args := #[x0, x1, x2, x3, x4, x5], argTypes := ats }, ty, pos, after, none⟩ S ⟨[x0, x1, x2, x3, x4, x5].flatMap opT, [], dw dst (.c (.int .i64 (minL [b, c, d, e, f] a))), [], []⟩ := by
  have := op_value (C := C) (P := Try.prog) (ops := ops) (S := S) (o := ⟨dst, .call { callee := .builtin .min, args := #[x0, x1, x2, x3, x4, x5], argTypes := ats }, ty, pos, after, none⟩) rfl hd [x0, x1, x2, x3, x4, x5] [] (.c (.int .i64 (minL [b, c, d, e, f] a))) fun S' ee aa w hS g1 g2 => by
    have e0 : aa.eval x0 = .int .i64 a := hS.ev ((g1 x0 (by simp)).trans h0)
    have e1 : aa.eval x1 = .int .i64 b := hS.ev ((g1 x1 (by simp)).trans h1)
    have e2 : aa.eval x2 = .int .i64 c := hS.ev ((g1 x2 (by simp)).trans h2)
    have e3 : aa.eval x3 = .int .i64 d := hS.ev ((g1 x3 (by simp)).trans h3)
    have e4 : aa.eval x4 = .int .i64 e := hS.ev ((g1 x4 (by simp)).trans h4)
    have e5 : aa.eval x5 = .int .i64 f := hS.ev ((g1 x5 (by simp)).trans h5)
    simp [execOp, resolve, invoke, builtin, e0, e1, e2, e3, e4, e5, Builtin.min_, Builtin.min2, SV.c, minL]
  simpa using this
end
def cross22 (lo hi o d : P3) : Bool := mayP o d && (decide (maxL [lo.y, lo.z, hi.x, hi.y, hi.z] lo.x ≤ 65536) && (decide (-65536 ≤ minL [lo.y, lo.z, hi.x, hi.y, hi.z] lo.x) && (spanP lo hi o d).2))
attribute [local irreducible] Calls Walk1 WalkTo Tri EndA
theorem crosses_any (lo hi o d : P3) (w : World) : Calls Try.prog 23 #[.agg lo.c, .agg hi.c, .agg o.c, .agg d.c] w fun e w' => e = .returned (.bool (cross22 lo hi o d)) ∧ Below w.heap.size w w' := by
  have c1 := fun w => mayT_any o d w
  have hso : o.c.size = 3 := rfl
  have hsd : d.c.size = 3 := rfl
  have hsm : mayP o d = true → maxL [lo.y, lo.z, hi.x, hi.y, hi.z] lo.x ≤ 65536 → -65536 ≤ minL [lo.y, lo.z, hi.x, hi.y, hi.z] lo.x → smP lo ∧ smP hi ∧ smP o ∧ smP d := by
    intro h1 h2 h3
    rw [maxL_le] at h2
    rw [minL_le] at h3
    have m := fun x hx => h2.2 x hx
    have k := fun x hx => h3.2 x hx
    have mo : ∀ (p : P3) (b : Int), inP p b = true → 0 ≤ b → b ≤ 131072 → smP p := fun p b hp hb0 hb => by
      unfold inP max3 min3 at hp
      simp only [Bool.and_eq_true, decide_eq_true_eq] at hp
      intro z hz
      simp only [P3.l, List.mem_cons, List.not_mem_nil, or_false] at hz
      rcases hz with rfl | rfl | rfl <;> omega
    unfold mayP at h1
    simp only [Bool.and_eq_true] at h1
    refine ⟨fun z hz => ?_, fun z hz => ?_, mo o 65536 h1.1 (by omega) (by omega), mo d 131072 h1.2.1 (by omega) (by omega)⟩
    · simp only [P3.l, List.mem_cons, List.not_mem_nil, or_false] at hz
      rcases hz with rfl | rfl | rfl
      · have := h2.1; have := h3.1; omega
      · have := m lo.y (by simp); have := k lo.y (by simp); omega
      · have := m lo.z (by simp); have := k lo.z (by simp); omega
    · simp only [P3.l, List.mem_cons, List.not_mem_nil, or_false] at hz
      rcases hz with rfl | rfl | rfl
      · have := m hi.x (by simp); have := k hi.x (by simp); omega
      · have := m hi.y (by simp); have := k hi.y (by simp); omega
      · have := m hi.z (by simp); have := k hi.z (by simp); omega
  have c2 := fun a b c d' w => span22_any lo hi o d a b c d' w
  unfold cross22
  generalize hM : maxL [lo.y, lo.z, hi.x, hi.y, hi.z] lo.x = M at *
  generalize hm : minL [lo.y, lo.z, hi.x, hi.y, hi.z] lo.x = m at *
  generalize mayP o d = A at *
  generalize (spanP lo hi o d).1 = F at *
  generalize (spanP lo hi o d).2 = G at *
  generalize o.c = O at *
  generalize d.c = D at *
  obtain ⟨lx, ly, lz⟩ := lo
  obtain ⟨hx, hy, hz⟩ := hi
  simp only [P3.c] at *
  cases A with
  | false =>
    rw [Bool.false_and]
    refine calls_tri Try.func23 rfl Try.ntmps23 rfl ?_
    repeat (first | (show Walk1 _ _ _ (_ :: _) _ _; first | (show Walk1 _ _ _ (⟨_, _, _, _, _, some _⟩ :: _) _ _; refine walk1_no rfl rfl (by first | exact decide_eq_true (by omega) | exact decide_eq_false (by omega) | rfl | (show _ = true; with_reducible assumption) | (show _ = false; with_reducible assumption) | (simp <;> fail) | omega) rfl ?_) | (show Walk1 _ _ _ (⟨_, .move _, _, _, _, _⟩ :: _) _ _; refine walk1_t (op_move rfl rfl rfl rfl) ?_) | (show Walk1 _ _ _ (⟨_, .assign _, _, _, _, _⟩ :: _) _ _; refine walk1_t (op_assign rfl rfl rfl rfl) ?_) | (show Walk1 _ _ _ (⟨_, .pick _ _ _, _, _, _, _⟩ :: _) _ _; refine walk1_t (op_pickY rfl rfl rfl rfl (by first | exact decide_eq_true (by omega) | exact decide_eq_false (by omega) | rfl | (show _ = true; with_reducible assumption) | (show _ = false; with_reducible assumption) | (simp <;> fail) | omega) rfl) ?_) | (show Walk1 _ _ _ (⟨_, .unOp _ _ _, _, _, _, _⟩ :: _) _ _; refine walk1_t (op_not rfl rfl rfl rfl) ?_) | (show Walk1 _ _ _ (⟨_, .load _ _, _, _, _, _⟩ :: _) _ _; refine walk1_t (op_loads rfl rfl rfl rfl rfl rfl rfl rfl) ?_) | (show Walk1 _ _ _ (⟨_, .box _ _, _, _, _, _⟩ :: _) _ _; refine walk1_n (op_box rfl rfl rfl rfl rfl) (by kernel_rfl) ?_) | (show Walk1 _ _ _ (⟨_, .call ⟨.value (.func 26), _, _⟩, _, _, _, _⟩ :: _) _ _; ((first | refine walk1_call rfl rfl rfl rfl (by repeat (first | exact evs_nil | apply evs_cons rfl)) rfl ?_ | refine walk1_call0 rfl rfl rfl (by repeat (first | exact evs_nil | apply evs_cons rfl)) rfl ?_); refine ⟨_, fun e w => c1 w, ?_⟩))) | refine go1 ?_ | refine end_block_other rfl ?_ | refine end_scope (fun _ h => by cases h) ?_ | (refine walk_endD ?_ ?_; (· kernel_rfl)) | refine tri_yesA rfl ?_ | refine tri_noA rfl ?_ | refine tri_trueA rfl ?_ | refine tri_falseA rfl ?_)
    refine end_ret _ (res_tmp rfl rfl) ?_
    exact fin_below fun _ => rfl
  | true =>
    rw [Bool.true_and]
    by_cases h1 : M > 65536
    · rw [decide_eq_false (by omega), Bool.false_and]
      refine calls_tri Try.func23 rfl Try.ntmps23 rfl ?_
      repeat (first | (show Walk1 _ _ _ (_ :: _) _ _; first | (show Walk1 _ _ _ (⟨_, _, _, _, _, some _⟩ :: _) _ _; first | refine walk1_yes rfl rfl (by first | exact decide_eq_true (by omega) | exact decide_eq_false (by omega) | rfl | (show _ = true; with_reducible assumption) | (show _ = false; with_reducible assumption) | (simp <;> fail) | omega) ?_ | refine walk1_no rfl rfl (by first | exact decide_eq_true (by omega) | exact decide_eq_false (by omega) | rfl | (show _ = true; with_reducible assumption) | (show _ = false; with_reducible assumption) | (simp <;> fail) | omega) rfl ?_) | (show Walk1 _ _ _ (⟨_, .move _, _, _, _, _⟩ :: _) _ _; refine walk1_t (op_move rfl rfl rfl rfl) ?_) | (show Walk1 _ _ _ (⟨_, .assign _, _, _, _, _⟩ :: _) _ _; refine walk1_t (op_assign rfl rfl rfl rfl) ?_) | (show Walk1 _ _ _ (⟨_, .binOp .gtr _ _ _ _, _, _, _, _⟩ :: _) _ _; refine walk1_t (op_gtI rfl rfl rfl rfl rfl) ?_) | (show Walk1 _ _ _ (⟨_, .pick _ _ _, _, _, _, _⟩ :: _) _ _; first | refine walk1_t (op_pickY rfl rfl rfl rfl (by first | exact decide_eq_true (by omega) | exact decide_eq_false (by omega) | rfl | (show _ = true; with_reducible assumption) | (show _ = false; with_reducible assumption) | (simp <;> fail) | omega) rfl) ?_ | refine walk1_t (op_pickN rfl rfl rfl rfl (by first | exact decide_eq_true (by omega) | exact decide_eq_false (by omega) | rfl | (show _ = true; with_reducible assumption) | (show _ = false; with_reducible assumption) | (simp <;> fail) | omega) rfl) ?_) | (show Walk1 _ _ _ (⟨_, .unOp _ _ _, _, _, _, _⟩ :: _) _ _; refine walk1_t (op_not rfl rfl rfl rfl) ?_) | (show Walk1 _ _ _ (⟨_, .load _ _, _, _, _, _⟩ :: _) _ _; first | refine walk1_t (op_load rfl rfl rfl rfl rfl rfl rfl) ?_ | refine walk1_t (op_loads rfl rfl rfl rfl rfl rfl rfl rfl) ?_) | (show Walk1 _ _ _ (⟨_, .box _ _, _, _, _, _⟩ :: _) _ _; refine walk1_n (op_box rfl rfl rfl rfl rfl) (by kernel_rfl) ?_) | (show Walk1 _ _ _ (⟨_, .fieldAddr _ _ _, _, _, _, _⟩ :: _) _ _; refine walk1_t (op_fldT rfl rfl rfl rfl rfl rfl off_zero) ?_) | (show Walk1 _ _ _ (⟨_, .call ⟨.builtin .max, _, _⟩, _, _, _, _⟩ :: _) _ _; refine walk1_t (op_max6I rfl rfl rfl rfl rfl rfl rfl) ?_) | (show Walk1 _ _ _ (⟨_, .call ⟨.value (.func 26), _, _⟩, _, _, _, _⟩ :: _) _ _; ((first | refine walk1_call rfl rfl rfl rfl (by repeat (first | exact evs_nil | apply evs_cons rfl)) rfl ?_ | refine walk1_call0 rfl rfl rfl (by repeat (first | exact evs_nil | apply evs_cons rfl)) rfl ?_); refine ⟨_, fun e w => c1 w, ?_⟩))) | refine go1 ?_ | refine end_block_other rfl ?_ | refine end_scope (fun _ h => by cases h) ?_ | (refine walk_endD ?_ ?_; (· kernel_rfl)) | refine tri_yesA rfl ?_ | refine tri_noA rfl ?_ | refine tri_trueA rfl ?_ | refine tri_falseA rfl ?_)
      refine end_ret _ (res_tmp rfl rfl) ?_
      exact fin_below fun _ => rfl
    · rw [decide_eq_true (by omega), Bool.true_and]
      by_cases h2 : m < -65536
      · rw [decide_eq_false (by omega), Bool.false_and]
        refine calls_tri Try.func23 rfl Try.ntmps23 rfl ?_
        repeat (first | (show Walk1 _ _ _ (_ :: _) _ _; first | (show Walk1 _ _ _ (⟨_, _, _, _, _, some _⟩ :: _) _ _; refine walk1_yes rfl rfl (by first | exact decide_eq_true (by omega) | exact decide_eq_false (by omega) | rfl | (show _ = true; with_reducible assumption) | (show _ = false; with_reducible assumption) | (simp <;> fail) | omega) ?_) | (show Walk1 _ _ _ (⟨_, .move _, _, _, _, _⟩ :: _) _ _; refine walk1_t (op_move rfl rfl rfl rfl) ?_) | (show Walk1 _ _ _ (⟨_, .assign _, _, _, _, _⟩ :: _) _ _; refine walk1_t (op_assign rfl rfl rfl rfl) ?_) | (show Walk1 _ _ _ (⟨_, .binOp .lss _ _ _ _, _, _, _, _⟩ :: _) _ _; refine walk1_t (op_ltI rfl rfl rfl rfl rfl) ?_) | (show Walk1 _ _ _ (⟨_, .binOp .gtr _ _ _ _, _, _, _, _⟩ :: _) _ _; refine walk1_t (op_gtI rfl rfl rfl rfl rfl) ?_) | (show Walk1 _ _ _ (⟨_, .pick _ _ _, _, _, _, _⟩ :: _) _ _; refine walk1_t (op_pickN rfl rfl rfl rfl (by first | exact decide_eq_true (by omega) | exact decide_eq_false (by omega) | rfl | (show _ = true; with_reducible assumption) | (show _ = false; with_reducible assumption) | (simp <;> fail) | omega) rfl) ?_) | (show Walk1 _ _ _ (⟨_, .unOp _ _ _, _, _, _, _⟩ :: _) _ _; refine walk1_t (op_not rfl rfl rfl rfl) ?_) | (show Walk1 _ _ _ (⟨_, .load _ _, _, _, _, _⟩ :: _) _ _; first | refine walk1_t (op_load rfl rfl rfl rfl rfl rfl rfl) ?_ | refine walk1_t (op_loads rfl rfl rfl rfl rfl rfl rfl rfl) ?_) | (show Walk1 _ _ _ (⟨_, .box _ _, _, _, _, _⟩ :: _) _ _; refine walk1_n (op_box rfl rfl rfl rfl rfl) (by kernel_rfl) ?_) | (show Walk1 _ _ _ (⟨_, .fieldAddr _ _ _, _, _, _, _⟩ :: _) _ _; refine walk1_t (op_fldT rfl rfl rfl rfl rfl rfl off_zero) ?_) | (show Walk1 _ _ _ (⟨_, .call ⟨.builtin .min, _, _⟩, _, _, _, _⟩ :: _) _ _; refine walk1_t (op_min6I rfl rfl rfl rfl rfl rfl rfl) ?_) | (show Walk1 _ _ _ (⟨_, .call ⟨.builtin .max, _, _⟩, _, _, _, _⟩ :: _) _ _; refine walk1_t (op_max6I rfl rfl rfl rfl rfl rfl rfl) ?_) | (show Walk1 _ _ _ (⟨_, .call ⟨.value (.func 26), _, _⟩, _, _, _, _⟩ :: _) _ _; ((first | refine walk1_call rfl rfl rfl rfl (by repeat (first | exact evs_nil | apply evs_cons rfl)) rfl ?_ | refine walk1_call0 rfl rfl rfl (by repeat (first | exact evs_nil | apply evs_cons rfl)) rfl ?_); refine ⟨_, fun e w => c1 w, ?_⟩))) | refine go1 ?_ | refine end_block_other rfl ?_ | refine end_scope (fun _ h => by cases h) ?_ | (refine walk_endD ?_ ?_; (· kernel_rfl)) | refine tri_yesA rfl ?_ | refine tri_noA rfl ?_ | refine tri_trueA rfl ?_ | refine tri_falseA rfl ?_)
        refine end_ret _ (res_tmp rfl rfl) ?_
        exact fin_below fun _ => rfl
      · rw [decide_eq_true (by omega), Bool.true_and]
        obtain ⟨q1, q2, q3, q4⟩ := hsm rfl (by omega) (by omega)
        have c3 := fun w => c2 q1 q2 q3 q4 w
        have hFs : (ratC F).size = 2 := rfl
        have hFo : (ratC F).all (·.oneCell') = true := by simp [ratC]; exact ⟨rfl, rfl⟩
        generalize ratC F = RF at *
        clear c2 hsm q1 q2 q3 q4
        refine calls_tri Try.func23 rfl Try.ntmps23 rfl ?_
        repeat (first | (show Walk1 _ _ _ (_ :: _) _ _; first | (show Walk1 _ _ _ (⟨_, _, _, _, _, some _⟩ :: _) _ _; refine walk1_yes rfl rfl (by first | exact decide_eq_true (by omega) | exact decide_eq_false (by omega) | rfl | (show _ = true; with_reducible assumption) | (show _ = false; with_reducible assumption) | (simp <;> fail) | omega) ?_) | (show Walk1 _ _ _ (⟨_, .move _, _, _, _, _⟩ :: _) _ _; refine walk1_t (op_move rfl rfl rfl rfl) ?_) | (show Walk1 _ _ _ (⟨_, .assign _, _, _, _, _⟩ :: _) _ _; refine walk1_t (op_assign rfl rfl rfl rfl) ?_) | (show Walk1 _ _ _ (⟨_, .binOp .lss _ _ _ _, _, _, _, _⟩ :: _) _ _; refine walk1_t (op_ltI rfl rfl rfl rfl rfl) ?_) | (show Walk1 _ _ _ (⟨_, .binOp .gtr _ _ _ _, _, _, _, _⟩ :: _) _ _; refine walk1_t (op_gtI rfl rfl rfl rfl rfl) ?_) | (show Walk1 _ _ _ (⟨_, .pick _ _ _, _, _, _, _⟩ :: _) _ _; refine walk1_t (op_pickN rfl rfl rfl rfl (by first | exact decide_eq_true (by omega) | exact decide_eq_false (by omega) | rfl | (show _ = true; with_reducible assumption) | (show _ = false; with_reducible assumption) | (simp <;> fail) | omega) rfl) ?_) | (show Walk1 _ _ _ (⟨_, .unOp _ _ _, _, _, _, _⟩ :: _) _ _; refine walk1_t (op_not rfl rfl rfl rfl) ?_) | (show Walk1 _ _ _ (⟨_, .load _ _, _, _, _, _⟩ :: _) _ _; first | refine walk1_t (op_load rfl rfl rfl rfl rfl rfl rfl) ?_ | refine walk1_t (op_loads rfl rfl rfl rfl rfl rfl rfl rfl) ?_) | (show Walk1 _ _ _ (⟨_, .store _ _ _, _, _, _, _⟩ :: _) _ _; refine walk1_b (op_storesC rfl rfl rfl rfl rfl rfl rfl (by with_reducible assumption) (by with_reducible assumption)) ?_) | (show Walk1 _ _ _ (⟨_, .alloc _, _, _, _, _⟩ :: _) _ _; refine walk1_n (op_alloc rfl rfl rfl rfl rfl) (by kernel_rfl) ?_) | (show Walk1 _ _ _ (⟨_, .box _ _, _, _, _, _⟩ :: _) _ _; refine walk1_n (op_box rfl rfl rfl rfl rfl) (by kernel_rfl) ?_) | (show Walk1 _ _ _ (⟨_, .fieldAddr _ _ _, _, _, _, _⟩ :: _) _ _; refine walk1_t (op_fldT rfl rfl rfl rfl rfl rfl off_zero) ?_) | (show Walk1 _ _ _ (⟨_, .extract _ _, _, _, _, _⟩ :: _) _ _; first | refine walk1_t (op_ext0 rfl rfl rfl rfl) ?_ | refine walk1_t (op_ext1 rfl rfl rfl rfl) ?_) | (show Walk1 _ _ _ (⟨_, .call ⟨.builtin .min, _, _⟩, _, _, _, _⟩ :: _) _ _; refine walk1_t (op_min6I rfl rfl rfl rfl rfl rfl rfl) ?_) | (show Walk1 _ _ _ (⟨_, .call ⟨.builtin .max, _, _⟩, _, _, _, _⟩ :: _) _ _; refine walk1_t (op_max6I rfl rfl rfl rfl rfl rfl rfl) ?_) | (show Walk1 _ _ _ (⟨_, .call ⟨.value (.func 26), _, _⟩, _, _, _, _⟩ :: _) _ _; ((first | refine walk1_call rfl rfl rfl rfl (by repeat (first | exact evs_nil | apply evs_cons rfl)) rfl ?_ | refine walk1_call0 rfl rfl rfl (by repeat (first | exact evs_nil | apply evs_cons rfl)) rfl ?_); refine ⟨_, fun e w => c1 w, ?_⟩)) | (show Walk1 _ _ _ (⟨_, .call ⟨.value (.func 52), _, _⟩, _, _, _, _⟩ :: _) _ _; ((first | refine walk1_call rfl rfl rfl rfl (by repeat (first | exact evs_nil | apply evs_cons rfl)) rfl ?_ | refine walk1_call0 rfl rfl rfl (by repeat (first | exact evs_nil | apply evs_cons rfl)) rfl ?_); refine ⟨_, fun e w => c3 w, ?_⟩))) | refine go1 ?_ | refine end_block_other rfl ?_ | refine end_scope (fun _ h => by cases h) ?_ | (refine walk_endD ?_ ?_; (· kernel_rfl)) | refine tri_yesA rfl ?_ | refine tri_noA rfl ?_ | refine tri_trueA rfl ?_ | refine tri_falseA rfl ?_)
        refine end_ret _ (res_tmp rfl rfl) ?_
        exact fin_below fun _ => rfl
end Go.Proofs.Ytmpnkknocfaciaa
