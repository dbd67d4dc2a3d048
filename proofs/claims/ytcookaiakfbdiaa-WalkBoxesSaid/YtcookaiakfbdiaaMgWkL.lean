/- What a walk finds is what one triangle after the other finds: plain. No condition. A walk's Nearest: walked. No condition. -/
import Derived.Test.YtcookaiakfbdiaaMgWkB
import Derived.Test.YtcookaiakfbdiaaMgWkA
import Derived.Test.YtcookaiakfbdiaaMgBld10
namespace Go.Proofs.Ytcookaiakfbdiaa
open Go.RowKit
set_option maxRecDepth 100000
set_option maxHeartbeats 1000000
/-! ### a place in a box lies on the ray behind where the box begins -/
theorem rat_tr {a b c : Int × Int} (hb : 0 < b.2) (ha : 0 ≤ a.2) (hc : 0 ≤ c.2) (h1 : a.1 * b.2 ≤ b.1 * a.2) (h2 : b.1 * c.2 ≤ c.1 * b.2) : a.1 * c.2 ≤ c.1 * a.2 := by
  have e1 := Int.mul_le_mul_of_nonneg_right h1 hc
  have e2 := Int.mul_le_mul_of_nonneg_right h2 ha
  have e3 : (a.1 * c.2) * b.2 ≤ (c.1 * a.2) * b.2 := by
    have q1 : (a.1 * c.2) * b.2 = a.1 * b.2 * c.2 := by grind
    have q2 : (c.1 * a.2) * b.2 = c.1 * b.2 * a.2 := by grind
    have q3 : b.1 * a.2 * c.2 = b.1 * c.2 * a.2 := by grind
    omega
  exact Int.le_of_mul_le_mul_right e3 hb
theorem spanL_hit {num det : Int} (hn : 0 ≤ num) (hd : 0 < det) : ∀ (l : List (Int × Int × Int)) (f t : Int × Int) (b : Bool), (∀ x ∈ l, x.1 * det ≤ x.2.2 * num ∧ x.2.2 * num ≤ x.2.1 * det) → 0 < f.2 → f.1 * det ≤ num * f.2 → (b = true → 0 < t.2 ∧ num * t.2 ≤ t.1 * det) →
    (spanL l f t b).2 = true ∧ (spanL l f t b).1.1 * det ≤ num * (spanL l f t b).1.2 ∧ 0 < (spanL l f t b).1.2
  | [], f, t, b, _, hf, hfn, ht => by
    refine ⟨?_, hfn, hf⟩
    show (!b || !decide (rlt t f)) = true
    cases b with
    | false => rfl
    | true =>
      obtain ⟨t1, t2⟩ := ht rfl
      have : f.1 * t.2 ≤ t.1 * f.2 := rat_tr (a := f) (b := (num, det)) (c := t) hd (by omega) (by omega) hfn t2
      simp only [Bool.not_true, Bool.false_or, Bool.not_eq_true', decide_eq_false_iff_not]
      unfold rlt
      omega
  | (n, r, w) :: l, f, t, b, h, hf, hfn, ht => by
    have hl := fun x hx => h x (List.mem_cons_of_mem _ hx)
    obtain ⟨q1, q2⟩ := h (n, r, w) List.mem_cons_self
    dsimp only at q1 q2
    have h1 : ¬ n > r := by
      intro hgt
      have : r * det < n * det := Int.mul_lt_mul_of_pos_right hgt hd
      omega
    by_cases h2 : w = 0
    · subst h2
      rw [Int.zero_mul] at q1 q2
      have h3 : ¬ (n > 0 ∨ r < 0) := by
        rintro (h3 | h3)
        · have := Int.mul_pos h3 hd
          omega
        · have := Int.mul_neg_of_neg_of_pos h3 hd
          omega
      rw [spanL_in h1 rfl h3]
      exact spanL_hit hn hd l f t b hl hf hfn ht
    · by_cases h4 : w < 0
      · rw [spanL_neg h1 h4]
        refine spanL_hit hn hd l _ _ _ hl ?_ ?_ ?_
        · split
          · dsimp only; omega
          · exact hf
        · split
          · dsimp only
            rw [Int.neg_mul, Int.mul_neg, Int.mul_comm num w]
            omega
          · exact hfn
        · intro _
          split
          · refine ⟨by dsimp only; omega, ?_⟩
            dsimp only
            rw [Int.neg_mul, Int.mul_neg, Int.mul_comm num w]
            omega
          · rename_i hnb
            exact ht (by cases b with
              | true => rfl
              | false => exact absurd (.inl rfl) hnb)
      · rw [spanL_pos h1 h2 h4]
        refine spanL_hit hn hd l _ _ _ hl ?_ ?_ ?_
        · split
          · dsimp only; omega
          · exact hf
        · split
          · dsimp only
            rw [Int.mul_comm num w]
            omega
          · exact hfn
        · intro _
          split
          · refine ⟨by dsimp only; omega, ?_⟩
            dsimp only
            rw [Int.mul_comm num w]
            omega
          · rename_i hnb
            exact ht (by cases b with
              | true => rfl
              | false => exact absurd (.inl rfl) hnb)
/-- A triangle lies in a box. -/
def inBx (lo hi : P3) (t : TriS) : Prop := ∀ a, axP lo a ≤ axP (tbox t).1 a ∧ axP (tbox t).2 a ≤ axP hi a
theorem inBx_cor {lo hi : P3} {t : TriS} (h : inBx lo hi t) (a : Nat) : (axP lo a ≤ axP t.p0 a ∧ axP t.p0 a ≤ axP hi a) ∧ (axP lo a ≤ axP t.p1 a ∧ axP t.p1 a ≤ axP hi a) ∧ (axP lo a ≤ axP t.p2 a ∧ axP t.p2 a ≤ axP hi a) := by
  have h0 := boxP_le (ps := cornersT t) (p := t.p0) (by simp [cornersT]) a
  have h1 := boxP_le (ps := cornersT t) (p := t.p1) (by simp [cornersT]) a
  have h2 := boxP_le (ps := cornersT t) (p := t.p2) (by simp [cornersT]) a
  have := h a
  unfold tbox at this
  omega
theorem span_hit {o d lo hi : P3} {t : TriS} {m : M4} (h : HitF o d t.p0 t.p1 t.p2 m) (hb : inBx lo hi t) : (spanP lo hi o d).2 = true ∧ ¬ rlt (m.num, m.det) (spanP lo hi o d).1 ∧ 0 < (spanP lo hi o d).1.2 := by
  have key : ∀ a, a < 3 → (axP lo a - axP o a) * m.det ≤ axP d a * m.num ∧ axP d a * m.num ≤ (axP hi a - axP o a) * m.det := by
    intro a ha
    have e := h.at_ a ha
    obtain ⟨⟨a1, a2⟩, ⟨b1, b2⟩, c1, c2⟩ := inBx_cor hb a
    have hw : 0 ≤ m.det - m.u - m.v := by have := h.uv; omega
    have p1 := Int.mul_le_mul_of_nonneg_left a1 hw
    have p2 := Int.mul_le_mul_of_nonneg_left a2 hw
    have p3 := Int.mul_le_mul_of_nonneg_left b1 h.u
    have p4 := Int.mul_le_mul_of_nonneg_left b2 h.u
    have p5 := Int.mul_le_mul_of_nonneg_left c1 h.v
    have p6 := Int.mul_le_mul_of_nonneg_left c2 h.v
    generalize axP lo a = LO at *
    generalize axP hi a = HI at *
    generalize axP o a = O at *
    generalize axP d a = D at *
    generalize axP t.p0 a = X0 at *
    generalize axP t.p1 a = X1 at *
    generalize axP t.p2 a = X2 at *
    have s1 : (m.det - m.u - m.v) * LO + m.u * LO + m.v * LO = m.det * LO := by grind
    have s2 : (m.det - m.u - m.v) * HI + m.u * HI + m.v * HI = m.det * HI := by grind
    have s3 : (LO - O) * m.det = m.det * LO - m.det * O := by grind
    have s4 : (HI - O) * m.det = m.det * HI - m.det * O := by grind
    have s5 : D * m.num = m.num * D := Int.mul_comm _ _
    omega
  have hx : ∀ x ∈ axesP lo hi o d, x.1 * m.det ≤ x.2.2 * m.num ∧ x.2.2 * m.num ≤ x.2.1 * m.det := by
    intro x hx
    simp only [axesP, List.mem_cons, List.not_mem_nil, or_false] at hx
    rcases hx with rfl | rfl | rfl
    · exact key 0 (by omega)
    · exact key 1 (by omega)
    · exact key 2 (by omega)
  have := spanL_hit (num := m.num) (det := m.det) (by have := h.num; omega) h.det.1 (axesP lo hi o d) (0, 1) (0, 0) false hx (by decide) (by have := h.num; dsimp only; omega) (fun hh => by cases hh)
  obtain ⟨r1, r2, r3⟩ := this
  refine ⟨r1, ?_, r3⟩
  show ¬ (m.num * (spanP lo hi o d).1.2 < (spanP lo hi o d).1.1 * m.det)
  unfold spanP
  omega
/-! ### the best one -/
/-- What a ray sees of the triangle of this number. -/
def mtW (l : List TriS) (o d : P3) (mask : BitVec 8) (skip : Int) (k : Nat) : M4 × Bool := match l[k]? with
  | some t => meetW o d mask skip k t
  | none => (zM, false)
theorem mtW_hit {l : List TriS} {o d : P3} {mask : BitVec 8} {skip : Int} {k : Nat} (h : (mtW l o d mask skip k).2 = true) : ∃ t, l[k]? = some t ∧ HitF o d t.p0 t.p1 t.p2 (mtW l o d mask skip k).1 := by
  unfold mtW at *
  split at h
  · rename_i t ht
    simp only [ht]
    exact ⟨t, rfl, meetW_ok o d mask skip k t h⟩
  · cases h
def LEm (a b : M4) : Prop := a.num * b.det ≤ b.num * a.det
theorem less_iff {a b : M4} (ha : 0 < a.det) (hb : 0 < b.det) : lessM a b = true ↔ ¬ LEm b a := by
  unfold lessM LEm
  rw [decide_eq_true ha, decide_eq_true hb, Bool.true_and, Bool.true_and, decide_eq_true_eq]
  omega
theorem lef_iff {a b : M4} (ha : 0 < a.det) (hb : 0 < b.det) : lessM a b = false ↔ LEm b a := by
  rw [← Bool.not_eq_true, less_iff ha hb]
  exact Classical.not_not
theorem LEm.tr {a b c : M4} (ha : 0 < a.det) (hb : 0 < b.det) (hc : 0 < c.det) (h1 : LEm a b) (h2 : LEm b c) : LEm a c :=
  rat_tr (a := (a.num, a.det)) (b := (b.num, b.det)) (c := (c.num, c.det)) hb (Int.le_of_lt ha) (Int.le_of_lt hc) h1 h2
theorem LEm.tot (a b : M4) : LEm a b ∨ LEm b a := by unfold LEm; omega
/-- The best of some triangles: the first one of those that are nearest. -/
def Best (h : Nat → M4 × Bool) (A : Nat → Prop) (i : Int) (m : M4) : Prop :=
  (i = -1 ∧ m = zM ∧ ∀ k, A k → (h k).2 = false) ∨
  (∃ k0 : Nat, i = (k0 : Int) ∧ A k0 ∧ (h k0).2 = true ∧ m = (h k0).1 ∧ ∀ k, A k → (h k).2 = true → LEm m (h k).1 ∧ (LEm (h k).1 m → k0 ≤ k))
theorem Best.uniq {h : Nat → M4 × Bool} {A : Nat → Prop} {i i' : Int} {m m' : M4} (h1 : Best h A i m) (h2 : Best h A i' m') : i = i' ∧ m = m' := by
  rcases h1 with ⟨a1, a2, a3⟩ | ⟨k, a1, a2, a3, a4, a5⟩ <;> rcases h2 with ⟨b1, b2, b3⟩ | ⟨k', b1, b2, b3, b4, b5⟩
  · exact ⟨a1.trans b1.symm, a2.trans b2.symm⟩
  · rw [a3 _ b2] at b3; cases b3
  · rw [b3 _ a2] at a3; cases a3
  · obtain ⟨c1, c2⟩ := a5 k' b2 b3
    obtain ⟨d1, d2⟩ := b5 k a2 a3
    rw [← b4] at c1 c2
    rw [← a4] at d1 d2
    have e1 := c2 d1
    have e2 := d2 c1
    obtain rfl : k = k' := by omega
    exact ⟨a1.trans b1.symm, a4.trans b4.symm⟩
theorem Best.congr {h : Nat → M4 × Bool} {A B : Nat → Prop} {i : Int} {m : M4} (hAB : ∀ k, A k ↔ B k) (h1 : Best h A i m) : Best h B i m := by
  have : A = B := funext fun k => propext (hAB k)
  rwa [← this]
theorem Best.none {h : Nat → M4 × Bool} {A : Nat → Prop} (hA : ∀ k, A k → (h k).2 = false) : Best h A (-1) zM := .inl ⟨rfl, rfl, hA⟩
/-- One more triangle is looked at. -/
theorem best_step {h : Nat → M4 × Bool} {A : Nat → Prop} {i : Int} {m : M4} (hpos : ∀ k, (h k).2 = true → 0 < (h k).1.det) (hB : Best h A i m) (k : Nat) {i' : Int} {m' : M4}
    (hs : (i', m') = if ((h k).2 && (decide (i < 0) || (lessM (h k).1 m || (decide ((k : Int) < i) && !lessM m (h k).1)))) = true then ((k : Int), (h k).1) else (i, m)) : Best h (fun x => A x ∨ x = k) i' m' := by
  cases hk : (h k).2 with
  | false =>
    rw [hk, Bool.false_and, if_neg (by decide)] at hs
    injection hs with e1 e2
    subst e1 e2
    rcases hB with ⟨a1, a2, a3⟩ | ⟨k0, a1, a2, a3, a4, a5⟩
    · refine .inl ⟨a1, a2, fun x hx => ?_⟩
      rcases hx with hx | rfl
      · exact a3 x hx
      · exact hk
    · refine .inr ⟨k0, a1, .inl a2, a3, a4, fun x hx hh => ?_⟩
      rcases hx with hx | rfl
      · exact a5 x hx hh
      · rw [hk] at hh; cases hh
  | true =>
    have pk := hpos k hk
    rw [hk, Bool.true_and] at hs
    rcases hB with ⟨a1, a2, a3⟩ | ⟨k0, a1, a2, a3, a4, a5⟩
    · rw [decide_eq_true (by omega), Bool.true_or, if_pos rfl] at hs
      injection hs with e1 e2
      subst e1 e2
      refine .inr ⟨k, rfl, .inr rfl, hk, rfl, fun x hx hh => ?_⟩
      rcases hx with hx | rfl
      · rw [a3 x hx] at hh; cases hh
      · exact ⟨Int.le_refl _, fun _ => Nat.le_refl _⟩
    · have pm : 0 < m.det := by rw [a4]; exact hpos k0 a3
      rw [decide_eq_false (by omega), Bool.false_or] at hs
      cases hl : lessM (h k).1 m with
      | true =>
        rw [hl, Bool.true_or, if_pos rfl] at hs
        injection hs with e1 e2
        subst e1 e2
        have hlt := (less_iff pk pm).1 hl
        refine .inr ⟨k, rfl, .inr rfl, hk, rfl, fun x hx hh => ?_⟩
        rcases hx with hx | rfl
        · have px := hpos x hh
          obtain ⟨b1, b2⟩ := a5 x hx hh
          have hkx : ¬ LEm (h x).1 (h k).1 := fun hc => hlt (LEm.tr pm px pk b1 hc)
          refine ⟨?_, fun hc => absurd hc hkx⟩
          rcases LEm.tot (h k).1 (h x).1 with hc | hc
          · exact hc
          · exact absurd hc hkx
        · exact ⟨Int.le_refl _, fun _ => Nat.le_refl _⟩
      | false =>
        have hle := (lef_iff pk pm).1 hl
        rw [hl, Bool.false_or] at hs
        by_cases hc : (k : Int) < i ∧ lessM m (h k).1 = false
        · rw [decide_eq_true hc.1, hc.2, Bool.true_and, Bool.not_false, if_pos rfl] at hs
          injection hs with e1 e2
          subst e1 e2
          have hge := (lef_iff pm pk).1 hc.2
          refine .inr ⟨k, rfl, .inr rfl, hk, rfl, fun x hx hh => ?_⟩
          rcases hx with hx | rfl
          · have px := hpos x hh
            obtain ⟨b1, b2⟩ := a5 x hx hh
            refine ⟨LEm.tr pk pm px hge b1, fun hc2 => ?_⟩
            have := b2 (LEm.tr px pk pm hc2 hge)
            have := hc.1
            omega
          · exact ⟨Int.le_refl _, fun _ => Nat.le_refl _⟩
        · rw [if_neg (by
            intro hh
            rw [Bool.and_eq_true, decide_eq_true_eq, Bool.not_eq_true'] at hh
            exact hc hh)] at hs
          injection hs with e1 e2
          subst e1 e2
          refine .inr ⟨k0, a1, .inl a2, a3, a4, fun x hx hh => ?_⟩
          rcases hx with hx | rfl
          · exact a5 x hx hh
          · refine ⟨hle, fun hc2 => ?_⟩
            have hf := (lef_iff pm pk).2 hc2
            have : ¬ (x : Int) < i' := fun hlt => hc ⟨hlt, hf⟩
            omega
theorem mtW_pos {l : List TriS} {o d : P3} {mask : BitVec 8} {skip : Int} : ∀ k, (mtW l o d mask skip k).2 = true → 0 < (mtW l o d mask skip k).1.det := fun k h => by
  obtain ⟨t, _, hf⟩ := mtW_hit h
  exact hf.det.1
theorem look_best {l : List TriS} {o d : P3} {mask : BitVec 8} {skip : Int} {A : Nat → Prop} {s : WSt} (k : Nat) (hB : Best (mtW l o d mask skip) A s.i s.m) : Best (mtW l o d mask skip) (fun x => A x ∨ x = k) (lookW l o d mask skip s k).i (lookW l o d mask skip s k).m := by
  refine best_step mtW_pos hB k ?_
  unfold lookW mtW
  cases ht : l[k]? with
  | none =>
    dsimp only
    rw [Bool.false_and, if_neg (by decide)]
  | some t =>
    dsimp only
    split <;> rfl
theorem looks_best {l : List TriS} {o d : P3} {mask : BitVec 8} {skip : Int} : ∀ (ks : List Nat) (A : Nat → Prop) (s : WSt), Best (mtW l o d mask skip) A s.i s.m → Best (mtW l o d mask skip) (fun x => A x ∨ x ∈ ks) (ks.foldl (lookW l o d mask skip) s).i (ks.foldl (lookW l o d mask skip) s).m
  | [], A, s, h => h.congr fun k => by simp
  | k :: ks, A, s, h => by
    rw [List.foldl_cons]
    exact (looks_best ks _ _ (look_best k h)).congr fun x => by simp [or_assoc]
theorem out_best {l : List TriS} {o d : P3} {mask : BitVec 8} {skip : Int} {A : Nat → Prop} {s : WSt} {M : List Nat} {lo hi : P3} (hB : Best (mtW l o d mask skip) A s.i s.m) (hb : BBx l M (lo, hi)) (ho : outW o d lo hi s = true) : Best (mtW l o d mask skip) (fun x => A x ∨ x ∈ M) s.i s.m := by
  have hin : ∀ k ∈ M, ∀ t, l[k]? = some t → inBx lo hi t := fun k hk t ht a => by
    have := hb.1 k hk a
    rw [List.getD_eq_getElem?_getD, ht] at this
    exact this
  have hsp : ∀ k ∈ M, (mtW l o d mask skip k).2 = true → (spanP lo hi o d).2 = true ∧ ¬ rlt ((mtW l o d mask skip k).1.num, (mtW l o d mask skip k).1.det) (spanP lo hi o d).1 ∧ 0 < (spanP lo hi o d).1.2 := fun k hk hh => by
    obtain ⟨t, ht, hf⟩ := mtW_hit hh
    exact span_hit hf (hin k hk t ht)
  unfold outW at ho
  generalize spanP lo hi o d = SP at *
  rcases hB with ⟨a1, a2, a3⟩ | ⟨k0, a1, a2, a3, a4, a5⟩
  · refine .inl ⟨a1, a2, fun x hx => ?_⟩
    rcases hx with hx | hx
    · exact a3 x hx
    · cases hh : (mtW l o d mask skip x).2 with
      | false => rfl
      | true =>
        obtain ⟨e1, _⟩ := hsp x hx hh
        rw [e1, Bool.not_true, Bool.false_or, decide_eq_false (by omega), Bool.false_and] at ho
        cases ho
  · refine .inr ⟨k0, a1, .inl a2, a3, a4, fun x hx hh => ?_⟩
    rcases hx with hx | hx
    · exact a5 x hx hh
    · obtain ⟨e1, e2, e3⟩ := hsp x hx hh
      rw [e1, Bool.not_true, Bool.false_or, Bool.and_eq_true, decide_eq_true_eq, decide_eq_true_eq] at ho
      have px := mtW_pos (l := l) (o := o) (d := d) (mask := mask) (skip := skip) x hh
      have pm : 0 < s.m.det := by rw [a4]; exact mtW_pos k0 a3
      have hlt := ho.2
      unfold rlt at hlt e2
      dsimp only at hlt e2
      have hnot : ¬ LEm (mtW l o d mask skip x).1 s.m := fun hc => by
        have := rat_tr (a := SP.1) (b := ((mtW l o d mask skip x).1.num, (mtW l o d mask skip x).1.det)) (c := (s.m.num, s.m.det)) px (by omega) (by dsimp only; omega) (by dsimp only; omega) hc
        dsimp only at this
        omega
      refine ⟨?_, fun hc => absurd hc hnot⟩
      rcases LEm.tot s.m (mtW l o d mask skip x).1 with hc | hc
      · exact hc
      · exact absurd hc hnot
theorem vis_best {l : List TriS} {o d : P3} {mask : BitVec 8} {skip : Int} : ∀ (T : Tr) (P M Q : List Nat) (A : Nat → Prop) (s : WSt), T.Good l P.length M → Best (mtW l o d mask skip) A s.i s.m → Best (mtW l o d mask skip) (fun x => A x ∨ x ∈ M) (T.vis l (P ++ (M ++ Q)) o d mask skip s).i (T.vis l (P ++ (M ++ Q)) o d mask skip s).m
  | .leaf i f c lo hi, P, M, Q, A, s, hG, hB => by
    obtain ⟨rfl, rfl, _, hb⟩ := hG
    rw [Tr.vis]
    split
    · rename_i ho
      exact out_best hB hb ho
    · rw [List.drop_left, List.take_left]
      exact looks_best M A s.up hB
  | .node i lo hi L R, P, M, Q, A, s, hG, hB => by
    obtain ⟨X, Y, rfl, hL, hR, hb⟩ := hG
    rw [Tr.vis]
    split
    · rename_i ho
      exact out_best hB hb ho
    · have h1 := vis_best L P X (Y ++ Q) A s.up hL hB
      rw [← List.append_assoc X Y Q] at h1
      have h2 := vis_best R (P ++ X) Y Q _ (L.vis l (P ++ ((X ++ Y) ++ Q)) o d mask skip s.up) (by rw [List.length_append]; exact hR) h1
      have e : (P ++ X) ++ (Y ++ Q) = P ++ ((X ++ Y) ++ Q) := by simp
      rw [e] at h2
      exact h2.congr fun x => by simp [or_assoc]
end Go.Proofs.Ytcookaiakfbdiaa
namespace Go.Proofs.Ytcookaiakfbdiaa
open Go.RowKit
set_option maxRecDepth 100000
set_option maxHeartbeats 1000000
def stkC (S : List Tr) : List Value := S.map fun t => .int .i64 ((t.ix : Nat) : Int)
theorem cutZ_one (v : Value) (lo len : Nat) : cutZ 1 v lo len = cutV v lo len := by
  unfold cutZ cutV
  split <;> simp
attribute [local irreducible] Calls Walk1 WalkTo Tri EndA
theorem wkNear_any (v1 v2 v3 : Value) (n : Nat) (l : List TriS) (hok : ∀ t ∈ l, t.ok) (N : List NodeS) (K : List Nat) (T : Tr) (hT : T.In N K) (hT0 : T.ix = 0) (hN : ∀ x ∈ N, smP x.lo ∧ smP x.hi) (hNl : N.length ≤ 1000000) (hKl : K.length ≤ 1000000) (hK : ∀ k ∈ K, k < l.length) (hc : n + T.cost ≤ 100000000) (o d : P3) (mask : BitVec 8) (skip : Int) (hm : mayP o d = true)
    (w : World) (b : Nat) (hB : Blk w b (wkC v1 v2 v3 n) 59) (hv1 : RdX w [b] 10 v1 N.length (nodesC N)) (hv2 : FSX w [b] 1 v2 K.length (ordC K)) (hv3 : RdX w [b] 19 v3 l.length (trisC l)) :
    Calls Try.prog 15 #[.pointer (some ⟨b, 0, none⟩), .agg o.c, .agg d.c, .int .u8 (bvi mask), .int .i64 skip] w (RetP w b 59 (wkC v1 v2 v3 (T.vis l K o d mask skip ⟨n, -1, zM⟩).n) (.tuple #[.int .i64 (T.vis l K o d mask skip ⟨n, -1, zM⟩).i, .agg (T.vis l K o d mask skip ⟨n, -1, zM⟩).m.c])) := by
  have cn := fun w b hB => wkNone_any v1 v2 v3 n w b hB
  have cM := fun w => mayT_any o d w
  rw [hm] at cM
  have hsz := mayP_sm hm
  have cS := fun lo hi h1 h2 w => span22_any lo hi o d h1 h2 hsz.1 hsz.2 w
  have hos : o.c.size = 3 := rfl
  have hds : d.c.size = 3 := rfl
  have hms : ∀ m : M4, m.c.size = 4 := fun _ => rfl
  have hmo : ∀ m : M4, m.c.all (·.oneCell') = true := fun m => by simp [M4.c]; exact ⟨rfl, rfl, rfl, rfl⟩
  have cm0 := fun n' k tk htk w' b' hB' hv3' => wkMeets_any v1 v2 v3 n' l hok o d mask skip k tk htk w' b' hB' hv3'
  generalize o.c = OC at *
  generalize d.c = DC at *
  have hNn : 0 < N.length := by
    cases T <;> simp only [Tr.In, Tr.ix] at hT hT0 <;> exact Nat.lt_of_le_of_lt (Nat.zero_le _) (List.getElem?_eq_some_iff.1 hT.1).1
  obtain ⟨hv1l, a1, c1, rfl, hv1c⟩ := hv1.rd
  have hv10 := hv1.rd
  clear hv1c
  refine calls_triP (b := b) (59) (SA.l [SV.c (.slice a1 N.length c1), SV.c v2, SV.c (.bool true), SV.c v3, SV.c (.int .i64 (n : Int))]) Try.func15 rfl Try.ntmps15 rfl rfl (hB) (fun _ => rfl) ?_
  repeat (first | (show Walk1 _ _ _ (_ :: _) _ _; first | (show Walk1 _ _ _ (⟨_, _, _, _, _, some _⟩ :: _) _ _; refine zy1 ?_) | (show HW1 (.move _); refine wz1 ?_) | (show HW1 (.assign _); first | refine wz13 ?_ | refine wz2 ?_) | (show HW1 (.binOp .eql _ _ _ _); refine wz30 ?_) | (show HW1 (.pick _ _ _); refine wz7 ?_) | (show HW1 (.unOp _ _ _); refine wz19 ?_) | (show HW1 (.load _ _); first | refine wz3 ?_ | refine wz9 ?_) | (show HW1 (.alloc _); refine wz6 ?_) | (show HW1 (.nilCheck _); refine wz29 ?_) | (show HW1 (.box _ _); refine wz11 ?_) | (show HW1 (.fieldAddr _ _ _); refine wz4 ?_) | (show HW1 (.call ⟨.builtin .len, _, _⟩); refine wz39 ?_) | (show HW1 (.buildSlice _ _ _); refine wz85 ?_) | (show HW1 (.call ⟨.value (.func 36), _, _⟩); ((first | refine walk1_callPE (SA.l [SV.c (.slice a1 N.length c1), SV.c v2, SV.c (.bool true), SV.c v3, SV.c (.int .i64 (n : Int))]) rfl rfl rfl rfl evq rfl rfl rfl ?_ | refine walk1_callPE0 (SA.l [SV.c (.slice a1 N.length c1), SV.c v2, SV.c (.bool true), SV.c v3, SV.c (.int .i64 (n : Int))]) rfl rfl rfl evq rfl rfl rfl ?_); refine ⟨_, _, callPE_0 rfl (fun e w h => cn w _ h), ?_⟩)) | (show HW1 (.call ⟨.value (.func 12), _, _⟩); ((first | refine cwalk11 12 ?_ | refine cwalk10 12 ?_); refine ⟨_, fun e w => cM w, ?_⟩))) | refine go1 ?_ | refine end_block_other rfl ?_ | refine end_scope (fun _ h => by cases h) ?_ | (refine walk_endD ?_ ?_; (· kernel_rfl)) | refine tri_yesA rfl ?_ | refine tri_noA rfl ?_ | refine tri_trueA rfl ?_ | refine tri_falseA rfl ?_)
  refine tri_ent (ent_blkA 39 (.c #[.int .i64 0]) rfl (fun _ => rfl)) ?_
  refine tri_ent (ent_ownR (i := 12) (n := 39) (q := 910) (len := 1) (sz := 1) rfl rfl rfl (by kernel_rfl) (by omega)) ?_
  obtain ⟨FIN, hFIN⟩ : ∃ s, s = T.vis l K o d mask skip ⟨n, -1, zM⟩ := ⟨_, rfl⟩
  rw [← hFIN]
  refine tri_loop (X := List Tr × WSt) (fun x => ⟨[(12, .v 910), (0, .p 1000 0), (6, .p 6 0), (7, .p 7 0), (3, .c (.int .u8 (bvi mask))), (4, .c (.int .i64 skip)), (10, .c (.int .i64 x.2.i)), (11, .p 11 0)], [(1000, some (.blk 1000 59 (SA.l [SV.c (.slice a1 N.length c1), SV.c v2, SV.c (.bool true), SV.c v3, SV.c (.int .i64 ((x.2.n : Nat) : Int))]))), (1001, some (.is 1000 b)), (6, some (.blk 6 24 (.c OC))), (7, some (.blk 7 24 (.c DC))), (11, some (.blk 11 41 (.c x.2.m.c))), (910, some (.own 910 3 1 x.1.length (stkC x.1)))]⟩)
    (fun x => (∀ t ∈ x.1, t.In N K) ∧ okW x.2 ∧ x.1.foldr (Tr.vis l K o d mask skip) x.2 = FIN ∧ x.2.n + costs x.1 ≤ 100000000) (fun x => costs x.1) ([T], ⟨n, -1, zM⟩) ⟨fun t ht => by rw [List.mem_singleton.1 ht]; exact hT, ⟨okM_zero, Int.le_refl 0⟩, hFIN.symm, by simp [costs]; exact hc⟩ (by rw [show stkC [T] = [.int .i64 0] by rw [stkC, List.map_cons, List.map_nil, hT0]; rfl]; exact ent_keep (by repeat (first | exact hasT_nil | refine hasT_cons rfl ?_ | refine hasT_eq rfl (svi (by omega)) ?_)) (by repeat (first | exact hasR_nil | refine hasR_cons rfl ?_))) ?_
  clear hFIN hc
  rintro ⟨S, s⟩ ⟨hS, hgd, hrun, hcs⟩ KK next
  dsimp only at hS hgd hrun hcs next ⊢
  rcases List.eq_nil_or_concat S with rfl | ⟨S0, t, rfl⟩
  · rw [List.foldr_nil] at hrun
    subst hrun
    obtain ⟨sn, i, mn, md, mu, mv⟩ := s
    simp only [M4.c]
    repeat (first | (show Walk1 _ _ _ (_ :: _) _ _; first | (show HW1 (.move _); refine wz1 ?_) | (show HW1 (.binOp .gtr _ _ _ _); refine wz33 ?_) | (show HW1 (.call ⟨.builtin .len, _, _⟩); refine wz57 ?_)) | (show WalkTo _ _ _ _ (_ :: _) _ _ _; first | (show HW2 (.move _); refine wz20 ?_) | (show HW2 (.assign _); refine wz17 ?_) | (show HW2 (.load _ _); refine wz22 ?_) | (show HW2 (.store _ _ _); refine wz48 ?_)) | refine go1 ?_ | refine end_block_other rfl ?_ | refine end_scope (fun _ h => by cases h) ?_ | (refine walk_endD ?_ ?_; (· kernel_rfl)) | refine tri_yesA rfl ?_ | refine tri_noA rfl ?_ | refine tri_trueA rfl ?_ | refine tri_falseA rfl ?_)
    refine end_ret (.c (.tuple #[.int .i64 i, .agg #[.int .i64 mn, .int .i64 md, .int .i64 mu, .int .i64 mv]])) (res_tmpC rfl rfl rfl rfl rfl rfl rfl rfl) ?_
    exact fin_obj rfl rfl (fun _ => rfl) (fun _ => rfl)
  · rw [List.concat_eq_append] at *
    rw [vis_step] at hrun
    rw [costs_app] at hcs
    have htI := hS t (by simp)
    have hS0 : ∀ x ∈ S0, x.In N K := fun x hx => hS x (by simp [hx])
    have htc : costs [t] = t.cost := by simp [costs]
    rw [htc] at hcs
    have hlS := costs_len S0
    have hpos := t.cost_pos
    have hsl : (S0 ++ [t]).length = S0.length + 1 := by simp
    rw [hsl]
    have hstk : (stkC (S0 ++ [t]))[S0.length + 1 - 1]? = some (.int .i64 ((t.ix : Nat) : Int)) := by
      simp [stkC]
    have hstl : (stkC (S0 ++ [t])).length = S0.length + 1 := by simp [stkC]
    have hstk2 : (stkC (S0 ++ [t])).take (S0.length * 1) = stkC S0 := by simp [stkC]
    obtain ⟨nd, hnd⟩ : ∃ nd, N[t.ix]? = some nd := by
      cases t <;> exact ⟨_, htI.1⟩
    have hlt : t.ix < N.length := (List.getElem?_eq_some_iff.1 hnd).1
    have hrow : ((nodesC N).drop (0 + t.ix * 10)).take 10 = nodeC nd := by
      rw [Nat.zero_add]
      exact flat_row (sz := 10) (f := nodeC) N (fun _ _ => nodeC_length _) t.ix nd hnd
    have hrl : 0 + t.ix * 10 + 10 ≤ (nodesC N).length := by rw [hv1l]; omega
    obtain ⟨hsm1, hsm2⟩ := hN nd (List.mem_of_getElem? hnd)
    have hrat := spanP_rat hsm1 hsm2 hsz.1 hsz.2
    have cS1 := fun w => cS nd.lo nd.hi hsm1 hsm2 w
    clear cS
    obtain ⟨⟨lx, ly, lz⟩, ⟨hx, hy, hz⟩, le, ri, fi, co⟩ := nd
    obtain ⟨sn, i, m⟩ := s
    have cL := fun w => less22P_any (m.num, m.det) (spanP ⟨lx, ly, lz⟩ ⟨hx, hy, hz⟩ o d).1 ⟨hgd.1.1, hgd.1.2.1⟩ ⟨hgd.2, hgd.1.2.2⟩ ⟨hrat.1.1, by have := hrat.1.2; dsimp only at this ⊢; omega⟩ ⟨by have := hrat.2.1; dsimp only at this ⊢; omega, by have := hrat.2.2; dsimp only at this ⊢; omega⟩ w
    have hout : outW o d ⟨lx, ly, lz⟩ ⟨hx, hy, hz⟩ ⟨sn, i, m⟩ = (!(spanP ⟨lx, ly, lz⟩ ⟨hx, hy, hz⟩ o d).2 || (decide (0 ≤ i) && decide (rlt (m.num, m.det) (spanP ⟨lx, ly, lz⟩ ⟨hx, hy, hz⟩ o d).1))) := rfl
    rw [show nodeC ⟨⟨lx, ly, lz⟩, ⟨hx, hy, hz⟩, le, ri, fi, co⟩ = [.int .i64 lx, .int .i64 ly, .int .i64 lz, .int .i64 hx, .int .i64 hy, .int .i64 hz, .int .i64 le, .int .i64 ri, .int .i64 fi, .int .i64 co] from rfl] at hrow
    dsimp only [P3.c] at hrow cS1 cL hnd
    generalize spanP ⟨lx, ly, lz⟩ ⟨hx, hy, hz⟩ o d = SP at *
    obtain ⟨⟨fn, fd⟩, is⟩ := SP
    dsimp only at *
    unfold ratC at cS1 cL
    dsimp only at cS1 cL
    iterate 41 (try (first | (show Walk1 _ _ _ (_ :: _) _ _; first | (show HW1 (.move _); refine wz1 ?_) | (show HW1 (.assign _); refine wz2 ?_) | (show HW1 (.binOp .sub _ _ _ _); refine wz35 ?_) | (show HW1 (.binOp .gtr _ _ _ _); refine wz33 ?_) | (show HW1 (.call ⟨.builtin .len, _, _⟩); refine wz57 ?_) | (show HW1 (.slice _ _ _ _ _); refine wz98 ?_)) | (show WalkTo _ _ _ _ (_ :: _) _ _ _; first | (show HW2 (.move _); refine wz20 ?_) | (show HW2 (.binOp .sub _ _ _ _); refine wz72 ?_) | (show HW2 (.indexAddr _ _ _); first | refine wz132 ?_ | refine wz45 ?_) | (show HW2 (.load _ _); first | refine wz24 ?_ | refine wz110 ?_ | refine wz109 ?_) | (show HW2 (.store _ _ _); refine wz48 ?_) | (show HW2 (.alloc _); refine wz43 ?_) | (show HW2 (.nilCheck _); refine wz78 ?_) | (show HW2 (.fieldAddr _ _ _); refine wz49 ?_) | (show HW2 (.call ⟨.builtin .len, _, _⟩); refine wz133 ?_)) | refine go1 ?_ | refine end_block_other rfl ?_ | refine end_scope (fun _ h => by cases h) ?_ | (refine walk_endD ?_ ?_; (· kernel_rfl)) | refine tri_yesA rfl ?_ | refine tri_noA rfl ?_ | refine tri_trueA rfl ?_ | refine tri_falseA rfl ?_))
    refine tri_ent (ent_cutR (i := 12) (n := 910) 911 rfl rfl (by omega) rfl (by kernel_rfl)) ?_
    rw [show (S0.length + 1 - 1 - 0) = S0.length by omega, hstk2]
    iterate 12 (try (first | (show Walk1 _ _ _ (_ :: _) _ _; first | (show HW1 (.move _); refine wz1 ?_) | (show HW1 (.binOp .add _ _ _ _); refine wz10 ?_) | (show HW1 (.load _ _); refine wz3 ?_) | (show HW1 (.store _ _ _); refine wz50 ?_) | (show HW1 (.nilCheck _); refine wz29 ?_) | (show HW1 (.fieldAddr _ _ _); refine wz4 ?_)) | refine go1 ?_ | refine end_block_other rfl ?_ | refine end_scope (fun _ h => by cases h) ?_ | (refine walk_endD ?_ ?_; (· kernel_rfl)) | refine tri_yesA rfl ?_ | refine tri_noA rfl ?_ | refine tri_trueA rfl ?_ | refine tri_falseA rfl ?_))
    have hmsm := hms m
    have hmom := hmo m
    have tac : (decide (0 ≤ i) && decide (rlt (m.num, m.det) (fn, fd))) = true ∨ is = false ∨ (decide (0 ≤ i) && decide (rlt (m.num, m.det) (fn, fd))) = false := by
      cases (decide (0 ≤ i) && decide (rlt (m.num, m.det) (fn, fd))) <;> simp
    have nO := fun S' h1 h2 => next S' (S0, ⟨sn + 1, i, m⟩) ⟨hS0, hgd, h1, h2⟩ (by dsimp only; rw [costs_app, htc]; omega)
    dsimp only at nO
    have hvo : outW o d ⟨lx, ly, lz⟩ ⟨hx, hy, hz⟩ ⟨sn, i, m⟩ = true → t.vis l K o d mask skip ⟨sn, i, m⟩ = ⟨sn + 1, i, m⟩ := fun h => vis_out htI hnd h
    generalize hLS : decide (rlt (m.num, m.det) (fn, fd)) = LS at *
    cases is
    · rw [Bool.not_false, Bool.true_or] at hout
      rw [hvo hout] at hrun
      have nx := fun S' => nO S' hrun (by omega)
      clear next cn cM nO
      repeat (first | (show Walk1 _ _ _ (_ :: _) _ _; first | (show Walk1 _ _ _ (⟨_, _, _, _, _, some _⟩ :: _) _ _; first | refine zn1 ?_ | refine zu1 ?_) | (show HW1 (.move _); refine wz1 ?_) | (show HW1 (.assign _); refine wz2 ?_) | (show HW1 (.pick _ _ _); refine wz8 ?_) | (show HW1 (.unOp _ _ _); refine wz19 ?_) | (show HW1 (.load _ _); first | refine wz9 ?_ | refine wz31 ?_) | (show HW1 (.store _ _ _); refine wz14 ?_) | (show HW1 (.alloc _); refine wz6 ?_) | (show HW1 (.fieldAddr _ _ _); refine wz4 ?_) | (show HW1 (.extract _ _); first | refine wz16 ?_ | refine wz15 ?_) | (show HW1 (.call ⟨.value (.func 28), _, _⟩); ((first | refine cwalk11 28 ?_ | refine cwalk10 28 ?_); refine ⟨_, fun e w => cS1 w, ?_⟩))) | refine go1 ?_ | refine end_block_other rfl ?_ | refine end_scope (fun _ h => by cases h) ?_ | (refine walk_endD ?_ ?_; (· kernel_rfl)) | refine tri_yesA rfl ?_ | refine tri_noA rfl ?_ | refine tri_trueA rfl ?_ | refine tri_falseA rfl ?_)
      exact nx _ (ent_ren (fun n => cond (Nat.beq n 910) 911 n) (by repeat (first | exact hasTm_nil | refine hasTm_cons rfl (fun _ => rfl) ?_)) (by repeat (first | exact hasRm_nil | refine hasRm_cons rfl (fun _ => rfl) (fun _ _ h => h) rfl ?_)) (by kernel_rfl))
    · rw [Bool.not_true, Bool.false_or] at hout
      cases hc : (decide (0 ≤ i) && LS)
      · rw [hc] at hout
        refine tri_cut3 ⟨[(12, .v 911), (13, .p 13 0), (0, .p 1000 0), (6, .p 6 0), (7, .p 7 0), (3, .c (.int .u8 (bvi mask))), (4, .c (.int .i64 skip)), (10, .c (.int .i64 i)), (11, .p 11 0)], [(1000, some (.blk 1000 59 (SA.l [SV.c (.slice a1 N.length c1), SV.c v2, SV.c (.bool true), SV.c v3, SV.c (.int .i64 ((sn + 1 : Nat) : Int))]))), (1001, some (.is 1000 b)), (6, some (.blk 6 24 (.c OC))), (7, some (.blk 7 24 (.c DC))), (11, some (.blk 11 41 (.c m.c))), (911, some (.own 911 3 1 S0.length (stkC S0))), (13, some (.blk 13 37 (.c #[.int .i64 lx, .int .i64 ly, .int .i64 lz, .int .i64 hx, .int .i64 hy, .int .i64 hz, .int .i64 le, .int .i64 ri, .int .i64 fi, .int .i64 co])))]⟩ (fun K2 hK2 => ?_) ?_
        · by_cases hi : 0 ≤ i
          · rw [decide_eq_true hi, Bool.true_and] at hc
            subst hc
            have hK3 := fun S' h => hK2 S' h
            clear next cn cM nO hK2
            obtain ⟨mn, md, mu, mv⟩ := m
            simp only [M4.c] at *
            repeat (first | (show Walk1 _ _ _ (_ :: _) _ _; first | (show Walk1 _ _ _ (⟨_, _, _, _, _, some _⟩ :: _) _ _; refine zy1 ?_) | (show HW1 (.move _); refine wz1 ?_) | (show HW1 (.assign _); refine wz2 ?_) | (show HW1 (.binOp .geq _ _ _ _); refine wz71 ?_) | (show HW1 (.pick _ _ _); first | refine wz8 ?_ | refine wz7 ?_) | (show HW1 (.unOp _ _ _); refine wz19 ?_) | (show HW1 (.load _ _); first | refine wz3 ?_ | refine wz9 ?_ | refine wz31 ?_) | (show HW1 (.store _ _ _); refine wz14 ?_) | (show HW1 (.alloc _); refine wz6 ?_) | (show HW1 (.fieldAddr _ _ _); refine wz4 ?_) | (show HW1 (.extract _ _); first | refine wz16 ?_ | refine wz15 ?_) | (show HW1 (.build _ _); refine wz25 ?_) | (show HW1 (.call ⟨.value (.func 28), _, _⟩); ((first | refine cwalk11 28 ?_ | refine cwalk10 28 ?_); refine ⟨_, fun e w => cS1 w, ?_⟩)) | (show HW1 (.call ⟨.value (.func 37), _, _⟩); ((first | refine cwalk11 37 ?_ | refine cwalk10 37 ?_); refine ⟨_, fun e w => cL w, ?_⟩))) | refine go1 ?_ | refine end_block_other rfl ?_ | refine end_scope (fun _ h => by cases h) ?_ | (refine walk_endD ?_ ?_; (· kernel_rfl)) | refine tri_yesA rfl ?_ | refine tri_noA rfl ?_ | refine tri_trueA rfl ?_ | refine tri_falseA rfl ?_)
            exact hK3 _ (by exact ent_kp)
          · have hK3 := fun S' h => hK2 S' h
            clear next cn cM nO hK2
            repeat (first | (show Walk1 _ _ _ (_ :: _) _ _; first | (show Walk1 _ _ _ (⟨_, _, _, _, _, some _⟩ :: _) _ _; first | refine zy1 ?_ | refine zn1 ?_) | (show HW1 (.move _); refine wz1 ?_) | (show HW1 (.assign _); refine wz2 ?_) | (show HW1 (.binOp .geq _ _ _ _); refine wz71 ?_) | (show HW1 (.pick _ _ _); refine wz7 ?_) | (show HW1 (.unOp _ _ _); refine wz19 ?_) | (show HW1 (.load _ _); first | refine wz9 ?_ | refine wz31 ?_) | (show HW1 (.store _ _ _); refine wz14 ?_) | (show HW1 (.alloc _); refine wz6 ?_) | (show HW1 (.fieldAddr _ _ _); refine wz4 ?_) | (show HW1 (.extract _ _); first | refine wz16 ?_ | refine wz15 ?_) | (show HW1 (.call ⟨.value (.func 28), _, _⟩); ((first | refine cwalk11 28 ?_ | refine cwalk10 28 ?_); refine ⟨_, fun e w => cS1 w, ?_⟩))) | refine go1 ?_ | refine end_block_other rfl ?_ | refine end_scope (fun _ h => by cases h) ?_ | (refine walk_endD ?_ ?_; (· kernel_rfl)) | refine tri_yesA rfl ?_ | refine tri_noA rfl ?_ | refine tri_trueA rfl ?_ | refine tri_falseA rfl ?_)
            exact hK3 _ (by exact ent_kp)
        · clear cS1 cL hLS cM hc hrow hstk hstk2 hstl hvo
          cases t with
          | leaf i0 f c lo' hi' =>
            obtain ⟨g1, g2⟩ := htI
            have g3 := Option.some.inj (g1.symm.trans hnd)
            injection g3 with e1 e2 e3 e4 e5 e6
            subst e1 e2 e3 e4 e5 e6
            rw [Tr.vis, if_neg (by rw [hout]; decide)] at hrun
            obtain ⟨LK, hLK⟩ : ∃ LK, LK = (K.drop f).take c := ⟨_, rfl⟩
            rw [← hLK] at hrun
            have hLl : LK.length = c := by rw [hLK, List.length_take, List.length_drop]; omega
            have hLm : ∀ k ∈ LK, k < l.length := fun k hk => hK k (List.mem_of_mem_drop (List.mem_of_mem_take (hLK ▸ hk)))
            have hcut : FSX w [b] 1 (cutZ 1 v2 f c) c (ordC LK) := by
              have := hv2.cutZ (lo := f) (len := c) g2
              rw [Nat.mul_one, Nat.mul_one] at this
              rw [hLK]
              unfold ordC at this ⊢
              rw [List.map_take, List.map_drop]
              exact this
            have hcv : cutZ 1 v2 f c = cutV v2 f c := cutZ_one ..
            rw [hcv] at hcut
            have hfs := hv2.fs
            obtain ⟨_, a3, c3, hcz, _⟩ := hcut.fs
            rw [hcz] at hcut
            have hcr := hcut.rdx
            have hcr0 := hcr.rd
            repeat (first | (show Walk1 _ _ _ (_ :: _) _ _; first | (show HW1 (.binOp .geq _ _ _ _); refine wz71 ?_) | (show HW1 (.load _ _); refine wz3 ?_) | (show HW1 (.fieldAddr _ _ _); refine wz4 ?_)) | (show WalkTo _ _ _ _ (_ :: _) _ _ _; first | (show HW2 (.move _); first | refine wz129 ?_ | refine wz20 ?_) | (show HW2 (.binOp .add _ _ _ _); refine wz96 ?_) | (show HW2 (.load _ _); refine wz24 ?_) | (show HW2 (.nilCheck _); refine wz78 ?_) | (show HW2 (.fieldAddr _ _ _); refine wz49 ?_) | (show HW2 (.call ⟨.builtin .len, _, _⟩); refine wz134 ?_) | (show HW2 (.slice _ _ _ _ _); refine wz128 ?_)) | refine go1 ?_ | refine end_block_other rfl ?_ | refine end_scope (fun _ h => by cases h) ?_ | (refine walk_endD ?_ ?_; (· kernel_rfl)) | refine tri_yesA rfl ?_ | refine tri_noA rfl ?_ | refine tri_trueA rfl ?_ | refine tri_falseA rfl ?_)
            rw [Nat.add_sub_cancel_left, hcz]
            obtain ⟨F, hF⟩ : ∃ F : Nat → WSt, ∀ j, F j = (LK.take j).foldl (lookW l o d mask skip) (⟨sn, i, m⟩ : WSt).up := ⟨_, fun _ => rfl⟩
            have hF0 : F 0 = ⟨sn + 1, i, m⟩ := by rw [hF]; rfl
            have hFe : LK.foldl (lookW l o d mask skip) (⟨sn, i, m⟩ : WSt).up = F c := by rw [hF, List.take_of_length_le (by omega)]
            have hFn : ∀ j, j ≤ c → (F j).n = sn + 1 + j := fun j hj => by
              rw [hF]
              have := (looks_ok (l := l) (o := o) (d := d) (mask := mask) (skip := skip) (LK.take j) (⟨sn, i, m⟩ : WSt).up hgd).2
              rw [this, List.length_take, hLl, Nat.min_eq_left hj]
              rfl
            have hFo : ∀ j, okW (F j) := fun j => by
              rw [hF]
              exact (looks_ok (l := l) (o := o) (d := d) (mask := mask) (skip := skip) (LK.take j) (⟨sn, i, m⟩ : WSt).up hgd).1
            have hFs : ∀ j k, LK[j]? = some k → F (j + 1) = lookW l o d mask skip (F j) k := fun j k h => by
              rw [hF, hF, List.take_add_one, h, Option.toList_some, List.foldl_append]
              rfl
            rw [hFe] at hrun
            clear hF hFe
            refine tri_loop (X := Nat) (fun j => ⟨[(117, SV.c (.int .i64 ((j : Nat) : Int))), (116, SV.c (.int .i64 ((c : Nat) : Int))), (115, .c (.slice a3 c c3)), (12, .v 911), (0, .p 1000 0), (6, .p 6 0), (7, .p 7 0), (3, .c (.int .u8 (bvi mask))), (4, .c (.int .i64 skip)), (10, .c (.int .i64 (F j).i)), (11, .p 11 0)], [(1000, some (.blk 1000 59 (SA.l [SV.c (.slice a1 N.length c1), SV.c v2, SV.c (.bool true), SV.c v3, SV.c (.int .i64 (((F j).n : Nat) : Int))]))), (1001, some (.is 1000 b)), (6, some (.blk 6 24 (.c OC))), (7, some (.blk 7 24 (.c DC))), (11, some (.blk 11 41 (.c (F j).m.c))), (911, some (.own 911 3 1 S0.length (stkC S0)))]⟩)
              (fun j => j ≤ c) (fun j => c - j) 0 (by omega) (by rw [hF0]; exact ent_keep (by repeat (first | exact hasT_nil | refine hasT_cons rfl ?_ | refine hasT_eq rfl (svi (by omega)) ?_)) (by repeat (first | exact hasR_nil | refine hasR_cons rfl ?_))) ?_
            intro j hj K3 next3
            by_cases h : j < c
            · obtain ⟨k, hk⟩ : ∃ k, LK[j]? = some k := ⟨_, List.getElem?_eq_getElem (by omega)⟩
              have hkl := hLm k (List.mem_of_getElem? hk)
              have hko : (ordC LK)[j]? = some (.int .i64 ((k : Nat) : Int)) := by
                unfold ordC
                rw [List.getElem?_map, hk]
                rfl
              obtain ⟨tk, htk⟩ : ∃ tk, l[k]? = some tk := ⟨_, List.getElem?_eq_getElem hkl⟩
              have nx := fun S' => next3 S' (j + 1) (by omega) (by omega)
              rw [hFs j k hk] at nx
              have hFj := hFo j
              have hFn1 := hFn j hj
              have hMo := meetW_okM o d mask skip k tk
              have cm := fun n' w' b' hB' hv3' => cm0 n' k tk htk w' b' hB' hv3'
              have hlk : lookW l o d mask skip (F j) k = if ((meetW o d mask skip k tk).2 && (decide ((F j).i < 0) || (lessM (meetW o d mask skip k tk).1 (F j).m || (decide ((k : Int) < (F j).i) && !lessM (F j).m (meetW o d mask skip k tk).1)))) = true then ⟨(F j).n + 1, (k : Int), (meetW o d mask skip k tk).1⟩ else ⟨(F j).n + 1, (F j).i, (F j).m⟩ := by rw [lookW, htk]
              rw [hlk] at nx
              clear next next3 nO hFs hrun hlk hF0
              have cl1 := fun w => less_any (meetW o d mask skip k tk).1 (F j).m hMo hFj.1 w
              have cl2 := fun w => less_any (F j).m (meetW o d mask skip k tk).1 hFj.1 hMo w
              have y1 := hms (meetW o d mask skip k tk).1
              have y2 := hmo (meetW o d mask skip k tk).1
              have y3 := hms (F j).m
              have y4 := hmo (F j).m
              clear hms hmo hmsm hmom
              generalize meetW o d mask skip k tk = X0 at *
              obtain ⟨x, is⟩ := X0
              generalize F j = FJ at *
              obtain ⟨jn, ji, jm⟩ := FJ
              dsimp only at *
              repeat (first | (show Walk1 _ _ _ (_ :: _) _ _; first | (show HW1 (.move _); refine wz1 ?_) | (show HW1 (.assign _); refine wz2 ?_) | (show HW1 (.binOp .add _ _ _ _); refine wz10 ?_) | (show HW1 (.binOp .lss _ _ _ _); refine wz5 ?_) | (show HW1 (.indexAddr _ _ _); refine wz80 ?_) | (show HW1 (.load _ _); first | refine wz3 ?_ | refine wz9 ?_ | refine wz79 ?_) | (show HW1 (.store _ _ _); refine wz50 ?_) | (show HW1 (.nilCheck _); refine wz29 ?_) | (show HW1 (.fieldAddr _ _ _); refine wz4 ?_)) | refine go1 ?_ | refine end_block_other rfl ?_ | refine end_scope (fun _ h => by cases h) ?_ | (refine walk_endD ?_ ?_; (· kernel_rfl)) | refine tri_yesA rfl ?_ | refine tri_noA rfl ?_ | refine tri_trueA rfl ?_ | refine tri_falseA rfl ?_)
              refine walk1_tb (op_callPX (b := b) (T := 59) (vs := [.p 1000 0, .c (.agg OC), .c (.agg DC), .c (.int .u8 (bvi mask)), .c (.int .i64 skip), .c (.int .i64 ((k : Nat) : Int))]) (A' := SA.l [SV.c (.slice a1 N.length c1), SV.c v2, SV.c (.bool true), SV.c v3, SV.c (.int .i64 ((jn + 1 : Nat) : Int))]) (cells0 := wkC (.slice a1 N.length c1) v2 v3 (jn + 1)) (cells := wkC (.slice a1 N.length c1) v2 v3 (jn + 1)) (args := #[.pointer (some ⟨b, 0, none⟩), .agg OC, .agg DC, .int .u8 (bvi mask), .int .i64 skip, .int .i64 ((k : Nat) : Int)]) rfl rfl rfl evq rfl rfl rfl (fun _ => rfl) (fun _ => rfl) (fun e h => by simp only [List.map_cons, List.map_nil, SV.p, SV.c, h]) (fun w' hw hb' => cm (jn + 1) w' b hb' (hv3.later hw))) ?_
              generalize lessM x jm = L1 at *
              generalize lessM jm x = L2 at *
              cases is
              · rw [if_neg (by simp)] at nx
                dsimp only at nx
                clear cm
                repeat (first | (show Walk1 _ _ _ (_ :: _) _ _; first | (show Walk1 _ _ _ (⟨_, _, _, _, _, some _⟩ :: _) _ _; first | refine zn1 ?_ | refine zu1 ?_) | (show HW1 (.move _); refine wz1 ?_) | (show HW1 (.assign _); refine wz2 ?_) | (show HW1 (.binOp .add _ _ _ _); refine wz10 ?_) | (show HW1 (.pick _ _ _); refine wz7 ?_) | (show HW1 (.store _ _ _); refine wz23 ?_) | (show HW1 (.alloc _); refine wz6 ?_) | (show HW1 (.extract _ _); first | refine wz16 ?_ | refine wz15 ?_)) | refine go1 ?_ | refine end_block_other rfl ?_ | refine end_scope (fun _ h => by cases h) ?_ | (refine walk_endD ?_ ?_; (· kernel_rfl)) | refine tri_yesA rfl ?_ | refine tri_noA rfl ?_ | refine tri_trueA rfl ?_ | refine tri_falseA rfl ?_)
                exact nx _ (by exact ent_kp)
              · by_cases hi : ji < 0
                · rw [if_pos (by simp [hi])] at nx
                  dsimp only at nx
                  clear cm
                  repeat (first | (show Walk1 _ _ _ (_ :: _) _ _; first | (show Walk1 _ _ _ (⟨_, _, _, _, _, some _⟩ :: _) _ _; first | refine zy1 ?_ | refine zn1 ?_ | refine zu1 ?_) | (show HW1 (.move _); refine wz1 ?_) | (show HW1 (.assign _); refine wz2 ?_) | (show HW1 (.binOp .add _ _ _ _); refine wz10 ?_) | (show HW1 (.binOp .lss _ _ _ _); refine wz12 ?_) | (show HW1 (.pick _ _ _); refine wz8 ?_) | (show HW1 (.store _ _ _); refine wz23 ?_) | (show HW1 (.alloc _); refine wz6 ?_) | (show HW1 (.extract _ _); first | refine wz16 ?_ | refine wz15 ?_)) | (show WalkTo _ _ _ _ (_ :: _) _ _ _; first | (show HW2 (.move _); refine wz20 ?_) | (show HW2 (.assign _); refine wz17 ?_) | (show HW2 (.load _ _); refine wz22 ?_) | (show HW2 (.store _ _ _); refine wz36 ?_)) | refine go1 ?_ | refine end_block_other rfl ?_ | refine end_scope (fun _ h => by cases h) ?_ | (refine walk_endD ?_ ?_; (· kernel_rfl)) | refine tri_yesA rfl ?_ | refine tri_noA rfl ?_ | refine tri_trueA rfl ?_ | refine tri_falseA rfl ?_)
                  exact nx _ (by exact ent_kp)
                · cases L1
                  · by_cases hki : (k : Int) < ji
                    · cases L2
                      · rw [if_pos (by simp [hki])] at nx
                        dsimp only at nx
                        clear cm
                        repeat (first | (show Walk1 _ _ _ (_ :: _) _ _; first | (show Walk1 _ _ _ (⟨_, _, _, _, _, some _⟩ :: _) _ _; refine zy1 ?_) | (show HW1 (.move _); refine wz1 ?_) | (show HW1 (.assign _); refine wz2 ?_) | (show HW1 (.binOp .add _ _ _ _); refine wz10 ?_) | (show HW1 (.binOp .lss _ _ _ _); refine wz12 ?_) | (show HW1 (.pick _ _ _); first | refine wz8 ?_ | refine wz7 ?_) | (show HW1 (.unOp _ _ _); refine wz19 ?_) | (show HW1 (.load _ _); refine wz9 ?_) | (show HW1 (.store _ _ _); refine wz23 ?_) | (show HW1 (.alloc _); refine wz6 ?_) | (show HW1 (.extract _ _); first | refine wz16 ?_ | refine wz15 ?_) | (show HW1 (.call ⟨.value (.func 16), _, _⟩); ((first | refine cwalk11 16 ?_ | refine cwalk10 16 ?_); refine ⟨_, fun e w => cl1 w, ?_⟩)) | (show HW1 (.call ⟨.value (.func 16), _, _⟩); ((first | refine cwalk11 16 ?_ | refine cwalk10 16 ?_); refine ⟨_, fun e w => cl2 w, ?_⟩))) | (show WalkTo _ _ _ _ (_ :: _) _ _ _; first | (show HW2 (.move _); refine wz20 ?_) | (show HW2 (.assign _); refine wz17 ?_) | (show HW2 (.load _ _); refine wz22 ?_) | (show HW2 (.store _ _ _); refine wz36 ?_)) | refine go1 ?_ | refine end_block_other rfl ?_ | refine end_scope (fun _ h => by cases h) ?_ | (refine walk_endD ?_ ?_; (· kernel_rfl)) | refine tri_yesA rfl ?_ | refine tri_noA rfl ?_ | refine tri_trueA rfl ?_ | refine tri_falseA rfl ?_)
                        exact nx _ (by exact ent_kp)
                      · rw [if_neg (by simp [hi])] at nx
                        dsimp only at nx
                        clear cm
                        repeat (first | (show Walk1 _ _ _ (_ :: _) _ _; first | (show Walk1 _ _ _ (⟨_, _, _, _, _, some _⟩ :: _) _ _; refine zy1 ?_) | (show HW1 (.move _); refine wz1 ?_) | (show HW1 (.assign _); refine wz2 ?_) | (show HW1 (.binOp .add _ _ _ _); refine wz10 ?_) | (show HW1 (.binOp .lss _ _ _ _); refine wz12 ?_) | (show HW1 (.pick _ _ _); first | refine wz8 ?_ | refine wz7 ?_) | (show HW1 (.unOp _ _ _); refine wz19 ?_) | (show HW1 (.load _ _); refine wz9 ?_) | (show HW1 (.store _ _ _); refine wz23 ?_) | (show HW1 (.alloc _); refine wz6 ?_) | (show HW1 (.extract _ _); first | refine wz16 ?_ | refine wz15 ?_) | (show HW1 (.call ⟨.value (.func 16), _, _⟩); ((first | refine cwalk11 16 ?_ | refine cwalk10 16 ?_); refine ⟨_, fun e w => cl1 w, ?_⟩)) | (show HW1 (.call ⟨.value (.func 16), _, _⟩); ((first | refine cwalk11 16 ?_ | refine cwalk10 16 ?_); refine ⟨_, fun e w => cl2 w, ?_⟩))) | refine go1 ?_ | refine end_block_other rfl ?_ | refine end_scope (fun _ h => by cases h) ?_ | (refine walk_endD ?_ ?_; (· kernel_rfl)) | refine tri_yesA rfl ?_ | refine tri_noA rfl ?_ | refine tri_trueA rfl ?_ | refine tri_falseA rfl ?_)
                        exact nx _ (by exact ent_kp)
                    · rw [if_neg (by simp [hi, hki])] at nx
                      dsimp only at nx
                      clear cm
                      repeat (first | (show Walk1 _ _ _ (_ :: _) _ _; first | (show Walk1 _ _ _ (⟨_, _, _, _, _, some _⟩ :: _) _ _; first | refine zy1 ?_ | refine zn1 ?_) | (show HW1 (.move _); refine wz1 ?_) | (show HW1 (.assign _); refine wz2 ?_) | (show HW1 (.binOp .add _ _ _ _); refine wz10 ?_) | (show HW1 (.binOp .lss _ _ _ _); refine wz12 ?_) | (show HW1 (.pick _ _ _); first | refine wz8 ?_ | refine wz7 ?_) | (show HW1 (.load _ _); refine wz9 ?_) | (show HW1 (.store _ _ _); refine wz23 ?_) | (show HW1 (.alloc _); refine wz6 ?_) | (show HW1 (.extract _ _); first | refine wz16 ?_ | refine wz15 ?_) | (show HW1 (.call ⟨.value (.func 16), _, _⟩); ((first | refine cwalk11 16 ?_ | refine cwalk10 16 ?_); refine ⟨_, fun e w => cl1 w, ?_⟩)) | (show HW1 (.call ⟨.value (.func 16), _, _⟩); ((first | refine cwalk11 16 ?_ | refine cwalk10 16 ?_); refine ⟨_, fun e w => cl2 w, ?_⟩))) | refine go1 ?_ | refine end_block_other rfl ?_ | refine end_scope (fun _ h => by cases h) ?_ | (refine walk_endD ?_ ?_; (· kernel_rfl)) | refine tri_yesA rfl ?_ | refine tri_noA rfl ?_ | refine tri_trueA rfl ?_ | refine tri_falseA rfl ?_)
                      exact nx _ (by exact ent_kp)
                  · rw [if_pos (by simp)] at nx
                    dsimp only at nx
                    clear cm
                    repeat (first | (show Walk1 _ _ _ (_ :: _) _ _; first | (show Walk1 _ _ _ (⟨_, _, _, _, _, some _⟩ :: _) _ _; first | refine zy1 ?_ | refine zn1 ?_ | refine zu1 ?_) | (show HW1 (.move _); refine wz1 ?_) | (show HW1 (.assign _); refine wz2 ?_) | (show HW1 (.binOp .add _ _ _ _); refine wz10 ?_) | (show HW1 (.binOp .lss _ _ _ _); refine wz12 ?_) | (show HW1 (.pick _ _ _); first | refine wz8 ?_ | refine wz7 ?_) | (show HW1 (.load _ _); refine wz9 ?_) | (show HW1 (.store _ _ _); refine wz23 ?_) | (show HW1 (.alloc _); refine wz6 ?_) | (show HW1 (.extract _ _); first | refine wz16 ?_ | refine wz15 ?_) | (show HW1 (.call ⟨.value (.func 16), _, _⟩); ((first | refine cwalk11 16 ?_ | refine cwalk10 16 ?_); refine ⟨_, fun e w => cl1 w, ?_⟩)) | (show HW1 (.call ⟨.value (.func 16), _, _⟩); ((first | refine cwalk11 16 ?_ | refine cwalk10 16 ?_); refine ⟨_, fun e w => cl2 w, ?_⟩))) | (show WalkTo _ _ _ _ (_ :: _) _ _ _; first | (show HW2 (.move _); refine wz20 ?_) | (show HW2 (.assign _); refine wz17 ?_) | (show HW2 (.load _ _); refine wz22 ?_) | (show HW2 (.store _ _ _); refine wz36 ?_)) | refine go1 ?_ | refine end_block_other rfl ?_ | refine end_scope (fun _ h => by cases h) ?_ | (refine walk_endD ?_ ?_; (· kernel_rfl)) | refine tri_yesA rfl ?_ | refine tri_noA rfl ?_ | refine tri_trueA rfl ?_ | refine tri_falseA rfl ?_)
                    exact nx _ (by exact ent_kp)
            · obtain rfl : j = c := by omega
              have nx := fun S' => next S' (S0, F j) ⟨hS0, hFo j, hrun, by
                have := hFn j hj
                unfold Tr.cost at hcs
                dsimp only
                omega⟩ (by dsimp only; rw [costs_app, htc]; omega)
              dsimp only at nx
              clear next next3 nO
              generalize F j = FJ at *
              repeat (first | (show Walk1 _ _ _ (_ :: _) _ _; (show HW1 (.binOp .lss _ _ _ _); refine wz5 ?_)) | refine go1 ?_ | refine end_block_other rfl ?_ | refine end_scope (fun _ h => by cases h) ?_ | (refine walk_endD ?_ ?_; (· kernel_rfl)) | refine tri_yesA rfl ?_ | refine tri_noA rfl ?_ | refine tri_trueA rfl ?_ | refine tri_falseA rfl ?_)
              exact nx _ (ent_ren (fun n => cond (Nat.beq n 910) 911 n) (by repeat (first | exact hasTm_nil | refine hasTm_cons rfl (fun _ => rfl) ?_)) (by repeat (first | exact hasRm_nil | refine hasRm_cons rfl (fun _ => rfl) (fun _ _ h => h) rfl ?_)) (by kernel_rfl))
          | node i0 lo' hi' L R =>
            obtain ⟨g1, g2, g3⟩ := htI
            have g4 := Option.some.inj (g1.symm.trans hnd)
            injection g4 with e1 e2 e3 e4 e5 e6
            subst e1 e2 e3 e4 e5 e6
            rw [Tr.vis, if_neg (by rw [hout]; decide)] at hrun
            have hcLR : costs [Tr.node i0 ⟨lx, ly, lz⟩ ⟨hx, hy, hz⟩ L R] = 1 + (costs [R, L]) := by simp [costs, Tr.cost]; omega
            have nx := fun S' => next S' (S0 ++ [R, L], ⟨sn + 1, i, m⟩) ⟨fun x hx => by
              simp only [List.mem_append, List.mem_cons, List.not_mem_nil, or_false] at hx
              rcases hx with hx | rfl | rfl
              · exact hS0 x hx
              · exact g3
              · exact g2, hgd, by
              dsimp only
              rw [List.foldr_append]
              exact hrun, by
              dsimp only
              rw [costs_app]
              rw [hcLR] at htc
              omega⟩ (by
              dsimp only
              rw [costs_app, costs_app, hcLR]
              omega)
            dsimp only at nx
            rw [show (S0 ++ [R, L]).length = S0.length + 2 by simp, show stkC (S0 ++ [R, L]) = stkC S0 ++ [.int .i64 ((R.ix : Nat) : Int), .int .i64 ((L.ix : Nat) : Int)] by simp [stkC]] at nx
            clear next nO
            repeat (first | (show Walk1 _ _ _ (_ :: _) _ _; first | (show HW1 (.move _); refine wz1 ?_) | (show HW1 (.binOp .geq _ _ _ _); refine wz70 ?_) | (show HW1 (.load _ _); refine wz3 ?_) | (show HW1 (.fieldAddr _ _ _); refine wz4 ?_) | (show HW1 (.buildSlice _ _ _); refine wz123 ?_)) | refine go1 ?_ | refine end_block_other rfl ?_ | refine end_scope (fun _ h => by cases h) ?_ | (refine walk_endD ?_ ?_; (· kernel_rfl)) | refine tri_yesA rfl ?_ | refine tri_noA rfl ?_ | refine tri_trueA rfl ?_ | refine tri_falseA rfl ?_)
            refine walk1_g (op_append (len := S0.length) (cnt := 2) (news := [.int .i64 ((R.ix : Nat) : Int), .int .i64 ((L.ix : Nat) : Int)]) rfl rfl rfl rfl rfl rfl rfl rfl rfl (by decide) (rdn_row (n := 101) rfl rfl) (fun u hu => by simp at hu; rcases hu with rfl | rfl <;> rfl) (by omega) rfl) (by kernel_rfl) ?_
            repeat (first | (show Walk1 _ _ _ (_ :: _) _ _; (show HW1 (.assign _); refine wz2 ?_)) | refine go1 ?_ | refine end_block_other rfl ?_ | refine end_scope (fun _ h => by cases h) ?_ | (refine walk_endD ?_ ?_; (· kernel_rfl)) | refine tri_yesA rfl ?_ | refine tri_noA rfl ?_ | refine tri_trueA rfl ?_ | refine tri_falseA rfl ?_)
            exact nx _ (ent_ren (fun n => cond (Nat.beq n 910) 102 n) (by repeat (first | exact hasTm_nil | refine hasTm_cons rfl (fun _ => rfl) ?_)) (by repeat (first | exact hasRm_nil | refine hasRm_cons rfl (fun _ => rfl) (fun _ _ h => h) rfl ?_)) (by kernel_rfl))
      · rw [Bool.and_eq_true, decide_eq_true_eq] at hc
        obtain ⟨hi, rfl⟩ := hc
        rw [Bool.and_true, decide_eq_true hi] at hout
        rw [hvo hout] at hrun
        have nx := fun S' => nO S' hrun (by omega)
        clear next cn cM nO
        obtain ⟨mn, md, mu, mv⟩ := m
        simp only [M4.c] at *
        repeat (first | (show Walk1 _ _ _ (_ :: _) _ _; first | (show Walk1 _ _ _ (⟨_, _, _, _, _, some _⟩ :: _) _ _; refine zy1 ?_) | (show HW1 (.move _); refine wz1 ?_) | (show HW1 (.assign _); refine wz2 ?_) | (show HW1 (.binOp .geq _ _ _ _); refine wz71 ?_) | (show HW1 (.pick _ _ _); first | refine wz8 ?_ | refine wz7 ?_) | (show HW1 (.unOp _ _ _); refine wz19 ?_) | (show HW1 (.load _ _); first | refine wz3 ?_ | refine wz9 ?_ | refine wz31 ?_) | (show HW1 (.store _ _ _); refine wz14 ?_) | (show HW1 (.alloc _); refine wz6 ?_) | (show HW1 (.fieldAddr _ _ _); refine wz4 ?_) | (show HW1 (.extract _ _); first | refine wz16 ?_ | refine wz15 ?_) | (show HW1 (.build _ _); refine wz25 ?_) | (show HW1 (.call ⟨.value (.func 28), _, _⟩); ((first | refine cwalk11 28 ?_ | refine cwalk10 28 ?_); refine ⟨_, fun e w => cS1 w, ?_⟩)) | (show HW1 (.call ⟨.value (.func 37), _, _⟩); ((first | refine cwalk11 37 ?_ | refine cwalk10 37 ?_); refine ⟨_, fun e w => cL w, ?_⟩))) | refine go1 ?_ | refine end_block_other rfl ?_ | refine end_scope (fun _ h => by cases h) ?_ | (refine walk_endD ?_ ?_; (· kernel_rfl)) | refine tri_yesA rfl ?_ | refine tri_noA rfl ?_ | refine tri_trueA rfl ?_ | refine tri_falseA rfl ?_)
        exact nx _ (ent_ren (fun n => cond (Nat.beq n 910) 911 n) (by repeat (first | exact hasTm_nil | refine hasTm_cons rfl (fun _ => rfl) ?_)) (by repeat (first | exact hasRm_nil | refine hasRm_cons rfl (fun _ => rfl) (fun _ _ h => h) rfl ?_)) (by kernel_rfl))
end Go.Proofs.Ytcookaiakfbdiaa
