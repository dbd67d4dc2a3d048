/- How an order is parted, plainly. No condition. A ray that meets a triangle, in exact numbers: the place lies between the corners. No condition. -/
import Derived.Test.YtmpnkknocfaciaaBld6
import Derived.Test.YtmpnkknocfaciaaSymALW
import Derived.Test.YtmpnkknocfaciaaSwpGH
namespace Go.Proofs.Ytmpnkknocfaciaa
open Go.RowKit
set_option maxRecDepth 100000
set_option maxHeartbeats 1000000
theorem axP_min (a b : P3) (k : Nat) : axP (minP a b) k = min (axP a k) (axP b k) := by
  unfold axP minP
  split
  · rfl
  · split <;> rfl
theorem axP_max (a b : P3) (k : Nat) : axP (maxP a b) k = max (axP a k) (axP b k) := by
  unfold axP maxP
  split
  · rfl
  · split <;> rfl
theorem boxN_le (ps : List P3) (k : Nat) : ∀ j, j ≤ ps.length → ∀ i, i < j → axP (boxN ps j).1 k ≤ axP (ps.getD i zP) k ∧ axP (ps.getD i zP) k ≤ axP (boxN ps j).2 k
  | 0, _, i, hi => by omega
  | j + 1, hj, i, hi => by
    rw [boxN]
    by_cases h0 : j = 0
    · subst h0
      obtain rfl : i = 0 := by omega
      rw [if_pos rfl, axP_min, axP_max]
      omega
    · rw [if_neg h0, axP_min, axP_max]
      by_cases hij : i = j
      · subst hij; omega
      · have := boxN_le ps k j (by omega) i (by omega)
        omega
theorem boxN_at (ps : List P3) (k : Nat) : ∀ j, j < ps.length → (∃ i, i ≤ j ∧ axP (ps.getD i zP) k = axP (boxN ps (j + 1)).1 k) ∧ ∃ i, i ≤ j ∧ axP (ps.getD i zP) k = axP (boxN ps (j + 1)).2 k
  | 0, _ => by
    rw [boxN, if_pos rfl, axP_min, axP_max]
    exact ⟨⟨0, Nat.le_refl _, by omega⟩, 0, Nat.le_refl _, by omega⟩
  | j + 1, hj => by
    obtain ⟨⟨i1, h1, e1⟩, i2, h2, e2⟩ := boxN_at ps k j (by omega)
    rw [boxN, if_neg (by omega), axP_min, axP_max]
    constructor
    · by_cases h : axP (boxN ps (j + 1)).1 k ≤ axP (ps.getD (j + 1) zP) k
      · exact ⟨i1, by omega, by omega⟩
      · exact ⟨j + 1, Nat.le_refl _, by omega⟩
    · by_cases h : axP (ps.getD (j + 1) zP) k ≤ axP (boxN ps (j + 1)).2 k
      · exact ⟨i2, by omega, by omega⟩
      · exact ⟨j + 1, Nat.le_refl _, by omega⟩
theorem boxP_le {ps : List P3} {p : P3} (h : p ∈ ps) (k : Nat) : axP (boxP ps).1 k ≤ axP p k ∧ axP p k ≤ axP (boxP ps).2 k := by
  obtain ⟨i, hi, rfl⟩ := List.getElem_of_mem h
  have := boxN_le ps k ps.length (Nat.le_refl _) i hi
  rwa [List.getD_eq_getElem?_getD, List.getElem?_eq_getElem hi] at this
theorem boxP_at {ps : List P3} (h : ps ≠ []) (k : Nat) : (∃ p ∈ ps, axP p k = axP (boxP ps).1 k) ∧ ∃ p ∈ ps, axP p k = axP (boxP ps).2 k := by
  obtain ⟨n, hn⟩ : ∃ n, ps.length = n + 1 := ⟨ps.length - 1, by have := List.length_pos_iff.2 h; omega⟩
  obtain ⟨⟨i1, h1, e1⟩, i2, h2, e2⟩ := boxN_at ps k n (by omega)
  unfold boxP
  rw [hn]
  constructor
  · refine ⟨_, List.getElem_mem (show i1 < ps.length by omega), ?_⟩
    rw [← e1, List.getD_eq_getElem?_getD, List.getElem?_eq_getElem]; rfl
  · refine ⟨_, List.getElem_mem (show i2 < ps.length by omega), ?_⟩
    rw [← e2, List.getD_eq_getElem?_getD, List.getElem?_eq_getElem]; rfl
theorem smB_ax {m : Int} {p : P3} : smB m p ↔ ∀ k, k < 3 → -m ≤ axP p k ∧ axP p k ≤ m := by
  unfold smB
  constructor
  · intro h k hk
    unfold axP
    split
    · exact h.1
    · split
      · exact h.2.1
      · exact h.2.2
  · intro h
    exact ⟨h 0 (by omega), h 1 (by omega), h 2 (by omega)⟩
theorem boxP_sm {ps : List P3} (h : ps ≠ []) {m : Int} (hp : ∀ p ∈ ps, smB m p) : smB m (boxP ps).1 ∧ smB m (boxP ps).2 := by
  rw [smB_ax, smB_ax]
  constructor
  · intro k hk
    obtain ⟨⟨p, h1, h2⟩, _⟩ := boxP_at h k
    rw [← h2]
    exact smB_ax.1 (hp p h1) k hk
  · intro k hk
    obtain ⟨_, p, h1, h2⟩ := boxP_at h k
    rw [← h2]
    exact smB_ax.1 (hp p h1) k hk
/-- The middles of an order's triangles, their box, the longest axis. -/
def msL (l : List TriS) (ks : List Nat) : List P3 := ks.map fun i => midT (l.getD i zT)
def axN (lo hi : P3) : Nat → Nat
  | 0 => 0
  | j + 1 => if axP hi (j + 1) - axP lo (j + 1) > axP hi (axN lo hi j) - axP lo (axN lo hi j) then j + 1 else axN lo hi j
theorem axN_le (lo hi : P3) : ∀ j, axN lo hi j ≤ j
  | 0 => Nat.le_refl _
  | j + 1 => by have := axN_le lo hi j; rw [axN]; split <;> omega
def rkL (r : Nat → Bool) (i : Nat) : Int := if r i then 1 else 0
/-- Where an order is parted, and how it is sorted. -/
def partL (l : List TriS) (ks : List Nat) (d : Nat) : Int × List Nat :=
  if ks.length ≤ 4 then (0, ks)
  else if axP (boxP (msL l ks)).1 (axN (boxP (msL l ks)).1 (boxP (msL l ks)).2 2) = axP (boxP (msL l ks)).2 (axN (boxP (msL l ks)).1 (boxP (msL l ks)).2 2) then (0, ks)
  else if d > 31 then (((ks.length / 2 : Nat) : Int), sortK (kyL l (axN (boxP (msL l ks)).1 (boxP (msL l ks)).2 2)) ks)
  else (idxL (rgL l (axN (boxP (msL l ks)).1 (boxP (msL l ks)).2 2) (axP (boxP (msL l ks)).1 (axN (boxP (msL l ks)).1 (boxP (msL l ks)).2 2)) (axP (boxP (msL l ks)).2 (axN (boxP (msL l ks)).1 (boxP (msL l ks)).2 2)) ((cutL l ks (axN (boxP (msL l ks)).1 (boxP (msL l ks)).2 2) (axP (boxP (msL l ks)).1 (axN (boxP (msL l ks)).1 (boxP (msL l ks)).2 2)) (axP (boxP (msL l ks)).2 (axN (boxP (msL l ks)).1 (boxP (msL l ks)).2 2)) : Nat) : Int))
      (sortK (rkL (rgL l (axN (boxP (msL l ks)).1 (boxP (msL l ks)).2 2) (axP (boxP (msL l ks)).1 (axN (boxP (msL l ks)).1 (boxP (msL l ks)).2 2)) (axP (boxP (msL l ks)).2 (axN (boxP (msL l ks)).1 (boxP (msL l ks)).2 2)) ((cutL l ks (axN (boxP (msL l ks)).1 (boxP (msL l ks)).2 2) (axP (boxP (msL l ks)).1 (axN (boxP (msL l ks)).1 (boxP (msL l ks)).2 2)) (axP (boxP (msL l ks)).2 (axN (boxP (msL l ks)).1 (boxP (msL l ks)).2 2)) : Nat) : Int))) ks) 0,
    sortK (rkL (rgL l (axN (boxP (msL l ks)).1 (boxP (msL l ks)).2 2) (axP (boxP (msL l ks)).1 (axN (boxP (msL l ks)).1 (boxP (msL l ks)).2 2)) (axP (boxP (msL l ks)).2 (axN (boxP (msL l ks)).1 (boxP (msL l ks)).2 2)) ((cutL l ks (axN (boxP (msL l ks)).1 (boxP (msL l ks)).2 2) (axP (boxP (msL l ks)).1 (axN (boxP (msL l ks)).1 (boxP (msL l ks)).2 2)) (axP (boxP (msL l ks)).2 (axN (boxP (msL l ks)).1 (boxP (msL l ks)).2 2)) : Nat) : Int))) ks)
theorem cmB_key (r : Nat → Bool) (x y : Nat) : cmB r x y < 0 ↔ rkL r x < rkL r y := by
  unfold cmB rkL
  cases r x <;> cases r y <;> decide
theorem partL_eq (l : List TriS) (ks : List Nat) (d : Nat) {B : P3 × P3} {k : Nat} {fr to : Int} (hB : boxP (msL l ks) = B) (hk : axN B.1 B.2 2 = k) (hf : axP B.1 k = fr) (ht : axP B.2 k = to) : partL l ks d = if ks.length ≤ 4 then (0, ks) else if fr = to then (0, ks) else if d > 31 then (((ks.length / 2 : Nat) : Int), sortK (kyL l k) ks)
    else (idxL (rgL l k fr to ((cutL l ks k fr to : Nat) : Int)) (sortK (rkL (rgL l k fr to ((cutL l ks k fr to : Nat) : Int))) ks) 0, sortK (rkL (rgL l k fr to ((cutL l ks k fr to : Nat) : Int))) ks) := by
  unfold partL
  rw [hB, hk, hf, ht]
theorem kyL_in {l : List TriS} {ks : List Nat} {i : Nat} (h : i ∈ ks) (k : Nat) : axP (boxP (msL l ks)).1 k ≤ kyL l k i ∧ kyL l k i ≤ axP (boxP (msL l ks)).2 k := boxP_le (List.mem_map.2 ⟨i, h, rfl⟩) k
end Go.Proofs.Ytmpnkknocfaciaa
namespace Go.Proofs.Ytmpnkknocfaciaa
open Go.RowKit
set_option maxRecDepth 100000
set_option maxHeartbeats 1000000
theorem mulB {x y A B : Int} (hx : -A ≤ x ∧ x ≤ A) (hy : -B ≤ y ∧ y ≤ B) : -(A * B) ≤ x * y ∧ x * y ≤ A * B := by
  have hA : 0 ≤ A := by omega
  have hB : 0 ≤ B := by omega
  have h1 : (x * y).natAbs ≤ (A * B).natAbs := by
    rw [Int.natAbs_mul, Int.natAbs_mul]
    exact Nat.mul_le_mul (by omega) (by omega)
  have h2 : 0 ≤ A * B := Int.mul_nonneg hA hB
  omega
def subE (a b : P3) : P3 := ⟨a.x - b.x, a.y - b.y, a.z - b.z⟩
def crossE (a b : P3) : P3 := ⟨a.y * b.z - a.z * b.y, a.z * b.x - a.x * b.z, a.x * b.y - a.y * b.x⟩
def dotE (a b : P3) : Int := a.x * b.x + a.y * b.y + a.z * b.z
theorem wrapS {z : Int} (h : -9223372036854775808 ≤ z ∧ z < 9223372036854775808) : IntKind.i64.wrap z = z := wrapI h
theorem subP_eq {a b : P3} {A : Int} (ha : smB A a) (hb : smB A b) (hA : A ≤ 1000000000) : subP a b = subE a b ∧ smB (A + A) (subE a b) := by
  unfold smB subP subE sW at *
  dsimp only
  rw [wrapS (by omega), wrapS (by omega), wrapS (by omega)]
  exact ⟨rfl, by omega⟩
theorem crossP_eq {a b : P3} (ha : smB 131072 a) (hb : smB 131072 b) : crossP a b = crossE a b ∧ smB 34359738368 (crossE a b) := by
  obtain ⟨a1, a2, a3⟩ := ha
  obtain ⟨b1, b2, b3⟩ := hb
  have m1 := mulB a2 b3
  have m2 := mulB a3 b2
  have m3 := mulB a3 b1
  have m4 := mulB a1 b3
  have m5 := mulB a1 b2
  have m6 := mulB a2 b1
  unfold crossP crossE smB sW mW
  dsimp only
  rw [wrapS (z := a.y * b.z) (by omega), wrapS (z := a.z * b.y) (by omega), wrapS (z := a.z * b.x) (by omega), wrapS (z := a.x * b.z) (by omega), wrapS (z := a.x * b.y) (by omega), wrapS (z := a.y * b.x) (by omega), wrapS (by omega), wrapS (by omega), wrapS (by omega)]
  exact ⟨rfl, by omega⟩
theorem dotP_eq {a b : P3} (ha : smB 131072 a) (hb : smB 34359738368 b) : dotP a b = dotE a b ∧ -20000000000000000 ≤ dotE a b ∧ dotE a b ≤ 20000000000000000 := by
  obtain ⟨a1, a2, a3⟩ := ha
  obtain ⟨b1, b2, b3⟩ := hb
  have m1 := mulB a1 b1
  have m2 := mulB a2 b2
  have m3 := mulB a3 b3
  unfold dotP dotE aW mW
  rw [wrapS (z := a.x * b.x) (by omega), wrapS (z := a.y * b.y) (by omega), wrapS (z := a.z * b.z) (by omega), wrapS (z := a.x * b.x + a.y * b.y) (by omega), wrapS (by omega)]
  exact ⟨rfl, by omega⟩
theorem inP_sm {p : P3} {m : Int} (h : inP p m = true) : smB m p := by
  unfold inP max3 min3 at h
  rw [Bool.and_eq_true, decide_eq_true_eq, decide_eq_true_eq] at h
  unfold smB
  omega
def rawE (o d p0 p1 p2 : P3) : M4 :=
  ⟨dotE (subE p2 p0) (crossE (subE o p0) (subE p1 p0)), dotE (subE p1 p0) (crossE d (subE p2 p0)), dotE (subE o p0) (crossE d (subE p2 p0)), dotE d (crossE (subE o p0) (subE p1 p0))⟩
def bigM (m : M4) : Prop := (-20000000000000000 ≤ m.num ∧ m.num ≤ 20000000000000000) ∧ (-20000000000000000 ≤ m.det ∧ m.det ≤ 20000000000000000) ∧ (-20000000000000000 ≤ m.u ∧ m.u ≤ 20000000000000000) ∧ (-20000000000000000 ≤ m.v ∧ m.v ≤ 20000000000000000)
theorem rawM_eq {o d p0 p1 p2 : P3} (ho : smB 65536 o) (hd : smB 131072 d) (h0 : smB 65536 p0) (h1 : smB 65536 p1) (h2 : smB 65536 p2) : rawM o d p0 p1 p2 = rawE o d p0 p1 p2 ∧ bigM (rawE o d p0 p1 p2) := by
  obtain ⟨e1, s1⟩ := subP_eq h2 h0 (by omega)
  obtain ⟨e2, s2⟩ := subP_eq h1 h0 (by omega)
  obtain ⟨e3, s3⟩ := subP_eq ho h0 (by omega)
  obtain ⟨e4, s4⟩ := crossP_eq s3 s2
  obtain ⟨e5, s5⟩ := crossP_eq hd s1
  unfold rawM rawE bigM
  rw [e1, e2, e3, e4, e5]
  obtain ⟨d1, q1⟩ := dotP_eq s1 s4
  obtain ⟨d2, q2⟩ := dotP_eq s2 s5
  obtain ⟨d3, q3⟩ := dotP_eq s3 s5
  obtain ⟨d4, q4⟩ := dotP_eq hd s4
  rw [d1, d2, d3, d4]
  exact ⟨rfl, q1, q2, q3, q4⟩
theorem cramer (o d p0 p1 p2 : P3) : (rawE o d p0 p1 p2).det * (o.x - p0.x) + (rawE o d p0 p1 p2).num * d.x = (rawE o d p0 p1 p2).u * (p1.x - p0.x) + (rawE o d p0 p1 p2).v * (p2.x - p0.x) ∧
    (rawE o d p0 p1 p2).det * (o.y - p0.y) + (rawE o d p0 p1 p2).num * d.y = (rawE o d p0 p1 p2).u * (p1.y - p0.y) + (rawE o d p0 p1 p2).v * (p2.y - p0.y) ∧
    (rawE o d p0 p1 p2).det * (o.z - p0.z) + (rawE o d p0 p1 p2).num * d.z = (rawE o d p0 p1 p2).u * (p1.z - p0.z) + (rawE o d p0 p1 p2).v * (p2.z - p0.z) := by
  obtain ⟨ox, oy, oz⟩ := o
  obtain ⟨dx, dy, dz⟩ := d
  obtain ⟨ax, ay, az⟩ := p0
  obtain ⟨bx, by_, bz⟩ := p1
  obtain ⟨cx, cy, cz⟩ := p2
  simp only [rawE, dotE, crossE, subE]
  refine ⟨?_, ?_, ?_⟩ <;> grind
/-- What a meeting says. -/
structure HitF (o d p0 p1 p2 : P3) (m : M4) : Prop where
  num : 0 < m.num ∧ m.num ≤ 20000000000000000
  det : 0 < m.det ∧ m.det ≤ 20000000000000000
  u : 0 ≤ m.u
  v : 0 ≤ m.v
  uv : m.u + m.v ≤ m.det
  at_ : ∀ k, k < 3 → m.det * axP o k + m.num * axP d k = (m.det - m.u - m.v) * axP p0 k + m.u * axP p1 k + m.v * axP p2 k
  ray : smB 65536 o ∧ smB 131072 d
  cor : smB 65536 p0 ∧ smB 65536 p1 ∧ smB 65536 p2
theorem hit_facts {o d p0 p1 p2 : P3} {m : M4} (h : hitM o d p0 p1 p2 = (m, true)) : HitF o d p0 p1 p2 m := by
  unfold hitM at h
  split at h
  · rename_i hc
    rw [Bool.and_eq_true] at hc
    obtain ⟨hm, hout⟩ := hc
    unfold mayP at hm
    rw [Bool.and_eq_true, Bool.and_eq_true] at hm
    have ho := inP_sm hm.1
    have hd := inP_sm hm.2.1
    have hin : ∀ p ∈ [p0, p1, p2], smB 65536 p := fun p hp => by
      have : outF p = false := by
        cases hb : outF p with
        | false => rfl
        | true =>
          have : [p0, p1, p2].any outF = true := List.any_eq_true.2 ⟨p, hp, hb⟩
          rw [this] at hout; cases hout
      unfold outF at this
      exact inP_sm (by simpa using this)
    have h0 := hin p0 (by simp)
    have h1 := hin p1 (by simp)
    have h2 := hin p2 (by simp)
    obtain ⟨e, hbig⟩ := rawM_eq ho hd h0 h1 h2
    have hcr := cramer o d p0 p1 p2
    rw [e] at h
    generalize rawE o d p0 p1 p2 = R at *
    obtain ⟨b1, b2, b3, b4⟩ := hbig
    have hT : (turnM R = R ∧ 0 ≤ R.det) ∨ (turnM R = ⟨-R.num, -R.det, -R.u, -R.v⟩ ∧ R.det < 0) := by
      unfold turnM
      split
      · right
        unfold nW
        rw [wrapS (by omega), wrapS (by omega), wrapS (by omega), wrapS (by omega)]
        simp only [Int.zero_sub]
        exact ⟨trivial, by assumption⟩
      · left
        exact ⟨rfl, by omega⟩
    unfold endM at h
    split at h
    · cases h
    · rename_i hbad
      have h : turnM R = m := by simpa using h
      have key : ∀ (k : Nat), k < 3 → R.det * axP o k + R.num * axP d k = (R.det - R.u - R.v) * axP p0 k + R.u * axP p1 k + R.v * axP p2 k := by
        intro k hk
        obtain ⟨c1, c2, c3⟩ := hcr
        obtain rfl | rfl | rfl : k = 0 ∨ k = 1 ∨ k = 2 := by omega
        · simp only [axP, if_true]; grind
        · simp only [axP, if_true, if_false, show ¬ (1 : Nat) = 0 by decide]; grind
        · simp only [axP, if_false, show ¬ (2 : Nat) = 0 by decide, show ¬ (2 : Nat) = 1 by decide]; grind
      rcases hT with ⟨hT, hs⟩ | ⟨hT, hs⟩
      · rw [hT] at h hbad
        subst h
        unfold badM aW at hbad
        rw [wrapS (by omega)] at hbad
        refine ⟨by omega, by omega, by omega, by omega, by omega, key, ⟨ho, hd⟩, h0, h1, h2⟩
      · rw [hT] at h hbad
        subst h
        unfold badM aW at hbad
        dsimp only at hbad
        rw [wrapS (by omega)] at hbad
        refine ⟨by dsimp only; omega, by dsimp only; omega, by dsimp only; omega, by dsimp only; omega, by dsimp only; omega, fun k hk => ?_, ⟨ho, hd⟩, h0, h1, h2⟩
        have := key k hk
        dsimp only
        grind
  · cases h
end Go.Proofs.Ytmpnkknocfaciaa
