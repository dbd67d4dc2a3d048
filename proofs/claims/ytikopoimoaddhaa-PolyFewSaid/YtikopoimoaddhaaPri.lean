/- Numbers: 2^130 - 5 is prime; of a polynomial of degree 2 there are two roots at most; few8. No condition. -/
import Derived.Test.YtikopoimoaddhaaBase
namespace Go.Proofs.Ytikopoimoaddhaa
set_option maxRecDepth 100000
theorem php : ∀ (r q : Nat) (f : Nat → Nat), (∀ i, i < q → f i < r) → (∀ i j, i < j → j < q → f i ≠ f j) → q ≤ r
  | 0, q, f, h1, _ => by
    rcases Nat.eq_zero_or_pos q with h | h
    · omega
    · exact absurd (h1 0 h) (by omega)
  | r + 1, q, f, h1, h2 => by
    by_cases h : ∃ k, k < q ∧ f k = r
    · obtain ⟨k, hk, hf⟩ := h
      have := php r (q - 1) (fun i => if i < k then f i else f (i + 1)) (fun i hi => by
        split
        · rename_i hik
          have := h1 i (by omega)
          have := h2 i k hik hk
          omega
        · rename_i hik
          have := h1 (i + 1) (by omega)
          have := h2 k (i + 1) (by omega) (by omega)
          omega) (fun i j hij hj => by
        split <;> split
        · exact h2 i j hij (by omega)
        · exact h2 i (j + 1) (by omega) (by omega)
        · omega
        · exact h2 (i + 1) (j + 1) (by omega) (by omega))
      omega
    · have := php r q f (fun i hi => by
        have := h1 i hi
        have : f i ≠ r := fun e => h ⟨i, hi, e⟩
        omega) h2
      omega
def Pr (p : Nat) : Prop := 1 < p ∧ ∀ d, d ∣ p → d = 1 ∨ d = p
theorem Pr.euclid {p x y : Nat} (h : Pr p) (hd : p ∣ x * y) : p ∣ x ∨ p ∣ y := by
  rcases h.2 _ (Nat.gcd_dvd_left p x) with h1 | h1
  · exact .inr (Nat.Coprime.dvd_of_dvd_mul_left h1 hd)
  · exact .inl (Nat.gcd_eq_left_iff_dvd.1 h1)
theorem pow_gcd_one (r b : Nat) : ∀ (m n : Nat), b ^ m % r = 1 % r → b ^ n % r = 1 % r → b ^ (Nat.gcd m n) % r = 1 % r := by
  intro m
  induction m using Nat.strongRecOn with
  | ind m ih =>
    intro n h1 h2
    rcases Nat.eq_zero_or_pos m with h | h
    · subst h; rw [Nat.gcd_zero_left]; exact h2
    · rw [Nat.gcd_rec]
      refine ih (n % m) (Nat.mod_lt _ h) m ?_ h1
      have e : b ^ n = b ^ (m * (n / m)) * b ^ (n % m) := by rw [← Nat.pow_add, Nat.div_add_mod]
      have e2 : b ^ (m * (n / m)) % r = 1 % r := by rw [Nat.pow_mul, Nat.pow_mod, h1, ← Nat.pow_mod, Nat.one_pow]
      rw [e, Nat.mul_mod, e2, ← Nat.mul_mod, Nat.one_mul] at h2
      exact h2
theorem pow_sub_one (r b F i j : Nat) (hF : 0 < F) (hb : b ^ F % r = 1 % r) (hij : i ≤ j) (h : b ^ i % r = b ^ j % r) : b ^ (j - i) % r = 1 % r := by
  have h1 : b ^ (i * (F - 1)) * b ^ i % r = 1 % r := by
    rw [← Nat.pow_add, show i * (F - 1) + i = F * i by rw [← Nat.mul_succ, Nat.mul_comm]; congr 1; omega, Nat.pow_mul, Nat.pow_mod, hb, ← Nat.pow_mod, Nat.one_pow]
  have h2 : b ^ (i * (F - 1)) * b ^ j % r = b ^ (j - i) % r := by
    have : b ^ j = b ^ i * b ^ (j - i) := by rw [← Nat.pow_add]; congr 1; omega
    rw [this, ← Nat.mul_assoc, Nat.mul_mod, h1, ← Nat.mul_mod, Nat.one_mul]
  rw [← h2, Nat.mul_mod, ← h, ← Nat.mul_mod, h1]
/-- Pocklington, in the small. -/
theorem pock (n F b : Nat) (hn : 1 < n) (hF : 1 < F) (hs : n < F * F) (hb : b ^ F % n = 1) (E : List Nat) (hE : ∀ d, d ∣ F → d < F → ∃ e ∈ E, d ∣ e) (hg : ∀ e ∈ E, Nat.gcd ((b ^ e + (n - 1)) % n) n = 1) : Pr n := by
  have key : ∀ r, r ∣ n → 1 < r → F ≤ r := by
    intro r hr h1
    have hbr : b ^ F % r = 1 % r := by rw [← Nat.mod_mod_of_dvd _ hr, hb]
    refine php r F (fun i => b ^ i % r) (fun i _ => Nat.mod_lt _ (by omega)) fun i j hij hj h => ?_
    have h2 := pow_sub_one r b F i j (by omega) hbr (by omega) h
    have h3 := pow_gcd_one r b _ _ h2 hbr
    have h4 : Nat.gcd (j - i) F ≤ j - i := Nat.gcd_le_left _ (by omega)
    obtain ⟨e, he, c, hc⟩ := hE _ (Nat.gcd_dvd_right (j - i) F) (by omega)
    have h5 : b ^ e % r = 1 % r := by rw [hc, Nat.pow_mul, Nat.pow_mod, h3, ← Nat.pow_mod, Nat.one_pow]
    have h6 : r ∣ (b ^ e + (n - 1)) % n := by
      rw [Nat.dvd_mod_iff hr]
      refine Nat.dvd_of_mod_eq_zero ?_
      rw [Nat.add_mod, h5, ← Nat.add_mod, show 1 + (n - 1) = n by omega]
      exact Nat.mod_eq_zero_of_dvd hr
    have h7 := Nat.dvd_gcd h6 hr
    rw [hg e he] at h7
    have := Nat.le_of_dvd (by omega) h7
    omega
  refine ⟨hn, fun d hd => ?_⟩
  obtain ⟨c, hc⟩ := hd
  rcases Nat.lt_or_ge 1 d with h | h
  · rcases Nat.lt_or_ge 1 c with h' | h'
    · have k1 := key d ⟨c, hc⟩ h
      have k2 := key c ⟨d, by rw [Nat.mul_comm]; exact hc⟩ h'
      have := Nat.mul_le_mul k1 k2
      omega
    · right
      have : c = 1 := by
        rcases Nat.eq_zero_or_pos c with h0 | h0
        · subst h0; simp at hc; omega
        · omega
      subst this
      simp at hc
      exact hc.symm
  · left
    rcases Nat.eq_zero_or_pos d with h0 | h0
    · subst h0; simp at hc; omega
    · omega
/-- b^e mod n. -/
def pm (n : Nat) : Nat → Nat → Nat → Nat
  | 0, _, _ => 1 % n
  | k + 1, b, e => if e = 0 then 1 % n else if e % 2 = 1 then b * pm n k (b * b % n) (e / 2) % n else pm n k (b * b % n) (e / 2)
theorem pm_eq (n : Nat) : ∀ (k b e : Nat), e < 2 ^ k → pm n k b e = b ^ e % n
  | 0, b, e, h => by
    have : e = 0 := by simpa using h
    subst this; rfl
  | k + 1, b, e, h => by
    have ih := pm_eq n k (b * b % n) (e / 2) (by rw [Nat.pow_succ] at h; omega)
    have e2 : (b * b % n) ^ (e / 2) % n = b ^ (2 * (e / 2)) % n := by
      rw [← Nat.pow_mod, Nat.pow_mul, Nat.pow_two]
    rw [pm, ih, e2]
    split
    · rename_i h0; subst h0; rfl
    · split
      · rename_i h1
        rw [Nat.mul_mod, Nat.mod_mod, ← Nat.mul_mod, ← Nat.pow_succ', show Nat.succ (2 * (e / 2)) = e by omega]
      · rw [show 2 * (e / 2) = e by omega]
theorem pow_pow_mod (n a x y X : Nat) (h : a ^ x % n = X) : X ^ y % n = a ^ (x * y) % n := by
  rw [← h, ← Nat.pow_mod, Nat.pow_mul]
def small (p : Nat) : Nat → Bool
  | 0 => true
  | d + 1 => (decide (d + 1 ≤ 1) || p % (d + 1) != 0) && small p d
theorem small_ok (p : Nat) : ∀ k, small p k = true → ∀ d, 1 < d → d ≤ k → ¬ d ∣ p
  | 0, _, d, h1, h2 => by omega
  | k + 1, h, d, h1, h2 => by
    simp only [small, Bool.and_eq_true, Bool.or_eq_true, decide_eq_true_eq, bne_iff_ne, ne_eq] at h
    rcases Nat.lt_or_ge k d with hk | hk
    · have : d = k + 1 := by omega
      subst this
      intro hd
      rcases h.1 with h3 | h3
      · omega
      · exact h3 (Nat.mod_eq_zero_of_dvd hd)
    · exact small_ok p k h.2 d h1 hk
theorem pr_small (p k : Nat) (hp : 1 < p) (hk : p < (k + 1) * (k + 1)) (h : small p k = true) : Pr p := by
  refine ⟨hp, fun d hd => ?_⟩
  obtain ⟨c, hc⟩ := hd
  have s1 := small_ok p k h
  have hd0 : d ≠ 0 := by rintro rfl; simp at hc; omega
  have hc0 : c ≠ 0 := by rintro rfl; simp at hc; omega
  rcases Nat.lt_or_ge 1 d with h1 | h1
  · rcases Nat.lt_or_ge 1 c with h2 | h2
    · rcases Nat.lt_or_ge k d with h3 | h3
      · rcases Nat.lt_or_ge k c with h4 | h4
        · have := Nat.mul_le_mul (show k + 1 ≤ d by omega) (show k + 1 ≤ c by omega)
          omega
        · exact absurd ⟨d, by rw [Nat.mul_comm]; exact hc⟩ (s1 c h2 h4)
      · exact absurd ⟨c, hc⟩ (s1 d h1 h3)
    · right
      have : c = 1 := by omega
      subst this; simp at hc; exact hc.symm
  · left; omega
theorem dvd_two {F1 F2 : Nat} (h1 : Pr F1) (h2 : Pr F2) (d : Nat) (hd : d ∣ F1 * F2) (hl : d < F1 * F2) : ∃ e ∈ [F1, F2], d ∣ e := by
  rcases h1.2 _ (Nat.gcd_dvd_left F1 d) with h | h
  · exact ⟨F2, by simp, Nat.Coprime.dvd_of_dvd_mul_left (Nat.Coprime.symm h) hd⟩
  · have hd1 : F1 ∣ d := Nat.gcd_eq_left_iff_dvd.1 h
    obtain ⟨c, rfl⟩ := hd1
    have hc : c ∣ F2 := Nat.dvd_of_mul_dvd_mul_left (by have := h1.1; omega) hd
    rcases h2.2 c hc with h3 | h3
    · subst h3; exact ⟨F1, by simp, by simp⟩
    · subst h3; exact absurd hl (by omega)
theorem dvd_one {F : Nat} (h : Pr F) (d : Nat) (hd : d ∣ F) (hl : d < F) : ∃ e ∈ [1], d ∣ e := by
  rcases h.2 d hd with h1 | h1
  · exact ⟨1, by simp, by simp [h1]⟩
  · omega

def pockC (n F b K : Nat) (E : List Nat) : Bool := decide (1 < n) && decide (1 < F) && decide (n < F * F) && decide (F < 2 ^ K) && (pm n K b F == 1) && E.all (fun e => decide (e < 2 ^ K) && (Nat.gcd ((pm n K b e + (n - 1)) % n) n == 1))
theorem pockB (n F b K : Nat) (E : List Nat) (hE : ∀ d, d ∣ F → d < F → ∃ e ∈ E, d ∣ e) (h : pockC n F b K E = true) : Pr n := by
  simp only [pockC, Bool.and_eq_true, decide_eq_true_eq, beq_iff_eq, List.all_eq_true] at h
  obtain ⟨⟨⟨⟨⟨h1, h2⟩, h3⟩, h4⟩, h5⟩, h6⟩ := h
  refine pock n F b h1 h2 h3 ((pm_eq n K b F h4).symm.trans h5) E hE fun e he => ?_
  obtain ⟨h7, h8⟩ := h6 e he
  rw [pm_eq n K b e h7, Nat.mod_add_mod] at h8
  exact h8
theorem pr_a : Pr 221101 := pr_small 221101 471 (by decide) (by decide) (by decide +kernel)
theorem pr_b : Pr 37003 := pr_small 37003 193 (by decide) (by decide) (by decide +kernel)
theorem pr_c : Pr 4024685905107147541 := pockB 4024685905107147541 (221101 * 37003) 57753362597242690 34 [221101, 37003] (dvd_two pr_a pr_b) (by decide +kernel)
theorem pr_d : Pr 897064739519922787230182993783 := pockB 897064739519922787230182993783 4024685905107147541 126414936993793177392508618240 64 [1] (dvd_one pr_c) (by decide +kernel)
theorem pr_P : Pr 1361129467683753853853498429727072845819 := pockB 1361129467683753853853498429727072845819 897064739519922787230182993783 1319879086664424325515259710359424050403 102 [1] (dvd_one pr_d) (by decide +kernel)
theorem Pr.int {p : Nat} (h : Pr p) {x y : Int} (hd : (p : Int) ∣ x * y) : (p : Int) ∣ x ∨ (p : Int) ∣ y := by
  rw [← Int.natAbs_dvd_natAbs, Int.natAbs_mul, Int.natAbs_natCast] at hd
  rw [← Int.natAbs_dvd_natAbs, ← Int.natAbs_dvd_natAbs, Int.natAbs_natCast]
  exact h.euclid hd
theorem ne_sub {p x y : Nat} (hx : x < p) (hy : y < p) (h : x ≠ y) : ¬ (p : Int) ∣ (x : Int) - y := by
  rintro ⟨c, hc⟩
  have hp : (0 : Int) < p := by omega
  have h1 : c < 1 := by
    rcases Int.lt_or_le c 1 with h1 | h1
    · exact h1
    · have := Int.mul_le_mul_of_nonneg_left h1 (Int.le_of_lt hp)
      omega
  have h2 : -1 < c := by
    rcases Int.lt_or_le (-1) c with h1 | h1
    · exact h1
    · have := Int.mul_le_mul_of_nonneg_left h1 (Int.le_of_lt hp)
      omega
  have : c = 0 := by omega
  subst this
  omega
theorem roots1 {p : Nat} (hp : Pr p) (c1 c0 : Int) (hc : ¬ (p : Int) ∣ c1) (l : List Nat) (hn : l.Nodup) (hl : ∀ r ∈ l, r < p) (h : ∀ r ∈ l, (p : Int) ∣ c1 * r + c0) : l.length ≤ 1 := by
  match l with
  | [] => simp
  | [_] => simp
  | x :: y :: t =>
    exfalso
    simp only [List.nodup_cons, List.mem_cons, not_or] at hn
    have h1 := Int.dvd_sub (h x (by simp)) (h y (by simp))
    have e : c1 * (x : Int) + c0 - (c1 * (y : Int) + c0) = c1 * ((x : Int) - y) := by rw [Int.mul_sub]; omega
    rw [e] at h1
    rcases hp.int h1 with h2 | h2
    · exact hc h2
    · exact ne_sub (hl x (by simp)) (hl y (by simp)) hn.1.1 h2
theorem roots2 {p : Nat} (hp : Pr p) (c2 c1 c0 : Int) (hc : ¬ ((p : Int) ∣ c2 ∧ (p : Int) ∣ c1)) (l : List Nat) (hn : l.Nodup) (hl : ∀ r ∈ l, r < p) (h : ∀ r ∈ l, (p : Int) ∣ c2 * (r * r) + c1 * r + c0) : l.length ≤ 2 := by
  match l with
  | [] => simp
  | [_] => simp
  | [_, _] => simp
  | x :: y :: z :: t =>
    exfalso
    simp only [List.nodup_cons, List.mem_cons, not_or] at hn
    have two : ∀ u v : Nat, u ∈ x :: y :: z :: t → v ∈ x :: y :: z :: t → u ≠ v → (p : Int) ∣ c2 * ((u : Int) + v) + c1 := by
      intro u v hu hv huv
      have h1 := Int.dvd_sub (h u hu) (h v hv)
      have e : c2 * ((u : Int) * u) + c1 * u + c0 - (c2 * ((v : Int) * v) + c1 * v + c0) = (c2 * ((u : Int) + v) + c1) * ((u : Int) - v) := by
        simp only [Int.mul_add, Int.mul_sub, Int.add_mul, Int.mul_assoc]
        rw [Int.mul_comm (v : Int) u]
        omega
      rw [e] at h1
      rcases hp.int h1 with h2 | h2
      · exact h2
      · exact absurd h2 (ne_sub (hl u hu) (hl v hv) huv)
    have e1 := two x y (by simp) (by simp) hn.1.1
    have e2 := two x z (by simp) (by simp) hn.1.2.1
    have h3 := Int.dvd_sub e1 e2
    have e : c2 * ((x : Int) + y) + c1 - (c2 * ((x : Int) + z) + c1) = c2 * ((y : Int) - z) := by
      simp only [Int.mul_add, Int.mul_sub]
      omega
    rw [e] at h3
    rcases hp.int h3 with h4 | h4
    · refine hc ⟨h4, ?_⟩
      have h5 : (p : Int) ∣ c2 * ((x : Int) + y) := Int.dvd_trans h4 (Int.dvd_mul_right _ _)
      have := Int.dvd_sub e1 h5
      rwa [show c2 * ((x : Int) + y) + c1 - c2 * ((x : Int) + y) = c1 by omega] at this
    · exact ne_sub (hl y (by simp)) (hl z (by simp)) hn.2.1.1 h4
theorem countN {α : Type} (lab : α → Nat) (m : Nat) : ∀ (k : Nat) (l : List α), (∀ x ∈ l, lab x < k) → (∀ j, j < k → (l.filter fun x => lab x == j).length ≤ m) → l.length ≤ k * m
  | 0, l, h, _ => by
    cases l with
    | nil => simp
    | cons a t => exact absurd (h a (by simp)) (by omega)
  | k + 1, l, h, hm => by
    have h1 := countN lab m k (l.filter fun x => !(lab x == k)) (fun x hx => by
      simp only [List.mem_filter, Bool.not_eq_true', beq_eq_false_iff_ne, ne_eq] at hx
      have := h x hx.1
      omega) (fun j hj => by
      have : ((l.filter fun x => !(lab x == k)).filter fun x => lab x == j) = l.filter fun x => lab x == j := by
        rw [List.filter_filter]
        refine List.filter_congr fun x _ => ?_
        cases hh : lab x == j
        · simp
        · simp at hh ⊢; omega
      rw [this]
      exact hm j (by omega))
    have h2 := hm k (by omega)
    have h3 : l.length = (l.filter fun x => lab x == k).length + (l.filter fun x => !(lab x == k)).length := by
      have := (List.filter_append_perm (fun x => lab x == k) l).length_eq
      rw [List.length_append] at this
      exact this.symm
    rw [Nat.add_mul]
    omega
def QQ : Nat := 340282366920938463463374607431768211456
theorem few8 (p m : Nat) (hp : Pr p) (hpq : p < 4 * QQ) (a2 a1 b2 b1 : Nat) (hm : (m = 2 ∧ ¬ (a2 % p = b2 % p ∧ a1 % p = b1 % p)) ∨ (m = 1 ∧ a2 = 0 ∧ b2 = 0 ∧ ¬ a1 % p = b1 % p)) (l : List Nat) (hn : l.Nodup) (hl : ∀ r ∈ l, r < p) (D : Nat)
    (h : ∀ r ∈ l, ((a2 * (r * r) + a1 * r) % p + 4 * QQ - (b2 * (r * r) + b1 * r) % p) % QQ = D) : l.length ≤ 8 * m := by
  have hp1 := hp.1
  refine countN (fun r => ((a2 * (r * r) + a1 * r) % p + 4 * QQ - (b2 * (r * r) + b1 * r) % p) / QQ) m 8 l (fun r hr => ?_) fun j hj => ?_
  · have h1 := Nat.mod_lt (a2 * (r * r) + a1 * r) (show 0 < p by omega)
    generalize (a2 * (r * r) + a1 * r) % p = u at *
    rw [Nat.div_lt_iff_lt_mul (by decide)]
    omega
  · have hdv : ∀ r ∈ l.filter (fun r => ((a2 * (r * r) + a1 * r) % p + 4 * QQ - (b2 * (r * r) + b1 * r) % p) / QQ == j), (p : Int) ∣ ((a2 : Int) - b2) * (r * r) + ((a1 : Int) - b1) * r + (4 * (QQ : Int) - D - QQ * j) := by
      intro r hr
      rw [List.mem_filter] at hr
      have hD := h r hr.1
      have hj := of_decide_eq_true hr.2
      have hu : ∀ x2 x1 : Nat, ((x2 * (r * r) + x1 * r) % p : Nat) = (x2 : Int) * (r * r) + x1 * r - p * (((x2 * (r * r) + x1 * r) / p : Nat) : Int) := fun x2 x1 => by
        have := Nat.div_add_mod (x2 * (r * r) + x1 * r) p
        have := congrArg (fun t : Nat => (t : Int)) this
        simp only [Int.natCast_add, Int.natCast_mul] at this
        omega
      have ha := hu a2 a1
      have hb := hu b2 b1
      have hlt := Nat.mod_lt (b2 * (r * r) + b1 * r) (show 0 < p by omega)
      generalize (a2 * (r * r) + a1 * r) / p = qa at *
      generalize (b2 * (r * r) + b1 * r) / p = qb at *
      generalize (a2 * (r * r) + a1 * r) % p = u at *
      generalize (b2 * (r * r) + b1 * r) % p = v at *
      have he := Nat.div_add_mod (u + 4 * QQ - v) QQ
      rw [hD, hj] at he
      refine ⟨(qa : Int) - qb, ?_⟩
      have he2 : (QQ : Int) * j + D = u + 4 * QQ - v := by
        have := congrArg (fun t : Nat => (t : Int)) he
        simp only [Int.natCast_add, Int.natCast_mul] at this
        omega
      simp only [Int.sub_mul, Int.mul_sub]
      omega
    have hnd : ∀ x y : Nat, ¬ x % p = y % p → ¬ (p : Int) ∣ (x : Int) - y := fun x y hxy hd => by
      refine hxy ?_
      have := Int.emod_emod_of_dvd
      have h1 := Int.emod_eq_emod_iff_emod_sub_eq_zero.2 (Int.emod_eq_zero_of_dvd hd)
      omega
    rcases hm with ⟨rfl, hm⟩ | ⟨rfl, rfl, rfl, hm⟩
    · refine roots2 hp _ _ _ (fun hc => hm ⟨?_, ?_⟩) _ (hn.filter _) (fun r hr => hl r (List.mem_filter.1 hr).1) hdv
      · exact Classical.byContradiction fun hh => hnd _ _ hh hc.1
      · exact Classical.byContradiction fun hh => hnd _ _ hh hc.2
    · refine roots1 hp ((a1 : Int) - b1) (4 * (QQ : Int) - D - QQ * j) (hnd _ _ hm) _ (hn.filter _) (fun r hr => hl r (List.mem_filter.1 hr).1) fun r hr => ?_
      have := hdv r hr
      simpa using this
end Go.Proofs.Ytikopoimoaddhaa
