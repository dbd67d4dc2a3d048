/- Poly1305: of two unlike messages of m blocks at most 8 m keys give one difference (plain). No condition. -/
import Derived.Test.YtikopoimoaddhaaPoly12
import Derived.Test.YtikopoimoaddhaaPri
namespace Go.Proofs.Ytikopoimoaddhaa
open Go.RowKit
set_option maxRecDepth 100000
set_option maxHeartbeats 4000000
theorem blk17_inj (M N : List (BitVec 8)) (h : blk17 M = blk17 N) : M.take 16 = N.take 16 := by
  obtain ⟨m1, m2, m3⟩ := blk17_gt M _ rfl
  obtain ⟨n1, n2, n3⟩ := blk17_gt N _ rfl
  rw [h] at m1 m2 m3
  have e : min M.length 16 = min N.length 16 := by
    rcases Nat.lt_trichotomy (min M.length 16) (min N.length 16) with hh | hh | hh
    · rw [m2 _ hh] at n1; exact absurd n1 (by decide)
    · exact hh
    · rw [n2 _ hh] at m1; exact absurd m1 (by decide)
  rw [← m3, ← n3, e]
theorem blk17_lt (M : List (BitVec 8)) : leN (blk17 M) < PP := by
  have hl := blk17_length M
  have h16 := blk17_16 M
  have h1 := leN_take (l := blk17 M) (i := 16) (by omega)
  rw [List.take_of_length_le (by omega), show (256 : Nat) ^ 16 = 340282366920938463463374607431768211456 by decide] at h1
  have h2 := leN_lt ((blk17 M).take 16)
  rw [List.length_take, show min 16 (blk17 M).length = 16 by omega, show (256 : Nat) ^ 16 = 340282366920938463463374607431768211456 by decide] at h2
  unfold PP
  omega
theorem blk17_pos (M : List (BitVec 8)) : 0 < leN (blk17 M) := by
  rcases Nat.eq_zero_or_pos (leN (blk17 M)) with h | h
  · have hl := blk17_length M
    have e : blk17 M = List.replicate 17 0#8 := leN_inj (by rw [hl, List.length_replicate]) (by rw [h, leN_zero])
    obtain ⟨m1, _, _⟩ := blk17_gt M _ rfl
    rw [e] at m1
    have hm : min M.length 16 < 17 := by omega
    rw [gt_lt _ _ (by rw [List.length_replicate]; exact hm), List.getElem_replicate] at m1
    exact absurd m1 (by decide)
  · exact h
def cof2 (msg : List (BitVec 8)) : Nat := if nbl msg.length = 2 then leN (blk17 msg) else 0
def cof1 (msg : List (BitVec 8)) : Nat := if nbl msg.length = 2 then leN (blk17 (msg.drop 16)) else if nbl msg.length = 1 then leN (blk17 msg) else 0
theorem accN_cof (r : Nat) (msg : List (BitVec 8)) (h : msg.length ≤ 32) : accN r msg (nbl msg.length) = (cof2 msg * (r * r) + cof1 msg * r) % PP := by
  have hn : nbl msg.length ≤ 2 := by unfold nbl; omega
  unfold cof2 cof1
  generalize nbl msg.length = n at *
  match n, hn with
  | 0, _ => simp [accN]
  | 1, _ => simp [accN]
  | 2, _ =>
    simp only [accN, Nat.mul_zero, List.drop_zero, Nat.mul_one, Nat.zero_add, if_true]
    generalize leN (blk17 msg) = c0
    generalize leN (blk17 (msg.drop 16)) = c1
    rw [Nat.mul_mod, Nat.add_mod, Nat.mod_mod, ← Nat.add_mod, ← Nat.mul_mod, Nat.add_mul, Nat.mul_assoc]
theorem cof_ne (a b : List (BitVec 8)) (ha : a.length ≤ 32) (hb : b.length ≤ 32) (hne : a ≠ b) :
    (max (nbl a.length) (nbl b.length) = 2 ∧ ¬ (cof2 a % PP = cof2 b % PP ∧ cof1 a % PP = cof1 b % PP)) ∨ (max (nbl a.length) (nbl b.length) = 1 ∧ cof2 a = 0 ∧ cof2 b = 0 ∧ ¬ cof1 a % PP = cof1 b % PP) := by
  have key : ∀ M : List (BitVec 8), leN (blk17 M) % PP = leN (blk17 M) := fun M => Nat.mod_eq_of_lt (blk17_lt M)
  have inj : ∀ M N : List (BitVec 8), leN (blk17 M) = leN (blk17 N) → M.take 16 = N.take 16 := fun M N h => blk17_inj M N (leN_inj ((blk17_length M).trans (blk17_length N).symm) h)
  have na : nbl a.length ≤ 2 := by unfold nbl; omega
  have nb : nbl b.length ≤ 2 := by unfold nbl; omega
  have z0 : (0 : Nat) % PP = 0 := Nat.zero_mod _
  have one : ∀ M : List (BitVec 8), nbl M.length = 1 → M.take 16 = M := fun M h => List.take_of_length_le (by unfold nbl at h; omega)
  have nil : ∀ M : List (BitVec 8), nbl M.length = 0 → M = [] := fun M h => List.eq_nil_of_length_eq_zero (by unfold nbl at h; omega)
  have two : ∀ M : List (BitVec 8), M.length ≤ 32 → (M.drop 16).take 16 = M.drop 16 := fun M h => List.take_of_length_le (by rw [List.length_drop]; omega)
  have hA : nbl a.length = 0 ∨ nbl a.length = 1 ∨ nbl a.length = 2 := by omega
  have hB : nbl b.length = 0 ∨ nbl b.length = 1 ∨ nbl b.length = 2 := by omega
  have pa := blk17_pos a
  have pb := blk17_pos b
  unfold cof2 cof1
  rcases hA with hA | hA | hA <;> rcases hB with hB | hB | hB <;> rw [hA, hB]
  · exact absurd ((nil a hA).trans (nil b hB).symm) hne
  · refine .inr ⟨rfl, rfl, rfl, fun h => ?_⟩
    have h : 0 % PP = leN (blk17 b) % PP := h
    rw [key, z0] at h; omega
  · refine .inl ⟨rfl, fun h => ?_⟩
    have h : 0 % PP = leN (blk17 b) % PP := h.1
    rw [key, z0] at h; omega
  · refine .inr ⟨rfl, rfl, rfl, fun h => ?_⟩
    have h : leN (blk17 a) % PP = 0 % PP := h
    rw [key, z0] at h; omega
  · refine .inr ⟨rfl, rfl, rfl, fun h => hne ?_⟩
    have h : leN (blk17 a) % PP = leN (blk17 b) % PP := h
    rw [key, key] at h
    have := inj a b h
    rwa [one a hA, one b hB] at this
  · refine .inl ⟨rfl, fun h => ?_⟩
    have h : 0 % PP = leN (blk17 b) % PP := h.1
    rw [key, z0] at h; omega
  · refine .inl ⟨rfl, fun h => ?_⟩
    have h : leN (blk17 a) % PP = 0 % PP := h.1
    rw [key, z0] at h; omega
  · refine .inl ⟨rfl, fun h => ?_⟩
    have h : leN (blk17 a) % PP = 0 % PP := h.1
    rw [key, z0] at h; omega
  · refine .inl ⟨rfl, fun h => hne ?_⟩
    have h1 : leN (blk17 a) % PP = leN (blk17 b) % PP := h.1
    have h2 : leN (blk17 (a.drop 16)) % PP = leN (blk17 (b.drop 16)) % PP := h.2
    rw [key, key] at h1 h2
    have h1 := inj a b h1
    have h2 := inj (a.drop 16) (b.drop 16) h2
    rw [two a ha, two b hb] at h2
    rw [← List.take_append_drop 16 a, ← List.take_append_drop 16 b, h1, h2]
def zer16 : List (BitVec 8) := List.replicate 16 0#8
def fndL (a b r : List (BitVec 8)) : List (BitVec 8) := lessL (tagL (r ++ zer16) a) (tagL (r ++ zer16) b)
theorem rval (r : List (BitVec 8)) (h : r.length = 16) : (num8 r 8).toNat + 18446744073709551616 * (num8 ((r.drop 8).take 8) 8).toNat = leN r := by
  have h8 : (r.drop 8).take 8 = r.drop 8 := List.take_of_length_le (by rw [List.length_drop]; omega)
  rw [num8_nat _ 8 (by omega) (by omega), num8_nat _ 8 (by omega) (by rw [h8, List.length_drop]; omega), h8, List.take_of_length_le (l := r.drop 8) (by rw [List.length_drop]; omega)]
  conv => rhs; rw [← List.take_append_drop 8 r, leN_append, List.length_take, show min 8 r.length = 8 by omega]
theorem nodup_map {α β : Type} (f : α → β) : ∀ (l : List α), l.Nodup → (∀ x ∈ l, ∀ y ∈ l, f x = f y → x = y) → (l.map f).Nodup
  | [], _, _ => by simp
  | x :: l, h, hf => by
    rw [List.nodup_cons] at h
    rw [List.map_cons, List.nodup_cons]
    refine ⟨fun hm => ?_, nodup_map f l h.2 fun y hy z hz => hf y (List.mem_cons_of_mem _ hy) z (List.mem_cons_of_mem _ hz)⟩
    obtain ⟨y, hy, he⟩ := List.mem_map.1 hm
    have := hf y (List.mem_cons_of_mem _ hy) x List.mem_cons_self he
    subst this
    exact h.1 hy
theorem few_plain (a b : List (BitVec 8)) (ha : a.length ≤ 32) (hb : b.length ≤ 32) (hne : a ≠ b) (seen : List (List (BitVec 8))) (hs : ∀ r ∈ seen, r.length = 16 ∧ clampL r = r) (hnd : seen.Nodup) (d : List (BitVec 8)) :
    (seen.filter (fun r => fndL a b r == d)).length ≤ 8 * max (nbl a.length) (nbl b.length) := by
  have hP : Pr PP := pr_P
  have hm : max (nbl a.length) (nbl b.length) = max (nbl a.length) (nbl b.length) := rfl
  have hlen : ((seen.filter (fun r => fndL a b r == d)).map leN).length = (seen.filter (fun r => fndL a b r == d)).length := List.length_map _
  rw [← hlen]
  refine few8 PP _ hP (by decide) (cof2 a) (cof1 a) (cof2 b) (cof1 b) (cof_ne a b ha hb hne) _ ?_ ?_ (leN d) ?_
  · refine nodup_map leN _ (hnd.filter _) fun x hx y hy h => ?_
    have h1 := (hs x (List.mem_filter.1 hx).1).1
    have h2 := (hs y (List.mem_filter.1 hy).1).1
    exact leN_inj (h1.trans h2.symm) h
  · intro r hr
    obtain ⟨x, hx, rfl⟩ := List.mem_map.1 hr
    have h1 := (hs x (List.mem_filter.1 hx).1).1
    have h2 := leN_lt x
    rw [h1, show (256 : Nat) ^ 16 = 340282366920938463463374607431768211456 by decide] at h2
    unfold PP
    omega
  · intro r hr
    obtain ⟨x, hx, rfl⟩ := List.mem_map.1 hr
    obtain ⟨hx1, hx2⟩ := List.mem_filter.1 hx
    obtain ⟨h1, h2⟩ := hs x hx1
    have hd : fndL a b x = d := by simpa using hx2
    have hz : zer16.length = 16 := rfl
    have ta := tag2_val x zer16 a h1 hz
    have tb := tag2_val x zer16 b h1 hz
    have ea : accK x a = (cof2 a * (leN x * leN x) + cof1 a * leN x) % PP := by
      rw [accK, h2, rval x h1, accN_cof _ _ ha]
    have eb : accK x b = (cof2 b * (leN x * leN x) + cof1 b * leN x) % PP := by
      rw [accK, h2, rval x h1, accN_cof _ _ hb]
    have hpp : 0 < PP := by decide
    have lb := Nat.mod_lt (cof2 b * (leN x * leN x) + cof1 b * leN x) hpp
    rw [← ea, ← eb]
    rw [← eb] at lb
    have hzz : leN zer16 = 0 := leN_zero 16
    rw [hzz, Nat.add_zero] at ta tb
    have hla : (tagL (x ++ zer16) a).length = 16 := sumM_length _
    have hlb : (tagL (x ++ zer16) b).length = 16 := sumM_length _
    unfold fndL lessL at hd
    generalize tagL (x ++ zer16) a = TA at *
    generalize tagL (x ++ zer16) b = TB at *
    have hv := lsP_val TA TB hla hlb 16 (Nat.le_refl _)
    have hbr := brK_le TA TB 16
    rw [List.take_of_length_le (by omega), List.take_of_length_le (by omega), show (256 : Nat) ^ 16 = 340282366920938463463374607431768211456 by decide, hd] at hv
    have hl := leN_lt (lsP TA TB 16)
    rw [lsP_length, hd, show (256 : Nat) ^ 16 = 340282366920938463463374607431768211456 by decide] at hl
    rw [ta, tb] at hv
    generalize accK x a = A at *
    generalize accK x b = B at *
    generalize brK TA TB 16 = q at *
    generalize leN d = D at *
    clear ta tb ea eb
    unfold PP at lb
    unfold QQ
    omega
end Go.Proofs.Ytikopoimoaddhaa
