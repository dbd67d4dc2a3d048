/- A sum that is made bit by bit, plain. No condition. -/
import Derived.Test.YtlhedoodbadmgaaSha1
import Derived.Test.YtlhedoodbadmgaaSymLR
namespace Go.Proofs.Ytlhedoodbadmgaa
open Go.RowKit
set_option maxRecDepth 100000
structure HSt where
  h : List (BitVec 32)
  B : List (BitVec 8)
  n : Nat
def HSt.ok (x : HSt) : Prop := x.h.length = 8 ∧ x.B.length = 64
def zer8 : List (BitVec 32) := List.replicate 8 0#32
def HSt.live (x : HSt) : Prop := ¬ (x.h = zer8 ∧ x.n = 0)
/-- How many bytes go into the block that is being filled. -/
def HSt.m (x : HSt) (d : List (BitVec 8)) : Nat := min d.length (64 - x.n % 64)
def HSt.fill (x : HSt) (d : List (BitVec 8)) : List (BitVec 8) := x.B.take (x.n % 64) ++ (d.take (x.m d) ++ x.B.drop (x.n % 64 + x.m d))
def HSt.step (x : HSt) (d : List (BitVec 8)) : HSt := ⟨if (x.n + x.m d) % 64 = 0 then compL x.h (x.fill d) else x.h, x.fill d, x.n + x.m d⟩
def wr : Nat → HSt → List (BitVec 8) → HSt
  | 0, x, _ => x
  | f + 1, x, d => match d with
    | [] => x
    | a :: t => wr f (x.step (a :: t)) ((a :: t).drop (x.m (a :: t)))
def wrD (x : HSt) (d : List (BitVec 8)) : HSt := wr d.length x d
theorem wr_nil (f : Nat) (x : HSt) : wr f x [] = x := by cases f <;> rfl
theorem HSt.m_le (x : HSt) (d : List (BitVec 8)) : x.m d ≤ d.length := Nat.min_le_left _ _
theorem HSt.m_pos (x : HSt) (d : List (BitVec 8)) (h : 0 < d.length) : 0 < x.m d := by unfold HSt.m; omega
theorem wr_more : ∀ (f : Nat) (x : HSt) (d : List (BitVec 8)), d.length ≤ f → wr f x d = wrD x d := by
  intro f
  induction f using Nat.strongRecOn with
  | _ f ih =>
    intro x d hd
    cases d with
    | nil => rw [wr_nil]; rfl
    | cons a t =>
      have hp := x.m_pos (a :: t) (by simp)
      have hl : ((a :: t).drop (x.m (a :: t))).length ≤ t.length := by rw [List.length_drop]; simp; omega
      match f, hd with
      | f + 1, hd =>
        unfold wrD
        simp only [List.length_cons] at hd ⊢
        simp only [wr]
        rw [ih f (by omega) _ _ (by omega)]
        rcases Nat.lt_or_ge t.length (f + 1) with h | h
        · rw [ih t.length h _ _ hl]
        · omega
theorem wrD_nil (x : HSt) : wrD x [] = x := rfl
theorem wrD_step (x : HSt) (d : List (BitVec 8)) (h : 0 < d.length) : wrD (x.step d) (d.drop (x.m d)) = wrD x d := by
  cases d with
  | nil => simp at h
  | cons a t =>
    have hp := x.m_pos (a :: t) (by simp)
    show _ = wr (t.length + 1) x (a :: t)
    simp only [wr]
    rw [wr_more _ _ _ (by rw [List.length_drop]; simp; omega)]
theorem HSt.fill_length (x : HSt) (d : List (BitVec 8)) (h : x.B.length = 64) : (x.fill d).length = 64 := by
  unfold HSt.fill HSt.m
  simp [h]
  omega
theorem compL_length (h : List (BitVec 32)) (B : List (BitVec 8)) (hh : h.length = 8) : (compL h B).length = 8 := compK_length _ _ _ hh
theorem HSt.step_ok (x : HSt) (d : List (BitVec 8)) (h : x.ok) : (x.step d).ok := by
  refine ⟨?_, x.fill_length d h.2⟩
  show (if (x.n + x.m d) % 64 = 0 then compL x.h (x.fill d) else x.h).length = 8
  split
  · exact compL_length _ _ h.1
  · exact h.1
theorem wr_ok : ∀ (f : Nat) (x : HSt) (d : List (BitVec 8)), x.ok → (wr f x d).ok
  | 0, x, d, h => h
  | f + 1, x, [], h => h
  | f + 1, x, a :: t, h => wr_ok f _ _ (x.step_ok _ h)
theorem wrD_ok (x : HSt) (d : List (BitVec 8)) (h : x.ok) : (wrD x d).ok := wr_ok _ _ _ h
theorem wr_n : ∀ (f : Nat) (x : HSt) (d : List (BitVec 8)), d.length ≤ f → (wr f x d).n = x.n + d.length
  | 0, x, d, h => by have : d.length = 0 := by omega
                     simp [wr, this]
  | f + 1, x, [], h => rfl
  | f + 1, x, a :: t, h => by
    have hp := x.m_pos (a :: t) (by simp)
    have hm := x.m_le (a :: t)
    simp only [wr]
    rw [wr_n f _ _ (by rw [List.length_drop]; simp at h ⊢; omega)]
    show x.n + x.m (a :: t) + _ = _
    rw [List.length_drop]
    omega
theorem wrD_n (x : HSt) (d : List (BitVec 8)) : (wrD x d).n = x.n + d.length := wr_n _ _ _ (Nat.le_refl _)
def wrAll (x : HSt) (ds : List (List (BitVec 8))) : HSt := ds.foldl wrD x
theorem wrAll_take (x : HSt) (ds : List (List (BitVec 8))) (i : Nat) (d : List (BitVec 8)) (h : ds[i]? = some d) : wrAll x (ds.take (i + 1)) = wrD (wrAll x (ds.take i)) d := by
  rw [List.take_add_one, h]; simp [wrAll]
theorem wrAll_ok (x : HSt) : ∀ (ds : List (List (BitVec 8))), x.ok → (wrAll x ds).ok := by
  intro ds
  induction ds generalizing x with
  | nil => exact id
  | cons d ds ih => intro h; exact ih _ (wrD_ok x d h)
theorem wrAll_n (x : HSt) (ds : List (List (BitVec 8))) : (wrAll x ds).n = x.n + ds.flatten.length := by
  induction ds generalizing x with
  | nil => rfl
  | cons d ds ih =>
    show (wrAll (wrD x d) ds).n = _
    rw [ih, wrD_n]
    simp
    omega
/-! ### what it stands for -/
def iv8 : List (BitVec 32) := [0x6a09e667#32, 0xbb67ae85#32, 0x3c6ef372#32, 0xa54ff53a#32, 0x510e527f#32, 0x9b05688c#32, 0x1f83d9ab#32, 0x5be0cd19#32]
/-- k blocks of a message, taken in. -/
def fB (msg : List (BitVec 8)) : Nat → List (BitVec 32)
  | 0 => iv8
  | k + 1 => compL (fB msg k) ((msg.drop (64 * k)).take 64)
theorem fB_app (msg e : List (BitVec 8)) (k : Nat) (h : 64 * k ≤ msg.length) : fB (msg ++ e) k = fB msg k := by
  induction k with
  | zero => rfl
  | succ k ih =>
    rw [fB, fB, ih (by omega), List.drop_append_of_le_length (by omega), List.take_append_of_le_length (by rw [List.length_drop]; omega)]
structure Good (x : HSt) (msg : List (BitVec 8)) : Prop where
  ok : x.ok
  n : x.n = msg.length
  h : x.h = fB msg (msg.length / 64)
  B : x.B.take (msg.length % 64) = msg.drop (64 * (msg.length / 64))
theorem Good.live {x : HSt} {msg : List (BitVec 8)} (h : Good x msg) : x.live := by
  rintro ⟨h1, h2⟩
  have hm : msg = [] := List.eq_nil_of_length_eq_zero (by rw [← h.n]; exact h2)
  subst hm
  have : x.h = iv8 := h.h
  rw [h1] at this
  exact absurd this (by decide)
theorem Good.step {x : HSt} {msg : List (BitVec 8)} (h : Good x msg) (d : List (BitVec 8)) (hd : 0 < d.length) : Good (x.step d) (msg ++ d.take (x.m d)) := by
  have hB := h.ok.2
  have hn := h.n
  have hm := x.m_le d
  have hr : x.m d = min d.length (64 - msg.length % 64) := by unfold HSt.m; rw [hn]
  have hl : (msg ++ d.take (x.m d)).length = msg.length + x.m d := by rw [List.length_append, List.length_take]; omega
  have hq : 64 * (msg.length / 64) ≤ msg.length := by omega
  have hfl : x.fill d = (msg ++ d.take (x.m d)).drop (64 * (msg.length / 64)) ++ x.B.drop (msg.length % 64 + x.m d) := by
    unfold HSt.fill
    rw [hn, h.B, List.drop_append_of_le_length hq, List.append_assoc]
  have hdl : ((msg ++ d.take (x.m d)).drop (64 * (msg.length / 64))).length = msg.length % 64 + x.m d := by rw [List.length_drop, hl]; omega
  refine ⟨x.step_ok d h.ok, ?_, ?_, ?_⟩
  · show x.n + x.m d = _
    rw [hl, hn]
  · show (if (x.n + x.m d) % 64 = 0 then compL x.h (x.fill d) else x.h) = _
    rw [hl, hn]
    split
    · rename_i h0
      have hmz := x.m_pos d hd
      have hbn : x.B.drop (msg.length % 64 + x.m d) = [] := List.drop_of_length_le (by omega)
      rw [show (msg.length + x.m d) / 64 = msg.length / 64 + 1 by omega, fB, fB_app _ _ _ hq, ← h.h, hfl, hbn, List.append_nil]
      have h64 : ((msg ++ d.take (x.m d)).drop (64 * (msg.length / 64))).take 64 = (msg ++ d.take (x.m d)).drop (64 * (msg.length / 64)) := List.take_of_length_le (by omega)
      rw [h64]
    · rename_i h0
      rw [show (msg.length + x.m d) / 64 = msg.length / 64 by omega, fB_app _ _ _ hq]
      exact h.h
  · show (x.fill d).take _ = _
    rw [hl, hfl]
    by_cases hz : (msg.length + x.m d) % 64 = 0
    · rw [hz, List.take_zero, List.drop_of_length_le (by rw [hl]; omega)]
    · rw [show (msg.length + x.m d) % 64 = msg.length % 64 + x.m d by omega, show (msg.length + x.m d) / 64 = msg.length / 64 by omega, List.take_append_of_le_length (by omega), List.take_of_length_le (by omega)]
theorem good_wr : ∀ (f : Nat) {x : HSt} {msg : List (BitVec 8)} (d : List (BitVec 8)), d.length ≤ f → Good x msg → Good (wr f x d) (msg ++ d)
  | 0, x, msg, d, h, hg => by
    have : d = [] := List.eq_nil_of_length_eq_zero (by omega)
    subst this
    rw [List.append_nil]; exact hg
  | f + 1, x, msg, [], h, hg => by rw [List.append_nil]; exact hg
  | f + 1, x, msg, a :: t, h, hg => by
    have hp := x.m_pos (a :: t) (by simp)
    have := good_wr f ((a :: t).drop (x.m (a :: t))) (by rw [List.length_drop]; simp at h ⊢; omega) (hg.step (a :: t) (by simp))
    rw [List.append_assoc, List.take_append_drop] at this
    exact this
theorem Good.wrD {x : HSt} {msg : List (BitVec 8)} (h : Good x msg) (d : List (BitVec 8)) : Good (wrD x d) (msg ++ d) := good_wr _ d (Nat.le_refl _) h
theorem Good.wrAll {x : HSt} : ∀ {ds : List (List (BitVec 8))} {msg : List (BitVec 8)}, Good x msg → Good (wrAll x ds) (msg ++ ds.flatten) := by
  intro ds
  induction ds generalizing x with
  | nil => intro msg h; simpa [Go.Proofs.Ytlhedoodbadmgaa.wrAll] using h
  | cons d ds ih =>
    intro msg h
    have := ih (h.wrD d)
    simpa [Go.Proofs.Ytlhedoodbadmgaa.wrAll] using this
def new0 : HSt := ⟨iv8, List.replicate 64 0#8, 0⟩
theorem good_new : Good new0 [] := ⟨⟨rfl, rfl⟩, rfl, rfl, rfl⟩
/-! ### what stands behind a message, and its sum -/
def be8L (x : BitVec 64) : List (BitVec 8) := (List.range 8).map fun j => (x >>> (8 * (7 - j))).setWidth 8
def padL (n : Nat) : List (BitVec 8) := (128#8 :: List.replicate ((119 - n % 64) % 64) 0#8) ++ be8L (BitVec.ofNat 64 n <<< 3)
theorem padL_length (n : Nat) : (padL n).length = 1 + (119 - n % 64) % 64 + 8 := by simp [padL, be8L]; omega
def dgL (h : List (BitVec 32)) : List (BitVec 8) := (List.range 32).map fun i => (gt h (i / 4) >>> (24 - 8 * (i % 4))).setWidth 8
theorem dgL_length (h : List (BitVec 32)) : (dgL h).length = 32 := by simp [dgL]
def shaL (msg : List (BitVec 8)) : List (BitVec 8) := dgL (fB (msg ++ padL msg.length) ((msg ++ padL msg.length).length / 64))
theorem shaL_length (msg : List (BitVec 8)) : (shaL msg).length = 32 := dgL_length _
theorem Good.sum {x : HSt} {msg : List (BitVec 8)} (h : Good x msg) : dgL (Go.Proofs.Ytlhedoodbadmgaa.wrD x (padL x.n)).h = shaL msg := by
  rw [(h.wrD (padL x.n)).h, h.n]; rfl
end Go.Proofs.Ytlhedoodbadmgaa
