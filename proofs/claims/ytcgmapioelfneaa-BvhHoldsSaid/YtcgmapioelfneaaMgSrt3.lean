/- Sorting that keeps the order of equals, plainly: what is sorted and the same, key by key, is one row alone. No condition. A part of a row sorted by putting each number into its place: walked. No condition. Two sorted rows merged where one of them is a number alone: walked. No condition. Two sorted rows merged where the second of them is a number alone: walked. No condition. -/
import Derived.Test.YtcgmapioelfneaaMgSwp9
namespace Go.Proofs.Ytcgmapioelfneaa
open Go.RowKit
set_option maxRecDepth 100000
set_option maxHeartbeats 1000000
section
variable (key : Nat → Int)
def insK (x : Nat) : List Nat → List Nat
  | [] => [x]
  | y :: t => if key x < key y then x :: y :: t else y :: insK x t
def sortK (l : List Nat) : List Nat := l.foldl (fun acc x => insK key x acc) []
def SrtK (l : List Nat) : Prop := l.Pairwise fun a b => key a ≤ key b
def SameK (l l' : List Nat) : Prop := ∀ c : Int, (l.filter fun x => decide (key x = c)) = l'.filter fun x => decide (key x = c)
end
section
variable {key : Nat → Int}
theorem SameK.refl (l : List Nat) : SameK key l l := fun _ => rfl
theorem SameK.symm {l l' : List Nat} (h : SameK key l l') : SameK key l' l := fun c => (h c).symm
theorem SameK.trans {l l' l2 : List Nat} (h : SameK key l l') (h2 : SameK key l' l2) : SameK key l l2 := fun c => (h c).trans (h2 c)
theorem SameK.app {a a' b b' : List Nat} (h : SameK key a a') (h2 : SameK key b b') : SameK key (a ++ b) (a' ++ b') := fun c => by
  rw [List.filter_append, List.filter_append, h c, h2 c]
theorem SameK.turn {u v : List Nat} (h : ∀ x ∈ u, ∀ y ∈ v, key x ≠ key y) : SameK key (u ++ v) (v ++ u) := fun c => by
  rw [List.filter_append, List.filter_append]
  by_cases hu : ∃ x ∈ u, key x = c
  · obtain ⟨x, hx, rfl⟩ := hu
    have : (v.filter fun y => decide (key y = key x)) = [] := by
      rw [List.filter_eq_nil_iff]
      intro y hy
      simpa using fun e => h x hx y hy e.symm
    rw [this, List.append_nil, List.nil_append]
  · have : (u.filter fun y => decide (key y = c)) = [] := by
      rw [List.filter_eq_nil_iff]
      intro y hy
      simpa using fun e => hu ⟨y, hy, e⟩
    rw [this, List.append_nil, List.nil_append]
theorem SameK.mem {l l' : List Nat} (h : SameK key l l') {x : Nat} : x ∈ l ↔ x ∈ l' := by
  have e : ∀ l : List Nat, x ∈ l ↔ x ∈ l.filter fun y => decide (key y = key x) := fun l => by simp
  rw [e l, e l', h]
theorem SameK.perm {l l' : List Nat} (h : SameK key l l') : l.Perm l' := by
  rw [List.perm_iff_count]
  intro x
  rw [← List.count_filter (p := fun y => decide (key y = key x)) (l := l) (by simp), h, List.count_filter (by simp)]
theorem SameK.length {l l' : List Nat} (h : SameK key l l') : l.length = l'.length := h.perm.length_eq
theorem sorted_one {l l' : List Nat} (h : SrtK key l) (h' : SrtK key l') (hs : SameK key l l') : l = l' := by
  induction l generalizing l' with
  | nil => exact (List.eq_nil_of_length_eq_zero (by have := hs.length; simpa using this.symm)).symm
  | cons x t ih =>
    cases l' with
    | nil => have := hs.length; simp at this
    | cons y t' =>
      have hx := (List.pairwise_cons.1 h).1
      have hy := (List.pairwise_cons.1 h').1
      have h1 : key x ≤ key y := by
        rcases List.mem_cons.1 (hs.mem.2 (List.mem_cons_self (a := y) (l := t'))) with e | e
        · rw [e]; exact Int.le_refl _
        · exact hx y e
      have h2 : key y ≤ key x := by
        rcases List.mem_cons.1 (hs.mem.1 (List.mem_cons_self (a := x) (l := t))) with e | e
        · rw [e]; exact Int.le_refl _
        · exact hy x e
      have hk : key x = key y := by omega
      have h3 := hs (key y)
      simp only [List.filter_cons, hk, decide_true, if_true] at h3
      obtain ⟨rfl, h4⟩ := List.cons.inj h3
      rw [ih (List.pairwise_cons.1 h).2 (List.pairwise_cons.1 h').2 fun c => ?_]
      by_cases hc : key x = c
      · rw [← hc]; exact h4
      · have := hs c
        simpa [List.filter_cons, hc] using this
theorem ins_mid {x : Nat} : ∀ (s1 s2 : List Nat), (∀ y ∈ s1, key y ≤ key x) → (∀ y ∈ s2, key x < key y) → insK key x (s1 ++ s2) = s1 ++ x :: s2
  | [], [], _, _ => rfl
  | [], y :: t, _, h => by
    show (if key x < key y then x :: y :: t else y :: insK key x t) = _
    rw [if_pos (h y (by simp))]; rfl
  | y :: s1, s2, h, h2 => by
    show (if key x < key y then x :: y :: (s1 ++ s2) else y :: insK key x (s1 ++ s2)) = _
    rw [if_neg (by have := h y (by simp); omega), ins_mid s1 s2 (fun z hz => h z (by simp [hz])) h2]
    rfl
theorem ins_split (x : Nat) : ∀ (s : List Nat), SrtK key s → ∃ s1 s2, s = s1 ++ s2 ∧ (∀ y ∈ s1, key y ≤ key x) ∧ ∀ y ∈ s2, key x < key y
  | [], _ => ⟨[], [], rfl, by simp, by simp⟩
  | y :: s, h => by
    by_cases hy : key x < key y
    · refine ⟨[], y :: s, rfl, by simp, fun z hz => ?_⟩
      rcases List.mem_cons.1 hz with rfl | hz
      · exact hy
      · have := (List.pairwise_cons.1 h).1 z hz; omega
    · obtain ⟨s1, s2, rfl, h1, h2⟩ := ins_split x s (List.pairwise_cons.1 h).2
      refine ⟨y :: s1, s2, rfl, fun z hz => ?_, h2⟩
      rcases List.mem_cons.1 hz with rfl | hz
      · omega
      · exact h1 z hz
theorem ins_ok {x : Nat} {s : List Nat} (h : SrtK key s) : SrtK key (insK key x s) ∧ SameK key (insK key x s) (s ++ [x]) := by
  obtain ⟨s1, s2, rfl, h1, h2⟩ := ins_split x s h
  rw [ins_mid s1 s2 h1 h2]
  have hp := List.pairwise_append.1 h
  refine ⟨List.pairwise_append.2 ⟨hp.1, List.pairwise_cons.2 ⟨fun y hy => by have := h2 y hy; omega, hp.2.1⟩, fun a ha b hb => ?_⟩, ?_⟩
  · rcases List.mem_cons.1 hb with rfl | hb
    · exact h1 a ha
    · exact hp.2.2 a ha b hb
  · rw [show s1 ++ x :: s2 = s1 ++ ([x] ++ s2) by simp, List.append_assoc]
    exact (SameK.refl _).app (SameK.turn fun a ha b hb => by
      have e : a = x := by simpa using ha
      have := h2 b hb
      rw [e]; omega)
theorem sortK_snoc (l : List Nat) (x : Nat) : sortK key (l ++ [x]) = insK key x (sortK key l) := by simp [sortK]
theorem sortK_ok (l : List Nat) : SrtK key (sortK key l) ∧ SameK key (sortK key l) l := by
  suffices h : ∀ n, ∀ l : List Nat, l.length = n → SrtK key (sortK key l) ∧ SameK key (sortK key l) l from h _ l rfl
  intro n
  induction n with
  | zero => intro l hl; rw [List.eq_nil_of_length_eq_zero hl]; exact ⟨List.Pairwise.nil, SameK.refl _⟩
  | succ n ih =>
    intro l hl
    obtain ⟨t, x, rfl⟩ : ∃ t x, l = t ++ [x] := ⟨l.dropLast, l.getLast (by intro h; subst h; simp at hl), (List.dropLast_concat_getLast _).symm⟩
    obtain ⟨h1, h2⟩ := ih t (by simpa using hl)
    rw [sortK_snoc]
    obtain ⟨h3, h4⟩ := ins_ok (x := x) h1
    exact ⟨h3, h4.trans (h2.app (SameK.refl _))⟩
theorem sortK_len (l : List Nat) : (sortK key l).length = l.length := (sortK_ok l).2.length
theorem sortK_mem {l : List Nat} {x : Nat} : x ∈ sortK key l ↔ x ∈ l := (sortK_ok l).2.mem
theorem sortK_is {l r : List Nat} (h1 : SrtK key r) (h2 : SameK key r l) : r = sortK key l := sorted_one h1 (sortK_ok l).1 (h2.trans (sortK_ok l).2.symm)
theorem sortK_self {l : List Nat} (h : SrtK key l) : sortK key l = l := (sortK_is h (SameK.refl l)).symm
theorem SrtK.app {a b : List Nat} (h1 : SrtK key a) (h2 : SrtK key b) (h : ∀ x ∈ a, ∀ y ∈ b, key x ≤ key y) : SrtK key (a ++ b) := List.pairwise_append.2 ⟨h1, h2, h⟩
/-- A number put into its place, by pairs: what is behind is greater, what is right ahead is not. -/
theorem ins_at {s : List Nat} {x t : Nat} (hs : SrtK key s) (ht : t ≤ s.length) (h2 : ∀ y ∈ s.drop t, key x < key y) (h1 : t = 0 ∨ ¬ key x < key (gtN s (t - 1))) : insK key x s = s.take t ++ x :: s.drop t := by
  have e : insK key x (s.take t ++ s.drop t) = s.take t ++ x :: s.drop t := by
    refine ins_mid _ _ (fun y hy => ?_) h2
    rcases h1 with h1 | h1
    · subst h1; simp at hy
    · obtain ⟨i, hi, rfl⟩ := List.getElem_of_mem hy
      rw [List.length_take] at hi
      rw [List.getElem_take]
      have hl : gtN s (t - 1) = s[t - 1]'(by omega) := by
        unfold gtN; rw [List.getD_eq_getElem?_getD, List.getElem?_eq_getElem (by omega)]; rfl
      rw [hl] at h1
      by_cases hit : i = t - 1
      · subst hit; omega
      · have := List.pairwise_iff_getElem.1 hs i (t - 1) (by omega) (by omega) (by omega)
        omega
  rwa [List.take_append_drop] at e
end
end Go.Proofs.Ytcgmapioelfneaa
namespace Go.Proofs.Ytcgmapioelfneaa
open Go.RowKit
set_option maxRecDepth 100000
set_option maxHeartbeats 1000000
theorem gtN_app2 (A : List Nat) (B : List Nat) (j : Nat) : gtN (A ++ B) (A.length + j) = gtN B j := by
  simp only [gtN, List.getD_eq_getElem?_getD, List.getElem?_append]
  rw [if_neg (by omega)]
  congr 3
  omega
theorem gtN_app1 (A : List Nat) (B : List Nat) (j : Nat) (h : j < A.length) : gtN (A ++ B) j = gtN A j := by
  simp [gtN, List.getD, List.getElem?_append, h]
theorem gtN_lt {N : Nat} (h0 : 0 < N) {l : List Nat} (h : ∀ x ∈ l, x < N) (j : Nat) : gtN l j < N := by
  unfold gtN
  rw [List.getD_eq_getElem?_getD]
  cases hj : l[j]? with
  | none => exact h0
  | some x => exact h x (List.mem_of_getElem? hj)
theorem split_last (s : List Nat) (t : Nat) (h0 : 0 < t) (ht : t ≤ s.length) : s.take t = s.take (t - 1) ++ [gtN s (t - 1)] ∧ s.drop (t - 1) = gtN s (t - 1) :: s.drop t := by
  obtain ⟨k, rfl⟩ : ∃ k, t = k + 1 := ⟨t - 1, by omega⟩
  have hg : gtN s k = s[k]'(by omega) := by
    unfold gtN; rw [List.getD_eq_getElem?_getD, List.getElem?_eq_getElem (by omega)]; rfl
  simp only [Nat.add_sub_cancel]
  rw [hg]
  exact ⟨by rw [List.take_succ_eq_append_getElem], (List.getElem_cons_drop (by omega)).symm⟩
/-- A number on its way to its place. -/
def inL (P S R : List Nat) (x t : Nat) : List Nat := P ++ (S.take t ++ (x :: (S.drop t ++ R)))
theorem inL_step (P S R : List Nat) (x t : Nat) (h0 : 0 < t) (ht : t ≤ S.length) :
    gtN (inL P S R x t) (P.length + t) = x ∧ gtN (inL P S R x t) (P.length + t - 1) = gtN S (t - 1) ∧
    ((inL P S R x t).set (P.length + t) (gtN (inL P S R x t) (P.length + t - 1))).set (P.length + t - 1) (gtN (inL P S R x t) (P.length + t)) = inL P S R x (t - 1) := by
  obtain ⟨e1, e2⟩ := split_last S t h0 ht
  generalize gtN S (t - 1) = y at *
  have e3 : inL P S R x t = (P ++ S.take (t - 1)) ++ y :: (x :: (S.drop t ++ R)) := by unfold inL; rw [e1]; simp
  have e4 : inL P S R x t = (P ++ (S.take (t - 1) ++ [y])) ++ x :: (S.drop t ++ R) := by rw [e3]; simp
  have l1 : (P ++ S.take (t - 1)).length = P.length + t - 1 := by simp; omega
  have l2 : (P ++ (S.take (t - 1) ++ [y])).length = P.length + t := by simp; omega
  have g1 : gtN (inL P S R x t) (P.length + t) = x := by rw [e4]; exact gtN_at _ _ _ _ l2.symm
  have g2 : gtN (inL P S R x t) (P.length + t - 1) = y := by rw [e3]; exact gtN_at _ _ _ _ l1.symm
  refine ⟨g1, g2, ?_⟩
  rw [g1, g2, e4, set_atN _ _ _ _ _ l2.symm, show (P ++ (S.take (t - 1) ++ [y])) ++ y :: (S.drop t ++ R) = (P ++ S.take (t - 1)) ++ y :: (y :: (S.drop t ++ R)) by simp, set_atN _ _ _ _ _ l1.symm]
  unfold inL
  rw [e2]
  simp
theorem inL_len (P S R : List Nat) (x t : Nat) : (inL P S R x t).length = P.length + (S.length + 1 + R.length) := by
  unfold inL
  simp only [List.length_append, List.length_cons, List.length_take, List.length_drop]
  omega
attribute [local irreducible] Calls Walk1 WalkTo Tri EndA
theorem insSort_any (pre post : List Value) (P A Q : List Nat) (N cap p q b : Nat) (cv : Value) (w : World) (key : Nat → Int) (c : Nat → Nat → Int) (M : Nat) (hc : ∀ x y, x < M → y < M → (c x y < 0 ↔ key x < key y)) (hM : 0 < M) (hd : ∀ x ∈ P ++ (A ++ Q), x < M)
    (hp : p = P.length) (hq : q = P.length + A.length) (hN : N = P.length + A.length + Q.length) (hs : N ≤ 1099511627776) (hC : CmpOK w [b] cv M c)
    (hB : Blk w b (segA pre post (P ++ (A ++ Q))) 3) :
    Calls Try.prog 44 #[.slice (some ⟨b, pre.length, none⟩) N cap, .int .i64 ((p : Nat) : Int), .int .i64 ((q : Nat) : Int), cv] w (RetP w b 3 (segA pre post (P ++ (sortK key A ++ Q))) (.tuple #[])) := by
  obtain ⟨L, hL⟩ : ∃ L : Nat → List Nat, ∀ k, L k = P ++ (sortK key (A.take k) ++ (A.drop k ++ Q)) := ⟨_, fun _ => rfl⟩
  have hL1 : L 1 = P ++ (A ++ Q) := by
    rw [hL]
    cases A with
    | nil => rfl
    | cons x t => rfl
  have hLe : ∀ k, A.length ≤ k → L k = P ++ (sortK key A ++ Q) := fun k h => by rw [hL, List.take_of_length_le h, List.drop_of_length_le h]; rfl
  rw [← hL1] at hB
  rw [← hLe (max 1 A.length) (by omega)]
  have hdS : ∀ x ∈ P ++ (A ++ Q), x < M := hd
  have step : ∀ k, 1 ≤ k → k < A.length → ∃ S x R, L k = inL P S R x k ∧ S.length = k ∧ SrtK key S ∧ (∀ t, t ≤ k → (∀ y ∈ S.drop t, key x < key y) → (t = 0 ∨ ¬ key x < key (gtN S (t - 1))) → inL P S R x t = L (k + 1)) ∧ (∀ t, (inL P S R x t).length = N) ∧ x < M ∧ (∀ y ∈ S, y < M) ∧ ∀ t, ∀ y ∈ inL P S R x t, y < M := by
    intro k h1 h2
    obtain ⟨A1, x, A2, rfl, hA1⟩ := split_at A k h2
    have t1 : (A1 ++ x :: A2).take k = A1 := by subst hA1; simp
    have t2 : (A1 ++ x :: A2).drop k = x :: A2 := by subst hA1; simp
    have t3 : (A1 ++ x :: A2).take (k + 1) = A1 ++ [x] := by subst hA1; rw [List.take_length_add_append]; rfl
    have t4 : (A1 ++ x :: A2).drop (k + 1) = A2 := by subst hA1; rw [List.drop_length_add_append]; rfl
    have hsl : (sortK key A1).length = k := by rw [sortK_len, hA1]
    have hdx : x < M := hd x (by simp)
    have hdS : ∀ y ∈ sortK key A1, y < M := fun y hy => hd y (by simp [sortK_mem.1 hy])
    refine ⟨sortK key A1, x, A2 ++ Q, ?_, hsl, (sortK_ok A1).1, ?_, ?_, hdx, hdS, ?_⟩
    · rw [hL, t1, t2]; unfold inL; rw [List.take_of_length_le (by omega), List.drop_of_length_le (by omega)]; rfl
    · intro t ht h3 h4
      rw [hL, t3, t4, sortK_snoc, ins_at (sortK_ok A1).1 (by omega) h3 h4]
      unfold inL
      simp
    · intro t; rw [inL_len, hsl, hN]; simp; omega
    · intro t y hy
      unfold inL at hy
      simp only [List.mem_append, List.mem_cons] at hy
      rcases hy with hy | hy | hy | hy | hy | hy
      · exact hd y (by simp [hy])
      · exact hdS y (List.mem_of_mem_take hy)
      · rw [hy]; exact hdx
      · exact hdS y (List.mem_of_mem_drop hy)
      · exact hd y (by simp [hy])
      · exact hd y (by simp [hy])
  clear hL hL1 hLe hd hdS
  have hA0 : q = p + A.length := by omega
  have hqN : q ≤ N := by omega
  rw [show max 1 A.length = max 1 (q - p) by omega]
  generalize A.length = n at *
  have hpl := hp
  clear hN hq
  refine calls_triI hB Try.func44 rfl Try.ntmps44 rfl ?_
  repeat (first | (show Walk1 _ _ _ (_ :: _) _ _; first | (show HW1 (.move _); refine wz1 ?_) | (show HW1 (.assign _); refine wz2 ?_) | (show HW1 (.binOp .add _ _ _ _); refine wz10 ?_)) | refine go1 ?_ | refine end_block_other rfl ?_ | refine end_scope (fun _ h => by cases h) ?_ | (refine walk_endD ?_ ?_; (· kernel_rfl)) | refine tri_yesA rfl ?_ | refine tri_noA rfl ?_ | refine tri_trueA rfl ?_ | refine tri_falseA rfl ?_)
  refine tri_loop (X := Nat) (fun k => ⟨[(8, SV.c (.int .i64 ((p + k : Nat) : Int))), (0, .c (.slice (some ⟨b, pre.length, none⟩) N cap)), (1, SV.c (.int .i64 ((p : Nat) : Int))), (2, SV.c (.int .i64 ((q : Nat) : Int))), (3, .c cv)], [(1000, some (.blk 1000 3 (.c (segA pre post (L k))))), (1001, some (.is 1000 b))]⟩)
    (fun k => 1 ≤ k ∧ k ≤ max 1 n) (fun k => max 1 n - k) 1 (by omega) (by exact ent_kp) ?_
  intro k hk K next
  by_cases h : k < n
  · obtain ⟨S, x, R, e1, hSl, hSs, hfin, hlen, hxM, hSM, hdM⟩ := step k hk.1 h
    have nx := fun S' => next S' (k + 1)
    rw [e1]
    have hst := fun t h0 ht => inL_step P S R x t h0 ht
    rw [← hp] at hst
    obtain ⟨g, hg⟩ : ∃ g : Nat → Nat, ∀ t, g t = gtN S (t - 1) := ⟨_, fun _ => rfl⟩
    have hgM : ∀ t, g t < M := fun t => by rw [hg]; exact gtN_lt hM hSM _
    simp only [← hg] at hst hfin
    have hdrop : ∀ t, 0 < t → t ≤ k → (∀ y ∈ S.drop t, key x < key y) → key x < key (g t) → ∀ y ∈ S.drop (t - 1), key x < key y := by
      intro t h0 ht h3 h4 y hy
      rw [(split_last S t h0 (by omega)).2, ← hg] at hy
      rcases List.mem_cons.1 hy with rfl | hy
      · exact h4
      · exact h3 y hy
    have hdk : ∀ y ∈ S.drop k, key x < key y := by
      rw [List.drop_of_length_le (by omega)]; simp
    rw [hSl] at hst
    generalize hGt : (fun t => ∀ y ∈ S.drop t, key x < key y) = G
    have eG : ∀ t, (∀ y ∈ S.drop t, key x < key y) = G t := fun t => by rw [← hGt]
    simp only [eG] at hfin hdrop hdk
    clear next step e1 hg hSM hSs eG hGt hSl
    generalize inL P S R x = I at *
    repeat (first | (show Walk1 _ _ _ (_ :: _) _ _; first | (show HW1 (.move _); refine wz1 ?_) | (show HW1 (.assign _); refine wz2 ?_) | (show HW1 (.binOp .lss _ _ _ _); refine wz5 ?_)) | refine go1 ?_ | refine end_block_other rfl ?_ | refine end_scope (fun _ h => by cases h) ?_ | (refine walk_endD ?_ ?_; (· kernel_rfl)) | refine tri_yesA rfl ?_ | refine tri_noA rfl ?_ | refine tri_trueA rfl ?_ | refine tri_falseA rfl ?_)
    refine tri_loop (X := Nat) (fun t => ⟨[(9, SV.c (.int .i64 ((p + t : Nat) : Int))), (8, SV.c (.int .i64 ((p + k : Nat) : Int))), (0, .c (.slice (some ⟨b, pre.length, none⟩) N cap)), (1, SV.c (.int .i64 ((p : Nat) : Int))), (2, SV.c (.int .i64 ((q : Nat) : Int))), (3, .c cv)], [(1000, some (.blk 1000 3 (.c (segA pre post (I t))))), (1001, some (.is 1000 b))]⟩)
      (fun t => t ≤ k ∧ G t) (fun t => t) k ⟨Nat.le_refl _, hdk⟩ (by exact ent_kp) ?_
    intro t ht K2 next
    have hlt := hlen t
    by_cases h0 : t = 0
    · subst h0
      have e1 := hfin 0 (by omega) ht.2 (.inl rfl)
      rw [e1] at hlt ⊢
      clear next hst hfin hdrop hdk hlen hdM hgM
      generalize L (k + 1) = L1 at *
      repeat (first | (show Walk1 _ _ _ (_ :: _) _ _; first | (show HW1 (.move _); refine wz1 ?_) | (show HW1 (.assign _); refine wz2 ?_) | (show HW1 (.binOp .add _ _ _ _); refine wz10 ?_)) | (show WalkTo _ _ _ _ (_ :: _) _ _ _; first | (show WalkTo _ _ _ _ (⟨_, _, _, _, _, some _⟩ :: _) _ _ _; refine zn2 ?_) | (show HW2 (.move _); refine wz20 ?_) | (show HW2 (.binOp .gtr _ _ _ _); refine wz112 ?_) | (show HW2 (.pick _ _ _); refine wz91 ?_)) | refine go1 ?_ | refine end_block_other rfl ?_ | refine end_scope (fun _ h => by cases h) ?_ | (refine walk_endD ?_ ?_; (· kernel_rfl)) | refine tri_yesA rfl ?_ | refine tri_noA rfl ?_ | refine tri_trueA rfl ?_ | refine tri_falseA rfl ?_)
      exact nx _ (by omega) (by omega) (by exact ent_kp)
    · obtain ⟨s1, s2, s3⟩ := hst t (by omega) ht.1
      have hgt := hgM t
      have hcc := hc x (g t) hxM hgt
      by_cases h1 : key x < key (g t)
      · have nx2 := fun S' => next S' (t - 1)
        have hG := hdrop t (by omega) ht.1 ht.2 h1
        have hcx : c x (g t) < 0 := hcc.2 h1
        rw [← s3] at nx2
        rw [← s1, ← s2] at hcx
        have d1 : gtN (I t) (p + t) < M := by rw [s1]; exact hxM
        have d2 : gtN (I t) (p + t - 1) < M := by rw [s2]; exact hgt
        clear next nx hst hfin hdrop hdk hlen hdM hgM s1 s2 s3 hcc hc
        generalize I t = It at *
        repeat (first | (show Walk1 _ _ _ (_ :: _) _ _; first | (show HW1 (.move _); refine wz1 ?_) | (show HW1 (.assign _); refine wz2 ?_) | (show HW1 (.binOp .sub _ _ _ _); refine wz35 ?_)) | (show WalkTo _ _ _ _ (_ :: _) _ _ _; first | (show WalkTo _ _ _ _ (⟨_, _, _, _, _, some _⟩ :: _) _ _ _; refine zy2 ?_) | (show HW2 (.move _); refine wz20 ?_) | (show HW2 (.binOp .sub _ _ _ _); refine wz72 ?_) | (show HW2 (.binOp .lss _ _ _ _); refine wz56 ?_) | (show HW2 (.binOp .gtr _ _ _ _); refine wz112 ?_) | (show HW2 (.pick _ _ _); refine wz90 ?_) | (show HW2 (.indexAddr _ _ _); refine wz55 ?_) | (show HW2 (.load _ _); refine wz54 ?_) | (show HW2 (.store _ _ _); refine wz89 ?_) | (show HW2 (.call ⟨.value (.tmp _), _, _⟩); refine wz94 ?_)) | refine go1 ?_ | refine end_block_other rfl ?_ | refine end_scope (fun _ h => by cases h) ?_ | (refine walk_endD ?_ ?_; (· kernel_rfl)) | refine tri_yesA rfl ?_ | refine tri_noA rfl ?_ | refine tri_trueA rfl ?_ | refine tri_falseA rfl ?_)
        exact nx2 _ ⟨by omega, hG⟩ (by omega) (by exact ent_kp)
      · have e1 := hfin t ht.1 ht.2 (.inr h1)
        have hcx : ¬ c x (g t) < 0 := fun h => h1 (hcc.1 h)
        rw [← s1, ← s2] at hcx
        have d1 : gtN (I t) (p + t) < M := by rw [s1]; exact hxM
        have d2 : gtN (I t) (p + t - 1) < M := by rw [s2]; exact hgt
        rw [← e1] at nx
        clear next hst hfin hdrop hdk hlen hdM hgM s1 s2 s3 hcc hc e1
        generalize I t = It at *
        repeat (first | (show Walk1 _ _ _ (_ :: _) _ _; first | (show HW1 (.move _); refine wz1 ?_) | (show HW1 (.assign _); refine wz2 ?_) | (show HW1 (.binOp .add _ _ _ _); refine wz10 ?_)) | (show WalkTo _ _ _ _ (_ :: _) _ _ _; first | (show WalkTo _ _ _ _ (⟨_, _, _, _, _, some _⟩ :: _) _ _ _; refine zy2 ?_) | (show HW2 (.move _); refine wz20 ?_) | (show HW2 (.binOp .sub _ _ _ _); refine wz72 ?_) | (show HW2 (.binOp .lss _ _ _ _); refine wz56 ?_) | (show HW2 (.binOp .gtr _ _ _ _); refine wz112 ?_) | (show HW2 (.pick _ _ _); refine wz90 ?_) | (show HW2 (.indexAddr _ _ _); refine wz55 ?_) | (show HW2 (.load _ _); refine wz54 ?_) | (show HW2 (.call ⟨.value (.tmp _), _, _⟩); refine wz94 ?_)) | refine go1 ?_ | refine end_block_other rfl ?_ | refine end_scope (fun _ h => by cases h) ?_ | (refine walk_endD ?_ ?_; (· kernel_rfl)) | refine tri_yesA rfl ?_ | refine tri_noA rfl ?_ | refine tri_trueA rfl ?_ | refine tri_falseA rfl ?_)
        exact nx _ (by omega) (by omega) (by exact ent_kp)
  · obtain rfl : k = max 1 n := by omega
    clear next step
    have e1 : max 1 n = max 1 (q - p) := by omega
    rw [← e1]
    generalize L (max 1 n) = L1 at *
    repeat (first | (show Walk1 _ _ _ (_ :: _) _ _; first | (show HW1 (.move _); refine wz1 ?_) | (show HW1 (.binOp .lss _ _ _ _); refine wz5 ?_)) | refine go1 ?_ | refine end_block_other rfl ?_ | refine end_scope (fun _ h => by cases h) ?_ | (refine walk_endD ?_ ?_; (· kernel_rfl)) | refine tri_yesA rfl ?_ | refine tri_noA rfl ?_ | refine tri_trueA rfl ?_ | refine tri_falseA rfl ?_)
    refine end_normal _ (res_none rfl) ?_
    exact fin_obj rfl rfl (fun _ => rfl) (fun _ => rfl)
end Go.Proofs.Ytcgmapioelfneaa
namespace Go.Proofs.Ytcgmapioelfneaa
open Go.RowKit
set_option maxRecDepth 100000
set_option maxHeartbeats 1000000
theorem inL_up (P S R : List Nat) (x t : Nat) (ht : t < S.length) :
    gtN (inL P S R x t) (P.length + t) = x ∧ gtN (inL P S R x t) (P.length + t + 1) = gtN S t ∧
    ((inL P S R x t).set (P.length + t) (gtN (inL P S R x t) (P.length + t + 1))).set (P.length + t + 1) (gtN (inL P S R x t) (P.length + t)) = inL P S R x (t + 1) := by
  obtain ⟨e1, e2⟩ := split_last S (t + 1) (by omega) (by omega)
  simp only [Nat.add_sub_cancel] at e1 e2
  generalize gtN S t = y at *
  have e3 : inL P S R x t = (P ++ S.take t) ++ x :: (y :: (S.drop (t + 1) ++ R)) := by unfold inL; rw [e2]; simp
  have e4 : inL P S R x t = (P ++ (S.take t ++ [x])) ++ y :: (S.drop (t + 1) ++ R) := by rw [e3]; simp
  have l1 : (P ++ S.take t).length = P.length + t := by simp; omega
  have l2 : (P ++ (S.take t ++ [x])).length = P.length + t + 1 := by simp; omega
  have g1 : gtN (inL P S R x t) (P.length + t) = x := by rw [e3]; exact gtN_at _ _ _ _ l1.symm
  have g2 : gtN (inL P S R x t) (P.length + t + 1) = y := by rw [e4]; exact gtN_at _ _ _ _ l2.symm
  refine ⟨g1, g2, ?_⟩
  rw [g1, g2, e3, set_atN _ _ _ _ _ l1.symm, show (P ++ S.take t) ++ y :: (y :: (S.drop (t + 1) ++ R)) = (P ++ (S.take t ++ [y])) ++ y :: (S.drop (t + 1) ++ R) by simp, set_atN _ _ _ _ _ (by simp; omega)]
  unfold inL
  rw [e1]
  simp
theorem srt_gt {key : Nat → Int} {l : List Nat} (h : SrtK key l) {i j : Nat} (hij : i ≤ j) (hj : j < l.length) : key (gtN l i) ≤ key (gtN l j) := by
  unfold gtN
  rw [List.getD_eq_getElem?_getD, List.getD_eq_getElem?_getD, List.getElem?_eq_getElem (by omega), List.getElem?_eq_getElem hj]
  by_cases he : i = j
  · subst he; exact Int.le_refl _
  · exact List.pairwise_iff_getElem.1 h i j (by omega) hj (by omega)
theorem mem_take_gt {l : List Nat} {t y : Nat} (h : y ∈ l.take t) : ∃ i, i < t ∧ i < l.length ∧ y = gtN l i := by
  obtain ⟨i, hi, rfl⟩ := List.getElem_of_mem h
  rw [List.length_take] at hi
  refine ⟨i, by omega, by omega, ?_⟩
  unfold gtN
  rw [List.getElem_take, List.getD_eq_getElem?_getD, List.getElem?_eq_getElem (by omega)]
  rfl
theorem mem_drop_gt {l : List Nat} {t y : Nat} (h : y ∈ l.drop t) : ∃ i, t ≤ i ∧ i < l.length ∧ y = gtN l i := by
  obtain ⟨i, hi, rfl⟩ := List.getElem_of_mem h
  rw [List.length_drop] at hi
  refine ⟨t + i, by omega, by omega, ?_⟩
  unfold gtN
  rw [List.getElem_drop, List.getD_eq_getElem?_getD, List.getElem?_eq_getElem (by omega)]
  rfl
attribute [local irreducible] Calls Walk1 WalkTo Tri EndA
theorem symM_one (pre post : List Value) (P : List Nat) (x : Nat) (B Q : List Nat) (N cap p m e b : Nat) (cv : Value) (w : World) (key : Nat → Int) (c : Nat → Nat → Int) (M : Nat) (hc : ∀ x y, x < M → y < M → (c x y < 0 ↔ key x < key y)) (hM : 0 < M) (hd : ∀ y ∈ P ++ (x :: (B ++ Q)), y < M)
    (hp : p = P.length) (hm : m = p + 1) (he : e = m + B.length) (hN : N = e + Q.length) (hs : N ≤ 1099511627776) (hC : CmpOK w [b] cv M c) (hS : SrtK key B)
    (hB : Blk w b (segA pre post (P ++ (x :: (B ++ Q)))) 3) :
    Calls Try.prog 45 #[.slice (some ⟨b, pre.length, none⟩) N cap, .int .i64 ((p : Nat) : Int), .int .i64 ((m : Nat) : Int), .int .i64 ((e : Nat) : Int), cv] w (RetP w b 3 (segA pre post (P ++ (sortK key (x :: B) ++ Q))) (.tuple #[])) := by
  obtain ⟨L0, hL0⟩ : ∃ l, l = P ++ (x :: (B ++ Q)) := ⟨_, rfl⟩
  have e0 : inL P B Q x 0 = L0 := by rw [hL0]; unfold inL; simp
  have gx : gtN L0 p = x := by rw [hL0]; exact gtN_at _ _ _ _ hp
  have gB : ∀ u, u < B.length → gtN L0 (m + u) = gtN B u := fun u hu => by
    rw [hL0, show P ++ (x :: (B ++ Q)) = (P ++ [x]) ++ (B ++ Q) by simp, show m + u = (P ++ [x]).length + u by simp; omega, gtN_app2, gtN_app1 _ _ _ hu]
  have hsrt : ∀ s s', m ≤ s → s ≤ s' → s' < e → key (gtN L0 s) ≤ key (gtN L0 s') := fun s s' h1 h2 h3 => by
    rw [show s = m + (s - m) by omega, show s' = m + (s' - m) by omega, gB _ (by omega), gB _ (by omega)]
    exact srt_gt hS (by omega) (by omega)
  have hdg : ∀ j, gtN L0 j < M := fun j => gtN_lt hM (by rw [hL0]; exact hd) j
  have hlen0 : L0.length = N := by rw [hL0]; simp; omega
  have hfin : ∀ i, m ≤ i → i ≤ e → (∀ s, m ≤ s → s < i → key (gtN L0 s) < key x) → (∀ s, i ≤ s → s < e → ¬ key (gtN L0 s) < key x) → inL P B Q x (i - m) = P ++ (sortK key (x :: B) ++ Q) := by
    intro i h1 h2 h3 h4
    have b1 : ∀ y ∈ B.take (i - m), key y < key x := fun y hy => by
      obtain ⟨u, hu1, hu2, rfl⟩ := mem_take_gt hy
      have := h3 (m + u) (by omega) (by omega)
      rwa [gB u hu2] at this
    have b2 : ∀ y ∈ B.drop (i - m), key x ≤ key y := fun y hy => by
      obtain ⟨u, hu1, hu2, rfl⟩ := mem_drop_gt hy
      have := h4 (m + u) (by omega) (by omega)
      rw [gB u hu2] at this
      omega
    have hss := List.pairwise_append.1 (by rw [List.take_append_drop]; exact hS : SrtK key (B.take (i - m) ++ B.drop (i - m)))
    have hR : B.take (i - m) ++ ([x] ++ B.drop (i - m)) = sortK key (x :: B) := by
      refine sortK_is (SrtK.app hss.1 (List.pairwise_cons.2 ⟨b2, hss.2.1⟩) fun u hu v hv => ?_) ?_
      · rcases List.mem_cons.1 hv with rfl | hv
        · have := b1 u hu; omega
        · exact hss.2.2 u hu v hv
      · have : SameK key (B.take (i - m) ++ ([x] ++ B.drop (i - m))) ([x] ++ (B.take (i - m) ++ B.drop (i - m))) := by
          rw [← List.append_assoc, ← List.append_assoc]
          exact (SameK.turn fun u hu v hv => by
            have e : v = x := by simpa using hv
            have := b1 u hu
            rw [e]; omega).app (SameK.refl _)
        rw [List.take_append_drop] at this
        exact this
    rw [← hR]
    unfold inL
    simp
  have heN : e ≤ N := by omega
  have hme : m ≤ e := by omega
  have hup := fun t ht => (inL_up P B Q x t ht).2.2
  have hlen := fun t => inL_len P B Q x t
  rw [show P.length + (B.length + 1 + Q.length) = N by omega] at hlen
  rw [← hp] at hup
  have hBl : B.length = e - m := by omega
  rw [hBl] at hup
  generalize P ++ (sortK key (x :: B) ++ Q) = LF at *
  rw [← hL0] at hB
  clear hL0 gB hd hp hN hS hBl he
  generalize inL P B Q x = I at *
  clear P B Q
  refine calls_triI hB Try.func45 rfl Try.ntmps45 rfl ?_
  repeat (first | (show Walk1 _ _ _ (_ :: _) _ _; first | (show HW1 (.move _); refine wz1 ?_) | (show HW1 (.assign _); refine wz2 ?_) | (show HW1 (.binOp .sub _ _ _ _); refine wz35 ?_) | (show HW1 (.binOp .eql _ _ _ _); refine wz30 ?_)) | refine go1 ?_ | refine end_block_other rfl ?_ | refine end_scope (fun _ h => by cases h) ?_ | (refine walk_endD ?_ ?_; (· kernel_rfl)) | refine tri_yesA rfl ?_ | refine tri_noA rfl ?_ | refine tri_trueA rfl ?_ | refine tri_falseA rfl ?_)
  refine tri_loop (X := Nat × Nat) (fun z => ⟨[(11, SV.c (.int .i64 ((z.2 : Nat) : Int))), (10, SV.c (.int .i64 ((z.1 : Nat) : Int))), (0, .c (.slice (some ⟨b, pre.length, none⟩) N cap)), (1, SV.c (.int .i64 ((p : Nat) : Int))), (2, SV.c (.int .i64 ((m : Nat) : Int))), (3, SV.c (.int .i64 ((e : Nat) : Int))), (4, .c cv)], [(1000, some (.blk 1000 3 (.c (segA pre post L0)))), (1001, some (.is 1000 b))]⟩)
    (fun z => m ≤ z.1 ∧ z.1 ≤ z.2 ∧ z.2 ≤ e ∧ (∀ s, m ≤ s → s < z.1 → key (gtN L0 s) < key x) ∧ (∀ s, z.2 ≤ s → s < e → ¬ key (gtN L0 s) < key x)) (fun z => z.2 - z.1) (m, e) ⟨by omega, by omega, by omega, fun s h1 h2 => by omega, fun s h1 h2 => by omega⟩ (by exact ent_kp) ?_
  rintro ⟨i, j⟩ ⟨h1, h2, h3, h4, h5⟩ K next
  dsimp only at h1 h2 h3 h4 h5 next ⊢
  by_cases h : i < j
  · have d1 := hdg ((i + j) / 2)
    have d2 := hdg p
    have hcc := hc _ _ d1 d2
    rw [gx] at hcc
    have nx1 := fun S' => next S' ((i + j) / 2 + 1, j)
    have nx2 := fun S' => next S' (i, (i + j) / 2)
    have hxp := gx
    clear next hup hlen hfin
    by_cases hk : key (gtN L0 ((i + j) / 2)) < key x
    · have hcx := hcc.2 hk
      rw [← gx] at hcx
      repeat (first | (show Walk1 _ _ _ (_ :: _) _ _; first | (show HW1 (.move _); refine wz1 ?_) | (show HW1 (.assign _); refine wz2 ?_) | (show HW1 (.binOp .add _ _ _ _); refine wz10 ?_) | (show HW1 (.binOp .lss _ _ _ _); refine wz5 ?_) | (show HW1 (.binOp .shr _ _ _ _); refine wz68 ?_) | (show HW1 (.convert _ _ _); first | refine wz66 ?_ | refine wz65 ?_)) | (show WalkTo _ _ _ _ (_ :: _) _ _ _; first | (show HW2 (.move _); refine wz20 ?_) | (show HW2 (.binOp .lss _ _ _ _); refine wz56 ?_) | (show HW2 (.indexAddr _ _ _); refine wz55 ?_) | (show HW2 (.load _ _); refine wz54 ?_) | (show HW2 (.call ⟨.value (.tmp _), _, _⟩); refine wz94 ?_)) | refine go1 ?_ | refine end_block_other rfl ?_ | refine end_scope (fun _ h => by cases h) ?_ | (refine walk_endD ?_ ?_; (· kernel_rfl)) | refine tri_yesA rfl ?_ | refine tri_noA rfl ?_ | refine tri_trueA rfl ?_ | refine tri_falseA rfl ?_)
      refine nx1 _ ⟨by dsimp only; omega, by dsimp only; omega, h3, fun s a1 a2 => ?_, h5⟩ (by dsimp only; omega) (by exact ent_kp)
      have := hsrt s ((i + j) / 2) a1 (by dsimp only at a2; omega) (by omega)
      omega
    · have hcx := fun h => hk (hcc.1 h)
      rw [← gx] at hcx
      repeat (first | (show Walk1 _ _ _ (_ :: _) _ _; first | (show HW1 (.move _); refine wz1 ?_) | (show HW1 (.assign _); refine wz2 ?_) | (show HW1 (.binOp .add _ _ _ _); refine wz10 ?_) | (show HW1 (.binOp .lss _ _ _ _); refine wz5 ?_) | (show HW1 (.binOp .shr _ _ _ _); refine wz68 ?_) | (show HW1 (.convert _ _ _); first | refine wz66 ?_ | refine wz65 ?_)) | (show WalkTo _ _ _ _ (_ :: _) _ _ _; first | (show HW2 (.move _); refine wz20 ?_) | (show HW2 (.binOp .lss _ _ _ _); refine wz56 ?_) | (show HW2 (.indexAddr _ _ _); refine wz55 ?_) | (show HW2 (.load _ _); refine wz54 ?_) | (show HW2 (.call ⟨.value (.tmp _), _, _⟩); refine wz94 ?_)) | refine go1 ?_ | refine end_block_other rfl ?_ | refine end_scope (fun _ h => by cases h) ?_ | (refine walk_endD ?_ ?_; (· kernel_rfl)) | refine tri_yesA rfl ?_ | refine tri_noA rfl ?_ | refine tri_trueA rfl ?_ | refine tri_falseA rfl ?_)
      refine nx2 _ ⟨h1, by dsimp only; omega, by dsimp only; omega, h4, fun s a1 a2 => ?_⟩ (by dsimp only; omega) (by exact ent_kp)
      have := hsrt ((i + j) / 2) s (by omega) (by dsimp only at a1; omega) a2
      omega
  · obtain rfl : i = j := by omega
    have hf := hfin i h1 h3 h4 h5
    rw [← e0] at *
    clear next hsrt hdg h4 h5 hfin hc e0
    repeat (first | (show Walk1 _ _ _ (_ :: _) _ _; first | (show HW1 (.move _); refine wz1 ?_) | (show HW1 (.assign _); refine wz2 ?_) | (show HW1 (.binOp .lss _ _ _ _); refine wz5 ?_)) | refine go1 ?_ | refine end_block_other rfl ?_ | refine end_scope (fun _ h => by cases h) ?_ | (refine walk_endD ?_ ?_; (· kernel_rfl)) | refine tri_yesA rfl ?_ | refine tri_noA rfl ?_ | refine tri_trueA rfl ?_ | refine tri_falseA rfl ?_)
    refine tri_loop (X := Nat) (fun t => ⟨[(13, SV.c (.int .i64 ((p + t : Nat) : Int))), (10, SV.c (.int .i64 ((i : Nat) : Int))), (0, .c (.slice (some ⟨b, pre.length, none⟩) N cap)), (1, SV.c (.int .i64 ((p : Nat) : Int))), (2, SV.c (.int .i64 ((m : Nat) : Int))), (3, SV.c (.int .i64 ((e : Nat) : Int))), (4, .c cv)], [(1000, some (.blk 1000 3 (.c (segA pre post (I t))))), (1001, some (.is 1000 b))]⟩)
      (fun t => t ≤ i - m) (fun t => i - m - t) 0 (by omega) (by exact ent_kp) ?_
    intro t ht K2 next
    by_cases h : t < i - m
    · have nx := fun S' => next S' (t + 1)
      rw [← hup t (by omega)] at nx
      have hl1 := hlen t
      clear next hup hlen hlen0 hf
      generalize I t = It at *
      repeat (first | (show Walk1 _ _ _ (_ :: _) _ _; first | (show HW1 (.move _); refine wz1 ?_) | (show HW1 (.assign _); refine wz2 ?_) | (show HW1 (.binOp .add _ _ _ _); refine wz10 ?_) | (show HW1 (.binOp .sub _ _ _ _); refine wz35 ?_) | (show HW1 (.binOp .lss _ _ _ _); refine wz5 ?_)) | (show WalkTo _ _ _ _ (_ :: _) _ _ _; first | (show HW2 (.move _); refine wz20 ?_) | (show HW2 (.binOp .add _ _ _ _); refine wz96 ?_) | (show HW2 (.indexAddr _ _ _); refine wz55 ?_) | (show HW2 (.load _ _); refine wz54 ?_) | (show HW2 (.store _ _ _); refine wz89 ?_)) | refine go1 ?_ | refine end_block_other rfl ?_ | refine end_scope (fun _ h => by cases h) ?_ | (refine walk_endD ?_ ?_; (· kernel_rfl)) | refine tri_yesA rfl ?_ | refine tri_noA rfl ?_ | refine tri_trueA rfl ?_ | refine tri_falseA rfl ?_)
      exact nx _ (by omega) (by omega) (by exact ent_kp)
    · obtain rfl : t = i - m := by omega
      rw [hf]
      clear next hup hlen hf hlen0
      repeat (first | (show Walk1 _ _ _ (_ :: _) _ _; first | (show HW1 (.move _); refine wz1 ?_) | (show HW1 (.binOp .sub _ _ _ _); refine wz35 ?_) | (show HW1 (.binOp .lss _ _ _ _); refine wz5 ?_)) | refine go1 ?_ | refine end_block_other rfl ?_ | refine end_scope (fun _ h => by cases h) ?_ | (refine walk_endD ?_ ?_; (· kernel_rfl)) | refine tri_yesA rfl ?_ | refine tri_noA rfl ?_ | refine tri_trueA rfl ?_ | refine tri_falseA rfl ?_)
      refine end_ret _ (res_none rfl) ?_
      exact fin_obj rfl rfl (fun _ => rfl) (fun _ => rfl)
end Go.Proofs.Ytcgmapioelfneaa
namespace Go.Proofs.Ytcgmapioelfneaa
open Go.RowKit
set_option maxRecDepth 100000
set_option maxHeartbeats 1000000
attribute [local irreducible] Calls Walk1 WalkTo Tri EndA
theorem symM_two (pre post : List Value) (P : List Nat) (x : Nat) (A Q : List Nat) (N cap p m e b : Nat) (cv : Value) (w : World) (key : Nat → Int) (c : Nat → Nat → Int) (M : Nat) (hc : ∀ x y, x < M → y < M → (c x y < 0 ↔ key x < key y)) (hM : 0 < M) (hd : ∀ y ∈ P ++ (A ++ (x :: Q)), y < M)
    (hp : p = P.length) (hm : m = p + A.length) (h1A : A.length ≠ 1) (he : e = m + 1) (hN : N = e + Q.length) (hs : N ≤ 1099511627776) (hC : CmpOK w [b] cv M c) (hS : SrtK key A)
    (hB : Blk w b (segA pre post (P ++ (A ++ (x :: Q)))) 3) :
    Calls Try.prog 45 #[.slice (some ⟨b, pre.length, none⟩) N cap, .int .i64 ((p : Nat) : Int), .int .i64 ((m : Nat) : Int), .int .i64 ((e : Nat) : Int), cv] w (RetP w b 3 (segA pre post (P ++ (sortK key (A ++ [x]) ++ Q))) (.tuple #[])) := by
  obtain ⟨L0, hL0⟩ : ∃ l, l = P ++ (A ++ (x :: Q)) := ⟨_, rfl⟩
  have e0 : inL P A Q x (m - p) = L0 := by rw [hL0]; unfold inL; rw [List.take_of_length_le (by omega), List.drop_of_length_le (by omega)]; rfl
  have gx : gtN L0 m = x := by rw [hL0, ← List.append_assoc]; exact gtN_at _ _ _ _ (by simp; omega)
  have gA : ∀ u, u < A.length → gtN L0 (p + u) = gtN A u := fun u hu => by
    rw [hL0, hp, gtN_app2, gtN_app1 _ _ _ hu]
  have hsrt : ∀ s s', p ≤ s → s ≤ s' → s' < m → key (gtN L0 s) ≤ key (gtN L0 s') := fun s s' h1 h2 h3 => by
    rw [show s = p + (s - p) by omega, show s' = p + (s' - p) by omega, gA _ (by omega), gA _ (by omega)]
    exact srt_gt hS (by omega) (by omega)
  have hdg : ∀ j, gtN L0 j < M := fun j => gtN_lt hM (by rw [hL0]; exact hd) j
  have hlen0 : L0.length = N := by rw [hL0]; simp; omega
  have hfin : ∀ i, p ≤ i → i ≤ m → (∀ s, p ≤ s → s < i → ¬ key x < key (gtN L0 s)) → (∀ s, i ≤ s → s < m → key x < key (gtN L0 s)) → inL P A Q x (i - p) = P ++ (sortK key (A ++ [x]) ++ Q) := by
    intro i h1 h2 h3 h4
    rw [sortK_snoc, sortK_self hS, ins_at hS (t := i - p) (by omega) (fun y hy => ?_) ?_]
    · unfold inL
      simp
    · by_cases hi : i = p
      · left; omega
      · right
        have := h3 (p + (i - p - 1)) (by omega) (by omega)
        rwa [gA _ (by omega)] at this
    · obtain ⟨u, hu1, hu2, rfl⟩ := mem_drop_gt hy
      have := h4 (p + u) (by omega) (by omega)
      rwa [gA u hu2] at this
  have heN : e ≤ N := by omega
  have hme : p ≤ m := by omega
  have hst := fun t h0 ht => (inL_step P A Q x t h0 ht).2.2
  have hlen := fun t => inL_len P A Q x t
  rw [show P.length + (A.length + 1 + Q.length) = N by omega] at hlen
  rw [← hp] at hst
  have hAl : A.length = m - p := by omega
  rw [hAl] at hst h1A
  generalize P ++ (sortK key (A ++ [x]) ++ Q) = LF at *
  rw [← hL0] at hB
  clear hL0 gA hd hp hN hS hAl hm
  generalize inL P A Q x = I at *
  clear P A Q
  refine calls_triI hB Try.func45 rfl Try.ntmps45 rfl ?_
  repeat (first | (show Walk1 _ _ _ (_ :: _) _ _; first | (show HW1 (.move _); refine wz1 ?_) | (show HW1 (.assign _); refine wz2 ?_) | (show HW1 (.binOp .sub _ _ _ _); refine wz35 ?_) | (show HW1 (.binOp .eql _ _ _ _); refine wz30 ?_)) | refine go1 ?_ | refine end_block_other rfl ?_ | refine end_scope (fun _ h => by cases h) ?_ | (refine walk_endD ?_ ?_; (· kernel_rfl)) | refine tri_yesA rfl ?_ | refine tri_noA rfl ?_ | refine tri_trueA rfl ?_ | refine tri_falseA rfl ?_)
  refine tri_loop (X := Nat × Nat) (fun z => ⟨[(15, SV.c (.int .i64 ((z.2 : Nat) : Int))), (14, SV.c (.int .i64 ((z.1 : Nat) : Int))), (0, .c (.slice (some ⟨b, pre.length, none⟩) N cap)), (1, SV.c (.int .i64 ((p : Nat) : Int))), (2, SV.c (.int .i64 ((m : Nat) : Int))), (3, SV.c (.int .i64 ((e : Nat) : Int))), (4, .c cv)], [(1000, some (.blk 1000 3 (.c (segA pre post L0)))), (1001, some (.is 1000 b))]⟩)
    (fun z => p ≤ z.1 ∧ z.1 ≤ z.2 ∧ z.2 ≤ m ∧ (∀ s, p ≤ s → s < z.1 → ¬ key x < key (gtN L0 s)) ∧ (∀ s, z.2 ≤ s → s < m → key x < key (gtN L0 s))) (fun z => z.2 - z.1) (p, m) ⟨by omega, by omega, by omega, fun s h1 h2 => by omega, fun s h1 h2 => by omega⟩ (by exact ent_kp) ?_
  rintro ⟨i, j⟩ ⟨h1, h2, h3, h4, h5⟩ K next
  dsimp only at h1 h2 h3 h4 h5 next ⊢
  by_cases h : i < j
  · have d1 := hdg ((i + j) / 2)
    have d2 := hdg m
    have hcc := hc _ _ d2 d1
    rw [gx] at hcc
    have nx1 := fun S' => next S' ((i + j) / 2 + 1, j)
    have nx2 := fun S' => next S' (i, (i + j) / 2)
    have hxp := gx
    clear next hst hlen hfin
    by_cases hk : key x < key (gtN L0 ((i + j) / 2))
    · have hcx := hcc.2 hk
      rw [← gx] at hcx
      repeat (first | (show Walk1 _ _ _ (_ :: _) _ _; first | (show HW1 (.move _); refine wz1 ?_) | (show HW1 (.assign _); refine wz2 ?_) | (show HW1 (.binOp .add _ _ _ _); refine wz10 ?_) | (show HW1 (.binOp .lss _ _ _ _); refine wz5 ?_) | (show HW1 (.binOp .shr _ _ _ _); refine wz68 ?_) | (show HW1 (.convert _ _ _); first | refine wz66 ?_ | refine wz65 ?_)) | (show WalkTo _ _ _ _ (_ :: _) _ _ _; first | (show HW2 (.move _); refine wz20 ?_) | (show HW2 (.binOp .lss _ _ _ _); refine wz56 ?_) | (show HW2 (.unOp _ _ _); refine wz77 ?_) | (show HW2 (.indexAddr _ _ _); refine wz55 ?_) | (show HW2 (.load _ _); refine wz54 ?_) | (show HW2 (.call ⟨.value (.tmp _), _, _⟩); refine wz93 ?_)) | refine go1 ?_ | refine end_block_other rfl ?_ | refine end_scope (fun _ h => by cases h) ?_ | (refine walk_endD ?_ ?_; (· kernel_rfl)) | refine tri_yesA rfl ?_ | refine tri_noA rfl ?_ | refine tri_trueA rfl ?_ | refine tri_falseA rfl ?_)
      refine tri_false rfl (by simpa using hcx) ?_
      repeat (first | (show Walk1 _ _ _ (_ :: _) _ _; first | (show HW1 (.move _); refine wz1 ?_) | (show HW1 (.assign _); refine wz2 ?_)) | refine go1 ?_ | refine end_block_other rfl ?_ | refine end_scope (fun _ h => by cases h) ?_ | (refine walk_endD ?_ ?_; (· kernel_rfl)) | refine tri_yesA rfl ?_ | refine tri_noA rfl ?_ | refine tri_trueA rfl ?_ | refine tri_falseA rfl ?_)
      refine nx2 _ ⟨h1, by dsimp only; omega, by dsimp only; omega, h4, fun s a1 a2 => ?_⟩ (by dsimp only; omega) (by exact ent_kp)
      have := hsrt ((i + j) / 2) s (by omega) (by dsimp only at a1; omega) a2
      omega
    · have hcx := fun h => hk (hcc.1 h)
      rw [← gx] at hcx
      repeat (first | (show Walk1 _ _ _ (_ :: _) _ _; first | (show HW1 (.move _); refine wz1 ?_) | (show HW1 (.assign _); refine wz2 ?_) | (show HW1 (.binOp .add _ _ _ _); refine wz10 ?_) | (show HW1 (.binOp .lss _ _ _ _); refine wz5 ?_) | (show HW1 (.binOp .shr _ _ _ _); refine wz68 ?_) | (show HW1 (.convert _ _ _); first | refine wz66 ?_ | refine wz65 ?_)) | (show WalkTo _ _ _ _ (_ :: _) _ _ _; first | (show HW2 (.move _); refine wz20 ?_) | (show HW2 (.binOp .lss _ _ _ _); refine wz56 ?_) | (show HW2 (.unOp _ _ _); refine wz77 ?_) | (show HW2 (.indexAddr _ _ _); refine wz55 ?_) | (show HW2 (.load _ _); refine wz54 ?_) | (show HW2 (.call ⟨.value (.tmp _), _, _⟩); refine wz93 ?_)) | refine go1 ?_ | refine end_block_other rfl ?_ | refine end_scope (fun _ h => by cases h) ?_ | (refine walk_endD ?_ ?_; (· kernel_rfl)) | refine tri_yesA rfl ?_ | refine tri_noA rfl ?_ | refine tri_trueA rfl ?_ | refine tri_falseA rfl ?_)
      refine tri_true rfl (by simpa using hcx) ?_
      repeat (first | (show Walk1 _ _ _ (_ :: _) _ _; first | (show HW1 (.move _); refine wz1 ?_) | (show HW1 (.assign _); refine wz2 ?_) | (show HW1 (.binOp .add _ _ _ _); refine wz10 ?_)) | refine go1 ?_ | refine end_block_other rfl ?_ | refine end_scope (fun _ h => by cases h) ?_ | (refine walk_endD ?_ ?_; (· kernel_rfl)) | refine tri_yesA rfl ?_ | refine tri_noA rfl ?_ | refine tri_trueA rfl ?_ | refine tri_falseA rfl ?_)
      refine nx1 _ ⟨by dsimp only; omega, by dsimp only; omega, h3, fun s a1 a2 => ?_, h5⟩ (by dsimp only; omega) (by exact ent_kp)
      have := hsrt s ((i + j) / 2) a1 (by dsimp only at a2; omega) (by omega)
      omega
  · obtain rfl : i = j := by omega
    have hf := hfin i h1 h3 h4 h5
    rw [← e0] at *
    clear next hsrt hdg h4 h5 hfin hc e0
    repeat (first | (show Walk1 _ _ _ (_ :: _) _ _; first | (show HW1 (.move _); refine wz1 ?_) | (show HW1 (.assign _); refine wz2 ?_) | (show HW1 (.binOp .lss _ _ _ _); refine wz5 ?_)) | refine go1 ?_ | refine end_block_other rfl ?_ | refine end_scope (fun _ h => by cases h) ?_ | (refine walk_endD ?_ ?_; (· kernel_rfl)) | refine tri_yesA rfl ?_ | refine tri_noA rfl ?_ | refine tri_trueA rfl ?_ | refine tri_falseA rfl ?_)
    refine tri_loop (X := Nat) (fun t => ⟨[(17, SV.c (.int .i64 ((p + t : Nat) : Int))), (14, SV.c (.int .i64 ((i : Nat) : Int))), (0, .c (.slice (some ⟨b, pre.length, none⟩) N cap)), (1, SV.c (.int .i64 ((p : Nat) : Int))), (2, SV.c (.int .i64 ((m : Nat) : Int))), (3, SV.c (.int .i64 ((e : Nat) : Int))), (4, .c cv)], [(1000, some (.blk 1000 3 (.c (segA pre post (I t))))), (1001, some (.is 1000 b))]⟩)
      (fun t => i - p ≤ t ∧ t ≤ m - p) (fun t => t) (m - p) (by omega) (by exact ent_kp) ?_
    intro t ht K2 next
    by_cases h : i - p < t
    · have nx := fun S' => next S' (t - 1)
      rw [← hst t (by omega) (by omega)] at nx
      have hl1 := hlen t
      clear next hst hlen hlen0 hf
      generalize I t = It at *
      repeat (first | (show Walk1 _ _ _ (_ :: _) _ _; first | (show HW1 (.move _); refine wz1 ?_) | (show HW1 (.assign _); refine wz2 ?_) | (show HW1 (.binOp .sub _ _ _ _); refine wz35 ?_) | (show HW1 (.binOp .gtr _ _ _ _); refine wz33 ?_)) | (show WalkTo _ _ _ _ (_ :: _) _ _ _; first | (show HW2 (.move _); refine wz20 ?_) | (show HW2 (.binOp .sub _ _ _ _); refine wz72 ?_) | (show HW2 (.indexAddr _ _ _); refine wz55 ?_) | (show HW2 (.load _ _); refine wz54 ?_) | (show HW2 (.store _ _ _); refine wz89 ?_)) | refine go1 ?_ | refine end_block_other rfl ?_ | refine end_scope (fun _ h => by cases h) ?_ | (refine walk_endD ?_ ?_; (· kernel_rfl)) | refine tri_yesA rfl ?_ | refine tri_noA rfl ?_ | refine tri_trueA rfl ?_ | refine tri_falseA rfl ?_)
      exact nx _ (by omega) (by omega) (by exact ent_kp)
    · obtain rfl : t = i - p := by omega
      rw [hf]
      clear next hst hlen hf hlen0
      repeat (first | (show Walk1 _ _ _ (_ :: _) _ _; first | (show HW1 (.move _); refine wz1 ?_) | (show HW1 (.binOp .gtr _ _ _ _); refine wz33 ?_)) | refine go1 ?_ | refine end_block_other rfl ?_ | refine end_scope (fun _ h => by cases h) ?_ | (refine walk_endD ?_ ?_; (· kernel_rfl)) | refine tri_yesA rfl ?_ | refine tri_noA rfl ?_ | refine tri_trueA rfl ?_ | refine tri_falseA rfl ?_)
      refine end_ret _ (res_none rfl) ?_
      exact fin_obj rfl rfl (fun _ => rfl) (fun _ => rfl)
end Go.Proofs.Ytcgmapioelfneaa
