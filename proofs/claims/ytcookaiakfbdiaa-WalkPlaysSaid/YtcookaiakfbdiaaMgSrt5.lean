/- Two sorted rows merged where one of them is a number alone: walked. No condition. Two sorted rows merged where the second of them is a number alone: walked. No condition. Two sorted rows merged in place: walked. No condition. -/
import Derived.Test.YtcookaiakfbdiaaMgSymAK
namespace Go.Proofs.Ytcookaiakfbdiaa
open Go.RowKit
set_option maxRecDepth 100000
set_option maxHeartbeats 1000000
theorem inL_up (P S R : List Nat) (x t : Nat) (ht : t < S.length) :
    gtN (inL P S R x t) (P.length + t) = x ∧ gtN (inL P S R x t) (P.length + t + 1) = gtN S t ∧
    ((inL P S R x t).set (P.length + t) (gtN (inL P S R x t) (P.length + t + 1))).set (P.length + t + 1) (gtN (inL P S R x t) (P.length + t)) = inL P S R x (t + 1) := by
  obtain ⟨e1, e2⟩ := split_last S (t + 1) (by omega) (by omega)
  simp only [Nat.add_sub_cancel] at e1 e2
  generalize gtN S t = y at *
  have e3 : inL P S R x t = (P ++ S.take t) ++ x :: (y :: (S.drop (t + 1) ++ R)) := by unfold inL; rw [e2]; simp
  have e4 : inL P S R x t = (P ++ (S.take t ++ [x])) ++ y :: (S.drop (t + 1) ++ R) := by rw [e3]; simp
  have l1 : (P ++ S.take t).length = P.length + t := by simp; omega
  have l2 : (P ++ (S.take t ++ [x])).length = P.length + t + 1 := by simp; omega
  have g1 : gtN (inL P S R x t) (P.length + t) = x := by rw [e3]; exact gtN_at _ _ _ _ l1.symm
  have g2 : gtN (inL P S R x t) (P.length + t + 1) = y := by rw [e4]; exact gtN_at _ _ _ _ l2.symm
  refine ⟨g1, g2, ?_⟩
  rw [g1, g2, e3, set_atN _ _ _ _ _ l1.symm, show (P ++ S.take t) ++ y :: (y :: (S.drop (t + 1) ++ R)) = (P ++ (S.take t ++ [y])) ++ y :: (S.drop (t + 1) ++ R) by simp, set_atN _ _ _ _ _ (by simp; omega)]
  unfold inL
  rw [e1]
  simp
theorem srt_gt {key : Nat → Int} {l : List Nat} (h : SrtK key l) {i j : Nat} (hij : i ≤ j) (hj : j < l.length) : key (gtN l i) ≤ key (gtN l j) := by
  unfold gtN
  rw [List.getD_eq_getElem?_getD, List.getD_eq_getElem?_getD, List.getElem?_eq_getElem (by omega), List.getElem?_eq_getElem hj]
  by_cases he : i = j
  · subst he; exact Int.le_refl _
  · exact List.pairwise_iff_getElem.1 h i j (by omega) hj (by omega)
theorem mem_take_gt {l : List Nat} {t y : Nat} (h : y ∈ l.take t) : ∃ i, i < t ∧ i < l.length ∧ y = gtN l i := by
  obtain ⟨i, hi, rfl⟩ := List.getElem_of_mem h
  rw [List.length_take] at hi
  refine ⟨i, by omega, by omega, ?_⟩
  unfold gtN
  rw [List.getElem_take, List.getD_eq_getElem?_getD, List.getElem?_eq_getElem (by omega)]
  rfl
theorem mem_drop_gt {l : List Nat} {t y : Nat} (h : y ∈ l.drop t) : ∃ i, t ≤ i ∧ i < l.length ∧ y = gtN l i := by
  obtain ⟨i, hi, rfl⟩ := List.getElem_of_mem h
  rw [List.length_drop] at hi
  refine ⟨t + i, by omega, by omega, ?_⟩
  unfold gtN
  rw [List.getElem_drop, List.getD_eq_getElem?_getD, List.getElem?_eq_getElem (by omega)]
  rfl
attribute [local irreducible] Calls Walk1 WalkTo Tri EndA
theorem symM_one (pre post : List Value) (P : List Nat) (x : Nat) (B Q : List Nat) (N cap p m e b : Nat) (cv : Value) (w : World) (key : Nat → Int) (c : Nat → Nat → Int) (M : Nat) (hc : ∀ x y, x < M → y < M → (c x y < 0 ↔ key x < key y)) (hM : 0 < M) (hd : ∀ y ∈ P ++ (x :: (B ++ Q)), y < M)
    (hp : p = P.length) (hm : m = p + 1) (he : e = m + B.length) (hN : N = e + Q.length) (hs : N ≤ 1099511627776) (hC : CmpOK w [b] cv M c) (hS : SrtK key B)
    (hB : Blk w b (segA pre post (P ++ (x :: (B ++ Q)))) 3) :
    Calls Try.prog 73 #[.slice (some ⟨b, pre.length, none⟩) N cap, .int .i64 ((p : Nat) : Int), .int .i64 ((m : Nat) : Int), .int .i64 ((e : Nat) : Int), cv] w (RetP w b 3 (segA pre post (P ++ (sortK key (x :: B) ++ Q))) (.tuple #[])) := by
  obtain ⟨L0, hL0⟩ : ∃ l, l = P ++ (x :: (B ++ Q)) := ⟨_, rfl⟩
  have e0 : inL P B Q x 0 = L0 := by rw [hL0]; unfold inL; simp
  have gx : gtN L0 p = x := by rw [hL0]; exact gtN_at _ _ _ _ hp
  have gB : ∀ u, u < B.length → gtN L0 (m + u) = gtN B u := fun u hu => by
    rw [hL0, show P ++ (x :: (B ++ Q)) = (P ++ [x]) ++ (B ++ Q) by simp, show m + u = (P ++ [x]).length + u by simp; omega, gtN_app2, gtN_app1 _ _ _ hu]
  have hsrt : ∀ s s', m ≤ s → s ≤ s' → s' < e → key (gtN L0 s) ≤ key (gtN L0 s') := fun s s' h1 h2 h3 => by
    rw [show s = m + (s - m) by omega, show s' = m + (s' - m) by omega, gB _ (by omega), gB _ (by omega)]
    exact srt_gt hS (by omega) (by omega)
  have hdg : ∀ j, gtN L0 j < M := fun j => gtN_lt hM (by rw [hL0]; exact hd) j
  have hlen0 : L0.length = N := by rw [hL0]; simp; omega
  have hfin : ∀ i, m ≤ i → i ≤ e → (∀ s, m ≤ s → s < i → key (gtN L0 s) < key x) → (∀ s, i ≤ s → s < e → ¬ key (gtN L0 s) < key x) → inL P B Q x (i - m) = P ++ (sortK key (x :: B) ++ Q) := by
    intro i h1 h2 h3 h4
    have b1 : ∀ y ∈ B.take (i - m), key y < key x := fun y hy => by
      obtain ⟨u, hu1, hu2, rfl⟩ := mem_take_gt hy
      have := h3 (m + u) (by omega) (by omega)
      rwa [gB u hu2] at this
    have b2 : ∀ y ∈ B.drop (i - m), key x ≤ key y := fun y hy => by
      obtain ⟨u, hu1, hu2, rfl⟩ := mem_drop_gt hy
      have := h4 (m + u) (by omega) (by omega)
      rw [gB u hu2] at this
      omega
    have hss := List.pairwise_append.1 (by rw [List.take_append_drop]; exact hS : SrtK key (B.take (i - m) ++ B.drop (i - m)))
    have hR : B.take (i - m) ++ ([x] ++ B.drop (i - m)) = sortK key (x :: B) := by
      refine sortK_is (SrtK.app hss.1 (List.pairwise_cons.2 ⟨b2, hss.2.1⟩) fun u hu v hv => ?_) ?_
      · rcases List.mem_cons.1 hv with rfl | hv
        · have := b1 u hu; omega
        · exact hss.2.2 u hu v hv
      · have : SameK key (B.take (i - m) ++ ([x] ++ B.drop (i - m))) ([x] ++ (B.take (i - m) ++ B.drop (i - m))) := by
          rw [← List.append_assoc, ← List.append_assoc]
          exact (SameK.turn fun u hu v hv => by
            have e : v = x := by simpa using hv
            have := b1 u hu
            rw [e]; omega).app (SameK.refl _)
        rw [List.take_append_drop] at this
        exact this
    rw [← hR]
    unfold inL
    simp
  have heN : e ≤ N := by omega
  have hme : m ≤ e := by omega
  have hup := fun t ht => (inL_up P B Q x t ht).2.2
  have hlen := fun t => inL_len P B Q x t
  rw [show P.length + (B.length + 1 + Q.length) = N by omega] at hlen
  rw [← hp] at hup
  have hBl : B.length = e - m := by omega
  rw [hBl] at hup
  generalize P ++ (sortK key (x :: B) ++ Q) = LF at *
  rw [← hL0] at hB
  clear hL0 gB hd hp hN hS hBl he
  generalize inL P B Q x = I at *
  clear P B Q
  refine calls_triI hB Try.func73 rfl Try.ntmps73 rfl ?_
  repeat (first | (show Walk1 _ _ _ (_ :: _) _ _; first | (show HW1 (.move _); refine wz1 ?_) | (show HW1 (.assign _); refine wz2 ?_) | (show HW1 (.binOp .sub _ _ _ _); refine wz35 ?_) | (show HW1 (.binOp .eql _ _ _ _); refine wz30 ?_)) | refine go1 ?_ | refine end_block_other rfl ?_ | refine end_scope (fun _ h => by cases h) ?_ | (refine walk_endD ?_ ?_; (· kernel_rfl)) | refine tri_yesA rfl ?_ | refine tri_noA rfl ?_ | refine tri_trueA rfl ?_ | refine tri_falseA rfl ?_)
  refine tri_loop (X := Nat × Nat) (fun z => ⟨[(11, SV.c (.int .i64 ((z.2 : Nat) : Int))), (10, SV.c (.int .i64 ((z.1 : Nat) : Int))), (0, .c (.slice (some ⟨b, pre.length, none⟩) N cap)), (1, SV.c (.int .i64 ((p : Nat) : Int))), (2, SV.c (.int .i64 ((m : Nat) : Int))), (3, SV.c (.int .i64 ((e : Nat) : Int))), (4, .c cv)], [(1000, some (.blk 1000 3 (.c (segA pre post L0)))), (1001, some (.is 1000 b))]⟩)
    (fun z => m ≤ z.1 ∧ z.1 ≤ z.2 ∧ z.2 ≤ e ∧ (∀ s, m ≤ s → s < z.1 → key (gtN L0 s) < key x) ∧ (∀ s, z.2 ≤ s → s < e → ¬ key (gtN L0 s) < key x)) (fun z => z.2 - z.1) (m, e) ⟨by omega, by omega, by omega, fun s h1 h2 => by omega, fun s h1 h2 => by omega⟩ (by exact ent_kp) ?_
  rintro ⟨i, j⟩ ⟨h1, h2, h3, h4, h5⟩ K next
  dsimp only at h1 h2 h3 h4 h5 next ⊢
  by_cases h : i < j
  · have d1 := hdg ((i + j) / 2)
    have d2 := hdg p
    have hcc := hc _ _ d1 d2
    rw [gx] at hcc
    have nx1 := fun S' => next S' ((i + j) / 2 + 1, j)
    have nx2 := fun S' => next S' (i, (i + j) / 2)
    have hxp := gx
    clear next hup hlen hfin
    by_cases hk : key (gtN L0 ((i + j) / 2)) < key x
    · have hcx := hcc.2 hk
      rw [← gx] at hcx
      repeat (first | (show Walk1 _ _ _ (_ :: _) _ _; first | (show HW1 (.move _); refine wz1 ?_) | (show HW1 (.assign _); refine wz2 ?_) | (show HW1 (.binOp .add _ _ _ _); refine wz10 ?_) | (show HW1 (.binOp .lss _ _ _ _); refine wz5 ?_) | (show HW1 (.binOp .shr _ _ _ _); refine wz68 ?_) | (show HW1 (.convert _ _ _); first | refine wz66 ?_ | refine wz65 ?_)) | (show WalkTo _ _ _ _ (_ :: _) _ _ _; first | (show HW2 (.move _); refine wz20 ?_) | (show HW2 (.binOp .lss _ _ _ _); refine wz56 ?_) | (show HW2 (.indexAddr _ _ _); refine wz55 ?_) | (show HW2 (.load _ _); refine wz54 ?_) | (show HW2 (.call ⟨.value (.tmp _), _, _⟩); refine wz94 ?_)) | refine go1 ?_ | refine end_block_other rfl ?_ | refine end_scope (fun _ h => by cases h) ?_ | (refine walk_endD ?_ ?_; (· kernel_rfl)) | refine tri_yesA rfl ?_ | refine tri_noA rfl ?_ | refine tri_trueA rfl ?_ | refine tri_falseA rfl ?_)
      refine nx1 _ ⟨by dsimp only; omega, by dsimp only; omega, h3, fun s a1 a2 => ?_, h5⟩ (by dsimp only; omega) (by exact ent_kp)
      have := hsrt s ((i + j) / 2) a1 (by dsimp only at a2; omega) (by omega)
      omega
    · have hcx := fun h => hk (hcc.1 h)
      rw [← gx] at hcx
      repeat (first | (show Walk1 _ _ _ (_ :: _) _ _; first | (show HW1 (.move _); refine wz1 ?_) | (show HW1 (.assign _); refine wz2 ?_) | (show HW1 (.binOp .add _ _ _ _); refine wz10 ?_) | (show HW1 (.binOp .lss _ _ _ _); refine wz5 ?_) | (show HW1 (.binOp .shr _ _ _ _); refine wz68 ?_) | (show HW1 (.convert _ _ _); first | refine wz66 ?_ | refine wz65 ?_)) | (show WalkTo _ _ _ _ (_ :: _) _ _ _; first | (show HW2 (.move _); refine wz20 ?_) | (show HW2 (.binOp .lss _ _ _ _); refine wz56 ?_) | (show HW2 (.indexAddr _ _ _); refine wz55 ?_) | (show HW2 (.load _ _); refine wz54 ?_) | (show HW2 (.call ⟨.value (.tmp _), _, _⟩); refine wz94 ?_)) | refine go1 ?_ | refine end_block_other rfl ?_ | refine end_scope (fun _ h => by cases h) ?_ | (refine walk_endD ?_ ?_; (· kernel_rfl)) | refine tri_yesA rfl ?_ | refine tri_noA rfl ?_ | refine tri_trueA rfl ?_ | refine tri_falseA rfl ?_)
      refine nx2 _ ⟨h1, by dsimp only; omega, by dsimp only; omega, h4, fun s a1 a2 => ?_⟩ (by dsimp only; omega) (by exact ent_kp)
      have := hsrt ((i + j) / 2) s (by omega) (by dsimp only at a1; omega) a2
      omega
  · obtain rfl : i = j := by omega
    have hf := hfin i h1 h3 h4 h5
    rw [← e0] at *
    clear next hsrt hdg h4 h5 hfin hc e0
    repeat (first | (show Walk1 _ _ _ (_ :: _) _ _; first | (show HW1 (.move _); refine wz1 ?_) | (show HW1 (.assign _); refine wz2 ?_) | (show HW1 (.binOp .lss _ _ _ _); refine wz5 ?_)) | refine go1 ?_ | refine end_block_other rfl ?_ | refine end_scope (fun _ h => by cases h) ?_ | (refine walk_endD ?_ ?_; (· kernel_rfl)) | refine tri_yesA rfl ?_ | refine tri_noA rfl ?_ | refine tri_trueA rfl ?_ | refine tri_falseA rfl ?_)
    refine tri_loop (X := Nat) (fun t => ⟨[(13, SV.c (.int .i64 ((p + t : Nat) : Int))), (10, SV.c (.int .i64 ((i : Nat) : Int))), (0, .c (.slice (some ⟨b, pre.length, none⟩) N cap)), (1, SV.c (.int .i64 ((p : Nat) : Int))), (2, SV.c (.int .i64 ((m : Nat) : Int))), (3, SV.c (.int .i64 ((e : Nat) : Int))), (4, .c cv)], [(1000, some (.blk 1000 3 (.c (segA pre post (I t))))), (1001, some (.is 1000 b))]⟩)
      (fun t => t ≤ i - m) (fun t => i - m - t) 0 (by omega) (by exact ent_kp) ?_
    intro t ht K2 next
    by_cases h : t < i - m
    · have nx := fun S' => next S' (t + 1)
      rw [← hup t (by omega)] at nx
      have hl1 := hlen t
      clear next hup hlen hlen0 hf
      generalize I t = It at *
      repeat (first | (show Walk1 _ _ _ (_ :: _) _ _; first | (show HW1 (.move _); refine wz1 ?_) | (show HW1 (.assign _); refine wz2 ?_) | (show HW1 (.binOp .add _ _ _ _); refine wz10 ?_) | (show HW1 (.binOp .sub _ _ _ _); refine wz35 ?_) | (show HW1 (.binOp .lss _ _ _ _); refine wz5 ?_)) | (show WalkTo _ _ _ _ (_ :: _) _ _ _; first | (show HW2 (.move _); refine wz20 ?_) | (show HW2 (.binOp .add _ _ _ _); refine wz96 ?_) | (show HW2 (.indexAddr _ _ _); refine wz55 ?_) | (show HW2 (.load _ _); refine wz54 ?_) | (show HW2 (.store _ _ _); refine wz89 ?_)) | refine go1 ?_ | refine end_block_other rfl ?_ | refine end_scope (fun _ h => by cases h) ?_ | (refine walk_endD ?_ ?_; (· kernel_rfl)) | refine tri_yesA rfl ?_ | refine tri_noA rfl ?_ | refine tri_trueA rfl ?_ | refine tri_falseA rfl ?_)
      exact nx _ (by omega) (by omega) (by exact ent_kp)
    · obtain rfl : t = i - m := by omega
      rw [hf]
      clear next hup hlen hf hlen0
      repeat (first | (show Walk1 _ _ _ (_ :: _) _ _; first | (show HW1 (.move _); refine wz1 ?_) | (show HW1 (.binOp .sub _ _ _ _); refine wz35 ?_) | (show HW1 (.binOp .lss _ _ _ _); refine wz5 ?_)) | refine go1 ?_ | refine end_block_other rfl ?_ | refine end_scope (fun _ h => by cases h) ?_ | (refine walk_endD ?_ ?_; (· kernel_rfl)) | refine tri_yesA rfl ?_ | refine tri_noA rfl ?_ | refine tri_trueA rfl ?_ | refine tri_falseA rfl ?_)
      refine end_ret _ (res_none rfl) ?_
      exact fin_obj rfl rfl (fun _ => rfl) (fun _ => rfl)
end Go.Proofs.Ytcookaiakfbdiaa
namespace Go.Proofs.Ytcookaiakfbdiaa
open Go.RowKit
set_option maxRecDepth 100000
set_option maxHeartbeats 1000000
attribute [local irreducible] Calls Walk1 WalkTo Tri EndA
theorem symM_two (pre post : List Value) (P : List Nat) (x : Nat) (A Q : List Nat) (N cap p m e b : Nat) (cv : Value) (w : World) (key : Nat → Int) (c : Nat → Nat → Int) (M : Nat) (hc : ∀ x y, x < M → y < M → (c x y < 0 ↔ key x < key y)) (hM : 0 < M) (hd : ∀ y ∈ P ++ (A ++ (x :: Q)), y < M)
    (hp : p = P.length) (hm : m = p + A.length) (h1A : A.length ≠ 1) (he : e = m + 1) (hN : N = e + Q.length) (hs : N ≤ 1099511627776) (hC : CmpOK w [b] cv M c) (hS : SrtK key A)
    (hB : Blk w b (segA pre post (P ++ (A ++ (x :: Q)))) 3) :
    Calls Try.prog 73 #[.slice (some ⟨b, pre.length, none⟩) N cap, .int .i64 ((p : Nat) : Int), .int .i64 ((m : Nat) : Int), .int .i64 ((e : Nat) : Int), cv] w (RetP w b 3 (segA pre post (P ++ (sortK key (A ++ [x]) ++ Q))) (.tuple #[])) := by
  obtain ⟨L0, hL0⟩ : ∃ l, l = P ++ (A ++ (x :: Q)) := ⟨_, rfl⟩
  have e0 : inL P A Q x (m - p) = L0 := by rw [hL0]; unfold inL; rw [List.take_of_length_le (by omega), List.drop_of_length_le (by omega)]; rfl
  have gx : gtN L0 m = x := by rw [hL0, ← List.append_assoc]; exact gtN_at _ _ _ _ (by simp; omega)
  have gA : ∀ u, u < A.length → gtN L0 (p + u) = gtN A u := fun u hu => by
    rw [hL0, hp, gtN_app2, gtN_app1 _ _ _ hu]
  have hsrt : ∀ s s', p ≤ s → s ≤ s' → s' < m → key (gtN L0 s) ≤ key (gtN L0 s') := fun s s' h1 h2 h3 => by
    rw [show s = p + (s - p) by omega, show s' = p + (s' - p) by omega, gA _ (by omega), gA _ (by omega)]
    exact srt_gt hS (by omega) (by omega)
  have hdg : ∀ j, gtN L0 j < M := fun j => gtN_lt hM (by rw [hL0]; exact hd) j
  have hlen0 : L0.length = N := by rw [hL0]; simp; omega
  have hfin : ∀ i, p ≤ i → i ≤ m → (∀ s, p ≤ s → s < i → ¬ key x < key (gtN L0 s)) → (∀ s, i ≤ s → s < m → key x < key (gtN L0 s)) → inL P A Q x (i - p) = P ++ (sortK key (A ++ [x]) ++ Q) := by
    intro i h1 h2 h3 h4
    rw [sortK_snoc, sortK_self hS, ins_at hS (t := i - p) (by omega) (fun y hy => ?_) ?_]
    · unfold inL
      simp
    · by_cases hi : i = p
      · left; omega
      · right
        have := h3 (p + (i - p - 1)) (by omega) (by omega)
        rwa [gA _ (by omega)] at this
    · obtain ⟨u, hu1, hu2, rfl⟩ := mem_drop_gt hy
      have := h4 (p + u) (by omega) (by omega)
      rwa [gA u hu2] at this
  have heN : e ≤ N := by omega
  have hme : p ≤ m := by omega
  have hst := fun t h0 ht => (inL_step P A Q x t h0 ht).2.2
  have hlen := fun t => inL_len P A Q x t
  rw [show P.length + (A.length + 1 + Q.length) = N by omega] at hlen
  rw [← hp] at hst
  have hAl : A.length = m - p := by omega
  rw [hAl] at hst h1A
  generalize P ++ (sortK key (A ++ [x]) ++ Q) = LF at *
  rw [← hL0] at hB
  clear hL0 gA hd hp hN hS hAl hm
  generalize inL P A Q x = I at *
  clear P A Q
  refine calls_triI hB Try.func73 rfl Try.ntmps73 rfl ?_
  repeat (first | (show Walk1 _ _ _ (_ :: _) _ _; first | (show HW1 (.move _); refine wz1 ?_) | (show HW1 (.assign _); refine wz2 ?_) | (show HW1 (.binOp .sub _ _ _ _); refine wz35 ?_) | (show HW1 (.binOp .eql _ _ _ _); refine wz30 ?_)) | refine go1 ?_ | refine end_block_other rfl ?_ | refine end_scope (fun _ h => by cases h) ?_ | (refine walk_endD ?_ ?_; (· kernel_rfl)) | refine tri_yesA rfl ?_ | refine tri_noA rfl ?_ | refine tri_trueA rfl ?_ | refine tri_falseA rfl ?_)
  refine tri_loop (X := Nat × Nat) (fun z => ⟨[(15, SV.c (.int .i64 ((z.2 : Nat) : Int))), (14, SV.c (.int .i64 ((z.1 : Nat) : Int))), (0, .c (.slice (some ⟨b, pre.length, none⟩) N cap)), (1, SV.c (.int .i64 ((p : Nat) : Int))), (2, SV.c (.int .i64 ((m : Nat) : Int))), (3, SV.c (.int .i64 ((e : Nat) : Int))), (4, .c cv)], [(1000, some (.blk 1000 3 (.c (segA pre post L0)))), (1001, some (.is 1000 b))]⟩)
    (fun z => p ≤ z.1 ∧ z.1 ≤ z.2 ∧ z.2 ≤ m ∧ (∀ s, p ≤ s → s < z.1 → ¬ key x < key (gtN L0 s)) ∧ (∀ s, z.2 ≤ s → s < m → key x < key (gtN L0 s))) (fun z => z.2 - z.1) (p, m) ⟨by omega, by omega, by omega, fun s h1 h2 => by omega, fun s h1 h2 => by omega⟩ (by exact ent_kp) ?_
  rintro ⟨i, j⟩ ⟨h1, h2, h3, h4, h5⟩ K next
  dsimp only at h1 h2 h3 h4 h5 next ⊢
  by_cases h : i < j
  · have d1 := hdg ((i + j) / 2)
    have d2 := hdg m
    have hcc := hc _ _ d2 d1
    rw [gx] at hcc
    have nx1 := fun S' => next S' ((i + j) / 2 + 1, j)
    have nx2 := fun S' => next S' (i, (i + j) / 2)
    have hxp := gx
    clear next hst hlen hfin
    by_cases hk : key x < key (gtN L0 ((i + j) / 2))
    · have hcx := hcc.2 hk
      rw [← gx] at hcx
      repeat (first | (show Walk1 _ _ _ (_ :: _) _ _; first | (show HW1 (.move _); refine wz1 ?_) | (show HW1 (.assign _); refine wz2 ?_) | (show HW1 (.binOp .add _ _ _ _); refine wz10 ?_) | (show HW1 (.binOp .lss _ _ _ _); refine wz5 ?_) | (show HW1 (.binOp .shr _ _ _ _); refine wz68 ?_) | (show HW1 (.convert _ _ _); first | refine wz66 ?_ | refine wz65 ?_)) | (show WalkTo _ _ _ _ (_ :: _) _ _ _; first | (show HW2 (.move _); refine wz20 ?_) | (show HW2 (.binOp .lss _ _ _ _); refine wz56 ?_) | (show HW2 (.unOp _ _ _); refine wz77 ?_) | (show HW2 (.indexAddr _ _ _); refine wz55 ?_) | (show HW2 (.load _ _); refine wz54 ?_) | (show HW2 (.call ⟨.value (.tmp _), _, _⟩); refine wz93 ?_)) | refine go1 ?_ | refine end_block_other rfl ?_ | refine end_scope (fun _ h => by cases h) ?_ | (refine walk_endD ?_ ?_; (· kernel_rfl)) | refine tri_yesA rfl ?_ | refine tri_noA rfl ?_ | refine tri_trueA rfl ?_ | refine tri_falseA rfl ?_)
      refine tri_false rfl (by simpa using hcx) ?_
      repeat (first | (show Walk1 _ _ _ (_ :: _) _ _; first | (show HW1 (.move _); refine wz1 ?_) | (show HW1 (.assign _); refine wz2 ?_)) | refine go1 ?_ | refine end_block_other rfl ?_ | refine end_scope (fun _ h => by cases h) ?_ | (refine walk_endD ?_ ?_; (· kernel_rfl)) | refine tri_yesA rfl ?_ | refine tri_noA rfl ?_ | refine tri_trueA rfl ?_ | refine tri_falseA rfl ?_)
      refine nx2 _ ⟨h1, by dsimp only; omega, by dsimp only; omega, h4, fun s a1 a2 => ?_⟩ (by dsimp only; omega) (by exact ent_kp)
      have := hsrt ((i + j) / 2) s (by omega) (by dsimp only at a1; omega) a2
      omega
    · have hcx := fun h => hk (hcc.1 h)
      rw [← gx] at hcx
      repeat (first | (show Walk1 _ _ _ (_ :: _) _ _; first | (show HW1 (.move _); refine wz1 ?_) | (show HW1 (.assign _); refine wz2 ?_) | (show HW1 (.binOp .add _ _ _ _); refine wz10 ?_) | (show HW1 (.binOp .lss _ _ _ _); refine wz5 ?_) | (show HW1 (.binOp .shr _ _ _ _); refine wz68 ?_) | (show HW1 (.convert _ _ _); first | refine wz66 ?_ | refine wz65 ?_)) | (show WalkTo _ _ _ _ (_ :: _) _ _ _; first | (show HW2 (.move _); refine wz20 ?_) | (show HW2 (.binOp .lss _ _ _ _); refine wz56 ?_) | (show HW2 (.unOp _ _ _); refine wz77 ?_) | (show HW2 (.indexAddr _ _ _); refine wz55 ?_) | (show HW2 (.load _ _); refine wz54 ?_) | (show HW2 (.call ⟨.value (.tmp _), _, _⟩); refine wz93 ?_)) | refine go1 ?_ | refine end_block_other rfl ?_ | refine end_scope (fun _ h => by cases h) ?_ | (refine walk_endD ?_ ?_; (· kernel_rfl)) | refine tri_yesA rfl ?_ | refine tri_noA rfl ?_ | refine tri_trueA rfl ?_ | refine tri_falseA rfl ?_)
      refine tri_true rfl (by simpa using hcx) ?_
      repeat (first | (show Walk1 _ _ _ (_ :: _) _ _; first | (show HW1 (.move _); refine wz1 ?_) | (show HW1 (.assign _); refine wz2 ?_) | (show HW1 (.binOp .add _ _ _ _); refine wz10 ?_)) | refine go1 ?_ | refine end_block_other rfl ?_ | refine end_scope (fun _ h => by cases h) ?_ | (refine walk_endD ?_ ?_; (· kernel_rfl)) | refine tri_yesA rfl ?_ | refine tri_noA rfl ?_ | refine tri_trueA rfl ?_ | refine tri_falseA rfl ?_)
      refine nx1 _ ⟨by dsimp only; omega, by dsimp only; omega, h3, fun s a1 a2 => ?_, h5⟩ (by dsimp only; omega) (by exact ent_kp)
      have := hsrt s ((i + j) / 2) a1 (by dsimp only at a2; omega) (by omega)
      omega
  · obtain rfl : i = j := by omega
    have hf := hfin i h1 h3 h4 h5
    rw [← e0] at *
    clear next hsrt hdg h4 h5 hfin hc e0
    repeat (first | (show Walk1 _ _ _ (_ :: _) _ _; first | (show HW1 (.move _); refine wz1 ?_) | (show HW1 (.assign _); refine wz2 ?_) | (show HW1 (.binOp .lss _ _ _ _); refine wz5 ?_)) | refine go1 ?_ | refine end_block_other rfl ?_ | refine end_scope (fun _ h => by cases h) ?_ | (refine walk_endD ?_ ?_; (· kernel_rfl)) | refine tri_yesA rfl ?_ | refine tri_noA rfl ?_ | refine tri_trueA rfl ?_ | refine tri_falseA rfl ?_)
    refine tri_loop (X := Nat) (fun t => ⟨[(17, SV.c (.int .i64 ((p + t : Nat) : Int))), (14, SV.c (.int .i64 ((i : Nat) : Int))), (0, .c (.slice (some ⟨b, pre.length, none⟩) N cap)), (1, SV.c (.int .i64 ((p : Nat) : Int))), (2, SV.c (.int .i64 ((m : Nat) : Int))), (3, SV.c (.int .i64 ((e : Nat) : Int))), (4, .c cv)], [(1000, some (.blk 1000 3 (.c (segA pre post (I t))))), (1001, some (.is 1000 b))]⟩)
      (fun t => i - p ≤ t ∧ t ≤ m - p) (fun t => t) (m - p) (by omega) (by exact ent_kp) ?_
    intro t ht K2 next
    by_cases h : i - p < t
    · have nx := fun S' => next S' (t - 1)
      rw [← hst t (by omega) (by omega)] at nx
      have hl1 := hlen t
      clear next hst hlen hlen0 hf
      generalize I t = It at *
      repeat (first | (show Walk1 _ _ _ (_ :: _) _ _; first | (show HW1 (.move _); refine wz1 ?_) | (show HW1 (.assign _); refine wz2 ?_) | (show HW1 (.binOp .sub _ _ _ _); refine wz35 ?_) | (show HW1 (.binOp .gtr _ _ _ _); refine wz33 ?_)) | (show WalkTo _ _ _ _ (_ :: _) _ _ _; first | (show HW2 (.move _); refine wz20 ?_) | (show HW2 (.binOp .sub _ _ _ _); refine wz72 ?_) | (show HW2 (.indexAddr _ _ _); refine wz55 ?_) | (show HW2 (.load _ _); refine wz54 ?_) | (show HW2 (.store _ _ _); refine wz89 ?_)) | refine go1 ?_ | refine end_block_other rfl ?_ | refine end_scope (fun _ h => by cases h) ?_ | (refine walk_endD ?_ ?_; (· kernel_rfl)) | refine tri_yesA rfl ?_ | refine tri_noA rfl ?_ | refine tri_trueA rfl ?_ | refine tri_falseA rfl ?_)
      exact nx _ (by omega) (by omega) (by exact ent_kp)
    · obtain rfl : t = i - p := by omega
      rw [hf]
      clear next hst hlen hf hlen0
      repeat (first | (show Walk1 _ _ _ (_ :: _) _ _; first | (show HW1 (.move _); refine wz1 ?_) | (show HW1 (.binOp .gtr _ _ _ _); refine wz33 ?_)) | refine go1 ?_ | refine end_block_other rfl ?_ | refine end_scope (fun _ h => by cases h) ?_ | (refine walk_endD ?_ ?_; (· kernel_rfl)) | refine tri_yesA rfl ?_ | refine tri_noA rfl ?_ | refine tri_trueA rfl ?_ | refine tri_falseA rfl ?_)
      refine end_ret _ (res_none rfl) ?_
      exact fin_obj rfl rfl (fun _ => rfl) (fun _ => rfl)
end Go.Proofs.Ytcookaiakfbdiaa
namespace Go.Proofs.Ytcookaiakfbdiaa
open Go.RowKit
set_option maxRecDepth 100000
set_option maxHeartbeats 1000000
/-- One state behind a piece of code, whichever way it goes. -/
theorem tri_cut2 {C : Ctx} {P : Program} {S : St} {x y : Code} {Q : Exit → Act → World → Prop} (S1 : St) (h1 : ∀ K : Act → World → Prop, (∀ S', Ents C S' S1 → EndA C S' K) → Tri C P S x (Exit.then K Q)) (h2 : Tri C P S1 y Q) : Tri C P S x (Exit.then (fun a w => y.wp P Q a w) Q) :=
  h1 _ fun _ hE => end_ent hE h2
theorem tri_cut3 {C : Ctx} {P : Program} {S : St} {x y : Code} {Q : Exit → Act → World → Prop} (S1 : St) (h1 : ∀ K : Act → World → Prop, (∀ S', Ents C S' S1 → EndA C S' K) → Tri C P S x (Exit.then K Q)) (h2 : Tri C P S1 y Q) : Tri C P S (.seq x y) Q := tri_seq (tri_cut2 S1 h1 h2)
theorem sym_plan {key : Nat → Int} {P A B Q L0 : List Nat} (hL0 : L0 = P ++ (A ++ (B ++ Q))) (hA : SrtK key A) (hB : SrtK key B) {p m e mid n s0 r0 s : Nat} (hp : p = P.length) (hm : m = p + A.length) (he : e = m + B.length) (hmid : mid = (p + e) / 2) (hn : n = mid + m) (h2A : 2 ≤ A.length) (h2B : 2 ≤ B.length)
    (h0 : (mid < m ∧ s0 = n - e ∧ r0 = mid) ∨ (¬ mid < m ∧ s0 = p ∧ r0 = m)) (h1 : s0 ≤ s) (h2 : s ≤ r0) (h3 : s = s0 ∨ ¬ key (gtN L0 (n - 1 - (s - 1))) < key (gtN L0 (s - 1))) (h4 : s = r0 ∨ key (gtN L0 (n - 1 - s)) < key (gtN L0 s)) :
    ∃ A1 A2 B1 B2, A = A1 ++ A2 ∧ B = B1 ++ B2 ∧ A1.length = s - p ∧ p ≤ s ∧ s ≤ m ∧ B1.length = n - s - m ∧ m ≤ n - s ∧ n - s ≤ e ∧ s ≤ n ∧ SrtK key A1 ∧ SrtK key A2 ∧ SrtK key B1 ∧ SrtK key B2 ∧ sortK key (A1 ++ B1) ++ sortK key (A2 ++ B2) = sortK key (A ++ B) := by
  have gA : ∀ u, u < A.length → gtN L0 (p + u) = gtN A u := fun u hu => by
    rw [hL0, hp, gtN_app2, gtN_app1 _ _ _ hu]
  have gB : ∀ u, u < B.length → gtN L0 (m + u) = gtN B u := fun u hu => by
    rw [hL0, ← List.append_assoc, show m + u = (P ++ A).length + u by simp; omega, gtN_app2, gtN_app1 _ _ _ hu]
  have b1 : p ≤ s := by omega
  have b2 : s ≤ m := by omega
  have b3 : m ≤ n - s := by omega
  have b4 : n - s ≤ e := by omega
  have b5 : s ≤ n := by omega
  have eA : A.take (s - p) ++ A.drop (s - p) = A := List.take_append_drop _ _
  have eB : B.take (n - s - m) ++ B.drop (n - s - m) = B := List.take_append_drop _ _
  have lA : (A.take (s - p)).length = s - p := by simp; omega
  have lB : (B.take (n - s - m)).length = n - s - m := by simp; omega
  have sA := List.pairwise_append.1 (by rw [eA]; exact hA : SrtK key (A.take (s - p) ++ A.drop (s - p)))
  have sB := List.pairwise_append.1 (by rw [eB]; exact hB : SrtK key (B.take (n - s - m) ++ B.drop (n - s - m)))
  have strict : ∀ u ∈ A.drop (s - p), ∀ v ∈ B.take (n - s - m), key v < key u := by
    intro u hu v hv
    obtain ⟨i, hi1, hi2, rfl⟩ := mem_drop_gt hu
    obtain ⟨j, hj1, hj2, rfl⟩ := mem_take_gt hv
    rcases h4 with h4 | h4
    · exfalso; omega
    · rw [show s = p + (s - p) by omega, gA (s - p) (by omega), show n - 1 - (p + (s - p)) = m + (n - s - m - 1) by omega, gB _ (by omega)] at h4
      have := srt_gt hA hi1 hi2
      have := srt_gt hB (show j ≤ n - s - m - 1 by omega) (by omega)
      omega
  have loose : ∀ u ∈ A.take (s - p), ∀ v ∈ B.drop (n - s - m), key u ≤ key v := by
    intro u hu v hv
    obtain ⟨i, hi1, hi2, rfl⟩ := mem_take_gt hu
    obtain ⟨j, hj1, hj2, rfl⟩ := mem_drop_gt hv
    rcases h3 with h3 | h3
    · exfalso; omega
    · rw [show n - 1 - (s - 1) = m + (n - s - m) by omega, gB _ (by omega), show s - 1 = p + (s - p - 1) by omega, gA _ (by omega)] at h3
      have := srt_gt hA (show i ≤ s - p - 1 by omega) (by omega)
      have := srt_gt hB hj1 hj2
      omega
  refine ⟨A.take (s - p), A.drop (s - p), B.take (n - s - m), B.drop (n - s - m), eA.symm, eB.symm, lA, b1, b2, lB, b3, b4, b5, sA.1, sA.2.1, sB.1, sB.2.1, ?_⟩
  generalize A.take (s - p) = A1 at *
  generalize A.drop (s - p) = A2 at *
  generalize B.take (n - s - m) = B1 at *
  generalize B.drop (n - s - m) = B2 at *
  subst eA eB
  refine sortK_is (SrtK.app (sortK_ok _).1 (sortK_ok _).1 fun x hx y hy => ?_) ?_
  · rw [sortK_mem, List.mem_append] at hx hy
    rcases hx with hx | hx <;> rcases hy with hy | hy
    · exact sA.2.2 x hx y hy
    · exact loose x hx y hy
    · have := strict y hy x hx; omega
    · exact sB.2.2 x hx y hy
  · refine ((sortK_ok (A1 ++ B1)).2.app (sortK_ok (A2 ++ B2)).2).trans ?_
    have := ((SameK.refl (key := key) A1).app (SameK.turn (u := B1) (v := A2) fun x hx y hy => by have := strict y hy x hx; omega)).app (SameK.refl B2)
    simpa using this
attribute [local irreducible] Calls Walk1 WalkTo Tri EndA
theorem symM_any (pre post : List Value) (N cap b : Nat) (cv : Value) (key : Nat → Int) (c : Nat → Nat → Int) (M : Nat) (hc : ∀ x y, x < M → y < M → (c x y < 0 ↔ key x < key y)) (hM : 0 < M) (hs : N ≤ 1099511627776) : ∀ (fuel : Nat) (P A B Q : List Nat) (p m e : Nat) (w : World), A.length + B.length ≤ fuel → 0 < A.length → 0 < B.length → (∀ y ∈ P ++ (A ++ (B ++ Q)), y < M) →
    p = P.length → m = p + A.length → e = m + B.length → N = e + Q.length → CmpOK w [b] cv M c → SrtK key A → SrtK key B → Blk w b (segA pre post (P ++ (A ++ (B ++ Q)))) 3 →
    Calls Try.prog 73 #[.slice (some ⟨b, pre.length, none⟩) N cap, .int .i64 ((p : Nat) : Int), .int .i64 ((m : Nat) : Int), .int .i64 ((e : Nat) : Int), cv] w (RetP w b 3 (segA pre post (P ++ (sortK key (A ++ B) ++ Q))) (.tuple #[])) := by
  intro fuel
  induction fuel with
  | zero => intro P A B Q p m e w h1 h2; omega
  | succ fuel ih =>
    intro P A B Q p m e w hfu hA0 hB0 hd hp hm he hN hC hSA hSB hB
    by_cases h1A : A.length = 1
    · obtain ⟨x, rfl⟩ := List.length_eq_one_iff.1 h1A
      exact symM_one pre post P x B Q N cap p m e b cv w key c M hc hM (by simpa using hd) hp (by simpa using hm) he hN hs hC hSB (by simpa using hB)
    by_cases h1B : B.length = 1
    · obtain ⟨x, rfl⟩ := List.length_eq_one_iff.1 h1B
      exact symM_two pre post P x A Q N cap p m e b cv w key c M hc hM (by simpa using hd) hp hm h1A (by simpa using he) hN hs hC hSA (by simpa using hB)
    obtain ⟨L0, hL0⟩ : ∃ l, l = P ++ (A ++ (B ++ Q)) := ⟨_, rfl⟩
    obtain ⟨mid, hmid⟩ : ∃ x, x = (p + e) / 2 := ⟨_, rfl⟩
    obtain ⟨n, hn⟩ : ∃ x, x = mid + m := ⟨_, rfl⟩
    have plan := fun s0 r0 s => sym_plan (s0 := s0) (r0 := r0) (s := s) hL0 hSA hSB hp hm he hmid hn (by omega) (by omega)
    have hdg : ∀ j, gtN L0 j < M := fun j => gtN_lt hM (by rw [hL0]; exact hd) j
    have hlen0 : L0.length = N := by rw [hL0]; simp; omega
    obtain ⟨s0, r0, h0⟩ : ∃ s0 r0, (mid < m ∧ s0 = n - e ∧ r0 = mid) ∨ (¬ mid < m ∧ s0 = p ∧ r0 = m) := by
      by_cases h : mid < m
      · exact ⟨n - e, mid, .inl ⟨h, rfl, rfl⟩⟩
      · exact ⟨p, m, .inr ⟨h, rfl, rfl⟩⟩
    rw [← hL0] at hB
    have heN : e ≤ N := by omega
    have b1 : p + 2 ≤ m := by omega
    have b2 : m + 2 ≤ e := by omega
    refine calls_triI hB Try.func73 rfl Try.ntmps73 rfl ?_
    repeat (first | (show Walk1 _ _ _ (_ :: _) _ _; first | (show HW1 (.move _); refine wz1 ?_) | (show HW1 (.assign _); first | refine wz13 ?_ | refine wz2 ?_) | (show HW1 (.binOp .add _ _ _ _); refine wz10 ?_) | (show HW1 (.binOp .sub _ _ _ _); refine wz35 ?_) | (show HW1 (.binOp .gtr _ _ _ _); refine wz33 ?_) | (show HW1 (.binOp .eql _ _ _ _); refine wz30 ?_) | (show HW1 (.binOp .shr _ _ _ _); refine wz68 ?_) | (show HW1 (.convert _ _ _); first | refine wz66 ?_ | refine wz65 ?_)) | refine go1 ?_ | refine end_block_other rfl ?_ | refine end_scope (fun _ h => by cases h) ?_ | (refine walk_endD ?_ ?_; (· kernel_rfl)) | refine tri_yesA rfl ?_ | refine tri_noA rfl ?_ | refine tri_trueA rfl ?_ | refine tri_falseA rfl ?_)
    rw [← hmid, ← hn]
    refine tri_cut2 ⟨[(18, SV.c (.int .i64 ((mid : Nat) : Int))), (19, SV.c (.int .i64 ((n : Nat) : Int))), (20, SV.c (.int .i64 ((s0 : Nat) : Int))), (21, SV.c (.int .i64 ((r0 : Nat) : Int))), (0, .c (.slice (some ⟨b, pre.length, none⟩) N cap)), (1, SV.c (.int .i64 ((p : Nat) : Int))), (2, SV.c (.int .i64 ((m : Nat) : Int))), (3, SV.c (.int .i64 ((e : Nat) : Int))), (4, .c cv)], [(1000, some (.blk 1000 3 (.c (segA pre post L0)))), (1001, some (.is 1000 b))]⟩ (fun K hK => ?_) ?_
    · clear plan ih
      rcases h0 with ⟨h, rfl, rfl⟩ | ⟨h, rfl, rfl⟩
      · repeat (first | (show Walk1 _ _ _ (_ :: _) _ _; first | (show HW1 (.move _); refine wz1 ?_) | (show HW1 (.assign _); refine wz2 ?_) | (show HW1 (.binOp .sub _ _ _ _); refine wz35 ?_)) | refine go1 ?_ | refine end_block_other rfl ?_ | refine end_scope (fun _ h => by cases h) ?_ | (refine walk_endD ?_ ?_; (· kernel_rfl)) | refine tri_yesA rfl ?_ | refine tri_noA rfl ?_ | refine tri_trueA rfl ?_ | refine tri_falseA rfl ?_)
        exact hK _ (by exact ent_kp)
      · repeat (first | (show Walk1 _ _ _ (_ :: _) _ _; first | (show HW1 (.move _); refine wz1 ?_) | (show HW1 (.assign _); refine wz2 ?_)) | refine go1 ?_ | refine end_block_other rfl ?_ | refine end_scope (fun _ h => by cases h) ?_ | (refine walk_endD ?_ ?_; (· kernel_rfl)) | refine tri_yesA rfl ?_ | refine tri_noA rfl ?_ | refine tri_trueA rfl ?_ | refine tri_falseA rfl ?_)
        exact hK _ (by exact ent_kp)
    repeat (first | (show Walk1 _ _ _ (_ :: _) _ _; first | (show HW1 (.move _); refine wz1 ?_) | (show HW1 (.assign _); refine wz2 ?_) | (show HW1 (.binOp .sub _ _ _ _); refine wz35 ?_)) | refine go1 ?_ | refine end_block_other rfl ?_ | refine end_scope (fun _ h => by cases h) ?_ | (refine walk_endD ?_ ?_; (· kernel_rfl)) | refine tri_yesA rfl ?_ | refine tri_noA rfl ?_ | refine tri_trueA rfl ?_ | refine tri_falseA rfl ?_)
    refine tri_loop (X := Nat × Nat) (fun z => ⟨[(22, SV.c (.int .i64 ((n - 1 : Nat) : Int))), (18, SV.c (.int .i64 ((mid : Nat) : Int))), (19, SV.c (.int .i64 ((n : Nat) : Int))), (20, SV.c (.int .i64 ((z.1 : Nat) : Int))), (21, SV.c (.int .i64 ((z.2 : Nat) : Int))), (0, .c (.slice (some ⟨b, pre.length, none⟩) N cap)), (1, SV.c (.int .i64 ((p : Nat) : Int))), (2, SV.c (.int .i64 ((m : Nat) : Int))), (3, SV.c (.int .i64 ((e : Nat) : Int))), (4, .c cv)], [(1000, some (.blk 1000 3 (.c (segA pre post L0)))), (1001, some (.is 1000 b))]⟩)
      (fun z => s0 ≤ z.1 ∧ z.1 ≤ z.2 ∧ z.2 ≤ r0 ∧ (z.1 = s0 ∨ ¬ key (gtN L0 (n - 1 - (z.1 - 1))) < key (gtN L0 (z.1 - 1))) ∧ (z.2 = r0 ∨ key (gtN L0 (n - 1 - z.2)) < key (gtN L0 z.2))) (fun z => z.2 - z.1) (s0, r0) ⟨by omega, by dsimp only; omega, by omega, .inl rfl, .inl rfl⟩ (by exact ent_kp) ?_
    rintro ⟨i, j⟩ ⟨g1, g2, g3, g4, g5⟩ K next
    dsimp only at g1 g2 g3 g4 g5 next ⊢
    by_cases h : i < j
    · have d1 := hdg ((i + j) / 2)
      have d2 := hdg (n - 1 - (i + j) / 2)
      have hcc := hc _ _ d2 d1
      have nx1 := fun S' => next S' ((i + j) / 2 + 1, j)
      have nx2 := fun S' => next S' (i, (i + j) / 2)
      have hb : s0 ≤ (i + j) / 2 ∧ (i + j) / 2 < r0 ∧ (i + j) / 2 + 1 ≤ n ∧ n - 1 - (i + j) / 2 < N ∧ (i + j) / 2 < N := by omega
      clear next plan ih hd
      by_cases hk : key (gtN L0 (n - 1 - (i + j) / 2)) < key (gtN L0 ((i + j) / 2))
      · have hcx := hcc.2 hk
        repeat (first | (show Walk1 _ _ _ (_ :: _) _ _; first | (show HW1 (.move _); refine wz1 ?_) | (show HW1 (.assign _); refine wz2 ?_) | (show HW1 (.binOp .add _ _ _ _); refine wz10 ?_) | (show HW1 (.binOp .lss _ _ _ _); refine wz5 ?_) | (show HW1 (.binOp .shr _ _ _ _); refine wz68 ?_) | (show HW1 (.convert _ _ _); first | refine wz66 ?_ | refine wz65 ?_)) | (show WalkTo _ _ _ _ (_ :: _) _ _ _; first | (show HW2 (.move _); refine wz20 ?_) | (show HW2 (.binOp .sub _ _ _ _); refine wz72 ?_) | (show HW2 (.binOp .lss _ _ _ _); refine wz56 ?_) | (show HW2 (.unOp _ _ _); refine wz77 ?_) | (show HW2 (.indexAddr _ _ _); refine wz55 ?_) | (show HW2 (.load _ _); refine wz54 ?_) | (show HW2 (.call ⟨.value (.tmp _), _, _⟩); refine wz93 ?_)) | refine go1 ?_ | refine end_block_other rfl ?_ | refine end_scope (fun _ h => by cases h) ?_ | (refine walk_endD ?_ ?_; (· kernel_rfl)) | refine tri_yesA rfl ?_ | refine tri_noA rfl ?_ | refine tri_trueA rfl ?_ | refine tri_falseA rfl ?_)
        refine tri_false rfl (by simpa using hcx) ?_
        repeat (first | (show Walk1 _ _ _ (_ :: _) _ _; first | (show HW1 (.move _); refine wz1 ?_) | (show HW1 (.assign _); refine wz2 ?_)) | refine go1 ?_ | refine end_block_other rfl ?_ | refine end_scope (fun _ h => by cases h) ?_ | (refine walk_endD ?_ ?_; (· kernel_rfl)) | refine tri_yesA rfl ?_ | refine tri_noA rfl ?_ | refine tri_trueA rfl ?_ | refine tri_falseA rfl ?_)
        exact nx2 _ ⟨g1, by dsimp only; omega, by dsimp only; omega, g4, .inr hk⟩ (by dsimp only; omega) (by exact ent_kp)
      · have hcx := fun h => hk (hcc.1 h)
        repeat (first | (show Walk1 _ _ _ (_ :: _) _ _; first | (show HW1 (.move _); refine wz1 ?_) | (show HW1 (.assign _); refine wz2 ?_) | (show HW1 (.binOp .add _ _ _ _); refine wz10 ?_) | (show HW1 (.binOp .lss _ _ _ _); refine wz5 ?_) | (show HW1 (.binOp .shr _ _ _ _); refine wz68 ?_) | (show HW1 (.convert _ _ _); first | refine wz66 ?_ | refine wz65 ?_)) | (show WalkTo _ _ _ _ (_ :: _) _ _ _; first | (show HW2 (.move _); refine wz20 ?_) | (show HW2 (.binOp .sub _ _ _ _); refine wz72 ?_) | (show HW2 (.binOp .lss _ _ _ _); refine wz56 ?_) | (show HW2 (.unOp _ _ _); refine wz77 ?_) | (show HW2 (.indexAddr _ _ _); refine wz55 ?_) | (show HW2 (.load _ _); refine wz54 ?_) | (show HW2 (.call ⟨.value (.tmp _), _, _⟩); refine wz93 ?_)) | refine go1 ?_ | refine end_block_other rfl ?_ | refine end_scope (fun _ h => by cases h) ?_ | (refine walk_endD ?_ ?_; (· kernel_rfl)) | refine tri_yesA rfl ?_ | refine tri_noA rfl ?_ | refine tri_trueA rfl ?_ | refine tri_falseA rfl ?_)
        refine tri_true rfl (by simpa using hcx) ?_
        repeat (first | (show Walk1 _ _ _ (_ :: _) _ _; first | (show HW1 (.move _); refine wz1 ?_) | (show HW1 (.assign _); refine wz2 ?_) | (show HW1 (.binOp .add _ _ _ _); refine wz10 ?_)) | refine go1 ?_ | refine end_block_other rfl ?_ | refine end_scope (fun _ h => by cases h) ?_ | (refine walk_endD ?_ ?_; (· kernel_rfl)) | refine tri_yesA rfl ?_ | refine tri_noA rfl ?_ | refine tri_trueA rfl ?_ | refine tri_falseA rfl ?_)
        exact nx1 _ ⟨by dsimp only; omega, by dsimp only; omega, g3, .inr (by simpa using hk), g5⟩ (by dsimp only; omega) (by exact ent_kp)
    · obtain rfl : i = j := by omega
      obtain ⟨A1, A2, B1, B2, rfl, rfl, l1, q1, q2, l2, q3, q4, q5, sA1, sA2, sB1, sB2, hfin⟩ := plan s0 r0 i h0 g1 g3 g4 g5
      obtain ⟨L1, hL1⟩ : ∃ l, l = P ++ (A1 ++ (B1 ++ (A2 ++ (B2 ++ Q)))) := ⟨_, rfl⟩
      obtain ⟨L2, hL2⟩ : ∃ l, l = P ++ (sortK key (A1 ++ B1) ++ (A2 ++ (B2 ++ Q))) := ⟨_, rfl⟩
      obtain ⟨L3, hL3⟩ : ∃ l, l = P ++ (sortK key (A1 ++ A2 ++ (B1 ++ B2)) ++ Q) := ⟨_, rfl⟩
      have hL3' : L3 = (P ++ sortK key (A1 ++ B1)) ++ (sortK key (A2 ++ B2) ++ Q) := by rw [hL3, ← hfin]; simp
      have lA2 : A2.length = m - i := by simp at hm; omega
      have lB2 : B2.length = e - (n - i) := by simp at he; omega
      have sl : (sortK key (A1 ++ B1)).length = mid - p := by rw [sortK_len, List.length_append]; omega
      have c1 : i < m → m < n - i → ∀ w, Blk w b (segA pre post L0) 3 → Calls Try.prog 76 #[.slice (some ⟨b, pre.length, none⟩) N cap, .int .i64 ((i : Nat) : Int), .int .i64 ((m : Nat) : Int), .int .i64 ((n - i : Nat) : Int), cv] w (RetP w b 3 (segA pre post L1) (.tuple #[])) := by
        intro h1 h2 w hB
        have := rotate_any pre post (P ++ A1) A2 B1 (B2 ++ Q) N cap i m (n - i) b cv w (by omega) (by omega) (by rw [List.length_append]; omega) (by rw [List.length_append]; omega) (by rw [List.length_append]; omega) (by rw [List.length_append, List.length_append]; omega) hs (by rw [hL0] at hB; simpa using hB)
        rw [hL1]
        simpa using this
      have n1 : ¬ (i < m ∧ m < n - i) → L0 = L1 := by
        intro h
        rw [hL0, hL1]
        by_cases h2 : i < m
        · rw [List.eq_nil_of_length_eq_zero (show B1.length = 0 by omega)]; simp
        · rw [List.eq_nil_of_length_eq_zero (show A2.length = 0 by omega)]; simp
      have c2 : p < i → i < mid → ∀ w, CmpOK w [b] cv M c → Blk w b (segA pre post L1) 3 → Calls Try.prog 73 #[.slice (some ⟨b, pre.length, none⟩) N cap, .int .i64 ((p : Nat) : Int), .int .i64 ((i : Nat) : Int), .int .i64 ((mid : Nat) : Int), cv] w (RetP w b 3 (segA pre post L2) (.tuple #[])) := by
        intro h1 h2 w hC hB
        have := ih P A1 B1 (A2 ++ (B2 ++ Q)) p i mid w (by omega) (by omega) (by omega) (fun y hy => hd y (by simp only [List.mem_append] at hy ⊢; rcases hy with hy | hy | hy | hy | hy | hy <;> simp [hy])) hp (by omega) (by omega) (by rw [List.length_append, List.length_append]; omega) hC sA1 sB1 (by rw [hL1] at hB; exact hB)
        rw [hL2]
        exact this
      have n2 : ¬ (p < i ∧ i < mid) → L1 = L2 := by
        intro h
        rw [hL1, hL2]
        by_cases h2 : p < i
        · rw [List.eq_nil_of_length_eq_zero (show B1.length = 0 by omega), List.append_nil, sortK_self sA1]; simp
        · rw [List.eq_nil_of_length_eq_zero (show A1.length = 0 by omega)]; simp only [List.nil_append]; rw [sortK_self sB1]
      have c3 : mid < n - i → n - i < e → ∀ w, CmpOK w [b] cv M c → Blk w b (segA pre post L2) 3 → Calls Try.prog 73 #[.slice (some ⟨b, pre.length, none⟩) N cap, .int .i64 ((mid : Nat) : Int), .int .i64 ((n - i : Nat) : Int), .int .i64 ((e : Nat) : Int), cv] w (RetP w b 3 (segA pre post L3) (.tuple #[])) := by
        intro h1 h2 w hC hB
        have := ih (P ++ sortK key (A1 ++ B1)) A2 B2 Q mid (n - i) e w (by omega) (by omega) (by omega) (fun y hy => hd y (by simp only [List.mem_append, sortK_mem] at hy ⊢; rcases hy with (hy | hy | hy) | hy | hy | hy <;> simp [hy])) (by rw [List.length_append]; omega) (by omega) (by omega) hN hC sA2 sB2 (by rw [hL2] at hB; simpa using hB)
        rw [hL3']
        exact this
      have n3 : ¬ (mid < n - i ∧ n - i < e) → L2 = L3 := by
        intro h
        rw [hL2, hL3']
        by_cases h2 : mid < n - i
        · rw [List.eq_nil_of_length_eq_zero (show B2.length = 0 by omega), List.append_nil, sortK_self sA2]; simp
        · rw [List.eq_nil_of_length_eq_zero (show A2.length = 0 by omega)]; simp only [List.nil_append]; rw [sortK_self sB2]; simp
      rw [← hL3]
      clear plan ih hd next hL0 hL1 hL2 hL3 hL3' hfin hm he sA1 sB1 sA2 sB2 hSA hSB hA0 hB0 h1A h1B hfu sl lA2 lB2 l1 l2 hdg g4 g5 hp
      iterate 22 (try (first | (show Walk1 _ _ _ (_ :: _) _ _; first | (show HW1 (.move _); refine wz1 ?_) | (show HW1 (.assign _); refine wz2 ?_) | (show HW1 (.binOp .sub _ _ _ _); refine wz35 ?_) | (show HW1 (.binOp .lss _ _ _ _); refine wz5 ?_)) | refine go1 ?_ | refine end_block_other rfl ?_ | refine end_scope (fun _ h => by cases h) ?_ | (refine walk_endD ?_ ?_; (· kernel_rfl)) | refine tri_yesA rfl ?_ | refine tri_noA rfl ?_ | refine tri_trueA rfl ?_ | refine tri_falseA rfl ?_))
      refine tri_cut3 ⟨[(24, SV.c (.int .i64 ((n - i : Nat) : Int))), (18, SV.c (.int .i64 ((mid : Nat) : Int))), (20, SV.c (.int .i64 ((i : Nat) : Int))), (0, .c (.slice (some ⟨b, pre.length, none⟩) N cap)), (1, SV.c (.int .i64 ((p : Nat) : Int))), (2, SV.c (.int .i64 ((m : Nat) : Int))), (3, SV.c (.int .i64 ((e : Nat) : Int))), (4, .c cv)], [(1000, some (.blk 1000 3 (.c (segA pre post L1)))), (1001, some (.is 1000 b))]⟩ (fun K hK => ?_) ?_
      · by_cases h1 : i < m
        · by_cases h2 : m < n - i
          · have cc := c1 h1 h2
            clear n1 n2 n3 c1 c2 c3
            repeat (first | (show Walk1 _ _ _ (_ :: _) _ _; first | (show Walk1 _ _ _ (⟨_, _, _, _, _, some _⟩ :: _) _ _; refine zy1 ?_) | (show HW1 (.move _); refine wz1 ?_) | (show HW1 (.binOp .lss _ _ _ _); refine wz5 ?_) | (show HW1 (.pick _ _ _); refine wz8 ?_) | (show HW1 (.call ⟨.value (.func 76), _, _⟩); (first | refine walk1_tb (op_callW rfl rfl rfl evq rfl rfl rfl (fun _ => rfl) (fun w hF hB => cc w hB)) ?_ | refine walk1_b (op_callW rfl rfl rfl evq rfl rfl rfl (fun _ => rfl) (fun w hF hB => cc w hB)) ?_))) | refine go1 ?_ | refine end_block_other rfl ?_ | refine end_scope (fun _ h => by cases h) ?_ | (refine walk_endD ?_ ?_; (· kernel_rfl)) | refine tri_yesA rfl ?_ | refine tri_noA rfl ?_ | refine tri_trueA rfl ?_ | refine tri_falseA rfl ?_)
            exact hK _ (by exact ent_kp)
          · rw [n1 (fun h => h2 h.2)] at *
            clear n1 n2 n3 c1 c2 c3
            repeat (first | (show Walk1 _ _ _ (_ :: _) _ _; first | (show Walk1 _ _ _ (⟨_, _, _, _, _, some _⟩ :: _) _ _; refine zy1 ?_) | (show HW1 (.move _); refine wz1 ?_) | (show HW1 (.binOp .lss _ _ _ _); refine wz5 ?_) | (show HW1 (.pick _ _ _); refine wz8 ?_)) | refine go1 ?_ | refine end_block_other rfl ?_ | refine end_scope (fun _ h => by cases h) ?_ | (refine walk_endD ?_ ?_; (· kernel_rfl)) | refine tri_yesA rfl ?_ | refine tri_noA rfl ?_ | refine tri_trueA rfl ?_ | refine tri_falseA rfl ?_)
            exact hK _ (by exact ent_kp)
        · rw [n1 (fun h => h1 h.1)] at *
          clear n1 n2 n3 c1 c2 c3
          repeat (first | (show Walk1 _ _ _ (_ :: _) _ _; first | (show Walk1 _ _ _ (⟨_, _, _, _, _, some _⟩ :: _) _ _; refine zn1 ?_) | (show HW1 (.move _); refine wz1 ?_) | (show HW1 (.binOp .lss _ _ _ _); refine wz5 ?_) | (show HW1 (.pick _ _ _); refine wz7 ?_)) | refine go1 ?_ | refine end_block_other rfl ?_ | refine end_scope (fun _ h => by cases h) ?_ | (refine walk_endD ?_ ?_; (· kernel_rfl)) | refine tri_yesA rfl ?_ | refine tri_noA rfl ?_ | refine tri_trueA rfl ?_ | refine tri_falseA rfl ?_)
          exact hK _ (by exact ent_kp)
      refine tri_cut3 ⟨[(24, SV.c (.int .i64 ((n - i : Nat) : Int))), (18, SV.c (.int .i64 ((mid : Nat) : Int))), (20, SV.c (.int .i64 ((i : Nat) : Int))), (0, .c (.slice (some ⟨b, pre.length, none⟩) N cap)), (1, SV.c (.int .i64 ((p : Nat) : Int))), (2, SV.c (.int .i64 ((m : Nat) : Int))), (3, SV.c (.int .i64 ((e : Nat) : Int))), (4, .c cv)], [(1000, some (.blk 1000 3 (.c (segA pre post L2)))), (1001, some (.is 1000 b))]⟩ (fun K hK => ?_) ?_
      · by_cases h1 : p < i
        · by_cases h2 : i < mid
          · have cc := c2 h1 h2
            clear n1 n2 n3 c1 c2 c3
            repeat (first | (show Walk1 _ _ _ (_ :: _) _ _; first | (show Walk1 _ _ _ (⟨_, _, _, _, _, some _⟩ :: _) _ _; refine zy1 ?_) | (show HW1 (.move _); refine wz1 ?_) | (show HW1 (.binOp .lss _ _ _ _); refine wz5 ?_) | (show HW1 (.pick _ _ _); refine wz8 ?_) | (show HW1 (.call ⟨.value (.func 73), _, _⟩); (first | refine walk1_tb (op_callW rfl rfl rfl evq rfl rfl rfl (fun _ => rfl) (fun w hF hB => cc w (hC.later hF) hB)) ?_ | refine walk1_b (op_callW rfl rfl rfl evq rfl rfl rfl (fun _ => rfl) (fun w hF hB => cc w (hC.later hF) hB)) ?_))) | refine go1 ?_ | refine end_block_other rfl ?_ | refine end_scope (fun _ h => by cases h) ?_ | (refine walk_endD ?_ ?_; (· kernel_rfl)) | refine tri_yesA rfl ?_ | refine tri_noA rfl ?_ | refine tri_trueA rfl ?_ | refine tri_falseA rfl ?_)
            exact hK _ (by exact ent_kp)
          · rw [n2 (fun h => h2 h.2)] at *
            clear n1 n2 n3 c1 c2 c3
            repeat (first | (show Walk1 _ _ _ (_ :: _) _ _; first | (show Walk1 _ _ _ (⟨_, _, _, _, _, some _⟩ :: _) _ _; refine zy1 ?_) | (show HW1 (.move _); refine wz1 ?_) | (show HW1 (.binOp .lss _ _ _ _); refine wz5 ?_) | (show HW1 (.pick _ _ _); refine wz8 ?_)) | refine go1 ?_ | refine end_block_other rfl ?_ | refine end_scope (fun _ h => by cases h) ?_ | (refine walk_endD ?_ ?_; (· kernel_rfl)) | refine tri_yesA rfl ?_ | refine tri_noA rfl ?_ | refine tri_trueA rfl ?_ | refine tri_falseA rfl ?_)
            exact hK _ (by exact ent_kp)
        · rw [n2 (fun h => h1 h.1)] at *
          clear n1 n2 n3 c1 c2 c3
          repeat (first | (show Walk1 _ _ _ (_ :: _) _ _; first | (show Walk1 _ _ _ (⟨_, _, _, _, _, some _⟩ :: _) _ _; refine zn1 ?_) | (show HW1 (.move _); refine wz1 ?_) | (show HW1 (.binOp .lss _ _ _ _); refine wz5 ?_) | (show HW1 (.pick _ _ _); refine wz7 ?_)) | refine go1 ?_ | refine end_block_other rfl ?_ | refine end_scope (fun _ h => by cases h) ?_ | (refine walk_endD ?_ ?_; (· kernel_rfl)) | refine tri_yesA rfl ?_ | refine tri_noA rfl ?_ | refine tri_trueA rfl ?_ | refine tri_falseA rfl ?_)
          exact hK _ (by exact ent_kp)
      by_cases h1 : mid < n - i
      · by_cases h2 : n - i < e
        · have cc := c3 h1 h2
          clear n1 n2 n3 c1 c2 c3
          repeat (first | (show Walk1 _ _ _ (_ :: _) _ _; first | (show Walk1 _ _ _ (⟨_, _, _, _, _, some _⟩ :: _) _ _; refine zy1 ?_) | (show HW1 (.move _); refine wz1 ?_) | (show HW1 (.binOp .lss _ _ _ _); refine wz5 ?_) | (show HW1 (.pick _ _ _); refine wz8 ?_) | (show HW1 (.call ⟨.value (.func 73), _, _⟩); (first | refine walk1_tb (op_callW rfl rfl rfl evq rfl rfl rfl (fun _ => rfl) (fun w hF hB => cc w (hC.later hF) hB)) ?_ | refine walk1_b (op_callW rfl rfl rfl evq rfl rfl rfl (fun _ => rfl) (fun w hF hB => cc w (hC.later hF) hB)) ?_))) | refine go1 ?_ | refine end_block_other rfl ?_ | refine end_scope (fun _ h => by cases h) ?_ | (refine walk_endD ?_ ?_; (· kernel_rfl)) | refine tri_yesA rfl ?_ | refine tri_noA rfl ?_ | refine tri_trueA rfl ?_ | refine tri_falseA rfl ?_)
          refine end_normal _ (res_none rfl) ?_
          exact fin_obj rfl rfl (fun _ => rfl) (fun _ => rfl)
        · rw [n3 (fun h => h2 h.2)] at *
          clear n1 n2 n3 c1 c2 c3
          repeat (first | (show Walk1 _ _ _ (_ :: _) _ _; first | (show Walk1 _ _ _ (⟨_, _, _, _, _, some _⟩ :: _) _ _; refine zy1 ?_) | (show HW1 (.move _); refine wz1 ?_) | (show HW1 (.binOp .lss _ _ _ _); refine wz5 ?_) | (show HW1 (.pick _ _ _); refine wz8 ?_)) | refine go1 ?_ | refine end_block_other rfl ?_ | refine end_scope (fun _ h => by cases h) ?_ | (refine walk_endD ?_ ?_; (· kernel_rfl)) | refine tri_yesA rfl ?_ | refine tri_noA rfl ?_ | refine tri_trueA rfl ?_ | refine tri_falseA rfl ?_)
          refine end_normal _ (res_none rfl) ?_
          exact fin_obj rfl rfl (fun _ => rfl) (fun _ => rfl)
      · rw [n3 (fun h => h1 h.1)] at *
        clear n1 n2 n3 c1 c2 c3
        repeat (first | (show Walk1 _ _ _ (_ :: _) _ _; first | (show Walk1 _ _ _ (⟨_, _, _, _, _, some _⟩ :: _) _ _; refine zn1 ?_) | (show HW1 (.move _); refine wz1 ?_) | (show HW1 (.binOp .lss _ _ _ _); refine wz5 ?_) | (show HW1 (.pick _ _ _); refine wz7 ?_)) | refine go1 ?_ | refine end_block_other rfl ?_ | refine end_scope (fun _ h => by cases h) ?_ | (refine walk_endD ?_ ?_; (· kernel_rfl)) | refine tri_yesA rfl ?_ | refine tri_noA rfl ?_ | refine tri_trueA rfl ?_ | refine tri_falseA rfl ?_)
        refine end_normal _ (res_none rfl) ?_
        exact fin_obj rfl rfl (fun _ => rfl) (fun _ => rfl)
end Go.Proofs.Ytcookaiakfbdiaa
