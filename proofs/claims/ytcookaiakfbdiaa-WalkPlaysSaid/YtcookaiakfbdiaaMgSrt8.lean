/- A row sorted block by block, the blocks merged by pairs: walked. No condition. The library's sort that keeps the order of equals: walked. No condition. The box of some points: walked. No condition. The box of some triangles: walked. No condition. A few triangles are not parted; the middle of a triangle: walked. No condition. -/
import Derived.Test.YtcookaiakfbdiaaMgSrt5
import Derived.Test.YtcookaiakfbdiaaMgSymY
import Derived.Test.YtcookaiakfbdiaaMgSymK
import Derived.Test.YtcookaiakfbdiaaSymX
import Derived.Test.YtcookaiakfbdiaaMgSwp3
namespace Go.Proofs.Ytcookaiakfbdiaa
open Go.RowKit
set_option maxRecDepth 100000
set_option maxHeartbeats 1000000
def sgL (l : List Nat) (i k : Nat) : List Nat := (l.drop i).take k
theorem sg_left {P X : List Nat} {i k : Nat} (h : i + k ≤ P.length) : sgL (P ++ X) i k = sgL P i k := by
  unfold sgL
  rw [List.drop_append_of_le_length (by omega), List.take_append_of_le_length (by simp; omega)]
theorem sg_right {P X : List Nat} {i k : Nat} (h : P.length ≤ i) : sgL (P ++ X) i k = sgL X (i - P.length) k := by
  unfold sgL
  rw [List.drop_append, List.drop_of_length_le h, List.nil_append]
theorem sg_out {l : List Nat} {i k : Nat} (h : l.length ≤ i) : sgL l i k = [] := by
  unfold sgL
  rw [List.drop_of_length_le h, List.take_nil]
section
variable {key : Nat → Int}
theorem blk_ins {L : List Nat} {bs q0 : Nat} (k : Nat) (hk : q0 * bs + k ≤ L.length) (hk2 : k = bs ∨ (q0 * bs + k = L.length ∧ k ≤ bs)) (h : ∀ q, q < q0 → SrtK key (sgL L (q * bs) bs)) :
    ∃ P A Q, L = P ++ (A ++ Q) ∧ P.length = q0 * bs ∧ A.length = k ∧ (∀ q, q < q0 + 1 → SrtK key (sgL (P ++ (sortK key A ++ Q)) (q * bs) bs)) ∧ SameK key (P ++ (sortK key A ++ Q)) L := by
  obtain ⟨a, ha⟩ : ∃ a, a = q0 * bs := ⟨_, rfl⟩
  rw [← ha] at hk hk2 ⊢
  have e : L = L.take a ++ ((L.drop a).take k ++ (L.drop a).drop k) := by rw [List.take_append_drop, List.take_append_drop]
  have lP : (L.take a).length = a := by simp; omega
  have lA : ((L.drop a).take k).length = k := by simp; omega
  have lQ : k = bs ∨ (((L.drop a).drop k).length = 0 ∧ k ≤ bs) := by
    rcases hk2 with h2 | ⟨h2, h3⟩
    · exact .inl h2
    · right; exact ⟨by simp; omega, h3⟩
  generalize L.take a = P at *
  generalize (L.drop a).take k = A at *
  generalize (L.drop a).drop k = Q at *
  subst e
  refine ⟨P, A, Q, rfl, lP, lA, fun q hq => ?_, (SameK.refl P).app ((sortK_ok A).2.app (SameK.refl Q))⟩
  by_cases hq2 : q < q0
  · have hm : q * bs + bs ≤ a := by rw [ha, ← Nat.succ_mul]; exact Nat.mul_le_mul_right _ hq2
    have := h q hq2
    rw [sg_left (by omega)] at this ⊢
    exact this
  · obtain rfl : q = q0 := by omega
    rw [← ha, sg_right (by omega), lP, Nat.sub_self]
    have : sgL (sortK key A ++ Q) 0 bs = sortK key A := by
      unfold sgL
      rw [List.drop_zero]
      rcases lQ with h2 | ⟨h2, h3⟩
      · rw [List.take_append_of_le_length (by rw [sortK_len]; omega), List.take_of_length_le (by rw [sortK_len]; omega)]
      · rw [List.eq_nil_of_length_eq_zero h2, List.append_nil, List.take_of_length_le (by rw [sortK_len]; omega)]
    rw [this]
    exact (sortK_ok A).1
theorem blk_mrg {L : List Nat} {bs q0 : Nat} (k : Nat) (hk : q0 * (2 * bs) + bs + k ≤ L.length) (hk2 : k = bs ∨ (q0 * (2 * bs) + bs + k = L.length ∧ k ≤ bs)) (h : ∀ q, q < q0 → SrtK key (sgL L (q * (2 * bs)) (2 * bs))) (h' : ∀ q, 2 * q0 ≤ q → SrtK key (sgL L (q * bs) bs)) :
    ∃ P A B Q, L = P ++ (A ++ (B ++ Q)) ∧ P.length = q0 * (2 * bs) ∧ A.length = bs ∧ B.length = k ∧ SrtK key A ∧ SrtK key B ∧ (∀ q, q < q0 + 1 → SrtK key (sgL (P ++ (sortK key (A ++ B) ++ Q)) (q * (2 * bs)) (2 * bs))) ∧ (∀ q, 2 * (q0 + 1) ≤ q → SrtK key (sgL (P ++ (sortK key (A ++ B) ++ Q)) (q * bs) bs)) ∧ SameK key (P ++ (sortK key (A ++ B) ++ Q)) L := by
  obtain ⟨a, ha⟩ : ∃ a, a = q0 * (2 * bs) := ⟨_, rfl⟩
  rw [← ha] at hk hk2 ⊢
  have ha1 : 2 * q0 * bs = a := by rw [ha, Nat.mul_comm 2 q0, Nat.mul_assoc]
  have ha2 : (2 * q0 + 1) * bs = a + bs := by rw [Nat.succ_mul, ha1]
  have e : L = L.take a ++ ((L.drop a).take bs ++ (((L.drop a).drop bs).take k ++ ((L.drop a).drop bs).drop k)) := by rw [List.take_append_drop, List.take_append_drop, List.take_append_drop]
  have lP : (L.take a).length = a := by simp; omega
  have lA : ((L.drop a).take bs).length = bs := by simp; omega
  have lB : (((L.drop a).drop bs).take k).length = k := by simp; omega
  have lQ : k = bs ∨ ((((L.drop a).drop bs).drop k).length = 0 ∧ k ≤ bs) := by
    rcases hk2 with h2 | ⟨h2, h3⟩
    · exact .inl h2
    · right; exact ⟨by simp; omega, h3⟩
  generalize L.take a = P at *
  generalize (L.drop a).take bs = A at *
  generalize ((L.drop a).drop bs).take k = B at *
  generalize ((L.drop a).drop bs).drop k = Q at *
  subst e
  have sA : SrtK key A := by
    have := h' (2 * q0) (Nat.le_refl _)
    rw [ha1, sg_right (by omega), lP, Nat.sub_self] at this
    unfold sgL at this
    rwa [List.drop_zero, List.take_append_of_le_length (by omega), List.take_of_length_le (by omega)] at this
  have sB : SrtK key B := by
    have := h' (2 * q0 + 1) (by omega)
    rw [ha2, sg_right (by omega), lP, Nat.add_sub_cancel_left, sg_right (by omega), lA, Nat.sub_self] at this
    unfold sgL at this
    rw [List.drop_zero] at this
    rcases lQ with h2 | ⟨h2, h3⟩
    · rwa [List.take_append_of_le_length (by omega), List.take_of_length_le (by omega)] at this
    · rwa [List.eq_nil_of_length_eq_zero h2, List.append_nil, List.take_of_length_le (by omega)] at this
  have lS : (sortK key (A ++ B)).length = bs + k := by rw [sortK_len, List.length_append]; omega
  refine ⟨P, A, B, Q, rfl, lP, lA, lB, sA, sB, fun q hq => ?_, fun q hq => ?_, ?_⟩
  · by_cases hq2 : q < q0
    · have hm : q * (2 * bs) + 2 * bs ≤ a := by rw [ha, ← Nat.succ_mul]; exact Nat.mul_le_mul_right _ hq2
      have := h q hq2
      rw [sg_left (by omega)] at this ⊢
      exact this
    · obtain rfl : q = q0 := by omega
      rw [← ha, sg_right (by omega), lP, Nat.sub_self]
      have : sgL (sortK key (A ++ B) ++ Q) 0 (2 * bs) = sortK key (A ++ B) := by
        unfold sgL
        rw [List.drop_zero]
        rcases lQ with h2 | ⟨h2, h3⟩
        · rw [List.take_append_of_le_length (by omega), List.take_of_length_le (by omega)]
        · rw [List.eq_nil_of_length_eq_zero h2, List.append_nil, List.take_of_length_le (by omega)]
      rw [this]
      exact (sortK_ok _).1
  · have := h' q (by omega)
    have hm : a + 2 * bs ≤ q * bs := by
      have := Nat.mul_le_mul_right bs hq
      rw [Nat.mul_comm 2 (q0 + 1), Nat.mul_assoc, Nat.succ_mul, ← ha] at this
      omega
    rcases lQ with h2 | ⟨h2, h3⟩
    · rw [sg_right (by omega), sg_right (by omega), sg_right (by omega)] at this
      rw [sg_right (by omega), sg_right (by omega)]
      rw [show q * bs - P.length - (sortK key (A ++ B)).length = q * bs - P.length - A.length - B.length by omega]
      exact this
    · rw [sg_out (by simp only [List.length_append, lS]; omega)]
      exact List.Pairwise.nil
  · refine (SameK.refl P).app ?_
    rw [← List.append_assoc A B Q]
    exact (sortK_ok (A ++ B)).2.app (SameK.refl Q)
/-- The last block, when there is nothing to merge it with. -/
theorem blk_last {L : List Nat} {bs q0 : Nat} (hk : L.length ≤ q0 * (2 * bs) + bs) (h : ∀ q, q < q0 → SrtK key (sgL L (q * (2 * bs)) (2 * bs))) (h' : ∀ q, 2 * q0 ≤ q → SrtK key (sgL L (q * bs) bs)) (q : Nat) : SrtK key (sgL L (q * (2 * bs)) (2 * bs)) := by
  by_cases hq : q < q0
  · exact h q hq
  · by_cases hq2 : q = q0
    · subst hq2
      have := h' (2 * q) (Nat.le_refl _)
      rw [show 2 * q * bs = q * (2 * bs) by rw [Nat.mul_comm 2 q, Nat.mul_assoc]] at this
      unfold sgL at this ⊢
      rw [List.take_of_length_le (by simp; omega)] at this ⊢
      exact this
    · have hm : (q0 + 1) * (2 * bs) ≤ q * (2 * bs) := Nat.mul_le_mul_right _ (by omega)
      rw [Nat.succ_mul] at hm
      rw [sg_out (by omega)]
      exact List.Pairwise.nil
theorem blk_all {L : List Nat} {bs q0 : Nat} (hk : L.length ≤ q0 * bs) (h : ∀ q, q < q0 → SrtK key (sgL L (q * bs) bs)) (q : Nat) : SrtK key (sgL L (q * bs) bs) := by
  by_cases hq : q < q0
  · exact h q hq
  · have hm : q0 * bs ≤ q * bs := Nat.mul_le_mul_right _ (by omega)
    rw [sg_out (by omega)]
    exact List.Pairwise.nil
end
end Go.Proofs.Ytcookaiakfbdiaa
namespace Go.Proofs.Ytcookaiakfbdiaa
open Go.RowKit
set_option maxRecDepth 100000
set_option maxHeartbeats 1000000
attribute [local irreducible] Calls Walk1 WalkTo Tri EndA
theorem stable_any (pre post : List Value) (ks : List Nat) (N cap b : Nat) (cv : Value) (w : World) (key : Nat → Int) (c : Nat → Nat → Int) (M : Nat) (hc : ∀ x y, x < M → y < M → (c x y < 0 ↔ key x < key y)) (hM : 0 < M) (hd : ∀ x ∈ ks, x < M) (hN : N = ks.length) (hs : N ≤ 1099511627776) (hC : CmpOK w [b] cv M c)
    (hB : Blk w b (segA pre post ks) 3) :
    Calls Try.prog 67 #[.slice (some ⟨b, pre.length, none⟩) N cap, .int .i64 ((N : Nat) : Int), cv] w (RetP w b 3 (segA pre post (sortK key ks)) (.tuple #[])) := by
  have cI := fun P A Q p q w => insSort_any pre post P A Q N cap p q b cv w key c M hc hM
  have cM := symM_any pre post N cap b cv key c M hc hM hs
  refine calls_triI hB Try.func67 rfl Try.ntmps67 rfl ?_
  repeat (first | (show Walk1 _ _ _ (_ :: _) _ _; first | (show HW1 (.move _); refine wz1 ?_) | (show HW1 (.assign _); first | refine wz13 ?_ | refine wz2 ?_)) | refine go1 ?_ | refine end_block_other rfl ?_ | refine end_scope (fun _ h => by cases h) ?_ | (refine walk_endD ?_ ?_; (· kernel_rfl)) | refine tri_yesA rfl ?_ | refine tri_noA rfl ?_ | refine tri_trueA rfl ?_ | refine tri_falseA rfl ?_)
  refine tri_loop (X := List Nat × Nat) (fun x => ⟨[(6, SV.c (.int .i64 ((20 : Nat) : Int))), (7, SV.c (.int .i64 ((x.2 * 20 : Nat) : Int))), (8, SV.c (.int .i64 ((x.2 * 20 + 20 : Nat) : Int))), (0, .c (.slice (some ⟨b, pre.length, none⟩) N cap)), (1, SV.c (.int .i64 ((N : Nat) : Int))), (2, .c cv)], [(1000, some (.blk 1000 3 (.c (segA pre post x.1)))), (1001, some (.is 1000 b))]⟩)
    (fun x => x.1.length = N ∧ SameK key x.1 ks ∧ (∀ q, q < x.2 → SrtK key (sgL x.1 (q * 20) 20)) ∧ x.2 * 20 ≤ N) (fun x => N + 20 - x.2 * 20) (ks, 0) ⟨hN.symm, SameK.refl _, fun q hq => by omega, by omega⟩ (by exact ent_kp) ?_
  rintro ⟨L, q0⟩ ⟨h1, h2, h3, h4⟩ K next
  dsimp only at h1 h2 h3 h4 next ⊢
  by_cases h : q0 * 20 + 20 ≤ N
  · obtain ⟨P, A, Q, e, lP, lA, g1, g2⟩ := blk_ins (key := key) (L := L) (bs := 20) (q0 := q0) 20 (by omega) (.inl rfl) h3
    have nx := fun S' => next S' (P ++ (sortK key A ++ Q), q0 + 1)
    dsimp only at nx
    have hlen : L.length = P.length + A.length + Q.length := by rw [e]; simp; omega
    have c1 := fun w => cI P A Q (q0 * 20) (q0 * 20 + 20) w (fun x hx => hd x (h2.mem.1 (by rw [e]; exact hx))) lP.symm (by omega) (by omega) hs
    have hI : (P ++ (sortK key A ++ Q)).length = N ∧ SameK key (P ++ (sortK key A ++ Q)) ks ∧ (∀ q, q < q0 + 1 → SrtK key (sgL (P ++ (sortK key A ++ Q)) (q * 20) 20)) ∧ (q0 + 1) * 20 ≤ N := ⟨by rw [g2.length, h1], g2.trans h2, g1, by omega⟩
    rw [← e] at c1
    clear next cI cM h1 h2 h3 g1 g2
    generalize P ++ (sortK key A ++ Q) = L2 at *
    repeat (first | (show Walk1 _ _ _ (_ :: _) _ _; first | (show HW1 (.move _); refine wz1 ?_) | (show HW1 (.assign _); refine wz2 ?_) | (show HW1 (.binOp .add _ _ _ _); refine wz10 ?_) | (show HW1 (.binOp .leq _ _ _ _); refine wz64 ?_) | (show HW1 (.call ⟨.value (.func 72), _, _⟩); (first | refine walk1_tb (op_callW rfl rfl rfl evq rfl rfl rfl (fun _ => rfl) (fun w hF hB => c1 w (hC.later hF) hB)) ?_ | refine walk1_b (op_callW rfl rfl rfl evq rfl rfl rfl (fun _ => rfl) (fun w hF hB => c1 w (hC.later hF) hB)) ?_))) | refine go1 ?_ | refine end_block_other rfl ?_ | refine end_scope (fun _ h => by cases h) ?_ | (refine walk_endD ?_ ?_; (· kernel_rfl)) | refine tri_yesA rfl ?_ | refine tri_noA rfl ?_ | refine tri_trueA rfl ?_ | refine tri_falseA rfl ?_)
    exact nx _ hI (by omega) (by exact ent_kp)
  · obtain ⟨P, A, Q, e, lP, lA, g1, g2⟩ := blk_ins (key := key) (L := L) (bs := 20) (q0 := q0) (N - q0 * 20) (by omega) (.inr (by omega)) h3
    have hlen : L.length = P.length + A.length + Q.length := by rw [e]; simp; omega
    have c1 := fun w => cI P A Q (q0 * 20) N w (fun x hx => hd x (h2.mem.1 (by rw [e]; exact hx))) lP.symm (by omega) (by omega) hs
    have g3 := blk_all (key := key) (L := P ++ (sortK key A ++ Q)) (bs := 20) (q0 := q0 + 1) (by rw [g2.length]; omega) g1
    have hI : (P ++ (sortK key A ++ Q)).length = N ∧ SameK key (P ++ (sortK key A ++ Q)) ks := ⟨by rw [g2.length, h1], g2.trans h2⟩
    rw [← e] at c1
    clear next cI h1 h2 h3 g1 g2 e lP lA hlen
    generalize P ++ (sortK key A ++ Q) = L2 at *
    repeat (first | (show Walk1 _ _ _ (_ :: _) _ _; first | (show HW1 (.move _); refine wz1 ?_) | (show HW1 (.binOp .leq _ _ _ _); refine wz64 ?_) | (show HW1 (.call ⟨.value (.func 72), _, _⟩); (first | refine walk1_tb (op_callW rfl rfl rfl evq rfl rfl rfl (fun _ => rfl) (fun w hF hB => c1 w (hC.later hF) hB)) ?_ | refine walk1_b (op_callW rfl rfl rfl evq rfl rfl rfl (fun _ => rfl) (fun w hF hB => c1 w (hC.later hF) hB)) ?_))) | refine go1 ?_ | refine end_block_other rfl ?_ | refine end_scope (fun _ h => by cases h) ?_ | (refine walk_endD ?_ ?_; (· kernel_rfl)) | refine tri_yesA rfl ?_ | refine tri_noA rfl ?_ | refine tri_trueA rfl ?_ | refine tri_falseA rfl ?_)
    refine tri_loop (X := List Nat × Nat) (fun x => ⟨[(6, SV.c (.int .i64 ((x.2 : Nat) : Int))), (0, .c (.slice (some ⟨b, pre.length, none⟩) N cap)), (1, SV.c (.int .i64 ((N : Nat) : Int))), (2, .c cv)], [(1000, some (.blk 1000 3 (.c (segA pre post x.1)))), (1001, some (.is 1000 b))]⟩)
      (fun x => x.1.length = N ∧ SameK key x.1 ks ∧ (∀ q, SrtK key (sgL x.1 (q * x.2) x.2)) ∧ 1 ≤ x.2 ∧ x.2 ≤ 2 * N + 20) (fun x => N - x.2) (L2, 20) ⟨hI.1, hI.2, g3, by dsimp only; omega, by dsimp only; omega⟩ (by exact ent_kp) ?_
    clear c1 hI g3 L2 P A Q h4 h L
    rintro ⟨L, bs⟩ ⟨h1, h2, h3, h4, h5⟩ K2 next2
    dsimp only at h1 h2 h3 h4 h5 next2 ⊢
    by_cases h : bs < N
    · repeat (first | (show Walk1 _ _ _ (_ :: _) _ _; first | (show HW1 (.move _); refine wz1 ?_) | (show HW1 (.assign _); first | refine wz13 ?_ | refine wz2 ?_) | (show HW1 (.binOp .mul _ _ _ _); refine wz88 ?_) | (show HW1 (.binOp .lss _ _ _ _); refine wz5 ?_)) | refine go1 ?_ | refine end_block_other rfl ?_ | refine end_scope (fun _ h => by cases h) ?_ | (refine walk_endD ?_ ?_; (· kernel_rfl)) | refine tri_yesA rfl ?_ | refine tri_noA rfl ?_ | refine tri_trueA rfl ?_ | refine tri_falseA rfl ?_)
      refine tri_loop (X := List Nat × Nat × Nat) (fun x => ⟨[(6, SV.c (.int .i64 ((bs : Nat) : Int))), (7, SV.c (.int .i64 ((x.2.2 : Nat) : Int))), (8, SV.c (.int .i64 ((x.2.2 + 2 * bs : Nat) : Int))), (0, .c (.slice (some ⟨b, pre.length, none⟩) N cap)), (1, SV.c (.int .i64 ((N : Nat) : Int))), (2, .c cv)], [(1000, some (.blk 1000 3 (.c (segA pre post x.1)))), (1001, some (.is 1000 b))]⟩)
        (fun x => x.1.length = N ∧ SameK key x.1 ks ∧ (∀ q, q < x.2.1 → SrtK key (sgL x.1 (q * (2 * bs)) (2 * bs))) ∧ (∀ q, 2 * x.2.1 ≤ q → SrtK key (sgL x.1 (q * bs) bs)) ∧ x.2.2 = x.2.1 * (2 * bs) ∧ x.2.2 ≤ N) (fun x => N - x.2.2) (L, 0, 0) ⟨h1, h2, fun q hq => by dsimp only at hq; omega, fun q _ => h3 q, by dsimp only; omega, by dsimp only; omega⟩ (by simp only [Nat.zero_add]; exact ent_keep (by repeat (first | exact hasT_nil | refine hasT_cons rfl ?_ | refine hasT_eq rfl (svi (by omega)) ?_)) (by repeat (first | exact hasR_nil | refine hasR_cons rfl ?_))) ?_
      clear h1 h2 h3 L
      rintro ⟨L, q1, a⟩ ⟨h1, h2, h3, h3', ha, h6⟩ K3 next3
      dsimp only at h1 h2 h3 h3' ha h6 next3 ⊢
      by_cases hb : a + 2 * bs ≤ N
      · obtain ⟨P, A, B, Q, e, lP, lA, lB, sA, sB, g1, g1', g2⟩ := blk_mrg (key := key) (L := L) (bs := bs) (q0 := q1) bs (by rw [← ha]; omega) (.inl rfl) h3 h3'
        rw [← ha] at lP
        have nx := fun S' => next3 S' (P ++ (sortK key (A ++ B) ++ Q), q1 + 1, a + 2 * bs)
        dsimp only at nx
        have hlen : L.length = P.length + A.length + B.length + Q.length := by rw [e]; simp; omega
        have c1 := fun w => cM (A.length + B.length) P A B Q a (a + bs) (a + 2 * bs) w (Nat.le_refl _) (by omega) (by omega) (fun x hx => hd x (h2.mem.1 (by rw [e]; exact hx))) lP.symm (by omega) (by omega) (by omega)
        have hI : (P ++ (sortK key (A ++ B) ++ Q)).length = N ∧ SameK key (P ++ (sortK key (A ++ B) ++ Q)) ks ∧ (∀ q, q < q1 + 1 → SrtK key (sgL (P ++ (sortK key (A ++ B) ++ Q)) (q * (2 * bs)) (2 * bs))) ∧ (∀ q, 2 * (q1 + 1) ≤ q → SrtK key (sgL (P ++ (sortK key (A ++ B) ++ Q)) (q * bs) bs)) ∧ a + 2 * bs = (q1 + 1) * (2 * bs) ∧ a + 2 * bs ≤ N := ⟨by rw [g2.length, h1], g2.trans h2, g1, g1', by rw [Nat.succ_mul q1 (2 * bs), ha], hb⟩
        rw [← e] at c1
        clear next2 next3 cM h1 h2 h3 g1 g2 g1' h3' e ha
        generalize P ++ (sortK key (A ++ B) ++ Q) = L2 at *
        repeat (first | (show Walk1 _ _ _ (_ :: _) _ _; first | (show HW1 (.move _); refine wz1 ?_) | (show HW1 (.assign _); refine wz2 ?_) | (show HW1 (.binOp .add _ _ _ _); refine wz10 ?_) | (show HW1 (.binOp .mul _ _ _ _); refine wz88 ?_) | (show HW1 (.binOp .leq _ _ _ _); refine wz64 ?_) | (show HW1 (.call ⟨.value (.func 73), _, _⟩); (first | refine walk1_tb (op_callW rfl rfl rfl evq rfl rfl rfl (fun _ => rfl) (fun w hF hB => c1 w (hC.later hF) sA sB hB)) ?_ | refine walk1_b (op_callW rfl rfl rfl evq rfl rfl rfl (fun _ => rfl) (fun w hF hB => c1 w (hC.later hF) sA sB hB)) ?_))) | refine go1 ?_ | refine end_block_other rfl ?_ | refine end_scope (fun _ h => by cases h) ?_ | (refine walk_endD ?_ ?_; (· kernel_rfl)) | refine tri_yesA rfl ?_ | refine tri_noA rfl ?_ | refine tri_trueA rfl ?_ | refine tri_falseA rfl ?_)
        exact nx _ hI (by omega) (by exact ent_kp)
      · by_cases hb2 : a + bs < N
        · obtain ⟨P, A, B, Q, e, lP, lA, lB, sA, sB, g1, g1', g2⟩ := blk_mrg (key := key) (L := L) (bs := bs) (q0 := q1) (N - a - bs) (by rw [← ha]; omega) (.inr (by rw [← ha]; omega)) h3 h3'
          rw [← ha] at lP
          have nx := fun S' => next2 S' (P ++ (sortK key (A ++ B) ++ Q), bs * 2)
          dsimp only at nx
          have hlen : L.length = P.length + A.length + B.length + Q.length := by rw [e]; simp; omega
          have c1 := fun w => cM (A.length + B.length) P A B Q a (a + bs) N w (Nat.le_refl _) (by omega) (by omega) (fun x hx => hd x (h2.mem.1 (by rw [e]; exact hx))) lP.symm (by omega) (by omega) (by omega)
          have g3 := blk_all (key := key) (L := P ++ (sortK key (A ++ B) ++ Q)) (bs := 2 * bs) (q0 := q1 + 1) (by rw [g2.length, Nat.succ_mul q1 (2 * bs), ← ha]; omega) g1
          have hI : (P ++ (sortK key (A ++ B) ++ Q)).length = N ∧ SameK key (P ++ (sortK key (A ++ B) ++ Q)) ks ∧ (∀ q, SrtK key (sgL (P ++ (sortK key (A ++ B) ++ Q)) (q * (bs * 2)) (bs * 2))) ∧ 1 ≤ bs * 2 ∧ bs * 2 ≤ 2 * N + 20 := ⟨by rw [g2.length, h1], g2.trans h2, fun q => by rw [Nat.mul_comm bs 2]; exact g3 q, by omega, by omega⟩
          rw [← e] at c1
          clear next2 next3 cM h1 h2 h3 g1 g2 g1' h3' e ha g3
          generalize P ++ (sortK key (A ++ B) ++ Q) = L2 at *
          repeat (first | (show Walk1 _ _ _ (_ :: _) _ _; first | (show HW1 (.move _); refine wz1 ?_) | (show HW1 (.assign _); refine wz2 ?_) | (show HW1 (.binOp .add _ _ _ _); refine wz10 ?_) | (show HW1 (.binOp .mul _ _ _ _); refine wz88 ?_) | (show HW1 (.binOp .lss _ _ _ _); refine wz5 ?_) | (show HW1 (.binOp .leq _ _ _ _); refine wz64 ?_) | (show HW1 (.call ⟨.value (.func 73), _, _⟩); (first | refine walk1_tb (op_callW rfl rfl rfl evq rfl rfl rfl (fun _ => rfl) (fun w hF hB => c1 w (hC.later hF) sA sB hB)) ?_ | refine walk1_b (op_callW rfl rfl rfl evq rfl rfl rfl (fun _ => rfl) (fun w hF hB => c1 w (hC.later hF) sA sB hB)) ?_))) | refine go1 ?_ | refine end_block_other rfl ?_ | refine end_scope (fun _ h => by cases h) ?_ | (refine walk_endD ?_ ?_; (· kernel_rfl)) | refine tri_yesA rfl ?_ | refine tri_noA rfl ?_ | refine tri_trueA rfl ?_ | refine tri_falseA rfl ?_)
          exact nx _ hI (by omega) (by exact ent_kp)
        · have nx := fun S' => next2 S' (L, bs * 2)
          have g3 := blk_last (key := key) (L := L) (bs := bs) (q0 := q1) (by rw [← ha]; omega) h3 h3'
          have hI : L.length = N ∧ SameK key L ks ∧ (∀ q, SrtK key (sgL L (q * (bs * 2)) (bs * 2))) ∧ 1 ≤ bs * 2 ∧ bs * 2 ≤ 2 * N + 20 := ⟨h1, h2, fun q => by rw [Nat.mul_comm bs 2]; exact g3 q, by omega, by omega⟩
          clear next2 next3 cM h1 h2 h3 h3' ha g3
          repeat (first | (show Walk1 _ _ _ (_ :: _) _ _; first | (show HW1 (.move _); refine wz1 ?_) | (show HW1 (.assign _); refine wz2 ?_) | (show HW1 (.binOp .add _ _ _ _); refine wz10 ?_) | (show HW1 (.binOp .mul _ _ _ _); refine wz88 ?_) | (show HW1 (.binOp .lss _ _ _ _); refine wz5 ?_) | (show HW1 (.binOp .leq _ _ _ _); refine wz64 ?_)) | refine go1 ?_ | refine end_block_other rfl ?_ | refine end_scope (fun _ h => by cases h) ?_ | (refine walk_endD ?_ ?_; (· kernel_rfl)) | refine tri_yesA rfl ?_ | refine tri_noA rfl ?_ | refine tri_trueA rfl ?_ | refine tri_falseA rfl ?_)
          exact nx _ hI (by omega) (by exact ent_kp)
    · have hf : L = sortK key ks := by
        refine sortK_is ?_ h2
        have := h3 0
        unfold sgL at this
        rwa [Nat.zero_mul, List.drop_zero, List.take_of_length_le (by omega)] at this
      rw [hf]
      clear next2 cM h3 h2 hf
      generalize sortK key ks = L2 at *
      repeat (first | (show Walk1 _ _ _ (_ :: _) _ _; first | (show HW1 (.move _); refine wz1 ?_) | (show HW1 (.binOp .lss _ _ _ _); refine wz5 ?_)) | refine go1 ?_ | refine end_block_other rfl ?_ | refine end_scope (fun _ h => by cases h) ?_ | (refine walk_endD ?_ ?_; (· kernel_rfl)) | refine tri_yesA rfl ?_ | refine tri_noA rfl ?_ | refine tri_trueA rfl ?_ | refine tri_falseA rfl ?_)
      refine end_normal _ (res_none rfl) ?_
      exact fin_obj rfl rfl (fun _ => rfl) (fun _ => rfl)
theorem sortF_any (pre post : List Value) (ks : List Nat) (N cap b : Nat) (cv : Value) (w : World) (key : Nat → Int) (c : Nat → Nat → Int) (M : Nat) (hc : ∀ x y, x < M → y < M → (c x y < 0 ↔ key x < key y)) (hM : 0 < M) (hd : ∀ x ∈ ks, x < M) (hN : N = ks.length) (hs : N ≤ 1099511627776) (hC : CmpOK w [b] cv M c)
    (hB : Blk w b (segA pre post ks) 3) :
    Calls Try.prog 49 #[.slice (some ⟨b, pre.length, none⟩) N cap, cv] w (RetP w b 3 (segA pre post (sortK key ks)) (.tuple #[])) := by
  have c1 := fun w => stable_any pre post ks N cap b cv w key c M hc hM hd hN hs
  generalize segA pre post (sortK key ks) = A2 at *
  refine calls_triI hB Try.func49 rfl Try.ntmps49 rfl ?_
  repeat (first | (show Walk1 _ _ _ (_ :: _) _ _; first | (show HW1 (.move _); refine wz1 ?_) | (show HW1 (.call ⟨.builtin .len, _, _⟩); refine wz39 ?_) | (show HW1 (.call ⟨.value (.func 67), _, _⟩); (first | refine walk1_tb (op_callW rfl rfl rfl evq rfl rfl rfl (fun _ => rfl) (fun w hF hB => c1 w (hC.later hF) hB)) ?_ | refine walk1_b (op_callW rfl rfl rfl evq rfl rfl rfl (fun _ => rfl) (fun w hF hB => c1 w (hC.later hF) hB)) ?_))) | refine go1 ?_ | refine end_block_other rfl ?_ | refine end_scope (fun _ h => by cases h) ?_ | (refine walk_endD ?_ ?_; (· kernel_rfl)) | refine tri_yesA rfl ?_ | refine tri_noA rfl ?_ | refine tri_trueA rfl ?_ | refine tri_falseA rfl ?_)
  refine end_normal _ (res_none rfl) ?_
  exact fin_obj rfl rfl (fun _ => rfl) (fun _ => rfl)
end Go.Proofs.Ytcookaiakfbdiaa
namespace Go.Proofs.Ytcookaiakfbdiaa
open Go.RowKit
set_option maxRecDepth 100000
set_option maxHeartbeats 4000000
def minP (a b : P3) : P3 := ⟨min a.x b.x, min a.y b.y, min a.z b.z⟩
def maxP (a b : P3) : P3 := ⟨max a.x b.x, max a.y b.y, max a.z b.z⟩
def zP : P3 := ⟨0, 0, 0⟩
/-- The box of the first points. -/
def boxN (l : List P3) : Nat → P3 × P3
  | 0 => (zP, zP)
  | j + 1 => if j = 0 then (minP (l.getD 0 zP) (l.getD 0 zP), maxP (l.getD 0 zP) (l.getD 0 zP)) else (minP (boxN l j).1 (l.getD j zP), maxP (boxN l j).2 (l.getD j zP))
def boxP (l : List P3) : P3 × P3 := boxN l l.length
attribute [local irreducible] Calls Walk1 WalkTo Tri EndA
theorem boxT_any (v : Value) (l : List P3) (w : World) (hv : RdV w 3 v l.length (ptsC l)) (hl : l.length ≤ 100000) : Calls Try.prog 25 #[v] w fun e w' => e = .returned (.tuple #[.agg (boxP l).1.c, .agg (boxP l).2.c]) ∧ Below w.heap.size w w' := by
  have hrow : ∀ j p, l[j]? = some p → ((ptsC l).drop (0 + j * 3)).take 3 = p.c.toList := fun j p h => by
    rw [Nat.zero_add]
    exact flat_row (sz := 3) (f := fun p : P3 => p.c.toList) l (fun _ _ => rfl) j p h
  have hpl : (ptsC l).length = l.length * 3 := flat_length (sz := 3) (f := fun p : P3 => p.c.toList) l fun _ _ => rfl
  have hz : boxN l 0 = (zP, zP) := rfl
  have hs : ∀ j, boxN l (j + 1) = if j = 0 then (minP (l.getD 0 zP) (l.getD 0 zP), maxP (l.getD 0 zP) (l.getD 0 zP)) else (minP (boxN l j).1 (l.getD j zP), maxP (boxN l j).2 (l.getD j zP)) := fun _ => rfl
  unfold boxP
  generalize boxN l = B at *
  generalize ptsC l = XS at *
  refine calls_tri Try.func25 rfl Try.ntmps25 rfl ?_
  repeat (first | (show Walk1 _ _ _ (_ :: _) _ _; first | (show HW1 (.move _); first | refine wz40 ?_ | refine wz1 ?_) | (show HW1 (.alloc _); refine wz6 ?_) | (show HW1 (.call ⟨.builtin .len, _, _⟩); refine wz27 ?_)) | refine go1 ?_ | refine end_block_other rfl ?_ | refine end_scope (fun _ h => by cases h) ?_ | (refine walk_endD ?_ ?_; (· kernel_rfl)) | refine tri_yesA rfl ?_ | refine tri_noA rfl ?_ | refine tri_trueA rfl ?_ | refine tri_falseA rfl ?_)
  refine tri_loop (X := Nat) (fun j => ⟨[(8, SV.c (.int .i64 ((j : Nat) : Int))), (7, SV.c (.int .i64 ((l.length : Nat) : Int))), (6, .c v), (2, .p 2 0), (3, .p 3 0)], [(2, some (.blk 2 24 (.c (B j).1.c))), (3, some (.blk 3 24 (.c (B j).2.c)))]⟩)
    (fun j => j ≤ l.length) (fun j => l.length - j) 0 (by omega) (by rw [hz]; exact ent_keep (by repeat (first | exact hasT_nil | refine hasT_cons rfl ?_ | refine hasT_eq rfl (svi (by omega)) ?_)) (by repeat (first | exact hasR_nil | refine hasR_cons rfl ?_))) ?_
  intro j hj K next
  by_cases h : j < l.length
  · obtain ⟨p, hpj⟩ : ∃ p, l[j]? = some p := ⟨_, List.getElem?_eq_getElem h⟩
    have hr := hrow j p hpj
    have hlt : j * 3 + 3 ≤ XS.length := by rw [hpl]; omega
    have hgd : l.getD j zP = p := by rw [List.getD_eq_getElem?_getD, hpj]; rfl
    have hsj := hs j
    have nx := fun S' => next S' (j + 1)
    rw [hsj] at nx
    clear next hs hrow hsj
    by_cases h0 : j = 0
    · subst h0
      rw [if_pos rfl, hgd] at nx
      obtain ⟨x, y, z⟩ := p
      have hr : (XS.drop (0 + 0 * 3)).take 3 = [.int .i64 x, .int .i64 y, .int .i64 z] := hr
      simp only [minP, maxP, P3.c] at nx ⊢
      generalize B 0 = B0 at *
      repeat (first | (show Walk1 _ _ _ (_ :: _) _ _; first | (show HW1 (.move _); refine wz1 ?_) | (show HW1 (.assign _); refine wz2 ?_) | (show HW1 (.binOp .add _ _ _ _); refine wz10 ?_) | (show HW1 (.binOp .lss _ _ _ _); refine wz5 ?_) | (show HW1 (.binOp .eql _ _ _ _); refine wz30 ?_) | (show HW1 (.indexAddr _ _ _); refine wz26 ?_) | (show HW1 (.load _ _); first | refine wz3 ?_ | refine wz51 ?_) | (show HW1 (.store _ _ _); first | refine wz14 ?_ | refine wz28 ?_) | (show HW1 (.alloc _); refine wz6 ?_) | (show HW1 (.fieldAddr _ _ _); refine wz4 ?_) | (show HW1 (.build _ _); refine wz25 ?_) | (show HW1 (.call ⟨.builtin .min, _, _⟩); refine wz105 ?_) | (show HW1 (.call ⟨.builtin .max, _, _⟩); refine wz120 ?_)) | (show WalkTo _ _ _ _ (_ :: _) _ _ _; first | (show HW2 (.load _ _); refine wz22 ?_) | (show HW2 (.store _ _ _); refine wz48 ?_)) | refine go1 ?_ | refine end_block_other rfl ?_ | refine end_scope (fun _ h => by cases h) ?_ | (refine walk_endD ?_ ?_; (· kernel_rfl)) | refine tri_yesA rfl ?_ | refine tri_noA rfl ?_ | refine tri_trueA rfl ?_ | refine tri_falseA rfl ?_)
      exact nx _ (by omega) (by omega) (by exact ent_kp)
    · rw [if_neg h0, hgd] at nx
      obtain ⟨x, y, z⟩ := p
      have hr : (XS.drop (0 + j * 3)).take 3 = [.int .i64 x, .int .i64 y, .int .i64 z] := hr
      generalize B j = Bj at *
      obtain ⟨⟨a, b, c⟩, ⟨a', b', c'⟩⟩ := Bj
      simp only [minP, maxP, P3.c] at nx ⊢
      repeat (first | (show Walk1 _ _ _ (_ :: _) _ _; first | (show HW1 (.move _); refine wz1 ?_) | (show HW1 (.assign _); refine wz2 ?_) | (show HW1 (.binOp .add _ _ _ _); refine wz10 ?_) | (show HW1 (.binOp .lss _ _ _ _); refine wz5 ?_) | (show HW1 (.binOp .eql _ _ _ _); refine wz30 ?_) | (show HW1 (.indexAddr _ _ _); refine wz26 ?_) | (show HW1 (.load _ _); first | refine wz3 ?_ | refine wz51 ?_) | (show HW1 (.store _ _ _); first | refine wz14 ?_ | refine wz28 ?_) | (show HW1 (.alloc _); refine wz6 ?_) | (show HW1 (.fieldAddr _ _ _); refine wz4 ?_) | (show HW1 (.build _ _); refine wz25 ?_) | (show HW1 (.call ⟨.builtin .min, _, _⟩); refine wz105 ?_) | (show HW1 (.call ⟨.builtin .max, _, _⟩); refine wz120 ?_)) | refine go1 ?_ | refine end_block_other rfl ?_ | refine end_scope (fun _ h => by cases h) ?_ | (refine walk_endD ?_ ?_; (· kernel_rfl)) | refine tri_yesA rfl ?_ | refine tri_noA rfl ?_ | refine tri_trueA rfl ?_ | refine tri_falseA rfl ?_)
      exact nx _ (by omega) (by omega) (by exact ent_kp)
  · obtain rfl : j = l.length := by omega
    clear next hs hrow
    generalize B l.length = F at *
    obtain ⟨⟨a, b, c⟩, ⟨a', b', c'⟩⟩ := F
    simp only [P3.c] at *
    repeat (first | (show Walk1 _ _ _ (_ :: _) _ _; (show HW1 (.binOp .lss _ _ _ _); refine wz5 ?_)) | (show WalkTo _ _ _ _ (_ :: _) _ _ _; first | (show HW2 (.load _ _); refine wz22 ?_) | (show HW2 (.store _ _ _); refine wz48 ?_)) | refine go1 ?_ | refine end_block_other rfl ?_ | refine end_scope (fun _ h => by cases h) ?_ | (refine walk_endD ?_ ?_; (· kernel_rfl)) | refine tri_yesA rfl ?_ | refine tri_noA rfl ?_ | refine tri_trueA rfl ?_ | refine tri_falseA rfl ?_)
    refine end_ret _ (res_cells2 rfl rfl rfl rfl rfl rfl rfl rfl rfl rfl rfl rfl rfl) ?_
    exact fin_below fun _ => rfl
end Go.Proofs.Ytcookaiakfbdiaa
namespace Go.Proofs.Ytcookaiakfbdiaa
open Go.RowKit
set_option maxRecDepth 100000
set_option maxHeartbeats 4000000
/-- An array that lies in a slice, as a slice. -/
def arrV (v : Value) (off n : Nat) : Value := match v with | .slice (some ⟨b, o2, _⟩) _ _ => .slice (some ⟨b, o2 + off, none⟩) n n | _ => .slice none 0 0
section
variable {C : Ctx} {S : St}
theorem arr3p (A : Array Value) (h : A.size = 3) : ∃ a b c, A = #[a, b, c] := by
  obtain ⟨l⟩ := A
  match l, h with
  | [a, b, c], _ => exact ⟨a, b, c, rfl⟩
variable {ops : Array Oper} {o : Oper}
theorem op_bsliceP2 {t T n : Nat} {parts : Array (Nat × Operand)} {x0 x1 : Operand} {A0 A1 : Array Value} {Z : Array Value} (ho : o.op = .buildSlice t 2 parts) (hp : parts = #[(0, x0), (1, x1)]) (hdn : o.dst = some n) (hg : o.guard = none) (hd : dstB o.dst C.nt = true)
    (h0 : S.ev x0 = some (.c (.agg A0))) (h1 : S.ev x1 = some (.c (.agg A1))) (hu' : tabLook undT t = some (.slice T)) (hs' : tabLook sizT T = some 3) (hz' : tabLook zerT T = some Z) (hZ : Z.size = 3) (s0 : A0.size = 3) (s1 : A1.size = 3) :
    OpG C Try.prog ops o S ⟨[x0, x1].flatMap opT, [], [(n, .s n 0 2 2)], [(n, some (.blk n T (.c (A0 ++ A1))))], [n]⟩ := by
  refine opG_mk hg fun S' g1 g2 g3 e a w hS => ?_
  have hN := hS.newBlk (g3 n (by simp)) T (.c (A0 ++ A1)) (by simp [SA.c])
  have e0 : a.eval x0 = .agg A0 := hS.ev ((ev_like g1 fun _ h => List.mem_flatMap.2 ⟨x0, by simp, h⟩).trans h0)
  have e1 : a.eval x1 = .agg A1 := hS.ev ((ev_like g1 fun _ h => List.mem_flatMap.2 ⟨x1, by simp, h⟩).trans h1)
  have hu := tabAll_look undT_ok hu'
  have hz := tabAll_look zerT_ok hz'
  obtain ⟨zv, hz3, hzc⟩ : ∃ zv, (zeroValue T).run Try.prog w = .ok zv w ∧ zv.cells = Z := by
    cases hb : (Try.prog.info? T) with
    | none => simp [hb] at hz
    | some i =>
      cases hc : i.zero with
      | none => simp [hb, hc] at hz
      | some zz => exact ⟨zz, by simp [zeroValue, typeInfo, hb, hc], by simpa [hb, hc] using hz⟩
  refine wp_value (v := .slice (some ⟨w.heap.size, 0, none⟩) 2 2) (w' := w.alloc (.cells (A0 ++ A1) T)) ?_ ⟨e.set n ⟨w.heap.size, 0, undef⟩, ?_⟩
  · simp only [execOp, ho, hp, Instr.buildSlice, Sem.run_bind, run_underlying hu w, Result.andThen_ok, run_sizeT hs' w, Sem.run_ite]
    simp only [show ¬ (2 * 3 > 2 ^ 24) from by omega, if_false, show ¬ (2 * 3 = 0) from by omega, hz3, Result.andThen_ok, Sem.run_pure, hzc, List.map_toArray, List.map_cons, List.map_nil, e0, e1]
    obtain ⟨z0, z1, z2, rfl⟩ := arr3p Z hZ
    obtain ⟨a0, a1, a2, rfl⟩ := arr3p A0 s0
    obtain ⟨b0, b1, b2, rfl⟩ := arr3p A1 s1
    rw [show Instr.fill (fun i => some (i * 3, 3)) ((Array.range (2 * 3)).map fun x => (#[z0, z1, z2] : Array Value)[x % (#[z0, z1, z2] : Array Value).size]!) [(0, .agg #[a0, a1, a2]), (1, .agg #[b0, b1, b2])] = some (#[a0, a1, a2] ++ #[b0, b1, b2]) from by kernel_rfl]
    simp [newRow]
  · rw [hdn]
    have hd' : dstB (some n) C.nt = true := by rw [← hdn]; exact hd
    have := hN.put hd' (.s n 0 2 2)
    simp only [SV.s, Env.set_self] at this
    exact this

theorem op_cutA {t T : TypeId} {x : Operand} {v : Value} {off len sz m n : Nat} {xs : List Value} (ho : o.op = .slice t x none none none) (hg : o.guard = none) (hd : dstB o.dst C.nt = true) (hx : S.ev x = some (.c (ptrV v off))) (hu' : tabLook undT t = some (.array len T)) (hs' : tabLook sizT T = some sz) (hf : RdV C.w0 m v n xs) (h0 : 0 < n) :
    OpG C Try.prog ops o S ⟨opT x, [], dw o.dst (.c (arrV v off len)), [], []⟩ := by
  obtain ⟨_, a, c, rfl, h⟩ := hf
  rcases h with h | ⟨b, o2, rfl, _⟩
  · omega
  have := op_value (C := C) (P := Try.prog) (ops := ops) (S := S) hg hd [x] [] (.c (arrV (.slice (some ⟨b, o2, none⟩) n c) off len)) fun S' e a w hS h1 h2 => by
    have hev : a.eval x = .pointer (some ⟨b, o2 + off, none⟩) := hS.ev ((h1 x (by simp)).trans hx)
    have hu := tabAll_look undT_ok hu'
    simp [execOp, ho, hev, Instr.sliceAt, Instr.sureAddr, Instr.sliceBounds, run_underlying hu, run_sizeT hs', SV.c, arrV, Sem.run_bind, add_place]
  simpa using this
end
/-- The three corners of a triangle in a slice, as a slice. -/
theorem tri_pts {w : World} {v : Value} {l : List TriS} (h : RdV w 19 v l.length (trisC l)) (hok : ∀ t ∈ l, t.ok) {k : Nat} {t : TriS} (ht : l[k]? = some t) : RdV w 3 (arrV v (k * 19) 3) 3 (ptsC [t.p0, t.p1, t.p2]) := by
  obtain ⟨hl, a, c, rfl, h⟩ := h
  have hk : k < l.length := (List.getElem?_eq_some_iff.1 ht).1
  rcases h with h | ⟨b, o2, rfl, hr⟩
  · omega
  refine ⟨rfl, some ⟨b, o2 + k * 19, none⟩, 3, rfl, .inr ⟨b, o2 + k * 19, rfl, fun j u hj => ?_⟩⟩
  have hj9 : j < 9 := (List.getElem?_eq_some_iff.1 hj).1
  have h9 := tris_P l hok k t ht
  have e : (ptsC [t.p0, t.p1, t.p2]) = (P9 t.p0 t.p1 t.p2).toList := rfl
  rw [e, ← h9, List.getElem?_take_of_lt hj9, List.getElem?_drop] at hj
  have := hr (k * 19 + j) u hj
  rw [Nat.add_assoc]
  exact this
def zT : TriS := ⟨zP, zP, zP, [], 0⟩
def cornersT (t : TriS) : List P3 := [t.p0, t.p1, t.p2]
def tbox (t : TriS) : P3 × P3 := boxP (cornersT t)
/-- The box of the first triangles of an order. -/
def bbN (l : List TriS) (ks : List Nat) : Nat → P3 × P3
  | 0 => (zP, zP)
  | j + 1 => if j = 0 then tbox (l.getD (ks.getD 0 0) zT) else ((boxP [(bbN l ks j).1, (tbox (l.getD (ks.getD j 0) zT)).1]).1, (boxP [(bbN l ks j).2, (tbox (l.getD (ks.getD j 0) zT)).2]).2)
attribute [local irreducible] Calls Walk1 WalkTo Tri EndA
theorem bvhBox_any (l : List TriS) (hok : ∀ t ∈ l, t.ok) (ks : List Nat) (hks : ∀ k ∈ ks, k < l.length) (hl : ks.length ≤ 100000) (vl vo : Value) (w : World) (hvl : RdV w 19 vl l.length (trisC l)) (hvo : RdV w 1 vo ks.length (ks.map fun k => Value.int .i64 ((k : Nat) : Int))) :
    Calls Try.prog 26 #[vl, vo] w fun e w' => e = .returned (.tuple #[.agg (bbN l ks ks.length).1.c, .agg (bbN l ks ks.length).2.c]) ∧ Below w.heap.size w w' := by
  have hz : bbN l ks 0 = (zP, zP) := rfl
  have hs : ∀ j, bbN l ks (j + 1) = if j = 0 then tbox (l.getD (ks.getD 0 0) zT) else ((boxP [(bbN l ks j).1, (tbox (l.getD (ks.getD j 0) zT)).1]).1, (boxP [(bbN l ks j).2, (tbox (l.getD (ks.getD j 0) zT)).2]).2) := fun _ => rfl
  have hpts := fun (k : Nat) (t : TriS) (ht : l[k]? = some t) => tri_pts hvl hok ht
  have cB := fun (ps : List P3) (hps : ps.length ≤ 100000) (v : Value) (w : World) h => boxT_any v ps w h hps
  have hlen := tris_len l hok
  generalize bbN l ks = B at *
  refine calls_tri Try.func26 rfl Try.ntmps26 rfl ?_
  repeat (first | (show Walk1 _ _ _ (_ :: _) _ _; first | (show HW1 (.move _); first | refine wz40 ?_ | refine wz1 ?_) | (show HW1 (.alloc _); refine wz6 ?_) | (show HW1 (.call ⟨.builtin .len, _, _⟩); refine wz27 ?_)) | refine go1 ?_ | refine end_block_other rfl ?_ | refine end_scope (fun _ h => by cases h) ?_ | (refine walk_endD ?_ ?_; (· kernel_rfl)) | refine tri_yesA rfl ?_ | refine tri_noA rfl ?_ | refine tri_trueA rfl ?_ | refine tri_falseA rfl ?_)
  refine tri_loop (X := Nat) (fun j => ⟨[(12, SV.c (.int .i64 ((j : Nat) : Int))), (11, SV.c (.int .i64 ((ks.length : Nat) : Int))), (10, .c vo), (4, .p 4 0), (5, .p 5 0), (0, .c vl)], [(4, some (.blk 4 24 (.c (B j).1.c))), (5, some (.blk 5 24 (.c (B j).2.c)))]⟩)
    (fun j => j ≤ ks.length) (fun j => ks.length - j) 0 (by omega) (by rw [hz]; exact ent_keep (by repeat (first | exact hasT_nil | refine hasT_cons rfl ?_ | refine hasT_eq rfl (svi (by omega)) ?_)) (by repeat (first | exact hasR_nil | refine hasR_cons rfl ?_))) ?_
  intro j hj K next
  by_cases h : j < ks.length
  · obtain ⟨k, hkj⟩ : ∃ k, ks[j]? = some k := ⟨_, List.getElem?_eq_getElem h⟩
    have hkl := hks k (List.mem_of_getElem? hkj)
    obtain ⟨t, htk⟩ : ∃ t, l[k]? = some t := ⟨_, List.getElem?_eq_getElem hkl⟩
    have hg : (ks.map fun k => Value.int .i64 ((k : Nat) : Int))[j]? = some (.int .i64 ((k : Nat) : Int)) := by rw [List.getElem?_map, hkj]; rfl
    have hp : RdV w 3 (arrV vl (0 + k * 19 + 0) 3) 3 (ptsC [t.p0, t.p1, t.p2]) := by rw [Nat.zero_add, Nat.add_zero]; exact hpts k t htk
    have e1 : ks.getD j 0 = k := by rw [List.getD_eq_getElem?_getD, hkj]; rfl
    have e2 : l.getD k zT = t := by rw [List.getD_eq_getElem?_getD, htk]; rfl
    have c1 := fun w h => cB [t.p0, t.p1, t.p2] (by simp) (arrV vl (0 + k * 19 + 0) 3) w h
    have hsj := hs j
    have nx := fun S' => next S' (j + 1)
    rw [hsj] at nx
    have hb : tbox t = boxP [t.p0, t.p1, t.p2] := rfl
    by_cases h0 : j = 0
    · subst h0
      rw [if_pos rfl, e1, e2, hb] at nx
      generalize boxP [t.p0, t.p1, t.p2] = F at *
      obtain ⟨⟨a, b, c⟩, ⟨a', b', c'⟩⟩ := F
      simp only [P3.c] at nx c1 ⊢
      clear next hs hpts cB hsj hb
      generalize B 0 = B0 at *
      repeat (first | (show Walk1 _ _ _ (_ :: _) _ _; first | (show HW1 (.move _); refine wz1 ?_) | (show HW1 (.assign _); refine wz2 ?_) | (show HW1 (.binOp .add _ _ _ _); refine wz10 ?_) | (show HW1 (.binOp .lss _ _ _ _); refine wz5 ?_) | (show HW1 (.binOp .eql _ _ _ _); refine wz30 ?_) | (show HW1 (.indexAddr _ _ _); first | refine wz80 ?_ | refine wz26 ?_) | (show HW1 (.load _ _); refine wz44 ?_) | (show HW1 (.store _ _ _); refine wz14 ?_) | (show HW1 (.alloc _); refine wz6 ?_) | (show HW1 (.fieldAddr _ _ _); refine wz38 ?_) | (show HW1 (.extract _ _); first | refine wz16 ?_ | refine wz15 ?_) | (show HW1 (.slice _ _ _ _ _); refine wz99 ?_) | (show HW1 (.call ⟨.value (.func 25), _, _⟩); (refine cwalk1M 25 ?_; refine ⟨_, _, callM_1 (rdn_old hp (by omega) rfl) (fun e w h1 => c1 w h1), ?_⟩))) | (show WalkTo _ _ _ _ (_ :: _) _ _ _; first | (show HW2 (.load _ _); refine wz22 ?_) | (show HW2 (.store _ _ _); refine wz48 ?_)) | refine go1 ?_ | refine end_block_other rfl ?_ | refine end_scope (fun _ h => by cases h) ?_ | (refine walk_endD ?_ ?_; (· kernel_rfl)) | refine tri_yesA rfl ?_ | refine tri_noA rfl ?_ | refine tri_trueA rfl ?_ | refine tri_falseA rfl ?_)
      exact nx _ (by omega) (by omega) (by exact ent_kp)
    · rw [if_neg h0, e1, e2, hb] at nx
      have c2 := fun v w h => cB [(B j).1, (boxP [t.p0, t.p1, t.p2]).1] (by simp) v w h
      have c3 := fun v w h => cB [(B j).2, (boxP [t.p0, t.p1, t.p2]).2] (by simp) v w h
      generalize boxP [t.p0, t.p1, t.p2] = F at *
      generalize B j = Bj at *
      obtain ⟨⟨a, b, c⟩, ⟨a', b', c'⟩⟩ := F
      obtain ⟨⟨x, y, z⟩, ⟨x', y', z'⟩⟩ := Bj
      simp only at nx c2 c3
      generalize boxP [⟨x, y, z⟩, ⟨a, b, c⟩] = G at *
      generalize boxP [⟨x', y', z'⟩, ⟨a', b', c'⟩] = G' at *
      obtain ⟨⟨g1, g2, g3⟩, ⟨g4, g5, g6⟩⟩ := G
      obtain ⟨⟨k1, k2, k3⟩, ⟨k4, k5, k6⟩⟩ := G'
      simp only [P3.c] at nx c1 c2 c3 ⊢
      clear next hs hpts cB hsj hb
      repeat (first | (show Walk1 _ _ _ (_ :: _) _ _; first | (show HW1 (.move _); refine wz1 ?_) | (show HW1 (.assign _); refine wz2 ?_) | (show HW1 (.binOp .add _ _ _ _); refine wz10 ?_) | (show HW1 (.binOp .lss _ _ _ _); refine wz5 ?_) | (show HW1 (.binOp .eql _ _ _ _); refine wz30 ?_) | (show HW1 (.indexAddr _ _ _); first | refine wz80 ?_ | refine wz26 ?_) | (show HW1 (.load _ _); first | refine wz44 ?_ | refine wz9 ?_) | (show HW1 (.store _ _ _); refine wz14 ?_) | (show HW1 (.alloc _); refine wz6 ?_) | (show HW1 (.fieldAddr _ _ _); refine wz38 ?_) | (show HW1 (.extract _ _); first | refine wz16 ?_ | refine wz15 ?_) | (show HW1 (.slice _ _ _ _ _); refine wz99 ?_) | (show HW1 (.buildSlice _ 2 _); refine wz124 ?_) | (show HW1 (.call ⟨.value (.func 25), _, _⟩); (refine cwalk1M 25 ?_; refine ⟨_, _, callM_1 (rdn_old hp (by omega) rfl) (fun e w h1 => c1 w h1), ?_⟩)) | (show HW1 (.call ⟨.value (.func 25), _, _⟩); (refine cwalk1M 25 ?_; refine ⟨_, _, callM_1 (rdn_row (n := 33) rfl rfl) (fun e w h1 => c2 _ w h1), ?_⟩)) | (show HW1 (.call ⟨.value (.func 25), _, _⟩); (refine cwalk1M 25 ?_; refine ⟨_, _, callM_1 (rdn_row (n := 40) rfl rfl) (fun e w h1 => c3 _ w h1), ?_⟩))) | refine go1 ?_ | refine end_block_other rfl ?_ | refine end_scope (fun _ h => by cases h) ?_ | (refine walk_endD ?_ ?_; (· kernel_rfl)) | refine tri_yesA rfl ?_ | refine tri_noA rfl ?_ | refine tri_trueA rfl ?_ | refine tri_falseA rfl ?_)
      exact nx _ (by omega) (by omega) (by exact ent_kp)
  · obtain rfl : j = ks.length := by omega
    clear next hs hpts
    generalize B ks.length = F at *
    obtain ⟨⟨a, b, c⟩, ⟨a', b', c'⟩⟩ := F
    simp only [P3.c] at *
    repeat (first | (show Walk1 _ _ _ (_ :: _) _ _; (show HW1 (.binOp .lss _ _ _ _); refine wz5 ?_)) | (show WalkTo _ _ _ _ (_ :: _) _ _ _; first | (show HW2 (.load _ _); refine wz22 ?_) | (show HW2 (.store _ _ _); refine wz48 ?_)) | refine go1 ?_ | refine end_block_other rfl ?_ | refine end_scope (fun _ h => by cases h) ?_ | (refine walk_endD ?_ ?_; (· kernel_rfl)) | refine tri_yesA rfl ?_ | refine tri_noA rfl ?_ | refine tri_trueA rfl ?_ | refine tri_falseA rfl ?_)
    refine end_ret _ (res_cells2 rfl rfl rfl rfl rfl rfl rfl rfl rfl rfl rfl rfl rfl) ?_
    exact fin_below fun _ => rfl
end Go.Proofs.Ytcookaiakfbdiaa
namespace Go.Proofs.Ytcookaiakfbdiaa
open Go.RowKit
set_option maxRecDepth 100000
set_option maxHeartbeats 1000000
attribute [local irreducible] Calls Walk1 WalkTo Tri EndA
end Go.Proofs.Ytcookaiakfbdiaa
