/- A row sorted block by block, the blocks merged by pairs: walked. No condition. The library's sort that keeps the order of equals: walked. No condition. -/
import Derived.Test.YtmpnkknocfaciaaSrt7
namespace Go.Proofs.Ytmpnkknocfaciaa
open Go.RowKit
set_option maxRecDepth 100000
set_option maxHeartbeats 1000000
def sgL (l : List Nat) (i k : Nat) : List Nat := (l.drop i).take k
theorem sg_left {P X : List Nat} {i k : Nat} (h : i + k ≤ P.length) : sgL (P ++ X) i k = sgL P i k := by
  unfold sgL
  rw [List.drop_append_of_le_length (by omega), List.take_append_of_le_length (by simp; omega)]
theorem sg_right {P X : List Nat} {i k : Nat} (h : P.length ≤ i) : sgL (P ++ X) i k = sgL X (i - P.length) k := by
  unfold sgL
  rw [List.drop_append, List.drop_of_length_le h, List.nil_append]
theorem sg_out {l : List Nat} {i k : Nat} (h : l.length ≤ i) : sgL l i k = [] := by
  unfold sgL
  rw [List.drop_of_length_le h, List.take_nil]
section
variable {key : Nat → Int}
theorem blk_ins {L : List Nat} {bs q0 : Nat} (k : Nat) (hk : q0 * bs + k ≤ L.length) (hk2 : k = bs ∨ (q0 * bs + k = L.length ∧ k ≤ bs)) (h : ∀ q, q < q0 → SrtK key (sgL L (q * bs) bs)) :
    ∃ P A Q, L = P ++ (A ++ Q) ∧ P.length = q0 * bs ∧ A.length = k ∧ (∀ q, q < q0 + 1 → SrtK key (sgL (P ++ (sortK key A ++ Q)) (q * bs) bs)) ∧ SameK key (P ++ (sortK key A ++ Q)) L := by
  obtain ⟨a, ha⟩ : ∃ a, a = q0 * bs := ⟨_, rfl⟩
  rw [← ha] at hk hk2 ⊢
  have e : L = L.take a ++ ((L.drop a).take k ++ (L.drop a).drop k) := by rw [List.take_append_drop, List.take_append_drop]
  have lP : (L.take a).length = a := by simp; omega
  have lA : ((L.drop a).take k).length = k := by simp; omega
  have lQ : k = bs ∨ (((L.drop a).drop k).length = 0 ∧ k ≤ bs) := by
    rcases hk2 with h2 | ⟨h2, h3⟩
    · exact .inl h2
    · right; exact ⟨by simp; omega, h3⟩
  generalize L.take a = P at *
  generalize (L.drop a).take k = A at *
  generalize (L.drop a).drop k = Q at *
  subst e
  refine ⟨P, A, Q, rfl, lP, lA, fun q hq => ?_, (SameK.refl P).app ((sortK_ok A).2.app (SameK.refl Q))⟩
  by_cases hq2 : q < q0
  · have hm : q * bs + bs ≤ a := by rw [ha, ← Nat.succ_mul]; exact Nat.mul_le_mul_right _ hq2
    have := h q hq2
    rw [sg_left (by omega)] at this ⊢
    exact this
  · obtain rfl : q = q0 := by omega
    rw [← ha, sg_right (by omega), lP, Nat.sub_self]
    have : sgL (sortK key A ++ Q) 0 bs = sortK key A := by
      unfold sgL
      rw [List.drop_zero]
      rcases lQ with h2 | ⟨h2, h3⟩
      · rw [List.take_append_of_le_length (by rw [sortK_len]; omega), List.take_of_length_le (by rw [sortK_len]; omega)]
      · rw [List.eq_nil_of_length_eq_zero h2, List.append_nil, List.take_of_length_le (by rw [sortK_len]; omega)]
    rw [this]
    exact (sortK_ok A).1
theorem blk_mrg {L : List Nat} {bs q0 : Nat} (k : Nat) (hk : q0 * (2 * bs) + bs + k ≤ L.length) (hk2 : k = bs ∨ (q0 * (2 * bs) + bs + k = L.length ∧ k ≤ bs)) (h : ∀ q, q < q0 → SrtK key (sgL L (q * (2 * bs)) (2 * bs))) (h' : ∀ q, 2 * q0 ≤ q → SrtK key (sgL L (q * bs) bs)) :
    ∃ P A B Q, L = P ++ (A ++ (B ++ Q)) ∧ P.length = q0 * (2 * bs) ∧ A.length = bs ∧ B.length = k ∧ SrtK key A ∧ SrtK key B ∧ (∀ q, q < q0 + 1 → SrtK key (sgL (P ++ (sortK key (A ++ B) ++ Q)) (q * (2 * bs)) (2 * bs))) ∧ (∀ q, 2 * (q0 + 1) ≤ q → SrtK key (sgL (P ++ (sortK key (A ++ B) ++ Q)) (q * bs) bs)) ∧ SameK key (P ++ (sortK key (A ++ B) ++ Q)) L := by
  obtain ⟨a, ha⟩ : ∃ a, a = q0 * (2 * bs) := ⟨_, rfl⟩
  rw [← ha] at hk hk2 ⊢
  have ha1 : 2 * q0 * bs = a := by rw [ha, Nat.mul_comm 2 q0, Nat.mul_assoc]
  have ha2 : (2 * q0 + 1) * bs = a + bs := by rw [Nat.succ_mul, ha1]
  have e : L = L.take a ++ ((L.drop a).take bs ++ (((L.drop a).drop bs).take k ++ ((L.drop a).drop bs).drop k)) := by rw [List.take_append_drop, List.take_append_drop, List.take_append_drop]
  have lP : (L.take a).length = a := by simp; omega
  have lA : ((L.drop a).take bs).length = bs := by simp; omega
  have lB : (((L.drop a).drop bs).take k).length = k := by simp; omega
  have lQ : k = bs ∨ ((((L.drop a).drop bs).drop k).length = 0 ∧ k ≤ bs) := by
    rcases hk2 with h2 | ⟨h2, h3⟩
    · exact .inl h2
    · right; exact ⟨by simp; omega, h3⟩
  generalize L.take a = P at *
  generalize (L.drop a).take bs = A at *
  generalize ((L.drop a).drop bs).take k = B at *
  generalize ((L.drop a).drop bs).drop k = Q at *
  subst e
  have sA : SrtK key A := by
    have := h' (2 * q0) (Nat.le_refl _)
    rw [ha1, sg_right (by omega), lP, Nat.sub_self] at this
    unfold sgL at this
    rwa [List.drop_zero, List.take_append_of_le_length (by omega), List.take_of_length_le (by omega)] at this
  have sB : SrtK key B := by
    have := h' (2 * q0 + 1) (by omega)
    rw [ha2, sg_right (by omega), lP, Nat.add_sub_cancel_left, sg_right (by omega), lA, Nat.sub_self] at this
    unfold sgL at this
    rw [List.drop_zero] at this
    rcases lQ with h2 | ⟨h2, h3⟩
    · rwa [List.take_append_of_le_length (by omega), List.take_of_length_le (by omega)] at this
    · rwa [List.eq_nil_of_length_eq_zero h2, List.append_nil, List.take_of_length_le (by omega)] at this
  have lS : (sortK key (A ++ B)).length = bs + k := by rw [sortK_len, List.length_append]; omega
  refine ⟨P, A, B, Q, rfl, lP, lA, lB, sA, sB, fun q hq => ?_, fun q hq => ?_, ?_⟩
  · by_cases hq2 : q < q0
    · have hm : q * (2 * bs) + 2 * bs ≤ a := by rw [ha, ← Nat.succ_mul]; exact Nat.mul_le_mul_right _ hq2
      have := h q hq2
      rw [sg_left (by omega)] at this ⊢
      exact this
    · obtain rfl : q = q0 := by omega
      rw [← ha, sg_right (by omega), lP, Nat.sub_self]
      have : sgL (sortK key (A ++ B) ++ Q) 0 (2 * bs) = sortK key (A ++ B) := by
        unfold sgL
        rw [List.drop_zero]
        rcases lQ with h2 | ⟨h2, h3⟩
        · rw [List.take_append_of_le_length (by omega), List.take_of_length_le (by omega)]
        · rw [List.eq_nil_of_length_eq_zero h2, List.append_nil, List.take_of_length_le (by omega)]
      rw [this]
      exact (sortK_ok _).1
  · have := h' q (by omega)
    have hm : a + 2 * bs ≤ q * bs := by
      have := Nat.mul_le_mul_right bs hq
      rw [Nat.mul_comm 2 (q0 + 1), Nat.mul_assoc, Nat.succ_mul, ← ha] at this
      omega
    rcases lQ with h2 | ⟨h2, h3⟩
    · rw [sg_right (by omega), sg_right (by omega), sg_right (by omega)] at this
      rw [sg_right (by omega), sg_right (by omega)]
      rw [show q * bs - P.length - (sortK key (A ++ B)).length = q * bs - P.length - A.length - B.length by omega]
      exact this
    · rw [sg_out (by simp only [List.length_append, lS]; omega)]
      exact List.Pairwise.nil
  · refine (SameK.refl P).app ?_
    rw [← List.append_assoc A B Q]
    exact (sortK_ok (A ++ B)).2.app (SameK.refl Q)
/-- The last block, when there is nothing to merge it with. -/
theorem blk_last {L : List Nat} {bs q0 : Nat} (hk : L.length ≤ q0 * (2 * bs) + bs) (h : ∀ q, q < q0 → SrtK key (sgL L (q * (2 * bs)) (2 * bs))) (h' : ∀ q, 2 * q0 ≤ q → SrtK key (sgL L (q * bs) bs)) (q : Nat) : SrtK key (sgL L (q * (2 * bs)) (2 * bs)) := by
  by_cases hq : q < q0
  · exact h q hq
  · by_cases hq2 : q = q0
    · subst hq2
      have := h' (2 * q) (Nat.le_refl _)
      rw [show 2 * q * bs = q * (2 * bs) by rw [Nat.mul_comm 2 q, Nat.mul_assoc]] at this
      unfold sgL at this ⊢
      rw [List.take_of_length_le (by simp; omega)] at this ⊢
      exact this
    · have hm : (q0 + 1) * (2 * bs) ≤ q * (2 * bs) := Nat.mul_le_mul_right _ (by omega)
      rw [Nat.succ_mul] at hm
      rw [sg_out (by omega)]
      exact List.Pairwise.nil
theorem blk_all {L : List Nat} {bs q0 : Nat} (hk : L.length ≤ q0 * bs) (h : ∀ q, q < q0 → SrtK key (sgL L (q * bs) bs)) (q : Nat) : SrtK key (sgL L (q * bs) bs) := by
  by_cases hq : q < q0
  · exact h q hq
  · have hm : q0 * bs ≤ q * bs := Nat.mul_le_mul_right _ (by omega)
    rw [sg_out (by omega)]
    exact List.Pairwise.nil
end
end Go.Proofs.Ytmpnkknocfaciaa
namespace Go.Proofs.Ytmpnkknocfaciaa
open Go.RowKit
set_option maxRecDepth 100000
set_option maxHeartbeats 1000000
attribute [local irreducible] Calls Walk1 WalkTo Tri EndA
theorem stable_any (pre post : List Value) (ks : List Nat) (N cap b : Nat) (cv : Value) (w : World) (key : Nat → Int) (c : Nat → Nat → Int) (M : Nat) (hc : ∀ x y, x < M → y < M → (c x y < 0 ↔ key x < key y)) (hM : 0 < M) (hd : ∀ x ∈ ks, x < M) (hN : N = ks.length) (hs : N ≤ 1099511627776) (hC : CmpOK w [b] cv M c)
    (hB : Blk w b (segA pre post ks) 3) :
    Calls Try.prog 93 #[.slice (some ⟨b, pre.length, none⟩) N cap, .int .i64 ((N : Nat) : Int), cv] w (RetP w b 3 (segA pre post (sortK key ks)) (.tuple #[])) := by
  have cI := fun P A Q p q w => insSort_any pre post P A Q N cap p q b cv w key c M hc hM
  have cM := symM_any pre post N cap b cv key c M hc hM hs
  refine calls_triI hB Try.func93 rfl Try.ntmps93 rfl ?_
  repeat (first | (show Walk1 _ _ _ (_ :: _) _ _; first | (show Walk1 _ _ _ (⟨_, .move _, _, _, _, _⟩ :: _) _ _; refine walk1_t (op_move rfl rfl rfl rfl) ?_) | (show Walk1 _ _ _ (⟨_, .assign _, _, _, _, _⟩ :: _) _ _; first | refine walk1_t (op_assignN rfl rfl rfl rfl) ?_ | refine walk1_t (op_assign rfl rfl rfl rfl) ?_)) | refine go1 ?_ | refine end_block_other rfl ?_ | refine end_scope (fun _ h => by cases h) ?_ | (refine walk_endD ?_ ?_; (· kernel_rfl)) | refine tri_yesA rfl ?_ | refine tri_noA rfl ?_ | refine tri_trueA rfl ?_ | refine tri_falseA rfl ?_)
  refine tri_loop (X := List Nat × Nat) (fun x => ⟨[(6, SV.c (.int .i64 ((20 : Nat) : Int))), (7, SV.c (.int .i64 ((x.2 * 20 : Nat) : Int))), (8, SV.c (.int .i64 ((x.2 * 20 + 20 : Nat) : Int))), (0, .c (.slice (some ⟨b, pre.length, none⟩) N cap)), (1, SV.c (.int .i64 ((N : Nat) : Int))), (2, .c cv)], [(1000, some (.blk 1000 3 (.c (segA pre post x.1)))), (1001, some (.is 1000 b))]⟩)
    (fun x => x.1.length = N ∧ SameK key x.1 ks ∧ (∀ q, q < x.2 → SrtK key (sgL x.1 (q * 20) 20)) ∧ x.2 * 20 ≤ N) (fun x => N + 20 - x.2 * 20) (ks, 0) ⟨hN.symm, SameK.refl _, fun q hq => by omega, by omega⟩ (by exact ent_keep (by repeat (first | exact hasT_nil | refine hasT_cons rfl ?_ | refine hasT_eq rfl (svi (by omega)) ?_)) (by repeat (first | exact hasR_nil | refine hasR_cons rfl ?_))) ?_
  rintro ⟨L, q0⟩ ⟨h1, h2, h3, h4⟩ K next
  dsimp only at h1 h2 h3 h4 next ⊢
  by_cases h : q0 * 20 + 20 ≤ N
  · obtain ⟨P, A, Q, e, lP, lA, g1, g2⟩ := blk_ins (key := key) (L := L) (bs := 20) (q0 := q0) 20 (by omega) (.inl rfl) h3
    have nx := fun S' => next S' (P ++ (sortK key A ++ Q), q0 + 1)
    dsimp only at nx
    have hlen : L.length = P.length + A.length + Q.length := by rw [e]; simp; omega
    have c1 := fun w => cI P A Q (q0 * 20) (q0 * 20 + 20) w (fun x hx => hd x (h2.mem.1 (by rw [e]; exact hx))) lP.symm (by omega) (by omega) hs
    have hI : (P ++ (sortK key A ++ Q)).length = N ∧ SameK key (P ++ (sortK key A ++ Q)) ks ∧ (∀ q, q < q0 + 1 → SrtK key (sgL (P ++ (sortK key A ++ Q)) (q * 20) 20)) ∧ (q0 + 1) * 20 ≤ N := ⟨by rw [g2.length, h1], g2.trans h2, g1, by omega⟩
    rw [← e] at c1
    clear next cI cM h1 h2 h3 g1 g2
    generalize P ++ (sortK key A ++ Q) = L2 at *
    repeat (first | (show Walk1 _ _ _ (_ :: _) _ _; first | (show Walk1 _ _ _ (⟨_, .move _, _, _, _, _⟩ :: _) _ _; refine walk1_t (op_move rfl rfl rfl rfl) ?_) | (show Walk1 _ _ _ (⟨_, .assign _, _, _, _, _⟩ :: _) _ _; refine walk1_t (op_assign rfl rfl rfl rfl) ?_) | (show Walk1 _ _ _ (⟨_, .binOp .add _ _ _ _, _, _, _, _⟩ :: _) _ _; refine walk1_t (op_addN rfl rfl rfl (by first | exact evN_const rfl | exact rfl) (by first | exact evN_const rfl | exact rfl) (by omega)) ?_) | (show Walk1 _ _ _ (⟨_, .binOp .leq _ _ _ _, _, _, _, _⟩ :: _) _ _; refine walk1_t (op_leN rfl rfl rfl (by first | exact evN_const rfl | exact rfl) (by first | exact evN_const rfl | exact rfl)) ?_) | (show Walk1 _ _ _ (⟨_, .call ⟨.value (.func 98), _, _⟩, _, _, _, _⟩ :: _) _ _; (first | refine walk1_tb (op_callW rfl rfl rfl (by repeat (first | exact evs_nil | apply evs_cons rfl)) rfl rfl rfl (fun _ => rfl) (fun w hF hB => c1 w (hC.later hF) hB)) ?_ | refine walk1_b (op_callW rfl rfl rfl (by repeat (first | exact evs_nil | apply evs_cons rfl)) rfl rfl rfl (fun _ => rfl) (fun w hF hB => c1 w (hC.later hF) hB)) ?_))) | refine go1 ?_ | refine end_block_other rfl ?_ | refine end_scope (fun _ h => by cases h) ?_ | (refine walk_endD ?_ ?_; (· kernel_rfl)) | refine tri_yesA rfl ?_ | refine tri_noA rfl ?_ | refine tri_trueA rfl ?_ | refine tri_falseA rfl ?_)
    exact nx _ hI (by omega) (by exact ent_keep (by repeat (first | exact hasT_nil | refine hasT_cons rfl ?_ | refine hasT_eq rfl (svi (by omega)) ?_)) (by repeat (first | exact hasR_nil | refine hasR_cons rfl ?_)))
  · obtain ⟨P, A, Q, e, lP, lA, g1, g2⟩ := blk_ins (key := key) (L := L) (bs := 20) (q0 := q0) (N - q0 * 20) (by omega) (.inr (by omega)) h3
    have hlen : L.length = P.length + A.length + Q.length := by rw [e]; simp; omega
    have c1 := fun w => cI P A Q (q0 * 20) N w (fun x hx => hd x (h2.mem.1 (by rw [e]; exact hx))) lP.symm (by omega) (by omega) hs
    have g3 := blk_all (key := key) (L := P ++ (sortK key A ++ Q)) (bs := 20) (q0 := q0 + 1) (by rw [g2.length]; omega) g1
    have hI : (P ++ (sortK key A ++ Q)).length = N ∧ SameK key (P ++ (sortK key A ++ Q)) ks := ⟨by rw [g2.length, h1], g2.trans h2⟩
    rw [← e] at c1
    clear next cI h1 h2 h3 g1 g2 e lP lA hlen
    generalize P ++ (sortK key A ++ Q) = L2 at *
    repeat (first | (show Walk1 _ _ _ (_ :: _) _ _; first | (show Walk1 _ _ _ (⟨_, .move _, _, _, _, _⟩ :: _) _ _; refine walk1_t (op_move rfl rfl rfl rfl) ?_) | (show Walk1 _ _ _ (⟨_, .binOp .leq _ _ _ _, _, _, _, _⟩ :: _) _ _; refine walk1_t (op_leN rfl rfl rfl (by first | exact evN_const rfl | exact rfl) (by first | exact evN_const rfl | exact rfl)) ?_) | (show Walk1 _ _ _ (⟨_, .call ⟨.value (.func 98), _, _⟩, _, _, _, _⟩ :: _) _ _; (first | refine walk1_tb (op_callW rfl rfl rfl (by repeat (first | exact evs_nil | apply evs_cons rfl)) rfl rfl rfl (fun _ => rfl) (fun w hF hB => c1 w (hC.later hF) hB)) ?_ | refine walk1_b (op_callW rfl rfl rfl (by repeat (first | exact evs_nil | apply evs_cons rfl)) rfl rfl rfl (fun _ => rfl) (fun w hF hB => c1 w (hC.later hF) hB)) ?_))) | refine go1 ?_ | refine end_block_other rfl ?_ | refine end_scope (fun _ h => by cases h) ?_ | (refine walk_endD ?_ ?_; (· kernel_rfl)) | refine tri_yesA rfl ?_ | refine tri_noA rfl ?_ | refine tri_trueA rfl ?_ | refine tri_falseA rfl ?_)
    refine tri_loop (X := List Nat × Nat) (fun x => ⟨[(6, SV.c (.int .i64 ((x.2 : Nat) : Int))), (0, .c (.slice (some ⟨b, pre.length, none⟩) N cap)), (1, SV.c (.int .i64 ((N : Nat) : Int))), (2, .c cv)], [(1000, some (.blk 1000 3 (.c (segA pre post x.1)))), (1001, some (.is 1000 b))]⟩)
      (fun x => x.1.length = N ∧ SameK key x.1 ks ∧ (∀ q, SrtK key (sgL x.1 (q * x.2) x.2)) ∧ 1 ≤ x.2 ∧ x.2 ≤ 2 * N + 20) (fun x => N - x.2) (L2, 20) ⟨hI.1, hI.2, g3, by dsimp only; omega, by dsimp only; omega⟩ (by exact ent_keep (by repeat (first | exact hasT_nil | refine hasT_cons rfl ?_ | refine hasT_eq rfl (svi (by omega)) ?_)) (by repeat (first | exact hasR_nil | refine hasR_cons rfl ?_))) ?_
    clear c1 hI g3 L2 P A Q h4 h L
    rintro ⟨L, bs⟩ ⟨h1, h2, h3, h4, h5⟩ K2 next2
    dsimp only at h1 h2 h3 h4 h5 next2 ⊢
    by_cases h : bs < N
    · repeat (first | (show Walk1 _ _ _ (_ :: _) _ _; first | (show Walk1 _ _ _ (⟨_, .move _, _, _, _, _⟩ :: _) _ _; refine walk1_t (op_move rfl rfl rfl rfl) ?_) | (show Walk1 _ _ _ (⟨_, .assign _, _, _, _, _⟩ :: _) _ _; first | refine walk1_t (op_assignN rfl rfl rfl rfl) ?_ | refine walk1_t (op_assign rfl rfl rfl rfl) ?_) | (show Walk1 _ _ _ (⟨_, .binOp .mul _ _ _ _, _, _, _, _⟩ :: _) _ _; refine walk1_t (op_mulN rfl rfl rfl (by first | exact evN_const rfl | exact rfl) (by first | exact evN_const rfl | exact rfl) (by omega)) ?_) | (show Walk1 _ _ _ (⟨_, .binOp .lss _ _ _ _, _, _, _, _⟩ :: _) _ _; refine walk1_t (op_ltN rfl rfl rfl (by first | exact evN_const rfl | exact rfl) (by first | exact evN_const rfl | exact rfl)) ?_)) | refine go1 ?_ | refine end_block_other rfl ?_ | refine end_scope (fun _ h => by cases h) ?_ | (refine walk_endD ?_ ?_; (· kernel_rfl)) | refine tri_yesA rfl ?_ | refine tri_noA rfl ?_ | refine tri_trueA rfl ?_ | refine tri_falseA rfl ?_)
      refine tri_loop (X := List Nat × Nat × Nat) (fun x => ⟨[(6, SV.c (.int .i64 ((bs : Nat) : Int))), (7, SV.c (.int .i64 ((x.2.2 : Nat) : Int))), (8, SV.c (.int .i64 ((x.2.2 + 2 * bs : Nat) : Int))), (0, .c (.slice (some ⟨b, pre.length, none⟩) N cap)), (1, SV.c (.int .i64 ((N : Nat) : Int))), (2, .c cv)], [(1000, some (.blk 1000 3 (.c (segA pre post x.1)))), (1001, some (.is 1000 b))]⟩)
        (fun x => x.1.length = N ∧ SameK key x.1 ks ∧ (∀ q, q < x.2.1 → SrtK key (sgL x.1 (q * (2 * bs)) (2 * bs))) ∧ (∀ q, 2 * x.2.1 ≤ q → SrtK key (sgL x.1 (q * bs) bs)) ∧ x.2.2 = x.2.1 * (2 * bs) ∧ x.2.2 ≤ N) (fun x => N - x.2.2) (L, 0, 0) ⟨h1, h2, fun q hq => by dsimp only at hq; omega, fun q _ => h3 q, by dsimp only; omega, by dsimp only; omega⟩ (by simp only [Nat.zero_add]; exact ent_keep (by repeat (first | exact hasT_nil | refine hasT_cons rfl ?_ | refine hasT_eq rfl (svi (by omega)) ?_)) (by repeat (first | exact hasR_nil | refine hasR_cons rfl ?_))) ?_
      clear h1 h2 h3 L
      rintro ⟨L, q1, a⟩ ⟨h1, h2, h3, h3', ha, h6⟩ K3 next3
      dsimp only at h1 h2 h3 h3' ha h6 next3 ⊢
      by_cases hb : a + 2 * bs ≤ N
      · obtain ⟨P, A, B, Q, e, lP, lA, lB, sA, sB, g1, g1', g2⟩ := blk_mrg (key := key) (L := L) (bs := bs) (q0 := q1) bs (by rw [← ha]; omega) (.inl rfl) h3 h3'
        rw [← ha] at lP
        have nx := fun S' => next3 S' (P ++ (sortK key (A ++ B) ++ Q), q1 + 1, a + 2 * bs)
        dsimp only at nx
        have hlen : L.length = P.length + A.length + B.length + Q.length := by rw [e]; simp; omega
        have c1 := fun w => cM (A.length + B.length) P A B Q a (a + bs) (a + 2 * bs) w (Nat.le_refl _) (by omega) (by omega) (fun x hx => hd x (h2.mem.1 (by rw [e]; exact hx))) lP.symm (by omega) (by omega) (by omega)
        have hI : (P ++ (sortK key (A ++ B) ++ Q)).length = N ∧ SameK key (P ++ (sortK key (A ++ B) ++ Q)) ks ∧ (∀ q, q < q1 + 1 → SrtK key (sgL (P ++ (sortK key (A ++ B) ++ Q)) (q * (2 * bs)) (2 * bs))) ∧ (∀ q, 2 * (q1 + 1) ≤ q → SrtK key (sgL (P ++ (sortK key (A ++ B) ++ Q)) (q * bs) bs)) ∧ a + 2 * bs = (q1 + 1) * (2 * bs) ∧ a + 2 * bs ≤ N := ⟨by rw [g2.length, h1], g2.trans h2, g1, g1', by rw [Nat.succ_mul q1 (2 * bs), ha], hb⟩
        rw [← e] at c1
        clear next2 next3 cM h1 h2 h3 g1 g2 g1' h3' e ha
        generalize P ++ (sortK key (A ++ B) ++ Q) = L2 at *
        repeat (first | (show Walk1 _ _ _ (_ :: _) _ _; first | (show Walk1 _ _ _ (⟨_, .move _, _, _, _, _⟩ :: _) _ _; refine walk1_t (op_move rfl rfl rfl rfl) ?_) | (show Walk1 _ _ _ (⟨_, .assign _, _, _, _, _⟩ :: _) _ _; refine walk1_t (op_assign rfl rfl rfl rfl) ?_) | (show Walk1 _ _ _ (⟨_, .binOp .add _ _ _ _, _, _, _, _⟩ :: _) _ _; refine walk1_t (op_addN rfl rfl rfl (by first | exact evN_const rfl | exact rfl) (by first | exact evN_const rfl | exact rfl) (by omega)) ?_) | (show Walk1 _ _ _ (⟨_, .binOp .mul _ _ _ _, _, _, _, _⟩ :: _) _ _; refine walk1_t (op_mulN rfl rfl rfl (by first | exact evN_const rfl | exact rfl) (by first | exact evN_const rfl | exact rfl) (by omega)) ?_) | (show Walk1 _ _ _ (⟨_, .binOp .leq _ _ _ _, _, _, _, _⟩ :: _) _ _; refine walk1_t (op_leN rfl rfl rfl (by first | exact evN_const rfl | exact rfl) (by first | exact evN_const rfl | exact rfl)) ?_) | (show Walk1 _ _ _ (⟨_, .call ⟨.value (.func 99), _, _⟩, _, _, _, _⟩ :: _) _ _; (first | refine walk1_tb (op_callW rfl rfl rfl (by repeat (first | exact evs_nil | apply evs_cons rfl)) rfl rfl rfl (fun _ => rfl) (fun w hF hB => c1 w (hC.later hF) sA sB hB)) ?_ | refine walk1_b (op_callW rfl rfl rfl (by repeat (first | exact evs_nil | apply evs_cons rfl)) rfl rfl rfl (fun _ => rfl) (fun w hF hB => c1 w (hC.later hF) sA sB hB)) ?_))) | refine go1 ?_ | refine end_block_other rfl ?_ | refine end_scope (fun _ h => by cases h) ?_ | (refine walk_endD ?_ ?_; (· kernel_rfl)) | refine tri_yesA rfl ?_ | refine tri_noA rfl ?_ | refine tri_trueA rfl ?_ | refine tri_falseA rfl ?_)
        exact nx _ hI (by omega) (by exact ent_keep (by repeat (first | exact hasT_nil | refine hasT_cons rfl ?_ | refine hasT_eq rfl (svi (by omega)) ?_)) (by repeat (first | exact hasR_nil | refine hasR_cons rfl ?_)))
      · by_cases hb2 : a + bs < N
        · obtain ⟨P, A, B, Q, e, lP, lA, lB, sA, sB, g1, g1', g2⟩ := blk_mrg (key := key) (L := L) (bs := bs) (q0 := q1) (N - a - bs) (by rw [← ha]; omega) (.inr (by rw [← ha]; omega)) h3 h3'
          rw [← ha] at lP
          have nx := fun S' => next2 S' (P ++ (sortK key (A ++ B) ++ Q), bs * 2)
          dsimp only at nx
          have hlen : L.length = P.length + A.length + B.length + Q.length := by rw [e]; simp; omega
          have c1 := fun w => cM (A.length + B.length) P A B Q a (a + bs) N w (Nat.le_refl _) (by omega) (by omega) (fun x hx => hd x (h2.mem.1 (by rw [e]; exact hx))) lP.symm (by omega) (by omega) (by omega)
          have g3 := blk_all (key := key) (L := P ++ (sortK key (A ++ B) ++ Q)) (bs := 2 * bs) (q0 := q1 + 1) (by rw [g2.length, Nat.succ_mul q1 (2 * bs), ← ha]; omega) g1
          have hI : (P ++ (sortK key (A ++ B) ++ Q)).length = N ∧ SameK key (P ++ (sortK key (A ++ B) ++ Q)) ks ∧ (∀ q, SrtK key (sgL (P ++ (sortK key (A ++ B) ++ Q)) (q * (bs * 2)) (bs * 2))) ∧ 1 ≤ bs * 2 ∧ bs * 2 ≤ 2 * N + 20 := ⟨by rw [g2.length, h1], g2.trans h2, fun q => by rw [Nat.mul_comm bs 2]; exact g3 q, by omega, by omega⟩
          rw [← e] at c1
          clear next2 next3 cM h1 h2 h3 g1 g2 g1' h3' e ha g3
          generalize P ++ (sortK key (A ++ B) ++ Q) = L2 at *
          repeat (first | (show Walk1 _ _ _ (_ :: _) _ _; first | (show Walk1 _ _ _ (⟨_, .move _, _, _, _, _⟩ :: _) _ _; refine walk1_t (op_move rfl rfl rfl rfl) ?_) | (show Walk1 _ _ _ (⟨_, .assign _, _, _, _, _⟩ :: _) _ _; refine walk1_t (op_assign rfl rfl rfl rfl) ?_) | (show Walk1 _ _ _ (⟨_, .binOp .add _ _ _ _, _, _, _, _⟩ :: _) _ _; refine walk1_t (op_addN rfl rfl rfl (by first | exact evN_const rfl | exact rfl) (by first | exact evN_const rfl | exact rfl) (by omega)) ?_) | (show Walk1 _ _ _ (⟨_, .binOp .mul _ _ _ _, _, _, _, _⟩ :: _) _ _; refine walk1_t (op_mulN rfl rfl rfl (by first | exact evN_const rfl | exact rfl) (by first | exact evN_const rfl | exact rfl) (by omega)) ?_) | (show Walk1 _ _ _ (⟨_, .binOp .lss _ _ _ _, _, _, _, _⟩ :: _) _ _; refine walk1_t (op_ltN rfl rfl rfl (by first | exact evN_const rfl | exact rfl) (by first | exact evN_const rfl | exact rfl)) ?_) | (show Walk1 _ _ _ (⟨_, .binOp .leq _ _ _ _, _, _, _, _⟩ :: _) _ _; refine walk1_t (op_leN rfl rfl rfl (by first | exact evN_const rfl | exact rfl) (by first | exact evN_const rfl | exact rfl)) ?_) | (show Walk1 _ _ _ (⟨_, .call ⟨.value (.func 99), _, _⟩, _, _, _, _⟩ :: _) _ _; (first | refine walk1_tb (op_callW rfl rfl rfl (by repeat (first | exact evs_nil | apply evs_cons rfl)) rfl rfl rfl (fun _ => rfl) (fun w hF hB => c1 w (hC.later hF) sA sB hB)) ?_ | refine walk1_b (op_callW rfl rfl rfl (by repeat (first | exact evs_nil | apply evs_cons rfl)) rfl rfl rfl (fun _ => rfl) (fun w hF hB => c1 w (hC.later hF) sA sB hB)) ?_))) | refine go1 ?_ | refine end_block_other rfl ?_ | refine end_scope (fun _ h => by cases h) ?_ | (refine walk_endD ?_ ?_; (· kernel_rfl)) | refine tri_yesA rfl ?_ | refine tri_noA rfl ?_ | refine tri_trueA rfl ?_ | refine tri_falseA rfl ?_)
          exact nx _ hI (by omega) (by exact ent_keep (by repeat (first | exact hasT_nil | refine hasT_cons rfl ?_ | refine hasT_eq rfl (svi (by omega)) ?_)) (by repeat (first | exact hasR_nil | refine hasR_cons rfl ?_)))
        · have nx := fun S' => next2 S' (L, bs * 2)
          have g3 := blk_last (key := key) (L := L) (bs := bs) (q0 := q1) (by rw [← ha]; omega) h3 h3'
          have hI : L.length = N ∧ SameK key L ks ∧ (∀ q, SrtK key (sgL L (q * (bs * 2)) (bs * 2))) ∧ 1 ≤ bs * 2 ∧ bs * 2 ≤ 2 * N + 20 := ⟨h1, h2, fun q => by rw [Nat.mul_comm bs 2]; exact g3 q, by omega, by omega⟩
          clear next2 next3 cM h1 h2 h3 h3' ha g3
          repeat (first | (show Walk1 _ _ _ (_ :: _) _ _; first | (show Walk1 _ _ _ (⟨_, .move _, _, _, _, _⟩ :: _) _ _; refine walk1_t (op_move rfl rfl rfl rfl) ?_) | (show Walk1 _ _ _ (⟨_, .assign _, _, _, _, _⟩ :: _) _ _; refine walk1_t (op_assign rfl rfl rfl rfl) ?_) | (show Walk1 _ _ _ (⟨_, .binOp .add _ _ _ _, _, _, _, _⟩ :: _) _ _; refine walk1_t (op_addN rfl rfl rfl (by first | exact evN_const rfl | exact rfl) (by first | exact evN_const rfl | exact rfl) (by omega)) ?_) | (show Walk1 _ _ _ (⟨_, .binOp .mul _ _ _ _, _, _, _, _⟩ :: _) _ _; refine walk1_t (op_mulN rfl rfl rfl (by first | exact evN_const rfl | exact rfl) (by first | exact evN_const rfl | exact rfl) (by omega)) ?_) | (show Walk1 _ _ _ (⟨_, .binOp .lss _ _ _ _, _, _, _, _⟩ :: _) _ _; refine walk1_t (op_ltN rfl rfl rfl (by first | exact evN_const rfl | exact rfl) (by first | exact evN_const rfl | exact rfl)) ?_) | (show Walk1 _ _ _ (⟨_, .binOp .leq _ _ _ _, _, _, _, _⟩ :: _) _ _; refine walk1_t (op_leN rfl rfl rfl (by first | exact evN_const rfl | exact rfl) (by first | exact evN_const rfl | exact rfl)) ?_)) | refine go1 ?_ | refine end_block_other rfl ?_ | refine end_scope (fun _ h => by cases h) ?_ | (refine walk_endD ?_ ?_; (· kernel_rfl)) | refine tri_yesA rfl ?_ | refine tri_noA rfl ?_ | refine tri_trueA rfl ?_ | refine tri_falseA rfl ?_)
          exact nx _ hI (by omega) (by exact ent_keep (by repeat (first | exact hasT_nil | refine hasT_cons rfl ?_ | refine hasT_eq rfl (svi (by omega)) ?_)) (by repeat (first | exact hasR_nil | refine hasR_cons rfl ?_)))
    · have hf : L = sortK key ks := by
        refine sortK_is ?_ h2
        have := h3 0
        unfold sgL at this
        rwa [Nat.zero_mul, List.drop_zero, List.take_of_length_le (by omega)] at this
      rw [hf]
      clear next2 cM h3 h2 hf
      generalize sortK key ks = L2 at *
      repeat (first | (show Walk1 _ _ _ (_ :: _) _ _; first | (show Walk1 _ _ _ (⟨_, .move _, _, _, _, _⟩ :: _) _ _; refine walk1_t (op_move rfl rfl rfl rfl) ?_) | (show Walk1 _ _ _ (⟨_, .binOp .lss _ _ _ _, _, _, _, _⟩ :: _) _ _; refine walk1_t (op_ltN rfl rfl rfl (by first | exact evN_const rfl | exact rfl) (by first | exact evN_const rfl | exact rfl)) ?_)) | refine go1 ?_ | refine end_block_other rfl ?_ | refine end_scope (fun _ h => by cases h) ?_ | (refine walk_endD ?_ ?_; (· kernel_rfl)) | refine tri_yesA rfl ?_ | refine tri_noA rfl ?_ | refine tri_trueA rfl ?_ | refine tri_falseA rfl ?_)
      refine end_normal _ (res_none rfl) ?_
      exact fin_obj rfl rfl (fun _ => rfl) (fun _ => rfl)
theorem sortF_any (pre post : List Value) (ks : List Nat) (N cap b : Nat) (cv : Value) (w : World) (key : Nat → Int) (c : Nat → Nat → Int) (M : Nat) (hc : ∀ x y, x < M → y < M → (c x y < 0 ↔ key x < key y)) (hM : 0 < M) (hd : ∀ x ∈ ks, x < M) (hN : N = ks.length) (hs : N ≤ 1099511627776) (hC : CmpOK w [b] cv M c)
    (hB : Blk w b (segA pre post ks) 3) :
    Calls Try.prog 74 #[.slice (some ⟨b, pre.length, none⟩) N cap, cv] w (RetP w b 3 (segA pre post (sortK key ks)) (.tuple #[])) := by
  have c1 := fun w => stable_any pre post ks N cap b cv w key c M hc hM hd hN hs
  generalize segA pre post (sortK key ks) = A2 at *
  refine calls_triI hB Try.func74 rfl Try.ntmps74 rfl ?_
  repeat (first | (show Walk1 _ _ _ (_ :: _) _ _; first | (show Walk1 _ _ _ (⟨_, .move _, _, _, _, _⟩ :: _) _ _; refine walk1_t (op_move rfl rfl rfl rfl) ?_) | (show Walk1 _ _ _ (⟨_, .call ⟨.builtin .len, _, _⟩, _, _, _, _⟩ :: _) _ _; refine walk1_t (op_lenC rfl rfl rfl) ?_) | (show Walk1 _ _ _ (⟨_, .call ⟨.value (.func 93), _, _⟩, _, _, _, _⟩ :: _) _ _; (first | refine walk1_tb (op_callW rfl rfl rfl (by repeat (first | exact evs_nil | apply evs_cons rfl)) rfl rfl rfl (fun _ => rfl) (fun w hF hB => c1 w (hC.later hF) hB)) ?_ | refine walk1_b (op_callW rfl rfl rfl (by repeat (first | exact evs_nil | apply evs_cons rfl)) rfl rfl rfl (fun _ => rfl) (fun w hF hB => c1 w (hC.later hF) hB)) ?_))) | refine go1 ?_ | refine end_block_other rfl ?_ | refine end_scope (fun _ h => by cases h) ?_ | (refine walk_endD ?_ ?_; (· kernel_rfl)) | refine tri_yesA rfl ?_ | refine tri_noA rfl ?_ | refine tri_trueA rfl ?_ | refine tri_falseA rfl ?_)
  refine end_normal _ (res_none rfl) ?_
  exact fin_obj rfl rfl (fun _ => rfl) (fun _ => rfl)
end Go.Proofs.Ytmpnkknocfaciaa
