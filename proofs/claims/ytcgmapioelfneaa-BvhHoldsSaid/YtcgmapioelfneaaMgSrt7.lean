/- Two sorted rows merged in place: walked. No condition. A row sorted block by block, the blocks merged by pairs: walked. No condition. The library's sort that keeps the order of equals: walked. No condition. The box of some points: walked. No condition. -/
import Derived.Test.YtcgmapioelfneaaMgSrt3
import Derived.Test.YtcgmapioelfneaaMgSymY
import Derived.Test.YtcgmapioelfneaaMgSymK
import Derived.Test.YtcgmapioelfneaaSymX
namespace Go.Proofs.Ytcgmapioelfneaa
open Go.RowKit
set_option maxRecDepth 100000
set_option maxHeartbeats 1000000
/-- One state behind a piece of code, whichever way it goes. -/
theorem tri_cut2 {C : Ctx} {P : Program} {S : St} {x y : Code} {Q : Exit → Act → World → Prop} (S1 : St) (h1 : ∀ K : Act → World → Prop, (∀ S', Ents C S' S1 → EndA C S' K) → Tri C P S x (Exit.then K Q)) (h2 : Tri C P S1 y Q) : Tri C P S x (Exit.then (fun a w => y.wp P Q a w) Q) :=
  h1 _ fun _ hE => end_ent hE h2
theorem tri_cut3 {C : Ctx} {P : Program} {S : St} {x y : Code} {Q : Exit → Act → World → Prop} (S1 : St) (h1 : ∀ K : Act → World → Prop, (∀ S', Ents C S' S1 → EndA C S' K) → Tri C P S x (Exit.then K Q)) (h2 : Tri C P S1 y Q) : Tri C P S (.seq x y) Q := tri_seq (tri_cut2 S1 h1 h2)
theorem sym_plan {key : Nat → Int} {P A B Q L0 : List Nat} (hL0 : L0 = P ++ (A ++ (B ++ Q))) (hA : SrtK key A) (hB : SrtK key B) {p m e mid n s0 r0 s : Nat} (hp : p = P.length) (hm : m = p + A.length) (he : e = m + B.length) (hmid : mid = (p + e) / 2) (hn : n = mid + m) (h2A : 2 ≤ A.length) (h2B : 2 ≤ B.length)
    (h0 : (mid < m ∧ s0 = n - e ∧ r0 = mid) ∨ (¬ mid < m ∧ s0 = p ∧ r0 = m)) (h1 : s0 ≤ s) (h2 : s ≤ r0) (h3 : s = s0 ∨ ¬ key (gtN L0 (n - 1 - (s - 1))) < key (gtN L0 (s - 1))) (h4 : s = r0 ∨ key (gtN L0 (n - 1 - s)) < key (gtN L0 s)) :
    ∃ A1 A2 B1 B2, A = A1 ++ A2 ∧ B = B1 ++ B2 ∧ A1.length = s - p ∧ p ≤ s ∧ s ≤ m ∧ B1.length = n - s - m ∧ m ≤ n - s ∧ n - s ≤ e ∧ s ≤ n ∧ SrtK key A1 ∧ SrtK key A2 ∧ SrtK key B1 ∧ SrtK key B2 ∧ sortK key (A1 ++ B1) ++ sortK key (A2 ++ B2) = sortK key (A ++ B) := by
  have gA : ∀ u, u < A.length → gtN L0 (p + u) = gtN A u := fun u hu => by
    rw [hL0, hp, gtN_app2, gtN_app1 _ _ _ hu]
  have gB : ∀ u, u < B.length → gtN L0 (m + u) = gtN B u := fun u hu => by
    rw [hL0, ← List.append_assoc, show m + u = (P ++ A).length + u by simp; omega, gtN_app2, gtN_app1 _ _ _ hu]
  have b1 : p ≤ s := by omega
  have b2 : s ≤ m := by omega
  have b3 : m ≤ n - s := by omega
  have b4 : n - s ≤ e := by omega
  have b5 : s ≤ n := by omega
  have eA : A.take (s - p) ++ A.drop (s - p) = A := List.take_append_drop _ _
  have eB : B.take (n - s - m) ++ B.drop (n - s - m) = B := List.take_append_drop _ _
  have lA : (A.take (s - p)).length = s - p := by simp; omega
  have lB : (B.take (n - s - m)).length = n - s - m := by simp; omega
  have sA := List.pairwise_append.1 (by rw [eA]; exact hA : SrtK key (A.take (s - p) ++ A.drop (s - p)))
  have sB := List.pairwise_append.1 (by rw [eB]; exact hB : SrtK key (B.take (n - s - m) ++ B.drop (n - s - m)))
  have strict : ∀ u ∈ A.drop (s - p), ∀ v ∈ B.take (n - s - m), key v < key u := by
    intro u hu v hv
    obtain ⟨i, hi1, hi2, rfl⟩ := mem_drop_gt hu
    obtain ⟨j, hj1, hj2, rfl⟩ := mem_take_gt hv
    rcases h4 with h4 | h4
    · exfalso; omega
    · rw [show s = p + (s - p) by omega, gA (s - p) (by omega), show n - 1 - (p + (s - p)) = m + (n - s - m - 1) by omega, gB _ (by omega)] at h4
      have := srt_gt hA hi1 hi2
      have := srt_gt hB (show j ≤ n - s - m - 1 by omega) (by omega)
      omega
  have loose : ∀ u ∈ A.take (s - p), ∀ v ∈ B.drop (n - s - m), key u ≤ key v := by
    intro u hu v hv
    obtain ⟨i, hi1, hi2, rfl⟩ := mem_take_gt hu
    obtain ⟨j, hj1, hj2, rfl⟩ := mem_drop_gt hv
    rcases h3 with h3 | h3
    · exfalso; omega
    · rw [show n - 1 - (s - 1) = m + (n - s - m) by omega, gB _ (by omega), show s - 1 = p + (s - p - 1) by omega, gA _ (by omega)] at h3
      have := srt_gt hA (show i ≤ s - p - 1 by omega) (by omega)
      have := srt_gt hB hj1 hj2
      omega
  refine ⟨A.take (s - p), A.drop (s - p), B.take (n - s - m), B.drop (n - s - m), eA.symm, eB.symm, lA, b1, b2, lB, b3, b4, b5, sA.1, sA.2.1, sB.1, sB.2.1, ?_⟩
  generalize A.take (s - p) = A1 at *
  generalize A.drop (s - p) = A2 at *
  generalize B.take (n - s - m) = B1 at *
  generalize B.drop (n - s - m) = B2 at *
  subst eA eB
  refine sortK_is (SrtK.app (sortK_ok _).1 (sortK_ok _).1 fun x hx y hy => ?_) ?_
  · rw [sortK_mem, List.mem_append] at hx hy
    rcases hx with hx | hx <;> rcases hy with hy | hy
    · exact sA.2.2 x hx y hy
    · exact loose x hx y hy
    · have := strict y hy x hx; omega
    · exact sB.2.2 x hx y hy
  · refine ((sortK_ok (A1 ++ B1)).2.app (sortK_ok (A2 ++ B2)).2).trans ?_
    have := ((SameK.refl (key := key) A1).app (SameK.turn (u := B1) (v := A2) fun x hx y hy => by have := strict y hy x hx; omega)).app (SameK.refl B2)
    simpa using this
attribute [local irreducible] Calls Walk1 WalkTo Tri EndA
theorem symM_any (pre post : List Value) (N cap b : Nat) (cv : Value) (key : Nat → Int) (c : Nat → Nat → Int) (M : Nat) (hc : ∀ x y, x < M → y < M → (c x y < 0 ↔ key x < key y)) (hM : 0 < M) (hs : N ≤ 1099511627776) : ∀ (fuel : Nat) (P A B Q : List Nat) (p m e : Nat) (w : World), A.length + B.length ≤ fuel → 0 < A.length → 0 < B.length → (∀ y ∈ P ++ (A ++ (B ++ Q)), y < M) →
    p = P.length → m = p + A.length → e = m + B.length → N = e + Q.length → CmpOK w [b] cv M c → SrtK key A → SrtK key B → Blk w b (segA pre post (P ++ (A ++ (B ++ Q)))) 3 →
    Calls Try.prog 45 #[.slice (some ⟨b, pre.length, none⟩) N cap, .int .i64 ((p : Nat) : Int), .int .i64 ((m : Nat) : Int), .int .i64 ((e : Nat) : Int), cv] w (RetP w b 3 (segA pre post (P ++ (sortK key (A ++ B) ++ Q))) (.tuple #[])) := by
  intro fuel
  induction fuel with
  | zero => intro P A B Q p m e w h1 h2; omega
  | succ fuel ih =>
    intro P A B Q p m e w hfu hA0 hB0 hd hp hm he hN hC hSA hSB hB
    by_cases h1A : A.length = 1
    · obtain ⟨x, rfl⟩ := List.length_eq_one_iff.1 h1A
      exact symM_one pre post P x B Q N cap p m e b cv w key c M hc hM (by simpa using hd) hp (by simpa using hm) he hN hs hC hSB (by simpa using hB)
    by_cases h1B : B.length = 1
    · obtain ⟨x, rfl⟩ := List.length_eq_one_iff.1 h1B
      exact symM_two pre post P x A Q N cap p m e b cv w key c M hc hM (by simpa using hd) hp hm h1A (by simpa using he) hN hs hC hSA (by simpa using hB)
    obtain ⟨L0, hL0⟩ : ∃ l, l = P ++ (A ++ (B ++ Q)) := ⟨_, rfl⟩
    obtain ⟨mid, hmid⟩ : ∃ x, x = (p + e) / 2 := ⟨_, rfl⟩
    obtain ⟨n, hn⟩ : ∃ x, x = mid + m := ⟨_, rfl⟩
    have plan := fun s0 r0 s => sym_plan (s0 := s0) (r0 := r0) (s := s) hL0 hSA hSB hp hm he hmid hn (by omega) (by omega)
    have hdg : ∀ j, gtN L0 j < M := fun j => gtN_lt hM (by rw [hL0]; exact hd) j
    have hlen0 : L0.length = N := by rw [hL0]; simp; omega
    obtain ⟨s0, r0, h0⟩ : ∃ s0 r0, (mid < m ∧ s0 = n - e ∧ r0 = mid) ∨ (¬ mid < m ∧ s0 = p ∧ r0 = m) := by
      by_cases h : mid < m
      · exact ⟨n - e, mid, .inl ⟨h, rfl, rfl⟩⟩
      · exact ⟨p, m, .inr ⟨h, rfl, rfl⟩⟩
    rw [← hL0] at hB
    have heN : e ≤ N := by omega
    have b1 : p + 2 ≤ m := by omega
    have b2 : m + 2 ≤ e := by omega
    refine calls_triI hB Try.func45 rfl Try.ntmps45 rfl ?_
    repeat (first | (show Walk1 _ _ _ (_ :: _) _ _; first | (show HW1 (.move _); refine wz1 ?_) | (show HW1 (.assign _); first | refine wz13 ?_ | refine wz2 ?_) | (show HW1 (.binOp .add _ _ _ _); refine wz10 ?_) | (show HW1 (.binOp .sub _ _ _ _); refine wz35 ?_) | (show HW1 (.binOp .gtr _ _ _ _); refine wz33 ?_) | (show HW1 (.binOp .eql _ _ _ _); refine wz30 ?_) | (show HW1 (.binOp .shr _ _ _ _); refine wz68 ?_) | (show HW1 (.convert _ _ _); first | refine wz66 ?_ | refine wz65 ?_)) | refine go1 ?_ | refine end_block_other rfl ?_ | refine end_scope (fun _ h => by cases h) ?_ | (refine walk_endD ?_ ?_; (· kernel_rfl)) | refine tri_yesA rfl ?_ | refine tri_noA rfl ?_ | refine tri_trueA rfl ?_ | refine tri_falseA rfl ?_)
    rw [← hmid, ← hn]
    refine tri_cut2 ⟨[(18, SV.c (.int .i64 ((mid : Nat) : Int))), (19, SV.c (.int .i64 ((n : Nat) : Int))), (20, SV.c (.int .i64 ((s0 : Nat) : Int))), (21, SV.c (.int .i64 ((r0 : Nat) : Int))), (0, .c (.slice (some ⟨b, pre.length, none⟩) N cap)), (1, SV.c (.int .i64 ((p : Nat) : Int))), (2, SV.c (.int .i64 ((m : Nat) : Int))), (3, SV.c (.int .i64 ((e : Nat) : Int))), (4, .c cv)], [(1000, some (.blk 1000 3 (.c (segA pre post L0)))), (1001, some (.is 1000 b))]⟩ (fun K hK => ?_) ?_
    · clear plan ih
      rcases h0 with ⟨h, rfl, rfl⟩ | ⟨h, rfl, rfl⟩
      · repeat (first | (show Walk1 _ _ _ (_ :: _) _ _; first | (show HW1 (.move _); refine wz1 ?_) | (show HW1 (.assign _); refine wz2 ?_) | (show HW1 (.binOp .sub _ _ _ _); refine wz35 ?_)) | refine go1 ?_ | refine end_block_other rfl ?_ | refine end_scope (fun _ h => by cases h) ?_ | (refine walk_endD ?_ ?_; (· kernel_rfl)) | refine tri_yesA rfl ?_ | refine tri_noA rfl ?_ | refine tri_trueA rfl ?_ | refine tri_falseA rfl ?_)
        exact hK _ (by exact ent_kp)
      · repeat (first | (show Walk1 _ _ _ (_ :: _) _ _; first | (show HW1 (.move _); refine wz1 ?_) | (show HW1 (.assign _); refine wz2 ?_)) | refine go1 ?_ | refine end_block_other rfl ?_ | refine end_scope (fun _ h => by cases h) ?_ | (refine walk_endD ?_ ?_; (· kernel_rfl)) | refine tri_yesA rfl ?_ | refine tri_noA rfl ?_ | refine tri_trueA rfl ?_ | refine tri_falseA rfl ?_)
        exact hK _ (by exact ent_kp)
    repeat (first | (show Walk1 _ _ _ (_ :: _) _ _; first | (show HW1 (.move _); refine wz1 ?_) | (show HW1 (.assign _); refine wz2 ?_) | (show HW1 (.binOp .sub _ _ _ _); refine wz35 ?_)) | refine go1 ?_ | refine end_block_other rfl ?_ | refine end_scope (fun _ h => by cases h) ?_ | (refine walk_endD ?_ ?_; (· kernel_rfl)) | refine tri_yesA rfl ?_ | refine tri_noA rfl ?_ | refine tri_trueA rfl ?_ | refine tri_falseA rfl ?_)
    refine tri_loop (X := Nat × Nat) (fun z => ⟨[(22, SV.c (.int .i64 ((n - 1 : Nat) : Int))), (18, SV.c (.int .i64 ((mid : Nat) : Int))), (19, SV.c (.int .i64 ((n : Nat) : Int))), (20, SV.c (.int .i64 ((z.1 : Nat) : Int))), (21, SV.c (.int .i64 ((z.2 : Nat) : Int))), (0, .c (.slice (some ⟨b, pre.length, none⟩) N cap)), (1, SV.c (.int .i64 ((p : Nat) : Int))), (2, SV.c (.int .i64 ((m : Nat) : Int))), (3, SV.c (.int .i64 ((e : Nat) : Int))), (4, .c cv)], [(1000, some (.blk 1000 3 (.c (segA pre post L0)))), (1001, some (.is 1000 b))]⟩)
      (fun z => s0 ≤ z.1 ∧ z.1 ≤ z.2 ∧ z.2 ≤ r0 ∧ (z.1 = s0 ∨ ¬ key (gtN L0 (n - 1 - (z.1 - 1))) < key (gtN L0 (z.1 - 1))) ∧ (z.2 = r0 ∨ key (gtN L0 (n - 1 - z.2)) < key (gtN L0 z.2))) (fun z => z.2 - z.1) (s0, r0) ⟨by omega, by dsimp only; omega, by omega, .inl rfl, .inl rfl⟩ (by exact ent_kp) ?_
    rintro ⟨i, j⟩ ⟨g1, g2, g3, g4, g5⟩ K next
    dsimp only at g1 g2 g3 g4 g5 next ⊢
    by_cases h : i < j
    · have d1 := hdg ((i + j) / 2)
      have d2 := hdg (n - 1 - (i + j) / 2)
      have hcc := hc _ _ d2 d1
      have nx1 := fun S' => next S' ((i + j) / 2 + 1, j)
      have nx2 := fun S' => next S' (i, (i + j) / 2)
      have hb : s0 ≤ (i + j) / 2 ∧ (i + j) / 2 < r0 ∧ (i + j) / 2 + 1 ≤ n ∧ n - 1 - (i + j) / 2 < N ∧ (i + j) / 2 < N := by omega
      clear next plan ih hd
      by_cases hk : key (gtN L0 (n - 1 - (i + j) / 2)) < key (gtN L0 ((i + j) / 2))
      · have hcx := hcc.2 hk
        repeat (first | (show Walk1 _ _ _ (_ :: _) _ _; first | (show HW1 (.move _); refine wz1 ?_) | (show HW1 (.assign _); refine wz2 ?_) | (show HW1 (.binOp .add _ _ _ _); refine wz10 ?_) | (show HW1 (.binOp .lss _ _ _ _); refine wz5 ?_) | (show HW1 (.binOp .shr _ _ _ _); refine wz68 ?_) | (show HW1 (.convert _ _ _); first | refine wz66 ?_ | refine wz65 ?_)) | (show WalkTo _ _ _ _ (_ :: _) _ _ _; first | (show HW2 (.move _); refine wz20 ?_) | (show HW2 (.binOp .sub _ _ _ _); refine wz72 ?_) | (show HW2 (.binOp .lss _ _ _ _); refine wz56 ?_) | (show HW2 (.unOp _ _ _); refine wz77 ?_) | (show HW2 (.indexAddr _ _ _); refine wz55 ?_) | (show HW2 (.load _ _); refine wz54 ?_) | (show HW2 (.call ⟨.value (.tmp _), _, _⟩); refine wz93 ?_)) | refine go1 ?_ | refine end_block_other rfl ?_ | refine end_scope (fun _ h => by cases h) ?_ | (refine walk_endD ?_ ?_; (· kernel_rfl)) | refine tri_yesA rfl ?_ | refine tri_noA rfl ?_ | refine tri_trueA rfl ?_ | refine tri_falseA rfl ?_)
        refine tri_false rfl (by simpa using hcx) ?_
        repeat (first | (show Walk1 _ _ _ (_ :: _) _ _; first | (show HW1 (.move _); refine wz1 ?_) | (show HW1 (.assign _); refine wz2 ?_)) | refine go1 ?_ | refine end_block_other rfl ?_ | refine end_scope (fun _ h => by cases h) ?_ | (refine walk_endD ?_ ?_; (· kernel_rfl)) | refine tri_yesA rfl ?_ | refine tri_noA rfl ?_ | refine tri_trueA rfl ?_ | refine tri_falseA rfl ?_)
        exact nx2 _ ⟨g1, by dsimp only; omega, by dsimp only; omega, g4, .inr hk⟩ (by dsimp only; omega) (by exact ent_kp)
      · have hcx := fun h => hk (hcc.1 h)
        repeat (first | (show Walk1 _ _ _ (_ :: _) _ _; first | (show HW1 (.move _); refine wz1 ?_) | (show HW1 (.assign _); refine wz2 ?_) | (show HW1 (.binOp .add _ _ _ _); refine wz10 ?_) | (show HW1 (.binOp .lss _ _ _ _); refine wz5 ?_) | (show HW1 (.binOp .shr _ _ _ _); refine wz68 ?_) | (show HW1 (.convert _ _ _); first | refine wz66 ?_ | refine wz65 ?_)) | (show WalkTo _ _ _ _ (_ :: _) _ _ _; first | (show HW2 (.move _); refine wz20 ?_) | (show HW2 (.binOp .sub _ _ _ _); refine wz72 ?_) | (show HW2 (.binOp .lss _ _ _ _); refine wz56 ?_) | (show HW2 (.unOp _ _ _); refine wz77 ?_) | (show HW2 (.indexAddr _ _ _); refine wz55 ?_) | (show HW2 (.load _ _); refine wz54 ?_) | (show HW2 (.call ⟨.value (.tmp _), _, _⟩); refine wz93 ?_)) | refine go1 ?_ | refine end_block_other rfl ?_ | refine end_scope (fun _ h => by cases h) ?_ | (refine walk_endD ?_ ?_; (· kernel_rfl)) | refine tri_yesA rfl ?_ | refine tri_noA rfl ?_ | refine tri_trueA rfl ?_ | refine tri_falseA rfl ?_)
        refine tri_true rfl (by simpa using hcx) ?_
        repeat (first | (show Walk1 _ _ _ (_ :: _) _ _; first | (show HW1 (.move _); refine wz1 ?_) | (show HW1 (.assign _); refine wz2 ?_) | (show HW1 (.binOp .add _ _ _ _); refine wz10 ?_)) | refine go1 ?_ | refine end_block_other rfl ?_ | refine end_scope (fun _ h => by cases h) ?_ | (refine walk_endD ?_ ?_; (· kernel_rfl)) | refine tri_yesA rfl ?_ | refine tri_noA rfl ?_ | refine tri_trueA rfl ?_ | refine tri_falseA rfl ?_)
        exact nx1 _ ⟨by dsimp only; omega, by dsimp only; omega, g3, .inr (by simpa using hk), g5⟩ (by dsimp only; omega) (by exact ent_kp)
    · obtain rfl : i = j := by omega
      obtain ⟨A1, A2, B1, B2, rfl, rfl, l1, q1, q2, l2, q3, q4, q5, sA1, sA2, sB1, sB2, hfin⟩ := plan s0 r0 i h0 g1 g3 g4 g5
      obtain ⟨L1, hL1⟩ : ∃ l, l = P ++ (A1 ++ (B1 ++ (A2 ++ (B2 ++ Q)))) := ⟨_, rfl⟩
      obtain ⟨L2, hL2⟩ : ∃ l, l = P ++ (sortK key (A1 ++ B1) ++ (A2 ++ (B2 ++ Q))) := ⟨_, rfl⟩
      obtain ⟨L3, hL3⟩ : ∃ l, l = P ++ (sortK key (A1 ++ A2 ++ (B1 ++ B2)) ++ Q) := ⟨_, rfl⟩
      have hL3' : L3 = (P ++ sortK key (A1 ++ B1)) ++ (sortK key (A2 ++ B2) ++ Q) := by rw [hL3, ← hfin]; simp
      have lA2 : A2.length = m - i := by simp at hm; omega
      have lB2 : B2.length = e - (n - i) := by simp at he; omega
      have sl : (sortK key (A1 ++ B1)).length = mid - p := by rw [sortK_len, List.length_append]; omega
      have c1 : i < m → m < n - i → ∀ w, Blk w b (segA pre post L0) 3 → Calls Try.prog 47 #[.slice (some ⟨b, pre.length, none⟩) N cap, .int .i64 ((i : Nat) : Int), .int .i64 ((m : Nat) : Int), .int .i64 ((n - i : Nat) : Int), cv] w (RetP w b 3 (segA pre post L1) (.tuple #[])) := by
        intro h1 h2 w hB
        have := rotate_any pre post (P ++ A1) A2 B1 (B2 ++ Q) N cap i m (n - i) b cv w (by omega) (by omega) (by rw [List.length_append]; omega) (by rw [List.length_append]; omega) (by rw [List.length_append]; omega) (by rw [List.length_append, List.length_append]; omega) hs (by rw [hL0] at hB; simpa using hB)
        rw [hL1]
        simpa using this
      have n1 : ¬ (i < m ∧ m < n - i) → L0 = L1 := by
        intro h
        rw [hL0, hL1]
        by_cases h2 : i < m
        · rw [List.eq_nil_of_length_eq_zero (show B1.length = 0 by omega)]; simp
        · rw [List.eq_nil_of_length_eq_zero (show A2.length = 0 by omega)]; simp
      have c2 : p < i → i < mid → ∀ w, CmpOK w [b] cv M c → Blk w b (segA pre post L1) 3 → Calls Try.prog 45 #[.slice (some ⟨b, pre.length, none⟩) N cap, .int .i64 ((p : Nat) : Int), .int .i64 ((i : Nat) : Int), .int .i64 ((mid : Nat) : Int), cv] w (RetP w b 3 (segA pre post L2) (.tuple #[])) := by
        intro h1 h2 w hC hB
        have := ih P A1 B1 (A2 ++ (B2 ++ Q)) p i mid w (by omega) (by omega) (by omega) (fun y hy => hd y (by simp only [List.mem_append] at hy ⊢; rcases hy with hy | hy | hy | hy | hy | hy <;> simp [hy])) hp (by omega) (by omega) (by rw [List.length_append, List.length_append]; omega) hC sA1 sB1 (by rw [hL1] at hB; exact hB)
        rw [hL2]
        exact this
      have n2 : ¬ (p < i ∧ i < mid) → L1 = L2 := by
        intro h
        rw [hL1, hL2]
        by_cases h2 : p < i
        · rw [List.eq_nil_of_length_eq_zero (show B1.length = 0 by omega), List.append_nil, sortK_self sA1]; simp
        · rw [List.eq_nil_of_length_eq_zero (show A1.length = 0 by omega)]; simp only [List.nil_append]; rw [sortK_self sB1]
      have c3 : mid < n - i → n - i < e → ∀ w, CmpOK w [b] cv M c → Blk w b (segA pre post L2) 3 → Calls Try.prog 45 #[.slice (some ⟨b, pre.length, none⟩) N cap, .int .i64 ((mid : Nat) : Int), .int .i64 ((n - i : Nat) : Int), .int .i64 ((e : Nat) : Int), cv] w (RetP w b 3 (segA pre post L3) (.tuple #[])) := by
        intro h1 h2 w hC hB
        have := ih (P ++ sortK key (A1 ++ B1)) A2 B2 Q mid (n - i) e w (by omega) (by omega) (by omega) (fun y hy => hd y (by simp only [List.mem_append, sortK_mem] at hy ⊢; rcases hy with (hy | hy | hy) | hy | hy | hy <;> simp [hy])) (by rw [List.length_append]; omega) (by omega) (by omega) hN hC sA2 sB2 (by rw [hL2] at hB; simpa using hB)
        rw [hL3']
        exact this
      have n3 : ¬ (mid < n - i ∧ n - i < e) → L2 = L3 := by
        intro h
        rw [hL2, hL3']
        by_cases h2 : mid < n - i
        · rw [List.eq_nil_of_length_eq_zero (show B2.length = 0 by omega), List.append_nil, sortK_self sA2]; simp
        · rw [List.eq_nil_of_length_eq_zero (show A2.length = 0 by omega)]; simp only [List.nil_append]; rw [sortK_self sB2]; simp
      rw [← hL3]
      clear plan ih hd next hL0 hL1 hL2 hL3 hL3' hfin hm he sA1 sB1 sA2 sB2 hSA hSB hA0 hB0 h1A h1B hfu sl lA2 lB2 l1 l2 hdg g4 g5 hp
      iterate 22 (try (first | (show Walk1 _ _ _ (_ :: _) _ _; first | (show HW1 (.move _); refine wz1 ?_) | (show HW1 (.assign _); refine wz2 ?_) | (show HW1 (.binOp .sub _ _ _ _); refine wz35 ?_) | (show HW1 (.binOp .lss _ _ _ _); refine wz5 ?_)) | refine go1 ?_ | refine end_block_other rfl ?_ | refine end_scope (fun _ h => by cases h) ?_ | (refine walk_endD ?_ ?_; (· kernel_rfl)) | refine tri_yesA rfl ?_ | refine tri_noA rfl ?_ | refine tri_trueA rfl ?_ | refine tri_falseA rfl ?_))
      refine tri_cut3 ⟨[(24, SV.c (.int .i64 ((n - i : Nat) : Int))), (18, SV.c (.int .i64 ((mid : Nat) : Int))), (20, SV.c (.int .i64 ((i : Nat) : Int))), (0, .c (.slice (some ⟨b, pre.length, none⟩) N cap)), (1, SV.c (.int .i64 ((p : Nat) : Int))), (2, SV.c (.int .i64 ((m : Nat) : Int))), (3, SV.c (.int .i64 ((e : Nat) : Int))), (4, .c cv)], [(1000, some (.blk 1000 3 (.c (segA pre post L1)))), (1001, some (.is 1000 b))]⟩ (fun K hK => ?_) ?_
      · by_cases h1 : i < m
        · by_cases h2 : m < n - i
          · have cc := c1 h1 h2
            clear n1 n2 n3 c1 c2 c3
            repeat (first | (show Walk1 _ _ _ (_ :: _) _ _; first | (show Walk1 _ _ _ (⟨_, _, _, _, _, some _⟩ :: _) _ _; refine zy1 ?_) | (show HW1 (.move _); refine wz1 ?_) | (show HW1 (.binOp .lss _ _ _ _); refine wz5 ?_) | (show HW1 (.pick _ _ _); refine wz8 ?_) | (show HW1 (.call ⟨.value (.func 47), _, _⟩); (first | refine walk1_tb (op_callW rfl rfl rfl evq rfl rfl rfl (fun _ => rfl) (fun w hF hB => cc w hB)) ?_ | refine walk1_b (op_callW rfl rfl rfl evq rfl rfl rfl (fun _ => rfl) (fun w hF hB => cc w hB)) ?_))) | refine go1 ?_ | refine end_block_other rfl ?_ | refine end_scope (fun _ h => by cases h) ?_ | (refine walk_endD ?_ ?_; (· kernel_rfl)) | refine tri_yesA rfl ?_ | refine tri_noA rfl ?_ | refine tri_trueA rfl ?_ | refine tri_falseA rfl ?_)
            exact hK _ (by exact ent_kp)
          · rw [n1 (fun h => h2 h.2)] at *
            clear n1 n2 n3 c1 c2 c3
            repeat (first | (show Walk1 _ _ _ (_ :: _) _ _; first | (show Walk1 _ _ _ (⟨_, _, _, _, _, some _⟩ :: _) _ _; refine zy1 ?_) | (show HW1 (.move _); refine wz1 ?_) | (show HW1 (.binOp .lss _ _ _ _); refine wz5 ?_) | (show HW1 (.pick _ _ _); refine wz8 ?_)) | refine go1 ?_ | refine end_block_other rfl ?_ | refine end_scope (fun _ h => by cases h) ?_ | (refine walk_endD ?_ ?_; (· kernel_rfl)) | refine tri_yesA rfl ?_ | refine tri_noA rfl ?_ | refine tri_trueA rfl ?_ | refine tri_falseA rfl ?_)
            exact hK _ (by exact ent_kp)
        · rw [n1 (fun h => h1 h.1)] at *
          clear n1 n2 n3 c1 c2 c3
          repeat (first | (show Walk1 _ _ _ (_ :: _) _ _; first | (show Walk1 _ _ _ (⟨_, _, _, _, _, some _⟩ :: _) _ _; refine zn1 ?_) | (show HW1 (.move _); refine wz1 ?_) | (show HW1 (.binOp .lss _ _ _ _); refine wz5 ?_) | (show HW1 (.pick _ _ _); refine wz7 ?_)) | refine go1 ?_ | refine end_block_other rfl ?_ | refine end_scope (fun _ h => by cases h) ?_ | (refine walk_endD ?_ ?_; (· kernel_rfl)) | refine tri_yesA rfl ?_ | refine tri_noA rfl ?_ | refine tri_trueA rfl ?_ | refine tri_falseA rfl ?_)
          exact hK _ (by exact ent_kp)
      refine tri_cut3 ⟨[(24, SV.c (.int .i64 ((n - i : Nat) : Int))), (18, SV.c (.int .i64 ((mid : Nat) : Int))), (20, SV.c (.int .i64 ((i : Nat) : Int))), (0, .c (.slice (some ⟨b, pre.length, none⟩) N cap)), (1, SV.c (.int .i64 ((p : Nat) : Int))), (2, SV.c (.int .i64 ((m : Nat) : Int))), (3, SV.c (.int .i64 ((e : Nat) : Int))), (4, .c cv)], [(1000, some (.blk 1000 3 (.c (segA pre post L2)))), (1001, some (.is 1000 b))]⟩ (fun K hK => ?_) ?_
      · by_cases h1 : p < i
        · by_cases h2 : i < mid
          · have cc := c2 h1 h2
            clear n1 n2 n3 c1 c2 c3
            repeat (first | (show Walk1 _ _ _ (_ :: _) _ _; first | (show Walk1 _ _ _ (⟨_, _, _, _, _, some _⟩ :: _) _ _; refine zy1 ?_) | (show HW1 (.move _); refine wz1 ?_) | (show HW1 (.binOp .lss _ _ _ _); refine wz5 ?_) | (show HW1 (.pick _ _ _); refine wz8 ?_) | (show HW1 (.call ⟨.value (.func 45), _, _⟩); (first | refine walk1_tb (op_callW rfl rfl rfl evq rfl rfl rfl (fun _ => rfl) (fun w hF hB => cc w (hC.later hF) hB)) ?_ | refine walk1_b (op_callW rfl rfl rfl evq rfl rfl rfl (fun _ => rfl) (fun w hF hB => cc w (hC.later hF) hB)) ?_))) | refine go1 ?_ | refine end_block_other rfl ?_ | refine end_scope (fun _ h => by cases h) ?_ | (refine walk_endD ?_ ?_; (· kernel_rfl)) | refine tri_yesA rfl ?_ | refine tri_noA rfl ?_ | refine tri_trueA rfl ?_ | refine tri_falseA rfl ?_)
            exact hK _ (by exact ent_kp)
          · rw [n2 (fun h => h2 h.2)] at *
            clear n1 n2 n3 c1 c2 c3
            repeat (first | (show Walk1 _ _ _ (_ :: _) _ _; first | (show Walk1 _ _ _ (⟨_, _, _, _, _, some _⟩ :: _) _ _; refine zy1 ?_) | (show HW1 (.move _); refine wz1 ?_) | (show HW1 (.binOp .lss _ _ _ _); refine wz5 ?_) | (show HW1 (.pick _ _ _); refine wz8 ?_)) | refine go1 ?_ | refine end_block_other rfl ?_ | refine end_scope (fun _ h => by cases h) ?_ | (refine walk_endD ?_ ?_; (· kernel_rfl)) | refine tri_yesA rfl ?_ | refine tri_noA rfl ?_ | refine tri_trueA rfl ?_ | refine tri_falseA rfl ?_)
            exact hK _ (by exact ent_kp)
        · rw [n2 (fun h => h1 h.1)] at *
          clear n1 n2 n3 c1 c2 c3
          repeat (first | (show Walk1 _ _ _ (_ :: _) _ _; first | (show Walk1 _ _ _ (⟨_, _, _, _, _, some _⟩ :: _) _ _; refine zn1 ?_) | (show HW1 (.move _); refine wz1 ?_) | (show HW1 (.binOp .lss _ _ _ _); refine wz5 ?_) | (show HW1 (.pick _ _ _); refine wz7 ?_)) | refine go1 ?_ | refine end_block_other rfl ?_ | refine end_scope (fun _ h => by cases h) ?_ | (refine walk_endD ?_ ?_; (· kernel_rfl)) | refine tri_yesA rfl ?_ | refine tri_noA rfl ?_ | refine tri_trueA rfl ?_ | refine tri_falseA rfl ?_)
          exact hK _ (by exact ent_kp)
      by_cases h1 : mid < n - i
      · by_cases h2 : n - i < e
        · have cc := c3 h1 h2
          clear n1 n2 n3 c1 c2 c3
          repeat (first | (show Walk1 _ _ _ (_ :: _) _ _; first | (show Walk1 _ _ _ (⟨_, _, _, _, _, some _⟩ :: _) _ _; refine zy1 ?_) | (show HW1 (.move _); refine wz1 ?_) | (show HW1 (.binOp .lss _ _ _ _); refine wz5 ?_) | (show HW1 (.pick _ _ _); refine wz8 ?_) | (show HW1 (.call ⟨.value (.func 45), _, _⟩); (first | refine walk1_tb (op_callW rfl rfl rfl evq rfl rfl rfl (fun _ => rfl) (fun w hF hB => cc w (hC.later hF) hB)) ?_ | refine walk1_b (op_callW rfl rfl rfl evq rfl rfl rfl (fun _ => rfl) (fun w hF hB => cc w (hC.later hF) hB)) ?_))) | refine go1 ?_ | refine end_block_other rfl ?_ | refine end_scope (fun _ h => by cases h) ?_ | (refine walk_endD ?_ ?_; (· kernel_rfl)) | refine tri_yesA rfl ?_ | refine tri_noA rfl ?_ | refine tri_trueA rfl ?_ | refine tri_falseA rfl ?_)
          refine end_normal _ (res_none rfl) ?_
          exact fin_obj rfl rfl (fun _ => rfl) (fun _ => rfl)
        · rw [n3 (fun h => h2 h.2)] at *
          clear n1 n2 n3 c1 c2 c3
          repeat (first | (show Walk1 _ _ _ (_ :: _) _ _; first | (show Walk1 _ _ _ (⟨_, _, _, _, _, some _⟩ :: _) _ _; refine zy1 ?_) | (show HW1 (.move _); refine wz1 ?_) | (show HW1 (.binOp .lss _ _ _ _); refine wz5 ?_) | (show HW1 (.pick _ _ _); refine wz8 ?_)) | refine go1 ?_ | refine end_block_other rfl ?_ | refine end_scope (fun _ h => by cases h) ?_ | (refine walk_endD ?_ ?_; (· kernel_rfl)) | refine tri_yesA rfl ?_ | refine tri_noA rfl ?_ | refine tri_trueA rfl ?_ | refine tri_falseA rfl ?_)
          refine end_normal _ (res_none rfl) ?_
          exact fin_obj rfl rfl (fun _ => rfl) (fun _ => rfl)
      · rw [n3 (fun h => h1 h.1)] at *
        clear n1 n2 n3 c1 c2 c3
        repeat (first | (show Walk1 _ _ _ (_ :: _) _ _; first | (show Walk1 _ _ _ (⟨_, _, _, _, _, some _⟩ :: _) _ _; refine zn1 ?_) | (show HW1 (.move _); refine wz1 ?_) | (show HW1 (.binOp .lss _ _ _ _); refine wz5 ?_) | (show HW1 (.pick _ _ _); refine wz7 ?_)) | refine go1 ?_ | refine end_block_other rfl ?_ | refine end_scope (fun _ h => by cases h) ?_ | (refine walk_endD ?_ ?_; (· kernel_rfl)) | refine tri_yesA rfl ?_ | refine tri_noA rfl ?_ | refine tri_trueA rfl ?_ | refine tri_falseA rfl ?_)
        refine end_normal _ (res_none rfl) ?_
        exact fin_obj rfl rfl (fun _ => rfl) (fun _ => rfl)
end Go.Proofs.Ytcgmapioelfneaa
namespace Go.Proofs.Ytcgmapioelfneaa
open Go.RowKit
set_option maxRecDepth 100000
set_option maxHeartbeats 1000000
def sgL (l : List Nat) (i k : Nat) : List Nat := (l.drop i).take k
theorem sg_left {P X : List Nat} {i k : Nat} (h : i + k ≤ P.length) : sgL (P ++ X) i k = sgL P i k := by
  unfold sgL
  rw [List.drop_append_of_le_length (by omega), List.take_append_of_le_length (by simp; omega)]
theorem sg_right {P X : List Nat} {i k : Nat} (h : P.length ≤ i) : sgL (P ++ X) i k = sgL X (i - P.length) k := by
  unfold sgL
  rw [List.drop_append, List.drop_of_length_le h, List.nil_append]
theorem sg_out {l : List Nat} {i k : Nat} (h : l.length ≤ i) : sgL l i k = [] := by
  unfold sgL
  rw [List.drop_of_length_le h, List.take_nil]
section
variable {key : Nat → Int}
theorem blk_ins {L : List Nat} {bs q0 : Nat} (k : Nat) (hk : q0 * bs + k ≤ L.length) (hk2 : k = bs ∨ (q0 * bs + k = L.length ∧ k ≤ bs)) (h : ∀ q, q < q0 → SrtK key (sgL L (q * bs) bs)) :
    ∃ P A Q, L = P ++ (A ++ Q) ∧ P.length = q0 * bs ∧ A.length = k ∧ (∀ q, q < q0 + 1 → SrtK key (sgL (P ++ (sortK key A ++ Q)) (q * bs) bs)) ∧ SameK key (P ++ (sortK key A ++ Q)) L := by
  obtain ⟨a, ha⟩ : ∃ a, a = q0 * bs := ⟨_, rfl⟩
  rw [← ha] at hk hk2 ⊢
  have e : L = L.take a ++ ((L.drop a).take k ++ (L.drop a).drop k) := by rw [List.take_append_drop, List.take_append_drop]
  have lP : (L.take a).length = a := by simp; omega
  have lA : ((L.drop a).take k).length = k := by simp; omega
  have lQ : k = bs ∨ (((L.drop a).drop k).length = 0 ∧ k ≤ bs) := by
    rcases hk2 with h2 | ⟨h2, h3⟩
    · exact .inl h2
    · right; exact ⟨by simp; omega, h3⟩
  generalize L.take a = P at *
  generalize (L.drop a).take k = A at *
  generalize (L.drop a).drop k = Q at *
  subst e
  refine ⟨P, A, Q, rfl, lP, lA, fun q hq => ?_, (SameK.refl P).app ((sortK_ok A).2.app (SameK.refl Q))⟩
  by_cases hq2 : q < q0
  · have hm : q * bs + bs ≤ a := by rw [ha, ← Nat.succ_mul]; exact Nat.mul_le_mul_right _ hq2
    have := h q hq2
    rw [sg_left (by omega)] at this ⊢
    exact this
  · obtain rfl : q = q0 := by omega
    rw [← ha, sg_right (by omega), lP, Nat.sub_self]
    have : sgL (sortK key A ++ Q) 0 bs = sortK key A := by
      unfold sgL
      rw [List.drop_zero]
      rcases lQ with h2 | ⟨h2, h3⟩
      · rw [List.take_append_of_le_length (by rw [sortK_len]; omega), List.take_of_length_le (by rw [sortK_len]; omega)]
      · rw [List.eq_nil_of_length_eq_zero h2, List.append_nil, List.take_of_length_le (by rw [sortK_len]; omega)]
    rw [this]
    exact (sortK_ok A).1
theorem blk_mrg {L : List Nat} {bs q0 : Nat} (k : Nat) (hk : q0 * (2 * bs) + bs + k ≤ L.length) (hk2 : k = bs ∨ (q0 * (2 * bs) + bs + k = L.length ∧ k ≤ bs)) (h : ∀ q, q < q0 → SrtK key (sgL L (q * (2 * bs)) (2 * bs))) (h' : ∀ q, 2 * q0 ≤ q → SrtK key (sgL L (q * bs) bs)) :
    ∃ P A B Q, L = P ++ (A ++ (B ++ Q)) ∧ P.length = q0 * (2 * bs) ∧ A.length = bs ∧ B.length = k ∧ SrtK key A ∧ SrtK key B ∧ (∀ q, q < q0 + 1 → SrtK key (sgL (P ++ (sortK key (A ++ B) ++ Q)) (q * (2 * bs)) (2 * bs))) ∧ (∀ q, 2 * (q0 + 1) ≤ q → SrtK key (sgL (P ++ (sortK key (A ++ B) ++ Q)) (q * bs) bs)) ∧ SameK key (P ++ (sortK key (A ++ B) ++ Q)) L := by
  obtain ⟨a, ha⟩ : ∃ a, a = q0 * (2 * bs) := ⟨_, rfl⟩
  rw [← ha] at hk hk2 ⊢
  have ha1 : 2 * q0 * bs = a := by rw [ha, Nat.mul_comm 2 q0, Nat.mul_assoc]
  have ha2 : (2 * q0 + 1) * bs = a + bs := by rw [Nat.succ_mul, ha1]
  have e : L = L.take a ++ ((L.drop a).take bs ++ (((L.drop a).drop bs).take k ++ ((L.drop a).drop bs).drop k)) := by rw [List.take_append_drop, List.take_append_drop, List.take_append_drop]
  have lP : (L.take a).length = a := by simp; omega
  have lA : ((L.drop a).take bs).length = bs := by simp; omega
  have lB : (((L.drop a).drop bs).take k).length = k := by simp; omega
  have lQ : k = bs ∨ ((((L.drop a).drop bs).drop k).length = 0 ∧ k ≤ bs) := by
    rcases hk2 with h2 | ⟨h2, h3⟩
    · exact .inl h2
    · right; exact ⟨by simp; omega, h3⟩
  generalize L.take a = P at *
  generalize (L.drop a).take bs = A at *
  generalize ((L.drop a).drop bs).take k = B at *
  generalize ((L.drop a).drop bs).drop k = Q at *
  subst e
  have sA : SrtK key A := by
    have := h' (2 * q0) (Nat.le_refl _)
    rw [ha1, sg_right (by omega), lP, Nat.sub_self] at this
    unfold sgL at this
    rwa [List.drop_zero, List.take_append_of_le_length (by omega), List.take_of_length_le (by omega)] at this
  have sB : SrtK key B := by
    have := h' (2 * q0 + 1) (by omega)
    rw [ha2, sg_right (by omega), lP, Nat.add_sub_cancel_left, sg_right (by omega), lA, Nat.sub_self] at this
    unfold sgL at this
    rw [List.drop_zero] at this
    rcases lQ with h2 | ⟨h2, h3⟩
    · rwa [List.take_append_of_le_length (by omega), List.take_of_length_le (by omega)] at this
    · rwa [List.eq_nil_of_length_eq_zero h2, List.append_nil, List.take_of_length_le (by omega)] at this
  have lS : (sortK key (A ++ B)).length = bs + k := by rw [sortK_len, List.length_append]; omega
  refine ⟨P, A, B, Q, rfl, lP, lA, lB, sA, sB, fun q hq => ?_, fun q hq => ?_, ?_⟩
  · by_cases hq2 : q < q0
    · have hm : q * (2 * bs) + 2 * bs ≤ a := by rw [ha, ← Nat.succ_mul]; exact Nat.mul_le_mul_right _ hq2
      have := h q hq2
      rw [sg_left (by omega)] at this ⊢
      exact this
    · obtain rfl : q = q0 := by omega
      rw [← ha, sg_right (by omega), lP, Nat.sub_self]
      have : sgL (sortK key (A ++ B) ++ Q) 0 (2 * bs) = sortK key (A ++ B) := by
        unfold sgL
        rw [List.drop_zero]
        rcases lQ with h2 | ⟨h2, h3⟩
        · rw [List.take_append_of_le_length (by omega), List.take_of_length_le (by omega)]
        · rw [List.eq_nil_of_length_eq_zero h2, List.append_nil, List.take_of_length_le (by omega)]
      rw [this]
      exact (sortK_ok _).1
  · have := h' q (by omega)
    have hm : a + 2 * bs ≤ q * bs := by
      have := Nat.mul_le_mul_right bs hq
      rw [Nat.mul_comm 2 (q0 + 1), Nat.mul_assoc, Nat.succ_mul, ← ha] at this
      omega
    rcases lQ with h2 | ⟨h2, h3⟩
    · rw [sg_right (by omega), sg_right (by omega), sg_right (by omega)] at this
      rw [sg_right (by omega), sg_right (by omega)]
      rw [show q * bs - P.length - (sortK key (A ++ B)).length = q * bs - P.length - A.length - B.length by omega]
      exact this
    · rw [sg_out (by simp only [List.length_append, lS]; omega)]
      exact List.Pairwise.nil
  · refine (SameK.refl P).app ?_
    rw [← List.append_assoc A B Q]
    exact (sortK_ok (A ++ B)).2.app (SameK.refl Q)
/-- The last block, when there is nothing to merge it with. -/
theorem blk_last {L : List Nat} {bs q0 : Nat} (hk : L.length ≤ q0 * (2 * bs) + bs) (h : ∀ q, q < q0 → SrtK key (sgL L (q * (2 * bs)) (2 * bs))) (h' : ∀ q, 2 * q0 ≤ q → SrtK key (sgL L (q * bs) bs)) (q : Nat) : SrtK key (sgL L (q * (2 * bs)) (2 * bs)) := by
  by_cases hq : q < q0
  · exact h q hq
  · by_cases hq2 : q = q0
    · subst hq2
      have := h' (2 * q) (Nat.le_refl _)
      rw [show 2 * q * bs = q * (2 * bs) by rw [Nat.mul_comm 2 q, Nat.mul_assoc]] at this
      unfold sgL at this ⊢
      rw [List.take_of_length_le (by simp; omega)] at this ⊢
      exact this
    · have hm : (q0 + 1) * (2 * bs) ≤ q * (2 * bs) := Nat.mul_le_mul_right _ (by omega)
      rw [Nat.succ_mul] at hm
      rw [sg_out (by omega)]
      exact List.Pairwise.nil
theorem blk_all {L : List Nat} {bs q0 : Nat} (hk : L.length ≤ q0 * bs) (h : ∀ q, q < q0 → SrtK key (sgL L (q * bs) bs)) (q : Nat) : SrtK key (sgL L (q * bs) bs) := by
  by_cases hq : q < q0
  · exact h q hq
  · have hm : q0 * bs ≤ q * bs := Nat.mul_le_mul_right _ (by omega)
    rw [sg_out (by omega)]
    exact List.Pairwise.nil
end
end Go.Proofs.Ytcgmapioelfneaa
namespace Go.Proofs.Ytcgmapioelfneaa
open Go.RowKit
set_option maxRecDepth 100000
set_option maxHeartbeats 1000000
attribute [local irreducible] Calls Walk1 WalkTo Tri EndA
theorem stable_any (pre post : List Value) (ks : List Nat) (N cap b : Nat) (cv : Value) (w : World) (key : Nat → Int) (c : Nat → Nat → Int) (M : Nat) (hc : ∀ x y, x < M → y < M → (c x y < 0 ↔ key x < key y)) (hM : 0 < M) (hd : ∀ x ∈ ks, x < M) (hN : N = ks.length) (hs : N ≤ 1099511627776) (hC : CmpOK w [b] cv M c)
    (hB : Blk w b (segA pre post ks) 3) :
    Calls Try.prog 41 #[.slice (some ⟨b, pre.length, none⟩) N cap, .int .i64 ((N : Nat) : Int), cv] w (RetP w b 3 (segA pre post (sortK key ks)) (.tuple #[])) := by
  have cI := fun P A Q p q w => insSort_any pre post P A Q N cap p q b cv w key c M hc hM
  have cM := symM_any pre post N cap b cv key c M hc hM hs
  refine calls_triI hB Try.func41 rfl Try.ntmps41 rfl ?_
  repeat (first | (show Walk1 _ _ _ (_ :: _) _ _; first | (show HW1 (.move _); refine wz1 ?_) | (show HW1 (.assign _); first | refine wz13 ?_ | refine wz2 ?_)) | refine go1 ?_ | refine end_block_other rfl ?_ | refine end_scope (fun _ h => by cases h) ?_ | (refine walk_endD ?_ ?_; (· kernel_rfl)) | refine tri_yesA rfl ?_ | refine tri_noA rfl ?_ | refine tri_trueA rfl ?_ | refine tri_falseA rfl ?_)
  refine tri_loop (X := List Nat × Nat) (fun x => ⟨[(6, SV.c (.int .i64 ((20 : Nat) : Int))), (7, SV.c (.int .i64 ((x.2 * 20 : Nat) : Int))), (8, SV.c (.int .i64 ((x.2 * 20 + 20 : Nat) : Int))), (0, .c (.slice (some ⟨b, pre.length, none⟩) N cap)), (1, SV.c (.int .i64 ((N : Nat) : Int))), (2, .c cv)], [(1000, some (.blk 1000 3 (.c (segA pre post x.1)))), (1001, some (.is 1000 b))]⟩)
    (fun x => x.1.length = N ∧ SameK key x.1 ks ∧ (∀ q, q < x.2 → SrtK key (sgL x.1 (q * 20) 20)) ∧ x.2 * 20 ≤ N) (fun x => N + 20 - x.2 * 20) (ks, 0) ⟨hN.symm, SameK.refl _, fun q hq => by omega, by omega⟩ (by exact ent_kp) ?_
  rintro ⟨L, q0⟩ ⟨h1, h2, h3, h4⟩ K next
  dsimp only at h1 h2 h3 h4 next ⊢
  by_cases h : q0 * 20 + 20 ≤ N
  · obtain ⟨P, A, Q, e, lP, lA, g1, g2⟩ := blk_ins (key := key) (L := L) (bs := 20) (q0 := q0) 20 (by omega) (.inl rfl) h3
    have nx := fun S' => next S' (P ++ (sortK key A ++ Q), q0 + 1)
    dsimp only at nx
    have hlen : L.length = P.length + A.length + Q.length := by rw [e]; simp; omega
    have c1 := fun w => cI P A Q (q0 * 20) (q0 * 20 + 20) w (fun x hx => hd x (h2.mem.1 (by rw [e]; exact hx))) lP.symm (by omega) (by omega) hs
    have hI : (P ++ (sortK key A ++ Q)).length = N ∧ SameK key (P ++ (sortK key A ++ Q)) ks ∧ (∀ q, q < q0 + 1 → SrtK key (sgL (P ++ (sortK key A ++ Q)) (q * 20) 20)) ∧ (q0 + 1) * 20 ≤ N := ⟨by rw [g2.length, h1], g2.trans h2, g1, by omega⟩
    rw [← e] at c1
    clear next cI cM h1 h2 h3 g1 g2
    generalize P ++ (sortK key A ++ Q) = L2 at *
    repeat (first | (show Walk1 _ _ _ (_ :: _) _ _; first | (show HW1 (.move _); refine wz1 ?_) | (show HW1 (.assign _); refine wz2 ?_) | (show HW1 (.binOp .add _ _ _ _); refine wz10 ?_) | (show HW1 (.binOp .leq _ _ _ _); refine wz64 ?_) | (show HW1 (.call ⟨.value (.func 44), _, _⟩); (first | refine walk1_tb (op_callW rfl rfl rfl evq rfl rfl rfl (fun _ => rfl) (fun w hF hB => c1 w (hC.later hF) hB)) ?_ | refine walk1_b (op_callW rfl rfl rfl evq rfl rfl rfl (fun _ => rfl) (fun w hF hB => c1 w (hC.later hF) hB)) ?_))) | refine go1 ?_ | refine end_block_other rfl ?_ | refine end_scope (fun _ h => by cases h) ?_ | (refine walk_endD ?_ ?_; (· kernel_rfl)) | refine tri_yesA rfl ?_ | refine tri_noA rfl ?_ | refine tri_trueA rfl ?_ | refine tri_falseA rfl ?_)
    exact nx _ hI (by omega) (by exact ent_kp)
  · obtain ⟨P, A, Q, e, lP, lA, g1, g2⟩ := blk_ins (key := key) (L := L) (bs := 20) (q0 := q0) (N - q0 * 20) (by omega) (.inr (by omega)) h3
    have hlen : L.length = P.length + A.length + Q.length := by rw [e]; simp; omega
    have c1 := fun w => cI P A Q (q0 * 20) N w (fun x hx => hd x (h2.mem.1 (by rw [e]; exact hx))) lP.symm (by omega) (by omega) hs
    have g3 := blk_all (key := key) (L := P ++ (sortK key A ++ Q)) (bs := 20) (q0 := q0 + 1) (by rw [g2.length]; omega) g1
    have hI : (P ++ (sortK key A ++ Q)).length = N ∧ SameK key (P ++ (sortK key A ++ Q)) ks := ⟨by rw [g2.length, h1], g2.trans h2⟩
    rw [← e] at c1
    clear next cI h1 h2 h3 g1 g2 e lP lA hlen
    generalize P ++ (sortK key A ++ Q) = L2 at *
    repeat (first | (show Walk1 _ _ _ (_ :: _) _ _; first | (show HW1 (.move _); refine wz1 ?_) | (show HW1 (.binOp .leq _ _ _ _); refine wz64 ?_) | (show HW1 (.call ⟨.value (.func 44), _, _⟩); (first | refine walk1_tb (op_callW rfl rfl rfl evq rfl rfl rfl (fun _ => rfl) (fun w hF hB => c1 w (hC.later hF) hB)) ?_ | refine walk1_b (op_callW rfl rfl rfl evq rfl rfl rfl (fun _ => rfl) (fun w hF hB => c1 w (hC.later hF) hB)) ?_))) | refine go1 ?_ | refine end_block_other rfl ?_ | refine end_scope (fun _ h => by cases h) ?_ | (refine walk_endD ?_ ?_; (· kernel_rfl)) | refine tri_yesA rfl ?_ | refine tri_noA rfl ?_ | refine tri_trueA rfl ?_ | refine tri_falseA rfl ?_)
    refine tri_loop (X := List Nat × Nat) (fun x => ⟨[(6, SV.c (.int .i64 ((x.2 : Nat) : Int))), (0, .c (.slice (some ⟨b, pre.length, none⟩) N cap)), (1, SV.c (.int .i64 ((N : Nat) : Int))), (2, .c cv)], [(1000, some (.blk 1000 3 (.c (segA pre post x.1)))), (1001, some (.is 1000 b))]⟩)
      (fun x => x.1.length = N ∧ SameK key x.1 ks ∧ (∀ q, SrtK key (sgL x.1 (q * x.2) x.2)) ∧ 1 ≤ x.2 ∧ x.2 ≤ 2 * N + 20) (fun x => N - x.2) (L2, 20) ⟨hI.1, hI.2, g3, by dsimp only; omega, by dsimp only; omega⟩ (by exact ent_kp) ?_
    clear c1 hI g3 L2 P A Q h4 h L
    rintro ⟨L, bs⟩ ⟨h1, h2, h3, h4, h5⟩ K2 next2
    dsimp only at h1 h2 h3 h4 h5 next2 ⊢
    by_cases h : bs < N
    · repeat (first | (show Walk1 _ _ _ (_ :: _) _ _; first | (show HW1 (.move _); refine wz1 ?_) | (show HW1 (.assign _); first | refine wz13 ?_ | refine wz2 ?_) | (show HW1 (.binOp .mul _ _ _ _); refine wz88 ?_) | (show HW1 (.binOp .lss _ _ _ _); refine wz5 ?_)) | refine go1 ?_ | refine end_block_other rfl ?_ | refine end_scope (fun _ h => by cases h) ?_ | (refine walk_endD ?_ ?_; (· kernel_rfl)) | refine tri_yesA rfl ?_ | refine tri_noA rfl ?_ | refine tri_trueA rfl ?_ | refine tri_falseA rfl ?_)
      refine tri_loop (X := List Nat × Nat × Nat) (fun x => ⟨[(6, SV.c (.int .i64 ((bs : Nat) : Int))), (7, SV.c (.int .i64 ((x.2.2 : Nat) : Int))), (8, SV.c (.int .i64 ((x.2.2 + 2 * bs : Nat) : Int))), (0, .c (.slice (some ⟨b, pre.length, none⟩) N cap)), (1, SV.c (.int .i64 ((N : Nat) : Int))), (2, .c cv)], [(1000, some (.blk 1000 3 (.c (segA pre post x.1)))), (1001, some (.is 1000 b))]⟩)
        (fun x => x.1.length = N ∧ SameK key x.1 ks ∧ (∀ q, q < x.2.1 → SrtK key (sgL x.1 (q * (2 * bs)) (2 * bs))) ∧ (∀ q, 2 * x.2.1 ≤ q → SrtK key (sgL x.1 (q * bs) bs)) ∧ x.2.2 = x.2.1 * (2 * bs) ∧ x.2.2 ≤ N) (fun x => N - x.2.2) (L, 0, 0) ⟨h1, h2, fun q hq => by dsimp only at hq; omega, fun q _ => h3 q, by dsimp only; omega, by dsimp only; omega⟩ (by simp only [Nat.zero_add]; exact ent_keep (by repeat (first | exact hasT_nil | refine hasT_cons rfl ?_ | refine hasT_eq rfl (svi (by omega)) ?_)) (by repeat (first | exact hasR_nil | refine hasR_cons rfl ?_))) ?_
      clear h1 h2 h3 L
      rintro ⟨L, q1, a⟩ ⟨h1, h2, h3, h3', ha, h6⟩ K3 next3
      dsimp only at h1 h2 h3 h3' ha h6 next3 ⊢
      by_cases hb : a + 2 * bs ≤ N
      · obtain ⟨P, A, B, Q, e, lP, lA, lB, sA, sB, g1, g1', g2⟩ := blk_mrg (key := key) (L := L) (bs := bs) (q0 := q1) bs (by rw [← ha]; omega) (.inl rfl) h3 h3'
        rw [← ha] at lP
        have nx := fun S' => next3 S' (P ++ (sortK key (A ++ B) ++ Q), q1 + 1, a + 2 * bs)
        dsimp only at nx
        have hlen : L.length = P.length + A.length + B.length + Q.length := by rw [e]; simp; omega
        have c1 := fun w => cM (A.length + B.length) P A B Q a (a + bs) (a + 2 * bs) w (Nat.le_refl _) (by omega) (by omega) (fun x hx => hd x (h2.mem.1 (by rw [e]; exact hx))) lP.symm (by omega) (by omega) (by omega)
        have hI : (P ++ (sortK key (A ++ B) ++ Q)).length = N ∧ SameK key (P ++ (sortK key (A ++ B) ++ Q)) ks ∧ (∀ q, q < q1 + 1 → SrtK key (sgL (P ++ (sortK key (A ++ B) ++ Q)) (q * (2 * bs)) (2 * bs))) ∧ (∀ q, 2 * (q1 + 1) ≤ q → SrtK key (sgL (P ++ (sortK key (A ++ B) ++ Q)) (q * bs) bs)) ∧ a + 2 * bs = (q1 + 1) * (2 * bs) ∧ a + 2 * bs ≤ N := ⟨by rw [g2.length, h1], g2.trans h2, g1, g1', by rw [Nat.succ_mul q1 (2 * bs), ha], hb⟩
        rw [← e] at c1
        clear next2 next3 cM h1 h2 h3 g1 g2 g1' h3' e ha
        generalize P ++ (sortK key (A ++ B) ++ Q) = L2 at *
        repeat (first | (show Walk1 _ _ _ (_ :: _) _ _; first | (show HW1 (.move _); refine wz1 ?_) | (show HW1 (.assign _); refine wz2 ?_) | (show HW1 (.binOp .add _ _ _ _); refine wz10 ?_) | (show HW1 (.binOp .mul _ _ _ _); refine wz88 ?_) | (show HW1 (.binOp .leq _ _ _ _); refine wz64 ?_) | (show HW1 (.call ⟨.value (.func 45), _, _⟩); (first | refine walk1_tb (op_callW rfl rfl rfl evq rfl rfl rfl (fun _ => rfl) (fun w hF hB => c1 w (hC.later hF) sA sB hB)) ?_ | refine walk1_b (op_callW rfl rfl rfl evq rfl rfl rfl (fun _ => rfl) (fun w hF hB => c1 w (hC.later hF) sA sB hB)) ?_))) | refine go1 ?_ | refine end_block_other rfl ?_ | refine end_scope (fun _ h => by cases h) ?_ | (refine walk_endD ?_ ?_; (· kernel_rfl)) | refine tri_yesA rfl ?_ | refine tri_noA rfl ?_ | refine tri_trueA rfl ?_ | refine tri_falseA rfl ?_)
        exact nx _ hI (by omega) (by exact ent_kp)
      · by_cases hb2 : a + bs < N
        · obtain ⟨P, A, B, Q, e, lP, lA, lB, sA, sB, g1, g1', g2⟩ := blk_mrg (key := key) (L := L) (bs := bs) (q0 := q1) (N - a - bs) (by rw [← ha]; omega) (.inr (by rw [← ha]; omega)) h3 h3'
          rw [← ha] at lP
          have nx := fun S' => next2 S' (P ++ (sortK key (A ++ B) ++ Q), bs * 2)
          dsimp only at nx
          have hlen : L.length = P.length + A.length + B.length + Q.length := by rw [e]; simp; omega
          have c1 := fun w => cM (A.length + B.length) P A B Q a (a + bs) N w (Nat.le_refl _) (by omega) (by omega) (fun x hx => hd x (h2.mem.1 (by rw [e]; exact hx))) lP.symm (by omega) (by omega) (by omega)
          have g3 := blk_all (key := key) (L := P ++ (sortK key (A ++ B) ++ Q)) (bs := 2 * bs) (q0 := q1 + 1) (by rw [g2.length, Nat.succ_mul q1 (2 * bs), ← ha]; omega) g1
          have hI : (P ++ (sortK key (A ++ B) ++ Q)).length = N ∧ SameK key (P ++ (sortK key (A ++ B) ++ Q)) ks ∧ (∀ q, SrtK key (sgL (P ++ (sortK key (A ++ B) ++ Q)) (q * (bs * 2)) (bs * 2))) ∧ 1 ≤ bs * 2 ∧ bs * 2 ≤ 2 * N + 20 := ⟨by rw [g2.length, h1], g2.trans h2, fun q => by rw [Nat.mul_comm bs 2]; exact g3 q, by omega, by omega⟩
          rw [← e] at c1
          clear next2 next3 cM h1 h2 h3 g1 g2 g1' h3' e ha g3
          generalize P ++ (sortK key (A ++ B) ++ Q) = L2 at *
          repeat (first | (show Walk1 _ _ _ (_ :: _) _ _; first | (show HW1 (.move _); refine wz1 ?_) | (show HW1 (.assign _); refine wz2 ?_) | (show HW1 (.binOp .add _ _ _ _); refine wz10 ?_) | (show HW1 (.binOp .mul _ _ _ _); refine wz88 ?_) | (show HW1 (.binOp .lss _ _ _ _); refine wz5 ?_) | (show HW1 (.binOp .leq _ _ _ _); refine wz64 ?_) | (show HW1 (.call ⟨.value (.func 45), _, _⟩); (first | refine walk1_tb (op_callW rfl rfl rfl evq rfl rfl rfl (fun _ => rfl) (fun w hF hB => c1 w (hC.later hF) sA sB hB)) ?_ | refine walk1_b (op_callW rfl rfl rfl evq rfl rfl rfl (fun _ => rfl) (fun w hF hB => c1 w (hC.later hF) sA sB hB)) ?_))) | refine go1 ?_ | refine end_block_other rfl ?_ | refine end_scope (fun _ h => by cases h) ?_ | (refine walk_endD ?_ ?_; (· kernel_rfl)) | refine tri_yesA rfl ?_ | refine tri_noA rfl ?_ | refine tri_trueA rfl ?_ | refine tri_falseA rfl ?_)
          exact nx _ hI (by omega) (by exact ent_kp)
        · have nx := fun S' => next2 S' (L, bs * 2)
          have g3 := blk_last (key := key) (L := L) (bs := bs) (q0 := q1) (by rw [← ha]; omega) h3 h3'
          have hI : L.length = N ∧ SameK key L ks ∧ (∀ q, SrtK key (sgL L (q * (bs * 2)) (bs * 2))) ∧ 1 ≤ bs * 2 ∧ bs * 2 ≤ 2 * N + 20 := ⟨h1, h2, fun q => by rw [Nat.mul_comm bs 2]; exact g3 q, by omega, by omega⟩
          clear next2 next3 cM h1 h2 h3 h3' ha g3
          repeat (first | (show Walk1 _ _ _ (_ :: _) _ _; first | (show HW1 (.move _); refine wz1 ?_) | (show HW1 (.assign _); refine wz2 ?_) | (show HW1 (.binOp .add _ _ _ _); refine wz10 ?_) | (show HW1 (.binOp .mul _ _ _ _); refine wz88 ?_) | (show HW1 (.binOp .lss _ _ _ _); refine wz5 ?_) | (show HW1 (.binOp .leq _ _ _ _); refine wz64 ?_)) | refine go1 ?_ | refine end_block_other rfl ?_ | refine end_scope (fun _ h => by cases h) ?_ | (refine walk_endD ?_ ?_; (· kernel_rfl)) | refine tri_yesA rfl ?_ | refine tri_noA rfl ?_ | refine tri_trueA rfl ?_ | refine tri_falseA rfl ?_)
          exact nx _ hI (by omega) (by exact ent_kp)
    · have hf : L = sortK key ks := by
        refine sortK_is ?_ h2
        have := h3 0
        unfold sgL at this
        rwa [Nat.zero_mul, List.drop_zero, List.take_of_length_le (by omega)] at this
      rw [hf]
      clear next2 cM h3 h2 hf
      generalize sortK key ks = L2 at *
      repeat (first | (show Walk1 _ _ _ (_ :: _) _ _; first | (show HW1 (.move _); refine wz1 ?_) | (show HW1 (.binOp .lss _ _ _ _); refine wz5 ?_)) | refine go1 ?_ | refine end_block_other rfl ?_ | refine end_scope (fun _ h => by cases h) ?_ | (refine walk_endD ?_ ?_; (· kernel_rfl)) | refine tri_yesA rfl ?_ | refine tri_noA rfl ?_ | refine tri_trueA rfl ?_ | refine tri_falseA rfl ?_)
      refine end_normal _ (res_none rfl) ?_
      exact fin_obj rfl rfl (fun _ => rfl) (fun _ => rfl)
theorem sortF_any (pre post : List Value) (ks : List Nat) (N cap b : Nat) (cv : Value) (w : World) (key : Nat → Int) (c : Nat → Nat → Int) (M : Nat) (hc : ∀ x y, x < M → y < M → (c x y < 0 ↔ key x < key y)) (hM : 0 < M) (hd : ∀ x ∈ ks, x < M) (hN : N = ks.length) (hs : N ≤ 1099511627776) (hC : CmpOK w [b] cv M c)
    (hB : Blk w b (segA pre post ks) 3) :
    Calls Try.prog 32 #[.slice (some ⟨b, pre.length, none⟩) N cap, cv] w (RetP w b 3 (segA pre post (sortK key ks)) (.tuple #[])) := by
  have c1 := fun w => stable_any pre post ks N cap b cv w key c M hc hM hd hN hs
  generalize segA pre post (sortK key ks) = A2 at *
  refine calls_triI hB Try.func32 rfl Try.ntmps32 rfl ?_
  repeat (first | (show Walk1 _ _ _ (_ :: _) _ _; first | (show HW1 (.move _); refine wz1 ?_) | (show HW1 (.call ⟨.builtin .len, _, _⟩); refine wz39 ?_) | (show HW1 (.call ⟨.value (.func 41), _, _⟩); (first | refine walk1_tb (op_callW rfl rfl rfl evq rfl rfl rfl (fun _ => rfl) (fun w hF hB => c1 w (hC.later hF) hB)) ?_ | refine walk1_b (op_callW rfl rfl rfl evq rfl rfl rfl (fun _ => rfl) (fun w hF hB => c1 w (hC.later hF) hB)) ?_))) | refine go1 ?_ | refine end_block_other rfl ?_ | refine end_scope (fun _ h => by cases h) ?_ | (refine walk_endD ?_ ?_; (· kernel_rfl)) | refine tri_yesA rfl ?_ | refine tri_noA rfl ?_ | refine tri_trueA rfl ?_ | refine tri_falseA rfl ?_)
  refine end_normal _ (res_none rfl) ?_
  exact fin_obj rfl rfl (fun _ => rfl) (fun _ => rfl)
end Go.Proofs.Ytcgmapioelfneaa
namespace Go.Proofs.Ytcgmapioelfneaa
open Go.RowKit
set_option maxRecDepth 100000
set_option maxHeartbeats 4000000
def minP (a b : P3) : P3 := ⟨min a.x b.x, min a.y b.y, min a.z b.z⟩
def maxP (a b : P3) : P3 := ⟨max a.x b.x, max a.y b.y, max a.z b.z⟩
def zP : P3 := ⟨0, 0, 0⟩
/-- The box of the first points. -/
def boxN (l : List P3) : Nat → P3 × P3
  | 0 => (zP, zP)
  | j + 1 => if j = 0 then (minP (l.getD 0 zP) (l.getD 0 zP), maxP (l.getD 0 zP) (l.getD 0 zP)) else (minP (boxN l j).1 (l.getD j zP), maxP (boxN l j).2 (l.getD j zP))
def boxP (l : List P3) : P3 × P3 := boxN l l.length
attribute [local irreducible] Calls Walk1 WalkTo Tri EndA
theorem boxT_any (v : Value) (l : List P3) (w : World) (hv : RdV w 3 v l.length (ptsC l)) (hl : l.length ≤ 100000) : Calls Try.prog 13 #[v] w fun e w' => e = .returned (.tuple #[.agg (boxP l).1.c, .agg (boxP l).2.c]) ∧ Below w.heap.size w w' := by
  have hrow : ∀ j p, l[j]? = some p → ((ptsC l).drop (0 + j * 3)).take 3 = p.c.toList := fun j p h => by
    rw [Nat.zero_add]
    exact flat_row (sz := 3) (f := fun p : P3 => p.c.toList) l (fun _ _ => rfl) j p h
  have hpl : (ptsC l).length = l.length * 3 := flat_length (sz := 3) (f := fun p : P3 => p.c.toList) l fun _ _ => rfl
  have hz : boxN l 0 = (zP, zP) := rfl
  have hs : ∀ j, boxN l (j + 1) = if j = 0 then (minP (l.getD 0 zP) (l.getD 0 zP), maxP (l.getD 0 zP) (l.getD 0 zP)) else (minP (boxN l j).1 (l.getD j zP), maxP (boxN l j).2 (l.getD j zP)) := fun _ => rfl
  unfold boxP
  generalize boxN l = B at *
  generalize ptsC l = XS at *
  refine calls_tri Try.func13 rfl Try.ntmps13 rfl ?_
  repeat (first | (show Walk1 _ _ _ (_ :: _) _ _; first | (show HW1 (.move _); first | refine wz40 ?_ | refine wz1 ?_) | (show HW1 (.alloc _); refine wz6 ?_) | (show HW1 (.call ⟨.builtin .len, _, _⟩); refine wz27 ?_)) | refine go1 ?_ | refine end_block_other rfl ?_ | refine end_scope (fun _ h => by cases h) ?_ | (refine walk_endD ?_ ?_; (· kernel_rfl)) | refine tri_yesA rfl ?_ | refine tri_noA rfl ?_ | refine tri_trueA rfl ?_ | refine tri_falseA rfl ?_)
  refine tri_loop (X := Nat) (fun j => ⟨[(8, SV.c (.int .i64 ((j : Nat) : Int))), (7, SV.c (.int .i64 ((l.length : Nat) : Int))), (6, .c v), (2, .p 2 0), (3, .p 3 0)], [(2, some (.blk 2 32 (.c (B j).1.c))), (3, some (.blk 3 32 (.c (B j).2.c)))]⟩)
    (fun j => j ≤ l.length) (fun j => l.length - j) 0 (by omega) (by rw [hz]; exact ent_keep (by repeat (first | exact hasT_nil | refine hasT_cons rfl ?_ | refine hasT_eq rfl (svi (by omega)) ?_)) (by repeat (first | exact hasR_nil | refine hasR_cons rfl ?_))) ?_
  intro j hj K next
  by_cases h : j < l.length
  · obtain ⟨p, hpj⟩ : ∃ p, l[j]? = some p := ⟨_, List.getElem?_eq_getElem h⟩
    have hr := hrow j p hpj
    have hlt : j * 3 + 3 ≤ XS.length := by rw [hpl]; omega
    have hgd : l.getD j zP = p := by rw [List.getD_eq_getElem?_getD, hpj]; rfl
    have hsj := hs j
    have nx := fun S' => next S' (j + 1)
    rw [hsj] at nx
    clear next hs hrow hsj
    by_cases h0 : j = 0
    · subst h0
      rw [if_pos rfl, hgd] at nx
      obtain ⟨x, y, z⟩ := p
      have hr : (XS.drop (0 + 0 * 3)).take 3 = [.int .i64 x, .int .i64 y, .int .i64 z] := hr
      simp only [minP, maxP, P3.c] at nx ⊢
      generalize B 0 = B0 at *
      repeat (first | (show Walk1 _ _ _ (_ :: _) _ _; first | (show HW1 (.move _); refine wz1 ?_) | (show HW1 (.assign _); refine wz2 ?_) | (show HW1 (.binOp .add _ _ _ _); refine wz10 ?_) | (show HW1 (.binOp .lss _ _ _ _); refine wz5 ?_) | (show HW1 (.binOp .eql _ _ _ _); refine wz30 ?_) | (show HW1 (.indexAddr _ _ _); refine wz26 ?_) | (show HW1 (.load _ _); first | refine wz3 ?_ | refine wz51 ?_) | (show HW1 (.store _ _ _); first | refine wz14 ?_ | refine wz28 ?_) | (show HW1 (.alloc _); refine wz6 ?_) | (show HW1 (.fieldAddr _ _ _); refine wz4 ?_) | (show HW1 (.build _ _); refine wz25 ?_) | (show HW1 (.call ⟨.builtin .min, _, _⟩); refine wz105 ?_) | (show HW1 (.call ⟨.builtin .max, _, _⟩); refine wz120 ?_)) | (show WalkTo _ _ _ _ (_ :: _) _ _ _; first | (show HW2 (.load _ _); refine wz22 ?_) | (show HW2 (.store _ _ _); refine wz48 ?_)) | refine go1 ?_ | refine end_block_other rfl ?_ | refine end_scope (fun _ h => by cases h) ?_ | (refine walk_endD ?_ ?_; (· kernel_rfl)) | refine tri_yesA rfl ?_ | refine tri_noA rfl ?_ | refine tri_trueA rfl ?_ | refine tri_falseA rfl ?_)
      exact nx _ (by omega) (by omega) (by exact ent_kp)
    · rw [if_neg h0, hgd] at nx
      obtain ⟨x, y, z⟩ := p
      have hr : (XS.drop (0 + j * 3)).take 3 = [.int .i64 x, .int .i64 y, .int .i64 z] := hr
      generalize B j = Bj at *
      obtain ⟨⟨a, b, c⟩, ⟨a', b', c'⟩⟩ := Bj
      simp only [minP, maxP, P3.c] at nx ⊢
      repeat (first | (show Walk1 _ _ _ (_ :: _) _ _; first | (show HW1 (.move _); refine wz1 ?_) | (show HW1 (.assign _); refine wz2 ?_) | (show HW1 (.binOp .add _ _ _ _); refine wz10 ?_) | (show HW1 (.binOp .lss _ _ _ _); refine wz5 ?_) | (show HW1 (.binOp .eql _ _ _ _); refine wz30 ?_) | (show HW1 (.indexAddr _ _ _); refine wz26 ?_) | (show HW1 (.load _ _); first | refine wz3 ?_ | refine wz51 ?_) | (show HW1 (.store _ _ _); first | refine wz14 ?_ | refine wz28 ?_) | (show HW1 (.alloc _); refine wz6 ?_) | (show HW1 (.fieldAddr _ _ _); refine wz4 ?_) | (show HW1 (.build _ _); refine wz25 ?_) | (show HW1 (.call ⟨.builtin .min, _, _⟩); refine wz105 ?_) | (show HW1 (.call ⟨.builtin .max, _, _⟩); refine wz120 ?_)) | refine go1 ?_ | refine end_block_other rfl ?_ | refine end_scope (fun _ h => by cases h) ?_ | (refine walk_endD ?_ ?_; (· kernel_rfl)) | refine tri_yesA rfl ?_ | refine tri_noA rfl ?_ | refine tri_trueA rfl ?_ | refine tri_falseA rfl ?_)
      exact nx _ (by omega) (by omega) (by exact ent_kp)
  · obtain rfl : j = l.length := by omega
    clear next hs hrow
    generalize B l.length = F at *
    obtain ⟨⟨a, b, c⟩, ⟨a', b', c'⟩⟩ := F
    simp only [P3.c] at *
    repeat (first | (show Walk1 _ _ _ (_ :: _) _ _; (show HW1 (.binOp .lss _ _ _ _); refine wz5 ?_)) | (show WalkTo _ _ _ _ (_ :: _) _ _ _; first | (show HW2 (.load _ _); refine wz22 ?_) | (show HW2 (.store _ _ _); refine wz48 ?_)) | refine go1 ?_ | refine end_block_other rfl ?_ | refine end_scope (fun _ h => by cases h) ?_ | (refine walk_endD ?_ ?_; (· kernel_rfl)) | refine tri_yesA rfl ?_ | refine tri_noA rfl ?_ | refine tri_trueA rfl ?_ | refine tri_falseA rfl ?_)
    refine end_ret _ (res_cells2 rfl rfl rfl rfl rfl rfl rfl rfl rfl rfl rfl rfl rfl) ?_
    exact fin_below fun _ => rfl
end Go.Proofs.Ytcgmapioelfneaa
