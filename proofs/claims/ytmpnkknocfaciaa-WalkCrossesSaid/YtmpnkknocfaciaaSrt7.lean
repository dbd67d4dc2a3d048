/- Two sorted rows merged in place: walked. No condition. -/
import Derived.Test.YtmpnkknocfaciaaSrtEF
namespace Go.Proofs.Ytmpnkknocfaciaa
open Go.RowKit
set_option maxRecDepth 100000
set_option maxHeartbeats 1000000
/-- One state behind a piece of code, whichever way it goes. -/
theorem tri_cut2 {C : Ctx} {P : Program} {S : St} {x y : Code} {Q : Exit → Act → World → Prop} (S1 : St) (h1 : ∀ K : Act → World → Prop, (∀ S', Ents C S' S1 → EndA C S' K) → Tri C P S x (Exit.then K Q)) (h2 : Tri C P S1 y Q) : Tri C P S x (Exit.then (fun a w => y.wp P Q a w) Q) :=
  h1 _ fun _ hE => end_ent hE h2
theorem tri_cut3 {C : Ctx} {P : Program} {S : St} {x y : Code} {Q : Exit → Act → World → Prop} (S1 : St) (h1 : ∀ K : Act → World → Prop, (∀ S', Ents C S' S1 → EndA C S' K) → Tri C P S x (Exit.then K Q)) (h2 : Tri C P S1 y Q) : Tri C P S (.seq x y) Q := tri_seq (tri_cut2 S1 h1 h2)
theorem sym_plan {key : Nat → Int} {P A B Q L0 : List Nat} (hL0 : L0 = P ++ (A ++ (B ++ Q))) (hA : SrtK key A) (hB : SrtK key B) {p m e mid n s0 r0 s : Nat} (hp : p = P.length) (hm : m = p + A.length) (he : e = m + B.length) (hmid : mid = (p + e) / 2) (hn : n = mid + m) (h2A : 2 ≤ A.length) (h2B : 2 ≤ B.length)
    (h0 : (mid < m ∧ s0 = n - e ∧ r0 = mid) ∨ (¬ mid < m ∧ s0 = p ∧ r0 = m)) (h1 : s0 ≤ s) (h2 : s ≤ r0) (h3 : s = s0 ∨ ¬ key (gtN L0 (n - 1 - (s - 1))) < key (gtN L0 (s - 1))) (h4 : s = r0 ∨ key (gtN L0 (n - 1 - s)) < key (gtN L0 s)) :
    ∃ A1 A2 B1 B2, A = A1 ++ A2 ∧ B = B1 ++ B2 ∧ A1.length = s - p ∧ p ≤ s ∧ s ≤ m ∧ B1.length = n - s - m ∧ m ≤ n - s ∧ n - s ≤ e ∧ s ≤ n ∧ SrtK key A1 ∧ SrtK key A2 ∧ SrtK key B1 ∧ SrtK key B2 ∧ sortK key (A1 ++ B1) ++ sortK key (A2 ++ B2) = sortK key (A ++ B) := by
  have gA : ∀ u, u < A.length → gtN L0 (p + u) = gtN A u := fun u hu => by
    rw [hL0, hp, gtN_app2, gtN_app1 _ _ _ hu]
  have gB : ∀ u, u < B.length → gtN L0 (m + u) = gtN B u := fun u hu => by
    rw [hL0, ← List.append_assoc, show m + u = (P ++ A).length + u by simp; omega, gtN_app2, gtN_app1 _ _ _ hu]
  have b1 : p ≤ s := by omega
  have b2 : s ≤ m := by omega
  have b3 : m ≤ n - s := by omega
  have b4 : n - s ≤ e := by omega
  have b5 : s ≤ n := by omega
  have eA : A.take (s - p) ++ A.drop (s - p) = A := List.take_append_drop _ _
  have eB : B.take (n - s - m) ++ B.drop (n - s - m) = B := List.take_append_drop _ _
  have lA : (A.take (s - p)).length = s - p := by simp; omega
  have lB : (B.take (n - s - m)).length = n - s - m := by simp; omega
  have sA := List.pairwise_append.1 (by rw [eA]; exact hA : SrtK key (A.take (s - p) ++ A.drop (s - p)))
  have sB := List.pairwise_append.1 (by rw [eB]; exact hB : SrtK key (B.take (n - s - m) ++ B.drop (n - s - m)))
  have strict : ∀ u ∈ A.drop (s - p), ∀ v ∈ B.take (n - s - m), key v < key u := by
    intro u hu v hv
    obtain ⟨i, hi1, hi2, rfl⟩ := mem_drop_gt hu
    obtain ⟨j, hj1, hj2, rfl⟩ := mem_take_gt hv
    rcases h4 with h4 | h4
    · exfalso; omega
    · rw [show s = p + (s - p) by omega, gA (s - p) (by omega), show n - 1 - (p + (s - p)) = m + (n - s - m - 1) by omega, gB _ (by omega)] at h4
      have := srt_gt hA hi1 hi2
      have := srt_gt hB (show j ≤ n - s - m - 1 by omega) (by omega)
      omega
  have loose : ∀ u ∈ A.take (s - p), ∀ v ∈ B.drop (n - s - m), key u ≤ key v := by
    intro u hu v hv
    obtain ⟨i, hi1, hi2, rfl⟩ := mem_take_gt hu
    obtain ⟨j, hj1, hj2, rfl⟩ := mem_drop_gt hv
    rcases h3 with h3 | h3
    · exfalso; omega
    · rw [show n - 1 - (s - 1) = m + (n - s - m) by omega, gB _ (by omega), show s - 1 = p + (s - p - 1) by omega, gA _ (by omega)] at h3
      have := srt_gt hA (show i ≤ s - p - 1 by omega) (by omega)
      have := srt_gt hB hj1 hj2
      omega
  refine ⟨A.take (s - p), A.drop (s - p), B.take (n - s - m), B.drop (n - s - m), eA.symm, eB.symm, lA, b1, b2, lB, b3, b4, b5, sA.1, sA.2.1, sB.1, sB.2.1, ?_⟩
  generalize A.take (s - p) = A1 at *
  generalize A.drop (s - p) = A2 at *
  generalize B.take (n - s - m) = B1 at *
  generalize B.drop (n - s - m) = B2 at *
  subst eA eB
  refine sortK_is (SrtK.app (sortK_ok _).1 (sortK_ok _).1 fun x hx y hy => ?_) ?_
  · rw [sortK_mem, List.mem_append] at hx hy
    rcases hx with hx | hx <;> rcases hy with hy | hy
    · exact sA.2.2 x hx y hy
    · exact loose x hx y hy
    · have := strict y hy x hx; omega
    · exact sB.2.2 x hx y hy
  · refine ((sortK_ok (A1 ++ B1)).2.app (sortK_ok (A2 ++ B2)).2).trans ?_
    have := ((SameK.refl (key := key) A1).app (SameK.turn (u := B1) (v := A2) fun x hx y hy => by have := strict y hy x hx; omega)).app (SameK.refl B2)
    simpa using this
attribute [local irreducible] Calls Walk1 WalkTo Tri EndA
theorem symM_any (pre post : List Value) (N cap b : Nat) (cv : Value) (key : Nat → Int) (c : Nat → Nat → Int) (M : Nat) (hc : ∀ x y, x < M → y < M → (c x y < 0 ↔ key x < key y)) (hM : 0 < M) (hs : N ≤ 1099511627776) : ∀ (fuel : Nat) (P A B Q : List Nat) (p m e : Nat) (w : World), A.length + B.length ≤ fuel → 0 < A.length → 0 < B.length → (∀ y ∈ P ++ (A ++ (B ++ Q)), y < M) →
    p = P.length → m = p + A.length → e = m + B.length → N = e + Q.length → CmpOK w [b] cv M c → SrtK key A → SrtK key B → Blk w b (segA pre post (P ++ (A ++ (B ++ Q)))) 3 →
    Calls Try.prog 99 #[.slice (some ⟨b, pre.length, none⟩) N cap, .int .i64 ((p : Nat) : Int), .int .i64 ((m : Nat) : Int), .int .i64 ((e : Nat) : Int), cv] w (RetP w b 3 (segA pre post (P ++ (sortK key (A ++ B) ++ Q))) (.tuple #[])) := by
  intro fuel
  induction fuel with
  | zero => intro P A B Q p m e w h1 h2; omega
  | succ fuel ih =>
    intro P A B Q p m e w hfu hA0 hB0 hd hp hm he hN hC hSA hSB hB
    by_cases h1A : A.length = 1
    · obtain ⟨x, rfl⟩ := List.length_eq_one_iff.1 h1A
      exact symM_one pre post P x B Q N cap p m e b cv w key c M hc hM (by simpa using hd) hp (by simpa using hm) he hN hs hC hSB (by simpa using hB)
    by_cases h1B : B.length = 1
    · obtain ⟨x, rfl⟩ := List.length_eq_one_iff.1 h1B
      exact symM_two pre post P x A Q N cap p m e b cv w key c M hc hM (by simpa using hd) hp hm h1A (by simpa using he) hN hs hC hSA (by simpa using hB)
    obtain ⟨L0, hL0⟩ : ∃ l, l = P ++ (A ++ (B ++ Q)) := ⟨_, rfl⟩
    obtain ⟨mid, hmid⟩ : ∃ x, x = (p + e) / 2 := ⟨_, rfl⟩
    obtain ⟨n, hn⟩ : ∃ x, x = mid + m := ⟨_, rfl⟩
    have plan := fun s0 r0 s => sym_plan (s0 := s0) (r0 := r0) (s := s) hL0 hSA hSB hp hm he hmid hn (by omega) (by omega)
    have hdg : ∀ j, gtN L0 j < M := fun j => gtN_lt hM (by rw [hL0]; exact hd) j
    have hlen0 : L0.length = N := by rw [hL0]; simp; omega
    obtain ⟨s0, r0, h0⟩ : ∃ s0 r0, (mid < m ∧ s0 = n - e ∧ r0 = mid) ∨ (¬ mid < m ∧ s0 = p ∧ r0 = m) := by
      by_cases h : mid < m
      · exact ⟨n - e, mid, .inl ⟨h, rfl, rfl⟩⟩
      · exact ⟨p, m, .inr ⟨h, rfl, rfl⟩⟩
    rw [← hL0] at hB
    have heN : e ≤ N := by omega
    have b1 : p + 2 ≤ m := by omega
    have b2 : m + 2 ≤ e := by omega
    refine calls_triI hB Try.func99 rfl Try.ntmps99 rfl ?_
    repeat (first | (show Walk1 _ _ _ (_ :: _) _ _; first | (show Walk1 _ _ _ (⟨_, .move _, _, _, _, _⟩ :: _) _ _; refine walk1_t (op_move rfl rfl rfl rfl) ?_) | (show Walk1 _ _ _ (⟨_, .assign _, _, _, _, _⟩ :: _) _ _; first | refine walk1_t (op_assignN rfl rfl rfl rfl) ?_ | refine walk1_t (op_assign rfl rfl rfl rfl) ?_) | (show Walk1 _ _ _ (⟨_, .binOp .add _ _ _ _, _, _, _, _⟩ :: _) _ _; refine walk1_t (op_addN rfl rfl rfl (by first | exact evN_const rfl | exact rfl) (by first | exact evN_const rfl | exact rfl) (by omega)) ?_) | (show Walk1 _ _ _ (⟨_, .binOp .sub _ _ _ _, _, _, _, _⟩ :: _) _ _; refine walk1_t (op_subN rfl rfl rfl (by first | exact evN_const rfl | exact rfl) (by first | exact evN_const rfl | exact rfl) (by omega)) ?_) | (show Walk1 _ _ _ (⟨_, .binOp .gtr _ _ _ _, _, _, _, _⟩ :: _) _ _; refine walk1_t (op_gtN rfl rfl rfl (by first | exact evN_const rfl | exact rfl) (by first | exact evN_const rfl | exact rfl)) ?_) | (show Walk1 _ _ _ (⟨_, .binOp .eql _ _ _ _, _, _, _, _⟩ :: _) _ _; refine walk1_t (op_eqN rfl rfl rfl (by first | exact evN_const rfl | exact rfl) (by first | exact evN_const rfl | exact rfl)) ?_) | (show Walk1 _ _ _ (⟨_, .binOp .shr _ _ _ _, _, _, _, _⟩ :: _) _ _; refine walk1_t (op_shrU rfl rfl rfl rfl) ?_) | (show Walk1 _ _ _ (⟨_, .convert _ _ _, _, _, _, _⟩ :: _) _ _; first | refine walk1_t (op_cvtNU rfl rfl rfl rfl rfl rfl (by omega)) ?_ | refine walk1_t (op_cvtUN rfl rfl rfl rfl rfl rfl (by omega)) ?_)) | refine go1 ?_ | refine end_block_other rfl ?_ | refine end_scope (fun _ h => by cases h) ?_ | (refine walk_endD ?_ ?_; (· kernel_rfl)) | refine tri_yesA rfl ?_ | refine tri_noA rfl ?_ | refine tri_trueA rfl ?_ | refine tri_falseA rfl ?_)
    rw [← hmid, ← hn]
    refine tri_cut2 ⟨[(18, SV.c (.int .i64 ((mid : Nat) : Int))), (19, SV.c (.int .i64 ((n : Nat) : Int))), (20, SV.c (.int .i64 ((s0 : Nat) : Int))), (21, SV.c (.int .i64 ((r0 : Nat) : Int))), (0, .c (.slice (some ⟨b, pre.length, none⟩) N cap)), (1, SV.c (.int .i64 ((p : Nat) : Int))), (2, SV.c (.int .i64 ((m : Nat) : Int))), (3, SV.c (.int .i64 ((e : Nat) : Int))), (4, .c cv)], [(1000, some (.blk 1000 3 (.c (segA pre post L0)))), (1001, some (.is 1000 b))]⟩ (fun K hK => ?_) ?_
    · clear plan ih
      rcases h0 with ⟨h, rfl, rfl⟩ | ⟨h, rfl, rfl⟩
      · repeat (first | (show Walk1 _ _ _ (_ :: _) _ _; first | (show Walk1 _ _ _ (⟨_, .move _, _, _, _, _⟩ :: _) _ _; refine walk1_t (op_move rfl rfl rfl rfl) ?_) | (show Walk1 _ _ _ (⟨_, .assign _, _, _, _, _⟩ :: _) _ _; refine walk1_t (op_assign rfl rfl rfl rfl) ?_) | (show Walk1 _ _ _ (⟨_, .binOp .sub _ _ _ _, _, _, _, _⟩ :: _) _ _; refine walk1_t (op_subN rfl rfl rfl (by first | exact evN_const rfl | exact rfl) (by first | exact evN_const rfl | exact rfl) (by omega)) ?_)) | refine go1 ?_ | refine end_block_other rfl ?_ | refine end_scope (fun _ h => by cases h) ?_ | (refine walk_endD ?_ ?_; (· kernel_rfl)) | refine tri_yesA rfl ?_ | refine tri_noA rfl ?_ | refine tri_trueA rfl ?_ | refine tri_falseA rfl ?_)
        exact hK _ (by exact ent_keep (by repeat (first | exact hasT_nil | refine hasT_cons rfl ?_ | refine hasT_eq rfl (svi (by omega)) ?_)) (by repeat (first | exact hasR_nil | refine hasR_cons rfl ?_)))
      · repeat (first | (show Walk1 _ _ _ (_ :: _) _ _; first | (show Walk1 _ _ _ (⟨_, .move _, _, _, _, _⟩ :: _) _ _; refine walk1_t (op_move rfl rfl rfl rfl) ?_) | (show Walk1 _ _ _ (⟨_, .assign _, _, _, _, _⟩ :: _) _ _; refine walk1_t (op_assign rfl rfl rfl rfl) ?_)) | refine go1 ?_ | refine end_block_other rfl ?_ | refine end_scope (fun _ h => by cases h) ?_ | (refine walk_endD ?_ ?_; (· kernel_rfl)) | refine tri_yesA rfl ?_ | refine tri_noA rfl ?_ | refine tri_trueA rfl ?_ | refine tri_falseA rfl ?_)
        exact hK _ (by exact ent_keep (by repeat (first | exact hasT_nil | refine hasT_cons rfl ?_ | refine hasT_eq rfl (svi (by omega)) ?_)) (by repeat (first | exact hasR_nil | refine hasR_cons rfl ?_)))
    repeat (first | (show Walk1 _ _ _ (_ :: _) _ _; first | (show Walk1 _ _ _ (⟨_, .move _, _, _, _, _⟩ :: _) _ _; refine walk1_t (op_move rfl rfl rfl rfl) ?_) | (show Walk1 _ _ _ (⟨_, .assign _, _, _, _, _⟩ :: _) _ _; refine walk1_t (op_assign rfl rfl rfl rfl) ?_) | (show Walk1 _ _ _ (⟨_, .binOp .sub _ _ _ _, _, _, _, _⟩ :: _) _ _; refine walk1_t (op_subN rfl rfl rfl (by first | exact evN_const rfl | exact rfl) (by first | exact evN_const rfl | exact rfl) (by omega)) ?_)) | refine go1 ?_ | refine end_block_other rfl ?_ | refine end_scope (fun _ h => by cases h) ?_ | (refine walk_endD ?_ ?_; (· kernel_rfl)) | refine tri_yesA rfl ?_ | refine tri_noA rfl ?_ | refine tri_trueA rfl ?_ | refine tri_falseA rfl ?_)
    refine tri_loop (X := Nat × Nat) (fun z => ⟨[(22, SV.c (.int .i64 ((n - 1 : Nat) : Int))), (18, SV.c (.int .i64 ((mid : Nat) : Int))), (19, SV.c (.int .i64 ((n : Nat) : Int))), (20, SV.c (.int .i64 ((z.1 : Nat) : Int))), (21, SV.c (.int .i64 ((z.2 : Nat) : Int))), (0, .c (.slice (some ⟨b, pre.length, none⟩) N cap)), (1, SV.c (.int .i64 ((p : Nat) : Int))), (2, SV.c (.int .i64 ((m : Nat) : Int))), (3, SV.c (.int .i64 ((e : Nat) : Int))), (4, .c cv)], [(1000, some (.blk 1000 3 (.c (segA pre post L0)))), (1001, some (.is 1000 b))]⟩)
      (fun z => s0 ≤ z.1 ∧ z.1 ≤ z.2 ∧ z.2 ≤ r0 ∧ (z.1 = s0 ∨ ¬ key (gtN L0 (n - 1 - (z.1 - 1))) < key (gtN L0 (z.1 - 1))) ∧ (z.2 = r0 ∨ key (gtN L0 (n - 1 - z.2)) < key (gtN L0 z.2))) (fun z => z.2 - z.1) (s0, r0) ⟨by omega, by dsimp only; omega, by omega, .inl rfl, .inl rfl⟩ (by exact ent_keep (by repeat (first | exact hasT_nil | refine hasT_cons rfl ?_ | refine hasT_eq rfl (svi (by omega)) ?_)) (by repeat (first | exact hasR_nil | refine hasR_cons rfl ?_))) ?_
    rintro ⟨i, j⟩ ⟨g1, g2, g3, g4, g5⟩ K next
    dsimp only at g1 g2 g3 g4 g5 next ⊢
    by_cases h : i < j
    · have d1 := hdg ((i + j) / 2)
      have d2 := hdg (n - 1 - (i + j) / 2)
      have hcc := hc _ _ d2 d1
      have nx1 := fun S' => next S' ((i + j) / 2 + 1, j)
      have nx2 := fun S' => next S' (i, (i + j) / 2)
      have hb : s0 ≤ (i + j) / 2 ∧ (i + j) / 2 < r0 ∧ (i + j) / 2 + 1 ≤ n ∧ n - 1 - (i + j) / 2 < N ∧ (i + j) / 2 < N := by omega
      clear next plan ih hd
      by_cases hk : key (gtN L0 (n - 1 - (i + j) / 2)) < key (gtN L0 ((i + j) / 2))
      · have hcx := hcc.2 hk
        repeat (first | (show Walk1 _ _ _ (_ :: _) _ _; first | (show Walk1 _ _ _ (⟨_, .move _, _, _, _, _⟩ :: _) _ _; refine walk1_t (op_move rfl rfl rfl rfl) ?_) | (show Walk1 _ _ _ (⟨_, .assign _, _, _, _, _⟩ :: _) _ _; refine walk1_t (op_assign rfl rfl rfl rfl) ?_) | (show Walk1 _ _ _ (⟨_, .binOp .add _ _ _ _, _, _, _, _⟩ :: _) _ _; refine walk1_t (op_addN rfl rfl rfl (by first | exact evN_const rfl | exact rfl) (by first | exact evN_const rfl | exact rfl) (by omega)) ?_) | (show Walk1 _ _ _ (⟨_, .binOp .lss _ _ _ _, _, _, _, _⟩ :: _) _ _; refine walk1_t (op_ltN rfl rfl rfl (by first | exact evN_const rfl | exact rfl) (by first | exact evN_const rfl | exact rfl)) ?_) | (show Walk1 _ _ _ (⟨_, .binOp .shr _ _ _ _, _, _, _, _⟩ :: _) _ _; refine walk1_t (op_shrU rfl rfl rfl rfl) ?_) | (show Walk1 _ _ _ (⟨_, .convert _ _ _, _, _, _, _⟩ :: _) _ _; first | refine walk1_t (op_cvtNU rfl rfl rfl rfl rfl rfl (by omega)) ?_ | refine walk1_t (op_cvtUN rfl rfl rfl rfl rfl rfl (by omega)) ?_)) | (show WalkTo _ _ _ _ (_ :: _) _ _ _; first | (show WalkTo _ _ _ _ (⟨_, .move _, _, _, _, _⟩ :: _) _ _ _; refine walk_t (op_move rfl rfl rfl rfl) ?_) | (show WalkTo _ _ _ _ (⟨_, .binOp .sub _ _ _ _, _, _, _, _⟩ :: _) _ _ _; refine walk_t (op_subN rfl rfl rfl (by first | exact evN_const rfl | exact rfl) (by first | exact evN_const rfl | exact rfl) (by omega)) ?_) | (show WalkTo _ _ _ _ (⟨_, .binOp .lss _ _ _ _, _, _, _, _⟩ :: _) _ _ _; refine walk_t (op_ltI rfl rfl rfl rfl rfl) ?_) | (show WalkTo _ _ _ _ (⟨_, .unOp _ _ _, _, _, _, _⟩ :: _) _ _ _; refine walk_t (op_not rfl rfl rfl rfl) ?_) | (show WalkTo _ _ _ _ (⟨_, .indexAddr _ _ _, _, _, _, _⟩ :: _) _ _ _; refine walk_t (op_idxC rfl rfl rfl rfl (by first | exact evK_const rfl | exact evK_tmp rfl) rfl rfl (by first | omega | decide) rfl) ?_) | (show WalkTo _ _ _ _ (⟨_, .load _ _, _, _, _, _⟩ :: _) _ _ _; refine walk_t (op_loadW rfl rfl rfl rfl rfl rfl rfl rfl (by first | omega | (simp; omega) | (simp <;> fail) | omega)) ?_) | (show WalkTo _ _ _ _ (⟨_, .call ⟨.value (.tmp _), _, _⟩, _, _, _, _⟩ :: _) _ _ _; refine walk_t (op_callCmp hC rfl rfl rfl rfl rfl rfl d2 d1) ?_)) | refine go1 ?_ | refine end_block_other rfl ?_ | refine end_scope (fun _ h => by cases h) ?_ | (refine walk_endD ?_ ?_; (· kernel_rfl)) | refine tri_yesA rfl ?_ | refine tri_noA rfl ?_ | refine tri_trueA rfl ?_ | refine tri_falseA rfl ?_)
        refine tri_false rfl (by simpa using hcx) ?_
        repeat (first | (show Walk1 _ _ _ (_ :: _) _ _; first | (show Walk1 _ _ _ (⟨_, .move _, _, _, _, _⟩ :: _) _ _; refine walk1_t (op_move rfl rfl rfl rfl) ?_) | (show Walk1 _ _ _ (⟨_, .assign _, _, _, _, _⟩ :: _) _ _; refine walk1_t (op_assign rfl rfl rfl rfl) ?_)) | refine go1 ?_ | refine end_block_other rfl ?_ | refine end_scope (fun _ h => by cases h) ?_ | (refine walk_endD ?_ ?_; (· kernel_rfl)) | refine tri_yesA rfl ?_ | refine tri_noA rfl ?_ | refine tri_trueA rfl ?_ | refine tri_falseA rfl ?_)
        exact nx2 _ ⟨g1, by dsimp only; omega, by dsimp only; omega, g4, .inr hk⟩ (by dsimp only; omega) (by exact ent_keep (by repeat (first | exact hasT_nil | refine hasT_cons rfl ?_ | refine hasT_eq rfl (svi (by omega)) ?_)) (by repeat (first | exact hasR_nil | refine hasR_cons rfl ?_)))
      · have hcx := fun h => hk (hcc.1 h)
        repeat (first | (show Walk1 _ _ _ (_ :: _) _ _; first | (show Walk1 _ _ _ (⟨_, .move _, _, _, _, _⟩ :: _) _ _; refine walk1_t (op_move rfl rfl rfl rfl) ?_) | (show Walk1 _ _ _ (⟨_, .assign _, _, _, _, _⟩ :: _) _ _; refine walk1_t (op_assign rfl rfl rfl rfl) ?_) | (show Walk1 _ _ _ (⟨_, .binOp .add _ _ _ _, _, _, _, _⟩ :: _) _ _; refine walk1_t (op_addN rfl rfl rfl (by first | exact evN_const rfl | exact rfl) (by first | exact evN_const rfl | exact rfl) (by omega)) ?_) | (show Walk1 _ _ _ (⟨_, .binOp .lss _ _ _ _, _, _, _, _⟩ :: _) _ _; refine walk1_t (op_ltN rfl rfl rfl (by first | exact evN_const rfl | exact rfl) (by first | exact evN_const rfl | exact rfl)) ?_) | (show Walk1 _ _ _ (⟨_, .binOp .shr _ _ _ _, _, _, _, _⟩ :: _) _ _; refine walk1_t (op_shrU rfl rfl rfl rfl) ?_) | (show Walk1 _ _ _ (⟨_, .convert _ _ _, _, _, _, _⟩ :: _) _ _; first | refine walk1_t (op_cvtNU rfl rfl rfl rfl rfl rfl (by omega)) ?_ | refine walk1_t (op_cvtUN rfl rfl rfl rfl rfl rfl (by omega)) ?_)) | (show WalkTo _ _ _ _ (_ :: _) _ _ _; first | (show WalkTo _ _ _ _ (⟨_, .move _, _, _, _, _⟩ :: _) _ _ _; refine walk_t (op_move rfl rfl rfl rfl) ?_) | (show WalkTo _ _ _ _ (⟨_, .binOp .sub _ _ _ _, _, _, _, _⟩ :: _) _ _ _; refine walk_t (op_subN rfl rfl rfl (by first | exact evN_const rfl | exact rfl) (by first | exact evN_const rfl | exact rfl) (by omega)) ?_) | (show WalkTo _ _ _ _ (⟨_, .binOp .lss _ _ _ _, _, _, _, _⟩ :: _) _ _ _; refine walk_t (op_ltI rfl rfl rfl rfl rfl) ?_) | (show WalkTo _ _ _ _ (⟨_, .unOp _ _ _, _, _, _, _⟩ :: _) _ _ _; refine walk_t (op_not rfl rfl rfl rfl) ?_) | (show WalkTo _ _ _ _ (⟨_, .indexAddr _ _ _, _, _, _, _⟩ :: _) _ _ _; refine walk_t (op_idxC rfl rfl rfl rfl (by first | exact evK_const rfl | exact evK_tmp rfl) rfl rfl (by first | omega | decide) rfl) ?_) | (show WalkTo _ _ _ _ (⟨_, .load _ _, _, _, _, _⟩ :: _) _ _ _; refine walk_t (op_loadW rfl rfl rfl rfl rfl rfl rfl rfl (by first | omega | (simp; omega) | (simp <;> fail) | omega)) ?_) | (show WalkTo _ _ _ _ (⟨_, .call ⟨.value (.tmp _), _, _⟩, _, _, _, _⟩ :: _) _ _ _; refine walk_t (op_callCmp hC rfl rfl rfl rfl rfl rfl d2 d1) ?_)) | refine go1 ?_ | refine end_block_other rfl ?_ | refine end_scope (fun _ h => by cases h) ?_ | (refine walk_endD ?_ ?_; (· kernel_rfl)) | refine tri_yesA rfl ?_ | refine tri_noA rfl ?_ | refine tri_trueA rfl ?_ | refine tri_falseA rfl ?_)
        refine tri_true rfl (by simpa using hcx) ?_
        repeat (first | (show Walk1 _ _ _ (_ :: _) _ _; first | (show Walk1 _ _ _ (⟨_, .move _, _, _, _, _⟩ :: _) _ _; refine walk1_t (op_move rfl rfl rfl rfl) ?_) | (show Walk1 _ _ _ (⟨_, .assign _, _, _, _, _⟩ :: _) _ _; refine walk1_t (op_assign rfl rfl rfl rfl) ?_) | (show Walk1 _ _ _ (⟨_, .binOp .add _ _ _ _, _, _, _, _⟩ :: _) _ _; refine walk1_t (op_addN rfl rfl rfl (by first | exact evN_const rfl | exact rfl) (by first | exact evN_const rfl | exact rfl) (by omega)) ?_)) | refine go1 ?_ | refine end_block_other rfl ?_ | refine end_scope (fun _ h => by cases h) ?_ | (refine walk_endD ?_ ?_; (· kernel_rfl)) | refine tri_yesA rfl ?_ | refine tri_noA rfl ?_ | refine tri_trueA rfl ?_ | refine tri_falseA rfl ?_)
        exact nx1 _ ⟨by dsimp only; omega, by dsimp only; omega, g3, .inr (by simpa using hk), g5⟩ (by dsimp only; omega) (by exact ent_keep (by repeat (first | exact hasT_nil | refine hasT_cons rfl ?_ | refine hasT_eq rfl (svi (by omega)) ?_)) (by repeat (first | exact hasR_nil | refine hasR_cons rfl ?_)))
    · obtain rfl : i = j := by omega
      obtain ⟨A1, A2, B1, B2, rfl, rfl, l1, q1, q2, l2, q3, q4, q5, sA1, sA2, sB1, sB2, hfin⟩ := plan s0 r0 i h0 g1 g3 g4 g5
      obtain ⟨L1, hL1⟩ : ∃ l, l = P ++ (A1 ++ (B1 ++ (A2 ++ (B2 ++ Q)))) := ⟨_, rfl⟩
      obtain ⟨L2, hL2⟩ : ∃ l, l = P ++ (sortK key (A1 ++ B1) ++ (A2 ++ (B2 ++ Q))) := ⟨_, rfl⟩
      obtain ⟨L3, hL3⟩ : ∃ l, l = P ++ (sortK key (A1 ++ A2 ++ (B1 ++ B2)) ++ Q) := ⟨_, rfl⟩
      have hL3' : L3 = (P ++ sortK key (A1 ++ B1)) ++ (sortK key (A2 ++ B2) ++ Q) := by rw [hL3, ← hfin]; simp
      have lA2 : A2.length = m - i := by simp at hm; omega
      have lB2 : B2.length = e - (n - i) := by simp at he; omega
      have sl : (sortK key (A1 ++ B1)).length = mid - p := by rw [sortK_len, List.length_append]; omega
      have c1 : i < m → m < n - i → ∀ w, Blk w b (segA pre post L0) 3 → Calls Try.prog 102 #[.slice (some ⟨b, pre.length, none⟩) N cap, .int .i64 ((i : Nat) : Int), .int .i64 ((m : Nat) : Int), .int .i64 ((n - i : Nat) : Int), cv] w (RetP w b 3 (segA pre post L1) (.tuple #[])) := by
        intro h1 h2 w hB
        have := rotate_any pre post (P ++ A1) A2 B1 (B2 ++ Q) N cap i m (n - i) b cv w (by omega) (by omega) (by rw [List.length_append]; omega) (by rw [List.length_append]; omega) (by rw [List.length_append]; omega) (by rw [List.length_append, List.length_append]; omega) hs (by rw [hL0] at hB; simpa using hB)
        rw [hL1]
        simpa using this
      have n1 : ¬ (i < m ∧ m < n - i) → L0 = L1 := by
        intro h
        rw [hL0, hL1]
        by_cases h2 : i < m
        · rw [List.eq_nil_of_length_eq_zero (show B1.length = 0 by omega)]; simp
        · rw [List.eq_nil_of_length_eq_zero (show A2.length = 0 by omega)]; simp
      have c2 : p < i → i < mid → ∀ w, CmpOK w [b] cv M c → Blk w b (segA pre post L1) 3 → Calls Try.prog 99 #[.slice (some ⟨b, pre.length, none⟩) N cap, .int .i64 ((p : Nat) : Int), .int .i64 ((i : Nat) : Int), .int .i64 ((mid : Nat) : Int), cv] w (RetP w b 3 (segA pre post L2) (.tuple #[])) := by
        intro h1 h2 w hC hB
        have := ih P A1 B1 (A2 ++ (B2 ++ Q)) p i mid w (by omega) (by omega) (by omega) (fun y hy => hd y (by simp only [List.mem_append] at hy ⊢; rcases hy with hy | hy | hy | hy | hy | hy <;> simp [hy])) hp (by omega) (by omega) (by rw [List.length_append, List.length_append]; omega) hC sA1 sB1 (by rw [hL1] at hB; exact hB)
        rw [hL2]
        exact this
      have n2 : ¬ (p < i ∧ i < mid) → L1 = L2 := by
        intro h
        rw [hL1, hL2]
        by_cases h2 : p < i
        · rw [List.eq_nil_of_length_eq_zero (show B1.length = 0 by omega), List.append_nil, sortK_self sA1]; simp
        · rw [List.eq_nil_of_length_eq_zero (show A1.length = 0 by omega)]; simp only [List.nil_append]; rw [sortK_self sB1]
      have c3 : mid < n - i → n - i < e → ∀ w, CmpOK w [b] cv M c → Blk w b (segA pre post L2) 3 → Calls Try.prog 99 #[.slice (some ⟨b, pre.length, none⟩) N cap, .int .i64 ((mid : Nat) : Int), .int .i64 ((n - i : Nat) : Int), .int .i64 ((e : Nat) : Int), cv] w (RetP w b 3 (segA pre post L3) (.tuple #[])) := by
        intro h1 h2 w hC hB
        have := ih (P ++ sortK key (A1 ++ B1)) A2 B2 Q mid (n - i) e w (by omega) (by omega) (by omega) (fun y hy => hd y (by simp only [List.mem_append, sortK_mem] at hy ⊢; rcases hy with (hy | hy | hy) | hy | hy | hy <;> simp [hy])) (by rw [List.length_append]; omega) (by omega) (by omega) hN hC sA2 sB2 (by rw [hL2] at hB; simpa using hB)
        rw [hL3']
        exact this
      have n3 : ¬ (mid < n - i ∧ n - i < e) → L2 = L3 := by
        intro h
        rw [hL2, hL3']
        by_cases h2 : mid < n - i
        · rw [List.eq_nil_of_length_eq_zero (show B2.length = 0 by omega), List.append_nil, sortK_self sA2]; simp
        · rw [List.eq_nil_of_length_eq_zero (show A2.length = 0 by omega)]; simp only [List.nil_append]; rw [sortK_self sB2]; simp
      rw [← hL3]
      clear plan ih hd next hL0 hL1 hL2 hL3 hL3' hfin hm he sA1 sB1 sA2 sB2 hSA hSB hA0 hB0 h1A h1B hfu sl lA2 lB2 l1 l2 hdg g4 g5 hp
      iterate 22 (try (first | (show Walk1 _ _ _ (_ :: _) _ _; first | (show Walk1 _ _ _ (⟨_, .move _, _, _, _, _⟩ :: _) _ _; refine walk1_t (op_move rfl rfl rfl rfl) ?_) | (show Walk1 _ _ _ (⟨_, .assign _, _, _, _, _⟩ :: _) _ _; refine walk1_t (op_assign rfl rfl rfl rfl) ?_) | (show Walk1 _ _ _ (⟨_, .binOp .sub _ _ _ _, _, _, _, _⟩ :: _) _ _; refine walk1_t (op_subN rfl rfl rfl (by first | exact evN_const rfl | exact rfl) (by first | exact evN_const rfl | exact rfl) (by omega)) ?_) | (show Walk1 _ _ _ (⟨_, .binOp .lss _ _ _ _, _, _, _, _⟩ :: _) _ _; refine walk1_t (op_ltN rfl rfl rfl (by first | exact evN_const rfl | exact rfl) (by first | exact evN_const rfl | exact rfl)) ?_)) | refine go1 ?_ | refine end_block_other rfl ?_ | refine end_scope (fun _ h => by cases h) ?_ | (refine walk_endD ?_ ?_; (· kernel_rfl)) | refine tri_yesA rfl ?_ | refine tri_noA rfl ?_ | refine tri_trueA rfl ?_ | refine tri_falseA rfl ?_))
      refine tri_cut3 ⟨[(24, SV.c (.int .i64 ((n - i : Nat) : Int))), (18, SV.c (.int .i64 ((mid : Nat) : Int))), (20, SV.c (.int .i64 ((i : Nat) : Int))), (0, .c (.slice (some ⟨b, pre.length, none⟩) N cap)), (1, SV.c (.int .i64 ((p : Nat) : Int))), (2, SV.c (.int .i64 ((m : Nat) : Int))), (3, SV.c (.int .i64 ((e : Nat) : Int))), (4, .c cv)], [(1000, some (.blk 1000 3 (.c (segA pre post L1)))), (1001, some (.is 1000 b))]⟩ (fun K hK => ?_) ?_
      · by_cases h1 : i < m
        · by_cases h2 : m < n - i
          · have cc := c1 h1 h2
            clear n1 n2 n3 c1 c2 c3
            repeat (first | (show Walk1 _ _ _ (_ :: _) _ _; first | (show Walk1 _ _ _ (⟨_, _, _, _, _, some _⟩ :: _) _ _; refine walk1_yes rfl rfl (by first | exact decide_eq_true (by omega) | exact decide_eq_false (by omega) | rfl | (show _ = true; with_reducible assumption) | (show _ = false; with_reducible assumption) | (simp <;> fail) | omega) ?_) | (show Walk1 _ _ _ (⟨_, .move _, _, _, _, _⟩ :: _) _ _; refine walk1_t (op_move rfl rfl rfl rfl) ?_) | (show Walk1 _ _ _ (⟨_, .binOp .lss _ _ _ _, _, _, _, _⟩ :: _) _ _; refine walk1_t (op_ltN rfl rfl rfl (by first | exact evN_const rfl | exact rfl) (by first | exact evN_const rfl | exact rfl)) ?_) | (show Walk1 _ _ _ (⟨_, .pick _ _ _, _, _, _, _⟩ :: _) _ _; refine walk1_t (op_pickY rfl rfl rfl rfl (by first | exact decide_eq_true (by omega) | exact decide_eq_false (by omega) | rfl | (show _ = true; with_reducible assumption) | (show _ = false; with_reducible assumption) | (simp <;> fail) | omega) rfl) ?_) | (show Walk1 _ _ _ (⟨_, .call ⟨.value (.func 102), _, _⟩, _, _, _, _⟩ :: _) _ _; (first | refine walk1_tb (op_callW rfl rfl rfl (by repeat (first | exact evs_nil | apply evs_cons rfl)) rfl rfl rfl (fun _ => rfl) (fun w hF hB => cc w hB)) ?_ | refine walk1_b (op_callW rfl rfl rfl (by repeat (first | exact evs_nil | apply evs_cons rfl)) rfl rfl rfl (fun _ => rfl) (fun w hF hB => cc w hB)) ?_))) | refine go1 ?_ | refine end_block_other rfl ?_ | refine end_scope (fun _ h => by cases h) ?_ | (refine walk_endD ?_ ?_; (· kernel_rfl)) | refine tri_yesA rfl ?_ | refine tri_noA rfl ?_ | refine tri_trueA rfl ?_ | refine tri_falseA rfl ?_)
            exact hK _ (by exact ent_keep (by repeat (first | exact hasT_nil | refine hasT_cons rfl ?_ | refine hasT_eq rfl (svi (by omega)) ?_)) (by repeat (first | exact hasR_nil | refine hasR_cons rfl ?_)))
          · rw [n1 (fun h => h2 h.2)] at *
            clear n1 n2 n3 c1 c2 c3
            repeat (first | (show Walk1 _ _ _ (_ :: _) _ _; first | (show Walk1 _ _ _ (⟨_, _, _, _, _, some _⟩ :: _) _ _; refine walk1_yes rfl rfl (by first | exact decide_eq_true (by omega) | exact decide_eq_false (by omega) | rfl | (show _ = true; with_reducible assumption) | (show _ = false; with_reducible assumption) | (simp <;> fail) | omega) ?_) | (show Walk1 _ _ _ (⟨_, .move _, _, _, _, _⟩ :: _) _ _; refine walk1_t (op_move rfl rfl rfl rfl) ?_) | (show Walk1 _ _ _ (⟨_, .binOp .lss _ _ _ _, _, _, _, _⟩ :: _) _ _; refine walk1_t (op_ltN rfl rfl rfl (by first | exact evN_const rfl | exact rfl) (by first | exact evN_const rfl | exact rfl)) ?_) | (show Walk1 _ _ _ (⟨_, .pick _ _ _, _, _, _, _⟩ :: _) _ _; refine walk1_t (op_pickY rfl rfl rfl rfl (by first | exact decide_eq_true (by omega) | exact decide_eq_false (by omega) | rfl | (show _ = true; with_reducible assumption) | (show _ = false; with_reducible assumption) | (simp <;> fail) | omega) rfl) ?_)) | refine go1 ?_ | refine end_block_other rfl ?_ | refine end_scope (fun _ h => by cases h) ?_ | (refine walk_endD ?_ ?_; (· kernel_rfl)) | refine tri_yesA rfl ?_ | refine tri_noA rfl ?_ | refine tri_trueA rfl ?_ | refine tri_falseA rfl ?_)
            exact hK _ (by exact ent_keep (by repeat (first | exact hasT_nil | refine hasT_cons rfl ?_ | refine hasT_eq rfl (svi (by omega)) ?_)) (by repeat (first | exact hasR_nil | refine hasR_cons rfl ?_)))
        · rw [n1 (fun h => h1 h.1)] at *
          clear n1 n2 n3 c1 c2 c3
          repeat (first | (show Walk1 _ _ _ (_ :: _) _ _; first | (show Walk1 _ _ _ (⟨_, _, _, _, _, some _⟩ :: _) _ _; refine walk1_no rfl rfl (by first | exact decide_eq_true (by omega) | exact decide_eq_false (by omega) | rfl | (show _ = true; with_reducible assumption) | (show _ = false; with_reducible assumption) | (simp <;> fail) | omega) rfl ?_) | (show Walk1 _ _ _ (⟨_, .move _, _, _, _, _⟩ :: _) _ _; refine walk1_t (op_move rfl rfl rfl rfl) ?_) | (show Walk1 _ _ _ (⟨_, .binOp .lss _ _ _ _, _, _, _, _⟩ :: _) _ _; refine walk1_t (op_ltN rfl rfl rfl (by first | exact evN_const rfl | exact rfl) (by first | exact evN_const rfl | exact rfl)) ?_) | (show Walk1 _ _ _ (⟨_, .pick _ _ _, _, _, _, _⟩ :: _) _ _; refine walk1_t (op_pickN rfl rfl rfl rfl (by first | exact decide_eq_true (by omega) | exact decide_eq_false (by omega) | rfl | (show _ = true; with_reducible assumption) | (show _ = false; with_reducible assumption) | (simp <;> fail) | omega) rfl) ?_)) | refine go1 ?_ | refine end_block_other rfl ?_ | refine end_scope (fun _ h => by cases h) ?_ | (refine walk_endD ?_ ?_; (· kernel_rfl)) | refine tri_yesA rfl ?_ | refine tri_noA rfl ?_ | refine tri_trueA rfl ?_ | refine tri_falseA rfl ?_)
          exact hK _ (by exact ent_keep (by repeat (first | exact hasT_nil | refine hasT_cons rfl ?_ | refine hasT_eq rfl (svi (by omega)) ?_)) (by repeat (first | exact hasR_nil | refine hasR_cons rfl ?_)))
      refine tri_cut3 ⟨[(24, SV.c (.int .i64 ((n - i : Nat) : Int))), (18, SV.c (.int .i64 ((mid : Nat) : Int))), (20, SV.c (.int .i64 ((i : Nat) : Int))), (0, .c (.slice (some ⟨b, pre.length, none⟩) N cap)), (1, SV.c (.int .i64 ((p : Nat) : Int))), (2, SV.c (.int .i64 ((m : Nat) : Int))), (3, SV.c (.int .i64 ((e : Nat) : Int))), (4, .c cv)], [(1000, some (.blk 1000 3 (.c (segA pre post L2)))), (1001, some (.is 1000 b))]⟩ (fun K hK => ?_) ?_
      · by_cases h1 : p < i
        · by_cases h2 : i < mid
          · have cc := c2 h1 h2
            clear n1 n2 n3 c1 c2 c3
            repeat (first | (show Walk1 _ _ _ (_ :: _) _ _; first | (show Walk1 _ _ _ (⟨_, _, _, _, _, some _⟩ :: _) _ _; refine walk1_yes rfl rfl (by first | exact decide_eq_true (by omega) | exact decide_eq_false (by omega) | rfl | (show _ = true; with_reducible assumption) | (show _ = false; with_reducible assumption) | (simp <;> fail) | omega) ?_) | (show Walk1 _ _ _ (⟨_, .move _, _, _, _, _⟩ :: _) _ _; refine walk1_t (op_move rfl rfl rfl rfl) ?_) | (show Walk1 _ _ _ (⟨_, .binOp .lss _ _ _ _, _, _, _, _⟩ :: _) _ _; refine walk1_t (op_ltN rfl rfl rfl (by first | exact evN_const rfl | exact rfl) (by first | exact evN_const rfl | exact rfl)) ?_) | (show Walk1 _ _ _ (⟨_, .pick _ _ _, _, _, _, _⟩ :: _) _ _; refine walk1_t (op_pickY rfl rfl rfl rfl (by first | exact decide_eq_true (by omega) | exact decide_eq_false (by omega) | rfl | (show _ = true; with_reducible assumption) | (show _ = false; with_reducible assumption) | (simp <;> fail) | omega) rfl) ?_) | (show Walk1 _ _ _ (⟨_, .call ⟨.value (.func 99), _, _⟩, _, _, _, _⟩ :: _) _ _; (first | refine walk1_tb (op_callW rfl rfl rfl (by repeat (first | exact evs_nil | apply evs_cons rfl)) rfl rfl rfl (fun _ => rfl) (fun w hF hB => cc w (hC.later hF) hB)) ?_ | refine walk1_b (op_callW rfl rfl rfl (by repeat (first | exact evs_nil | apply evs_cons rfl)) rfl rfl rfl (fun _ => rfl) (fun w hF hB => cc w (hC.later hF) hB)) ?_))) | refine go1 ?_ | refine end_block_other rfl ?_ | refine end_scope (fun _ h => by cases h) ?_ | (refine walk_endD ?_ ?_; (· kernel_rfl)) | refine tri_yesA rfl ?_ | refine tri_noA rfl ?_ | refine tri_trueA rfl ?_ | refine tri_falseA rfl ?_)
            exact hK _ (by exact ent_keep (by repeat (first | exact hasT_nil | refine hasT_cons rfl ?_ | refine hasT_eq rfl (svi (by omega)) ?_)) (by repeat (first | exact hasR_nil | refine hasR_cons rfl ?_)))
          · rw [n2 (fun h => h2 h.2)] at *
            clear n1 n2 n3 c1 c2 c3
            repeat (first | (show Walk1 _ _ _ (_ :: _) _ _; first | (show Walk1 _ _ _ (⟨_, _, _, _, _, some _⟩ :: _) _ _; refine walk1_yes rfl rfl (by first | exact decide_eq_true (by omega) | exact decide_eq_false (by omega) | rfl | (show _ = true; with_reducible assumption) | (show _ = false; with_reducible assumption) | (simp <;> fail) | omega) ?_) | (show Walk1 _ _ _ (⟨_, .move _, _, _, _, _⟩ :: _) _ _; refine walk1_t (op_move rfl rfl rfl rfl) ?_) | (show Walk1 _ _ _ (⟨_, .binOp .lss _ _ _ _, _, _, _, _⟩ :: _) _ _; refine walk1_t (op_ltN rfl rfl rfl (by first | exact evN_const rfl | exact rfl) (by first | exact evN_const rfl | exact rfl)) ?_) | (show Walk1 _ _ _ (⟨_, .pick _ _ _, _, _, _, _⟩ :: _) _ _; refine walk1_t (op_pickY rfl rfl rfl rfl (by first | exact decide_eq_true (by omega) | exact decide_eq_false (by omega) | rfl | (show _ = true; with_reducible assumption) | (show _ = false; with_reducible assumption) | (simp <;> fail) | omega) rfl) ?_)) | refine go1 ?_ | refine end_block_other rfl ?_ | refine end_scope (fun _ h => by cases h) ?_ | (refine walk_endD ?_ ?_; (· kernel_rfl)) | refine tri_yesA rfl ?_ | refine tri_noA rfl ?_ | refine tri_trueA rfl ?_ | refine tri_falseA rfl ?_)
            exact hK _ (by exact ent_keep (by repeat (first | exact hasT_nil | refine hasT_cons rfl ?_ | refine hasT_eq rfl (svi (by omega)) ?_)) (by repeat (first | exact hasR_nil | refine hasR_cons rfl ?_)))
        · rw [n2 (fun h => h1 h.1)] at *
          clear n1 n2 n3 c1 c2 c3
          repeat (first | (show Walk1 _ _ _ (_ :: _) _ _; first | (show Walk1 _ _ _ (⟨_, _, _, _, _, some _⟩ :: _) _ _; refine walk1_no rfl rfl (by first | exact decide_eq_true (by omega) | exact decide_eq_false (by omega) | rfl | (show _ = true; with_reducible assumption) | (show _ = false; with_reducible assumption) | (simp <;> fail) | omega) rfl ?_) | (show Walk1 _ _ _ (⟨_, .move _, _, _, _, _⟩ :: _) _ _; refine walk1_t (op_move rfl rfl rfl rfl) ?_) | (show Walk1 _ _ _ (⟨_, .binOp .lss _ _ _ _, _, _, _, _⟩ :: _) _ _; refine walk1_t (op_ltN rfl rfl rfl (by first | exact evN_const rfl | exact rfl) (by first | exact evN_const rfl | exact rfl)) ?_) | (show Walk1 _ _ _ (⟨_, .pick _ _ _, _, _, _, _⟩ :: _) _ _; refine walk1_t (op_pickN rfl rfl rfl rfl (by first | exact decide_eq_true (by omega) | exact decide_eq_false (by omega) | rfl | (show _ = true; with_reducible assumption) | (show _ = false; with_reducible assumption) | (simp <;> fail) | omega) rfl) ?_)) | refine go1 ?_ | refine end_block_other rfl ?_ | refine end_scope (fun _ h => by cases h) ?_ | (refine walk_endD ?_ ?_; (· kernel_rfl)) | refine tri_yesA rfl ?_ | refine tri_noA rfl ?_ | refine tri_trueA rfl ?_ | refine tri_falseA rfl ?_)
          exact hK _ (by exact ent_keep (by repeat (first | exact hasT_nil | refine hasT_cons rfl ?_ | refine hasT_eq rfl (svi (by omega)) ?_)) (by repeat (first | exact hasR_nil | refine hasR_cons rfl ?_)))
      by_cases h1 : mid < n - i
      · by_cases h2 : n - i < e
        · have cc := c3 h1 h2
          clear n1 n2 n3 c1 c2 c3
          repeat (first | (show Walk1 _ _ _ (_ :: _) _ _; first | (show Walk1 _ _ _ (⟨_, _, _, _, _, some _⟩ :: _) _ _; refine walk1_yes rfl rfl (by first | exact decide_eq_true (by omega) | exact decide_eq_false (by omega) | rfl | (show _ = true; with_reducible assumption) | (show _ = false; with_reducible assumption) | (simp <;> fail) | omega) ?_) | (show Walk1 _ _ _ (⟨_, .move _, _, _, _, _⟩ :: _) _ _; refine walk1_t (op_move rfl rfl rfl rfl) ?_) | (show Walk1 _ _ _ (⟨_, .binOp .lss _ _ _ _, _, _, _, _⟩ :: _) _ _; refine walk1_t (op_ltN rfl rfl rfl (by first | exact evN_const rfl | exact rfl) (by first | exact evN_const rfl | exact rfl)) ?_) | (show Walk1 _ _ _ (⟨_, .pick _ _ _, _, _, _, _⟩ :: _) _ _; refine walk1_t (op_pickY rfl rfl rfl rfl (by first | exact decide_eq_true (by omega) | exact decide_eq_false (by omega) | rfl | (show _ = true; with_reducible assumption) | (show _ = false; with_reducible assumption) | (simp <;> fail) | omega) rfl) ?_) | (show Walk1 _ _ _ (⟨_, .call ⟨.value (.func 99), _, _⟩, _, _, _, _⟩ :: _) _ _; (first | refine walk1_tb (op_callW rfl rfl rfl (by repeat (first | exact evs_nil | apply evs_cons rfl)) rfl rfl rfl (fun _ => rfl) (fun w hF hB => cc w (hC.later hF) hB)) ?_ | refine walk1_b (op_callW rfl rfl rfl (by repeat (first | exact evs_nil | apply evs_cons rfl)) rfl rfl rfl (fun _ => rfl) (fun w hF hB => cc w (hC.later hF) hB)) ?_))) | refine go1 ?_ | refine end_block_other rfl ?_ | refine end_scope (fun _ h => by cases h) ?_ | (refine walk_endD ?_ ?_; (· kernel_rfl)) | refine tri_yesA rfl ?_ | refine tri_noA rfl ?_ | refine tri_trueA rfl ?_ | refine tri_falseA rfl ?_)
          refine end_normal _ (res_none rfl) ?_
          exact fin_obj rfl rfl (fun _ => rfl) (fun _ => rfl)
        · rw [n3 (fun h => h2 h.2)] at *
          clear n1 n2 n3 c1 c2 c3
          repeat (first | (show Walk1 _ _ _ (_ :: _) _ _; first | (show Walk1 _ _ _ (⟨_, _, _, _, _, some _⟩ :: _) _ _; refine walk1_yes rfl rfl (by first | exact decide_eq_true (by omega) | exact decide_eq_false (by omega) | rfl | (show _ = true; with_reducible assumption) | (show _ = false; with_reducible assumption) | (simp <;> fail) | omega) ?_) | (show Walk1 _ _ _ (⟨_, .move _, _, _, _, _⟩ :: _) _ _; refine walk1_t (op_move rfl rfl rfl rfl) ?_) | (show Walk1 _ _ _ (⟨_, .binOp .lss _ _ _ _, _, _, _, _⟩ :: _) _ _; refine walk1_t (op_ltN rfl rfl rfl (by first | exact evN_const rfl | exact rfl) (by first | exact evN_const rfl | exact rfl)) ?_) | (show Walk1 _ _ _ (⟨_, .pick _ _ _, _, _, _, _⟩ :: _) _ _; refine walk1_t (op_pickY rfl rfl rfl rfl (by first | exact decide_eq_true (by omega) | exact decide_eq_false (by omega) | rfl | (show _ = true; with_reducible assumption) | (show _ = false; with_reducible assumption) | (simp <;> fail) | omega) rfl) ?_)) | refine go1 ?_ | refine end_block_other rfl ?_ | refine end_scope (fun _ h => by cases h) ?_ | (refine walk_endD ?_ ?_; (· kernel_rfl)) | refine tri_yesA rfl ?_ | refine tri_noA rfl ?_ | refine tri_trueA rfl ?_ | refine tri_falseA rfl ?_)
          refine end_normal _ (res_none rfl) ?_
          exact fin_obj rfl rfl (fun _ => rfl) (fun _ => rfl)
      · rw [n3 (fun h => h1 h.1)] at *
        clear n1 n2 n3 c1 c2 c3
        repeat (first | (show Walk1 _ _ _ (_ :: _) _ _; first | (show Walk1 _ _ _ (⟨_, _, _, _, _, some _⟩ :: _) _ _; refine walk1_no rfl rfl (by first | exact decide_eq_true (by omega) | exact decide_eq_false (by omega) | rfl | (show _ = true; with_reducible assumption) | (show _ = false; with_reducible assumption) | (simp <;> fail) | omega) rfl ?_) | (show Walk1 _ _ _ (⟨_, .move _, _, _, _, _⟩ :: _) _ _; refine walk1_t (op_move rfl rfl rfl rfl) ?_) | (show Walk1 _ _ _ (⟨_, .binOp .lss _ _ _ _, _, _, _, _⟩ :: _) _ _; refine walk1_t (op_ltN rfl rfl rfl (by first | exact evN_const rfl | exact rfl) (by first | exact evN_const rfl | exact rfl)) ?_) | (show Walk1 _ _ _ (⟨_, .pick _ _ _, _, _, _, _⟩ :: _) _ _; refine walk1_t (op_pickN rfl rfl rfl rfl (by first | exact decide_eq_true (by omega) | exact decide_eq_false (by omega) | rfl | (show _ = true; with_reducible assumption) | (show _ = false; with_reducible assumption) | (simp <;> fail) | omega) rfl) ?_)) | refine go1 ?_ | refine end_block_other rfl ?_ | refine end_scope (fun _ h => by cases h) ?_ | (refine walk_endD ?_ ?_; (· kernel_rfl)) | refine tri_yesA rfl ?_ | refine tri_noA rfl ?_ | refine tri_trueA rfl ?_ | refine tri_falseA rfl ?_)
        refine end_normal _ (res_none rfl) ?_
        exact fin_obj rfl rfl (fun _ => rfl) (fun _ => rfl)
end Go.Proofs.Ytmpnkknocfaciaa
