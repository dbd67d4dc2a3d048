/- bvh.Sound over a tree made of triangles: walked. No condition. The document's looks at a tree: Shaped, Deep, Box: walked. No condition. -/
import Derived.Test.YtcgmapioelfneaaMgBvq5
namespace Go.Proofs.Ytcgmapioelfneaa
open Go.RowKit
set_option maxRecDepth 100000
set_option maxHeartbeats 4000000
attribute [local irreducible] Calls Walk1 WalkTo Tri EndA
theorem soundB_any {l : List TriS} (hok : ∀ t ∈ l, t.ok) {N : List NodeS} {K : List Nat} {M : Nat → List Nat} {D : Nat → Nat} (hS : SoundF l N K M D) (hl : l.length ≤ 100000) (h0 : 0 < l.length) (v1 v2 vl : Value) (w : World) (hv1 : FS w 10 v1 N.length (nodesC N)) (hv2 : FS w 1 v2 K.length (ordC K)) (hvl : FS w 19 vl l.length (trisC l)) :
    Calls Try.prog 15 #[.agg #[v1, v2], vl] w fun e w' => e = .returned (.bool true) ∧ Below w.heap.size w w' := by
  have hNl := hS.nl
  have hN : N.length ≤ 1000000 := by omega
  have hN0 : 0 < N.length := by have := hS.nz; omega
  have hKl : K.length = l.length := by rw [hS.perm.length_eq, List.length_range]
  have cS := fun w h => shaped_any hS hN v1 v2 w h
  have cT := fun w h => treeB_any hS hN v1 v2 w h
  have hnode := hS.nodes
  have hbox := hS.box
  have hperm := hS.perm
  have hMi : ∀ (i : Nat) (n : NodeS), N[i]? = some n → (∀ k ∈ M i, k < l.length) ∧ (M i).length ≤ 100000 ∧ 1 ≤ (M i).length := fun i n h => by
    refine ⟨fun k hk => List.mem_range.1 ((hS.perm.mem_iff (a := k)).1 ((hS.sub i).subset hk)), ?_, ?_⟩
    · have := (hS.sub i).length_le
      omega
    · obtain ⟨⟨k, hk, _⟩, _⟩ := (hS.box i n h).2 0
      exact List.length_pos_of_mem hk
  have hat := fun (i : Nat) (n : NodeS) (h : N[i]? = some n) => nodeAt_of h
  obtain ⟨a0, c0, hsl⟩ : ∃ a c, v1 = .slice a N.length c := by obtain ⟨_, a, c, h, _⟩ := hv1.rd; exact ⟨a, c, h⟩
  have cB := fun w => backward_any a0 N.length c0 w
  have cI := fun bx => back_it N hN bx v1
  rw [← hsl] at cB
  have mI := ordC_made l.length
  have mB := boolsC_made l.length
  have mN := nils_made N.length
  rw [← onceL_zero K] at mB
  rw [← leafL_zero N] at mI
  have hne : (!(decide (N.length = 0) == decide (l.length = 0))) = false := by rw [decide_eq_false (by omega), decide_eq_false (by omega)]; rfl
  clear hsl
  obtain ⟨al, cl, rfl⟩ : ∃ a c, vl = .slice a l.length c := by obtain ⟨_, a, c, h, _⟩ := hvl; exact ⟨a, c, h⟩
  refine calls_triM Try.func15 rfl Try.ntmps15 rfl ?_
  repeat (first | (show Walk1 _ _ _ (_ :: _) _ _; first | (show Walk1 _ _ _ (⟨_, _, _, _, _, some _⟩ :: _) _ _; refine zy1 ?_) | (show HW1 (.move _); refine wz1 ?_) | (show HW1 (.binOp .eql _ _ _ _); refine wz30 ?_) | (show HW1 (.binOp .neq _ _ _ _); first | refine wz61 ?_ | refine wz69 ?_) | (show HW1 (.pick _ _ _); refine wz7 ?_) | (show HW1 (.unOp _ _ _); refine wz19 ?_) | (show HW1 (.load _ _); first | refine wz3 ?_ | refine wz9 ?_) | (show HW1 (.alloc _); refine wz6 ?_) | (show HW1 (.box _ _); refine wz11 ?_) | (show HW1 (.fieldAddr _ _ _); refine wz4 ?_) | (show HW1 (.makeSlice _ _ _); refine wz114 ?_) | (show HW1 (.call ⟨.builtin .len, _, _⟩); first | refine wz39 ?_ | refine wz27 ?_) | (show HW1 (.call ⟨.value (.func 23), _, _⟩); (refine cwalk1M 23 ?_; refine ⟨_, _, callM_1 (rdn_old hv1.rd (by omega) rfl) (fun e w h1 => cS w ⟨h1, hv1.2⟩), ?_⟩)) | (show HW1 (.call ⟨.value (.func 24), _, _⟩); (refine cwalk1M 24 ?_; refine ⟨_, _, callM_1 (rdn_old hv1.rd (by omega) rfl) (fun e w h1 => cT w ⟨h1, hv1.2⟩), ?_⟩))) | refine go1 ?_ | refine end_block_other rfl ?_ | refine end_scope (fun _ h => by cases h) ?_ | (refine walk_endD ?_ ?_; (· kernel_rfl)) | refine tri_yesA rfl ?_ | refine tri_noA rfl ?_ | refine tri_trueA rfl ?_ | refine tri_falseA rfl ?_ | refine triG_reg ?_ | refine triG_draw ?_ | refine triG_yesA rfl ?_ | refine triG_noA rfl ?_ | refine triG_trueA rfl ?_ | refine triG_falseA rfl ?_)
  refine walk1_b (op_storeO (A' := .l [.v 39]) rfl rfl rfl rfl rfl rfl rfl (one_own rfl) (hA := fun _ => rfl)) ?_
  repeat (first | (show Walk1 _ _ _ (_ :: _) _ _; first | (show HW1 (.move _); refine wz40 ?_) | (show HW1 (.assign _); refine wz2 ?_) | (show HW1 (.load _ _); refine wz3 ?_) | (show HW1 (.fieldAddr _ _ _); refine wz4 ?_) | (show HW1 (.makeSlice _ _ _); refine wz114 ?_) | (show HW1 (.call ⟨.builtin .len, _, _⟩); first | refine wz39 ?_ | refine wz27 ?_)) | refine go1 ?_ | refine end_block_other rfl ?_ | refine end_scope (fun _ h => by cases h) ?_ | (refine walk_endD ?_ ?_; (· kernel_rfl)) | refine tri_yesA rfl ?_ | refine tri_noA rfl ?_ | refine tri_trueA rfl ?_ | refine tri_falseA rfl ?_ | refine triG_reg ?_ | refine triG_draw ?_ | refine triG_yesA rfl ?_ | refine triG_noA rfl ?_ | refine triG_trueA rfl ?_ | refine triG_falseA rfl ?_)
  rw [mI, mB]
  have hon := fun j k (h : K[j]? = some k) => onceL_get hperm h
  clear mI mB cS cT hne
  obtain ⟨ON, hON⟩ : ∃ f : Nat → List Value, ∀ j, f j = boolsC (onceL K l.length j) := ⟨_, fun _ => rfl⟩
  rw [← hON]
  have hon : ∀ j k, K[j]? = some k → k < l.length ∧ (ON j)[k]? = some (.bool false) ∧ (ON j).set k (.bool true) = ON (j + 1) := fun j k h => by
    obtain ⟨g1, g2, g3⟩ := hon j k h
    rw [hON, hON, boolsC_set, g3]
    exact ⟨g1, boolsC_get g2, rfl⟩
  clear hON
  generalize hLF : ordC (leafL N l.length 0) = LF0
  refine tri_loop (X := Nat) (fun j => ⟨[(46, SV.c (.int .i64 ((j : Nat) : Int))), (45, SV.c (.int .i64 ((K.length : Nat) : Int))), (44, .c v2), (6, .v 42), (2, .p 2 0), (3, .p 3 0), (4, .p 4 0), (5, .p 5 0)], [(2, some (.blk 2 27 (.c #[v1, v2]))), (3, some (.blk 3 22 (.c #[.slice al l.length cl]))), (4, some (.blk 4 4 (.c #[.bool false]))), (5, some (.blk 5 25 (.l [.v 39]))), (39, some (.own 39 3 1 l.length LF0)), (42, some (.own 42 4 1 l.length (ON j)))]⟩)
    (fun j => j ≤ K.length) (fun j => K.length - j) 0 (by omega) (by exact ent_kp) ?_
  intro j hj Q next
  by_cases h : j < K.length
  · obtain ⟨k, hk⟩ : ∃ k, K[j]? = some k := ⟨_, List.getElem?_eq_getElem h⟩
    obtain ⟨k1, k2, k3⟩ := hon j k hk
    have hkj := ordC_get hk
    have nx := fun S' => next S' (j + 1)
    clear next hon cB cI hnode hbox hat
    generalize ON (j + 1) = O1 at *
    generalize ON j = O0 at *
    repeat (first | (show Walk1 _ _ _ (_ :: _) _ _; first | (show Walk1 _ _ _ (⟨_, _, _, _, _, some _⟩ :: _) _ _; refine zy1 ?_) | (show HW1 (.move _); refine wz1 ?_) | (show HW1 (.assign _); refine wz2 ?_) | (show HW1 (.binOp .lss _ _ _ _); refine wz5 ?_) | (show HW1 (.binOp .geq _ _ _ _); refine wz70 ?_) | (show HW1 (.pick _ _ _); refine wz7 ?_) | (show HW1 (.indexAddr _ _ _); first | refine walk1_t (op_idxV rfl rfl rfl rfl rfl evk rfl rfl (by first | omega | decide) off_one) ?_ | refine wz80 ?_) | (show HW1 (.load _ _); first | refine wz3 ?_ | refine walk1_t (op_loadV rfl rfl rfl rfl rfl rfl rfl (by assumption)) ?_ | refine wz44 ?_) | (show HW1 (.call ⟨.builtin .len, _, _⟩); refine wz39 ?_)) | refine go1 ?_ | refine end_block_other rfl ?_ | refine end_scope (fun _ h => by cases h) ?_ | (refine walk_endD ?_ ?_; (· kernel_rfl)) | refine tri_yesA rfl ?_ | refine tri_noA rfl ?_ | refine tri_trueA rfl ?_ | refine tri_falseA rfl ?_ | refine triG_reg ?_ | refine triG_draw ?_ | refine triG_yesA rfl ?_ | refine triG_noA rfl ?_ | refine triG_trueA rfl ?_ | refine triG_falseA rfl ?_)
    refine walk1_b (op_storeV rfl rfl rfl rfl rfl rfl rfl rfl rfl (by omega) k3) ?_
    repeat (first | (show Walk1 _ _ _ (_ :: _) _ _; first | (show HW1 (.move _); refine wz1 ?_) | (show HW1 (.binOp .add _ _ _ _); refine wz10 ?_)) | refine go1 ?_ | refine end_block_other rfl ?_ | refine end_scope (fun _ h => by cases h) ?_ | (refine walk_endD ?_ ?_; (· kernel_rfl)) | refine tri_yesA rfl ?_ | refine tri_noA rfl ?_ | refine tri_trueA rfl ?_ | refine tri_falseA rfl ?_ | refine triG_reg ?_ | refine triG_draw ?_ | refine triG_yesA rfl ?_ | refine triG_noA rfl ?_ | refine triG_trueA rfl ?_ | refine triG_falseA rfl ?_)
    exact nx _ (by omega) (by omega) (by exact ent_kp)
  obtain rfl : j = K.length := by omega
  clear next hon hperm
  repeat (first | (show Walk1 _ _ _ (_ :: _) _ _; first | (show HW1 (.binOp .lss _ _ _ _); refine wz5 ?_) | (show HW1 (.load _ _); refine wz3 ?_) | (show HW1 (.alloc _); refine wz6 ?_) | (show HW1 (.fieldAddr _ _ _); refine wz4 ?_) | (show HW1 (.makeSlice _ _ _); refine wz114 ?_) | (show HW1 (.call ⟨.builtin .len, _, _⟩); refine wz27 ?_)) | refine go1 ?_ | refine end_block_other rfl ?_ | refine end_scope (fun _ h => by cases h) ?_ | (refine walk_endD ?_ ?_; (· kernel_rfl)) | refine tri_yesA rfl ?_ | refine tri_noA rfl ?_ | refine tri_trueA rfl ?_ | refine tri_falseA rfl ?_ | refine triG_reg ?_ | refine triG_draw ?_ | refine triG_yesA rfl ?_ | refine triG_noA rfl ?_ | refine triG_trueA rfl ?_ | refine triG_falseA rfl ?_)
  refine walk1_b (op_storeO (A' := .l [.v 71]) rfl rfl rfl rfl rfl rfl rfl (one_own rfl) (hA := fun _ => rfl)) ?_
  repeat (first | (show Walk1 _ _ _ (_ :: _) _ _; first | (show HW1 (.load _ _); refine wz3 ?_) | (show HW1 (.fieldAddr _ _ _); refine wz4 ?_)) | refine go1 ?_ | refine end_block_other rfl ?_ | refine end_scope (fun _ h => by cases h) ?_ | (refine walk_endD ?_ ?_; (· kernel_rfl)) | refine tri_yesA rfl ?_ | refine tri_noA rfl ?_ | refine tri_trueA rfl ?_ | refine tri_falseA rfl ?_ | refine triG_reg ?_ | refine triG_draw ?_ | refine triG_yesA rfl ?_ | refine triG_noA rfl ?_ | refine triG_trueA rfl ?_ | refine triG_falseA rfl ?_)
  refine walk1_n (op_callFV (vs := [.c v1]) rfl rfl rfl rfl evq rfl (fun e w => cB w)) (by kernel_rfl) ?_
  repeat (first | refine go1 ?_ | refine end_block_other rfl ?_ | refine end_scope (fun _ h => by cases h) ?_ | (refine walk_endD ?_ ?_; (· kernel_rfl)) | refine tri_yesA rfl ?_ | refine tri_noA rfl ?_ | refine tri_trueA rfl ?_ | refine tri_falseA rfl ?_ | refine triG_reg ?_ | refine triG_draw ?_ | refine triG_yesA rfl ?_ | refine triG_noA rfl ?_ | refine triG_trueA rfl ?_ | refine triG_falseA rfl ?_)
  rw [mN]
  refine tri_pin [2, 3, 4, 5, 9, 74] fun e0 => ?_
  refine tri_ent (ents_el0 (k := 7779) rfl) ?_
  refine tri_keep (closedT [(2, .pointer (some ⟨(e0 2).b, 0, none⟩)), (3, .pointer (some ⟨(e0 3).b, 0, none⟩)), (4, .pointer (some ⟨(e0 4).b, 0, none⟩)), (5, .pointer (some ⟨(e0 5).b, 0, none⟩)), (9, .pointer (some ⟨(e0 9).b, 0, none⟩)), (74, .func (.func 39) #[] #[.pointer (some ⟨(e0 74).b, 0, none⟩)])])
    [(8002, some (.is 2 (e0 2).b)), (8003, some (.is 3 (e0 3).b)), (8004, some (.is 4 (e0 4).b)), (8005, some (.is 5 (e0 5).b)), (8009, some (.is 9 (e0 9).b)), (8074, some (.is 74 (e0 74).b)), (2, some (.blk 2 27 (.c #[v1, v2]))), (3, some (.blk 3 22 (.c #[.slice al l.length cl]))), (4, some (.blk 4 4 (.c #[.bool false]))), (5, some (.blk 5 25 (.l [.v 39]))), (9, some (.blk 9 62 (.l [.v 71]))), (74, some (.blk 74 24 (.c #[v1]))), (39, some (.own 39 3 1 l.length LF0)), (71, some (.own 71 25 1 N.length (List.replicate N.length (.slice none 0 0)))), (7779, some (.els w [] []))] (by repeat (first | exact hasT_nil | refine hasT_cons rfl ?_ | refine hasT_eq rfl (svi (by omega)) ?_)) (by repeat (first | exact hasR_nil | refine hasR_cons rfl ?_)) ?_
  generalize (e0 2).b = b2
  generalize (e0 3).b = b3
  generalize (e0 4).b = b4
  generalize (e0 5).b = b5
  generalize (e0 9).b = b9
  generalize (e0 74).b = b74
  subst hLF
  refine tri_rangeX (X := Nat × List Value × List Nat × List (Value × List Value)) 39 #[.pointer (some ⟨b74, 0, none⟩)] (fun k => .int .i64 ((N.length - 1 - k : Nat) : Int)) (fun k => .agg (nodeC (nodeAt N (N.length - 1 - k))).toArray) N.length
    (fun x => [(8002, some (.is 2 b2)), (8003, some (.is 3 b3)), (8004, some (.is 4 b4)), (8005, some (.is 5 b5)), (8009, some (.is 9 b9)), (8074, some (.is 74 b74)), (2, some (.blk 2 27 (.c #[v1, v2]))), (3, some (.blk 3 22 (.c #[.slice al l.length cl]))), (4, some (.blk 4 4 (.c #[.bool false]))), (5, some (.blk 5 25 (.l [.v 39]))), (9, some (.blk 9 62 (.l [.v 71]))), (74, some (.blk 74 24 (.c #[v1]))), (39, some (.own 39 3 1 l.length (ordC (leafL N l.length x.1)))), (71, some (.own 71 25 1 N.length x.2.1)), (7779, some (.els w x.2.2.1 x.2.2.2))])
    (fun k x => x.1 = k ∧ x.2.1.length = N.length ∧ ∀ j, N.length - k ≤ j → j < N.length → ∃ a c, x.2.1[j]? = some (.slice a (M j).length c) ∧ (Value.slice a (M j).length c, ordC (M j)) ∈ x.2.2.2) (0, List.replicate N.length (.slice none 0 0), [], []) _ ⟨rfl, by rw [List.length_replicate], fun j h1 h2 => by omega⟩ rfl (fun args w => tabAll_look calT_ok (show tabLook calT 39 = some 39 from rfl) args w) (cI b74) ?_ ⟨by decide, Nat.le_of_ble_eq_true rfl, Nat.le_of_ble_eq_true rfl⟩ ?_ ?_
  · intro k x e a w2 L D0 o oD _ hS2
    have h1 := fs_blkN (hS2.res 74 _ rfl) rfl
    have h2 : (e 74).b = b74 := hS2.res 8074 _ rfl
    rw [h2] at h1
    exact ⟨h1, hv1.anew (by omega) (hS2.frame.below rfl)⟩
  · rintro L D0 o ob oD k0 ⟨k, vs, B, E⟩ hkN ⟨rfl, hvsl, hel⟩ Kb QR hb he
    dsimp only at hkN hvsl hel he ⊢
    obtain ⟨nd, hnd⟩ : ∃ nd, N[N.length - 1 - k]? = some nd := ⟨_, List.getElem?_eq_getElem (by omega)⟩
    have hk := hnode _ nd hnd
    have hbx := hbox _ nd hnd
    obtain ⟨g1, g2, g3⟩ := hMi _ nd hnd
    have hleaf := fun f c h1 h2 h3 => leafL_leaf (N := N) (n := l.length) (k := k) (f := f) (c := c) h1 h2 h3
    have hfork := fun L h1 => leafL_fork (N := N) (n := l.length) (k := k) (L := L) h1
    rw [hat _ nd hnd] at hleaf hfork ⊢
    have hie : N.length - 1 - k < N.length := by omega
    have hik : N.length - k ≤ N.length - 1 - k + 1 := by omega
    have hll := leafL_len N l.length k
    have hle := leafL_le N l.length k
    generalize hq2 : leafL N l.length (k + 1) = P2 at *
    generalize leafL N l.length k = P0 at *
    obtain ⟨⟨lx, ly, lz⟩, ⟨hx, hy, hz⟩, le, ri, fi, co⟩ := nd
    have cX := fun vo w2 h (h' : RdV w2 1 vo (ordC (M (N.length - 1 - k))).length (ordC (M (N.length - 1 - k)))) => boxed_any l hok ⟨⟨lx, ly, lz⟩, ⟨hx, hy, hz⟩, le, ri, fi, co⟩ (M (N.length - 1 - k)) g1 g2 g3 hbx (.slice al l.length cl) vo w2 h (by rw [ordC_len] at h'; exact h')
    rw [nodeC_row] at cX ⊢
    clear hnd hnode hat cI cB hMi hbox
    refine triG_ent (ent_unp 2 2 0 rfl rfl) (triG_ent (ent_unp 3 3 0 rfl rfl) (triG_ent (ent_unp 4 4 0 rfl rfl) (triG_ent (ent_unp 5 5 0 rfl rfl) (triG_ent (ent_unp 9 9 0 rfl rfl) ?_))))
    
    repeat (first | (show Walk1 _ _ _ (_ :: _) _ _; first | (show HW1 (.assign _); refine wz2 ?_) | (show HW1 (.store _ _ _); refine wz14 ?_) | (show HW1 (.alloc _); refine wz6 ?_)) | refine go1 ?_ | refine end_block_other rfl ?_ | refine end_scope (fun _ h => by cases h) ?_ | (refine walk_endD ?_ ?_; (· kernel_rfl)) | refine tri_yesA rfl ?_ | refine tri_noA rfl ?_ | refine tri_trueA rfl ?_ | refine tri_falseA rfl ?_ | refine triG_reg ?_ | refine triG_draw ?_ | refine triG_yesA rfl ?_ | refine triG_noA rfl ?_ | refine triG_trueA rfl ?_ | refine triG_falseA rfl ?_)
    refine hb _ rfl ?_
    generalize hi : N.length - 1 - k = i at *
    rcases hk with ⟨f, c, ⟨e1, e2, e3, e4, e5, e6, _⟩, eM, _⟩ | ⟨L', R', ⟨e1, e2, e3, e4, c1, c2, c3, c4⟩, eM, _⟩
    · dsimp only at e1 e2 e3 e4 hleaf
      subst e1 e2 e3 e4
      have hP2 := hleaf f c rfl rfl rfl
      repeat (first | (show Walk1 _ _ _ (_ :: _) _ _; first | (show Walk1 _ _ _ (⟨_, _, _, _, _, some _⟩ :: _) _ _; refine zy1 ?_) | (show HW1 (.move _); refine wz1 ?_) | (show HW1 (.assign _); refine wz2 ?_) | (show HW1 (.binOp .sub _ _ _ _); refine wz35 ?_) | (show HW1 (.binOp .lss _ _ _ _); refine wz5 ?_) | (show HW1 (.binOp .gtr _ _ _ _); refine wz33 ?_) | (show HW1 (.binOp .geq _ _ _ _); refine wz71 ?_) | (show HW1 (.pick _ _ _); refine wz7 ?_) | (show HW1 (.load _ _); refine wz3 ?_) | (show HW1 (.fieldAddr _ _ _); refine wz4 ?_) | (show HW1 (.call ⟨.builtin .len, _, _⟩); refine wz39 ?_)) | refine go1 ?_ | refine end_block_other rfl ?_ | refine end_scope (fun _ h => by cases h) ?_ | (refine walk_endD ?_ ?_; (· kernel_rfl)) | refine tri_yesA rfl ?_ | refine tri_noA rfl ?_ | refine tri_trueA rfl ?_ | refine tri_falseA rfl ?_ | refine triG_reg ?_ | refine triG_draw ?_ | refine triG_yesA rfl ?_ | refine triG_noA rfl ?_ | refine triG_trueA rfl ?_ | refine triG_falseA rfl ?_)
      refine triG_loop (X := Nat) (fun j => ⟨[(12, SV.c (.int .i64 ((f + j : Nat) : Int))), (10, SV.c (.int .i64 ((i : Nat) : Int))), (11, .p 11 0), (2, .p 2 0), (3, .p 3 0), (5, .p 5 0), (9, .p 9 0)], [(7778, some (.lay L ob)), (7777, some (.lay D0 oD)), (11, some (.blk 11 43 (.c #[.int .i64 lx, .int .i64 ly, .int .i64 lz, .int .i64 hx, .int .i64 hy, .int .i64 hz, .int .i64 (-1), .int .i64 (-1), .int .i64 (f : Int), .int .i64 (c : Int)]))), (8002, some (.is 2 b2)), (8003, some (.is 3 b3)), (8004, some (.is 4 b4)), (8005, some (.is 5 b5)), (8009, some (.is 9 b9)), (8074, some (.is 74 b74)), (2, some (.blk 2 27 (.c #[v1, v2]))), (3, some (.blk 3 22 (.c #[.slice al l.length cl]))), (4, some (.blk 4 4 (.c #[.bool false]))), (5, some (.blk 5 25 (.l [.v 39]))), (9, some (.blk 9 62 (.l [.v 71]))), (74, some (.blk 74 24 (.c #[v1]))), (39, some (.own 39 3 1 l.length (ordC (addR P0 f j)))), (71, some (.own 71 25 1 N.length vs)), (7779, some (.els w B E))]⟩)
        (fun j => j ≤ c) (fun j => c - j) 0 (by omega) (by rw [addR_zero]; exact ent_keep (by repeat (first | exact hasT_nil | refine hasT_cons rfl ?_ | refine hasT_eq rfl (svi (by omega)) ?_)) (by repeat (first | exact hasR_nil | refine hasR_cons rfl ?_))) ?_
      · intro j hj Q2 next
        by_cases h : j < c
        · have g1 : (ordC (addR P0 f j))[f + j]? = some (.int .i64 ((P0.getD (f + j) 0 : Nat) : Int)) := ordC_get (by rw [addR_at P0 f j _ (by omega), if_neg (by omega)]; rfl)
          have g2 : (ordC (addR P0 f j)).set (f + j) (.int .i64 ((P0.getD (f + j) 0 + 1 : Nat) : Int)) = ordC (addR P0 f (j + 1)) := by
            rw [ordC_set, addR_next P0 f j (by omega)]
          have g3 := hle (f + j)
          have nx := fun S' => next S' (j + 1)
          clear next hel cX he hb
          generalize P0.getD (f + j) 0 = y at *
          generalize ordC (addR P0 f (j + 1)) = Y2 at *
          generalize ordC (addR P0 f j) = Y1 at *
          repeat (first | (show Walk1 _ _ _ (_ :: _) _ _; first | (show HW1 (.move _); refine wz1 ?_) | (show HW1 (.binOp .add _ _ _ _); refine wz10 ?_) | (show HW1 (.binOp .lss _ _ _ _); refine wz5 ?_) | (show HW1 (.indexAddr _ _ _); refine walk1_t (op_idxV rfl rfl rfl rfl rfl evk rfl rfl (by first | omega | decide) off_one) ?_) | (show HW1 (.load _ _); first | refine wz3 ?_ | refine walk1_t (op_loadV rfl rfl rfl rfl rfl rfl rfl (by assumption)) ?_) | (show HW1 (.fieldAddr _ _ _); refine wz4 ?_)) | refine go1 ?_ | refine end_block_other rfl ?_ | refine end_scope (fun _ h => by cases h) ?_ | (refine walk_endD ?_ ?_; (· kernel_rfl)) | refine tri_yesA rfl ?_ | refine tri_noA rfl ?_ | refine tri_trueA rfl ?_ | refine tri_falseA rfl ?_ | refine triG_reg ?_ | refine triG_draw ?_ | refine triG_yesA rfl ?_ | refine triG_noA rfl ?_ | refine triG_trueA rfl ?_ | refine triG_falseA rfl ?_)
          refine walk1_b (op_storeV rfl rfl rfl rfl rfl rfl rfl rfl rfl (by omega) g2) ?_
          repeat (first | (show Walk1 _ _ _ (_ :: _) _ _; first | (show HW1 (.move _); refine wz1 ?_) | (show HW1 (.assign _); refine wz2 ?_) | (show HW1 (.binOp .add _ _ _ _); refine wz10 ?_)) | refine go1 ?_ | refine end_block_other rfl ?_ | refine end_scope (fun _ h => by cases h) ?_ | (refine walk_endD ?_ ?_; (· kernel_rfl)) | refine tri_yesA rfl ?_ | refine tri_noA rfl ?_ | refine tri_trueA rfl ?_ | refine tri_falseA rfl ?_ | refine triG_reg ?_ | refine triG_draw ?_ | refine triG_yesA rfl ?_ | refine triG_noA rfl ?_ | refine triG_trueA rfl ?_ | refine triG_falseA rfl ?_)
          exact nx _ (by omega) (by omega) (by exact ent_kp)
        obtain rfl : j = c := by omega
        rw [← hP2]
        clear next
        obtain ⟨a2, c2, rfl⟩ : ∃ a c, v2 = .slice a K.length c := by obtain ⟨_, a, c, h, _⟩ := hv2; exact ⟨a, c, h⟩
        have hML : (M i).length = j := by rw [eM, List.length_take, List.length_drop]; omega
        have hcut : ∀ w', Below w.heap.size w w' → FS w' 1 (cutV (.slice a2 K.length c2) f (M i).length) (ordC (M i)).length (ordC (M i)) := fun w' hb => by
          have h1 := (hv2.anew (by omega) hb).cut (lo := f) (len := (M i).length) (by omega)
          rw [ordC_len]
          rw [hML] at h1 ⊢
          rw [eM, ordC_cut]
          exact h1
        rw [cutV_slice] at hcut
        refine triG_ent (ents_el (k := 7779) rfl hcut) ?_
        have hst : vs.set i (cutV (.slice a2 K.length c2) f (f + j - f)) = vs.set i (.slice (if c2 = f then a2 else a2.map (·.add f)) (M i).length (c2 - f)) := by rw [cutV_slice, show f + j - f = (M i).length by omega]
        generalize (if c2 = f then a2 else a2.map (·.add f)) = a3 at *
        generalize c2 - f = c3 at *
        have hge : (vs.set i (.slice a3 (M i).length c3))[i]? = some (.slice a3 (M i).length c3) := List.getElem?_set_self (by omega)
        have hel2 : ∀ q, N.length - (k + 1) ≤ q → q < N.length → ∃ a c, (vs.set i (.slice a3 (M i).length c3))[q]? = some (.slice a (M q).length c) ∧ (Value.slice a (M q).length c, ordC (M q)) ∈ (Value.slice a3 (M i).length c3, ordC (M i)) :: E := fun q q1 q2 => by
          by_cases hq : i = q
          · subst hq
            exact ⟨a3, c3, hge, List.mem_cons_self⟩
          · obtain ⟨a, c, r1, r2⟩ := hel q (by omega) q2
            exact ⟨a, c, by rw [List.getElem?_set_ne hq]; exact r1, List.mem_cons_of_mem _ r2⟩
        have hl2 : (vs.set i (.slice a3 (M i).length c3)).length = N.length := by rw [List.length_set, hvsl]
        have hmm : (Value.slice a3 (M i).length c3, ordC (M i)) ∈ (Value.slice a3 (M i).length c3, ordC (M i)) :: E := List.mem_cons_self
        clear hel hcut hvsl hleaf hfork hle
        generalize vs.set i (.slice a3 (M i).length c3) = vs2 at *
        generalize (Value.slice a3 (M i).length c3, ordC (M i)) :: E = E2 at *
        repeat (first | (show Walk1 _ _ _ (_ :: _) _ _; first | (show HW1 (.move _); refine wz1 ?_) | (show HW1 (.binOp .add _ _ _ _); refine wz10 ?_) | (show HW1 (.binOp .lss _ _ _ _); refine wz5 ?_) | (show HW1 (.load _ _); refine wz3 ?_) | (show HW1 (.fieldAddr _ _ _); refine wz4 ?_)) | (show WalkTo _ _ _ _ (_ :: _) _ _ _; first | (show HW2 (.move _); refine wz20 ?_) | (show HW2 (.binOp .add _ _ _ _); refine wz96 ?_) | (show HW2 (.indexAddr _ _ _); refine wz132 ?_) | (show HW2 (.load _ _); refine wz24 ?_) | (show HW2 (.fieldAddr _ _ _); refine wz49 ?_) | (show HW2 (.slice _ _ _ _ _); refine wz128 ?_)) | refine go1 ?_ | refine end_block_other rfl ?_ | refine end_scope (fun _ h => by cases h) ?_ | (refine walk_endD ?_ ?_; (· kernel_rfl)) | refine tri_yesA rfl ?_ | refine tri_noA rfl ?_ | refine tri_trueA rfl ?_ | refine tri_falseA rfl ?_ | refine triG_reg ?_ | refine triG_draw ?_ | refine triG_yesA rfl ?_ | refine triG_noA rfl ?_ | refine triG_trueA rfl ?_ | refine triG_falseA rfl ?_)
        refine walk_b (op_storeV rfl rfl rfl rfl rfl rfl rfl rfl rfl (by omega) hst) ?_
        repeat (first | (show WalkTo _ _ _ _ (_ :: _) _ _ _; first | (show HW2 (.move _); refine wz20 ?_) | (show HW2 (.unOp _ _ _); refine wz77 ?_) | (show HW2 (.indexAddr _ _ _); refine wz132 ?_) | (show HW2 (.load _ _); first | refine wz24 ?_ | refine wz110 ?_ | refine wz22 ?_) | (show HW2 (.call ⟨.value (.func 27), _, _⟩); (refine cwalkM 27 ?_; refine ⟨_, _, callM_2 (rdn_old hvl.rd (by omega) rfl) (rdn_els (k := 7779) rfl hmm rfl) (fun e w h1 h2 => cX _ w h1 h2), ?_⟩))) | refine go1 ?_ | refine end_block_other rfl ?_ | refine end_scope (fun _ h => by cases h) ?_ | (refine walk_endD ?_ ?_; (· kernel_rfl)) | refine tri_yesA rfl ?_ | refine tri_noA rfl ?_ | refine tri_trueA rfl ?_ | refine tri_falseA rfl ?_ | refine triG_reg ?_ | refine triG_draw ?_ | refine triG_yesA rfl ?_ | refine triG_noA rfl ?_ | refine triG_trueA rfl ?_ | refine triG_falseA rfl ?_)
        refine he _ (k + 1, vs2, B, E2) ⟨rfl, hl2, hel2⟩ ?_
        dsimp only
        rw [hq2]
        exact ent_keep hasT_nil (by repeat (first | exact hasR_nil | refine hasR_cons rfl ?_))
    · dsimp only at e1 e2 e3 e4 hfork
      subst e1 e2 e3 e4
      obtain ⟨aL, cL, vL, mL⟩ := hel L' (by omega) c3
      obtain ⟨aR, cR, vR, mR⟩ := hel R' (by omega) c4
      have hP2 := hfork L' rfl
      subst hP2
      have cC := fun dv w h => concat2_any dv (M L') (M R') w h (by rw [← eM]; exact g2)
      rw [← eM] at cC
      repeat (first | (show Walk1 _ _ _ (_ :: _) _ _; first | (show HW1 (.binOp .geq _ _ _ _); refine wz70 ?_) | (show HW1 (.load _ _); refine wz3 ?_) | (show HW1 (.fieldAddr _ _ _); refine wz4 ?_)) | (show WalkTo _ _ _ _ (_ :: _) _ _ _; first | (show HW2 (.move _); refine wz20 ?_) | (show HW2 (.indexAddr _ _ _); refine wz132 ?_) | (show HW2 (.load _ _); first | refine wz24 ?_ | refine wz110 ?_) | (show HW2 (.fieldAddr _ _ _); refine wz49 ?_) | (show HW2 (.buildSlice _ _ _); refine walk_n (op_bsliceL rfl (by repeat (first | exact evl1_nil | apply evl1_cons rfl)) rfl rfl rfl rfl rfl rfl rfl rfl (by decide) (by repeat (first | exact ones_nil | apply ones_own rfl | apply ones_sub rfl | apply ones_one (fun _ => rfl))) (by kernel_rfl)) (by kernel_rfl) ?_) | (show HW2 (.call ⟨.value (.func 26), _, _⟩); (refine walk_callO rfl rfl rfl rfl (by kernel_rfl) evq rfl ?_; refine ⟨[92, 7779], _, _, _, _, (fun S2 e a w hS hq => cC _ w (slc2_of (q := 92) (k := 7779) rfl rfl mL mR rfl hS hq)), ?_⟩))) | refine go1 ?_ | refine end_block_other rfl ?_ | refine end_scope (fun _ h => by cases h) ?_ | (refine walk_endD ?_ ?_; (· kernel_rfl)) | refine tri_yesA rfl ?_ | refine tri_noA rfl ?_ | refine tri_trueA rfl ?_ | refine tri_falseA rfl ?_ | refine triG_reg ?_ | refine triG_draw ?_ | refine triG_yesA rfl ?_ | refine triG_noA rfl ?_ | refine triG_trueA rfl ?_ | refine triG_falseA rfl ?_)
      refine walk_b (op_storeVV (q := 93) rfl rfl rfl rfl rfl rfl rfl rfl (by omega)) ?_
      iterate 2 (try (first | refine go1 ?_ | refine end_block_other rfl ?_ | refine end_scope (fun _ h => by cases h) ?_ | (refine walk_endD ?_ ?_; (· kernel_rfl)) | refine tri_yesA rfl ?_ | refine tri_noA rfl ?_ | refine tri_trueA rfl ?_ | refine tri_falseA rfl ?_ | refine triG_reg ?_ | refine triG_draw ?_ | refine triG_yesA rfl ?_ | refine triG_noA rfl ?_ | refine triG_trueA rfl ?_ | refine triG_falseA rfl ?_))
      refine triG_keepEl (k := 7779) (n := 71) (q := 93) rfl rfl rfl (by decide) (by decide) (by decide) fun a3 c3 B2 => ?_
      have hge : (vs.set i (.slice a3 (M i).length c3))[i]? = some (.slice a3 (M i).length c3) := List.getElem?_set_self (by omega)
      have hel2 : ∀ q, N.length - (k + 1) ≤ q → q < N.length → ∃ a c, (vs.set i (.slice a3 (M i).length c3))[q]? = some (.slice a (M q).length c) ∧ (Value.slice a (M q).length c, ordC (M q)) ∈ (Value.slice a3 (M i).length c3, ordC (M i)) :: E := fun q q1 q2 => by
        by_cases hq : i = q
        · subst hq
          exact ⟨a3, c3, hge, List.mem_cons_self⟩
        · obtain ⟨a, c, r1, r2⟩ := hel q (by omega) q2
          exact ⟨a, c, by rw [List.getElem?_set_ne hq]; exact r1, List.mem_cons_of_mem _ r2⟩
      have hl2 : (vs.set i (.slice a3 (M i).length c3)).length = N.length := by rw [List.length_set, hvsl]
      have hmm : (Value.slice a3 (M i).length c3, ordC (M i)) ∈ (Value.slice a3 (M i).length c3, ordC (M i)) :: E := List.mem_cons_self
      clear hel hvsl hleaf hle mL mR vL vR
      generalize vs.set i (.slice a3 (M i).length c3) = vs2 at *
      generalize (Value.slice a3 (M i).length c3, ordC (M i)) :: E = E2 at *
      repeat (first | (show WalkTo _ _ _ _ (_ :: _) _ _ _; first | (show WalkTo _ _ _ _ (⟨_, _, _, _, _, some _⟩ :: _) _ _ _; refine zy2 ?_) | (show HW2 (.move _); refine wz20 ?_) | (show HW2 (.binOp .neq _ _ _ _); refine walk_t (op_neN rfl rfl rfl evn evn) ?_) | (show HW2 (.pick _ _ _); refine wz91 ?_) | (show HW2 (.unOp _ _ _); refine wz77 ?_) | (show HW2 (.indexAddr _ _ _); refine wz132 ?_) | (show HW2 (.load _ _); first | refine wz24 ?_ | refine wz110 ?_ | refine wz22 ?_) | (show HW2 (.fieldAddr _ _ _); refine wz49 ?_) | (show HW2 (.call ⟨.value (.func 27), _, _⟩); (refine cwalkM 27 ?_; refine ⟨_, _, callM_2 (rdn_old hvl.rd (by omega) rfl) (rdn_els (k := 7779) rfl hmm rfl) (fun e w h1 h2 => cX _ w h1 h2), ?_⟩))) | refine go1 ?_ | refine end_block_other rfl ?_ | refine end_scope (fun _ h => by cases h) ?_ | (refine walk_endD ?_ ?_; (· kernel_rfl)) | refine tri_yesA rfl ?_ | refine tri_noA rfl ?_ | refine tri_trueA rfl ?_ | refine tri_falseA rfl ?_ | refine triG_reg ?_ | refine triG_draw ?_ | refine triG_yesA rfl ?_ | refine triG_noA rfl ?_ | refine triG_trueA rfl ?_ | refine triG_falseA rfl ?_)
      refine he _ (k + 1, vs2, B2, E2) ⟨rfl, hl2, hel2⟩ ?_
      dsimp only
      rw [hq2]
      exact ent_keep hasT_nil (by repeat (first | exact hasR_nil | refine hasR_cons rfl ?_))
  · rintro L D0 o ⟨k, vs, B, E⟩ ⟨hkN, _⟩
    dsimp only at hkN ⊢
    subst hkN
    have hones : leafL N l.length N.length = List.replicate l.length 1 := by
      unfold leafL
      apply List.ext_getElem
      · simp
      · intro q q1 q2
        simp only [List.length_map, List.length_range] at q1
        simp only [List.getElem_map, List.getElem_range, List.getElem_replicate]
        rw [csum_all, hS.cov q, if_pos q1]
    rw [hones]
    have cF := fun v w h => containsOnes_any v l.length w h hl
    refine end_rest ?_
    refine triG_ent (ent_unp 4 4 0 rfl rfl) (triG_ent (ent_unp 5 5 0 rfl rfl) ?_)
    clear hnode hbox hat cI cB hS hones hMi
    
    repeat (first | (show Walk1 _ _ _ (_ :: _) _ _; first | (show HW1 (.unOp _ _ _); refine wz19 ?_) | (show HW1 (.load _ _); refine wz3 ?_) | (show HW1 (.store _ _ _); refine wz50 ?_) | (show HW1 (.call ⟨.value (.func 28), _, _⟩); (refine cwalk1M 28 ?_; refine ⟨_, _, callM_1 (rdn_own rfl) (fun e w h1 => cF _ w h1), ?_⟩))) | refine go1 ?_ | refine end_block_other rfl ?_ | refine end_scope (fun _ h => by cases h) ?_ | (refine walk_endD ?_ ?_; (· kernel_rfl)) | refine tri_yesA rfl ?_ | refine tri_noA rfl ?_ | refine tri_trueA rfl ?_ | refine tri_falseA rfl ?_ | refine triG_reg ?_ | refine triG_draw ?_ | refine triG_yesA rfl ?_ | refine triG_noA rfl ?_ | refine triG_trueA rfl ?_ | refine triG_falseA rfl ?_)
    refine end_retD (.c (.bool true)) rfl (res_cell1 rfl rfl rfl rfl rfl (fun _ => rfl)) ?_
    exact fin_below fun _ => rfl
end Go.Proofs.Ytcgmapioelfneaa
namespace Go.Proofs.Ytcgmapioelfneaa
open Go.RowKit
set_option maxRecDepth 100000
set_option maxHeartbeats 2000000
attribute [local irreducible] Calls Walk1 WalkTo Tri EndA
end Go.Proofs.Ytcgmapioelfneaa
