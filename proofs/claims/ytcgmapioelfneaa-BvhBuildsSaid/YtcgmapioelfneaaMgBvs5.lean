/- The document's Sound over a tree made of triangles: walked. No condition. What a walk's Any reckons: plain. No condition. -/
import Derived.Test.YtcgmapioelfneaaMgBvs3
import Derived.Test.YtcgmapioelfneaaMgWkC
namespace Go.Proofs.Ytcgmapioelfneaa
open Go.RowKit
set_option maxRecDepth 100000
set_option maxHeartbeats 16000000
attribute [local irreducible] Calls Walk1 WalkTo Tri EndA
theorem soundR_any {l : List TriS} (hok : ∀ t ∈ l, t.ok) {N : List NodeS} {K : List Nat} {M : Nat → List Nat} {D : Nat → Nat} (hS : SoundF l N K M D) (hl : l.length ≤ 30000) (h0 : 0 < l.length) (v1 v2 vl : Value) (w : World) (hv1 : FS w 10 v1 N.length (nodesC N)) (hv2 : FS w 1 v2 K.length (ordC K)) (hvl : FS w 19 vl l.length (trisC l)) :
    Calls Try.prog 10 #[.agg #[v1, v2], vl] w fun e w' => e = .returned (.bool true) ∧ Below w.heap.size w w' := by
  have hNl := hS.nl
  have hN : N.length ≤ 1000000 := by omega
  have hN0 : 0 < N.length := by have := hS.nz; omega
  have hKl : K.length = l.length := by rw [hS.perm.length_eq, List.length_range]
  have cS := fun w h => shapedR_any hS hN v1 v2 w h
  have hnode := hS.nodes
  have hlen := nodes_len N
  have hrows := fun (i : Nat) (n : NodeS) (h : N[i]? = some n) => node_row h
  have hcell : ∀ (i s : Nat) (n : NodeS), N[i]? = some n → s < 10 → (nodesC N)[0 + i * 10 + s]? = (nodeC n)[s]? := fun i s n h hs => by
    rw [Nat.zero_add]
    exact flat_get (sz := 10) (f := nodeC) N (fun _ _ => nodeC_length _) i s n h hs
  have hat := fun (i : Nat) (n : NodeS) (h : N[i]? = some n) => nodeAt_of h
  have mI := ordC_made l.length
  have hon := fun j k (h : K[j]? = some k) => onceI_get hS.perm h
  have honz := onceI_zero K l.length
  have hlfz := leafU_zero N l.length
  have hona := onceI_all hS.perm
  have hlfa := leafU_all hS
  have hup := fun i (h : i < N.length) h' => up_one hS h h'
  obtain ⟨al, cl, rfl⟩ : ∃ a c, vl = .slice a l.length c := by obtain ⟨_, a, c, h, _⟩ := hvl; exact ⟨a, c, h⟩
  generalize hNC : nodesC N = NC at *
  refine calls_tri Try.func10 rfl Try.ntmps10 rfl ?_
  repeat (first | (show Walk1 _ _ _ (_ :: _) _ _; first | (show Walk1 _ _ _ (⟨_, _, _, _, _, some _⟩ :: _) _ _; first | refine zy1 ?_ | refine zn1 ?_) | (show HW1 (.move _); refine wz1 ?_) | (show HW1 (.assign _); first | refine wz13 ?_ | refine wz2 ?_) | (show HW1 (.binOp .gtr _ _ _ _); refine wz33 ?_) | (show HW1 (.binOp .eql _ _ _ _); refine wz30 ?_) | (show HW1 (.binOp .neq _ _ _ _); refine wz61 ?_) | (show HW1 (.pick _ _ _); first | refine wz8 ?_ | refine wz7 ?_) | (show HW1 (.unOp _ _ _); refine wz19 ?_) | (show HW1 (.load _ _); first | refine wz3 ?_ | refine wz9 ?_) | (show HW1 (.box _ _); refine wz11 ?_) | (show HW1 (.fieldAddr _ _ _); refine wz4 ?_) | (show HW1 (.makeSlice _ _ _); refine wz114 ?_) | (show HW1 (.call ⟨.builtin .len, _, _⟩); first | refine wz39 ?_ | refine wz27 ?_) | (show HW1 (.call ⟨.value (.func 20), _, _⟩); (refine cwalk1M 20 ?_; refine ⟨_, _, callM_1 (rdn_old hv1.rd (by omega) rfl) (fun e w h1 => cS w ⟨h1, hv1.2⟩), ?_⟩))) | refine go1 ?_ | refine end_block_other rfl ?_ | refine end_scope (fun _ h => by cases h) ?_ | (refine walk_endD ?_ ?_; (· kernel_rfl)) | refine tri_yesA rfl ?_ | refine tri_noA rfl ?_ | refine tri_trueA rfl ?_ | refine tri_falseA rfl ?_)
  rw [mI]
  obtain ⟨ON, hON⟩ : ∃ f : Nat → List Nat, ∀ j, f j = onceI K l.length j := ⟨_, fun _ => rfl⟩
  have hon : ∀ j k, K[j]? = some k → k < l.length ∧ (ordC (ON j))[k]? = some (.int .i64 ((0 : Nat) : Int)) ∧ (ordC (ON j)).set k (.int .i64 ((0 + 1 : Nat) : Int)) = ordC (ON (j + 1)) := fun j k h => by
    obtain ⟨g1, g2, g3⟩ := hon j k h
    rw [hON, hON, ordC_set, g3]
    exact ⟨g1, ordC_get g2, rfl⟩
  rw [← hON] at honz hona
  clear hON cS mI
  refine tri_loop (X := Nat) (fun j => ⟨[(7, SV.c (.int .i64 ((j : Nat) : Int))), (1, .c (.slice al l.length cl)), (2, .p 2 0), (5, .v 56), (6, .v 59)], [(2, some (.blk 2 27 (.c #[v1, v2]))), (56, some (.own 56 3 1 l.length (ordC (leafU N l.length 0)))), (59, some (.own 59 3 1 l.length (ordC (ON j))))]⟩)
    (fun j => j ≤ K.length) (fun j => K.length - j) 0 (by omega) (by rw [hlfz, honz]; exact ent_keep (by repeat (first | exact hasT_nil | refine hasT_cons rfl ?_ | refine hasT_eq rfl (svi (by omega)) ?_)) (by repeat (first | exact hasR_nil | refine hasR_cons rfl ?_))) ?_
  intro j hj Q next
  by_cases h : j < K.length
  · obtain ⟨k, hk⟩ : ∃ k, K[j]? = some k := ⟨_, List.getElem?_eq_getElem h⟩
    obtain ⟨k1, k2, k3⟩ := hon j k hk
    have hkj := ordC_get hk
    have nx := fun S' => next S' (j + 1)
    clear next hon hnode hat hrows
    generalize ordC (ON (j + 1)) = O1 at *
    generalize ordC (ON j) = O0 at *
    repeat (first | (show Walk1 _ _ _ (_ :: _) _ _; first | (show Walk1 _ _ _ (⟨_, _, _, _, _, some _⟩ :: _) _ _; refine zy1 ?_) | (show HW1 (.move _); refine wz1 ?_) | (show HW1 (.binOp .add _ _ _ _); refine wz10 ?_) | (show HW1 (.binOp .lss _ _ _ _); refine wz5 ?_) | (show HW1 (.binOp .geq _ _ _ _); refine wz70 ?_) | (show HW1 (.pick _ _ _); refine wz7 ?_) | (show HW1 (.indexAddr _ _ _); first | refine walk1_t (op_idxV rfl rfl rfl rfl rfl evk rfl rfl (by first | omega | decide) off_one) ?_ | refine wz80 ?_) | (show HW1 (.load _ _); first | refine wz3 ?_ | refine walk1_t (op_loadV rfl rfl rfl rfl rfl rfl rfl (by assumption)) ?_ | refine wz44 ?_) | (show HW1 (.fieldAddr _ _ _); refine wz4 ?_) | (show HW1 (.call ⟨.builtin .len, _, _⟩); first | refine wz39 ?_ | refine wz27 ?_)) | refine go1 ?_ | refine end_block_other rfl ?_ | refine end_scope (fun _ h => by cases h) ?_ | (refine walk_endD ?_ ?_; (· kernel_rfl)) | refine tri_yesA rfl ?_ | refine tri_noA rfl ?_ | refine tri_trueA rfl ?_ | refine tri_falseA rfl ?_)
    refine walk1_b (op_storeV rfl rfl rfl rfl rfl rfl rfl rfl rfl (by omega) k3) ?_
    repeat (first | (show Walk1 _ _ _ (_ :: _) _ _; first | (show HW1 (.move _); refine wz1 ?_) | (show HW1 (.assign _); refine wz2 ?_) | (show HW1 (.binOp .add _ _ _ _); refine wz10 ?_)) | refine go1 ?_ | refine end_block_other rfl ?_ | refine end_scope (fun _ h => by cases h) ?_ | (refine walk_endD ?_ ?_; (· kernel_rfl)) | refine tri_yesA rfl ?_ | refine tri_noA rfl ?_ | refine tri_trueA rfl ?_ | refine tri_falseA rfl ?_)
    exact nx _ (by omega) (by omega) (by exact ent_kp)
  obtain rfl : j = K.length := by omega
  rw [hona]
  clear next hon
  repeat (first | (show Walk1 _ _ _ (_ :: _) _ _; first | (show HW1 (.move _); refine wz1 ?_) | (show HW1 (.assign _); refine wz13 ?_) | (show HW1 (.binOp .lss _ _ _ _); refine wz5 ?_) | (show HW1 (.load _ _); refine wz3 ?_) | (show HW1 (.fieldAddr _ _ _); refine wz4 ?_) | (show HW1 (.call ⟨.builtin .len, _, _⟩); refine wz27 ?_)) | refine go1 ?_ | refine end_block_other rfl ?_ | refine end_scope (fun _ h => by cases h) ?_ | (refine walk_endD ?_ ?_; (· kernel_rfl)) | refine tri_yesA rfl ?_ | refine tri_noA rfl ?_ | refine tri_trueA rfl ?_ | refine tri_falseA rfl ?_)
  generalize hOL : ordC (List.replicate l.length 1) = OL at *
  refine tri_loop (X := Nat) (fun i => ⟨[(8, SV.c (.int .i64 ((i : Nat) : Int))), (1, .c (.slice al l.length cl)), (2, .p 2 0), (5, .v 56), (6, .v 59)], [(2, some (.blk 2 27 (.c #[v1, v2]))), (56, some (.own 56 3 1 l.length (ordC (leafU N l.length i)))), (59, some (.own 59 3 1 l.length OL))]⟩)
    (fun i => i ≤ N.length) (fun i => N.length - i) 0 (by omega) (by exact ent_kp) ?_
  intro i hi Q next
  by_cases h : i < N.length
  · obtain ⟨nd, hnd⟩ : ∃ nd, N[i]? = some nd := ⟨_, List.getElem?_eq_getElem h⟩
    have hrow := hrows i nd hnd
    have hrl : 0 + i * 10 + 10 ≤ NC.length := by omega
    have nx := fun S' => next S' (i + 1)
    have hk := hnode i nd hnd
    have hleaf := fun f c h1 h2 h3 => leafU_leaf (N := N) (n := l.length) (k := i) (f := f) (c := c) h1 h2 h3
    have hfork := fun L h1 => leafU_fork (N := N) (n := l.length) (k := i) (L := L) h1
    rw [hat i nd hnd] at hleaf hfork
    have hll := leafU_len N l.length i
    have hle := leafU_le N l.length i
    have hupi := hup i h
    have hule := up_le N i
    clear next hup hon
    generalize leafU N l.length (i + 1) = P2 at *
    generalize leafU N l.length i = P0 at *
    obtain ⟨⟨lx, ly, lz⟩, ⟨hx, hy, hz⟩, le, ri, fi, co⟩ := nd
    rw [nodeC_row] at hrow
    rcases hk with ⟨f, c, ⟨e1, e2, e3, e4, e5, e6, _⟩, _⟩ | ⟨L, R, ⟨e1, e2, e3, e4, c1, c2, c3, c4⟩, _⟩
    · dsimp only at e1 e2 e3 e4 hleaf
      subst e1 e2 e3 e4
      have hP2 := hleaf f c rfl rfl rfl
      repeat (first | (show Walk1 _ _ _ (_ :: _) _ _; first | (show Walk1 _ _ _ (⟨_, _, _, _, _, some _⟩ :: _) _ _; refine zy1 ?_) | (show HW1 (.move _); refine wz1 ?_) | (show HW1 (.assign _); refine wz2 ?_) | (show HW1 (.binOp .sub _ _ _ _); refine wz35 ?_) | (show HW1 (.binOp .lss _ _ _ _); refine wz5 ?_) | (show HW1 (.binOp .gtr _ _ _ _); refine wz33 ?_) | (show HW1 (.binOp .eql _ _ _ _); refine wz18 ?_) | (show HW1 (.pick _ _ _); refine wz7 ?_) | (show HW1 (.indexAddr _ _ _); refine wz26 ?_) | (show HW1 (.load _ _); first | refine wz3 ?_ | refine wz51 ?_) | (show HW1 (.store _ _ _); refine wz14 ?_) | (show HW1 (.alloc _); refine wz6 ?_) | (show HW1 (.fieldAddr _ _ _); refine wz4 ?_) | (show HW1 (.call ⟨.builtin .len, _, _⟩); first | refine wz39 ?_ | refine wz27 ?_)) | refine go1 ?_ | refine end_block_other rfl ?_ | refine end_scope (fun _ h => by cases h) ?_ | (refine walk_endD ?_ ?_; (· kernel_rfl)) | refine tri_yesA rfl ?_ | refine tri_noA rfl ?_ | refine tri_trueA rfl ?_ | refine tri_falseA rfl ?_)
      refine tri_loop (X := Nat) (fun j => ⟨[(10, SV.c (.int .i64 ((f + j : Nat) : Int))), (8, SV.c (.int .i64 ((i : Nat) : Int))), (1, .c (.slice al l.length cl)), (2, .p 2 0), (9, .p 9 0), (5, .v 56), (6, .v 59)], [(2, some (.blk 2 27 (.c #[v1, v2]))), (9, some (.blk 9 43 (.c #[.int .i64 lx, .int .i64 ly, .int .i64 lz, .int .i64 hx, .int .i64 hy, .int .i64 hz, .int .i64 (-1), .int .i64 (-1), .int .i64 (f : Int), .int .i64 (c : Int)]))), (56, some (.own 56 3 1 l.length (ordC (addR P0 f j)))), (59, some (.own 59 3 1 l.length OL))]⟩)
        (fun j => j ≤ c) (fun j => c - j) 0 (by omega) (by rw [addR_zero]; exact ent_keep (by repeat (first | exact hasT_nil | refine hasT_cons rfl ?_ | refine hasT_eq rfl (svi (by omega)) ?_)) (by repeat (first | exact hasR_nil | refine hasR_cons rfl ?_))) ?_
      intro j hj Q2 next
      by_cases h : j < c
      · have g1 : (ordC (addR P0 f j))[f + j]? = some (.int .i64 ((P0.getD (f + j) 0 : Nat) : Int)) := ordC_get (by rw [addR_at P0 f j _ (by omega), if_neg (by omega)]; rfl)
        have g2 : (ordC (addR P0 f j)).set (f + j) (.int .i64 ((P0.getD (f + j) 0 + 1 : Nat) : Int)) = ordC (addR P0 f (j + 1)) := by
          rw [ordC_set, addR_next P0 f j (by omega)]
        have g3 := hle (f + j)
        have nx4 := fun S' => next S' (j + 1)
        clear next nx hcell hnode hrows hat
        generalize P0.getD (f + j) 0 = y at *
        generalize ordC (addR P0 f (j + 1)) = Y2 at *
        generalize ordC (addR P0 f j) = Y1 at *
        repeat (first | (show Walk1 _ _ _ (_ :: _) _ _; first | (show HW1 (.move _); refine wz1 ?_) | (show HW1 (.binOp .add _ _ _ _); refine wz10 ?_) | (show HW1 (.binOp .lss _ _ _ _); refine wz5 ?_) | (show HW1 (.indexAddr _ _ _); refine walk1_t (op_idxV rfl rfl rfl rfl rfl evk rfl rfl (by first | omega | decide) off_one) ?_) | (show HW1 (.load _ _); first | refine wz3 ?_ | refine walk1_t (op_loadV rfl rfl rfl rfl rfl rfl rfl (by assumption)) ?_) | (show HW1 (.fieldAddr _ _ _); refine wz4 ?_)) | refine go1 ?_ | refine end_block_other rfl ?_ | refine end_scope (fun _ h => by cases h) ?_ | (refine walk_endD ?_ ?_; (· kernel_rfl)) | refine tri_yesA rfl ?_ | refine tri_noA rfl ?_ | refine tri_trueA rfl ?_ | refine tri_falseA rfl ?_)
        refine walk1_b (op_storeV rfl rfl rfl rfl rfl rfl rfl rfl rfl (by omega) g2) ?_
        repeat (first | (show Walk1 _ _ _ (_ :: _) _ _; first | (show HW1 (.move _); refine wz1 ?_) | (show HW1 (.assign _); refine wz2 ?_) | (show HW1 (.binOp .add _ _ _ _); refine wz10 ?_)) | refine go1 ?_ | refine end_block_other rfl ?_ | refine end_scope (fun _ h => by cases h) ?_ | (refine walk_endD ?_ ?_; (· kernel_rfl)) | refine tri_yesA rfl ?_ | refine tri_noA rfl ?_ | refine tri_trueA rfl ?_ | refine tri_falseA rfl ?_)
        exact nx4 _ (by omega) (by omega) (by exact ent_kp)
      obtain rfl : j = c := by omega
      rw [← hP2]
      clear next
      repeat (first | (show Walk1 _ _ _ (_ :: _) _ _; first | (show HW1 (.move _); refine wz1 ?_) | (show HW1 (.assign _); refine wz13 ?_) | (show HW1 (.binOp .add _ _ _ _); refine wz10 ?_) | (show HW1 (.binOp .lss _ _ _ _); refine wz5 ?_) | (show HW1 (.load _ _); refine wz3 ?_) | (show HW1 (.fieldAddr _ _ _); refine wz4 ?_)) | refine go1 ?_ | refine end_block_other rfl ?_ | refine end_scope (fun _ h => by cases h) ?_ | (refine walk_endD ?_ ?_; (· kernel_rfl)) | refine tri_yesA rfl ?_ | refine tri_noA rfl ?_ | refine tri_trueA rfl ?_ | refine tri_falseA rfl ?_)
      refine tri_loop (X := Nat) (fun k => ⟨[(12, SV.c (.int .i64 ((k : Nat) : Int))), (11, SV.c (.int .i64 ((sumF (parF N i) (List.range k) : Nat) : Int))), (8, SV.c (.int .i64 ((i : Nat) : Int))), (1, .c (.slice al l.length cl)), (2, .p 2 0), (5, .v 56), (6, .v 59)], [(2, some (.blk 2 27 (.c #[v1, v2]))), (56, some (.own 56 3 1 l.length (ordC P2))), (59, some (.own 59 3 1 l.length OL))]⟩)
        (fun k => k ≤ i) (fun k => i - k) 0 (by omega) (by exact ent_kp) ?_
      intro k hk Q3 next
      by_cases hki : k < i
      · obtain ⟨nk, hnk⟩ : ∃ nd, N[k]? = some nd := ⟨_, List.getElem?_eq_getElem (by omega)⟩
        have q6 := hcell k 6 nk hnk (by omega)
        have q7 := hcell k 7 nk hnk (by omega)
        have hpar : parF N i k = (if nk.left = (i : Int) then 1 else 0) + (if nk.right = (i : Int) then 1 else 0) := by unfold parF; rw [hat k nk hnk]
        have hsm := sumF_range (parF N i) k
        have hu1 := hule k
        have hrl2 : 0 + k * 10 + 10 ≤ NC.length := by omega
        have nx3 := fun S' => next S' (k + 1)
        clear next nx hule hnode hrows hat hcell
        generalize sumF (parF N i) (List.range (k + 1)) = U2 at *
        generalize sumF (parF N i) (List.range k) = U1 at *
        generalize parF N i k = pf at *
        obtain ⟨⟨x1, x2, x3⟩, ⟨x4, x5, x6⟩, le2, ri2, fi2, co2⟩ := nk
        have q6 : NC[0 + k * 10 + 6]? = some (.int .i64 le2) := q6
        have q7 : NC[0 + k * 10 + 7]? = some (.int .i64 ri2) := q7
        dsimp only at hpar
        by_cases a1 : le2 = (i : Int) <;> by_cases a2 : ri2 = (i : Int)
        · rw [if_pos a1, if_pos a2] at hpar
          repeat (first | (show Walk1 _ _ _ (_ :: _) _ _; first | (show HW1 (.move _); refine wz1 ?_) | (show HW1 (.assign _); refine wz2 ?_) | (show HW1 (.binOp .add _ _ _ _); refine wz10 ?_) | (show HW1 (.binOp .lss _ _ _ _); refine wz5 ?_) | (show HW1 (.binOp .eql _ _ _ _); refine wz18 ?_) | (show HW1 (.indexAddr _ _ _); refine wz26 ?_) | (show HW1 (.load _ _); first | refine wz3 ?_ | refine wz44 ?_) | (show HW1 (.fieldAddr _ _ _); first | refine wz4 ?_ | refine wz38 ?_)) | refine go1 ?_ | refine end_block_other rfl ?_ | refine end_scope (fun _ h => by cases h) ?_ | (refine walk_endD ?_ ?_; (· kernel_rfl)) | refine tri_yesA rfl ?_ | refine tri_noA rfl ?_ | refine tri_trueA rfl ?_ | refine tri_falseA rfl ?_)
          exact nx3 _ (by omega) (by omega) (by exact ent_kp)
        · rw [if_pos a1, if_neg a2] at hpar
          repeat (first | (show Walk1 _ _ _ (_ :: _) _ _; first | (show HW1 (.move _); refine wz1 ?_) | (show HW1 (.assign _); refine wz2 ?_) | (show HW1 (.binOp .add _ _ _ _); refine wz10 ?_) | (show HW1 (.binOp .lss _ _ _ _); refine wz5 ?_) | (show HW1 (.binOp .eql _ _ _ _); refine wz18 ?_) | (show HW1 (.indexAddr _ _ _); refine wz26 ?_) | (show HW1 (.load _ _); first | refine wz3 ?_ | refine wz44 ?_) | (show HW1 (.fieldAddr _ _ _); first | refine wz4 ?_ | refine wz38 ?_)) | refine go1 ?_ | refine end_block_other rfl ?_ | refine end_scope (fun _ h => by cases h) ?_ | (refine walk_endD ?_ ?_; (· kernel_rfl)) | refine tri_yesA rfl ?_ | refine tri_noA rfl ?_ | refine tri_trueA rfl ?_ | refine tri_falseA rfl ?_)
          exact nx3 _ (by omega) (by omega) (by exact ent_kp)
        · rw [if_neg a1, if_pos a2] at hpar
          repeat (first | (show Walk1 _ _ _ (_ :: _) _ _; first | (show HW1 (.move _); refine wz1 ?_) | (show HW1 (.assign _); refine wz2 ?_) | (show HW1 (.binOp .add _ _ _ _); refine wz10 ?_) | (show HW1 (.binOp .lss _ _ _ _); refine wz5 ?_) | (show HW1 (.binOp .eql _ _ _ _); refine wz18 ?_) | (show HW1 (.indexAddr _ _ _); refine wz26 ?_) | (show HW1 (.load _ _); first | refine wz3 ?_ | refine wz44 ?_) | (show HW1 (.fieldAddr _ _ _); first | refine wz4 ?_ | refine wz38 ?_)) | refine go1 ?_ | refine end_block_other rfl ?_ | refine end_scope (fun _ h => by cases h) ?_ | (refine walk_endD ?_ ?_; (· kernel_rfl)) | refine tri_yesA rfl ?_ | refine tri_noA rfl ?_ | refine tri_trueA rfl ?_ | refine tri_falseA rfl ?_)
          exact nx3 _ (by omega) (by omega) (by exact ent_kp)
        · rw [if_neg a1, if_neg a2] at hpar
          repeat (first | (show Walk1 _ _ _ (_ :: _) _ _; first | (show HW1 (.move _); refine wz1 ?_) | (show HW1 (.assign _); refine wz2 ?_) | (show HW1 (.binOp .add _ _ _ _); refine wz10 ?_) | (show HW1 (.binOp .lss _ _ _ _); refine wz5 ?_) | (show HW1 (.binOp .eql _ _ _ _); refine wz18 ?_) | (show HW1 (.indexAddr _ _ _); refine wz26 ?_) | (show HW1 (.load _ _); first | refine wz3 ?_ | refine wz44 ?_) | (show HW1 (.fieldAddr _ _ _); first | refine wz4 ?_ | refine wz38 ?_)) | refine go1 ?_ | refine end_block_other rfl ?_ | refine end_scope (fun _ h => by cases h) ?_ | (refine walk_endD ?_ ?_; (· kernel_rfl)) | refine tri_yesA rfl ?_ | refine tri_noA rfl ?_ | refine tri_trueA rfl ?_ | refine tri_falseA rfl ?_)
          exact nx3 _ (by omega) (by omega) (by exact ent_kp)
      obtain rfl : k = i := by omega
      clear next hnode hrows hat hcell
      by_cases hi0 : 0 < k
      · rw [hupi hi0]
        repeat (first | (show Walk1 _ _ _ (_ :: _) _ _; first | (show Walk1 _ _ _ (⟨_, _, _, _, _, some _⟩ :: _) _ _; refine zy1 ?_) | (show HW1 (.move _); refine wz1 ?_) | (show HW1 (.assign _); refine wz2 ?_) | (show HW1 (.binOp .add _ _ _ _); refine wz10 ?_) | (show HW1 (.binOp .lss _ _ _ _); refine wz5 ?_) | (show HW1 (.binOp .gtr _ _ _ _); refine wz33 ?_) | (show HW1 (.binOp .neq _ _ _ _); refine wz61 ?_) | (show HW1 (.pick _ _ _); refine wz8 ?_)) | refine go1 ?_ | refine end_block_other rfl ?_ | refine end_scope (fun _ h => by cases h) ?_ | (refine walk_endD ?_ ?_; (· kernel_rfl)) | refine tri_yesA rfl ?_ | refine tri_noA rfl ?_ | refine tri_trueA rfl ?_ | refine tri_falseA rfl ?_)
        exact nx _ (by omega) (by omega) (by exact ent_kp)
      · repeat (first | (show Walk1 _ _ _ (_ :: _) _ _; first | (show Walk1 _ _ _ (⟨_, _, _, _, _, some _⟩ :: _) _ _; refine zn1 ?_) | (show HW1 (.move _); refine wz1 ?_) | (show HW1 (.assign _); refine wz2 ?_) | (show HW1 (.binOp .add _ _ _ _); refine wz10 ?_) | (show HW1 (.binOp .lss _ _ _ _); refine wz5 ?_) | (show HW1 (.binOp .gtr _ _ _ _); refine wz33 ?_) | (show HW1 (.pick _ _ _); refine wz7 ?_)) | refine go1 ?_ | refine end_block_other rfl ?_ | refine end_scope (fun _ h => by cases h) ?_ | (refine walk_endD ?_ ?_; (· kernel_rfl)) | refine tri_yesA rfl ?_ | refine tri_noA rfl ?_ | refine tri_trueA rfl ?_ | refine tri_falseA rfl ?_)
        exact nx _ (by omega) (by omega) (by exact ent_kp)
    · dsimp only at e1 e2 e3 e4 hfork
      subst e1 e2 e3 e4
      obtain rfl : P2 = P0 := hfork L rfl
      repeat (first | (show Walk1 _ _ _ (_ :: _) _ _; first | (show Walk1 _ _ _ (⟨_, _, _, _, _, some _⟩ :: _) _ _; refine zy1 ?_) | (show HW1 (.move _); refine wz1 ?_) | (show HW1 (.assign _); refine wz13 ?_) | (show HW1 (.binOp .lss _ _ _ _); refine wz5 ?_) | (show HW1 (.binOp .eql _ _ _ _); refine wz18 ?_) | (show HW1 (.binOp .neq _ _ _ _); refine wz61 ?_) | (show HW1 (.pick _ _ _); refine wz7 ?_) | (show HW1 (.indexAddr _ _ _); refine wz26 ?_) | (show HW1 (.load _ _); first | refine wz3 ?_ | refine wz51 ?_) | (show HW1 (.store _ _ _); refine wz14 ?_) | (show HW1 (.alloc _); refine wz6 ?_) | (show HW1 (.fieldAddr _ _ _); refine wz4 ?_) | (show HW1 (.call ⟨.builtin .len, _, _⟩); refine wz27 ?_)) | refine go1 ?_ | refine end_block_other rfl ?_ | refine end_scope (fun _ h => by cases h) ?_ | (refine walk_endD ?_ ?_; (· kernel_rfl)) | refine tri_yesA rfl ?_ | refine tri_noA rfl ?_ | refine tri_trueA rfl ?_ | refine tri_falseA rfl ?_)
      refine tri_loop (X := Nat) (fun k => ⟨[(12, SV.c (.int .i64 ((k : Nat) : Int))), (11, SV.c (.int .i64 ((sumF (parF N i) (List.range k) : Nat) : Int))), (8, SV.c (.int .i64 ((i : Nat) : Int))), (1, .c (.slice al l.length cl)), (2, .p 2 0), (5, .v 56), (6, .v 59)], [(2, some (.blk 2 27 (.c #[v1, v2]))), (56, some (.own 56 3 1 l.length (ordC P2))), (59, some (.own 59 3 1 l.length OL))]⟩)
        (fun k => k ≤ i) (fun k => i - k) 0 (by omega) (by exact ent_kp) ?_
      intro k hk Q3 next
      by_cases hki : k < i
      · obtain ⟨nk, hnk⟩ : ∃ nd, N[k]? = some nd := ⟨_, List.getElem?_eq_getElem (by omega)⟩
        have q6 := hcell k 6 nk hnk (by omega)
        have q7 := hcell k 7 nk hnk (by omega)
        have hpar : parF N i k = (if nk.left = (i : Int) then 1 else 0) + (if nk.right = (i : Int) then 1 else 0) := by unfold parF; rw [hat k nk hnk]
        have hsm := sumF_range (parF N i) k
        have hu1 := hule k
        have hrl2 : 0 + k * 10 + 10 ≤ NC.length := by omega
        have nx3 := fun S' => next S' (k + 1)
        clear next nx hule hnode hrows hat hcell
        generalize sumF (parF N i) (List.range (k + 1)) = U2 at *
        generalize sumF (parF N i) (List.range k) = U1 at *
        generalize parF N i k = pf at *
        obtain ⟨⟨x1, x2, x3⟩, ⟨x4, x5, x6⟩, le2, ri2, fi2, co2⟩ := nk
        have q6 : NC[0 + k * 10 + 6]? = some (.int .i64 le2) := q6
        have q7 : NC[0 + k * 10 + 7]? = some (.int .i64 ri2) := q7
        dsimp only at hpar
        by_cases a1 : le2 = (i : Int) <;> by_cases a2 : ri2 = (i : Int)
        · rw [if_pos a1, if_pos a2] at hpar
          repeat (first | (show Walk1 _ _ _ (_ :: _) _ _; first | (show HW1 (.move _); refine wz1 ?_) | (show HW1 (.assign _); refine wz2 ?_) | (show HW1 (.binOp .add _ _ _ _); refine wz10 ?_) | (show HW1 (.binOp .lss _ _ _ _); refine wz5 ?_) | (show HW1 (.binOp .eql _ _ _ _); refine wz18 ?_) | (show HW1 (.indexAddr _ _ _); refine wz26 ?_) | (show HW1 (.load _ _); first | refine wz3 ?_ | refine wz44 ?_) | (show HW1 (.fieldAddr _ _ _); first | refine wz4 ?_ | refine wz38 ?_)) | refine go1 ?_ | refine end_block_other rfl ?_ | refine end_scope (fun _ h => by cases h) ?_ | (refine walk_endD ?_ ?_; (· kernel_rfl)) | refine tri_yesA rfl ?_ | refine tri_noA rfl ?_ | refine tri_trueA rfl ?_ | refine tri_falseA rfl ?_)
          exact nx3 _ (by omega) (by omega) (by exact ent_kp)
        · rw [if_pos a1, if_neg a2] at hpar
          repeat (first | (show Walk1 _ _ _ (_ :: _) _ _; first | (show HW1 (.move _); refine wz1 ?_) | (show HW1 (.assign _); refine wz2 ?_) | (show HW1 (.binOp .add _ _ _ _); refine wz10 ?_) | (show HW1 (.binOp .lss _ _ _ _); refine wz5 ?_) | (show HW1 (.binOp .eql _ _ _ _); refine wz18 ?_) | (show HW1 (.indexAddr _ _ _); refine wz26 ?_) | (show HW1 (.load _ _); first | refine wz3 ?_ | refine wz44 ?_) | (show HW1 (.fieldAddr _ _ _); first | refine wz4 ?_ | refine wz38 ?_)) | refine go1 ?_ | refine end_block_other rfl ?_ | refine end_scope (fun _ h => by cases h) ?_ | (refine walk_endD ?_ ?_; (· kernel_rfl)) | refine tri_yesA rfl ?_ | refine tri_noA rfl ?_ | refine tri_trueA rfl ?_ | refine tri_falseA rfl ?_)
          exact nx3 _ (by omega) (by omega) (by exact ent_kp)
        · rw [if_neg a1, if_pos a2] at hpar
          repeat (first | (show Walk1 _ _ _ (_ :: _) _ _; first | (show HW1 (.move _); refine wz1 ?_) | (show HW1 (.assign _); refine wz2 ?_) | (show HW1 (.binOp .add _ _ _ _); refine wz10 ?_) | (show HW1 (.binOp .lss _ _ _ _); refine wz5 ?_) | (show HW1 (.binOp .eql _ _ _ _); refine wz18 ?_) | (show HW1 (.indexAddr _ _ _); refine wz26 ?_) | (show HW1 (.load _ _); first | refine wz3 ?_ | refine wz44 ?_) | (show HW1 (.fieldAddr _ _ _); first | refine wz4 ?_ | refine wz38 ?_)) | refine go1 ?_ | refine end_block_other rfl ?_ | refine end_scope (fun _ h => by cases h) ?_ | (refine walk_endD ?_ ?_; (· kernel_rfl)) | refine tri_yesA rfl ?_ | refine tri_noA rfl ?_ | refine tri_trueA rfl ?_ | refine tri_falseA rfl ?_)
          exact nx3 _ (by omega) (by omega) (by exact ent_kp)
        · rw [if_neg a1, if_neg a2] at hpar
          repeat (first | (show Walk1 _ _ _ (_ :: _) _ _; first | (show HW1 (.move _); refine wz1 ?_) | (show HW1 (.assign _); refine wz2 ?_) | (show HW1 (.binOp .add _ _ _ _); refine wz10 ?_) | (show HW1 (.binOp .lss _ _ _ _); refine wz5 ?_) | (show HW1 (.binOp .eql _ _ _ _); refine wz18 ?_) | (show HW1 (.indexAddr _ _ _); refine wz26 ?_) | (show HW1 (.load _ _); first | refine wz3 ?_ | refine wz44 ?_) | (show HW1 (.fieldAddr _ _ _); first | refine wz4 ?_ | refine wz38 ?_)) | refine go1 ?_ | refine end_block_other rfl ?_ | refine end_scope (fun _ h => by cases h) ?_ | (refine walk_endD ?_ ?_; (· kernel_rfl)) | refine tri_yesA rfl ?_ | refine tri_noA rfl ?_ | refine tri_trueA rfl ?_ | refine tri_falseA rfl ?_)
          exact nx3 _ (by omega) (by omega) (by exact ent_kp)
      obtain rfl : k = i := by omega
      clear next hnode hrows hat hcell
      by_cases hi0 : 0 < k
      · rw [hupi hi0]
        repeat (first | (show Walk1 _ _ _ (_ :: _) _ _; first | (show Walk1 _ _ _ (⟨_, _, _, _, _, some _⟩ :: _) _ _; refine zy1 ?_) | (show HW1 (.move _); refine wz1 ?_) | (show HW1 (.assign _); refine wz2 ?_) | (show HW1 (.binOp .add _ _ _ _); refine wz10 ?_) | (show HW1 (.binOp .lss _ _ _ _); refine wz5 ?_) | (show HW1 (.binOp .gtr _ _ _ _); refine wz33 ?_) | (show HW1 (.binOp .neq _ _ _ _); refine wz61 ?_) | (show HW1 (.pick _ _ _); refine wz8 ?_)) | refine go1 ?_ | refine end_block_other rfl ?_ | refine end_scope (fun _ h => by cases h) ?_ | (refine walk_endD ?_ ?_; (· kernel_rfl)) | refine tri_yesA rfl ?_ | refine tri_noA rfl ?_ | refine tri_trueA rfl ?_ | refine tri_falseA rfl ?_)
        exact nx _ (by omega) (by omega) (by exact ent_kp)
      · repeat (first | (show Walk1 _ _ _ (_ :: _) _ _; first | (show Walk1 _ _ _ (⟨_, _, _, _, _, some _⟩ :: _) _ _; refine zn1 ?_) | (show HW1 (.move _); refine wz1 ?_) | (show HW1 (.assign _); refine wz2 ?_) | (show HW1 (.binOp .add _ _ _ _); refine wz10 ?_) | (show HW1 (.binOp .lss _ _ _ _); refine wz5 ?_) | (show HW1 (.binOp .gtr _ _ _ _); refine wz33 ?_) | (show HW1 (.pick _ _ _); refine wz7 ?_)) | refine go1 ?_ | refine end_block_other rfl ?_ | refine end_scope (fun _ h => by cases h) ?_ | (refine walk_endD ?_ ?_; (· kernel_rfl)) | refine tri_yesA rfl ?_ | refine tri_noA rfl ?_ | refine tri_trueA rfl ?_ | refine tri_falseA rfl ?_)
        exact nx _ (by omega) (by omega) (by exact ent_kp)
  obtain rfl : i = N.length := by omega
  rw [hlfa, hOL]
  clear next
  repeat (first | (show Walk1 _ _ _ (_ :: _) _ _; first | (show HW1 (.move _); refine wz1 ?_) | (show HW1 (.assign _); refine wz13 ?_) | (show HW1 (.binOp .lss _ _ _ _); refine wz5 ?_) | (show HW1 (.load _ _); refine wz3 ?_) | (show HW1 (.fieldAddr _ _ _); refine wz4 ?_) | (show HW1 (.call ⟨.builtin .len, _, _⟩); refine wz27 ?_)) | refine go1 ?_ | refine end_block_other rfl ?_ | refine end_scope (fun _ h => by cases h) ?_ | (refine walk_endD ?_ ?_; (· kernel_rfl)) | refine tri_yesA rfl ?_ | refine tri_noA rfl ?_ | refine tri_trueA rfl ?_ | refine tri_falseA rfl ?_)
  have hO1 : ∀ j, j < l.length → OL[j]? = some (.int .i64 1) := fun j hj => by
    rw [← hOL]
    exact ordC_get (n := 1) (by rw [List.getElem?_replicate, if_pos hj])
  refine tri_loop (X := Nat) (fun j => ⟨[(13, SV.c (.int .i64 ((j : Nat) : Int))), (1, .c (.slice al l.length cl)), (2, .p 2 0), (5, .v 56), (6, .v 59)], [(2, some (.blk 2 27 (.c #[v1, v2]))), (56, some (.own 56 3 1 l.length OL)), (59, some (.own 59 3 1 l.length OL))]⟩)
    (fun j => j ≤ l.length) (fun j => l.length - j) 0 (by omega) (by exact ent_kp) ?_
  intro j hj Q next
  by_cases h : j < l.length
  · have g1 := hO1 j h
    have nx := fun S' => next S' (j + 1)
    clear next hnode hrows hat hcell hup hO1
    repeat (first | (show Walk1 _ _ _ (_ :: _) _ _; first | (show Walk1 _ _ _ (⟨_, _, _, _, _, some _⟩ :: _) _ _; refine zy1 ?_) | (show HW1 (.move _); refine wz1 ?_) | (show HW1 (.assign _); refine wz2 ?_) | (show HW1 (.binOp .add _ _ _ _); refine wz10 ?_) | (show HW1 (.binOp .lss _ _ _ _); refine wz5 ?_) | (show HW1 (.binOp .neq _ _ _ _); refine wz61 ?_) | (show HW1 (.pick _ _ _); refine wz7 ?_) | (show HW1 (.indexAddr _ _ _); refine walk1_t (op_idxV rfl rfl rfl rfl rfl evk rfl rfl (by first | omega | decide) off_one) ?_) | (show HW1 (.load _ _); refine walk1_t (op_loadV rfl rfl rfl rfl rfl rfl rfl (by assumption)) ?_) | (show HW1 (.call ⟨.builtin .len, _, _⟩); refine wz39 ?_)) | refine go1 ?_ | refine end_block_other rfl ?_ | refine end_scope (fun _ h => by cases h) ?_ | (refine walk_endD ?_ ?_; (· kernel_rfl)) | refine tri_yesA rfl ?_ | refine tri_noA rfl ?_ | refine tri_trueA rfl ?_ | refine tri_falseA rfl ?_)
    exact nx _ (by omega) (by omega) (by exact ent_kp)
  obtain rfl : j = l.length := by omega
  clear next
  repeat (first | (show Walk1 _ _ _ (_ :: _) _ _; first | (show HW1 (.move _); refine wz1 ?_) | (show HW1 (.assign _); refine wz13 ?_) | (show HW1 (.binOp .lss _ _ _ _); refine wz5 ?_) | (show HW1 (.call ⟨.builtin .len, _, _⟩); refine wz39 ?_)) | refine go1 ?_ | refine end_block_other rfl ?_ | refine end_scope (fun _ h => by cases h) ?_ | (refine walk_endD ?_ ?_; (· kernel_rfl)) | refine tri_yesA rfl ?_ | refine tri_noA rfl ?_ | refine tri_trueA rfl ?_ | refine tri_falseA rfl ?_)
  refine tri_close rfl fun e w1 hb hr => ?_
  have r2 : FS w1 2 (blkV (e 2).b) 1 [v1, v2] := fs_blkN (hr 2 _ rfl) rfl
  refine tri_keep [(14, SV.c (.int .i64 ((0 : Nat) : Int))), (2, .c (ptrV (blkV (e 2).b) 0)), (1, .c (.slice al l.length cl))] [] (by repeat (first | exact hasT_nil | refine hasT_cons rfl ?_ | refine hasT_eq rfl (svi (by omega)) ?_)) (by exact hasR_nil) ?_
  clear hr
  generalize (e 2).b = b2 at *
  obtain ⟨A1, hA1⟩ : ∃ A, A = [v1, v2] := ⟨_, rfl⟩
  rw [← hA1] at r2
  have p0 : A1[0]? = some v1 := by rw [hA1]; rfl
  have p2 : (A1.drop 0).take 2 = [v1, v2] := by rw [hA1]; rfl
  have p4 : A1.length = 2 := by rw [hA1]; rfl
  have p5 : A1[1]? = some v2 := by rw [hA1]; rfl
  clear hA1 hcell hO1
  replace hv1 := hv1.anew (by omega) hb
  replace hv2 := hv2.anew (by omega) hb
  replace hvl := hvl.anew (by omega) hb
  have hbx := hS.box
  have hMi : ∀ (i : Nat) (n : NodeS), N[i]? = some n → (∀ k ∈ M i, k < l.length) ∧ (M i).length ≤ 30000 ∧ 1 ≤ (M i).length := fun i n h => by
    refine ⟨fun k hk => List.mem_range.1 ((hS.perm.mem_iff (a := k)).1 ((hS.sub i).subset hk)), ?_, ?_⟩
    · have := (hS.sub i).length_le
      omega
    · obtain ⟨⟨k, hk, _⟩, _⟩ := (hS.box i n h).2 0
      exact List.length_pos_of_mem hk
  have hU := fun (w2 : World) (a1 : FS w2 10 v1 N.length NC) (a2 : FS w2 1 v2 K.length (ordC K)) (i : Nat) (h : i < N.length) => under_of hS hN (by omega) v1 v2 w2 (by rw [hNC]; exact a1) a2 N.length i (by omega) h
  have hP9 := fun (k : Nat) (t : TriS) (ht : l[k]? = some t) => tris_P l hok k t ht
  have htl := tris_len l hok
  have hbp := fun (i : Nat) (n : NodeS) (h : N[i]? = some n) => (box_places l (M i) (hMi i n h).2.2).uniq (hbx i n h)
  have hcB := fun (i : Nat) (h : (M i).length ≤ 30000) (v : Value) (w : World) (hh : RdV w 3 v ((M i).length * 3) (ptsC (plcL l (M i)))) => boxR_any v (plcL l (M i)) w (by rw [plcL_len]; exact hh) (by rw [plcL_len]; omega)
  clear hS hnode hat hup hona hlfa honz hlfz hon hbx
  generalize trisC l = TC at *
  refine tri_loopC (X := Nat × World) (fun x => ⟨263, x.2, []⟩) (fun x => ⟨[(14, SV.c (.int .i64 ((x.1 : Nat) : Int))), (2, .c (ptrV (blkV b2) 0)), (1, .c (.slice al l.length cl))], []⟩) (fun x => x.1 ≤ N.length ∧ Below w1.heap.size w1 x.2) (fun x => N.length - x.1) ?_ ?_
  · intro e a w2 hS2
    exact ⟨(0, w2), e, ⟨Nat.zero_le _, hS2.frame.below rfl⟩, hS2.rebase (by repeat (first | exact hasT_nil | refine hasT_cons rfl ?_ | refine hasT_eq rfl (svi (by omega)) ?_))⟩
  rintro ⟨i, w2⟩ ⟨hi, hb2⟩ Q next
  dsimp only at hi hb2 next ⊢
  replace hv1 := hv1.anew (by omega) hb2
  replace hv2 := hv2.anew (by omega) hb2
  replace hvl := hvl.anew (by omega) hb2
  replace r2 := r2.anew (by omega) hb2
  by_cases h : i < N.length
  · obtain ⟨nd, hnd⟩ : ∃ nd, N[i]? = some nd := ⟨_, List.getElem?_eq_getElem h⟩
    have hrow := hrows i nd hnd
    have hrl : 0 + i * 10 + 10 ≤ NC.length := by omega
    obtain ⟨m1, m2, m3⟩ := hMi i nd hnd
    have hbpi := hbp i nd hnd
    have hcBi := hcB i m2
    rw [hbpi] at hcBi
    have uC := hU w2 hv1 hv2 i h
    unfold UnderC at uC
    clear hU hbp hcB hMi hrows
    rcases uC with ⟨u, fu, cu⟩ | cu
    · repeat (first | (show Walk1 _ _ _ (_ :: _) _ _; first | (show HW1 (.move _); refine wz1 ?_) | (show HW1 (.assign _); first | refine wz13 ?_ | refine wz2 ?_) | (show HW1 (.binOp .lss _ _ _ _); refine wz5 ?_) | (show HW1 (.load _ _); first | refine wz44 ?_ | refine wz51 ?_) | (show HW1 (.fieldAddr _ _ _); refine walk1_t (op_fldF rfl rfl rfl rfl rva (by omega) rfl rfl off_zero) ?_) | (show HW1 (.call ⟨.builtin .len, _, _⟩); refine wz27 ?_) | (show HW1 (.call ⟨.value (.func 21), _, _⟩); (refine cwalk1M 21 ?_; refine ⟨[], _, (fun S2 e a w hS hq => cu w (hS.frame.below rfl)), ?_⟩))) | refine go1 ?_ | refine end_block_other rfl ?_ | refine end_scope (fun _ h => by cases h) ?_ | (refine walk_endD ?_ ?_; (· kernel_rfl)) | refine tri_yesA rfl ?_ | refine tri_noA rfl ?_ | refine tri_trueA rfl ?_ | refine tri_falseA rfl ?_)
      refine tri_close rfl fun e w3 hb3 hr => ?_
      have fu := fu w3 hb3
      refine tri_keep [(14, SV.c (.int .i64 ((i : Nat) : Int))), (15, .c u), (16, .c (.slice none 0 0)), (17, SV.c (.int .i64 ((0 : Nat) : Int))), (2, .c (ptrV (blkV b2) 0)), (1, .c (.slice al l.length cl))] [] (by repeat (first | exact hasT_nil | refine hasT_cons rfl ?_ | refine hasT_eq rfl (svi (by omega)) ?_)) (by exact hasR_nil) ?_
      clear hr cu
      replace hv1 := hv1.anew (by omega) hb3
      replace hv2 := hv2.anew (by omega) hb3
      replace hvl := hvl.anew (by omega) hb3
      replace r2 := r2.anew (by omega) hb3
      have hpl := plcL_snoc l (M i)
      obtain ⟨PC, hPC⟩ : ∃ f : Nat → List Value, ∀ j, f j = ptsC (plcL l ((M i).take j)) := ⟨_, fun _ => rfl⟩
      have hPCs : ∀ j k, (M i)[j]? = some k → PC (j + 1) = PC j ++ ptsC (cornersT (l.getD k zT)) := fun j k h => by
        rw [hPC, hPC, hpl j k h]
        exact List.flatMap_append
      have hPC0 : PC 0 = [] := hPC 0
      have hPCe : ptsC (plcL l (M i)) = PC (M i).length := by rw [hPC, List.take_of_length_le (Nat.le_refl _)]
      rw [hPCe] at hcBi
      clear hPC hpl hPCe
      refine tri_ent (ent_nil (i := 16) (n := 16) 32 3 rfl (by kernel_rfl)) ?_
      refine tri_loop (X := Nat) (fun j => ⟨[(17, SV.c (.int .i64 ((j : Nat) : Int))), (14, SV.c (.int .i64 ((i : Nat) : Int))), (15, .c u), (2, .c (ptrV (blkV b2) 0)), (1, .c (.slice al l.length cl)), (16, .v 16)], [(16, some (.own 16 32 3 (j * 3) (PC j)))]⟩)
        (fun j => j ≤ (M i).length) (fun j => (M i).length - j) 0 (by omega) (by rw [hPC0]; exact ent_keep (by repeat (first | exact hasT_nil | refine hasT_cons rfl ?_ | refine hasT_eq rfl (svi (by omega)) ?_)) (by repeat (first | exact hasR_nil | refine hasR_cons rfl ?_))) ?_
      intro j hj Q4 next4
      by_cases hjl : j < (M i).length
      · obtain ⟨k, hk⟩ : ∃ k, (M i)[j]? = some k := ⟨_, List.getElem?_eq_getElem hjl⟩
        have hkl := m1 k (List.mem_of_getElem? hk)
        obtain ⟨t, ht⟩ : ∃ t, l[k]? = some t := ⟨_, List.getElem?_eq_getElem hkl⟩
        have hkg := ordC_get hk
        have hs := hPCs j k hk
        rw [show l.getD k zT = t by rw [List.getD_eq_getElem?_getD, ht]; rfl] at hs
        have h9 := hP9 k t ht
        have nx4 := fun S' => next4 S' (j + 1)
        rw [hs] at nx4
        clear next4 next hP9 hcBi hs hPCs
        obtain ⟨⟨x1, y1, z1⟩, ⟨x2, y2, z2⟩, ⟨x3, y3, z3⟩, rest, mask⟩ := t
        have h9 : (TC.drop (0 + k * 19 + 0)).take 9 = [.int .i64 x1, .int .i64 y1, .int .i64 z1, .int .i64 x2, .int .i64 y2, .int .i64 z2, .int .i64 x3, .int .i64 y3, .int .i64 z3] := by rw [Nat.add_zero, Nat.zero_add]; exact h9
        have htk : 0 + k * 19 + 19 ≤ TC.length := by omega
        have hs9 : ptsC (cornersT ⟨⟨x1, y1, z1⟩, ⟨x2, y2, z2⟩, ⟨x3, y3, z3⟩, rest, mask⟩) = [.int .i64 x1, .int .i64 y1, .int .i64 z1, .int .i64 x2, .int .i64 y2, .int .i64 z2, .int .i64 x3, .int .i64 y3, .int .i64 z3] := rfl
        rw [hs9, show (j + 1) * 3 = j * 3 + 3 by omega] at nx4
        generalize PC j = P0 at *
        repeat (first | (show Walk1 _ _ _ (_ :: _) _ _; first | (show HW1 (.move _); refine wz1 ?_) | (show HW1 (.binOp .lss _ _ _ _); refine wz5 ?_) | (show HW1 (.indexAddr _ _ _); first | refine wz103 ?_ | refine wz80 ?_ | refine wz26 ?_) | (show HW1 (.load _ _); first | refine wz44 ?_ | refine wz31 ?_ | refine wz51 ?_) | (show HW1 (.store _ _ _); refine wz14 ?_) | (show HW1 (.alloc _); refine wz6 ?_) | (show HW1 (.fieldAddr _ _ _); refine wz38 ?_) | (show HW1 (.call ⟨.builtin .len, _, _⟩); refine wz27 ?_) | (show HW1 (.buildSlice _ 3 _); refine walk1_n (op_bsliceP3 rfl rfl rfl rfl rfl rfl rfl rfl rfl rfl rfl rfl rfl rfl rfl) (by kernel_rfl) ?_)) | refine go1 ?_ | refine end_block_other rfl ?_ | refine end_scope (fun _ h => by cases h) ?_ | (refine walk_endD ?_ ?_; (· kernel_rfl)) | refine tri_yesA rfl ?_ | refine tri_noA rfl ?_ | refine tri_trueA rfl ?_ | refine tri_falseA rfl ?_)
        refine walk1_g (op_append rfl rfl rfl rfl rfl rfl rfl rfl rfl (by omega) (rdn_part (n := 238) (off := 0) [.int .i64 x1, .int .i64 y1, .int .i64 z1, .int .i64 x2, .int .i64 y2, .int .i64 z2, .int .i64 x3, .int .i64 y3, .int .i64 z3] rfl (by kernel_rfl) rfl) (fun v hv => by simp only [List.mem_cons, List.not_mem_nil, or_false] at hv; rcases hv with rfl | rfl | rfl | rfl | rfl | rfl | rfl | rfl | rfl <;> rfl) (by omega) rfl) (by kernel_rfl) ?_
        repeat (first | (show Walk1 _ _ _ (_ :: _) _ _; first | (show HW1 (.move _); refine wz1 ?_) | (show HW1 (.assign _); refine wz2 ?_) | (show HW1 (.binOp .add _ _ _ _); refine wz10 ?_)) | refine go1 ?_ | refine end_block_other rfl ?_ | refine end_scope (fun _ h => by cases h) ?_ | (refine walk_endD ?_ ?_; (· kernel_rfl)) | refine tri_yesA rfl ?_ | refine tri_noA rfl ?_ | refine tri_trueA rfl ?_ | refine tri_falseA rfl ?_)
        exact nx4 _ (by omega) (by omega) (ent_ren (fun n => cond (Nat.beq n 16) 239 n) (by repeat (first | exact hasTm_nil | refine hasTm_cons rfl (fun _ => rfl) ?_)) (by repeat (first | exact hasRm_nil | refine hasRm_cons rfl (fun _ => rfl) (fun _ _ h => h) rfl ?_)) (by kernel_rfl))
      obtain rfl : j = (M i).length := by omega
      clear next4 hPCs hPC0 hP9
      obtain ⟨⟨lx, ly, lz⟩, ⟨hx, hy, hz⟩, le, ri, fi, co⟩ := nd
      rw [nodeC_row] at hrow
      have c1 : (NC.drop (0 + i * 10 + 0)).take 3 = [.int .i64 lx, .int .i64 ly, .int .i64 lz] := by
        have := congrArg (List.take 3) hrow
        rw [List.take_take] at this
        exact this
      have c2 : (NC.drop (0 + i * 10 + 3)).take 3 = [.int .i64 hx, .int .i64 hy, .int .i64 hz] := by
        have this : (((NC.drop (0 + i * 10)).take 10).drop 3).take 3 = _ := congrArg (fun z : List Value => (z.drop 3).take 3) hrow
        rwa [List.drop_take, List.take_take, List.drop_drop] at this
      have q1 := eqP_refl lx ly lz
      have q2 := eqP_refl hx hy hz
      simp only [P3.c] at hcBi
      clear hrow
      repeat (first | (show Walk1 _ _ _ (_ :: _) _ _; first | (show HW1 (.move _); refine wz1 ?_) | (show HW1 (.assign _); refine wz2 ?_) | (show HW1 (.binOp .add _ _ _ _); refine wz10 ?_) | (show HW1 (.binOp .lss _ _ _ _); refine wz5 ?_) | (show HW1 (.store _ _ _); refine wz14 ?_) | (show HW1 (.alloc _); refine wz6 ?_) | (show HW1 (.extract _ _); first | refine wz16 ?_ | refine wz15 ?_) | (show HW1 (.call ⟨.builtin .len, _, _⟩); refine wz27 ?_) | (show HW1 (.call ⟨.value (.func 22), _, _⟩); (refine cwalk1M 22 ?_; refine ⟨_, _, callM_1 (rdn_own rfl) (fun e w h1 => hcBi _ w h1), ?_⟩))) | (show WalkTo _ _ _ _ (_ :: _) _ _ _; first | (show WalkTo _ _ _ _ (⟨_, _, _, _, _, some _⟩ :: _) _ _ _; refine zy2 ?_) | (show HW2 (.move _); refine wz20 ?_) | (show HW2 (.binOp .neq _ _ _ _); refine walk_t (op_neR (by assumption) rfl rfl rfl rfl rfl (fun _ => rfl) (fun _ => rfl) (by kernel_rfl)) ?_) | (show HW2 (.pick _ _ _); refine wz91 ?_) | (show HW2 (.indexAddr _ _ _); refine wz45 ?_) | (show HW2 (.load _ _); first | refine walk_t (op_loadF rfl rfl rfl rfl rfl rfl rfl rva (by omega) (by assumption)) ?_ | refine wz22 ?_ | refine wz58 ?_) | (show HW2 (.fieldAddr _ _ _); first | refine walk_t (op_fldF rfl rfl rfl rfl rva (by omega) rfl rfl off_zero) ?_ | refine wz62 ?_)) | refine go1 ?_ | refine end_block_other rfl ?_ | refine end_scope (fun _ h => by cases h) ?_ | (refine walk_endD ?_ ?_; (· kernel_rfl)) | refine tri_yesA rfl ?_ | refine tri_noA rfl ?_ | refine tri_trueA rfl ?_ | refine tri_falseA rfl ?_)
      exact endA_of fun e a w4 hS4 => next e a w4 (i + 1, w4) ⟨by omega, below_andThen hb2 (below_andThen hb3 (hS4.frame.below rfl))⟩ (by dsimp only; omega) (hS4.rebase (by repeat (first | exact hasT_nil | refine hasT_cons rfl ?_ | refine hasT_eq rfl (svi (by omega)) ?_)))
    · repeat (first | (show Walk1 _ _ _ (_ :: _) _ _; first | (show HW1 (.move _); refine wz1 ?_) | (show HW1 (.assign _); first | refine wz13 ?_ | refine wz2 ?_) | (show HW1 (.binOp .lss _ _ _ _); refine wz5 ?_) | (show HW1 (.load _ _); first | refine wz44 ?_ | refine wz51 ?_) | (show HW1 (.fieldAddr _ _ _); refine walk1_t (op_fldF rfl rfl rfl rfl rva (by omega) rfl rfl off_zero) ?_) | (show HW1 (.call ⟨.builtin .len, _, _⟩); refine wz27 ?_) | (show HW1 (.call ⟨.value (.func 21), _, _⟩); (refine walk1_callO rfl rfl rfl rfl (by kernel_rfl) evq rfl ?_; refine ⟨[], _, _, _, _, (fun S2 e a w hS hq => cu w (hS.frame.below rfl)), ?_⟩))) | refine go1 ?_ | refine end_block_other rfl ?_ | refine end_scope (fun _ h => by cases h) ?_ | (refine walk_endD ?_ ?_; (· kernel_rfl)) | refine tri_yesA rfl ?_ | refine tri_noA rfl ?_ | refine tri_trueA rfl ?_ | refine tri_falseA rfl ?_)
      refine tri_close rfl fun e w3 hb3 hr => ?_
      have fu := fs_ownN (hr 216 _ rfl)
      refine tri_keep [(14, SV.c (.int .i64 ((i : Nat) : Int))), (15, .c (e 216).v), (16, .c (.slice none 0 0)), (17, SV.c (.int .i64 ((0 : Nat) : Int))), (2, .c (ptrV (blkV b2) 0)), (1, .c (.slice al l.length cl))] [] (by repeat (first | exact hasT_nil | refine hasT_cons rfl ?_ | refine hasT_eq rfl (svi (by omega)) ?_)) (by exact hasR_nil) ?_
      generalize (e 216).v = u at *
      clear hr cu
      replace hv1 := hv1.anew (by omega) hb3
      replace hv2 := hv2.anew (by omega) hb3
      replace hvl := hvl.anew (by omega) hb3
      replace r2 := r2.anew (by omega) hb3
      have hpl := plcL_snoc l (M i)
      obtain ⟨PC, hPC⟩ : ∃ f : Nat → List Value, ∀ j, f j = ptsC (plcL l ((M i).take j)) := ⟨_, fun _ => rfl⟩
      have hPCs : ∀ j k, (M i)[j]? = some k → PC (j + 1) = PC j ++ ptsC (cornersT (l.getD k zT)) := fun j k h => by
        rw [hPC, hPC, hpl j k h]
        exact List.flatMap_append
      have hPC0 : PC 0 = [] := hPC 0
      have hPCe : ptsC (plcL l (M i)) = PC (M i).length := by rw [hPC, List.take_of_length_le (Nat.le_refl _)]
      rw [hPCe] at hcBi
      clear hPC hpl hPCe
      refine tri_ent (ent_nil (i := 16) (n := 16) 32 3 rfl (by kernel_rfl)) ?_
      refine tri_loop (X := Nat) (fun j => ⟨[(17, SV.c (.int .i64 ((j : Nat) : Int))), (14, SV.c (.int .i64 ((i : Nat) : Int))), (15, .c u), (2, .c (ptrV (blkV b2) 0)), (1, .c (.slice al l.length cl)), (16, .v 16)], [(16, some (.own 16 32 3 (j * 3) (PC j)))]⟩)
        (fun j => j ≤ (M i).length) (fun j => (M i).length - j) 0 (by omega) (by rw [hPC0]; exact ent_keep (by repeat (first | exact hasT_nil | refine hasT_cons rfl ?_ | refine hasT_eq rfl (svi (by omega)) ?_)) (by repeat (first | exact hasR_nil | refine hasR_cons rfl ?_))) ?_
      intro j hj Q4 next4
      by_cases hjl : j < (M i).length
      · obtain ⟨k, hk⟩ : ∃ k, (M i)[j]? = some k := ⟨_, List.getElem?_eq_getElem hjl⟩
        have hkl := m1 k (List.mem_of_getElem? hk)
        obtain ⟨t, ht⟩ : ∃ t, l[k]? = some t := ⟨_, List.getElem?_eq_getElem hkl⟩
        have hkg := ordC_get hk
        have hs := hPCs j k hk
        rw [show l.getD k zT = t by rw [List.getD_eq_getElem?_getD, ht]; rfl] at hs
        have h9 := hP9 k t ht
        have nx4 := fun S' => next4 S' (j + 1)
        rw [hs] at nx4
        clear next4 next hP9 hcBi hs hPCs
        obtain ⟨⟨x1, y1, z1⟩, ⟨x2, y2, z2⟩, ⟨x3, y3, z3⟩, rest, mask⟩ := t
        have h9 : (TC.drop (0 + k * 19 + 0)).take 9 = [.int .i64 x1, .int .i64 y1, .int .i64 z1, .int .i64 x2, .int .i64 y2, .int .i64 z2, .int .i64 x3, .int .i64 y3, .int .i64 z3] := by rw [Nat.add_zero, Nat.zero_add]; exact h9
        have htk : 0 + k * 19 + 19 ≤ TC.length := by omega
        have hs9 : ptsC (cornersT ⟨⟨x1, y1, z1⟩, ⟨x2, y2, z2⟩, ⟨x3, y3, z3⟩, rest, mask⟩) = [.int .i64 x1, .int .i64 y1, .int .i64 z1, .int .i64 x2, .int .i64 y2, .int .i64 z2, .int .i64 x3, .int .i64 y3, .int .i64 z3] := rfl
        rw [hs9, show (j + 1) * 3 = j * 3 + 3 by omega] at nx4
        generalize PC j = P0 at *
        repeat (first | (show Walk1 _ _ _ (_ :: _) _ _; first | (show HW1 (.move _); refine wz1 ?_) | (show HW1 (.binOp .lss _ _ _ _); refine wz5 ?_) | (show HW1 (.indexAddr _ _ _); first | refine wz103 ?_ | refine wz80 ?_ | refine wz26 ?_) | (show HW1 (.load _ _); first | refine wz44 ?_ | refine wz31 ?_ | refine wz51 ?_) | (show HW1 (.store _ _ _); refine wz14 ?_) | (show HW1 (.alloc _); refine wz6 ?_) | (show HW1 (.fieldAddr _ _ _); refine wz38 ?_) | (show HW1 (.call ⟨.builtin .len, _, _⟩); refine wz27 ?_) | (show HW1 (.buildSlice _ 3 _); refine walk1_n (op_bsliceP3 rfl rfl rfl rfl rfl rfl rfl rfl rfl rfl rfl rfl rfl rfl rfl) (by kernel_rfl) ?_)) | refine go1 ?_ | refine end_block_other rfl ?_ | refine end_scope (fun _ h => by cases h) ?_ | (refine walk_endD ?_ ?_; (· kernel_rfl)) | refine tri_yesA rfl ?_ | refine tri_noA rfl ?_ | refine tri_trueA rfl ?_ | refine tri_falseA rfl ?_)
        refine walk1_g (op_append rfl rfl rfl rfl rfl rfl rfl rfl rfl (by omega) (rdn_part (n := 238) (off := 0) [.int .i64 x1, .int .i64 y1, .int .i64 z1, .int .i64 x2, .int .i64 y2, .int .i64 z2, .int .i64 x3, .int .i64 y3, .int .i64 z3] rfl (by kernel_rfl) rfl) (fun v hv => by simp only [List.mem_cons, List.not_mem_nil, or_false] at hv; rcases hv with rfl | rfl | rfl | rfl | rfl | rfl | rfl | rfl | rfl <;> rfl) (by omega) rfl) (by kernel_rfl) ?_
        repeat (first | (show Walk1 _ _ _ (_ :: _) _ _; first | (show HW1 (.move _); refine wz1 ?_) | (show HW1 (.assign _); refine wz2 ?_) | (show HW1 (.binOp .add _ _ _ _); refine wz10 ?_)) | refine go1 ?_ | refine end_block_other rfl ?_ | refine end_scope (fun _ h => by cases h) ?_ | (refine walk_endD ?_ ?_; (· kernel_rfl)) | refine tri_yesA rfl ?_ | refine tri_noA rfl ?_ | refine tri_trueA rfl ?_ | refine tri_falseA rfl ?_)
        exact nx4 _ (by omega) (by omega) (ent_ren (fun n => cond (Nat.beq n 16) 239 n) (by repeat (first | exact hasTm_nil | refine hasTm_cons rfl (fun _ => rfl) ?_)) (by repeat (first | exact hasRm_nil | refine hasRm_cons rfl (fun _ => rfl) (fun _ _ h => h) rfl ?_)) (by kernel_rfl))
      obtain rfl : j = (M i).length := by omega
      clear next4 hPCs hPC0 hP9
      obtain ⟨⟨lx, ly, lz⟩, ⟨hx, hy, hz⟩, le, ri, fi, co⟩ := nd
      rw [nodeC_row] at hrow
      have c1 : (NC.drop (0 + i * 10 + 0)).take 3 = [.int .i64 lx, .int .i64 ly, .int .i64 lz] := by
        have := congrArg (List.take 3) hrow
        rw [List.take_take] at this
        exact this
      have c2 : (NC.drop (0 + i * 10 + 3)).take 3 = [.int .i64 hx, .int .i64 hy, .int .i64 hz] := by
        have this : (((NC.drop (0 + i * 10)).take 10).drop 3).take 3 = _ := congrArg (fun z : List Value => (z.drop 3).take 3) hrow
        rwa [List.drop_take, List.take_take, List.drop_drop] at this
      have q1 := eqP_refl lx ly lz
      have q2 := eqP_refl hx hy hz
      simp only [P3.c] at hcBi
      clear hrow
      repeat (first | (show Walk1 _ _ _ (_ :: _) _ _; first | (show HW1 (.move _); refine wz1 ?_) | (show HW1 (.assign _); refine wz2 ?_) | (show HW1 (.binOp .add _ _ _ _); refine wz10 ?_) | (show HW1 (.binOp .lss _ _ _ _); refine wz5 ?_) | (show HW1 (.store _ _ _); refine wz14 ?_) | (show HW1 (.alloc _); refine wz6 ?_) | (show HW1 (.extract _ _); first | refine wz16 ?_ | refine wz15 ?_) | (show HW1 (.call ⟨.builtin .len, _, _⟩); refine wz27 ?_) | (show HW1 (.call ⟨.value (.func 22), _, _⟩); (refine cwalk1M 22 ?_; refine ⟨_, _, callM_1 (rdn_own rfl) (fun e w h1 => hcBi _ w h1), ?_⟩))) | (show WalkTo _ _ _ _ (_ :: _) _ _ _; first | (show WalkTo _ _ _ _ (⟨_, _, _, _, _, some _⟩ :: _) _ _ _; refine zy2 ?_) | (show HW2 (.move _); refine wz20 ?_) | (show HW2 (.binOp .neq _ _ _ _); refine walk_t (op_neR (by assumption) rfl rfl rfl rfl rfl (fun _ => rfl) (fun _ => rfl) (by kernel_rfl)) ?_) | (show HW2 (.pick _ _ _); refine wz91 ?_) | (show HW2 (.indexAddr _ _ _); refine wz45 ?_) | (show HW2 (.load _ _); first | refine walk_t (op_loadF rfl rfl rfl rfl rfl rfl rfl rva (by omega) (by assumption)) ?_ | refine wz22 ?_ | refine wz58 ?_) | (show HW2 (.fieldAddr _ _ _); first | refine walk_t (op_fldF rfl rfl rfl rfl rva (by omega) rfl rfl off_zero) ?_ | refine wz62 ?_)) | refine go1 ?_ | refine end_block_other rfl ?_ | refine end_scope (fun _ h => by cases h) ?_ | (refine walk_endD ?_ ?_; (· kernel_rfl)) | refine tri_yesA rfl ?_ | refine tri_noA rfl ?_ | refine tri_trueA rfl ?_ | refine tri_falseA rfl ?_)
      exact endA_of fun e a w4 hS4 => next e a w4 (i + 1, w4) ⟨by omega, below_andThen hb2 (below_andThen hb3 (hS4.frame.below rfl))⟩ (by dsimp only; omega) (hS4.rebase (by repeat (first | exact hasT_nil | refine hasT_cons rfl ?_ | refine hasT_eq rfl (svi (by omega)) ?_)))
  · obtain rfl : i = N.length := by omega
    repeat (first | (show Walk1 _ _ _ (_ :: _) _ _; first | (show HW1 (.move _); refine wz1 ?_) | (show HW1 (.assign _); refine wz2 ?_) | (show HW1 (.binOp .lss _ _ _ _); refine wz5 ?_) | (show HW1 (.load _ _); refine wz44 ?_) | (show HW1 (.fieldAddr _ _ _); refine walk1_t (op_fldF rfl rfl rfl rfl rva (by omega) rfl rfl off_zero) ?_) | (show HW1 (.call ⟨.builtin .len, _, _⟩); refine wz27 ?_)) | refine go1 ?_ | refine end_block_other rfl ?_ | refine end_scope (fun _ h => by cases h) ?_ | (refine walk_endD ?_ ?_; (· kernel_rfl)) | refine tri_yesA rfl ?_ | refine tri_noA rfl ?_ | refine tri_trueA rfl ?_ | refine tri_falseA rfl ?_)
    refine end_ret (.c (.bool true)) (res_tmp rfl rfl) ?_
    exact fin_anew (below_andThen hb hb2) fun _ => rfl
end Go.Proofs.Ytcgmapioelfneaa
namespace Go.Proofs.Ytcgmapioelfneaa
open Go.RowKit
set_option maxRecDepth 100000
set_option maxHeartbeats 1000000
def hitA (l : List TriS) (o d : P3) (mask : BitVec 8) (skip : Int) (near : Bool) (k : Nat) : Bool := match l[k]? with
  | some t => (meetW o d mask skip k t).2 && (!near || decide ((meetW o d mask skip k t).1.num < (meetW o d mask skip k t).1.det))
  | none => false
def lookA (l : List TriS) (o d : P3) (mask : BitVec 8) (skip : Int) (near : Bool) (s : Nat × Bool) (k : Nat) : Nat × Bool := if s.2 = true then s else (s.1 + 1, hitA l o d mask skip near k)
def Tr.visA (l : List TriS) (K : List Nat) (o d : P3) (mask : BitVec 8) (skip : Int) (near : Bool) : Tr → Nat × Bool → Nat × Bool
  | .leaf _ f c lo hi, s => if s.2 = true then s else if (spanP lo hi o d).2 = false then (s.1 + 1, false) else ((K.drop f).take c).foldl (lookA l o d mask skip near) (s.1 + 1, false)
  | .node _ lo hi L R, s => if s.2 = true then s else if (spanP lo hi o d).2 = false then (s.1 + 1, false) else R.visA l K o d mask skip near (L.visA l K o d mask skip near (s.1 + 1, false))
end Go.Proofs.Ytcgmapioelfneaa
