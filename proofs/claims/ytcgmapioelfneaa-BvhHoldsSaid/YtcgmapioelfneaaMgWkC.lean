/- What a walk's question needs besides: ratios none below 0 held against each other; a call beside an object; two numbers in a slice. No condition. How an order is parted: walked. No condition. A part of an own slice of numbers handed to a call that sorts it; slices built of two rows. No condition. How a tree is made, plainly. No condition. -/
import Derived.Test.YtcgmapioelfneaaMgRecW0
import Derived.Test.YtcgmapioelfneaaMgPoly1
namespace Go.Proofs.Ytcgmapioelfneaa
open Go.RowKit
set_option maxRecDepth 100000
set_option maxHeartbeats 2000000
theorem FSX.cutZ {w : World} {m : List Nat} {sz : Nat} {v : Value} {n : Nat} {xs : List Value} (h : FSX w m sz v n xs) {lo len : Nat} (hl : lo + len ≤ n) : FSX w m sz (Go.Proofs.Ytcgmapioelfneaa.cutZ sz v lo len) len ((xs.drop (lo * sz)).take (len * sz)) := fun w' hw => (h w' hw).cutZ hl
section
variable {C : Ctx} {ops : Array Oper} {S : St} {o : Oper}
end
attribute [local irreducible] Calls Walk1 WalkTo Tri EndA
end Go.Proofs.Ytcgmapioelfneaa
namespace Go.Proofs.Ytcgmapioelfneaa
open Go.RowKit
set_option maxRecDepth 100000
set_option maxHeartbeats 2000000
attribute [local irreducible] Calls Walk1 WalkTo Tri EndA
theorem part_any (l : List TriS) (hok : ∀ t ∈ l, t.ok) (hnr : ∀ t ∈ l, nearT t) (pre post : List Value) (ks : List Nat) (N cap b : Nat) (hks : ∀ i ∈ ks, i < l.length) (hN : N = ks.length) (hl : N ≤ 100000) (d : Nat) (vl : Value) (w : World) (hvl : RdX w [b] 19 vl l.length (trisC l))
    (hB : Blk w b (segA pre post ks) 3) :
    Calls Try.prog 18 #[vl, .slice (some ⟨b, pre.length, none⟩) N cap, .int .i64 ((d : Nat) : Int)] w (RetP w b 3 (segA pre post (partL l ks d).2) (.int .i64 (partL l ks d).1)) := by
  obtain ⟨a0, c0, rfl⟩ : ∃ a c, vl = .slice a l.length c := by obtain ⟨_, a, c, h, _⟩ := hvl.rd; exact ⟨a, c, h⟩
  have hv0 := hvl.rd
  by_cases h4 : N ≤ 4
  · rw [show partL l ks d = (0, ks) by unfold partL; rw [if_pos (by omega)]]
    clear hv0
    refine calls_triI hB Try.func18 rfl Try.ntmps18 rfl ?_
    repeat (first | (show Walk1 _ _ _ (_ :: _) _ _; first | (show HW1 (.move _); refine wz1 ?_) | (show HW1 (.assign _); refine wz13 ?_) | (show HW1 (.binOp .leq _ _ _ _); refine wz64 ?_) | (show HW1 (.box _ _); refine wz11 ?_) | (show HW1 (.call ⟨.builtin .len, _, _⟩); refine wz39 ?_)) | refine go1 ?_ | refine end_block_other rfl ?_ | refine end_scope (fun _ h => by cases h) ?_ | (refine walk_endD ?_ ?_; (· kernel_rfl)) | refine tri_yesA rfl ?_ | refine tri_noA rfl ?_ | refine tri_trueA rfl ?_ | refine tri_falseA rfl ?_)
    refine end_ret _ (res_tmp rfl rfl) ?_
    exact fin_obj rfl rfl (fun _ => rfl) (fun _ => rfl)
  have hlen := tris_len l hok
  have hml : (msL l ks).length = N := by rw [msL, List.length_map, hN]
  have hne : msL l ks ≠ [] := by intro h; rw [h] at hml; simp at hml; omega
  have hsm : ∀ p ∈ msL l ks, smB 2097152 p := by
    intro p hp
    obtain ⟨i, hi, rfl⟩ := List.mem_map.1 hp
    have hil := hks i hi
    have : l[i]? = some l[i] := List.getElem?_eq_getElem hil
    rw [getD_of_tri this]
    exact midT_sm (hnr _ (List.getElem_mem hil))
  obtain ⟨hb1, hb2⟩ := boxP_sm hne hsm
  obtain ⟨MS, hMS⟩ : ∃ f : Nat → List Value, ∀ j, f j = ptsC ((msL l ks).take j) := ⟨_, fun _ => rfl⟩
  have hM0 : MS 0 = [] := by rw [hMS]; rfl
  have hMN : MS N = ptsC (msL l ks) := by rw [hMS, List.take_of_length_le (by omega)]
  have stepM : ∀ j, j < N → ∃ i t, gtN ks j = i ∧ l[i]? = some t ∧ t ∈ l ∧ i < l.length ∧ MS (j + 1) = MS j ++ (midT t).c.toList := by
    intro j hj
    obtain ⟨i, hi1⟩ : ∃ i, ks[j]? = some i := ⟨_, List.getElem?_eq_getElem (by omega)⟩
    have him := hks i (List.mem_of_getElem? hi1)
    obtain ⟨t, ht⟩ : ∃ t, l[i]? = some t := ⟨_, List.getElem?_eq_getElem him⟩
    refine ⟨i, t, by unfold gtN; rw [List.getD_eq_getElem?_getD, hi1]; rfl, ht, List.mem_of_getElem? ht, him, ?_⟩
    rw [hMS, hMS]
    have : (msL l ks)[j]? = some (midT t) := by
      rw [msL, List.getElem?_map, hi1, Option.map_some, getD_of_tri ht]
    exact flat_take (f := fun p : P3 => p.c.toList) _ j _ this
  have cM := fun (t : TriS) (ht : t ∈ l) (w : World) => middle_any t (hok t ht) (hnr t ht) w
  have cB := fun (v : Value) (w : World) h => boxT_any v (msL l ks) w h (by omega)
  rw [← hMN, hml] at cB
  have hrow := fun (i : Nat) (t : TriS) (ht : l[i]? = some t) => tri_row hok ht
  generalize hP : partL l ks d = P
  have hkl : ks.length = N := hN.symm
  generalize hXS : trisC l = XS at *
  refine calls_triI hB Try.func18 rfl Try.ntmps18 rfl ?_
  repeat (first | (show Walk1 _ _ _ (_ :: _) _ _; first | (show HW1 (.move _); first | refine wz40 ?_ | refine wz1 ?_) | (show HW1 (.assign _); first | refine wz13 ?_ | refine wz2 ?_) | (show HW1 (.binOp .leq _ _ _ _); refine wz64 ?_) | (show HW1 (.box _ _); refine wz11 ?_) | (show HW1 (.call ⟨.builtin .len, _, _⟩); refine wz39 ?_)) | refine go1 ?_ | refine end_block_other rfl ?_ | refine end_scope (fun _ h => by cases h) ?_ | (refine walk_endD ?_ ?_; (· kernel_rfl)) | refine tri_yesA rfl ?_ | refine tri_noA rfl ?_ | refine tri_trueA rfl ?_ | refine tri_falseA rfl ?_)
  refine tri_ent (ent_nil (i := 7) (n := 7) 32 3 rfl (by kernel_rfl)) ?_
  refine tri_loop (X := Nat) (fun j => ⟨[(23, SV.c (.int .i64 ((j : Nat) : Int))), (22, SV.c (.int .i64 ((N : Nat) : Int))), (21, .c (.slice (some ⟨b, pre.length, none⟩) N cap)), (7, .v 7), (3, .p 3 0), (1, .c (.slice (some ⟨b, pre.length, none⟩) N cap)), (2, SV.c (.int .i64 ((d : Nat) : Int)))], [(7, some (.own 7 32 3 j (MS j))), (3, some (.blk 3 22 (.l [.c (.slice a0 l.length c0)]))), (1000, some (.blk 1000 3 (.c (segA pre post ks)))), (1001, some (.is 1000 b))]⟩)
    (fun j => j ≤ N) (fun j => N - j) 0 (by omega) (by rw [hM0]; exact ent_keep (by repeat (first | exact hasT_nil | refine hasT_cons rfl ?_ | refine hasT_eq rfl (svi (by omega)) ?_)) (by repeat (first | exact hasR_nil | refine hasR_cons rfl ?_))) ?_
  intro j hj K next
  by_cases h : j < N
  · obtain ⟨i, t, hgi, hti, htm, hil, hms⟩ := stepM j h
    subst hgi
    have r1 := hrow _ t hti
    have c1 := fun w => cM t htm w
    have nx := fun S' => next S' (j + 1)
    rw [hms] at nx
    have i1 : gtN ks j * 19 + 19 ≤ XS.length := by rw [hlen]; omega
    have m1 : (midT t).c = (midT t).c.toList.toArray := rfl
    rw [m1] at c1
    have m2 : (midT t).c.toList.length = 3 := rfl
    have m3 : ∀ u ∈ (midT t).c.toList, u.oneCell' = true := by
      intro u hu; simp [P3.c] at hu; rcases hu with rfl | rfl | rfl <;> rfl
    have m4 : (midT t).c.toList.toArray.size = 3 := rfl
    generalize (midT t).c.toList = ML at *
    generalize triC t = TC at *
    generalize MS j = MJ at *
    clear next stepM hMS hM0 hMN cM cB hrow hP m1
    repeat (first | (show Walk1 _ _ _ (_ :: _) _ _; first | (show HW1 (.move _); refine wz1 ?_) | (show HW1 (.assign _); refine wz2 ?_) | (show HW1 (.binOp .add _ _ _ _); refine wz10 ?_) | (show HW1 (.binOp .lss _ _ _ _); refine wz5 ?_) | (show HW1 (.indexAddr _ _ _); first | refine wz104 ?_ | refine wz26 ?_) | (show HW1 (.load _ _); first | refine wz101 ?_ | refine wz3 ?_ | refine walk1_t (op_loadsX rfl rfl rfl rfl (by first | assumption | exact FSX.rdx (by assumption) | exact FSX.rdx (FSX.cutB (by assumption) (by omega))) rfl rfl rfl (by decide) (by first | omega | decide) (by with_reducible assumption)) ?_) | (show HW1 (.call ⟨.builtin .append, _, _⟩); refine walk1_g (op_appendE rfl rfl rfl rfl rfl rfl rfl rfl rfl rfl (by decide) (by first | (with_reducible assumption) | rfl) (by first | (with_reducible assumption) | rfl) (by omega) rfl) (by kernel_rfl) ?_) | (show HW1 (.buildSlice _ _ _); refine walk1_n (op_bslice1 rfl rfl rfl rfl rfl rfl rfl rfl rfl rfl rfl ce_c (sm_c (by with_reducible assumption)) (by kernel_rfl)) (by kernel_rfl) ?_) | (show HW1 (.call ⟨.value (.func 30), _, _⟩); ((first | refine cwalk11 30 ?_ | refine cwalk10 30 ?_); refine ⟨_, fun e w => c1 w, ?_⟩))) | refine go1 ?_ | refine end_block_other rfl ?_ | refine end_scope (fun _ h => by cases h) ?_ | (refine walk_endD ?_ ?_; (· kernel_rfl)) | refine tri_yesA rfl ?_ | refine tri_noA rfl ?_ | refine tri_trueA rfl ?_ | refine tri_falseA rfl ?_)
    exact nx _ (by omega) (by omega) (ent_ren (fun n => cond (Nat.beq n 7) 34 n) (by repeat (first | exact hasTm_nil | refine hasTm_cons rfl (fun _ => rfl) ?_)) (by repeat (first | exact hasRm_nil | refine hasRm_cons rfl (fun _ => rfl) (fun _ _ h => h) rfl ?_)) (by kernel_rfl))
  · have hjN : N = j := by omega
    subst hjN
    clear next stepM hMS hM0 cM hrow h hj
    have conA := fun k hk b1 b2 w h1 h2 h3 x y => cmpA_any l hok hnr (.slice a0 l.length c0) k hk b1 b2 w h1 h2 h3 x y
    have conB := fun k hk fr to c h1 h2 h3 => askB_any l hok hnr (.slice a0 l.length c0) k hk fr to c h1 h2 h3
    have conC := fun k hk fr to h1 h2 h3 h4 vo w => cut_any l hok hnr ks hks (by omega) k hk fr to h1 h2 h3 h4 (.slice a0 l.length c0) vo w
    have hky := fun i (hi : i ∈ ks) k => kyL_in (l := l) hi k
    have hPe := fun k fr to => partL_eq l ks d (B := boxP (msL l ks)) (k := k) (fr := fr) (to := to) rfl
    simp only [hP, hkl, if_neg h4] at hPe
    have hfrto := fun k => boxP_at hne k
    generalize boxP (msL l ks) = B at *
    obtain ⟨lo, hi⟩ := B
    dsimp only at hb1 hb2 hky hPe cB
    rw [hXS] at conA conB conC
    have cX := fun p i (h : i < 3) w => axis_any p i h w
    obtain ⟨AX, hAX⟩ : ∃ f : Nat → Nat, ∀ j, f j = axN lo hi j := ⟨_, fun _ => rfl⟩
    have hA0 : AX 0 = 0 := hAX 0
    have hAs := fun j => hAX (j + 1)
    simp only [axN, ← hAX] at hAs
    have hAl := fun j => axN_le lo hi j
    simp only [← hAX] at hAl hPe
    have l1 : lo.c.size = 3 := rfl
    have l2 : hi.c.size = 3 := rfl
    have l3 : lo.c.all (·.oneCell') = true := by simp [P3.c]; exact ⟨rfl, rfl, rfl⟩
    have l4 : hi.c.all (·.oneCell') = true := by simp [P3.c]; exact ⟨rfl, rfl, rfl⟩
    have cl := cX lo
    have ch := cX hi
    have bl := fun k => axP_sm hb1 k
    have bh := fun k => axP_sm hb2 k
    clear hAX cX hb1 hb2 hP
    generalize lo.c = LO at *
    generalize hi.c = HI at *
    generalize hPL : axP lo = PL at *
    generalize hPH : axP hi = PH at *
    repeat (first | (show Walk1 _ _ _ (_ :: _) _ _; first | (show HW1 (.move _); refine wz1 ?_) | (show HW1 (.assign _); refine wz13 ?_) | (show HW1 (.binOp .lss _ _ _ _); refine wz5 ?_) | (show HW1 (.store _ _ _); first | refine wz23 ?_ | refine wz50 ?_) | (show HW1 (.alloc _); refine wz6 ?_) | (show HW1 (.extract _ _); first | refine wz16 ?_ | refine wz15 ?_) | (show HW1 (.call ⟨.value (.func 13), _, _⟩); (refine cwalk1M 13 ?_; refine ⟨_, _, callM_1 (rdn_own rfl) (fun e w h1 => cB _ w h1), ?_⟩))) | refine go1 ?_ | refine end_block_other rfl ?_ | refine end_scope (fun _ h => by cases h) ?_ | (refine walk_endD ?_ ?_; (· kernel_rfl)) | refine tri_yesA rfl ?_ | refine tri_noA rfl ?_ | refine tri_trueA rfl ?_ | refine tri_falseA rfl ?_)
    refine tri_ent (ent_blkA 12 (.l [.c (.int .i64 ((0 : Nat) : Int))]) rfl (fun _ => rfl)) ?_
    refine tri_loop (X := Nat) (fun j => ⟨[(13, SV.c (.int .i64 ((j + 1 : Nat) : Int))), (10, .p 10 0), (11, .p 11 0), (12, .p 12 0), (3, .p 3 0), (1, .c (.slice (some ⟨b, pre.length, none⟩) N cap)), (2, SV.c (.int .i64 ((d : Nat) : Int)))], [(10, some (.blk 10 32 (.c LO))), (11, some (.blk 11 32 (.c HI))), (12, some (.blk 12 3 (.l [.c (.int .i64 ((AX j : Nat) : Int))]))), (3, some (.blk 3 22 (.l [.c (.slice a0 l.length c0)]))), (1000, some (.blk 1000 3 (.c (segA pre post ks)))), (1001, some (.is 1000 b))]⟩)
      (fun j => j ≤ 2) (fun j => 2 - j) 0 (by omega) (by rw [hA0]; exact ent_keep (by repeat (first | exact hasT_nil | refine hasT_cons rfl ?_ | refine hasT_eq rfl (svi (by omega)) ?_)) (by repeat (first | exact hasR_nil | refine hasR_cons rfl ?_))) ?_
    intro j hj K next
    by_cases h2 : j < 2
    · have nx := fun S' => next S' (j + 1)
      have ha := hAs j
      have hal := hAl j
      have k1 := fun w => ch (j + 1) (by omega) w
      have k2 := fun w => cl (j + 1) (by omega) w
      have k3 := fun w => ch (AX j) (by omega) w
      have k4 := fun w => cl (AX j) (by omega) w
      have q1 := bl (j + 1)
      have q2 := bh (j + 1)
      have q3 := bl (AX j)
      have q4 := bh (AX j)
      clear next hAs hAl hA0 ch cl bl bh hPe conA conB conC hky hfrto cB
      generalize AX (j + 1) = a2 at *
      generalize AX j = a1 at *
      generalize PL (j + 1) = p1 at *
      generalize PH (j + 1) = p2 at *
      generalize PL a1 = p3 at *
      generalize PH a1 = p4 at *
      by_cases hc : p2 - p1 > p4 - p3
      · rw [if_pos hc] at ha
        subst ha
        repeat (first | (show Walk1 _ _ _ (_ :: _) _ _; first | (show HW1 (.move _); refine wz1 ?_) | (show HW1 (.assign _); refine wz2 ?_) | (show HW1 (.binOp .add _ _ _ _); refine wz10 ?_) | (show HW1 (.binOp .lss _ _ _ _); refine wz5 ?_) | (show HW1 (.store _ _ _); refine wz50 ?_)) | (show WalkTo _ _ _ _ (_ :: _) _ _ _; first | (show HW2 (.move _); refine wz20 ?_) | (show HW2 (.binOp .sub _ _ _ _); refine wz37 ?_) | (show HW2 (.binOp .gtr _ _ _ _); refine wz136 ?_) | (show HW2 (.load _ _); first | refine wz24 ?_ | refine wz22 ?_) | (show HW2 (.call ⟨.value (.func 31), _, _⟩); ((first | refine cwalk1 31 ?_ | refine cwalk0 31 ?_); refine ⟨_, fun e w => k1 w, ?_⟩)) | (show HW2 (.call ⟨.value (.func 31), _, _⟩); ((first | refine cwalk1 31 ?_ | refine cwalk0 31 ?_); refine ⟨_, fun e w => k2 w, ?_⟩)) | (show HW2 (.call ⟨.value (.func 31), _, _⟩); ((first | refine cwalk1 31 ?_ | refine cwalk0 31 ?_); refine ⟨_, fun e w => k3 w, ?_⟩)) | (show HW2 (.call ⟨.value (.func 31), _, _⟩); ((first | refine cwalk1 31 ?_ | refine cwalk0 31 ?_); refine ⟨_, fun e w => k4 w, ?_⟩))) | refine go1 ?_ | refine end_block_other rfl ?_ | refine end_scope (fun _ h => by cases h) ?_ | (refine walk_endD ?_ ?_; (· kernel_rfl)) | refine tri_yesA rfl ?_ | refine tri_noA rfl ?_ | refine tri_trueA rfl ?_ | refine tri_falseA rfl ?_)
        exact nx _ (by omega) (by omega) (by exact ent_kp)
      · rw [if_neg hc] at ha
        subst ha
        repeat (first | (show Walk1 _ _ _ (_ :: _) _ _; first | (show HW1 (.move _); refine wz1 ?_) | (show HW1 (.assign _); refine wz2 ?_) | (show HW1 (.binOp .add _ _ _ _); refine wz10 ?_) | (show HW1 (.binOp .lss _ _ _ _); refine wz5 ?_)) | (show WalkTo _ _ _ _ (_ :: _) _ _ _; first | (show HW2 (.move _); refine wz20 ?_) | (show HW2 (.binOp .sub _ _ _ _); refine wz37 ?_) | (show HW2 (.binOp .gtr _ _ _ _); refine wz136 ?_) | (show HW2 (.load _ _); first | refine wz24 ?_ | refine wz22 ?_) | (show HW2 (.call ⟨.value (.func 31), _, _⟩); ((first | refine cwalk1 31 ?_ | refine cwalk0 31 ?_); refine ⟨_, fun e w => k1 w, ?_⟩)) | (show HW2 (.call ⟨.value (.func 31), _, _⟩); ((first | refine cwalk1 31 ?_ | refine cwalk0 31 ?_); refine ⟨_, fun e w => k2 w, ?_⟩)) | (show HW2 (.call ⟨.value (.func 31), _, _⟩); ((first | refine cwalk1 31 ?_ | refine cwalk0 31 ?_); refine ⟨_, fun e w => k3 w, ?_⟩)) | (show HW2 (.call ⟨.value (.func 31), _, _⟩); ((first | refine cwalk1 31 ?_ | refine cwalk0 31 ?_); refine ⟨_, fun e w => k4 w, ?_⟩))) | refine go1 ?_ | refine end_block_other rfl ?_ | refine end_scope (fun _ h => by cases h) ?_ | (refine walk_endD ?_ ?_; (· kernel_rfl)) | refine tri_yesA rfl ?_ | refine tri_noA rfl ?_ | refine tri_trueA rfl ?_ | refine tri_falseA rfl ?_)
        exact nx _ (by omega) (by omega) (by exact ent_kp)
    · obtain rfl : j = 2 := by omega
      have hk3 : AX 2 < 3 := by have := hAl 2; omega
      have k3 := fun w => ch (AX 2) hk3 w
      have k4 := fun w => cl (AX 2) hk3 w
      have q3 := bl (AX 2)
      have q4 := bh (AX 2)
      have hPe := hPe (AX 2) (PL (AX 2)) (PH (AX 2)) rfl rfl rfl
      have hky := fun i hi => hky i hi (AX 2)
      clear next hAs hAl hA0 ch cl bl bh hfrto cB hPL hPH
      generalize AX 2 = k at *
      generalize PL k = fr at *
      generalize PH k = to at *
      obtain ⟨i0, hi0⟩ : ∃ i, i ∈ ks := by
        cases ks with
        | nil => simp at hkl; omega
        | cons x t => exact ⟨x, by simp⟩
      have hM : 0 < l.length := Nat.lt_of_le_of_lt (Nat.zero_le _) (hks i0 hi0)
      have hle := hky i0 hi0
      by_cases hft : fr = to
      · rw [if_pos hft] at hPe
        subst hPe
        clear conA conB conC hky hvl hv0
        repeat (first | (show Walk1 _ _ _ (_ :: _) _ _; first | (show HW1 (.move _); refine wz1 ?_) | (show HW1 (.assign _); refine wz13 ?_) | (show HW1 (.binOp .lss _ _ _ _); refine wz5 ?_) | (show HW1 (.binOp .eql _ _ _ _); refine wz18 ?_) | (show HW1 (.load _ _); refine wz3 ?_)) | (show WalkTo _ _ _ _ (_ :: _) _ _ _; first | (show HW2 (.load _ _); first | refine wz24 ?_ | refine wz22 ?_) | (show HW2 (.store _ _ _); refine wz108 ?_) | (show HW2 (.alloc _); refine wz43 ?_) | (show HW2 (.call ⟨.value (.func 31), _, _⟩); ((first | refine cwalk1 31 ?_ | refine cwalk0 31 ?_); refine ⟨_, fun e w => k3 w, ?_⟩)) | (show HW2 (.call ⟨.value (.func 31), _, _⟩); ((first | refine cwalk1 31 ?_ | refine cwalk0 31 ?_); refine ⟨_, fun e w => k4 w, ?_⟩))) | refine go1 ?_ | refine end_block_other rfl ?_ | refine end_scope (fun _ h => by cases h) ?_ | (refine walk_endD ?_ ?_; (· kernel_rfl)) | refine tri_yesA rfl ?_ | refine tri_noA rfl ?_ | refine tri_trueA rfl ?_ | refine tri_falseA rfl ?_)
        refine end_ret _ (res_tmp rfl rfl) ?_
        exact fin_obj rfl rfl (fun _ => rfl) (fun _ => rfl)
      rw [if_neg hft] at hPe
      by_cases hd : d > 31
      · rw [if_pos hd] at hPe
        subst hPe
        have con : ∀ (S' : St) (e : Env) (a : Act) (w' : World), Holds ⟨91, w, [b]⟩ S' e a w' → (e 1000).b = b → S'.res 1000 = some (.blk 1000 3 (.c (segA pre post ks))) → S'.res 3 = some (.blk 3 22 (.l [.c (.slice a0 l.length c0)])) → S'.res 12 = some (.blk 12 3 (.l [.c (.int .i64 ((k : Nat) : Int))])) → Blk w' b (segA pre post ks) 3 →
            Calls Try.prog 32 #[.slice (some ⟨b, pre.length, none⟩) N cap, .func (.func 33) #[] #[.pointer (some ⟨(e 3).b, 0, none⟩), .pointer (some ⟨(e 12).b, 0, none⟩)]] w' (RetP w' b 3 (segA pre post (sortK (kyL l k) ks)) (.tuple #[])) := by
          intro S' e a w' hS hb h1000 h3 h12 hBB
          have n3 : (e 3).b ∉ [b] := by rw [← hb]; simpa using blk_ne hS h3 h1000 rfl
          have n12 : (e 12).b ∉ [b] := by rw [← hb]; simpa using blk_ne hS h12 h1000 rfl
          have B3 := blk_of hS h3
          have B12 := blk_of hS h12
          refine sortF_any pre post ks N cap b _ w' (kyL l k) (fun x y => kyL l k x - kyL l k y) l.length (fun x y _ _ => by omega) hM hks hN (by omega) ⟨33, _, ⟨_, rfl, tabAll_look calT_ok rfl⟩, fun w2 hw2 x y hx hy => ?_⟩ hBB
          exact conA k hk3 _ _ w2 (B3.laterX hw2 n3) (B12.laterX hw2 n12) ((hvl.later hS.frame.belowX).later hw2).rd x y hx hy
        clear conA conB conC hky hvl hv0
        repeat (first | (show Walk1 _ _ _ (_ :: _) _ _; first | (show HW1 (.move _); refine wz1 ?_) | (show HW1 (.binOp .lss _ _ _ _); refine wz5 ?_) | (show HW1 (.binOp .gtr _ _ _ _); refine wz33 ?_) | (show HW1 (.binOp .eql _ _ _ _); refine wz18 ?_) | (show HW1 (.load _ _); refine wz3 ?_)) | (show WalkTo _ _ _ _ (_ :: _) _ _ _; first | (show HW2 (.load _ _); first | refine wz24 ?_ | refine wz22 ?_) | (show HW2 (.store _ _ _); refine wz108 ?_) | (show HW2 (.alloc _); refine wz43 ?_) | (show HW2 (.call ⟨.value (.func 31), _, _⟩); ((first | refine cwalk1 31 ?_ | refine cwalk0 31 ?_); refine ⟨_, fun e w => k3 w, ?_⟩)) | (show HW2 (.call ⟨.value (.func 31), _, _⟩); ((first | refine cwalk1 31 ?_ | refine cwalk0 31 ?_); refine ⟨_, fun e w => k4 w, ?_⟩))) | refine go1 ?_ | refine end_block_other rfl ?_ | refine end_scope (fun _ h => by cases h) ?_ | (refine walk_endD ?_ ?_; (· kernel_rfl)) | refine tri_yesA rfl ?_ | refine tri_noA rfl ?_ | refine tri_trueA rfl ?_ | refine tri_falseA rfl ?_)
        refine walk1_t (op_makeFn rfl rfl rfl evq) ?_
        refine walk1_tb (op_callWE (vs := [.c (.slice (some ⟨b, pre.length, none⟩) N cap), .clo 33 [.p 3 0, .p 12 0]]) [3, 12] rfl rfl rfl evq rfl rfl rfl (fun S' e a w' hS hb hq hB => con S' e a w' hS hb (hq 1000 (by simp)) (hq 3 (by simp)) (hq 12 (by simp)) hB)) ?_
        repeat (first | (show Walk1 _ _ _ (_ :: _) _ _; first | (show HW1 (.move _); refine wz1 ?_) | (show HW1 (.assign _); refine wz2 ?_) | (show HW1 (.binOp .quo _ _ _ _); refine walk1_t (op_divN rfl rfl rfl evn evn (by omega)) ?_) | (show HW1 (.call ⟨.builtin .len, _, _⟩); refine wz39 ?_)) | refine go1 ?_ | refine end_block_other rfl ?_ | refine end_scope (fun _ h => by cases h) ?_ | (refine walk_endD ?_ ?_; (· kernel_rfl)) | refine tri_yesA rfl ?_ | refine tri_noA rfl ?_ | refine tri_trueA rfl ?_ | refine tri_falseA rfl ?_)
        refine end_ret _ (res_tmp rfl rfl) ?_
        exact fin_obj rfl rfl (fun _ => rfl) (fun _ => rfl)
      · rw [if_neg hd] at hPe
        obtain ⟨c, hcu⟩ : ∃ c, c = cutL l ks k fr to := ⟨_, rfl⟩
        have cC := fun vo w => conC k hk3 fr to q3 q4 (by omega) hky vo w
        rw [← hcu] at hPe cC
        rw [hkl] at cC
        obtain ⟨r, hr⟩ : ∃ r, r = rgL l k fr to ((c : Nat) : Int) := ⟨_, rfl⟩
        have cB := fun b1 b2 b3 b4 b5 w => conB k hk3 fr to ((c : Nat) : Int) q3 q4 (by omega) b1 b2 b3 b4 b5 w
        rw [← hr] at hPe cB
        obtain ⟨ks2, hks2⟩ : ∃ x, x = sortK (rkL r) ks := ⟨_, rfl⟩
        rw [← hks2] at hPe
        subst hPe
        dsimp only
        have hkl2 : ks2.length = N := by rw [hks2, sortK_len, hkl]
        have hks3 : ∀ x ∈ ks2, x < l.length := fun x hx => hks x (by rw [hks2] at hx; exact sortK_mem.1 hx)
        have mk : ∀ (S' : St) (e : Env) (a : Act) (w' : World), Holds ⟨91, w, [b]⟩ S' e a w' → (e 1000).b = b → (∃ A, S'.res 1000 = some (.blk 1000 3 A)) → S'.res 3 = some (.blk 3 22 (.l [.c (.slice a0 l.length c0)])) → S'.res 12 = some (.blk 12 3 (.l [.c (.int .i64 ((k : Nat) : Int))])) → S'.res 14 = some (.blk 14 3 (.c #[.int .i64 fr])) → S'.res 15 = some (.blk 15 3 (.c #[.int .i64 to])) → S'.res 16 = some (.blk 16 3 (.c #[.int .i64 ((c : Nat) : Int)])) → ∀ m w2, BelowX w' w2 [b] → (∀ w3, BelowX w2 w3 m → BelowX w2 w3 [b]) →
            AskOK w2 m (.func (.func 35) #[] #[.pointer (some ⟨(e 3).b, 0, none⟩), .pointer (some ⟨(e 12).b, 0, none⟩), .pointer (some ⟨(e 14).b, 0, none⟩), .pointer (some ⟨(e 15).b, 0, none⟩), .pointer (some ⟨(e 16).b, 0, none⟩)]) l.length r := by
          intro S' e a w' hS hb h1000 h3 h12 h14 h15 h16 m w2 hw2 hm
          obtain ⟨A1000, h1000⟩ := h1000
          have n3 : (e 3).b ∉ [b] := by rw [← hb]; simpa using blk_ne hS h3 h1000 rfl
          have n12 : (e 12).b ∉ [b] := by rw [← hb]; simpa using blk_ne hS h12 h1000 rfl
          have n14 : (e 14).b ∉ [b] := by rw [← hb]; simpa using blk_ne hS h14 h1000 rfl
          have n15 : (e 15).b ∉ [b] := by rw [← hb]; simpa using blk_ne hS h15 h1000 rfl
          have n16 : (e 16).b ∉ [b] := by rw [← hb]; simpa using blk_ne hS h16 h1000 rfl
          refine ⟨35, _, ⟨_, rfl, tabAll_look calT_ok rfl⟩, fun w3 hw3 x hx => ?_⟩
          have hw := hw2.trans (hm w3 hw3)
          exact cB _ _ _ _ _ w3 ((blk_of hS h3).laterX hw n3) ((blk_of hS h12).laterX hw n12) ((blk_of hS h14).laterX hw n14) ((blk_of hS h15).laterX hw n15) ((blk_of hS h16).laterX hw n16) ((hvl.later hS.frame.belowX).later hw).rd x hx
        have con1 : ∀ (S' : St) (e : Env) (a : Act) (w' : World), Holds ⟨91, w, [b]⟩ S' e a w' → (e 1000).b = b → S'.res 1000 = some (.blk 1000 3 (.c (segA pre post ks))) → S'.res 3 = some (.blk 3 22 (.l [.c (.slice a0 l.length c0)])) → S'.res 12 = some (.blk 12 3 (.l [.c (.int .i64 ((k : Nat) : Int))])) → S'.res 14 = some (.blk 14 3 (.c #[.int .i64 fr])) → S'.res 15 = some (.blk 15 3 (.c #[.int .i64 to])) → S'.res 16 = some (.blk 16 3 (.c #[.int .i64 ((c : Nat) : Int)])) → S'.res 17 = some (.blk 17 69 (.l [.clo 35 [.p 3 0, .p 12 0, .p 14 0, .p 15 0, .p 16 0]])) → Blk w' b (segA pre post ks) 3 →
            Calls Try.prog 32 #[.slice (some ⟨b, pre.length, none⟩) N cap, .func (.func 37) #[] #[.pointer (some ⟨(e 17).b, 0, none⟩)]] w' (RetP w' b 3 (segA pre post ks2) (.tuple #[])) := by
          intro S' e a w' hS hb h1000 h3 h12 h14 h15 h16 h17 hBB
          have n17 : (e 17).b ∉ [b] := by rw [← hb]; simpa using blk_ne hS h17 h1000 rfl
          have B17 := blk_of hS h17
          rw [hks2]
          refine sortF_any pre post ks N cap b _ w' (rkL r) (cmB r) l.length (fun x y _ _ => cmB_key r x y) hM hks hN (by omega) ⟨37, _, ⟨_, rfl, tabAll_look calT_ok rfl⟩, fun w2 hw2 x y hx hy => ?_⟩ hBB
          exact cmpB_any r l.length _ _ w2 (B17.laterX hw2 n17) (mk S' e a w' hS hb ⟨_, h1000⟩ h3 h12 h14 h15 h16 [] w2 hw2 (fun w3 h => h.more (by simp))) x y hx hy
        have con2 : ∀ (S' : St) (e : Env) (a : Act) (w' : World), Holds ⟨91, w, [b]⟩ S' e a w' → (e 1000).b = b → S'.res 1000 = some (.blk 1000 3 (.c (segA pre post ks2))) → S'.res 3 = some (.blk 3 22 (.l [.c (.slice a0 l.length c0)])) → S'.res 12 = some (.blk 12 3 (.l [.c (.int .i64 ((k : Nat) : Int))])) → S'.res 14 = some (.blk 14 3 (.c #[.int .i64 fr])) → S'.res 15 = some (.blk 15 3 (.c #[.int .i64 to])) → S'.res 16 = some (.blk 16 3 (.c #[.int .i64 ((c : Nat) : Int)])) → Blk w' b (segA pre post ks2) 3 →
            Calls Try.prog 38 #[.slice (some ⟨b, pre.length, none⟩) N cap, .func (.func 35) #[] #[.pointer (some ⟨(e 3).b, 0, none⟩), .pointer (some ⟨(e 12).b, 0, none⟩), .pointer (some ⟨(e 14).b, 0, none⟩), .pointer (some ⟨(e 15).b, 0, none⟩), .pointer (some ⟨(e 16).b, 0, none⟩)]] w' (RetP w' b 3 (segA pre post ks2) (.int .i64 (idxL r ks2 0))) := by
          intro S' e a w' hS hb h1000 h3 h12 h14 h15 h16 hBB
          exact indexF_any pre post ks2 N cap b _ w' r l.length hM hks3 hkl2.symm (by omega) (mk S' e a w' hS hb ⟨_, h1000⟩ h3 h12 h14 h15 h16 [b] w' (BelowX.refl _ _) (fun w3 h => h)) hBB
        clear conA conB conC hky mk hv0 cB hks2 hr
        repeat (first | (show Walk1 _ _ _ (_ :: _) _ _; first | (show HW1 (.move _); refine wz1 ?_) | (show HW1 (.binOp .lss _ _ _ _); refine wz5 ?_) | (show HW1 (.binOp .gtr _ _ _ _); refine wz33 ?_) | (show HW1 (.binOp .eql _ _ _ _); refine wz18 ?_) | (show HW1 (.load _ _); refine wz3 ?_) | (show HW1 (.store _ _ _); refine wz50 ?_) | (show HW1 (.alloc _); refine wz6 ?_) | (show HW1 (.call ⟨.value (.func 34), _, _⟩); (refine cwalk1M 34 ?_; refine ⟨_, _, callM_2 (rdn_oldR hvl) (rdn_segI rfl rfl hN) (fun e w h1 h2 => cC _ w h1 h2), ?_⟩))) | (show WalkTo _ _ _ _ (_ :: _) _ _ _; first | (show HW2 (.load _ _); first | refine wz24 ?_ | refine wz22 ?_) | (show HW2 (.store _ _ _); refine wz108 ?_) | (show HW2 (.alloc _); refine wz43 ?_) | (show HW2 (.call ⟨.value (.func 31), _, _⟩); ((first | refine cwalk1 31 ?_ | refine cwalk0 31 ?_); refine ⟨_, fun e w => k3 w, ?_⟩)) | (show HW2 (.call ⟨.value (.func 31), _, _⟩); ((first | refine cwalk1 31 ?_ | refine cwalk0 31 ?_); refine ⟨_, fun e w => k4 w, ?_⟩))) | refine go1 ?_ | refine end_block_other rfl ?_ | refine end_scope (fun _ h => by cases h) ?_ | (refine walk_endD ?_ ?_; (· kernel_rfl)) | refine tri_yesA rfl ?_ | refine tri_noA rfl ?_ | refine tri_trueA rfl ?_ | refine tri_falseA rfl ?_)
        refine walk1_t (op_makeFn rfl rfl rfl evq) ?_
        repeat (first | (show Walk1 _ _ _ (_ :: _) _ _; (show HW1 (.alloc _); refine wz6 ?_)) | refine go1 ?_ | refine end_block_other rfl ?_ | refine end_scope (fun _ h => by cases h) ?_ | (refine walk_endD ?_ ?_; (· kernel_rfl)) | refine tri_yesA rfl ?_ | refine tri_noA rfl ?_ | refine tri_trueA rfl ?_ | refine tri_falseA rfl ?_)
        refine walk1_b (op_store (A' := .l [.clo 35 [.p 3 0, .p 12 0, .p 14 0, .p 15 0, .p 16 0]]) rfl rfl rfl rfl rfl rfl rfl (fun _ => rfl) (fun _ => Nat.one_pos) (fun _ => rfl)) ?_
        repeat (first | (show Walk1 _ _ _ (_ :: _) _ _; (show HW1 (.move _); refine wz1 ?_)) | refine go1 ?_ | refine end_block_other rfl ?_ | refine end_scope (fun _ h => by cases h) ?_ | (refine walk_endD ?_ ?_; (· kernel_rfl)) | refine tri_yesA rfl ?_ | refine tri_noA rfl ?_ | refine tri_trueA rfl ?_ | refine tri_falseA rfl ?_)
        refine walk1_t (op_makeFn rfl rfl rfl evq) ?_
        refine walk1_tb (op_callWE (vs := [.c (.slice (some ⟨b, pre.length, none⟩) N cap), .clo 37 [.p 17 0]]) [3, 12, 14, 15, 16, 17] rfl rfl rfl evq rfl rfl rfl (fun S' e a w' hS hb hq hB => con1 S' e a w' hS hb (hq 1000 (by simp)) (hq 3 (by simp)) (hq 12 (by simp)) (hq 14 (by simp)) (hq 15 (by simp)) (hq 16 (by simp)) (hq 17 (by simp)) hB)) ?_
        repeat (first | (show Walk1 _ _ _ (_ :: _) _ _; first | (show HW1 (.move _); refine wz1 ?_) | (show HW1 (.load _ _); refine wz3 ?_)) | refine go1 ?_ | refine end_block_other rfl ?_ | refine end_scope (fun _ h => by cases h) ?_ | (refine walk_endD ?_ ?_; (· kernel_rfl)) | refine tri_yesA rfl ?_ | refine tri_noA rfl ?_ | refine tri_trueA rfl ?_ | refine tri_falseA rfl ?_)
        refine walk1_tb (op_callWE (vs := [.c (.slice (some ⟨b, pre.length, none⟩) N cap), .clo 35 [.p 3 0, .p 12 0, .p 14 0, .p 15 0, .p 16 0]]) [3, 12, 14, 15, 16] rfl rfl rfl evq rfl rfl rfl (fun S' e a w' hS hb hq hB => con2 S' e a w' hS hb (hq 1000 (by simp)) (hq 3 (by simp)) (hq 12 (by simp)) (hq 14 (by simp)) (hq 15 (by simp)) (hq 16 (by simp)) hB)) ?_
        repeat (first | (show Walk1 _ _ _ (_ :: _) _ _; (show HW1 (.assign _); refine wz2 ?_)) | refine go1 ?_ | refine end_block_other rfl ?_ | refine end_scope (fun _ h => by cases h) ?_ | (refine walk_endD ?_ ?_; (· kernel_rfl)) | refine tri_yesA rfl ?_ | refine tri_noA rfl ?_ | refine tri_trueA rfl ?_ | refine tri_falseA rfl ?_)
        refine end_ret _ (res_tmp rfl rfl) ?_
        exact fin_obj rfl rfl (fun _ => rfl) (fun _ => rfl)
end Go.Proofs.Ytcgmapioelfneaa
namespace Go.Proofs.Ytcgmapioelfneaa
open Go.RowKit
set_option maxRecDepth 100000
set_option maxHeartbeats 1000000
variable {C : Ctx} {ops : Array Oper} {S : St} {o : Oper}
theorem op_callSub {f : FuncId} {xs : Array Operand} {ats : Array TypeId} {j q T len lo cnt : Nat} {K ks' : List Nat} {v : Value} {vs1 vs2 : List SV} (ho : o.op = .call { callee := .value (.func f), args := xs, argTypes := ats }) (hg : o.guard = none) (hd : dstB o.dst C.nt = true) (hxs : EvS S xs.toList (vs1 ++ SV.sub q lo cnt :: vs2)) (hc' : tabLook calT f = some j)
    (hr : S.res q = some (.own q T 1 len (K.map intV))) (hlen : lo + cnt ≤ len) (h0 : 0 < cnt) (hks : ks'.length = cnt)
    (hcon : ∀ (S' : St) e a w, Holds C S' e a w → ∀ b cap pre post, C.mine b → pre.length = lo → Blk w b (segA pre post ((K.drop lo).take cnt)) T → Calls Try.prog j (vs1.map (·.den e) ++ Value.slice (some ⟨b, pre.length, none⟩) cnt cap :: vs2.map (·.den e)).toArray w (RetP w b T (segA pre post ks') v)) :
    OpG C Try.prog ops o S ⟨xs.toList.flatMap opT, [q], dw o.dst (.c v), [(q, some (.own q T 1 len ((K.take lo ++ (ks' ++ K.drop (lo + cnt))).map intV)))], []⟩ := by
  refine opG_mk hg fun S' h1 h2 h3 e a w hS => ?_
  unfold Oper.wp
  have hr' := (h2 q (by simp)).trans hr
  have hok : w.ownsRow 0 T 1 (e q).v len (K.map intV) := hS.res q _ hr'
  have hKl : K.length = len := by have := hok.1; rw [List.length_map, Nat.mul_one] at this; exact this
  rcases hok.2 with ⟨_, h0'⟩ | ⟨g, cap, cur, hev, _, hb, hnc, hcm, hcs, htk⟩
  · omega
  have hg0 : (e q).v.ownBlock = some g := by rw [hev]; rfl
  have hmine : C.mine g := hS.mine q _ hr' rfl g hg0
  rw [Nat.mul_one] at hcs htk
  obtain ⟨pre, hpre⟩ : ∃ p, p = (K.take lo).map intV := ⟨_, rfl⟩
  obtain ⟨post, hpost⟩ : ∃ p, p = (K.drop (lo + cnt)).map intV ++ cur.toList.drop len := ⟨_, rfl⟩
  have hpl : pre.length = lo := by rw [hpre, List.length_map, List.length_take]; omega
  have hK : K.take lo ++ ((K.drop lo).take cnt ++ K.drop (lo + cnt)) = K := by rw [← List.drop_drop, List.take_append_drop, List.take_append_drop]
  have hcur : cur = segA pre post ((K.drop lo).take cnt) := by
    apply Array.ext'
    have e1 : cur.toList = cur.toList.take len ++ cur.toList.drop len := (List.take_append_drop _ _).symm
    rw [e1, htk]
    conv => lhs; rw [← hK]
    simp [segA, hpre, hpost]
  have hB : Blk w g (segA pre post ((K.drop lo).take cnt)) T := by rw [← hcur]; exact hb
  have hden : (SV.sub q lo cnt).den e = .slice (some ⟨g, pre.length, none⟩) cnt (cap - lo) := by
    show cutV (e q).v lo cnt = _
    rw [hev]
    show Value.slice (if cap = lo then _ else _) cnt (cap - lo) = _
    rw [if_neg (by omega), hpl]
    simp [add_place]
  have hargs : ((vs1 ++ SV.sub q lo cnt :: vs2).map (·.den e)).toArray = (vs1.map (·.den e) ++ Value.slice (some ⟨g, pre.length, none⟩) cnt (cap - lo) :: vs2.map (·.den e)).toArray := by
    rw [List.map_append, List.map_cons, hden]
  rw [call_hop ho hxs hc' h1 hS, hargs]
  refine Calls.mono (hcon S' e a w hS g (cap - lo) pre post hmine hpl hB) ?_
  rintro r w' ⟨rfl, hb2, hx⟩
  have hnew : w'.ownsRow 0 T 1 (e q).v len ((K.take lo ++ (ks' ++ K.drop (lo + cnt))).map intV) := by
    refine ⟨by simp only [List.length_map, List.length_append, List.length_take, List.length_drop, hks]; omega, .inr ⟨g, cap, _, hev, Nat.zero_le _, hb2, hnc, hcm, ?_, ?_⟩⟩
    · rw [segA_size, hpl, hpost, hks]
      simp only [List.length_append, List.length_map, List.length_drop, Array.length_toList]
      omega
    · rw [Nat.mul_one]
      have e1 : (segA pre post ks').toList = (K.take lo ++ (ks' ++ K.drop (lo + cnt))).map intV ++ cur.toList.drop len := by simp [segA, hpre, hpost]
      rw [e1, List.take_append_of_le_length (by simp only [List.length_map, List.length_append, List.length_take, List.length_drop, hks]; omega), List.take_of_length_le (by simp only [List.length_map, List.length_append, List.length_take, List.length_drop, hks]; omega)]
  exact ⟨e, (hS.ownChg hr' hg0 hx hnew).put hd (.c v)⟩
theorem op_bsliceQ {t T n sz : Nat} {parts : Array (Nat × Operand)} {x0 x1 : Operand} {A0 A1 : Array Value} {Z : Array Value} (ho : o.op = .buildSlice t 2 parts) (hp : parts = #[(0, x0), (1, x1)]) (hdn : o.dst = some n) (hg : o.guard = none) (hd : dstB o.dst C.nt = true)
    (h0 : S.ev x0 = some (.c (.agg A0))) (h1 : S.ev x1 = some (.c (.agg A1))) (hu' : tabLook undT t = some (.slice T)) (hs' : tabLook sizT T = some sz) (hz' : tabLook zerT T = some Z) (hsz : (decide (0 < sz) && decide (sz < 1000)) = true)
    (hf : Instr.fill (fun i => some (i * sz, sz)) ((Array.range (2 * sz)).map fun x => Z[x % Z.size]!) [(0, .agg A0), (1, .agg A1)] = some (A0 ++ A1)) :
    OpG C Try.prog ops o S ⟨[x0, x1].flatMap opT, [], [(n, .s n 0 2 2)], [(n, some (.blk n T (.c (A0 ++ A1))))], [n]⟩ := by
  refine opG_mk hg fun S' g1 g2 g3 e a w hS => ?_
  simp only [Bool.and_eq_true, decide_eq_true_eq] at hsz
  have hN := hS.newBlk (g3 n (by simp)) T (.c (A0 ++ A1)) (by simp [SA.c])
  have e0 : a.eval x0 = .agg A0 := hS.ev ((ev_like g1 fun _ h => List.mem_flatMap.2 ⟨x0, by simp, h⟩).trans h0)
  have e1 : a.eval x1 = .agg A1 := hS.ev ((ev_like g1 fun _ h => List.mem_flatMap.2 ⟨x1, by simp, h⟩).trans h1)
  have hu := tabAll_look undT_ok hu'
  have hz := tabAll_look zerT_ok hz'
  obtain ⟨zv, hz3, hzc⟩ : ∃ zv, (zeroValue T).run Try.prog w = .ok zv w ∧ zv.cells = Z := by
    cases hb : (Try.prog.info? T) with
    | none => simp [hb] at hz
    | some i =>
      cases hc : i.zero with
      | none => simp [hb, hc] at hz
      | some zz => exact ⟨zz, by simp [zeroValue, typeInfo, hb, hc], by simpa [hb, hc] using hz⟩
  refine wp_value (v := .slice (some ⟨w.heap.size, 0, none⟩) 2 2) (w' := w.alloc (.cells (A0 ++ A1) T)) ?_ ⟨e.set n ⟨w.heap.size, 0, undef⟩, ?_⟩
  · simp only [execOp, ho, hp, Instr.buildSlice, Sem.run_bind, run_underlying hu w, Result.andThen_ok, run_sizeT hs' w, Sem.run_ite]
    rw [if_neg (by omega), if_neg (by omega)]
    simp only [Sem.run_bind, hz3, Result.andThen_ok, Sem.run_pure, hzc, List.map_toArray, List.map_cons, List.map_nil, e0, e1, hf]
    simp [newRow]
  · rw [hdn]
    have hd' : dstB (some n) C.nt = true := by rw [← hdn]; exact hd
    have := hN.put hd' (.s n 0 2 2)
    simp only [SV.s, Env.set_self] at this
    exact this
end Go.Proofs.Ytcgmapioelfneaa
namespace Go.Proofs.Ytcgmapioelfneaa
open Go.RowKit
set_option maxRecDepth 100000
set_option maxHeartbeats 1000000
theorem idxL_in (c : Nat → Bool) : ∀ (ks : List Nat) (i : Nat), idxL c ks i = -1 ∨ ((i : Int) ≤ idxL c ks i ∧ idxL c ks i < ((i + ks.length : Nat) : Int))
  | [], _ => .inl rfl
  | x :: t, i => by
    rw [idxL]
    split
    · right; rw [List.length_cons]; omega
    · rcases idxL_in c t (i + 1) with h | h
      · exact .inl h
      · right; rw [List.length_cons]; omega
theorem partL_lt (l : List TriS) (ks : List Nat) (d : Nat) : (partL l ks d).2.length = ks.length ∧ (∀ x, x ∈ (partL l ks d).2 ↔ x ∈ ks) ∧ (partL l ks d).2.Perm ks ∧ (0 < (partL l ks d).1 → (partL l ks d).1 < (ks.length : Int)) := by
  rw [partL_eq l ks d rfl rfl rfl rfl]
  split
  · exact ⟨rfl, fun x => Iff.rfl, List.Perm.refl _, fun h => absurd h (Int.lt_irrefl 0)⟩
  · split
    · exact ⟨rfl, fun x => Iff.rfl, List.Perm.refl _, fun h => absurd h (Int.lt_irrefl 0)⟩
    · split
      · refine ⟨sortK_len _, fun x => sortK_mem, (sortK_ok _).2.perm, fun _ => ?_⟩
        dsimp only
        omega
      · refine ⟨sortK_len _, fun x => sortK_mem, (sortK_ok _).2.perm, fun h => ?_⟩
        dsimp only at h ⊢
        rcases idxL_in (rgL l (axN (boxP (msL l ks)).1 (boxP (msL l ks)).2 2) (axP (boxP (msL l ks)).1 (axN (boxP (msL l ks)).1 (boxP (msL l ks)).2 2)) (axP (boxP (msL l ks)).2 (axN (boxP (msL l ks)).1 (boxP (msL l ks)).2 2)) ((cutL l ks (axN (boxP (msL l ks)).1 (boxP (msL l ks)).2 2) (axP (boxP (msL l ks)).1 (axN (boxP (msL l ks)).1 (boxP (msL l ks)).2 2)) (axP (boxP (msL l ks)).2 (axN (boxP (msL l ks)).1 (boxP (msL l ks)).2 2)) : Nat) : Int)) _ 0 with h2 | h2
        · rw [h2] at h; exact absurd h (by decide)
        · have := h2.2
          rw [sortK_len, Nat.zero_add] at this
          exact this
/-- A node that is still to be parted. -/
structure TodoS where
  node : Nat
  first : Nat
  count : Nat
  deep : Nat
def todoC (t : TodoS) : List Value := [.int .i64 ((t.node : Nat) : Int), .int .i64 ((t.first : Nat) : Int), .int .i64 ((t.count : Nat) : Int), .int .i64 ((t.deep : Nat) : Int)]
def todosC (S : List TodoS) : List Value := S.flatMap todoC
structure BSt where
  N : List NodeS
  K : List Nat
  S : List TodoS
def zN : NodeS := ⟨zP, zP, 0, 0, 0, 0⟩
def partK (l : List TriS) (K : List Nat) (t : TodoS) : Int × List Nat := partL l ((K.drop t.first).take t.count) t.deep
def boxK (l : List TriS) (K : List Nat) (t : TodoS) : P3 × P3 := bbN l ((K.drop t.first).take t.count) t.count
/-- One node parted, or made a leaf. -/
def stepQ (l : List TriS) (N : List NodeS) (K : List Nat) (S : List TodoS) (t : TodoS) : BSt :=
  if 0 < (partK l K t).1 then
    ⟨(N ++ [zN, zN]).set t.node ⟨(boxK l K t).1, (boxK l K t).2, ((N.length : Nat) : Int), ((N.length + 1 : Nat) : Int), 0, 0⟩, K.take t.first ++ ((partK l K t).2 ++ K.drop (t.first + t.count)),
      S ++ [⟨N.length + 1, t.first + (partK l K t).1.toNat, t.count - (partK l K t).1.toNat, t.deep + 1⟩, ⟨N.length, t.first, (partK l K t).1.toNat, t.deep + 1⟩]⟩
  else ⟨N.set t.node ⟨(boxK l K t).1, (boxK l K t).2, -1, -1, ((t.first : Nat) : Int), ((t.count : Nat) : Int)⟩, K.take t.first ++ ((partK l K t).2 ++ K.drop (t.first + t.count)), S⟩
def stepB (l : List TriS) (s : BSt) : BSt := match s.S.getLast? with
  | none => s
  | some t => stepQ l s.N s.K s.S.dropLast t
theorem stepB_snoc (l : List TriS) (N : List NodeS) (K : List Nat) (S : List TodoS) (t : TodoS) : stepB l ⟨N, K, S ++ [t]⟩ = stepQ l N K S t := by
  unfold stepB
  simp
def runB (l : List TriS) : Nat → BSt → BSt
  | 0, s => s
  | f + 1, s => if s.S.isEmpty then s else runB l f (stepB l s)
theorem runB_end (l : List TriS) (f : Nat) (N : List NodeS) (K : List Nat) : runB l f ⟨N, K, []⟩ = ⟨N, K, []⟩ := by
  cases f <;> rfl
theorem runB_step (l : List TriS) (f : Nat) (N : List NodeS) (K : List Nat) (S : List TodoS) (t : TodoS) : runB l (f + 1) ⟨N, K, S ++ [t]⟩ = runB l f (stepQ l N K S t) := by
  rw [runB, stepB_snoc, if_neg (by simp)]
def muS (S : List TodoS) : Nat := (S.map fun t => 2 * t.count - 1).sum
theorem muS_app (S S' : List TodoS) : muS (S ++ S') = muS S + muS S' := by simp [muS]
structure GoodB (l : List TriS) (n : Nat) (s : BSt) : Prop where
  len : s.K.length = n
  dom : ∀ k ∈ s.K, k < l.length
  todo : ∀ t ∈ s.S, t.node < s.N.length ∧ 1 ≤ t.count ∧ t.first + t.count ≤ n ∧ t.deep + t.count ≤ n + 1
  size : s.N.length + 2 * muS s.S ≤ 4 * n
theorem muS_len : ∀ (S : List TodoS), (∀ t ∈ S, 1 ≤ t.count) → S.length ≤ muS S
  | [], _ => Nat.zero_le _
  | t :: S, h => by
    have h1 := muS_len S fun x hx => h x (List.mem_cons_of_mem _ hx)
    have h2 := h t (by simp)
    have : muS (t :: S) = (2 * t.count - 1) + muS S := by simp [muS]
    rw [this, List.length_cons]
    omega
theorem good_step {l : List TriS} {n : Nat} {N : List NodeS} {K : List Nat} {S : List TodoS} {t : TodoS} (h : GoodB l n ⟨N, K, S ++ [t]⟩) : GoodB l n (stepQ l N K S t) ∧ muS (stepQ l N K S t).S < muS (S ++ [t]) := by
  obtain ⟨h1, h2, h3, h4⟩ := h
  dsimp only at h1 h2 h3 h4
  obtain ⟨t1, t2, t3, t4⟩ := h3 t (by simp)
  have hS : ∀ x ∈ S, x.node < N.length ∧ 1 ≤ x.count ∧ x.first + x.count ≤ n ∧ x.deep + x.count ≤ n + 1 := fun x hx => h3 x (by simp [hx])
  have hol : ((K.drop t.first).take t.count).length = t.count := by simp; omega
  obtain ⟨p1, p2, _, p3⟩ := partL_lt l ((K.drop t.first).take t.count) t.deep
  rw [hol] at p1 p3
  have hKl : (K.take t.first ++ ((partK l K t).2 ++ K.drop (t.first + t.count))).length = n := by
    simp only [List.length_append, List.length_take, List.length_drop]
    unfold partK
    rw [p1]; omega
  have hKd : ∀ k ∈ K.take t.first ++ ((partK l K t).2 ++ K.drop (t.first + t.count)), k < l.length := by
    intro k hk
    simp only [List.mem_append] at hk
    rcases hk with hk | hk | hk
    · exact h2 k (List.mem_of_mem_take hk)
    · exact h2 k (List.mem_of_mem_drop (List.mem_of_mem_take ((p2 k).1 hk)))
    · exact h2 k (List.mem_of_mem_drop hk)
  rw [muS_app] at h4 ⊢
  have m1 : muS [t] = 2 * t.count - 1 := by simp [muS]
  rw [m1] at h4 ⊢
  unfold stepQ
  split
  · rename_i hp
    have p3 := p3 hp
    have hat : (partK l K t).1.toNat < t.count ∧ 0 < (partK l K t).1.toNat := by unfold partK at *; omega
    have m2 : ∀ a b : TodoS, muS [a, b] = (2 * a.count - 1) + (2 * b.count - 1) := fun a b => by simp [muS]
    refine ⟨⟨hKl, hKd, fun x hx => ?_, ?_⟩, ?_⟩
    · dsimp only at hx ⊢
      rw [List.length_set, List.length_append, List.length_cons, List.length_cons, List.length_nil]
      simp only [List.mem_append, List.mem_cons, List.not_mem_nil, or_false] at hx
      rcases hx with hx | rfl | rfl
      · have := hS x hx; omega
      · dsimp only; omega
      · dsimp only; omega
    · dsimp only
      rw [List.length_set, List.length_append, List.length_cons, List.length_cons, List.length_nil, muS_app, m2]
      dsimp only
      omega
    · dsimp only
      rw [muS_app, m2]
      dsimp only
      omega
  · refine ⟨⟨hKl, hKd, fun x hx => ?_, ?_⟩, ?_⟩
    · dsimp only at hx ⊢
      rw [List.length_set]
      exact hS x hx
    · dsimp only
      rw [List.length_set]
      omega
    · dsimp only
      omega
/-- The tree of some triangles: its nodes, its order. -/
def treeL (l : List TriS) : List NodeS × List Nat := if l.length = 0 then ([], []) else ((runB l (2 * l.length) ⟨[zN], List.range l.length, [⟨0, 0, l.length, 1⟩]⟩).N, (runB l (2 * l.length) ⟨[zN], List.range l.length, [⟨0, 0, l.length, 1⟩]⟩).K)
theorem good_start (l : List TriS) (h : 0 < l.length) : GoodB l l.length ⟨[zN], List.range l.length, [⟨0, 0, l.length, 1⟩]⟩ := by
  refine ⟨List.length_range, fun k hk => List.mem_range.1 hk, fun t ht => ?_, ?_⟩
  · simp only [List.mem_singleton] at ht
    subst ht
    simp
    omega
  · simp [muS]; omega
end Go.Proofs.Ytcgmapioelfneaa
