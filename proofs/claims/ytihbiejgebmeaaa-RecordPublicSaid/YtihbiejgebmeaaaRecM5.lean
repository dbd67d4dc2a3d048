/- A scene cut short, by the law: walked. No condition. -/
import Derived.Test.YtihbiejgebmeaaaRecM0
import Derived.Test.YtihbiejgebmeaaaSymAGJ
namespace Go.Proofs.Ytihbiejgebmeaaa
open Go.RowKit
set_option maxRecDepth 100000
set_option maxHeartbeats 1000000
def cutN (sz : Nat) (v : Value) (n k : Nat) : Value := cutZ sz v 0 (min n k - 0)
def fewT (t : TexR) : TexR := ⟨t.side, cutN 3 t.sl t.px.length 260, t.px.take 260⟩
def fewS (s : ScnR) : ScnR := ⟨s.tris.take 20, s.mats.take 8, (s.texs.take 4).map fewT, s.lits.take 5, s.ids.take 20, s.labs.take 20, s.label, s.frm, s.til⟩
def fewV (s : ScnR) (v : ScnV) (u : Value) : ScnV := ⟨cutN 19 v.t s.tris.length 20, cutN 5 v.m s.mats.length 8, u, cutN 13 v.l s.lits.length 5, cutN 1 v.i s.ids.length 20, cutN 1 v.b s.labs.length 20⟩
/-- A scene that can be read and cut. -/
structure ScnFS (w : World) (s : ScnR) (v : ScnV) : Prop where
  t : FS w 19 v.t s.tris.length (s.tris.flatMap TriR.c)
  m : FS w 5 v.m s.mats.length (s.mats.flatMap MatR.c)
  x : FS w 2 v.x s.texs.length (s.texs.flatMap TexR.c)
  px : ∀ t ∈ s.texs, FS w 3 t.sl t.px.length (pxL t.px)
  l : FS w 13 v.l s.lits.length (s.lits.flatMap LitR.c)
  i : FS w 1 v.i s.ids.length (valsL .u64 s.ids)
  b : FS w 1 v.b s.labs.length (valsL .u32 s.labs)
attribute [local irreducible] Calls Walk1 WalkTo Tri EndA
theorem few28_any (s : ScnR) (v : ScnV) (w : World) (hr : ScnFS w s v) :
    Calls Try.prog 5 #[.agg (scnA s v)] w (RetF w 61 2 (fewS s).texs.length ((fewS s).texs.flatMap TexR.c) fun u => scnA (fewS s) (fewV s v (slV u))) := by
  obtain ⟨tris, mats, texs, lits, ids, labs, lb, fr, tl⟩ := s
  obtain ⟨vT, vM, vX, vL, vI, vB⟩ := v
  obtain ⟨rT, rM, rX, rP, rL, rI, rB⟩ := hr
  simp only [fewS, fewV] at *
  obtain ⟨dT, cT, rfl, gT⟩ := rT.2
  obtain ⟨dM, cM, rfl, gM⟩ := rM.2
  obtain ⟨dX, cX, rfl, gX⟩ := rX.2
  obtain ⟨dL, cL, rfl, gL⟩ := rL.2
  obtain ⟨dI, cI, rfl, gI⟩ := rI.2
  obtain ⟨dB, cB, rfl, gB⟩ := rB.2
  have vT := rT.rd
  have vM := rM.rd
  have vX := rX.rd
  have vL := rL.rd
  have vI := rI.rd
  have vB := rB.rd
  unfold cutN scnA
  simp only
  obtain ⟨G, hG⟩ : ∃ G : Value → Array Value, G = fun u => #[cutZ 19 (.slice dT tris.length cT) 0 (min tris.length 20 - 0), cutZ 5 (.slice dM mats.length cM) 0 (min mats.length 8 - 0), slV u, cutZ 13 (.slice dL lits.length cL) 0 (min lits.length 5 - 0), cutZ 1 (.slice dI ids.length cI) 0 (min ids.length 20 - 0), cutZ 1 (.slice dB labs.length cB) 0 (min labs.length 20 - 0), .int .u32 (bvi lb), .int .u32 (bvi fr), .int .u32 (bvi tl)] := ⟨_, rfl⟩
  rw [← hG]
  have hGs : ∀ u, (G u).size = 9 := fun u => by rw [hG]; rfl
  have hGo : ∀ u, (G u).all (·.oneCell') = true := fun u => by
    have h1 := (slV_one u).1
    rw [hG]
    dsimp only
    generalize slV u = s at *
    simp only [List.all_toArray, List.all_cons, List.all_nil, h1]
    rfl
  have rowX : ∀ j t, texs[j]? = some t → ((texs.flatMap TexR.c).drop (0 + j * 2)).take 2 = t.c := fun j t h => by
    rw [Nat.zero_add]; exact flat_row (sz := 2) (f := TexR.c) texs (fun _ _ => rfl) j t h
  have lenX : (texs.flatMap TexR.c).length = texs.length * 2 := flat_length (sz := 2) (f := TexR.c) texs fun _ _ => rfl
  obtain ⟨O, hO⟩ : ∃ O : Nat → List Value, ∀ j, O j = ((texs.take j).map fewT).flatMap TexR.c := ⟨_, fun _ => rfl⟩
  have hO0 : O 0 = [] := by rw [hO]; rfl
  have sO : ∀ j t, texs[j]? = some t → O (j + 1) = O j ++ [.int .i64 t.side, cutZ 3 t.sl 0 (min t.px.length 260 - 0)] := fun j t h => by
    rw [hO, hO, List.take_add_one, h, List.map_append, List.flatMap_append]
    rfl
  have hOe : ∀ j, j = min texs.length 4 → O j = ((texs.take 4).map fewT).flatMap TexR.c := fun j h => by
    rw [hO]
    congr 2
    rw [h, Nat.min_comm]
    by_cases h4 : 4 ≤ texs.length
    · rw [Nat.min_eq_left h4]
    · rw [Nat.min_eq_right (by omega), List.take_of_length_le (Nat.le_refl _), List.take_of_length_le (by omega)]
  generalize hxT : tris.flatMap TriR.c = xT at *
  generalize hxM : mats.flatMap MatR.c = xM at *
  generalize hxX : texs.flatMap TexR.c = xX at *
  generalize hxL : lits.flatMap LitR.c = xL at *
  refine calls_tri Try.func5 rfl Try.ntmps5 rfl ?_
  repeat (first | (show Walk1 _ _ _ (_ :: _) _ _; first | (show Walk1 _ _ _ (⟨_, .assign _, _, _, _, _⟩ :: _) _ _; first | refine walk1_t (op_assignN rfl rfl rfl rfl) ?_ | refine walk1_t (op_assign rfl rfl rfl rfl) ?_) | (show Walk1 _ _ _ (⟨_, .alloc _, _, _, _, _⟩ :: _) _ _; refine walk1_n (op_alloc rfl rfl rfl rfl rfl) (by kernel_rfl) ?_) | (show Walk1 _ _ _ (⟨_, .box _ _, _, _, _, _⟩ :: _) _ _; refine walk1_n (op_box rfl rfl rfl rfl rfl) (by kernel_rfl) ?_)) | refine go1 ?_ | refine end_block_other rfl ?_ | refine end_scope (fun _ h => by cases h) ?_ | (refine walk_endD ?_ ?_; (· kernel_rfl)) | refine tri_yesA rfl ?_ | refine tri_noA rfl ?_ | refine tri_trueA rfl ?_ | refine tri_falseA rfl ?_)
  refine tri_ent (ent_nil (i := 3) (n := 3) 61 2 rfl (by kernel_rfl)) ?_
  have hll : ((texs.take 4).map fewT).length = min texs.length 4 := by rw [List.length_map, List.length_take, Nat.min_comm]
  refine tri_loop (X := Nat) (fun j => ⟨[(4, SV.c (.int .i64 ((j : Nat) : Int))), (3, .v 3), (2, .p 2 0), (1, .p 1 0)], [(1, some (.blk 1 42 (.c #[.slice dT tris.length cT, .slice dM mats.length cM, .slice dX texs.length cX, .slice dL lits.length cL, .slice dI ids.length cI, .slice dB labs.length cB, .int .u32 (bvi lb), .int .u32 (bvi fr), .int .u32 (bvi tl)]))), (2, some (.blk 2 42 (.c #[.slice none 0 0, .slice none 0 0, .slice none 0 0, .slice none 0 0, .slice none 0 0, .slice none 0 0, .int .u32 0, .int .u32 0, .int .u32 0]))), (3, some (.own 3 61 2 j (O j)))]⟩)
    (fun j => j ≤ texs.length ∧ j ≤ 4) (fun j => texs.length - j) 0 (by omega) (by rw [hO0]; exact ent_keep (by repeat (first | exact hasT_nil | refine hasT_cons rfl ?_ | refine hasT_eq rfl (svi (by omega)) ?_)) (by repeat (first | exact hasR_nil | refine hasR_cons rfl ?_))) ?_
  intro j hj K next
  by_cases h : j < texs.length
  · by_cases h4 : j < 4
    · obtain ⟨t, htj⟩ : ∃ t, texs[j]? = some t := ⟨_, List.getElem?_eq_getElem h⟩
      have hrow := rowX j t htj
      have hlt : j * 2 + 2 ≤ xX.length := by rw [lenX]; omega
      have hpx := rP t (List.mem_of_getElem? htj)
      have hst := sO j t htj
      have nx := fun S' => next S' (j + 1)
      rw [hst] at nx
      clear next hst sO hO hO0 hOe rowX rP hll
      generalize O j = Z at *
      obtain ⟨side, sl, px⟩ := t
      simp only at hpx nx
      obtain ⟨dP, cP, rfl, gP⟩ := hpx.2
      have vP := hpx.rd
      have hrow : (xX.drop (0 + j * 2)).take 2 = [.int .i64 side, .slice dP px.length cP] := hrow
      generalize pxL px = xP at *
      have hone : ∀ u ∈ [Value.int .i64 side, cutZ 3 (.slice dP px.length cP) 0 (min px.length 260 - 0)], u.oneCell' = true := fun u hu => by
        simp only [List.mem_cons, List.not_mem_nil, or_false] at hu
        rcases hu with rfl | rfl <;> rfl
      repeat (first | (show Walk1 _ _ _ (_ :: _) _ _; first | (show Walk1 _ _ _ (⟨_, _, _, _, _, some _⟩ :: _) _ _; refine walk1_yes rfl rfl (by first | exact decide_eq_true (by omega) | exact decide_eq_false (by omega) | rfl | (show _ = true; with_reducible assumption) | (show _ = false; with_reducible assumption) | (simp <;> fail) | omega) ?_) | (show Walk1 _ _ _ (⟨_, .move _, _, _, _, _⟩ :: _) _ _; refine walk1_t (op_move rfl rfl rfl rfl) ?_) | (show Walk1 _ _ _ (⟨_, .binOp .lss _ _ _ _, _, _, _, _⟩ :: _) _ _; refine walk1_t (op_ltN rfl rfl rfl (by first | exact evN_const rfl | exact rfl) (by first | exact evN_const rfl | exact rfl)) ?_) | (show Walk1 _ _ _ (⟨_, .pick _ _ _, _, _, _, _⟩ :: _) _ _; refine walk1_t (op_pickY rfl rfl rfl rfl (by first | exact decide_eq_true (by omega) | exact decide_eq_false (by omega) | rfl | (show _ = true; with_reducible assumption) | (show _ = false; with_reducible assumption) | (simp <;> fail) | omega) rfl) ?_) | (show Walk1 _ _ _ (⟨_, .indexAddr _ _ _, _, _, _, _⟩ :: _) _ _; refine walk1_t (op_idxF rfl rfl rfl rfl (by first | exact evK_const rfl | exact evK_tmp rfl) rfl rfl (by first | assumption | exact FS.rd (by first | assumption | exact FSX.fs (by assumption) | (refine FS.cutB (by assumption) ?_; omega) | (refine FS.cut (by assumption) ?_; omega))) (by first | omega | decide) rfl) ?_) | (show Walk1 _ _ _ (⟨_, .load _ _, _, _, _, _⟩ :: _) _ _; first | refine walk1_t (op_load rfl rfl rfl rfl rfl rfl rfl) ?_ | refine walk1_t (op_loadsF rfl rfl rfl rfl rfl (by first | assumption | exact FS.rd (by first | assumption | exact FSX.fs (by assumption) | (refine FS.cutB (by assumption) ?_; omega) | (refine FS.cut (by assumption) ?_; omega))) rfl rfl rfl (by decide) (by first | omega | decide) (by first | (with_reducible assumption) | rfl)) ?_) | (show Walk1 _ _ _ (⟨_, .store _ _ _, _, _, _, _⟩ :: _) _ _; refine walk1_b (op_stores rfl rfl rfl rfl rfl rfl rfl) ?_) | (show Walk1 _ _ _ (⟨_, .alloc _, _, _, _, _⟩ :: _) _ _; refine walk1_n (op_alloc rfl rfl rfl rfl rfl) (by kernel_rfl) ?_) | (show Walk1 _ _ _ (⟨_, .fieldAddr _ _ _, _, _, _, _⟩ :: _) _ _; refine walk1_t (op_fldT rfl rfl rfl rfl rfl rfl off_zero) ?_) | (show Walk1 _ _ _ (⟨_, .call ⟨.builtin .len, _, _⟩, _, _, _, _⟩ :: _) _ _; refine walk1_t (op_lenC rfl rfl rfl) ?_)) | (show WalkTo _ _ _ _ (_ :: _) _ _ _; first | (show WalkTo _ _ _ _ (⟨_, .move _, _, _, _, _⟩ :: _) _ _ _; refine walk_t (op_move rfl rfl rfl rfl) ?_) | (show WalkTo _ _ _ _ (⟨_, .load _ _, _, _, _, _⟩ :: _) _ _ _; refine walk_t (op_load rfl rfl rfl rfl rfl rfl rfl) ?_) | (show WalkTo _ _ _ _ (⟨_, .fieldAddr _ _ _, _, _, _, _⟩ :: _) _ _ _; refine walk_t (op_fldT rfl rfl rfl rfl rfl rfl off_zero) ?_) | (show WalkTo _ _ _ _ (⟨_, .call ⟨.builtin .len, _, _⟩, _, _, _, _⟩ :: _) _ _ _; refine walk_t (op_lenC rfl rfl rfl) ?_) | (show WalkTo _ _ _ _ (⟨_, .call ⟨.builtin .min, _, _⟩, _, _, _, _⟩ :: _) _ _ _; refine walk_t (op_minN rfl (by first | exact evN_const rfl | exact rfl) (by first | exact evN_const rfl | exact rfl)) ?_) | (show WalkTo _ _ _ _ (⟨_, .slice _ _ _ _ _, _, _, _, _⟩ :: _) _ _ _; refine walk_t (op_cutZ rfl rfl rfl rfl rfl rfl (by first | assumption | exact FSX.fs (by assumption))) ?_)) | refine go1 ?_ | refine end_block_other rfl ?_ | refine end_scope (fun _ h => by cases h) ?_ | (refine walk_endD ?_ ?_; (· kernel_rfl)) | refine tri_yesA rfl ?_ | refine tri_noA rfl ?_ | refine tri_trueA rfl ?_ | refine tri_falseA rfl ?_)
      refine walk_t (op_buildC (parts := [(0, .tmp 24), (1, .tmp 31)]) (vs := [.int .i64 side, cutZ 3 (.slice dP px.length cP) 0 (min px.length 260 - 0)]) #[.int .i64 side, cutZ 3 (.slice dP px.length cP) 0 (min px.length 260 - 0)] rfl rfl rfl rfl rfl rfl (by kernel_rfl) (by kernel_rfl)) ?_
      refine walk_n (op_bslice1 (A := SA.c #[.int .i64 side, cutZ 3 (.slice dP px.length cP) 0 (min px.length 260 - 0)]) rfl rfl rfl rfl rfl rfl rfl rfl rfl rfl rfl (fun _ => rfl) (fun _ => rfl) rfl) (by kernel_rfl) ?_
      repeat (first | (show Walk1 _ _ _ (_ :: _) _ _; first | (show Walk1 _ _ _ (⟨_, .move _, _, _, _, _⟩ :: _) _ _; refine walk1_t (op_move rfl rfl rfl rfl) ?_) | (show Walk1 _ _ _ (⟨_, .assign _, _, _, _, _⟩ :: _) _ _; refine walk1_t (op_assign rfl rfl rfl rfl) ?_) | (show Walk1 _ _ _ (⟨_, .binOp .add _ _ _ _, _, _, _, _⟩ :: _) _ _; refine walk1_t (op_addN rfl rfl rfl (by first | exact evN_const rfl | exact rfl) (by first | exact evN_const rfl | exact rfl) (by omega)) ?_)) | (show WalkTo _ _ _ _ (_ :: _) _ _ _; first | (show WalkTo _ _ _ _ (⟨_, .assign _, _, _, _, _⟩ :: _) _ _ _; refine walk_t (op_assign rfl rfl rfl rfl) ?_) | (show WalkTo _ _ _ _ (⟨_, .call ⟨.builtin .append, _, _⟩, _, _, _, _⟩ :: _) _ _ _; refine walk_g (op_appendE rfl rfl rfl rfl rfl rfl rfl rfl rfl rfl (by decide) (by first | (with_reducible assumption) | rfl) (by first | (with_reducible assumption) | rfl) (by omega) rfl) (by kernel_rfl) ?_)) | refine go1 ?_ | refine end_block_other rfl ?_ | refine end_scope (fun _ h => by cases h) ?_ | (refine walk_endD ?_ ?_; (· kernel_rfl)) | refine tri_yesA rfl ?_ | refine tri_noA rfl ?_ | refine tri_trueA rfl ?_ | refine tri_falseA rfl ?_)
      exact nx _ (by omega) (by omega) (ent_ren (fun n => cond (Nat.beq n 3) 34 n) (by repeat (first | exact hasTm_nil | refine hasTm_cons rfl (fun _ => rfl) ?_)) (by repeat (first | exact hasRm_nil | refine hasRm_cons rfl (fun _ => rfl) (fun _ _ h => h) rfl ?_)) (by kernel_rfl))
    · have h4' : ¬ j < 4 := h4
      have hjm : j = min texs.length 4 := by omega
      have e1 := hOe j hjm
      have e2 : j = ((texs.take 4).map fewT).length := hjm.trans hll.symm
      clear next hll hOe sO rowX rP hO hO0 hjm
      rw [e1]
      generalize ((texs.take 4).map fewT).flatMap TexR.c = OO at *
      generalize ((texs.take 4).map fewT).length = LL at *
      subst e2
      repeat (first | (show Walk1 _ _ _ (_ :: _) _ _; first | (show Walk1 _ _ _ (⟨_, _, _, _, _, some _⟩ :: _) _ _; refine walk1_yes rfl rfl (by first | exact decide_eq_true (by omega) | exact decide_eq_false (by omega) | rfl | (show _ = true; with_reducible assumption) | (show _ = false; with_reducible assumption) | (simp <;> fail) | omega) ?_) | (show Walk1 _ _ _ (⟨_, .move _, _, _, _, _⟩ :: _) _ _; refine walk1_t (op_move rfl rfl rfl rfl) ?_) | (show Walk1 _ _ _ (⟨_, .binOp .lss _ _ _ _, _, _, _, _⟩ :: _) _ _; refine walk1_t (op_ltN rfl rfl rfl (by first | exact evN_const rfl | exact rfl) (by first | exact evN_const rfl | exact rfl)) ?_) | (show Walk1 _ _ _ (⟨_, .pick _ _ _, _, _, _, _⟩ :: _) _ _; refine walk1_t (op_pickY rfl rfl rfl rfl (by first | exact decide_eq_true (by omega) | exact decide_eq_false (by omega) | rfl | (show _ = true; with_reducible assumption) | (show _ = false; with_reducible assumption) | (simp <;> fail) | omega) rfl) ?_) | (show Walk1 _ _ _ (⟨_, .load _ _, _, _, _, _⟩ :: _) _ _; refine walk1_t (op_load rfl rfl rfl rfl rfl rfl rfl) ?_) | (show Walk1 _ _ _ (⟨_, .fieldAddr _ _ _, _, _, _, _⟩ :: _) _ _; refine walk1_t (op_fldT rfl rfl rfl rfl rfl rfl off_zero) ?_) | (show Walk1 _ _ _ (⟨_, .call ⟨.builtin .len, _, _⟩, _, _, _, _⟩ :: _) _ _; refine walk1_t (op_lenC rfl rfl rfl) ?_)) | (show WalkTo _ _ _ _ (_ :: _) _ _ _; first | (show WalkTo _ _ _ _ (⟨_, .move _, _, _, _, _⟩ :: _) _ _ _; refine walk_t (op_move rfl rfl rfl rfl) ?_) | (show WalkTo _ _ _ _ (⟨_, .load _ _, _, _, _, _⟩ :: _) _ _ _; refine walk_t (op_load rfl rfl rfl rfl rfl rfl rfl) ?_) | (show WalkTo _ _ _ _ (⟨_, .fieldAddr _ _ _, _, _, _, _⟩ :: _) _ _ _; refine walk_t (op_fldT rfl rfl rfl rfl rfl rfl off_zero) ?_) | (show WalkTo _ _ _ _ (⟨_, .call ⟨.builtin .len, _, _⟩, _, _, _, _⟩ :: _) _ _ _; refine walk_t (op_lenC rfl rfl rfl) ?_) | (show WalkTo _ _ _ _ (⟨_, .call ⟨.builtin .min, _, _⟩, _, _, _, _⟩ :: _) _ _ _; refine walk_t (op_minN rfl (by first | exact evN_const rfl | exact rfl) (by first | exact evN_const rfl | exact rfl)) ?_) | (show WalkTo _ _ _ _ (⟨_, .slice _ _ _ _ _, _, _, _, _⟩ :: _) _ _ _; refine walk_t (op_cutZ rfl rfl rfl rfl rfl rfl (by first | assumption | exact FSX.fs (by assumption))) ?_)) | refine go1 ?_ | refine end_block_other rfl ?_ | refine end_scope (fun _ h => by cases h) ?_ | (refine walk_endD ?_ ?_; (· kernel_rfl)) | refine tri_yesA rfl ?_ | refine tri_noA rfl ?_ | refine tri_trueA rfl ?_ | refine tri_falseA rfl ?_)
      refine walk_t (op_buildF (parts := [(0, .tmp 41), (1, .tmp 48), (2, .tmp 49), (3, .tmp 56), (4, .tmp 63), (5, .tmp 70), (6, .tmp 72), (7, .tmp 74), (8, .tmp 76)]) (svs := [.c (cutZ 19 (.slice dT tris.length cT) 0 (min tris.length 20 - 0)), .c (cutZ 5 (.slice dM mats.length cM) 0 (min mats.length 8 - 0)), .v 3, .c (cutZ 13 (.slice dL lits.length cL) 0 (min lits.length 5 - 0)), .c (cutZ 1 (.slice dI ids.length cI) 0 (min ids.length 20 - 0)), .c (cutZ 1 (.slice dB labs.length cB) 0 (min labs.length 20 - 0)), .c (.int .u32 (bvi lb)), .c (.int .u32 (bvi fr)), .c (.int .u32 (bvi tl))]) (vs := fun u => [cutZ 19 (.slice dT tris.length cT) 0 (min tris.length 20 - 0), cutZ 5 (.slice dM mats.length cM) 0 (min mats.length 8 - 0), u, cutZ 13 (.slice dL lits.length cL) 0 (min lits.length 5 - 0), cutZ 1 (.slice dI ids.length cI) 0 (min ids.length 20 - 0), cutZ 1 (.slice dB labs.length cB) 0 (min labs.length 20 - 0), .int .u32 (bvi lb), .int .u32 (bvi fr), .int .u32 (bvi tl)]) (q := 3) G rfl rfl rfl rfl rfl (fun _ => rfl) rfl rfl (by kernel_rfl) (fun _ _ => by rw [hG]; kernel_rfl)) ?_
      clear hG
      repeat (first | (show WalkTo _ _ _ _ (_ :: _) _ _ _; (show WalkTo _ _ _ _ (⟨_, .store _ _ _, _, _, _, _⟩ :: _) _ _ _; refine walk_b (op_storeG rfl rfl rfl rfl rfl rfl rfl (by with_reducible assumption) (by with_reducible assumption)) ?_)) | refine go1 ?_ | refine end_block_other rfl ?_ | refine end_scope (fun _ h => by cases h) ?_ | (refine walk_endD ?_ ?_; (· kernel_rfl)) | refine tri_yesA rfl ?_ | refine tri_noA rfl ?_ | refine tri_trueA rfl ?_ | refine tri_falseA rfl ?_)
      refine end_ret (.row (.fn 3 G)) (res_cells rfl rfl rfl rfl rfl rfl (fun _ => hGs _) (fun _ => rfl)) ?_
      exact fin_F rfl (fun e _ => rfl)
  · have h' : ¬ j < texs.length := h
    have hjm : j = min texs.length 4 := by omega
    have e1 := hOe j hjm
    have e2 : j = ((texs.take 4).map fewT).length := hjm.trans hll.symm
    clear next hll hOe sO rowX rP hO hO0 hjm
    rw [e1]
    generalize ((texs.take 4).map fewT).flatMap TexR.c = OO at *
    generalize ((texs.take 4).map fewT).length = LL at *
    subst e2
    repeat (first | (show Walk1 _ _ _ (_ :: _) _ _; first | (show Walk1 _ _ _ (⟨_, _, _, _, _, some _⟩ :: _) _ _; refine walk1_no rfl rfl (by first | exact decide_eq_true (by omega) | exact decide_eq_false (by omega) | rfl | (show _ = true; with_reducible assumption) | (show _ = false; with_reducible assumption) | (simp <;> fail) | omega) rfl ?_) | (show Walk1 _ _ _ (⟨_, .move _, _, _, _, _⟩ :: _) _ _; refine walk1_t (op_move rfl rfl rfl rfl) ?_) | (show Walk1 _ _ _ (⟨_, .binOp .lss _ _ _ _, _, _, _, _⟩ :: _) _ _; refine walk1_t (op_ltN rfl rfl rfl (by first | exact evN_const rfl | exact rfl) (by first | exact evN_const rfl | exact rfl)) ?_) | (show Walk1 _ _ _ (⟨_, .pick _ _ _, _, _, _, _⟩ :: _) _ _; refine walk1_t (op_pickN rfl rfl rfl rfl (by first | exact decide_eq_true (by omega) | exact decide_eq_false (by omega) | rfl | (show _ = true; with_reducible assumption) | (show _ = false; with_reducible assumption) | (simp <;> fail) | omega) rfl) ?_) | (show Walk1 _ _ _ (⟨_, .load _ _, _, _, _, _⟩ :: _) _ _; refine walk1_t (op_load rfl rfl rfl rfl rfl rfl rfl) ?_) | (show Walk1 _ _ _ (⟨_, .fieldAddr _ _ _, _, _, _, _⟩ :: _) _ _; refine walk1_t (op_fldT rfl rfl rfl rfl rfl rfl off_zero) ?_) | (show Walk1 _ _ _ (⟨_, .call ⟨.builtin .len, _, _⟩, _, _, _, _⟩ :: _) _ _; refine walk1_t (op_lenC rfl rfl rfl) ?_)) | (show WalkTo _ _ _ _ (_ :: _) _ _ _; first | (show WalkTo _ _ _ _ (⟨_, .move _, _, _, _, _⟩ :: _) _ _ _; refine walk_t (op_move rfl rfl rfl rfl) ?_) | (show WalkTo _ _ _ _ (⟨_, .load _ _, _, _, _, _⟩ :: _) _ _ _; refine walk_t (op_load rfl rfl rfl rfl rfl rfl rfl) ?_) | (show WalkTo _ _ _ _ (⟨_, .fieldAddr _ _ _, _, _, _, _⟩ :: _) _ _ _; refine walk_t (op_fldT rfl rfl rfl rfl rfl rfl off_zero) ?_) | (show WalkTo _ _ _ _ (⟨_, .call ⟨.builtin .len, _, _⟩, _, _, _, _⟩ :: _) _ _ _; refine walk_t (op_lenC rfl rfl rfl) ?_) | (show WalkTo _ _ _ _ (⟨_, .call ⟨.builtin .min, _, _⟩, _, _, _, _⟩ :: _) _ _ _; refine walk_t (op_minN rfl (by first | exact evN_const rfl | exact rfl) (by first | exact evN_const rfl | exact rfl)) ?_) | (show WalkTo _ _ _ _ (⟨_, .slice _ _ _ _ _, _, _, _, _⟩ :: _) _ _ _; refine walk_t (op_cutZ rfl rfl rfl rfl rfl rfl (by first | assumption | exact FSX.fs (by assumption))) ?_)) | refine go1 ?_ | refine end_block_other rfl ?_ | refine end_scope (fun _ h => by cases h) ?_ | (refine walk_endD ?_ ?_; (· kernel_rfl)) | refine tri_yesA rfl ?_ | refine tri_noA rfl ?_ | refine tri_trueA rfl ?_ | refine tri_falseA rfl ?_)
    refine walk_t (op_buildF (parts := [(0, .tmp 41), (1, .tmp 48), (2, .tmp 49), (3, .tmp 56), (4, .tmp 63), (5, .tmp 70), (6, .tmp 72), (7, .tmp 74), (8, .tmp 76)]) (svs := [.c (cutZ 19 (.slice dT tris.length cT) 0 (min tris.length 20 - 0)), .c (cutZ 5 (.slice dM mats.length cM) 0 (min mats.length 8 - 0)), .v 3, .c (cutZ 13 (.slice dL lits.length cL) 0 (min lits.length 5 - 0)), .c (cutZ 1 (.slice dI ids.length cI) 0 (min ids.length 20 - 0)), .c (cutZ 1 (.slice dB labs.length cB) 0 (min labs.length 20 - 0)), .c (.int .u32 (bvi lb)), .c (.int .u32 (bvi fr)), .c (.int .u32 (bvi tl))]) (vs := fun u => [cutZ 19 (.slice dT tris.length cT) 0 (min tris.length 20 - 0), cutZ 5 (.slice dM mats.length cM) 0 (min mats.length 8 - 0), u, cutZ 13 (.slice dL lits.length cL) 0 (min lits.length 5 - 0), cutZ 1 (.slice dI ids.length cI) 0 (min ids.length 20 - 0), cutZ 1 (.slice dB labs.length cB) 0 (min labs.length 20 - 0), .int .u32 (bvi lb), .int .u32 (bvi fr), .int .u32 (bvi tl)]) (q := 3) G rfl rfl rfl rfl rfl (fun _ => rfl) rfl rfl (by kernel_rfl) (fun _ _ => by rw [hG]; kernel_rfl)) ?_
    clear hG
    repeat (first | (show WalkTo _ _ _ _ (_ :: _) _ _ _; (show WalkTo _ _ _ _ (⟨_, .store _ _ _, _, _, _, _⟩ :: _) _ _ _; refine walk_b (op_storeG rfl rfl rfl rfl rfl rfl rfl (by with_reducible assumption) (by with_reducible assumption)) ?_)) | refine go1 ?_ | refine end_block_other rfl ?_ | refine end_scope (fun _ h => by cases h) ?_ | (refine walk_endD ?_ ?_; (· kernel_rfl)) | refine tri_yesA rfl ?_ | refine tri_noA rfl ?_ | refine tri_trueA rfl ?_ | refine tri_falseA rfl ?_)
    refine end_ret (.row (.fn 3 G)) (res_cells rfl rfl rfl rfl rfl rfl (fun _ => hGs _) (fun _ => rfl)) ?_
    exact fin_F rfl (fun e _ => rfl)
end Go.Proofs.Ytihbiejgebmeaaa
