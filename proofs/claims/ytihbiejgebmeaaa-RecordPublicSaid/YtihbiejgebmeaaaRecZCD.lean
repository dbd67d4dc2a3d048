/- The example of chapter 31: walked. No condition. The example's record made: walked. No condition. -/
import Derived.Test.YtihbiejgebmeaaaRecZ2
import Derived.Test.YtihbiejgebmeaaaRecW4
import Derived.Test.YtihbiejgebmeaaaShaDF
namespace Go.Proofs.Ytihbiejgebmeaaa
open Go.RowKit
set_option maxRecDepth 100000
set_option maxHeartbeats 400000
section
variable {C : Ctx} {ops : Array Oper} {S : St} {o : Oper}
/-- A struct of closed parts. -/
theorem op_buildK {ty : TypeId} {parts : List (Nat × Operand)} {vs : List Value} {fs : Array Field} {Z : Array Value} (R : Array Value) (ho : o.op = .build ty parts.toArray) (hg : o.guard = none) (hd : dstB o.dst C.nt = true) (hx : (parts.map (·.2)).map S.ev = vs.map fun v => some (SV.c v)) (hu' : tabLook undT ty = some (.struct fs)) (hz' : tabLook zerT ty = some Z) (hss : (fs.all fun f => (tabLook sizT f.type).isSome) = true)
    (hf : Instr.fill (fun i => (fs.map fun f => (f.offset, (tabLook sizT f.type).getD 0))[i]?) Z ((parts.map (·.1)).zip vs) = some R) :
    OpG C Try.prog ops o S ⟨(parts.map (·.2)).flatMap opT, [], dw o.dst (.c (.agg R)), [], []⟩ := by
  have := op_value (C := C) (P := Try.prog) (ops := ops) (S := S) hg hd (parts.map (·.2)) [] (.c (.agg R)) fun S' e a w hS h1 h2 => by
    have hu := tabAll_look undT_ok hu'
    have hz := tabAll_look zerT_ok hz'
    have hev : ∀ (ps : List (Nat × Operand)) (us : List Value), (ps.map (·.2)).map S.ev = us.map (fun v => some (SV.c v)) → (∀ x ∈ ps.map (·.2), S'.ev x = S.ev x) → ps.map (fun p => (p.1, a.eval p.2)) = (ps.map (·.1)).zip us := by
      intro ps
      induction ps with
      | nil => intro us h _; cases us with
        | nil => rfl
        | cons u us => simp at h
      | cons p ps ih =>
        intro us h h3
        cases us with
        | nil => simp at h
        | cons u us =>
          simp only [List.map_cons, List.cons.injEq] at h
          have e1 : a.eval p.2 = u := hS.ev ((h3 p.2 (by simp)).trans h.1)
          simp only [List.map_cons, List.zip_cons_cons, e1]
          rw [ih us h.2 fun x hx => h3 x (by simp only [List.map_cons, List.mem_cons]; exact .inr hx)]
    have hev := hev parts vs hx h1
    obtain ⟨zv, hz3, hzc⟩ : ∃ zv, (zeroValue ty).run Try.prog w = .ok zv w ∧ zv.cells = Z := by
      cases hb : (Try.prog.info? ty) with
      | none => simp [hb] at hz
      | some i =>
        cases hc : i.zero with
        | none => simp [hb, hc] at hz
        | some zz => exact ⟨zz, by simp [zeroValue, typeInfo, hb, hc], by simpa [hb, hc] using hz⟩
    have hall : ∀ f ∈ fs.toList, ∃ sz, tabLook sizT f.type = some sz := fun f hf => by
      have := Array.all_eq_true_iff_forall_mem.1 hss f (by simpa using hf)
      exact Option.isSome_iff_exists.1 this
    have hmap : ∀ l : List Field, (∀ f ∈ l, ∃ sz, tabLook sizT f.type = some sz) → (l.mapM fun (f : Field) => do pure (f.offset, ← sizeOf f.type)).run Try.prog w = .ok (l.map fun f => (f.offset, (tabLook sizT f.type).getD 0)) w := by
      intro l
      induction l with
      | nil => intro _; rfl
      | cons f l ih =>
        intro h
        obtain ⟨sz, hsz⟩ := h f (by simp)
        simp only [List.mapM_cons, Sem.run_bind, run_sizeT hsz w, Result.andThen_ok, Sem.run_pure, ih fun g hg => h g (by simp [hg]), List.map_cons, hsz, Option.getD_some]
    have hmapA : (fs.mapM fun (f : Field) => do pure (f.offset, ← sizeOf f.type)).run Try.prog w = .ok (fs.map fun f => (f.offset, (tabLook sizT f.type).getD 0)) w := by
      rw [Array.mapM_eq_mapM_toList]
      have e1 : (fs.toList.map fun f => (f.offset, (tabLook sizT f.type).getD 0)).toArray = fs.map fun f => (f.offset, (tabLook sizT f.type).getD 0) := by
        apply Array.ext'; simp
      simp only [map_eq_pure_bind, Sem.run_bind, hmap fs.toList hall, Result.andThen_ok, Sem.run_pure, e1]
    simp only [execOp, ho, Instr.build, Sem.run_bind, hz3, Result.andThen_ok, run_underlying hu w, hmapA, hzc, List.map_toArray, hev, hf, Sem.run_pure]
    rfl
  simpa using this
/-- A row of any form stored, told as closed cells. -/
theorem op_storesW {ty : TypeId} {x y : Operand} {n : Nat} {T : TypeId} {A X : SA} {m : Nat} (a : Array Value) (ho : o.op = .store ty x y) (hg : o.guard = none) (hdst : o.dst = none) (hx : S.ev x = some (.p n 0)) (hy : S.ev y = some (.row X)) (hX : ∀ e, X.den e = a) (hr : S.res n = some (.blk n T A))
    (hi' : tabLook sizT ty = some m) (hsz : a.size = m) (h1c : a.all (·.oneCell') = true) (hm : ∀ e, (A.den e).size = m) :
    OpG C Try.prog ops o S ⟨opT x ++ opT y, n :: (SA.c a).sup, [], [(n, some (.blk n T (.c a)))], []⟩ := op_stores ho hg hdst hx hy hr hi' hm (fun e => by show Value.agg (X.den e) = .agg a; rw [hX e]) (fun _ => hsz) (fun _ => h1c)
end
def z3P : P3 := ⟨0, 0, 0⟩
def plainV : ViewS := ⟨1, 1, 1, 0, 0, 0#64, ⟨z3P, ⟨16384, 0, 0⟩, ⟨0, 16384, 0⟩, ⟨0, 0, 16384⟩, 0, 1⟩, false⟩
attribute [local irreducible] Calls Walk1 WalkTo Tri EndA
theorem plain_any (w : World) : Calls Try.prog 19 #[] w fun e w' => e = .returned (.agg plainV.c) ∧ Below w.heap.size w w' := by
  have hs : plainV.c.size = 21 := rfl
  refine calls_tri Try.func19 rfl Try.ntmps19 rfl ?_
  iterate 12 (try (first | (show Walk1 _ _ _ (_ :: _) _ _; first | (show Walk1 _ _ _ (⟨_, .alloc _, _, _, _, _⟩ :: _) _ _; refine walk1_n (op_alloc rfl rfl rfl rfl rfl) (by kernel_rfl) ?_) | (show Walk1 _ _ _ (⟨_, .build _ _, _, _, _, _⟩ :: _) _ _; refine walk1_t (op_buildS rfl rfl rfl rfl) ?_)) | refine go1 ?_ | refine end_block_other rfl ?_ | refine end_scope (fun _ h => by cases h) ?_ | (refine walk_endD ?_ ?_; (· kernel_rfl)) | refine tri_yesA rfl ?_ | refine tri_noA rfl ?_ | refine tri_trueA rfl ?_ | refine tri_falseA rfl ?_))
  have h1c : plainV.c.all (·.oneCell') = true := by kernel_rfl
  refine walk1_b (op_storesW plainV.c rfl rfl rfl rfl rfl (fun _ => by kernel_rfl) rfl rfl hs h1c (fun _ => rfl)) ?_
  generalize plainV.c = PV at *
  repeat (first | refine go1 ?_ | refine end_block_other rfl ?_ | refine end_scope (fun _ h => by cases h) ?_ | (refine walk_endD ?_ ?_; (· kernel_rfl)) | refine tri_yesA rfl ?_ | refine tri_noA rfl ?_ | refine tri_trueA rfl ?_ | refine tri_falseA rfl ?_)
  refine end_ret _ (res_cells rfl rfl rfl rfl rfl rfl (sm_c hs) ag_c) ?_
  exact fin_below fun _ => rfl
theorem cloneNil64_any (w : World) : Calls Try.prog 14 #[.slice none 0 0] w fun e w' => e = .returned (.slice none 0 0) ∧ Below w.heap.size w w' := by
  refine calls_tri Try.func14 rfl Try.ntmps14 rfl ?_
  repeat (first | (show Walk1 _ _ _ (_ :: _) _ _; first | (show Walk1 _ _ _ (⟨_, .move _, _, _, _, _⟩ :: _) _ _; refine walk1_t (op_move rfl rfl rfl rfl) ?_) | (show Walk1 _ _ _ (⟨_, .assign _, _, _, _, _⟩ :: _) _ _; refine walk1_t (op_assign rfl rfl rfl rfl) ?_) | (show Walk1 _ _ _ (⟨_, .binOp .eql _ _ _ _, _, _, _, _⟩ :: _) _ _; refine walk1_t (op_eqNilG rfl rfl rfl rfl rfl rfl) ?_)) | refine go1 ?_ | refine end_block_other rfl ?_ | refine end_scope (fun _ h => by cases h) ?_ | (refine walk_endD ?_ ?_; (· kernel_rfl)) | refine tri_yesA rfl ?_ | refine tri_noA rfl ?_ | refine tri_trueA rfl ?_ | refine tri_falseA rfl ?_)
  refine end_ret _ (res_tmp rfl rfl) ?_
  exact fin_below fun _ => rfl
end Go.Proofs.Ytihbiejgebmeaaa
namespace Go.Proofs.Ytihbiejgebmeaaa
open Go.RowKit
set_option maxRecDepth 100000
set_option maxHeartbeats 400000
def Z32 : List (BitVec 8) := List.replicate 32 0#8
def rec0 (s p : List (BitVec 8)) : RecS := ⟨1, plainV, zS, 0#32, 0#32, 0#32, s, p⟩
def H29 : Array Value := #[.int .i64 1, .int .i64 1, .int .i64 1, .int .i64 1, .int .i64 0, .int .i64 0, .int .u64 (bvi 0#64), .int .i64 0, .int .i64 0, .int .i64 0, .int .i64 16384, .int .i64 0, .int .i64 0, .int .i64 0, .int .i64 16384, .int .i64 0, .int .i64 0, .int .i64 0, .int .i64 16384, .int .i64 0, .int .i64 1, .bool false, .int .i64 0, .int .i64 0, .int .i64 0, .slice none 0 0, .int .u32 (bvi 0#32), .int .u32 (bvi 0#32), .int .u32 (bvi 0#32)]
theorem H29_eq : #[Value.int .i64 1] ++ plainV.c ++ zS.c ++ #[.slice none 0 0, .int .u32 (bvi 0#32), .int .u32 (bvi 0#32), .int .u32 (bvi 0#32)] = H29 := by kernel_rfl
theorem cells_parts (P4 P5 : Array Value) : #[Value.int .i64 1] ++ plainV.c ++ zS.c ++ #[.slice none 0 0, .int .u32 (bvi 0#32), .int .u32 (bvi 0#32), .int .u32 (bvi 0#32)] ++ P4 ++ P5 = H29 ++ (P4 ++ P5) := by rw [H29_eq, Array.append_assoc]
theorem rec0_cells (s p : List (BitVec 8)) : recA (rec0 s p) (.slice none 0 0) = H29 ++ (vals .u8 s ++ vals .u8 p) := cells_parts _ _
theorem vals_one8 (l : List (BitVec 8)) : (vals .u8 l).all (·.oneCell') = true := by
  simp [vals, valsL]
  intro x _
  rfl
theorem H29_one : H29.all (·.oneCell') = true := by kernel_rfl
theorem rec0_one (s p : List (BitVec 8)) : (recA (rec0 s p) (.slice none 0 0)).all (·.oneCell') = true := by
  rw [rec0_cells, Array.all_append, Array.all_append, H29_one, vals_one8, vals_one8]
  rfl
theorem rec0_may (s p : List (BitVec 8)) : recE (rec0 s p) = 0 := by kernel_rfl
theorem Z32_ok : (rec0 Z32 Z32).ok := ⟨List.length_replicate, List.length_replicate⟩
theorem check0_any (w : World) : Calls Try.prog 15 #[.agg (recA (rec0 Z32 Z32) (.slice none 0 0))] w fun e w' => e = .returned (.int .i64 0) ∧ Below w.heap.size w w' := by
  have := recCheck_any (rec0 Z32 Z32) (.slice none 0 0) (recA (rec0 Z32 Z32) (.slice none 0 0)) 0 ⟨none, 0, rfl⟩ (Nat.zero_le _) (recF (rec0 Z32 Z32) Z32_ok (.slice none 0 0)) w
  rw [rec0_may] at this
  exact this
attribute [local irreducible] Calls Walk1 WalkTo Tri EndA
theorem make0_any (w : World) : Calls Try.prog 6 #[.int .i64 1, .agg plainV.c, .agg scene0, .agg zS.c, .slice none 0 0] w fun e w' => e = .returned (.tuple #[.agg (recA (rec0 (shaL (zE 9)) (shaL [])) (.slice none 0 0)), .int .i64 0]) ∧ Below w.heap.size w w' := by
  have cl := fun w => cloneNil64_any w
  have cc := fun w => check0_any w
  have ce := fun w => projEnc0_any w
  have s1 := fun v w h => shaSum_any v [zE 9] w h (by simp [zE_length]) (by simp)
  have s2 := fun v w h => shaSum_any v [[]] w h (by simp) (by simp)
  have f1 : [zE 9].flatten = zE 9 := by simp
  have f2 : ([[]] : List (List (BitVec 8))).flatten = [] := rfl
  rw [f1] at s1
  rw [f2] at s2
  have l1 := shaL_length (zE 9)
  have l2 := shaL_length []
  have hR := rec0_cells (shaL (zE 9)) (shaL [])
  have hRs : (recA (rec0 (shaL (zE 9)) (shaL [])) (.slice none 0 0)).size = 93 := (recF (rec0 (shaL (zE 9)) (shaL [])) ⟨l1, l2⟩ (.slice none 0 0)).size
  have hRo := rec0_one (shaL (zE 9)) (shaL [])
  generalize recA (rec0 (shaL (zE 9)) (shaL [])) (.slice none 0 0) = R at *
  generalize shaL (zE 9) = S1 at *
  generalize shaL [] = S2 at *
  have hA0 : (recA (rec0 Z32 Z32) (.slice none 0 0)).size = 93 := by kernel_rfl
  have hA1 : (recA (rec0 Z32 Z32) (.slice none 0 0)).all (·.oneCell') = true := by kernel_rfl
  generalize hE : zE 9 = E at *
  have hps : plainV.c.size = 21 := rfl
  have hpo : plainV.c.all (·.oneCell') = true := by kernel_rfl
  have hzs : zS.c.size = 3 := rfl
  clear f1 f2
  refine calls_tri Try.func6 rfl Try.ntmps6 rfl ?_
  iterate 23 (try (first | (show Walk1 _ _ _ (_ :: _) _ _; first | (show Walk1 _ _ _ (⟨_, .assign _, _, _, _, _⟩ :: _) _ _; refine walk1_t (op_assignN rfl rfl rfl rfl) ?_) | (show Walk1 _ _ _ (⟨_, .alloc _, _, _, _, _⟩ :: _) _ _; refine walk1_n (op_alloc rfl rfl rfl rfl rfl) (by kernel_rfl) ?_) | (show Walk1 _ _ _ (⟨_, .box _ _, _, _, _, _⟩ :: _) _ _; refine walk1_n (op_box rfl rfl rfl rfl rfl) (by kernel_rfl) ?_)) | (show WalkTo _ _ _ _ (_ :: _) _ _ _; first | (show WalkTo _ _ _ _ (⟨_, .move _, _, _, _, _⟩ :: _) _ _ _; refine walk_t (op_move rfl rfl rfl rfl) ?_) | (show WalkTo _ _ _ _ (⟨_, .load _ _, _, _, _, _⟩ :: _) _ _ _; first | refine walk_t (op_load rfl rfl rfl rfl rfl rfl rfl) ?_ | refine walk_t (op_loads rfl rfl rfl rfl rfl rfl rfl rfl) ?_) | (show WalkTo _ _ _ _ (⟨_, .fieldAddr _ _ _, _, _, _, _⟩ :: _) _ _ _; refine walk_t (op_fldT rfl rfl rfl rfl rfl rfl off_zero) ?_) | (show WalkTo _ _ _ _ (⟨_, .call ⟨.value (.func 14), _, _⟩, _, _, _, _⟩ :: _) _ _ _; ((first | refine walk_call rfl rfl rfl rfl (by repeat (first | exact evs_nil | apply evs_cons rfl)) rfl ?_ | refine walk_call0 rfl rfl rfl (by repeat (first | exact evs_nil | apply evs_cons rfl)) rfl ?_); refine ⟨_, fun e w => cl w, ?_⟩))) | refine go1 ?_ | refine end_block_other rfl ?_ | refine end_scope (fun _ h => by cases h) ?_ | (refine walk_endD ?_ ?_; (· kernel_rfl)) | refine tri_yesA rfl ?_ | refine tri_noA rfl ?_ | refine tri_trueA rfl ?_ | refine tri_falseA rfl ?_))
  refine walk_t (op_buildK (parts := [(0, .tmp 14), (1, .tmp 15), (2, .tmp 16), (3, .tmp 19), (4, .tmp 21), (5, .tmp 23), (6, .tmp 25)]) (vs := [.int .i64 1, .agg plainV.c, .agg zS.c, .slice none 0 0, .int .u32 (bvi 0#32), .int .u32 (bvi 0#32), .int .u32 (bvi 0#32)]) (recA (rec0 Z32 Z32) (.slice none 0 0)) rfl rfl rfl rfl rfl rfl (by kernel_rfl) (by kernel_rfl)) ?_
  have hAe := rec0_cells Z32 Z32
  generalize recA (rec0 Z32 Z32) (.slice none 0 0) = A0 at *
  iterate 22 (try (first | (show Walk1 _ _ _ (_ :: _) _ _; first | (show Walk1 _ _ _ (⟨_, .move _, _, _, _, _⟩ :: _) _ _; refine walk1_t (op_move rfl rfl rfl rfl) ?_) | (show Walk1 _ _ _ (⟨_, .assign _, _, _, _, _⟩ :: _) _ _; refine walk1_t (op_assign rfl rfl rfl rfl) ?_) | (show Walk1 _ _ _ (⟨_, .binOp .neq _ _ _ _, _, _, _, _⟩ :: _) _ _; refine walk1_t (op_neN rfl rfl rfl (by first | exact evN_const rfl | exact rfl) (by first | exact evN_const rfl | exact rfl)) ?_) | (show Walk1 _ _ _ (⟨_, .load _ _, _, _, _, _⟩ :: _) _ _; refine walk1_t (op_loadsC rfl rfl rfl rfl rfl rfl rfl rfl (sm_c (by assumption)) ag_c) ?_) | (show Walk1 _ _ _ (⟨_, .call ⟨.value (.func 15), _, _⟩, _, _, _, _⟩ :: _) _ _; ((first | refine walk1_call rfl rfl rfl rfl (by repeat (first | exact evs_nil | apply evs_cons rfl)) rfl ?_ | refine walk1_call0 rfl rfl rfl (by repeat (first | exact evs_nil | apply evs_cons rfl)) rfl ?_); refine ⟨_, fun e w => cc w, ?_⟩))) | (show WalkTo _ _ _ _ (_ :: _) _ _ _; first | (show WalkTo _ _ _ _ (⟨_, .store _ _ _, _, _, _, _⟩ :: _) _ _ _; refine walk_b (op_storesC rfl rfl rfl rfl rfl rfl rfl (by with_reducible assumption) (by with_reducible assumption)) ?_) | (show WalkTo _ _ _ _ (⟨_, .alloc _, _, _, _, _⟩ :: _) _ _ _; refine walk_n (op_alloc rfl rfl rfl rfl rfl) (by kernel_rfl) ?_)) | refine go1 ?_ | refine end_block_other rfl ?_ | refine end_scope (fun _ h => by cases h) ?_ | (refine walk_endD ?_ ?_; (· kernel_rfl)) | refine tri_yesA rfl ?_ | refine tri_noA rfl ?_ | refine tri_trueA rfl ?_ | refine tri_falseA rfl ?_))
  refine tri_ent (ent_blkA 12 ((SA.c H29).app ((SA.c (vals .u8 Z32)).app (SA.c (vals .u8 Z32)))) rfl (fun _ => hAe)) ?_
  have hzl : Z32.length = 32 := List.length_replicate
  generalize Z32 = ZZ at *
  generalize plainV.c = PV at *
  generalize zS.c = ZS at *
  clear hAe cc cl
  iterate 14 (try (first | (show Walk1 _ _ _ (_ :: _) _ _; first | (show Walk1 _ _ _ (⟨_, .move _, _, _, _, _⟩ :: _) _ _; refine walk1_t (op_move rfl rfl rfl rfl) ?_) | (show Walk1 _ _ _ (⟨_, .load _ _, _, _, _, _⟩ :: _) _ _; refine walk1_t (op_loads rfl rfl rfl rfl rfl rfl rfl rfl) ?_) | (show Walk1 _ _ _ (⟨_, .store _ _ _, _, _, _, _⟩ :: _) _ _; refine walk1_b (op_storesM rfl rfl rfl rfl rfl rfl rfl) ?_) | (show Walk1 _ _ _ (⟨_, .fieldAddr _ _ _, _, _, _, _⟩ :: _) _ _; refine walk1_t (op_fldT rfl rfl rfl rfl rfl rfl off_zero) ?_) | (show Walk1 _ _ _ (⟨_, .buildSlice _ _ _, _, _, _, _⟩ :: _) _ _; first | refine walk1_n (op_bsliceV rfl rfl rfl rfl rfl rfl rfl rfl rfl rfl rfl rfl) (by kernel_rfl) ?_ | refine walk1_n (op_bslice1 rfl rfl rfl rfl rfl rfl rfl rfl rfl rfl rfl (ce_one fun _ => rfl) (sm_l rfl) (by kernel_rfl)) (by kernel_rfl) ?_) | (show Walk1 _ _ _ (⟨_, .call ⟨.value (.func 13), _, _⟩, _, _, _, _⟩ :: _) _ _; (refine walk1_callO rfl rfl rfl rfl (by kernel_rfl) (by repeat (first | exact evs_nil | apply evs_cons rfl)) rfl ?_; refine ⟨_, _, _, _, _, callO_0  (fun e w  => ce w), ?_⟩)) | (show Walk1 _ _ _ (⟨_, .call ⟨.value (.func 12), _, _⟩, _, _, _, _⟩ :: _) _ _; (refine walk1_callM rfl rfl rfl rfl (by repeat (first | exact evs_nil | apply evs_cons rfl)) rfl ?_; refine ⟨_, _, callM_s (by first | exact slcq_old (by first | assumption | exact slcx_of (by assumption)) | exact slcq_row rfl (by first | rfl | omega) (by assumption) | exact slcq_list rfl (by repeat (first | exact fsqs_nil | apply fsqs_cons (by first | exact fsq_own rfl | exact fsq_osub rfl | exact fsq_subU rfl (by omega) rfl | exact fsq_ones rfl rfl (by omega) | exact fsq_one rfl (by omega) | exact fsq_lit rfl (by repeat (first | exact litl_nil | apply litl_bv | refine litl_z rfl ?_)) rfl (by omega) | exact fsq_whole rfl (by first | (with_reducible assumption) | rfl | (simp <;> fail) | omega) (by omega) | exact fsq_old (by first | assumption | exact fsx_of (by assumption) (by omega) | exact FSX.cutB (by assumption) (by omega) | exact fsx_of (FS.cutB (by assumption) (by omega)) (by omega)) | exact fsq_nil))) rfl) (fun e w h1 => s1 _ w h1), ?_⟩)) | (show Walk1 _ _ _ (⟨_, .call ⟨.value (.func 12), _, _⟩, _, _, _, _⟩ :: _) _ _; (refine walk1_callM rfl rfl rfl rfl (by repeat (first | exact evs_nil | apply evs_cons rfl)) rfl ?_; refine ⟨_, _, callM_s (by first | exact slcq_old (by first | assumption | exact slcx_of (by assumption)) | exact slcq_row rfl (by first | rfl | omega) (by assumption) | exact slcq_list rfl (by repeat (first | exact fsqs_nil | apply fsqs_cons (by first | exact fsq_own rfl | exact fsq_osub rfl | exact fsq_subU rfl (by omega) rfl | exact fsq_ones rfl rfl (by omega) | exact fsq_one rfl (by omega) | exact fsq_lit rfl (by repeat (first | exact litl_nil | apply litl_bv | refine litl_z rfl ?_)) rfl (by omega) | exact fsq_whole rfl (by first | (with_reducible assumption) | rfl | (simp <;> fail) | omega) (by omega) | exact fsq_old (by first | assumption | exact fsx_of (by assumption) (by omega) | exact FSX.cutB (by assumption) (by omega) | exact fsx_of (FS.cutB (by assumption) (by omega)) (by omega)) | exact fsq_nil))) rfl) (fun e w h1 => s2 _ w h1), ?_⟩))) | refine go1 ?_ | refine end_block_other rfl ?_ | refine end_scope (fun _ h => by cases h) ?_ | (refine walk_endD ?_ ?_; (· kernel_rfl)) | refine tri_yesA rfl ?_ | refine tri_noA rfl ?_ | refine tri_trueA rfl ?_ | refine tri_falseA rfl ?_))
  refine tri_ent (ent_blkA 12 (.c R) rfl (fun _ => hR.symm)) ?_
  clear hR hA0 hA1 s1 s2 ce
  repeat (first | (show Walk1 _ _ _ (_ :: _) _ _; first | (show Walk1 _ _ _ (⟨_, .assign _, _, _, _, _⟩ :: _) _ _; refine walk1_t (op_assignN rfl rfl rfl rfl) ?_) | (show Walk1 _ _ _ (⟨_, .load _ _, _, _, _, _⟩ :: _) _ _; refine walk1_t (op_loadsC rfl rfl rfl rfl rfl rfl rfl rfl (sm_c (by assumption)) ag_c) ?_) | (show Walk1 _ _ _ (⟨_, .store _ _ _, _, _, _, _⟩ :: _) _ _; refine walk1_b (op_storesC rfl rfl rfl rfl rfl rfl rfl (by with_reducible assumption) (by with_reducible assumption)) ?_)) | refine go1 ?_ | refine end_block_other rfl ?_ | refine end_scope (fun _ h => by cases h) ?_ | (refine walk_endD ?_ ?_; (· kernel_rfl)) | refine tri_yesA rfl ?_ | refine tri_noA rfl ?_ | refine tri_trueA rfl ?_ | refine tri_falseA rfl ?_)
  refine end_ret _ (res_cellT rfl rfl rfl rfl rfl rfl rfl hRs) ?_
  exact fin_below fun _ => rfl
end Go.Proofs.Ytihbiejgebmeaaa
