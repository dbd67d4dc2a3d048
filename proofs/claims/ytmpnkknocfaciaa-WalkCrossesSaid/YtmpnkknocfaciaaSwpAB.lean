/- Places and rays: in plain numbers; sums, products, within, May: walked. No condition. Rays and triangles: the document's sums, products, May; whether a corner lies too far off; where a ray meets a triangle: walked. No condition. -/
import Derived.Test.YtmpnkknocfaciaaSymYA
import Derived.Test.YtmpnkknocfaciaaSymLR
namespace Go.Proofs.Ytmpnkknocfaciaa
open Go.RowKit
set_option maxRecDepth 100000
set_option maxHeartbeats 1000000
theorem op_build0 {C : Ctx} {ops : Array Oper} {S : St} {o : Oper} {ty : TypeId} {parts : Array (Nat × Operand)} {fs : Array Field} {Z : Array Value} (ho : o.op = .build ty parts) (hp0 : parts = #[]) (hg : o.guard = none) (hd : dstB o.dst C.nt = true) (hu' : tabLook undT ty = some (.struct fs)) (hz' : tabLook zerT ty = some Z) (hss : (fs.all fun f => (tabLook sizT f.type).isSome) = true := by kernel_rfl) :
    OpG C Try.prog ops o S ⟨[], [], dw o.dst (.c (.agg Z)), [], []⟩ := by
  subst hp0
  refine op_value hg hd [] [] (.c (.agg Z)) fun S' e a w hS h1 _ => ?_
  have hu := tabAll_look undT_ok hu'
  have hz := tabAll_look zerT_ok hz'
  obtain ⟨zv, hz3, hzc⟩ : ∃ zv, (zeroValue ty).run Try.prog w = .ok zv w ∧ zv.cells = Z := by
    cases hb : (Try.prog.info? ty) with
    | none => simp [hb] at hz
    | some i =>
      cases hc : i.zero with
      | none => simp [hb, hc] at hz
      | some zz => exact ⟨zz, by simp [zeroValue, typeInfo, hb, hc], by simpa [hb, hc] using hz⟩
  have hall : ∀ f ∈ fs.toList, ∃ sz, tabLook sizT f.type = some sz := fun f hf => by
    have := Array.all_eq_true_iff_forall_mem.1 hss f (by simpa using hf)
    exact Option.isSome_iff_exists.1 this
  have hmap : ∀ l : List Field, (∀ f ∈ l, ∃ sz, tabLook sizT f.type = some sz) → (l.mapM fun (f : Field) => do pure (f.offset, ← sizeOf f.type)).run Try.prog w = .ok (l.map fun f => (f.offset, (tabLook sizT f.type).getD 0)) w := by
    intro l
    induction l with
    | nil => intro _; rfl
    | cons f l ih =>
      intro h
      obtain ⟨sz, hsz⟩ := h f (by simp)
      simp only [List.mapM_cons, Sem.run_bind, run_sizeT hsz w, Result.andThen_ok, Sem.run_pure, ih fun g hg => h g (by simp [hg]), List.map_cons, hsz, Option.getD_some]
  have hmapA : (fs.mapM fun (f : Field) => do pure (f.offset, ← sizeOf f.type)).run Try.prog w = .ok (fs.map fun f => (f.offset, (tabLook sizT f.type).getD 0)) w := by
    rw [Array.mapM_eq_mapM_toList]
    have e1 : (fs.toList.map fun f => (f.offset, (tabLook sizT f.type).getD 0)).toArray = fs.map fun f => (f.offset, (tabLook sizT f.type).getD 0) := by
      apply Array.ext'; simp
    simp only [map_eq_pure_bind, Sem.run_bind, hmap fs.toList hall, Result.andThen_ok, Sem.run_pure, e1]
  have hfill : ∀ pl, Instr.fill pl Z [] = some Z := fun _ => rfl
  simp only [execOp, ho, Instr.build, Sem.run_bind, hz3, Result.andThen_ok, run_underlying hu w, hmapA, hzc, List.map_toArray, List.map_nil, hfill, Sem.run_pure]
  rfl
theorem op_loadsC {C : Ctx} {ops : Array Oper} {S : St} {o : Oper} {ty : TypeId} {x : Operand} {n : Nat} {T : TypeId} {a : Array Value} {wr : Bool} {d : TypeDesc} {m : Nat} (ho : o.op = .load ty x) (hg : o.guard = none) (hd : dstB o.dst C.nt = true) (hx : S.ev x = some (.p n 0)) (hr : S.res n = some (.blk n T (.c a) wr))
    (hu' : tabLook undT ty = some d) (hda : d.isRow = true) (hi' : tabLook sizT ty = some m) (hm : ∀ e, ((SA.c a).den e).size = m) (hv : ∀ e, .agg ((SA.c a).den e) = (SV.c (.agg a)).den e) : OpG C Try.prog ops o S ⟨opT x, n :: (SV.c (.agg a)).sup, dw o.dst (.c (.agg a)), [], []⟩ := op_loads ho hg hd hx hr hu' hda hi' hm hv
theorem op_loadsK {C : Ctx} {ops : Array Oper} {S : St} {o : Oper} {ty : TypeId} {x : Operand} {n off : Nat} {T : TypeId} {a a' : Array Value} {wr : Bool} {d : TypeDesc} {m : Nat} (ho : o.op = .load ty x) (hg : o.guard = none) (hd : dstB o.dst C.nt = true) (hx : S.ev x = some (.p n off)) (hr : S.res n = some (.blk n T (.c a) wr))
    (hu' : tabLook undT ty = some d) (hda : d.isRow = true) (hi' : tabLook sizT ty = some m) (hs : Sub (.c a) off m (.c a')) : OpG C Try.prog ops o S ⟨opT x, n :: (SV.c (.agg a')).sup, dw o.dst (.c (.agg a')), [], []⟩ :=
  op_loadsM ho hg hd hx hr hu' hda hi' hs (fun _ => rfl)
/-- Handed back: a row of cells, and a value. -/
theorem res_cellT {C : Ctx} {S : St} {fn : Func} {t1 t2 : Tmp} {ty1 : TypeId} {n1 m1 : Nat} {T1 : TypeId} {A1 : Array Value} {u : Value} {wr1 : Bool} {d1 : TypeDesc} (h : fn.results = #[.cell t1 ty1, .tmp t2]) (hv1 : S.tmp t1 = some (.p n1 0)) (hr1 : S.res n1 = some (.blk n1 T1 (.c A1) wr1)) (hv2 : S.tmp t2 = some (.c u))
    (hu1 : tabLook undT ty1 = some d1) (hda1 : d1.isRow = true) (hi1 : tabLook sizT ty1 = some m1) (hm1 : A1.size = m1) :
    ∀ e a w, Holds C S e a w → (results fn a.tmps).run Try.prog w = .ok ((SV.c (.tuple #[.agg A1, u])).den e) w := fun e a w hS => by
  have hu1 := tabAll_look undT_ok hu1
  have hi1 := tabAll_look sizT_ok hi1
  obtain ⟨fr1, hb1, _⟩ := res_blk hS hr1
  have hp1 : a.tmps.getD t1 undef = .pointer (some ⟨(e n1).b, 0, none⟩) := getD_of (hS.tmp t1 _ hv1)
  have hp2 : a.tmps.getD t2 undef = u := getD_of (hS.tmp t2 _ hv2)
  have hp1' : a.tmps[t1]?.getD undef = .pointer (some ⟨(e n1).b, 0, none⟩) := by simpa using hp1
  have hp2' : a.tmps[t2]?.getD undef = u := by simpa using hp2
  have k1 := run_loadVar_row (P := Try.prog) w (e n1).b T1 ty1 A1 fr1 d1 hb1 hu1 (by cases d1 <;> simp_all) (by rw [hi1, hm1])
  simp [results, h, hp1', hp2', asAddr, k1]
  rfl
/-! ### structs of whole numbers, held against each other -/
def intsC (l : List Int) : Array Value := (l.map fun z => Value.int .i64 z).toArray
theorem run_eqInt {P : Program} {w : World} {d : Nat} {t : TypeId} {a b : Int} (ht : P.underlying t = some (.int .i64)) : (Op.equalIn (d + 1) t (.int .i64 a) (.int .i64 b)).run P w = .ok (a == b) w := by
  simp [Op.equalIn, run_underlying ht]
theorem eqFields_ints {P : Program} {w : World} (d : Nat) (a b : List Int) : ∀ (fs : List Field) (off : Nat), (∀ (i : Nat) f, fs[i]? = some f → f.name ≠ "_" ∧ f.offset = off + i ∧ P.underlying f.type = some (.int .i64)) → a.length = off + fs.length → b.length = off + fs.length → (Op.eqFields (d + 1) (intsC a) (intsC b) fs).run P w = .ok (a.drop off == b.drop off) w
  | [], off, _, ha, hb => by
    rw [List.drop_of_length_le (by simp at ha; omega), List.drop_of_length_le (by simp at hb; omega)]
    simp [Op.eqFields]
  | f :: fs, off, h, ha, hb => by
    simp only [List.length_cons] at ha hb
    obtain ⟨h1, h2, h3⟩ := h 0 f rfl
    have ih := eqFields_ints (w := w) d a b fs (off + 1) (fun i g hg => by
      obtain ⟨g1, g2, g3⟩ := h (i + 1) g (by simpa using hg)
      exact ⟨g1, by omega, g3⟩) (by omega) (by omega)
    have hxa : (intsC a)[off]? = some (.int .i64 (a[off]'(by omega))) := by simp [intsC, List.getElem?_eq_getElem (show off < a.length by omega)]
    have hxb : (intsC b)[off]? = some (.int .i64 (b[off]'(by omega))) := by simp [intsC, List.getElem?_eq_getElem (show off < b.length by omega)]
    have pa : (part f.type (intsC a) f.offset).run P w = .ok (.int .i64 (a[off]'(by omega))) w := by
      rw [h2, Nat.add_zero]
      simp [part, isAgg, run_underlying h3, hxa]
    have pb : (part f.type (intsC b) f.offset).run P w = .ok (.int .i64 (b[off]'(by omega))) w := by
      rw [h2, Nat.add_zero]
      simp [part, isAgg, run_underlying h3, hxb]
    rw [List.drop_eq_getElem_cons (by omega : off < a.length), List.drop_eq_getElem_cons (by omega : off < b.length)]
    rw [Op.eqFields, if_pos h1]
    simp only [Sem.run_bind, pa, pb, Result.andThen_ok, run_eqInt h3]
    by_cases he : a[off]'(by omega) = b[off]'(by omega)
    · have hb2 : (a[off]'(by omega) == b[off]'(by omega)) = true := by rw [he]; exact beq_self_eq_true _
      rw [List.cons_beq_cons, hb2, Bool.true_and]
      simp only [Bool.not_true, Bool.false_eq_true, if_false, ih]
    · have hb2 : (a[off]'(by omega) == b[off]'(by omega)) = false := by simpa using he
      rw [List.cons_beq_cons, hb2, Bool.false_and]
      simp only [Bool.not_false, if_true, Sem.run_pure]
/-! ### places -/
structure P3 where
  x : Int
  y : Int
  z : Int
def P3.l (p : P3) : List Int := [p.x, p.y, p.z]
def P3.c (p : P3) : Array Value := #[.int .i64 p.x, .int .i64 p.y, .int .i64 p.z]
theorem P3.cells (p : P3) : p.c = intsC p.l := rfl
def subP (a b : P3) : P3 := ⟨sW a.x b.x, sW a.y b.y, sW a.z b.z⟩
def crossP (a b : P3) : P3 := ⟨sW (mW a.y b.z) (mW a.z b.y), sW (mW a.z b.x) (mW a.x b.z), sW (mW a.x b.y) (mW a.y b.x)⟩
def dotP (a b : P3) : Int := aW (aW (mW a.x b.x) (mW a.y b.y)) (mW a.z b.z)
def inP (p : P3) (m : Int) : Bool := decide (max3 p.x p.y p.z ≤ m) && decide (-m ≤ min3 p.x p.y p.z)
def mayP (o d : P3) : Bool := inP o 65536 && (inP d 131072 && !(d.l == [0, 0, 0]))
theorem eqPt_run (a b : P3) (w : World) : (Op.equalIn 10000 32 (.agg a.c) (.agg b.c)).run Try.prog w = .ok (a.l == b.l) w := by
  have hu := Try.underlying32
  have hfo : Try.prog.underlying 32 = some (.struct (Try.prog.fieldsOf 32)) := by simp [Program.fieldsOf, hu]
  rw [run_equalIn_struct w 9999 32 _ _ hfo (by kernel_rfl), a.cells, b.cells]
  have := eqFields_ints (P := Try.prog) (w := w) 9998 a.l b.l (Try.prog.fieldsOf 32).toList 0 (fun i f hf => by
    simp only [Program.fieldsOf, hu] at hf
    match i, hf with
    | 0, hf => simp at hf; subst hf; exact ⟨by decide, rfl, Try.underlying3⟩
    | 1, hf => simp at hf; subst hf; exact ⟨by decide, rfl, Try.underlying3⟩
    | 2, hf => simp at hf; subst hf; exact ⟨by decide, rfl, Try.underlying3⟩
    | j + 3, hf => simp at hf) (by simp only [Program.fieldsOf, hu]; rfl) (by simp only [Program.fieldsOf, hu]; rfl)
  simpa using this
attribute [local irreducible] Calls Walk1 WalkTo Tri EndA
theorem subT_any (a b : P3) (w : World) : Calls Try.prog 57 #[.agg a.c, .agg b.c] w fun e w' => e = .returned (.agg (subP a b).c) ∧ Below w.heap.size w w' := by
  obtain ⟨x, y, z⟩ := a
  obtain ⟨x', y', z'⟩ := b
  simp only [P3.c, subP]
  refine calls_tri Try.func57 rfl Try.ntmps57 rfl ?_
  repeat (first | (show Walk1 _ _ _ (_ :: _) _ _; first | (show Walk1 _ _ _ (⟨_, .binOp .sub _ _ _ _, _, _, _, _⟩ :: _) _ _; refine walk1_t (op_subW rfl rfl rfl rfl rfl) ?_) | (show Walk1 _ _ _ (⟨_, .load _ _, _, _, _, _⟩ :: _) _ _; refine walk1_t (op_load rfl rfl rfl rfl rfl rfl rfl) ?_) | (show Walk1 _ _ _ (⟨_, .store _ _ _, _, _, _, _⟩ :: _) _ _; refine walk1_b (op_storesM rfl rfl rfl rfl rfl rfl rfl) ?_) | (show Walk1 _ _ _ (⟨_, .alloc _, _, _, _, _⟩ :: _) _ _; refine walk1_n (op_alloc rfl rfl rfl rfl rfl) (by kernel_rfl) ?_) | (show Walk1 _ _ _ (⟨_, .box _ _, _, _, _, _⟩ :: _) _ _; refine walk1_n (op_box rfl rfl rfl rfl rfl) (by kernel_rfl) ?_) | (show Walk1 _ _ _ (⟨_, .fieldAddr _ _ _, _, _, _, _⟩ :: _) _ _; refine walk1_t (op_fldT rfl rfl rfl rfl rfl rfl off_zero) ?_) | (show Walk1 _ _ _ (⟨_, .build _ _, _, _, _, _⟩ :: _) _ _; refine walk1_t (op_buildS rfl rfl rfl rfl) ?_)) | refine go1 ?_ | refine end_block_other rfl ?_ | refine end_scope (fun _ h => by cases h) ?_ | (refine walk_endD ?_ ?_; (· kernel_rfl)) | refine tri_yesA rfl ?_ | refine tri_noA rfl ?_ | refine tri_trueA rfl ?_ | refine tri_falseA rfl ?_)
  refine end_ent (ent_blkA 4 (.c (subP ⟨x, y, z⟩ ⟨x', y', z'⟩).c) rfl (fun _ => rfl)) ?_
  refine end_ret _ (res_cells rfl rfl rfl rfl rfl rfl (sm_c rfl) ag_c) ?_
  exact fin_below fun _ => rfl
theorem crossT_any (a b : P3) (w : World) : Calls Try.prog 58 #[.agg a.c, .agg b.c] w fun e w' => e = .returned (.agg (crossP a b).c) ∧ Below w.heap.size w w' := by
  obtain ⟨x, y, z⟩ := a
  obtain ⟨x', y', z'⟩ := b
  simp only [P3.c, crossP]
  refine calls_tri Try.func58 rfl Try.ntmps58 rfl ?_
  repeat (first | (show Walk1 _ _ _ (_ :: _) _ _; first | (show Walk1 _ _ _ (⟨_, .binOp .sub _ _ _ _, _, _, _, _⟩ :: _) _ _; refine walk1_t (op_subW rfl rfl rfl rfl rfl) ?_) | (show Walk1 _ _ _ (⟨_, .binOp .mul _ _ _ _, _, _, _, _⟩ :: _) _ _; refine walk1_t (op_mulW rfl rfl rfl rfl rfl) ?_) | (show Walk1 _ _ _ (⟨_, .load _ _, _, _, _, _⟩ :: _) _ _; refine walk1_t (op_load rfl rfl rfl rfl rfl rfl rfl) ?_) | (show Walk1 _ _ _ (⟨_, .store _ _ _, _, _, _, _⟩ :: _) _ _; refine walk1_b (op_storesM rfl rfl rfl rfl rfl rfl rfl) ?_) | (show Walk1 _ _ _ (⟨_, .alloc _, _, _, _, _⟩ :: _) _ _; refine walk1_n (op_alloc rfl rfl rfl rfl rfl) (by kernel_rfl) ?_) | (show Walk1 _ _ _ (⟨_, .box _ _, _, _, _, _⟩ :: _) _ _; refine walk1_n (op_box rfl rfl rfl rfl rfl) (by kernel_rfl) ?_) | (show Walk1 _ _ _ (⟨_, .fieldAddr _ _ _, _, _, _, _⟩ :: _) _ _; refine walk1_t (op_fldT rfl rfl rfl rfl rfl rfl off_zero) ?_) | (show Walk1 _ _ _ (⟨_, .build _ _, _, _, _, _⟩ :: _) _ _; refine walk1_t (op_buildS rfl rfl rfl rfl) ?_)) | refine go1 ?_ | refine end_block_other rfl ?_ | refine end_scope (fun _ h => by cases h) ?_ | (refine walk_endD ?_ ?_; (· kernel_rfl)) | refine tri_yesA rfl ?_ | refine tri_noA rfl ?_ | refine tri_trueA rfl ?_ | refine tri_falseA rfl ?_)
  refine end_ent (ent_blkA 4 (.c (crossP ⟨x, y, z⟩ ⟨x', y', z'⟩).c) rfl (fun _ => rfl)) ?_
  refine end_ret _ (res_cells rfl rfl rfl rfl rfl rfl (sm_c rfl) ag_c) ?_
  exact fin_below fun _ => rfl
theorem dotT_any (a b : P3) (w : World) : Calls Try.prog 59 #[.agg a.c, .agg b.c] w fun e w' => e = .returned (.int .i64 (dotP a b)) ∧ Below w.heap.size w w' := by
  obtain ⟨x, y, z⟩ := a
  obtain ⟨x', y', z'⟩ := b
  simp only [P3.c, dotP]
  refine calls_tri Try.func59 rfl Try.ntmps59 rfl ?_
  repeat (first | (show Walk1 _ _ _ (_ :: _) _ _; first | (show Walk1 _ _ _ (⟨_, .assign _, _, _, _, _⟩ :: _) _ _; first | refine walk1_t (op_assignN rfl rfl rfl rfl) ?_ | refine walk1_t (op_assign rfl rfl rfl rfl) ?_) | (show Walk1 _ _ _ (⟨_, .binOp .add _ _ _ _, _, _, _, _⟩ :: _) _ _; refine walk1_t (op_addW rfl rfl rfl rfl rfl) ?_) | (show Walk1 _ _ _ (⟨_, .binOp .mul _ _ _ _, _, _, _, _⟩ :: _) _ _; refine walk1_t (op_mulW rfl rfl rfl rfl rfl) ?_) | (show Walk1 _ _ _ (⟨_, .load _ _, _, _, _, _⟩ :: _) _ _; refine walk1_t (op_load rfl rfl rfl rfl rfl rfl rfl) ?_) | (show Walk1 _ _ _ (⟨_, .box _ _, _, _, _, _⟩ :: _) _ _; refine walk1_n (op_box rfl rfl rfl rfl rfl) (by kernel_rfl) ?_) | (show Walk1 _ _ _ (⟨_, .fieldAddr _ _ _, _, _, _, _⟩ :: _) _ _; refine walk1_t (op_fldT rfl rfl rfl rfl rfl rfl off_zero) ?_)) | refine go1 ?_ | refine end_block_other rfl ?_ | refine end_scope (fun _ h => by cases h) ?_ | (refine walk_endD ?_ ?_; (· kernel_rfl)) | refine tri_yesA rfl ?_ | refine tri_noA rfl ?_ | refine tri_trueA rfl ?_ | refine tri_falseA rfl ?_)
  refine end_ret _ (res_tmp rfl rfl) ?_
  exact fin_below fun _ => rfl
theorem within_any (p : P3) (m : Int) (hm : 0 ≤ m ∧ m ≤ 1000000) (w : World) : Calls Try.prog 54 #[.agg p.c, .int .i64 m] w fun e w' => e = .returned (.bool (inP p m)) ∧ Below w.heap.size w w' := by
  obtain ⟨x, y, z⟩ := p
  simp only [P3.c, inP]
  by_cases h : max3 x y z ≤ m
  · rw [decide_eq_true h, Bool.true_and]
    refine calls_tri Try.func54 rfl Try.ntmps54 rfl ?_
    repeat (first | (show Walk1 _ _ _ (_ :: _) _ _; first | (show Walk1 _ _ _ (⟨_, _, _, _, _, some _⟩ :: _) _ _; refine walk1_yes rfl rfl (by first | exact decide_eq_true (by omega) | exact decide_eq_false (by omega) | rfl | (show _ = true; with_reducible assumption) | (show _ = false; with_reducible assumption) | (simp <;> fail) | omega) ?_) | (show Walk1 _ _ _ (⟨_, .move _, _, _, _, _⟩ :: _) _ _; refine walk1_t (op_move rfl rfl rfl rfl) ?_) | (show Walk1 _ _ _ (⟨_, .assign _, _, _, _, _⟩ :: _) _ _; refine walk1_t (op_assign rfl rfl rfl rfl) ?_) | (show Walk1 _ _ _ (⟨_, .binOp .leq _ _ _ _, _, _, _, _⟩ :: _) _ _; refine walk1_t (op_leI rfl rfl rfl rfl rfl) ?_) | (show Walk1 _ _ _ (⟨_, .binOp .geq _ _ _ _, _, _, _, _⟩ :: _) _ _; refine walk1_t (op_geI rfl rfl rfl rfl rfl) ?_) | (show Walk1 _ _ _ (⟨_, .pick _ _ _, _, _, _, _⟩ :: _) _ _; refine walk1_t (op_pickY rfl rfl rfl rfl (by first | exact decide_eq_true (by omega) | exact decide_eq_false (by omega) | rfl | (show _ = true; with_reducible assumption) | (show _ = false; with_reducible assumption) | (simp <;> fail) | omega) rfl) ?_) | (show Walk1 _ _ _ (⟨_, .unOp _ _ _, _, _, _, _⟩ :: _) _ _; refine walk1_t (op_negI rfl rfl rfl rfl (by omega)) ?_) | (show Walk1 _ _ _ (⟨_, .load _ _, _, _, _, _⟩ :: _) _ _; refine walk1_t (op_load rfl rfl rfl rfl rfl rfl rfl) ?_) | (show Walk1 _ _ _ (⟨_, .box _ _, _, _, _, _⟩ :: _) _ _; refine walk1_n (op_box rfl rfl rfl rfl rfl) (by kernel_rfl) ?_) | (show Walk1 _ _ _ (⟨_, .fieldAddr _ _ _, _, _, _, _⟩ :: _) _ _; refine walk1_t (op_fldT rfl rfl rfl rfl rfl rfl off_zero) ?_) | (show Walk1 _ _ _ (⟨_, .call ⟨.builtin .min, _, _⟩, _, _, _, _⟩ :: _) _ _; refine walk1_t (op_min3I rfl rfl rfl rfl) ?_) | (show Walk1 _ _ _ (⟨_, .call ⟨.builtin .max, _, _⟩, _, _, _, _⟩ :: _) _ _; refine walk1_t (op_max3I rfl rfl rfl rfl) ?_)) | refine go1 ?_ | refine end_block_other rfl ?_ | refine end_scope (fun _ h => by cases h) ?_ | (refine walk_endD ?_ ?_; (· kernel_rfl)) | refine tri_yesA rfl ?_ | refine tri_noA rfl ?_ | refine tri_trueA rfl ?_ | refine tri_falseA rfl ?_)
    refine end_ret _ (res_tmp rfl rfl) ?_
    exact fin_below fun _ => rfl
  · rw [decide_eq_false h, Bool.false_and]
    refine calls_tri Try.func54 rfl Try.ntmps54 rfl ?_
    repeat (first | (show Walk1 _ _ _ (_ :: _) _ _; first | (show Walk1 _ _ _ (⟨_, _, _, _, _, some _⟩ :: _) _ _; refine walk1_no rfl rfl (by first | exact decide_eq_true (by omega) | exact decide_eq_false (by omega) | rfl | (show _ = true; with_reducible assumption) | (show _ = false; with_reducible assumption) | (simp <;> fail) | omega) rfl ?_) | (show Walk1 _ _ _ (⟨_, .move _, _, _, _, _⟩ :: _) _ _; refine walk1_t (op_move rfl rfl rfl rfl) ?_) | (show Walk1 _ _ _ (⟨_, .assign _, _, _, _, _⟩ :: _) _ _; refine walk1_t (op_assign rfl rfl rfl rfl) ?_) | (show Walk1 _ _ _ (⟨_, .binOp .leq _ _ _ _, _, _, _, _⟩ :: _) _ _; refine walk1_t (op_leI rfl rfl rfl rfl rfl) ?_) | (show Walk1 _ _ _ (⟨_, .pick _ _ _, _, _, _, _⟩ :: _) _ _; refine walk1_t (op_pickN rfl rfl rfl rfl (by first | exact decide_eq_true (by omega) | exact decide_eq_false (by omega) | rfl | (show _ = true; with_reducible assumption) | (show _ = false; with_reducible assumption) | (simp <;> fail) | omega) rfl) ?_) | (show Walk1 _ _ _ (⟨_, .load _ _, _, _, _, _⟩ :: _) _ _; refine walk1_t (op_load rfl rfl rfl rfl rfl rfl rfl) ?_) | (show Walk1 _ _ _ (⟨_, .box _ _, _, _, _, _⟩ :: _) _ _; refine walk1_n (op_box rfl rfl rfl rfl rfl) (by kernel_rfl) ?_) | (show Walk1 _ _ _ (⟨_, .fieldAddr _ _ _, _, _, _, _⟩ :: _) _ _; refine walk1_t (op_fldT rfl rfl rfl rfl rfl rfl off_zero) ?_) | (show Walk1 _ _ _ (⟨_, .call ⟨.builtin .max, _, _⟩, _, _, _, _⟩ :: _) _ _; refine walk1_t (op_max3I rfl rfl rfl rfl) ?_)) | refine go1 ?_ | refine end_block_other rfl ?_ | refine end_scope (fun _ h => by cases h) ?_ | (refine walk_endD ?_ ?_; (· kernel_rfl)) | refine tri_yesA rfl ?_ | refine tri_noA rfl ?_ | refine tri_trueA rfl ?_ | refine tri_falseA rfl ?_)
    refine end_ret (.c (.bool false)) (res_tmp rfl (by first | rfl | simp)) ?_
    exact fin_below fun _ => rfl
theorem mayT_any (o d : P3) (w : World) : Calls Try.prog 26 #[.agg o.c, .agg d.c] w fun e w' => e = .returned (.bool (mayP o d)) ∧ Below w.heap.size w w' := by
  have c1 := fun w => within_any o 65536 (by omega) w
  have c2 := fun w => within_any d 131072 (by omega) w
  have hr := fun w => eqPt_run d ⟨0, 0, 0⟩ w
  rw [show (⟨0, 0, 0⟩ : P3).c = #[.int .i64 0, .int .i64 0, .int .i64 0] from rfl] at hr
  have hso : o.c.size = 3 := rfl
  have hsd : d.c.size = 3 := rfl
  have h0 : (⟨0, 0, 0⟩ : P3).l = [0, 0, 0] := rfl
  rw [h0] at hr
  unfold mayP
  generalize inP o 65536 = A at *
  generalize inP d 131072 = B at *
  generalize (d.l == [0, 0, 0]) = E at *
  generalize o.c = O at *
  generalize d.c = D at *
  cases A <;> cases B
  all_goals
    refine calls_tri Try.func26 rfl Try.ntmps26 rfl ?_
    repeat (first | (show Walk1 _ _ _ (_ :: _) _ _; first | (show Walk1 _ _ _ (⟨_, _, _, _, _, some _⟩ :: _) _ _; first | refine walk1_yes rfl rfl (by first | exact decide_eq_true (by omega) | exact decide_eq_false (by omega) | rfl | (show _ = true; with_reducible assumption) | (show _ = false; with_reducible assumption) | (simp <;> fail) | omega) ?_ | refine walk1_no rfl rfl (by first | exact decide_eq_true (by omega) | exact decide_eq_false (by omega) | rfl | (show _ = true; with_reducible assumption) | (show _ = false; with_reducible assumption) | (simp <;> fail) | omega) rfl ?_) | (show Walk1 _ _ _ (⟨_, .move _, _, _, _, _⟩ :: _) _ _; refine walk1_t (op_move rfl rfl rfl rfl) ?_) | (show Walk1 _ _ _ (⟨_, .assign _, _, _, _, _⟩ :: _) _ _; refine walk1_t (op_assign rfl rfl rfl rfl) ?_) | (show Walk1 _ _ _ (⟨_, .binOp .neq _ _ _ _, _, _, _, _⟩ :: _) _ _; refine walk1_t (op_neR (by assumption) rfl rfl rfl rfl rfl (fun _ => rfl) (fun _ => rfl) (by kernel_rfl)) ?_) | (show Walk1 _ _ _ (⟨_, .pick _ _ _, _, _, _, _⟩ :: _) _ _; first | refine walk1_t (op_pickY rfl rfl rfl rfl (by first | exact decide_eq_true (by omega) | exact decide_eq_false (by omega) | rfl | (show _ = true; with_reducible assumption) | (show _ = false; with_reducible assumption) | (simp <;> fail) | omega) rfl) ?_ | refine walk1_t (op_pickN rfl rfl rfl rfl (by first | exact decide_eq_true (by omega) | exact decide_eq_false (by omega) | rfl | (show _ = true; with_reducible assumption) | (show _ = false; with_reducible assumption) | (simp <;> fail) | omega) rfl) ?_) | (show Walk1 _ _ _ (⟨_, .load _ _, _, _, _, _⟩ :: _) _ _; refine walk1_t (op_loads rfl rfl rfl rfl rfl rfl rfl rfl) ?_) | (show Walk1 _ _ _ (⟨_, .box _ _, _, _, _, _⟩ :: _) _ _; refine walk1_n (op_box rfl rfl rfl rfl rfl) (by kernel_rfl) ?_) | (show Walk1 _ _ _ (⟨_, .build _ _, _, _, _, _⟩ :: _) _ _; refine walk1_t (op_build0 rfl rfl rfl rfl rfl rfl) ?_) | (show Walk1 _ _ _ (⟨_, .call ⟨.value (.func 54), _, _⟩, _, _, _, _⟩ :: _) _ _; ((first | refine walk1_call rfl rfl rfl rfl (by repeat (first | exact evs_nil | apply evs_cons rfl)) rfl ?_ | refine walk1_call0 rfl rfl rfl (by repeat (first | exact evs_nil | apply evs_cons rfl)) rfl ?_); refine ⟨_, fun e w => c1 w, ?_⟩)) | (show Walk1 _ _ _ (⟨_, .call ⟨.value (.func 54), _, _⟩, _, _, _, _⟩ :: _) _ _; ((first | refine walk1_call rfl rfl rfl rfl (by repeat (first | exact evs_nil | apply evs_cons rfl)) rfl ?_ | refine walk1_call0 rfl rfl rfl (by repeat (first | exact evs_nil | apply evs_cons rfl)) rfl ?_); refine ⟨_, fun e w => c2 w, ?_⟩))) | refine go1 ?_ | refine end_block_other rfl ?_ | refine end_scope (fun _ h => by cases h) ?_ | (refine walk_endD ?_ ?_; (· kernel_rfl)) | refine tri_yesA rfl ?_ | refine tri_noA rfl ?_ | refine tri_trueA rfl ?_ | refine tri_falseA rfl ?_)
    first
    | (refine end_ret (.c (.bool false)) (res_tmp rfl rfl) ?_; exact fin_below fun _ => rfl)
    | (refine end_ret (.c (.bool (!E))) (res_tmp rfl rfl) ?_; exact fin_below fun _ => rfl)
theorem farT_any (p : P3) (w : World) : Calls Try.prog 55 #[.agg p.c] w fun e w' => e = .returned (.bool (!(inP p 65536))) ∧ Below w.heap.size w w' := by
  have c1 := fun w => within_any p 65536 (by omega) w
  have hs : p.c.size = 3 := rfl
  generalize inP p 65536 = A at *
  generalize p.c = O at *
  refine calls_tri Try.func55 rfl Try.ntmps55 rfl ?_
  repeat (first | (show Walk1 _ _ _ (_ :: _) _ _; first | (show Walk1 _ _ _ (⟨_, .assign _, _, _, _, _⟩ :: _) _ _; refine walk1_t (op_assign rfl rfl rfl rfl) ?_) | (show Walk1 _ _ _ (⟨_, .unOp _ _ _, _, _, _, _⟩ :: _) _ _; refine walk1_t (op_not rfl rfl rfl rfl) ?_) | (show Walk1 _ _ _ (⟨_, .load _ _, _, _, _, _⟩ :: _) _ _; refine walk1_t (op_loads rfl rfl rfl rfl rfl rfl rfl rfl) ?_) | (show Walk1 _ _ _ (⟨_, .box _ _, _, _, _, _⟩ :: _) _ _; refine walk1_n (op_box rfl rfl rfl rfl rfl) (by kernel_rfl) ?_) | (show Walk1 _ _ _ (⟨_, .call ⟨.value (.func 54), _, _⟩, _, _, _, _⟩ :: _) _ _; ((first | refine walk1_call rfl rfl rfl rfl (by repeat (first | exact evs_nil | apply evs_cons rfl)) rfl ?_ | refine walk1_call0 rfl rfl rfl (by repeat (first | exact evs_nil | apply evs_cons rfl)) rfl ?_); refine ⟨_, fun e w => c1 w, ?_⟩))) | refine go1 ?_ | refine end_block_other rfl ?_ | refine end_scope (fun _ h => by cases h) ?_ | (refine walk_endD ?_ ?_; (· kernel_rfl)) | refine tri_yesA rfl ?_ | refine tri_noA rfl ?_ | refine tri_trueA rfl ?_ | refine tri_falseA rfl ?_)
  refine end_ret (.c (.bool (!A))) (res_tmp rfl rfl) ?_
  exact fin_below fun _ => rfl
end Go.Proofs.Ytmpnkknocfaciaa
namespace Go.Proofs.Ytmpnkknocfaciaa
open Go.RowKit
set_option maxRecDepth 100000
set_option maxHeartbeats 1000000
def ptsC (l : List P3) : List Value := l.flatMap fun p => p.c.toList
def outF (p : P3) : Bool := !(inP p 65536)
def firstOut (l : List P3) : Int := if l.findIdx outF < l.length then ((l.findIdx outF : Nat) : Int) else -1
theorem firstOut_at {l : List P3} {j : Nat} (hj : j < l.length) (h : outF l[j] = true) (hp : ∀ i (hi : i < j), outF (l[i]'(by omega)) = false) : firstOut l = (j : Int) := by
  have : l.findIdx outF = j := (List.findIdx_eq hj).2 ⟨h, fun i hi => hp i hi⟩
  rw [firstOut, this, if_pos hj]
theorem firstOut_none {l : List P3} (hp : ∀ i (hi : i < l.length), outF l[i] = false) : firstOut l = -1 := by
  have : l.findIdx outF = l.length := List.findIdx_eq_length_of_false fun x hx => by
    obtain ⟨i, hi, rfl⟩ := List.getElem_of_mem hx
    exact hp i hi
  rw [firstOut, this, if_neg (by omega)]
theorem firstOut_any (l : List P3) : decide (0 ≤ firstOut l) = l.any outF := by
  rw [Bool.eq_iff_iff, decide_eq_true_eq, List.any_eq_true]
  constructor
  · intro h
    unfold firstOut at h
    split at h
    · rename_i hl
      exact ⟨_, List.getElem_mem hl, List.findIdx_getElem (w := hl)⟩
    · omega
  · rintro ⟨x, hx, hf⟩
    have hl : l.findIdx outF < l.length := List.findIdx_lt_length_of_exists ⟨x, hx, hf⟩
    rw [firstOut, if_pos hl]
    omega
attribute [local irreducible] Calls Walk1 WalkTo Tri EndA
theorem indexFunc_any (v : Value) (l : List P3) (w : World) (hv : RdV w 3 v l.length (ptsC l)) (hl : l.length ≤ 100000) :
    Calls Try.prog 84 #[v, .func (.func 55) #[] #[]] w fun e w' => e = .returned (.int .i64 (firstOut l)) ∧ Below w.heap.size w w' := by
  have hzl : ∀ p ∈ l, p.c.toList.length = 3 := fun _ _ => rfl
  have hrow := fun i p h => flat_row l hzl i p h
  have hlen : (ptsC l).length = l.length * 3 := hv.1
  have hd : ptsC l = l.flatMap fun p => p.c.toList := rfl
  rw [← hd] at hrow
  have cf := farT_any
  refine calls_tri Try.func84 rfl Try.ntmps84 rfl ?_
  repeat (first | (show Walk1 _ _ _ (_ :: _) _ _; first | (show Walk1 _ _ _ (⟨_, .move _, _, _, _, _⟩ :: _) _ _; first | refine walk1_t (op_moveN rfl rfl rfl rfl) ?_ | refine walk1_t (op_move rfl rfl rfl rfl) ?_) | (show Walk1 _ _ _ (⟨_, .assign _, _, _, _, _⟩ :: _) _ _; refine walk1_t (op_assignN rfl rfl rfl rfl) ?_) | (show Walk1 _ _ _ (⟨_, .call ⟨.builtin .len, _, _⟩, _, _, _, _⟩ :: _) _ _; refine walk1_t (op_lenF rfl rfl rfl (by first | assumption | exact FS.rd (by first | assumption | exact FSX.fs (by assumption) | (refine FS.cutB (by assumption) ?_; omega) | (refine FS.cut (by assumption) ?_; omega)))) ?_)) | refine go1 ?_ | refine end_block_other rfl ?_ | refine end_scope (fun _ h => by cases h) ?_ | (refine walk_endD ?_ ?_; (· kernel_rfl)) | refine tri_yesA rfl ?_ | refine tri_noA rfl ?_ | refine tri_trueA rfl ?_ | refine tri_falseA rfl ?_)
  refine tri_loop (X := Nat) (fun j => ⟨[(8, SV.c (.int .i64 ((j : Nat) : Int))), (7, SV.c (.int .i64 ((l.length : Nat) : Int))), (0, .c v), (1, .c (.func (.func 55) #[] #[]))], []⟩)
    (fun j => j ≤ l.length ∧ ∀ i (hi : i < j) (hi2 : i < l.length), outF l[i] = false) (fun j => l.length - j) 0 ⟨by omega, fun i hi => by omega⟩ (ent_keep (by repeat (first | exact hasT_nil | refine hasT_cons rfl ?_ | refine hasT_eq rfl (svi (by omega)) ?_)) (by repeat (first | exact hasR_nil | refine hasR_cons rfl ?_))) ?_
  rintro j ⟨hj, hp⟩ K next
  by_cases h : j < l.length
  · have hr := hrow j l[j] (List.getElem?_eq_getElem h)
    have c1 := fun w => cf l[j] w
    have nx := fun S' => next S' (j + 1)
    rw [show j * 3 = 0 + j * 3 by omega] at hr
    have ho : (!(inP l[j] 65536)) = outF l[j] := rfl
    rw [ho] at c1
    clear next hrow cf
    cases hb : outF l[j] with
    | false =>
      rw [hb] at c1
      have hp1 : ∀ i (hi : i < j + 1) (hi2 : i < l.length), outF l[i] = false := fun i hi hi2 => by
        rcases Nat.lt_or_ge i j with h1 | h1
        · exact hp i h1 hi2
        · obtain rfl : i = j := by omega
          exact hb
      clear hp hb
      repeat (first | (show Walk1 _ _ _ (_ :: _) _ _; first | (show Walk1 _ _ _ (⟨_, .move _, _, _, _, _⟩ :: _) _ _; refine walk1_t (op_move rfl rfl rfl rfl) ?_) | (show Walk1 _ _ _ (⟨_, .assign _, _, _, _, _⟩ :: _) _ _; refine walk1_t (op_assign rfl rfl rfl rfl) ?_) | (show Walk1 _ _ _ (⟨_, .binOp .add _ _ _ _, _, _, _, _⟩ :: _) _ _; refine walk1_t (op_addN rfl rfl rfl (by first | exact evN_const rfl | exact rfl) (by first | exact evN_const rfl | exact rfl) (by omega)) ?_) | (show Walk1 _ _ _ (⟨_, .binOp .lss _ _ _ _, _, _, _, _⟩ :: _) _ _; refine walk1_t (op_ltN rfl rfl rfl (by first | exact evN_const rfl | exact rfl) (by first | exact evN_const rfl | exact rfl)) ?_) | (show Walk1 _ _ _ (⟨_, .indexAddr _ _ _, _, _, _, _⟩ :: _) _ _; refine walk1_t (op_idxF rfl rfl rfl rfl (by first | exact evK_const rfl | exact evK_tmp rfl) rfl rfl (by first | assumption | exact FS.rd (by first | assumption | exact FSX.fs (by assumption) | (refine FS.cutB (by assumption) ?_; omega) | (refine FS.cut (by assumption) ?_; omega))) (by first | omega | decide) rfl) ?_) | (show Walk1 _ _ _ (⟨_, .load _ _, _, _, _, _⟩ :: _) _ _; refine walk1_t (op_loadsF rfl rfl rfl rfl rfl (by first | assumption | exact FS.rd (by first | assumption | exact FSX.fs (by assumption) | (refine FS.cutB (by assumption) ?_; omega) | (refine FS.cut (by assumption) ?_; omega))) rfl rfl rfl (by decide) (by first | omega | decide) (by first | (with_reducible assumption) | rfl)) ?_) | (show Walk1 _ _ _ (⟨_, .call ⟨.value (.tmp _), _, _⟩, _, _, _, _⟩ :: _) _ _; (refine walk1_callMV rfl rfl rfl rfl rfl (by repeat (first | exact evs_nil | apply evs_cons rfl)) rfl ?_; refine ⟨[], _, (fun _ e _ w _ _ => c1 w), ?_⟩))) | refine go1 ?_ | refine end_block_other rfl ?_ | refine end_scope (fun _ h => by cases h) ?_ | (refine walk_endD ?_ ?_; (· kernel_rfl)) | refine tri_yesA rfl ?_ | refine tri_noA rfl ?_ | refine tri_trueA rfl ?_ | refine tri_falseA rfl ?_)
      exact nx _ ⟨by omega, hp1⟩ (by omega) (ent_keep (by repeat (first | exact hasT_nil | refine hasT_cons rfl ?_ | refine hasT_eq rfl (svi (by omega)) ?_)) (by repeat (first | exact hasR_nil | refine hasR_cons rfl ?_)))
    | true =>
      rw [hb] at c1
      rw [firstOut_at h hb fun i hi => hp i hi (by omega)]
      clear hp hb nx
      repeat (first | (show Walk1 _ _ _ (_ :: _) _ _; first | (show Walk1 _ _ _ (⟨_, .move _, _, _, _, _⟩ :: _) _ _; refine walk1_t (op_move rfl rfl rfl rfl) ?_) | (show Walk1 _ _ _ (⟨_, .assign _, _, _, _, _⟩ :: _) _ _; refine walk1_t (op_assign rfl rfl rfl rfl) ?_) | (show Walk1 _ _ _ (⟨_, .binOp .lss _ _ _ _, _, _, _, _⟩ :: _) _ _; refine walk1_t (op_ltN rfl rfl rfl (by first | exact evN_const rfl | exact rfl) (by first | exact evN_const rfl | exact rfl)) ?_) | (show Walk1 _ _ _ (⟨_, .indexAddr _ _ _, _, _, _, _⟩ :: _) _ _; refine walk1_t (op_idxF rfl rfl rfl rfl (by first | exact evK_const rfl | exact evK_tmp rfl) rfl rfl (by first | assumption | exact FS.rd (by first | assumption | exact FSX.fs (by assumption) | (refine FS.cutB (by assumption) ?_; omega) | (refine FS.cut (by assumption) ?_; omega))) (by first | omega | decide) rfl) ?_) | (show Walk1 _ _ _ (⟨_, .load _ _, _, _, _, _⟩ :: _) _ _; refine walk1_t (op_loadsF rfl rfl rfl rfl rfl (by first | assumption | exact FS.rd (by first | assumption | exact FSX.fs (by assumption) | (refine FS.cutB (by assumption) ?_; omega) | (refine FS.cut (by assumption) ?_; omega))) rfl rfl rfl (by decide) (by first | omega | decide) (by first | (with_reducible assumption) | rfl)) ?_) | (show Walk1 _ _ _ (⟨_, .call ⟨.value (.tmp _), _, _⟩, _, _, _, _⟩ :: _) _ _; (refine walk1_callMV rfl rfl rfl rfl rfl (by repeat (first | exact evs_nil | apply evs_cons rfl)) rfl ?_; refine ⟨[], _, (fun _ e _ w _ _ => c1 w), ?_⟩))) | refine go1 ?_ | refine end_block_other rfl ?_ | refine end_scope (fun _ h => by cases h) ?_ | (refine walk_endD ?_ ?_; (· kernel_rfl)) | refine tri_yesA rfl ?_ | refine tri_noA rfl ?_ | refine tri_trueA rfl ?_ | refine tri_falseA rfl ?_)
      refine end_ret (.c (.int .i64 (j : Int))) (res_tmp rfl rfl) ?_
      exact fin_below fun _ => rfl
  · obtain rfl : j = l.length := by omega
    rw [firstOut_none fun i hi => hp i hi hi]
    clear next hrow hp
    repeat (first | (show Walk1 _ _ _ (_ :: _) _ _; first | (show Walk1 _ _ _ (⟨_, .assign _, _, _, _, _⟩ :: _) _ _; refine walk1_t (op_assign rfl rfl rfl rfl) ?_) | (show Walk1 _ _ _ (⟨_, .binOp .lss _ _ _ _, _, _, _, _⟩ :: _) _ _; refine walk1_t (op_ltN rfl rfl rfl (by first | exact evN_const rfl | exact rfl) (by first | exact evN_const rfl | exact rfl)) ?_)) | refine go1 ?_ | refine end_block_other rfl ?_ | refine end_scope (fun _ h => by cases h) ?_ | (refine walk_endD ?_ ?_; (· kernel_rfl)) | refine tri_yesA rfl ?_ | refine tri_noA rfl ?_ | refine tri_trueA rfl ?_ | refine tri_falseA rfl ?_)
    refine end_ret (.c (.int .i64 (-1))) (res_tmp rfl rfl) ?_
    exact fin_below fun _ => rfl
theorem containsFunc_any (v : Value) (l : List P3) (w : World) (hv : RdV w 3 v l.length (ptsC l)) (hl : l.length ≤ 100000) :
    Calls Try.prog 56 #[v, .func (.func 55) #[] #[]] w fun e w' => e = .returned (.bool (l.any outF)) ∧ Below w.heap.size w w' := by
  have ci := fun w h => indexFunc_any v l w h hl
  rw [← firstOut_any]
  generalize firstOut l = F at *
  refine calls_tri Try.func56 rfl Try.ntmps56 rfl ?_
  repeat (first | (show Walk1 _ _ _ (_ :: _) _ _; first | (show Walk1 _ _ _ (⟨_, .move _, _, _, _, _⟩ :: _) _ _; refine walk1_t (op_move rfl rfl rfl rfl) ?_) | (show Walk1 _ _ _ (⟨_, .assign _, _, _, _, _⟩ :: _) _ _; refine walk1_t (op_assign rfl rfl rfl rfl) ?_) | (show Walk1 _ _ _ (⟨_, .binOp .geq _ _ _ _, _, _, _, _⟩ :: _) _ _; refine walk1_t (op_geI rfl rfl rfl rfl rfl) ?_) | (show Walk1 _ _ _ (⟨_, .call ⟨.value (.func 84), _, _⟩, _, _, _, _⟩ :: _) _ _; (refine walk1_callM rfl rfl rfl rfl (by repeat (first | exact evs_nil | apply evs_cons rfl)) rfl ?_; refine ⟨_, _, callM_1 (rdn_old hv (by omega) rfl) (fun e w h1 => ci w h1), ?_⟩))) | refine go1 ?_ | refine end_block_other rfl ?_ | refine end_scope (fun _ h => by cases h) ?_ | (refine walk_endD ?_ ?_; (· kernel_rfl)) | refine tri_yesA rfl ?_ | refine tri_noA rfl ?_ | refine tri_trueA rfl ?_ | refine tri_falseA rfl ?_)
  refine end_ret (.c (.bool (decide (0 ≤ F)))) (res_tmp rfl rfl) ?_
  exact fin_below fun _ => rfl
/-! ### the document's -/
/-! ### where a ray meets a triangle -/
structure M4 where
  num : Int
  det : Int
  u : Int
  v : Int
def M4.c (m : M4) : Array Value := #[.int .i64 m.num, .int .i64 m.det, .int .i64 m.u, .int .i64 m.v]
def zM : M4 := ⟨0, 0, 0, 0⟩
def rawM (o d p0 p1 p2 : P3) : M4 :=
  ⟨dotP (subP p2 p0) (crossP (subP o p0) (subP p1 p0)), dotP (subP p1 p0) (crossP d (subP p2 p0)), dotP (subP o p0) (crossP d (subP p2 p0)), dotP d (crossP (subP o p0) (subP p1 p0))⟩
def turnM (m : M4) : M4 := if m.det < 0 then ⟨nW m.num, nW m.det, nW m.u, nW m.v⟩ else m
def badM (m : M4) : Prop := m.det = 0 ∨ m.u < 0 ∨ m.v < 0 ∨ m.det < aW m.u m.v ∨ m.num ≤ 0
instance (m : M4) : Decidable (badM m) := by unfold badM; exact inferInstance
def endM (m : M4) : M4 × Bool := if badM m then (zM, false) else (m, true)
def hitM (o d p0 p1 p2 : P3) : M4 × Bool := if (mayP o d && !([p0, p1, p2].any outF)) = true then endM (turnM (rawM o d p0 p1 p2)) else (zM, false)
end Go.Proofs.Ytmpnkknocfaciaa
