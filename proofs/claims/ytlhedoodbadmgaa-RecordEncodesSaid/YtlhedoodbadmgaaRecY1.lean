/- Views held against each other. No condition. -/
import Derived.Test.YtlhedoodbadmgaaRecP
import Derived.Laws.StructEq
namespace Go.Proofs.Ytlhedoodbadmgaa
open Go.RowKit
set_option maxRecDepth 100000
theorem eqFields_gen {P : Program} (d : Nat) (a b : Array Value) (w : World) : ∀ (fs : List Field) (rs : List Bool), rs.length = fs.length → (∀ (i : Nat) f r, fs[i]? = some f → rs[i]? = some r → f.name ≠ "_" ∧ ∃ x y, (part f.type a f.offset).run P w = .ok x w ∧ (part f.type b f.offset).run P w = .ok y w ∧ (Op.equalIn d f.type x y).run P w = .ok r w) → (Op.eqFields d a b fs).run P w = .ok (rs.all id) w
  | [], [], _, _ => by simp [Op.eqFields]
  | f :: fs, r :: rs, hl, h => by
    obtain ⟨h1, x, y, h2, h3, h4⟩ := h 0 f r rfl rfl
    have ih := eqFields_gen d a b w fs rs (by simpa using hl) fun i g q hg hq => h (i + 1) g q (by simpa using hg) (by simpa using hq)
    rw [Op.eqFields, if_pos h1]
    simp only [Sem.run_bind, h2, h3, Result.andThen_ok, h4]
    cases r
    · simp
    · simp only [Bool.not_true, Bool.false_eq_true, if_false, ih]
      simp
  | [], _ :: _, hl, _ => by simp at hl
  | _ :: _, [], hl, _ => by simp at hl
theorem part_one {P : Program} {w : World} {t : TypeId} {k : IntKind} {xs : Array Value} {off : Nat} {v : Value} (ht : P.underlying t = some (.int k)) (hx : xs[off]? = some v) : (part t xs off).run P w = .ok v w := by
  simp [part, isAgg, run_underlying ht, hx]
theorem part_bool {P : Program} {w : World} {t : TypeId} {xs : Array Value} {off : Nat} {v : Value} (ht : P.underlying t = some .bool) (hx : xs[off]? = some v) : (part t xs off).run P w = .ok v w := by
  simp [part, isAgg, run_underlying ht, hx]
theorem part_str {P : Program} {w : World} {t : TypeId} {m : Nat} {xs B : Array Value} {off : Nat} {fs : Array Field} (ht : P.underlying t = some (.struct fs)) (hs : (sizeOf t).run P w = .ok m w) (hB : xs.extract off (off + m) = B) : (part t xs off).run P w = .ok (.agg B) w := by
  simp [part, isAgg, run_underlying ht, hs, hB]
theorem eqPt_deep (d : Nat) (a b : P3) (w : World) : (Op.equalIn (d + 2) 29 (.agg a.c) (.agg b.c)).run Try.prog w = .ok (a.l == b.l) w := by
  have hu := Try.underlying29
  have hfo : Try.prog.underlying 29 = some (.struct (Try.prog.fieldsOf 29)) := by simp [Program.fieldsOf, hu]
  rw [run_equalIn_struct w (d + 1) 29 _ _ hfo (by kernel_rfl), a.cells, b.cells]
  have := eqFields_ints (P := Try.prog) (w := w) d a.l b.l (Try.prog.fieldsOf 29).toList 0 (fun i f hf => by
    simp only [Program.fieldsOf, hu] at hf
    match i, hf with
    | 0, hf => simp at hf; subst hf; exact ⟨by decide, rfl, Try.underlying3⟩
    | 1, hf => simp at hf; subst hf; exact ⟨by decide, rfl, Try.underlying3⟩
    | 2, hf => simp at hf; subst hf; exact ⟨by decide, rfl, Try.underlying3⟩
    | j + 3, hf => simp at hf) (by simp only [Program.fieldsOf, hu]; rfl) (by simp only [Program.fieldsOf, hu]; rfl)
  simpa using this
def camEq (a b : CamS) : Bool := [a.eye.l == b.eye.l, a.right.l == b.right.l, a.up.l == b.up.l, a.ahead.l == b.ahead.l, a.lens == b.lens, a.focus == b.focus].all id
def viewEq (a b : ViewS) : Bool := [a.w == b.w, a.h == b.h, a.samples == b.samples, a.depth == b.depth, a.cls == b.cls, bvi a.seed == bvi b.seed, camEq a.cam b.cam, a.constant == b.constant].all id
theorem camEq_deep (d : Nat) (a b : CamS) (w : World) : (Op.equalIn (d + 3) 31 (.agg a.c) (.agg b.c)).run Try.prog w = .ok (camEq a b) w := by
  have hu := Try.underlying31
  have hfo : Try.prog.underlying 31 = some (.struct (Try.prog.fieldsOf 31)) := by simp [Program.fieldsOf, hu]
  rw [run_equalIn_struct w (d + 2) 31 _ _ hfo (by kernel_rfl)]
  refine eqFields_gen (d + 2) _ _ w _ _ (by simp only [Program.fieldsOf, hu]; rfl) fun i f r hf hr => ?_
  simp only [Program.fieldsOf, hu] at hf
  match i, hf, hr with
  | 0, hf, hr => simp at hf hr; subst hf; exact ⟨by decide, _, _, part_str (m := 3) (B := a.eye.c) Try.underlying29 (by kernel_rfl) (by kernel_rfl), part_str (m := 3) (B := b.eye.c) Try.underlying29 (by kernel_rfl) (by kernel_rfl), by rw [eqPt_deep, hr]⟩
  | 1, hf, hr => simp at hf hr; subst hf; exact ⟨by decide, _, _, part_str (m := 3) (B := a.right.c) Try.underlying29 (by kernel_rfl) (by kernel_rfl), part_str (m := 3) (B := b.right.c) Try.underlying29 (by kernel_rfl) (by kernel_rfl), by rw [eqPt_deep, hr]⟩
  | 2, hf, hr => simp at hf hr; subst hf; exact ⟨by decide, _, _, part_str (m := 3) (B := a.up.c) Try.underlying29 (by kernel_rfl) (by kernel_rfl), part_str (m := 3) (B := b.up.c) Try.underlying29 (by kernel_rfl) (by kernel_rfl), by rw [eqPt_deep, hr]⟩
  | 3, hf, hr => simp at hf hr; subst hf; exact ⟨by decide, _, _, part_str (m := 3) (B := a.ahead.c) Try.underlying29 (by kernel_rfl) (by kernel_rfl), part_str (m := 3) (B := b.ahead.c) Try.underlying29 (by kernel_rfl) (by kernel_rfl), by rw [eqPt_deep, hr]⟩
  | 4, hf, hr => simp at hf hr; subst hf; exact ⟨by decide, _, _, part_one Try.underlying3 (show a.c[12]? = some (.int .i64 a.lens) from rfl), part_one Try.underlying3 (show b.c[12]? = some (.int .i64 b.lens) from rfl), by rw [run_equalIn_int w (d + 1) _ _ _ _ _ Try.underlying3, hr]⟩
  | 5, hf, hr => simp at hf hr; subst hf; exact ⟨by decide, _, _, part_one Try.underlying3 (show a.c[13]? = some (.int .i64 a.focus) from rfl), part_one Try.underlying3 (show b.c[13]? = some (.int .i64 b.focus) from rfl), by rw [run_equalIn_int w (d + 1) _ _ _ _ _ Try.underlying3, hr]⟩
  | j + 6, hf, hr => simp at hf
theorem eqView_run (a b : ViewS) (w : World) : (Op.equalIn 10000 33 (.agg a.c) (.agg b.c)).run Try.prog w = .ok (viewEq a b) w := by
  have hu := Try.underlying33
  have hfo : Try.prog.underlying 33 = some (.struct (Try.prog.fieldsOf 33)) := by simp [Program.fieldsOf, hu]
  rw [run_equalIn_struct w 9999 33 _ _ hfo (by kernel_rfl)]
  refine eqFields_gen 9999 _ _ w _ _ (by simp only [Program.fieldsOf, hu]; rfl) fun i f r hf hr => ?_
  simp only [Program.fieldsOf, hu] at hf
  match i, hf, hr with
  | 0, hf, hr => simp at hf hr; subst hf; exact ⟨by decide, _, _, part_one Try.underlying3 (show a.c[0]? = some (.int .i64 a.w) from rfl), part_one Try.underlying3 (show b.c[0]? = some (.int .i64 b.w) from rfl), by rw [run_equalIn_int w 9998 _ _ _ _ _ Try.underlying3, hr]⟩
  | 1, hf, hr => simp at hf hr; subst hf; exact ⟨by decide, _, _, part_one Try.underlying3 (show a.c[1]? = some (.int .i64 a.h) from rfl), part_one Try.underlying3 (show b.c[1]? = some (.int .i64 b.h) from rfl), by rw [run_equalIn_int w 9998 _ _ _ _ _ Try.underlying3, hr]⟩
  | 2, hf, hr => simp at hf hr; subst hf; exact ⟨by decide, _, _, part_one Try.underlying3 (show a.c[2]? = some (.int .i64 a.samples) from rfl), part_one Try.underlying3 (show b.c[2]? = some (.int .i64 b.samples) from rfl), by rw [run_equalIn_int w 9998 _ _ _ _ _ Try.underlying3, hr]⟩
  | 3, hf, hr => simp at hf hr; subst hf; exact ⟨by decide, _, _, part_one Try.underlying3 (show a.c[3]? = some (.int .i64 a.depth) from rfl), part_one Try.underlying3 (show b.c[3]? = some (.int .i64 b.depth) from rfl), by rw [run_equalIn_int w 9998 _ _ _ _ _ Try.underlying3, hr]⟩
  | 4, hf, hr => simp at hf hr; subst hf; exact ⟨by decide, _, _, part_one Try.underlying3 (show a.c[4]? = some (.int .i64 a.cls) from rfl), part_one Try.underlying3 (show b.c[4]? = some (.int .i64 b.cls) from rfl), by rw [run_equalIn_int w 9998 _ _ _ _ _ Try.underlying3, hr]⟩
  | 5, hf, hr => simp at hf hr; subst hf; exact ⟨by decide, _, _, part_one Try.underlying27 (show a.c[5]? = some (.int .u64 (bvi a.seed)) from rfl), part_one Try.underlying27 (show b.c[5]? = some (.int .u64 (bvi b.seed)) from rfl), by rw [run_equalIn_int w 9998 _ _ _ _ _ Try.underlying27, hr]⟩
  | 6, hf, hr => simp at hf hr; subst hf; exact ⟨by decide, _, _, part_str (m := 14) (B := a.cam.c) Try.underlying31 (by kernel_rfl) (by kernel_rfl), part_str (m := 14) (B := b.cam.c) Try.underlying31 (by kernel_rfl) (by kernel_rfl), by rw [camEq_deep 9996, hr]⟩
  | 7, hf, hr => simp at hf hr; subst hf; exact ⟨by decide, _, _, part_bool Try.underlying4 (show a.c[20]? = some (.bool a.constant) from rfl), part_bool Try.underlying4 (show b.c[20]? = some (.bool b.constant) from rfl), by rw [run_equalIn_bool' w 9998 _ _ _ Try.underlying4, hr]⟩
  | j + 8, hf, hr => simp at hf
theorem viewEq_refl (a : ViewS) : viewEq a a = true := by simp [viewEq, camEq]
theorem eqSum_run (x y : List (BitVec 8)) (hx : x.length = 32) (hy : y.length = 32) (w : World) : (Op.equalIn 10000 44 (.agg (vals .u8 x)) (.agg (vals .u8 y))).run Try.prog w = .ok (x == y) w :=
  run_equalIn_arr w 9998 44 5 32 8 .u8 .u8 Try.underlying44 Try.underlying5 (by kernel_rfl) x y hx hy
end Go.Proofs.Ytlhedoodbadmgaa
