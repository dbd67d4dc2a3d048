/- Steps of single operations, and how code is walked from state to state. No condition. -/
import Derived.Test.YtcgmapioelfneaaSym
import Derived.Test.YtcgmapioelfneaaTypes
import Derived.Deep.LoopGhost
namespace Go.Proofs.Ytcgmapioelfneaa
open Go.RowKit

def dw (o : Option Tmp) (v : SV) : List (Nat × SV) := match o with | some d => [(d, v)] | none => []
def dstB (o : Option Tmp) (n : Nat) : Bool := match o with | some d => Nat.blt d n | none => true
section
variable {C : Ctx} {P : Program} {ops : Array Oper} {S : St} {o : Oper} {os : OS}

/-! ### what a step does to a state -/
theorem tmp_dw {d : Option Tmp} {v : SV} {h : List (Nat × Option Res)} {i : Nat} {u : SV} (hu : (St.mk (dw d v ++ S.t) h).tmp i = some u) : (d = some i ∧ u = v) ∨ (d ≠ some i ∧ S.tmp i = some u) := by
  cases d with
  | none => exact .inr ⟨by simp, hu⟩
  | some d =>
    have : look ((d, v) :: S.t) i = some u := hu
    rw [look_cons] at this
    split at this
    · rename_i e; cases this; exact .inl ⟨by rw [e], rfl⟩
    · rename_i e; exact .inr ⟨fun h => e (by cases h; rfl), this⟩
theorem put_size {a : Act} {d : Option Tmp} {v : Value} : (a.put d v).tmps.size = a.tmps.size := by cases d <;> simp [Act.put]
theorem put_defers' {a : Act} {d : Option Tmp} {v : Value} : (a.put d v).defers = a.defers := by cases d <;> rfl
theorem put_get_self {a : Act} {i : Nat} {v : Value} (h : i < a.tmps.size) : (a.put (some i) v).tmps[i]? = some v := by
  simp [Act.put, Array.getElem?_setIfInBounds_self, h]
theorem put_get_ne {a : Act} {d : Option Tmp} {i : Nat} {v : Value} (h : d ≠ some i) : (a.put d v).tmps[i]? = a.tmps[i]? := by
  cases d with
  | none => rfl
  | some d => simp [Act.put, Array.getElem?_setIfInBounds_ne (show d ≠ i from fun e => h (by rw [e]))]
/-- A temporary written; the world may have been changed to one that holds the same. -/
theorem Holds.put {e : Env} {a : Act} {w : World} (hS : Holds C S e a w) {d : Option Tmp} (hd : dstB d C.nt = true) (v : SV) : Holds C ⟨dw d v ++ S.t, S.h⟩ e (a.put d (v.den e)) w where
  defers := put_defers'.trans hS.defers
  size := put_size.trans hS.size
  tmp i u hu := by
    rcases tmp_dw hu with ⟨rfl, rfl⟩ | ⟨hne, h⟩
    · exact put_get_self (by rw [hS.size]; simpa [dstB, Nat.blt_eq] using hd)
    · rw [put_get_ne hne]; exact hS.tmp i u h
  res := hS.res
  mine := hS.mine
  sep := hS.sep
  frame := hS.frame
theorem Holds.world {e : Env} {a : Act} {w w' : World} (hS : Holds C S e a w) (hb : Below w.heap.size w w') : Holds C S e a w' where
  defers := hS.defers
  size := hS.size
  tmp := hS.tmp
  res n r hr := r.loc e w w' (fun b hb' => hb.block b (r.lt e w b (hS.res n r hr) hb')) (hS.res n r hr)
  mine := hS.mine
  sep := hS.sep
  frame := ⟨hb.os.trans hS.frame.os, hb.tape.trans hS.frame.tape, hb.output.trans hS.frame.output, Nat.le_trans hS.frame.size hb.size, fun k hk hm => (hb.block k (Nat.lt_of_lt_of_le hk hS.frame.size)).trans (hS.frame.block k hk hm)⟩
/-- A new name, of which nothing hangs. -/
def Env.set (e : Env) (n : Nat) (x : Ent) : Env := fun m => if m = n then x else e m
theorem Env.set_self (e : Env) (n : Nat) (x : Ent) : (e.set n x) n = x := by simp [Env.set]
theorem Env.set_ne (e : Env) {n m : Nat} (x : Ent) (h : m ≠ n) : (e.set n x) m = e m := by simp [Env.set, h]
theorem Holds.rename {e : Env} {a : Act} {w : World} (hS : Holds C S e a w) {n : Nat} (hf : S.fresh n) (x : Ent) : Holds C S (e.set n x) a w := by
  have hv : ∀ i v, S.tmp i = some v → v.den (e.set n x) = v.den e := fun i v h => v.ind e _ fun m hm => Env.set_ne e x (fun he => hf.1 i v h (he ▸ hm))
  have hr : ∀ m r, S.res m = some r → r.foot (e.set n x) = r.foot e ∧ r.ok (e.set n x) = r.ok e := fun m r h => r.ind e _ fun k hk => Env.set_ne e x (fun he => hf.2 m r h (he ▸ hk))
  exact ⟨hS.defers, hS.size, fun i v h => by rw [hv i v h]; exact hS.tmp i v h, fun m r h => by rw [(hr m r h).2]; exact hS.res m r h, fun m r h hw b hb => hS.mine m r h hw b (by rw [← (hr m r h).1]; exact hb),
    fun m k r r' h h' hne hw b hb => by rw [(hr k r' h').1]; exact hS.sep m k r r' h h' hne hw b (by rw [← (hr m r h).1]; exact hb), hS.frame⟩
theorem St.res_cons {t : List (Nat × SV)} {n : Nat} {x : Option Res} {h : List (Nat × Option Res)} (m : Nat) : (St.mk t ((n, x) :: h)).res m = if n = m then x else (St.mk t h).res m := by
  unfold St.res
  rw [look_cons]
  split <;> rfl
/-- A new block. -/
theorem Holds.newBlk {e : Env} {a : Act} {w : World} (hS : Holds C S e a w) {n : Nat} (hf : S.fresh n) (T : TypeId) (A : SA) (hA : n ∉ A.sup) :
    Holds C ⟨S.t, (n, some (.blk n T A)) :: S.h⟩ (e.set n ⟨w.heap.size, 0, undef⟩) a (w.alloc (.cells (A.den e) T)) := by
  have h1 := (hS.world (w' := w.alloc (.cells (A.den e) T)) ((Below.refl _ _).alloc (Nat.le_refl _) _)).rename hf ⟨w.heap.size, 0, undef⟩
  have hAd : A.den (e.set n ⟨w.heap.size, 0, undef⟩) = A.den e := A.ind e _ fun m hm => Env.set_ne e _ (fun he => hA (he ▸ hm))
  have hfoot : ∀ m r, S.res m = some r → ¬ r.foot (e.set n ⟨w.heap.size, 0, undef⟩) w.heap.size := by
    intro m r hr hfo
    have h2 := r.ind e (e.set n ⟨w.heap.size, 0, undef⟩) fun k hk => Env.set_ne e _ (fun he => hf.2 m r hr (he ▸ hk))
    rw [h2.1] at hfo
    exact Nat.lt_irrefl _ (r.lt e w _ (hS.res m r hr) hfo)
  refine ⟨h1.defers, h1.size, h1.tmp, fun m r hr => ?_, fun m r hr hw b hb => ?_, fun m k r r' hr hr' hne hw b hb => ?_, h1.frame⟩
  · rw [St.res_cons] at hr
    split at hr
    · cases hr
      exact ⟨(0, 0), by rw [Env.set_self, hAd]; exact heap_alloc_new w _, fun _ => rfl⟩
    · exact h1.res m r hr
  · rw [St.res_cons] at hr
    split at hr
    · cases hr
      have : b = w.heap.size := by rw [show b = ((e.set n ⟨w.heap.size, 0, undef⟩) n).b from hb, Env.set_self]
      exact .inl (by rw [this]; exact hS.frame.size)
    · exact h1.mine m r hr hw b hb
  · rw [St.res_cons] at hr hr'
    split at hr
    · cases hr
      have hbb : b = w.heap.size := by rw [show b = ((e.set n ⟨w.heap.size, 0, undef⟩) n).b from hb, Env.set_self]
      split at hr'
      · rename_i h2 h3; exact absurd (h2.symm.trans h3) hne
      · rw [hbb]; exact hfoot k r' hr'
    · split at hr'
      · cases hr'
        intro hb2
        have hbb : b = w.heap.size := by rw [show b = ((e.set n ⟨w.heap.size, 0, undef⟩) n).b from hb2, Env.set_self]
        rw [hbb] at hb
        exact hfoot m r hr hb
      · exact h1.sep m k r r' hr hr' hne hw b hb
/-- A block that may be written has been. -/
theorem Holds.write {e : Env} {a : Act} {w w' : World} (hS : Holds C S e a w) {n : Nat} {T : TypeId} {A A' : SA} (hr : S.res n = some (.blk n T A)) (hos : w'.os = w.os) (htape : w'.tape = w.tape) (hout : w'.output = w.output) (hsz : w'.heap.size = w.heap.size)
    (hn : w'.heap[(e n).b]? = some (.cells (A'.den e) T (0, 0))) (hoth : ∀ k, k ≠ (e n).b → w'.heap[k]? = w.heap[k]?) : Holds C ⟨S.t, (n, some (.blk n T A')) :: S.h⟩ e a w' := by
  have hm : ∀ b, b = (e n).b → C.mine b := fun b hb => hS.mine n _ hr rfl b hb
  refine ⟨hS.defers, hS.size, hS.tmp, fun m r h => ?_, fun m r h hw b hb => ?_, fun m k r r' h h' hne hw b hb => ?_, ⟨hos.trans hS.frame.os, htape.trans hS.frame.tape, hout.trans hS.frame.output, by rw [hsz]; exact hS.frame.size, fun k hk hkm => ?_⟩⟩
  · rw [St.res_cons] at h
    split at h
    · cases h; exact ⟨(0, 0), hn, fun _ => rfl⟩
    · rename_i hne
      refine r.loc e w w' (fun b hb => hoth b fun he => ?_) (hS.res m r h)
      exact hS.sep n m _ r hr h hne rfl (e n).b rfl (he ▸ hb)
  · rw [St.res_cons] at h
    split at h
    · cases h; exact hm b hb
    · exact hS.mine m r h hw b hb
  · rw [St.res_cons] at h h'
    split at h
    · rename_i h1; cases h; subst h1
      split at h'
      · rename_i h2; exact absurd h2 hne
      · exact hS.sep n k _ r' hr h' hne rfl b hb
    · split at h'
      · rename_i h2; cases h'; subst h2
        exact hS.sep m n r _ h hr hne hw b hb
      · exact hS.sep m k r r' h h' hne hw b hb
  · rw [hoth k ?_]
    · exact hS.frame.block k hk hkm
    · intro he
      rcases hm k he with h | h
      · exact absurd hk (by omega)
      · exact hkm h
theorem res_blk {e : Env} {a : Act} {w : World} (hS : Holds C S e a w) {n : Nat} {T : TypeId} {A : SA} {wr : Bool} (hr : S.res n = some (.blk n T A wr)) : ∃ fr, w.heap[(e n).b]? = some (.cells (A.den e) T fr) ∧ (wr = true → fr = (0, 0)) := hS.res n _ hr

/-! ### operations -/
theorem opG_mk (hg : o.guard = none) (h : ∀ S' : St, (∀ i ∈ os.rt, S'.tmp i = S.tmp i) → (∀ n ∈ os.rb, S'.res n = S.res n) → (∀ n ∈ os.nw, S'.fresh n) → ∀ e a w, Holds C S' e a w →
    o.wp P a w (fun a' w' => ∃ e', Holds C (S'.upd os) e' a' w') (fun _ _ _ => False)) : OpG C P ops o S os := by
  intro S' h1 h2 h3 e a w hS
  rw [if_pos (by simp [Region.wanted, hg])]
  exact h S' h1 h2 h3 e a w hS
theorem ev_like {S' : St} {x : Operand} {l : List Nat} (h : ∀ i ∈ l, S'.tmp i = S.tmp i) (hx : ∀ i ∈ opT x, i ∈ l) : S'.ev x = S.ev x := by
  cases x with
  | tmp t => exact h t (hx t (by simp [opT]))
  | _ => rfl
theorem wp_value {a : Act} {w w' : World} {v : Value} {K : Act → World → Prop} {B : Exit → Act → World → Prop} (h : (execOp a.eval o).run P w = .ok (.value v) w') (hk : K (a.put o.dst v) w') : o.wp P a w K B := by
  unfold Oper.wp; rw [h]; exact hk
theorem wp_skip' {a : Act} {w w' : World} {K : Act → World → Prop} {B : Exit → Act → World → Prop} (h : (execOp a.eval o).run P w = .ok .skip w') (hk : K (a.put o.dst undef) w') : o.wp P a w K B := by
  unfold Oper.wp; rw [h]; exact hk
/-- An operation that reckons a value. -/
theorem op_value (hg : o.guard = none) (hd : dstB o.dst C.nt = true) (xs : List Operand) (rb : List Nat) (v : SV)
    (hrun : ∀ (S' : St) e a w, Holds C S' e a w → (∀ x ∈ xs, S'.ev x = S.ev x) → (∀ n ∈ rb, S'.res n = S.res n) → (execOp a.eval o).run P w = .ok (.value (v.den e)) w) :
    OpG C P ops o S ⟨xs.flatMap opT, rb, dw o.dst v, [], []⟩ := by
  refine opG_mk hg fun S' h1 h2 _ e a w hS => ?_
  exact wp_value (hrun S' e a w hS (fun x hx => ev_like h1 fun i hi => List.mem_flatMap.2 ⟨x, hx, hi⟩) h2) ⟨e, hS.put hd v⟩
theorem op_move {x : Operand} {v : SV} (ho : o.op = .move x) (hg : o.guard = none) (hd : dstB o.dst C.nt = true) (hx : S.ev x = some v) : OpG C P ops o S ⟨opT x, v.sup, dw o.dst v, [], []⟩ := by
  have := op_value (C := C) (P := P) (ops := ops) (S := S) hg hd [x] v.sup v fun S' e a w hS h1 h2 => by
    have : a.eval x = v.den e := hS.ev ((h1 x (by simp)).trans hx)
    simp only [execOp, ho, this, Sem.run_pure]
  simpa using this
theorem op_assign {x : Operand} {v : SV} (ho : o.op = .assign x) (hg : o.guard = none) (hd : dstB o.dst C.nt = true) (hx : S.ev x = some v) : OpG C P ops o S ⟨opT x, v.sup, dw o.dst v, [], []⟩ := by
  have := op_value (C := C) (P := P) (ops := ops) (S := S) hg hd [x] v.sup v fun S' e a w hS h1 h2 => by
    have : a.eval x = v.den e := hS.ev ((h1 x (by simp)).trans hx)
    simp only [execOp, ho, this, Sem.run_pure]
  simpa using this
/-- A reckoning on two operands. -/
theorem op_two {x y : Operand} {vx vy v : SV} (hg : o.guard = none) (hd : dstB o.dst C.nt = true) (hx : S.ev x = some vx) (hy : S.ev y = some vy)
    (hrun : ∀ (e : Env) (ρ : Operand → Value) w, ρ x = vx.den e → ρ y = vy.den e → (execOp ρ o).run P w = .ok (.value (v.den e)) w) : OpG C P ops o S ⟨opT x ++ opT y, v.sup, dw o.dst v, [], []⟩ := by
  have := op_value (C := C) (P := P) (ops := ops) (S := S) hg hd [x, y] v.sup v fun S' e a w hS h1 h2 =>
    hrun e a.eval w (hS.ev ((h1 x (by simp)).trans hx)) (hS.ev ((h1 y (by simp)).trans hy))
  simpa using this
theorem op_one {x : Operand} {vx v : SV} (hg : o.guard = none) (hd : dstB o.dst C.nt = true) (hx : S.ev x = some vx)
    (hrun : ∀ (e : Env) (ρ : Operand → Value) w, ρ x = vx.den e → (execOp ρ o).run P w = .ok (.value (v.den e)) w) : OpG C P ops o S ⟨opT x, v.sup, dw o.dst v, [], []⟩ := by
  have := op_value (C := C) (P := P) (ops := ops) (S := S) hg hd [x] v.sup v fun S' e a w hS h1 h2 =>
    hrun e a.eval w (hS.ev ((h1 x (by simp)).trans hx))
  simpa using this
/-- New blocks. -/
theorem op_alloc {ty : TypeId} {A : Array Value} {n : Nat} (ho : o.op = .alloc ty) (hdn : o.dst = some n) (hg : o.guard = none) (hd : dstB o.dst C.nt = true) (hz : tabLook zerT ty = some A) :
    OpG C Try.prog ops o S ⟨[], [], dw o.dst (.p n 0), [(n, some (.blk n ty (.c A)))], [n]⟩ := by
  have hz2 := tabAll_look zerT_ok hz
  obtain ⟨z, hz3, rfl⟩ : ∃ z, (Try.prog.info? ty).bind (·.zero) = some z ∧ z.cells = A := by
    cases hb : (Try.prog.info? ty).bind (·.zero) with
    | none => rw [hb] at hz2; cases hz2
    | some z => rw [hb] at hz2; exact ⟨z, rfl, by simpa using hz2⟩
  refine opG_mk hg fun S' h1 h2 h3 e a w hS => ?_
  have hN := hS.newBlk (h3 n (by simp)) ty (.c z.cells) (by simp [SA.c])
  refine wp_value (v := .pointer (some ⟨w.heap.size, 0, none⟩)) (w' := w.alloc (.cells z.cells ty)) ?_ ⟨e.set n ⟨w.heap.size, 0, undef⟩, ?_⟩
  · cases hq : Try.prog.info? ty with
    | none => simp [hq] at hz3
    | some i =>
      have hzz : i.zero = some z := by simpa [hq] using hz3
      simp [execOp, ho, Instr.alloc, zeroValue, typeInfo, hq, hzz, newVar, newRow, Sem.run_bind]
  · have := hN.put hd (.p n 0)
    simp only [SV.p, Env.set_self] at this
    exact this
theorem op_box {ty : TypeId} {x : Operand} {v : SV} {n : Nat} {A : SA} (ho : o.op = .box ty x) (hdn : o.dst = some n) (hg : o.guard = none) (hd : dstB o.dst C.nt = true) (hx : S.ev x = some v) (hA : ∀ e, (v.den e).cells = A.den e := by (fail_if_success (with_reducible apply trap_ce)); first | (with_reducible exact ce_row) | (with_reducible exact ce_c) | (with_reducible exact ce_l) | (apply ce_app; (with_reducible apply cea_app); repeat (first | (with_reducible apply cea_one1) | (with_reducible apply cea_app) | (with_reducible exact cea_one))) | exact (by (fail_if_success (with_reducible apply trap_ce)); first | (with_reducible exact ce_row) | exact ce_c | exact ce_l | exact ce_row | exact (ce_one fun _ => rfl))) (hn : (A.sup.any fun y => Nat.beq n y) = false := by kernel_rfl) :
    OpG C Try.prog ops o S ⟨opT x, A.sup, dw o.dst (.p n 0), [(n, some (.blk n ty A))], [n]⟩ := by
  refine opG_mk hg fun S' h1 h2 h3 e a w hS => ?_
  have hns : n ∉ A.sup := fun h => by have := List.any_eq_false.1 hn n h; simp at this
  have hN := hS.newBlk (h3 n (by simp)) ty A hns
  refine wp_value (v := .pointer (some ⟨w.heap.size, 0, none⟩)) (w' := w.alloc (.cells (A.den e) ty)) ?_ ⟨e.set n ⟨w.heap.size, 0, undef⟩, ?_⟩
  · have hev : a.eval x = v.den e := hS.ev ((ev_like h1 fun _ h => h).trans hx)
    simp [execOp, ho, Instr.box, newVar, newRow, Sem.run_bind, hev, hA e]
  · have := hN.put hd (.p n 0)
    simp only [SV.p, Env.set_self] at this
    exact this
/-- A cell of a block, read. -/
theorem op_load {ty : TypeId} {x : Operand} {n off : Nat} {T : TypeId} {A : SA} {wr : Bool} {v : SV} {d : TypeDesc} (ho : o.op = .load ty x) (hg : o.guard = none) (hd : dstB o.dst C.nt = true) (hx : S.ev x = some (.p n off)) (hr : S.res n = some (.blk n T A wr))
    (hu' : tabLook undT ty = some d) (hda : d.isRow = false) (hv : ∀ e, (A.den e)[off]? = some (v.den e) := by (fail_if_success (with_reducible apply trap_ld)); repeat (first | ((with_reducible apply ld_vals); exact (by first | omega | (simp; omega) | (simp <;> fail) | omega)) | ((with_reducible apply ld_l); rfl) | ((with_reducible apply ld_cL); rfl) | ((with_reducible apply ld_appR); (· exact (by (fail_if_success (with_reducible apply trap_sm)); first | ((with_reducible apply sm_vals); first | (with_reducible assumption) | (simp <;> fail) | rfl) | ((with_reducible apply sm_c); first | (with_reducible assumption) | rfl) | ((with_reducible apply sm_l); rfl))); (· rfl)) | (with_reducible apply ld_appL))) : OpG C Try.prog ops o S ⟨opT x, n :: v.sup, dw o.dst v, [], []⟩ := by
  have hu := tabAll_look undT_ok hu'
  have := op_value (C := C) (P := Try.prog) (ops := ops) (S := S) hg hd [x] (n :: v.sup) v fun S' e a w hS h1 h2 => by
    have hev : a.eval x = .pointer (some ⟨(e n).b, off, none⟩) := hS.ev ((h1 x (by simp)).trans hx)
    obtain ⟨fr, hb, _⟩ := res_blk hS ((h2 n (by simp)).trans hr)
    have hc : w.cell? ⟨(e n).b, off, none⟩ = some (v.den e) := (cell_of_row w _ off _ _ _ hb).trans (hv e)
    have hagg : (isAgg ty).run Try.prog w = .ok false w := by
      unfold isAgg
      rw [Sem.run_bind, run_underlying hu w]
      cases d <;> simp_all
    simp [execOp, ho, hev, Instr.loadAt, Instr.sureAddr, loadVar, Sem.run_bind, hagg, hc]
  simpa using this
/-- A whole block, read as an array or a struct. -/
theorem op_loads {ty : TypeId} {x : Operand} {n : Nat} {T : TypeId} {A : SA} {wr : Bool} {v : SV} {d : TypeDesc} {m : Nat} (ho : o.op = .load ty x) (hg : o.guard = none) (hd : dstB o.dst C.nt = true) (hx : S.ev x = some (.p n 0)) (hr : S.res n = some (.blk n T A wr))
    (hu' : tabLook undT ty = some d) (hda : d.isRow = true) (hi' : tabLook sizT ty = some m) (hm : ∀ e, (A.den e).size = m := by (fail_if_success (with_reducible apply trap_sm)); first | ((with_reducible apply sm_vals); exact (by first | omega | (simp; omega) | (simp <;> fail) | omega)) | ((with_reducible apply sm_c); first | (with_reducible assumption) | rfl) | ((with_reducible apply sm_l); rfl)) (hv : ∀ e, .agg (A.den e) = v.den e := by first | (with_reducible exact ag_c) | (with_reducible exact ag_l) | (with_reducible exact ag_row)) : OpG C Try.prog ops o S ⟨opT x, n :: v.sup, dw o.dst v, [], []⟩ := by
  have hu := tabAll_look undT_ok hu'
  have hi := tabAll_look sizT_ok hi'
  have := op_value (C := C) (P := Try.prog) (ops := ops) (S := S) hg hd [x] (n :: v.sup) v fun S' e a w hS h1 h2 => by
    have hev : a.eval x = .pointer (some ⟨(e n).b, 0, none⟩) := hS.ev ((h1 x (by simp)).trans hx)
    obtain ⟨fr, hb, _⟩ := res_blk hS ((h2 n (by simp)).trans hr)
    have hl := run_loadVar_row (P := Try.prog) w (e n).b T ty (A.den e) fr d hb hu (by cases d <;> simp_all) (by rw [hi, hm e])
    simp [execOp, ho, hev, Instr.loadAt, Instr.sureAddr, Sem.run_bind, hl, hv e]
  simpa using this
/-- A cell of a block, written. -/
theorem op_store {ty : TypeId} {x y : Operand} {n off : Nat} {T : TypeId} {A A' : SA} {v : SV} (ho : o.op = .store ty x y) (hg : o.guard = none) (hdst : o.dst = none) (hx : S.ev x = some (.p n off)) (hy : S.ev y = some v) (hr : S.res n = some (.blk n T A))
    (hi' : tabLook sizT ty = some 1) (hv : ∀ e, (v.den e).oneCell' = true := by exact fun _ => rfl) (hoff : ∀ e, off < (A.den e).size := by (fail_if_success (with_reducible apply trap_sz)); repeat (first | ((with_reducible apply sz_vals); exact (by first | omega | (simp; omega) | (simp <;> fail) | omega)) | ((with_reducible apply sz_l); (first | decide | (simp only [List.length_set, List.length_cons, List.length_nil]; omega))) | ((with_reducible apply sz_c); decide) | ((with_reducible apply sz_appL); first | ((with_reducible apply sz_l); (first | decide | (simp only [List.length_set, List.length_cons, List.length_nil]; omega))) | ((with_reducible apply sz_vals); exact (by first | omega | (simp; omega) | (simp <;> fail) | omega))) | ((with_reducible apply sz_appR); (· exact (by (fail_if_success (with_reducible apply trap_sm)); first | ((with_reducible apply sm_vals); first | (with_reducible assumption) | (simp <;> fail) | rfl) | ((with_reducible apply sm_c); first | (with_reducible assumption) | rfl) | ((with_reducible apply sm_l); rfl)))))) (hA : ∀ e, (A.den e).setIfInBounds off (v.den e) = A'.den e := by (fail_if_success (with_reducible apply trap_set)); repeat (first | (with_reducible exact st_vals) | ((with_reducible apply st_valsz); rfl) | (with_reducible exact st_l) | (with_reducible exact st_c) | ((with_reducible apply set_appR); (· exact (by (fail_if_success (with_reducible apply trap_sm)); first | ((with_reducible apply sm_vals); first | (with_reducible assumption) | (simp <;> fail) | rfl) | ((with_reducible apply sm_c); first | (with_reducible assumption) | rfl) | ((with_reducible apply sm_l); rfl))); (· rfl)) | ((with_reducible apply set_appL); (· exact (by (fail_if_success (with_reducible apply trap_sz)); first | ((with_reducible apply sz_vals); exact (by first | omega | (simp; omega) | (simp <;> fail) | omega)) | ((with_reducible apply sz_l); (first | decide | (simp only [List.length_set, List.length_cons, List.length_nil]; omega))) | ((with_reducible apply sz_c); decide)))))) :
    OpG C Try.prog ops o S ⟨opT x ++ opT y, n :: A'.sup, [], [(n, some (.blk n T A'))], []⟩ := by
  have hi := tabAll_look sizT_ok hi'
  refine opG_mk hg fun S' h1 h2 h3 e a w hS => ?_
  have hev : a.eval x = .pointer (some ⟨(e n).b, off, none⟩) := hS.ev ((ev_like h1 fun _ h => List.mem_append_left _ h).trans hx)
  have hevy : a.eval y = v.den e := hS.ev ((ev_like h1 fun _ h => List.mem_append_right _ h).trans hy)
  have hr' := (h2 n (by simp)).trans hr
  obtain ⟨fr, hb, hfr⟩ := res_blk hS hr'
  rw [hfr rfl] at hb
  have hc : w.cell? ⟨(e n).b, off, none⟩ = some ((A.den e)[off]'(hoff e)) := (cell_of_row w _ off _ _ _ hb).trans (by simp [hoff e])
  have hf : w.frozen? ⟨(e n).b, off, none⟩ = false := frozen_of_row w _ off _ _ hb
  have hcs : (v.den e).cells = #[v.den e] := by have := hv e; cases hh : v.den e <;> rw [hh] at this <;> first | rfl | (simp [Value.oneCell'] at this)
  refine wp_skip' (w' := w.setCell ⟨(e n).b, off, none⟩ (v.den e)) ?_ ⟨e, ?_⟩
  · cases hq : Try.prog.info? ty with
    | none => simp [hq] at hi
    | some i =>
      have hs : i.size = 1 := by simpa [hq] using hi
      simp [execOp, ho, hev, hevy, Instr.storeAt, Instr.sureAddr, storeVar, sizeOf, typeInfo, hq, hs, hcs, storeCells, run_store Try.prog _ _ _ _ (hv e), hc, hf, Addr.add]
  · rw [hdst]
    refine hS.write hr' rfl rfl rfl (by simp [World.setCell]) ?_ (fun k hk => Below.heap_setCell w _ _ k hk)
    rw [← hA e]
    exact heap_setCell_same w _ off _ _ _ hb
/-- A whole block, written. -/
theorem op_stores {ty : TypeId} {x y : Operand} {n : Nat} {T : TypeId} {A A' : SA} {v : SV} {m : Nat} (ho : o.op = .store ty x y) (hg : o.guard = none) (hdst : o.dst = none) (hx : S.ev x = some (.p n 0)) (hy : S.ev y = some v) (hr : S.res n = some (.blk n T A))
    (hi' : tabLook sizT ty = some m) (hm : ∀ e, (A.den e).size = m := by (fail_if_success (with_reducible apply trap_sm)); first | ((with_reducible apply sm_vals); exact (by first | omega | (simp; omega) | (simp <;> fail) | omega)) | ((with_reducible apply sm_c); first | (with_reducible assumption) | rfl) | ((with_reducible apply sm_l); rfl)) (hv : ∀ e, v.den e = .agg (A'.den e) := by first | (with_reducible exact ga_c) | (with_reducible exact ga_l) | (with_reducible exact ga_row)) (hm' : ∀ e, (A'.den e).size = m := by (fail_if_success (with_reducible apply trap_sm)); first | ((with_reducible apply sm_vals); exact (by first | omega | (simp; omega) | (simp <;> fail) | omega)) | ((with_reducible apply sm_c); first | (with_reducible assumption) | rfl) | ((with_reducible apply sm_l); rfl)) (h1c : ∀ e, (A'.den e).all (·.oneCell') = true := by (fail_if_success (with_reducible apply trap_oc)); repeat (first | (with_reducible exact oc_vals) | (with_reducible exact oc_lnil) | ((with_reducible apply oc_c); first | rfl | (simp [Value.oneCell'] <;> fail)) | ((with_reducible apply oc_l); (· exact fun _ => rfl)) | (with_reducible apply oc_app))) :
    OpG C Try.prog ops o S ⟨opT x ++ opT y, n :: A'.sup, [], [(n, some (.blk n T A'))], []⟩ := by
  have hi := tabAll_look sizT_ok hi'
  refine opG_mk hg fun S' h1 h2 h3 e a w hS => ?_
  have hev : a.eval x = .pointer (some ⟨(e n).b, 0, none⟩) := hS.ev ((ev_like h1 fun _ h => List.mem_append_left _ h).trans hx)
  have hevy : a.eval y = .agg (A'.den e) := (hS.ev ((ev_like h1 fun _ h => List.mem_append_right _ h).trans hy)).trans (hv e)
  have hr' := (h2 n (by simp)).trans hr
  obtain ⟨fr, hb, hfr⟩ := res_blk hS hr'
  rw [hfr rfl] at hb
  refine wp_store_row ty x y ho (e n).b (A'.den e) hev hevy T (A.den e) hb (by rw [hi, hm' e]) (by rw [hm e, hm' e]) (h1c e) ⟨e, ?_⟩
  rw [hdst]
  refine hS.write hr' rfl rfl rfl (by simp) ?_ (fun k hk => setRow_other w _ k _ hk)
  exact setRow_heap w _ _ _ _ _ hb
end
end Go.Proofs.Ytcgmapioelfneaa
