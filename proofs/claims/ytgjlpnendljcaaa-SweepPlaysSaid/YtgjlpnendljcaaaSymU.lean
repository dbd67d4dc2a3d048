/- Rows of numbers appended to slices of rows, and read out of them. No condition. -/
import Derived.Test.YtgjlpnendljcaaaSymT
namespace Go.Proofs.Ytgjlpnendljcaaa
open Go.RowKit
set_option maxRecDepth 100000
variable {C : Ctx} {ops : Array Oper} {S : St} {o : Oper}
theorem op_appendR {x y : Operand} {t T sz len by_ m n q b cap : Nat} {T0 : TypeId} {wr : Bool} {k : IntKind} {l l2 : List (BitVec b)} {A : Array Value} {ty : TypeId} {pos : String} {after : Array Edge} (hd : dstB (some n) C.nt = true) (hx : S.ev x = some (.v m)) (hr : S.res m = some (.own m T sz len (valsL k l))) (hy : S.ev y = some (.s q 0 1 cap))
    (hq : S.res q = some (.blk q T0 (.c (vals k l2)) wr)) (hu' : tabLook undT t = some (.slice T)) (hs' : tabLook sizT T = some sz) (hy' : tabLook bytT T = some by_) (hz' : tabLook zerT T = some A) (hA : A.size = sz) (hsz : 0 < sz) (hl2 : l2.length = sz)
    (hmax : len + 1 ≤ 1099511627776 ∧ (len + 1) * by_ ≤ 140737488355328) (hmn : Nat.beq m n = false) :
    OpG C Try.prog ops ⟨some n, .call { callee := .builtin .append, args := #[x, y], argTypes := #[t, t] }, ty, pos, after, none⟩ S ⟨opT x ++ opT y, m :: ((SV.s q 0 1 cap).sup ++ [q]), [(n, .v n)], [(m, none), (n, some (.own n T sz (len + 1) (valsL k (l ++ l2))))], [n]⟩ := by
  rw [valsL_append]
  refine op_append hd hx hr hy hu' hs' hy' hz' hA hsz ?_ (valsL_one l2) hmax hmn
  have := rdn_row (C := C) (S := S) (size := sz) (len := 1) (cap := cap) hq (by rw [vals_size, hl2, Nat.one_mul])
  simpa [vals] using this
theorem op_loadsR {ty : TypeId} {x : Operand} {n off len sz m b : Nat} {T0 : TypeId} {k : IntKind} {L : List (BitVec b)} {d : TypeDesc} (ho : o.op = .load ty x) (hg : o.guard = none) (hd : dstB o.dst C.nt = true) (hx : S.ev x = some (.vp n off)) (hr : S.res n = some (.own n T0 sz len (valsL k L))) (hu' : tabLook undT ty = some d) (hda : d.isRow = true) (hi' : tabLook sizT ty = some m) (hm : 0 < m) (hb : off + m ≤ L.length) :
    OpG C Try.prog ops o S ⟨opT x, [n], dw o.dst (.c (.agg (vals k ((L.drop off).take m)))), [], []⟩ := by
  refine op_loadsV ho hg hd hx hr hu' hda hi' hm (by rw [valsL_length]; exact hb) ?_
  simp [valsL]
theorem op_allocV {ty e0 : TypeId} {k : IntKind} {q m n : Nat} [Bits k q] (ho : o.op = .alloc ty) (hdn : o.dst = some n) (hg : o.guard = none) (hd : dstB o.dst C.nt = true) (_hu : tabLook undT ty = some (.array m e0)) (_he : tabLook undT e0 = some (.int k)) (hz : tabLook zerT ty = some (vals k (List.replicate m (0#q)))) :
    OpG C Try.prog ops o S ⟨[], [], dw o.dst (.p n 0), [(n, some (.blk n ty (.c (vals k (List.replicate m (0#q))))))], [n]⟩ := op_alloc ho hdn hg hd hz
theorem op_eqT {ty yt : TypeId} {x y : Operand} {a b : Bool} (ho : o.op = .binOp .eql ty x y yt) (hg : o.guard = none) (hd : dstB o.dst C.nt = true) (hx : S.ev x = some (.c (.bool a))) (hy : S.ev y = some (.c (.bool b))) (hu' : tabLook undT ty = some .bool) : OpG C Try.prog ops o S ⟨opT x ++ opT y, [], dw o.dst (.c (.bool (a == b))), [], []⟩ :=
  op_two (v := .c (.bool (a == b))) hg hd hx hy fun e ρ w h1 h2 => by
    have h1' : ρ x = .bool a := h1
    have h2' : ρ y = .bool b := h2
    have hu := tabAll_look undT_ok hu'
    have hgd : (eqGuard .eql ty x y (.bool a) (.bool b)).run Try.prog w = .ok () w := by unfold eqGuard; rfl
    simp only [execOp, ho, h1', h2', Sem.run_bind, hgd, Result.andThen_ok, run_eql_bool w ty a b hu, Sem.run_pure]
    rfl
theorem op_neT {ty yt : TypeId} {x y : Operand} {a b : Bool} (ho : o.op = .binOp .neq ty x y yt) (hg : o.guard = none) (hd : dstB o.dst C.nt = true) (hx : S.ev x = some (.c (.bool a))) (hy : S.ev y = some (.c (.bool b))) (hu' : tabLook undT ty = some .bool) : OpG C Try.prog ops o S ⟨opT x ++ opT y, [], dw o.dst (.c (.bool (!(a == b)))), [], []⟩ :=
  op_two (v := .c (.bool (!(a == b)))) hg hd hx hy fun e ρ w h1 h2 => by
    have h1' : ρ x = .bool a := h1
    have h2' : ρ y = .bool b := h2
    have hu := tabAll_look undT_ok hu'
    have hgd : (eqGuard .neq ty x y (.bool a) (.bool b)).run Try.prog w = .ok () w := by unfold eqGuard; rfl
    simp only [execOp, ho, h1', h2', Sem.run_bind, hgd, Result.andThen_ok, run_neq_bool w ty a b hu, Sem.run_pure]
    rfl
/-- The same cells, told otherwise. -/
theorem ent_blkA {t : List (Nat × SV)} {h : List (Nat × Option Res)} (n : Nat) {T : TypeId} {A : SA} (A' : SA) {wr : Bool} (hr : (St.mk t h).res n = some (.blk n T A wr)) (hA : ∀ e, A.den e = A'.den e) : Ents C ⟨t, h⟩ ⟨t, (n, some (.blk n T A' wr)) :: h⟩ := fun e a w hS => by
  have hres : ∀ k r, (St.mk t ((n, some (.blk n T A' wr)) :: h)).res k = some r → ∃ r0, (St.mk t h).res k = some r0 ∧ r.foot e = r0.foot e ∧ (r0.ok e w → r.ok e w) ∧ r.wr = r0.wr := fun k r hk => by
    rw [St.res_cons] at hk
    split at hk
    · rename_i he
      cases hk
      subst he
      refine ⟨_, hr, rfl, fun ⟨fr, h1, h2⟩ => ⟨fr, by rw [← hA]; exact h1, h2⟩, rfl⟩
    · exact ⟨r, hk, rfl, fun h => h, rfl⟩
  refine ⟨e, hS.defers, hS.size, hS.tmp, fun k r hk => ?_, fun k r hk hw b hb => ?_, fun k m r r' hk hm hne hw b hb hb' => ?_, hS.frame⟩
  · obtain ⟨r0, h1, h2, h3, h4⟩ := hres k r hk
    exact h3 (hS.res k r0 h1)
  · obtain ⟨r0, h1, h2, h3, h4⟩ := hres k r hk
    exact hS.mine k r0 h1 (by rw [← h4]; exact hw) b (by rw [← h2]; exact hb)
  · obtain ⟨r0, h1, h2, h3, h4⟩ := hres k r hk
    obtain ⟨r1, g1, g2, g3, g4⟩ := hres m r' hm
    exact hS.sep k m r0 r1 h1 g1 hne (by rw [← h4]; exact hw) b (by rw [← h2]; exact hb) (by rw [← g2]; exact hb')
end Go.Proofs.Ytgjlpnendljcaaa
