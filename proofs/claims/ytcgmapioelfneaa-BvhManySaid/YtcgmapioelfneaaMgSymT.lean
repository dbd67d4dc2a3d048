/- Operations on slices that begin somewhere in a block of their own; slices stored into objects; calls that change objects which hold them. No condition. Rows of numbers appended to slices of rows, and read out of them. No condition. Shifts of whole numbers by nothing. No condition. -/
import Derived.Test.YtcgmapioelfneaaMgSymO
import Derived.Laws.Cover3
namespace Go.Proofs.Ytcgmapioelfneaa
open Go.RowKit
set_option maxRecDepth 100000
variable {C : Ctx} {ops : Array Oper} {S : St} {o : Oper}
/-! ### read -/
/-! ### cut -/
/-! ### append -/
/-! ### a slice as an array's place -/
/-! ### a slice stored into an object -/
def OneC (C : Ctx) (S : St) (rb : List Nat) (v : SV) : Prop := ∀ (S' : St) e a w, Holds C S' e a w → (∀ q ∈ rb, S'.res q = S.res q) → (v.den e).cells = #[v.den e] ∧ (v.den e).oneCell' = true
theorem one_own {n : Nat} {T : TypeId} {size len : Nat} {xs : List Value} (hr : S.res n = some (.own n T size len xs)) : OneC C S [n] (.v n) := fun S' e a w hS hq => by
  have h : w.ownsRow 0 T size (e n).v len xs := hS.res n _ ((hq n (by simp)).trans hr)
  show (e n).v.cells = #[(e n).v] ∧ (e n).v.oneCell' = true
  rcases h.2 with ⟨h3, _⟩ | ⟨g, cap, cur, h3, _⟩ <;> rw [h3] <;> exact ⟨rfl, rfl⟩
theorem one_osub {n : Nat} {T : TypeId} {len : Nat} {xs : List Value} (hr : S.res n = some (.osub n T len xs)) : OneC C S [n] (.v n) := fun S' e a w hS hq =>
  (show ownsSub w T (e n).v len xs from hS.res n _ ((hq n (by simp)).trans hr)).own
theorem op_storeO {ty : TypeId} {x y : Operand} {n off : Nat} {T : TypeId} {A A' : SA} {v : SV} {rb : List Nat} (ho : o.op = .store ty x y) (hg : o.guard = none) (hdst : o.dst = none) (hx : S.ev x = some (.p n off)) (hy : S.ev y = some v) (hr : S.res n = some (.blk n T A))
    (hi' : tabLook sizT ty = some 1) (hv : OneC C S rb v) (hoff : ∀ e, off < (A.den e).size := by (fail_if_success (with_reducible apply trap_sz)); repeat (first | ((with_reducible apply sz_vals); exact (by first | omega | (simp; omega) | (simp <;> fail) | omega)) | ((with_reducible apply sz_l); (first | decide | (simp only [List.length_set, List.length_cons, List.length_nil]; omega))) | ((with_reducible apply sz_c); decide) | ((with_reducible apply sz_appL); first | ((with_reducible apply sz_l); (first | decide | (simp only [List.length_set, List.length_cons, List.length_nil]; omega))) | ((with_reducible apply sz_vals); exact (by first | omega | (simp; omega) | (simp <;> fail) | omega))) | ((with_reducible apply sz_appR); (· exact (by (fail_if_success (with_reducible apply trap_sm)); first | ((with_reducible apply sm_vals); first | (with_reducible assumption) | (simp <;> fail) | rfl) | ((with_reducible apply sm_c); first | (with_reducible assumption) | rfl) | ((with_reducible apply sm_l); rfl)))))) (hA : ∀ e, (A.den e).setIfInBounds off (v.den e) = A'.den e := by (fail_if_success (with_reducible apply trap_set)); repeat (first | (with_reducible exact st_vals) | ((with_reducible apply st_valsz); rfl) | (with_reducible exact st_l) | (with_reducible exact st_c) | ((with_reducible apply set_appR); (· exact (by (fail_if_success (with_reducible apply trap_sm)); first | ((with_reducible apply sm_vals); first | (with_reducible assumption) | (simp <;> fail) | rfl) | ((with_reducible apply sm_c); first | (with_reducible assumption) | rfl) | ((with_reducible apply sm_l); rfl))); (· rfl)) | ((with_reducible apply set_appL); (· exact (by (fail_if_success (with_reducible apply trap_sz)); first | ((with_reducible apply sz_vals); exact (by first | omega | (simp; omega) | (simp <;> fail) | omega)) | ((with_reducible apply sz_l); (first | decide | (simp only [List.length_set, List.length_cons, List.length_nil]; omega))) | ((with_reducible apply sz_c); decide)))))) :
    OpG C Try.prog ops o S ⟨opT x ++ opT y, n :: (A'.sup ++ rb), [], [(n, some (.blk n T A'))], []⟩ := by
  have hi := tabAll_look sizT_ok hi'
  refine opG_mk hg fun S' h1 h2 h3 e a w hS => ?_
  have hev : a.eval x = .pointer (some ⟨(e n).b, off, none⟩) := hS.ev ((ev_like h1 fun _ h => List.mem_append_left _ h).trans hx)
  have hevy : a.eval y = v.den e := hS.ev ((ev_like h1 fun _ h => List.mem_append_right _ h).trans hy)
  have hr' := (h2 n (by simp)).trans hr
  obtain ⟨fr, hb, hfr⟩ := res_blk hS hr'
  rw [hfr rfl] at hb
  obtain ⟨hcs, hone⟩ := hv S' e a w hS (fun q hq => h2 q (by simp [hq]))
  have hc : w.cell? ⟨(e n).b, off, none⟩ = some ((A.den e)[off]'(hoff e)) := (cell_of_row w _ off _ _ _ hb).trans (by simp [hoff e])
  have hf : w.frozen? ⟨(e n).b, off, none⟩ = false := frozen_of_row w _ off _ _ hb
  refine wp_skip' (w' := w.setCell ⟨(e n).b, off, none⟩ (v.den e)) ?_ ⟨e, ?_⟩
  · cases hq : Try.prog.info? ty with
    | none => simp [hq] at hi
    | some i =>
      have hs : i.size = 1 := by simpa [hq] using hi
      simp [execOp, ho, hev, hevy, Instr.storeAt, Instr.sureAddr, storeVar, sizeOf, typeInfo, hq, hs, hcs, storeCells, run_store Try.prog _ _ _ _ hone, hc, hf, Addr.add]
  · rw [hdst]
    refine hS.write hr' rfl rfl rfl (by simp [World.setCell]) ?_ (fun k hk => Below.heap_setCell w _ _ k hk)
    rw [← hA e]
    exact heap_setCell_same w _ off _ _ _ hb
/-! ### calls -/
section
variable {l : List Oper} {t : List (Nat × SV)} {h : List (Nat × Option Res)} {d : Nat} {f j : FuncId} {xs : Array Operand} {ats : Array TypeId} {vs : List SV}
end
end Go.Proofs.Ytcgmapioelfneaa
namespace Go.Proofs.Ytcgmapioelfneaa
open Go.RowKit
set_option maxRecDepth 100000
variable {C : Ctx} {ops : Array Oper} {S : St} {o : Oper}
theorem op_eqT {ty yt : TypeId} {x y : Operand} {a b : Bool} (ho : o.op = .binOp .eql ty x y yt) (hg : o.guard = none) (hd : dstB o.dst C.nt = true) (hx : S.ev x = some (.c (.bool a))) (hy : S.ev y = some (.c (.bool b))) (hu' : tabLook undT ty = some .bool) : OpG C Try.prog ops o S ⟨opT x ++ opT y, [], dw o.dst (.c (.bool (a == b))), [], []⟩ :=
  op_two (v := .c (.bool (a == b))) hg hd hx hy fun e ρ w h1 h2 => by
    have h1' : ρ x = .bool a := h1
    have h2' : ρ y = .bool b := h2
    have hu := tabAll_look undT_ok hu'
    have hgd : (eqGuard .eql ty x y (.bool a) (.bool b)).run Try.prog w = .ok () w := by unfold eqGuard; rfl
    simp only [execOp, ho, h1', h2', Sem.run_bind, hgd, Result.andThen_ok, run_eql_bool w ty a b hu, Sem.run_pure]
    rfl
theorem op_neT {ty yt : TypeId} {x y : Operand} {a b : Bool} (ho : o.op = .binOp .neq ty x y yt) (hg : o.guard = none) (hd : dstB o.dst C.nt = true) (hx : S.ev x = some (.c (.bool a))) (hy : S.ev y = some (.c (.bool b))) (hu' : tabLook undT ty = some .bool) : OpG C Try.prog ops o S ⟨opT x ++ opT y, [], dw o.dst (.c (.bool (!(a == b)))), [], []⟩ :=
  op_two (v := .c (.bool (!(a == b)))) hg hd hx hy fun e ρ w h1 h2 => by
    have h1' : ρ x = .bool a := h1
    have h2' : ρ y = .bool b := h2
    have hu := tabAll_look undT_ok hu'
    have hgd : (eqGuard .neq ty x y (.bool a) (.bool b)).run Try.prog w = .ok () w := by unfold eqGuard; rfl
    simp only [execOp, ho, h1', h2', Sem.run_bind, hgd, Result.andThen_ok, run_neq_bool w ty a b hu, Sem.run_pure]
    rfl
/-- The same cells, told otherwise. -/
theorem ent_blkA {t : List (Nat × SV)} {h : List (Nat × Option Res)} (n : Nat) {T : TypeId} {A : SA} (A' : SA) {wr : Bool} (hr : (St.mk t h).res n = some (.blk n T A wr)) (hA : ∀ e, A.den e = A'.den e) : Ents C ⟨t, h⟩ ⟨t, (n, some (.blk n T A' wr)) :: h⟩ := fun e a w hS => by
  have hres : ∀ k r, (St.mk t ((n, some (.blk n T A' wr)) :: h)).res k = some r → ∃ r0, (St.mk t h).res k = some r0 ∧ r.foot e = r0.foot e ∧ (r0.ok e w → r.ok e w) ∧ r.wr = r0.wr := fun k r hk => by
    rw [St.res_cons] at hk
    split at hk
    · rename_i he
      cases hk
      subst he
      refine ⟨_, hr, rfl, fun ⟨fr, h1, h2⟩ => ⟨fr, by rw [← hA]; exact h1, h2⟩, rfl⟩
    · exact ⟨r, hk, rfl, fun h => h, rfl⟩
  refine ⟨e, hS.defers, hS.size, hS.tmp, fun k r hk => ?_, fun k r hk hw b hb => ?_, fun k m r r' hk hm hne hw b hb hb' => ?_, hS.frame⟩
  · obtain ⟨r0, h1, h2, h3, h4⟩ := hres k r hk
    exact h3 (hS.res k r0 h1)
  · obtain ⟨r0, h1, h2, h3, h4⟩ := hres k r hk
    exact hS.mine k r0 h1 (by rw [← h4]; exact hw) b (by rw [← h2]; exact hb)
  · obtain ⟨r0, h1, h2, h3, h4⟩ := hres k r hk
    obtain ⟨r1, g1, g2, g3, g4⟩ := hres m r' hm
    exact hS.sep k m r0 r1 h1 g1 hne (by rw [← h4]; exact hw) b (by rw [← h2]; exact hb) (by rw [← g2]; exact hb')
end Go.Proofs.Ytcgmapioelfneaa
namespace Go.Proofs.Ytcgmapioelfneaa
open Go.RowKit
set_option maxRecDepth 100000
variable {C : Ctx} {ops : Array Oper} {S : St} {o : Oper}
/-! ### a slice of its own and a value handed back, slices handed over -/
end Go.Proofs.Ytcgmapioelfneaa
