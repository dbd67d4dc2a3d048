/- Operations on slices that begin somewhere in a block of their own; slices stored into objects; calls that change objects which hold them. No condition. Rows of numbers appended to slices of rows, and read out of them. No condition. Shifts of whole numbers by nothing. No condition. -/
import Derived.Test.YtcgmapioelfneaaSymS
import Derived.Laws.Cover3
namespace Go.Proofs.Ytcgmapioelfneaa
open Go.RowKit
set_option maxRecDepth 100000
variable {C : Ctx} {ops : Array Oper} {S : St} {o : Oper}
/-! ### read -/
theorem rdn_osub {n : Nat} {T : TypeId} {len : Nat} {xs : List Value} (hr : S.res n = some (.osub n T len xs)) : RdN C S [n] 1 (.v n) len xs := by
  intro S' e a w h hS
  have hok : ownsSub w T (e n).v len xs := hS.res n _ ((h n (by simp)).trans hr)
  refine ⟨by rw [hok.1, Nat.mul_one], ?_⟩
  show ∃ a c, (e n).v = .slice a len c ∧ _
  rcases hok.2 with ⟨h1, h2⟩ | ⟨g, off, cap, cur, h1, _⟩
  · rw [h1, h2]; exact ⟨_, _, rfl, .inl rfl⟩
  · rw [h1] at hok ⊢
    exact ⟨_, _, rfl, .inr ⟨g, off, rfl, fun j u hu => hok.cell j u hu⟩⟩
theorem op_lenU {dst : Option Tmp} {x : Operand} {t T ty : TypeId} {pos : String} {after : Array Edge} {n len : Nat} {T0 : TypeId} {xs : List Value} (hd : dstB dst C.nt = true) (hx : S.ev x = some (.v n)) (hr : S.res n = some (.osub n T0 len xs)) (hu' : tabLook undT t = some (.slice T)) : OpG C Try.prog ops ⟨dst, .call { callee := .builtin .len, args := #[x], argTypes := #[t] }, ty, pos, after, none⟩ S ⟨opT x, [n], dw dst (.c (.int .i64 ((len : Nat) : Int))), [], []⟩ :=
  op_lenR hd hx hu' (rdn_osub hr)
/-! ### cut -/
theorem ownsSub.cut_den {w : World} {T : TypeId} {v : Value} {n : Nat} {xs : List Value} (h : ownsSub w T v n xs) : ∃ ad cap, v = .slice ad n cap ∧ n ≤ cap := by
  rcases h.2 with ⟨rfl, rfl⟩ | ⟨g, off, cap, cur, rfl, _, hn, _⟩
  · exact ⟨_, _, rfl, Nat.le_refl _⟩
  · exact ⟨_, _, rfl, hn⟩
theorem op_cutUS {x : Operand} {t T : TypeId} {n lo hi len : Nat} {T0 : TypeId} {xs : List Value} {ol oh : Option Operand} (ho : o.op = .slice t x ol oh none) (hg : o.guard = none) (hd : dstB o.dst C.nt = true) (hx : S.ev x = some (.v n)) (hr : S.res n = some (.osub n T0 len xs)) (hu' : tabLook undT t = some (.slice T)) (hs' : tabLook sizT T = some 1) (hl : EvO S ol 0 lo) (hh : EvO S oh len hi) (h1 : lo ≤ hi) (h2 : hi ≤ len) :
    OpG C Try.prog ops o S ⟨opT x ++ (opO ol ++ opO oh), [n], dw o.dst (.sub n lo (hi - lo)), [], []⟩ :=
  op_cut ho hg hd hx hu' hs' hl hh h1 (fun S' e a w hq hS => by
    have hok : ownsSub w T0 (e n).v len xs := hS.res n _ ((hq n (by simp)).trans hr)
    obtain ⟨ad, cap, hv, hc⟩ := hok.cut_den
    refine ⟨ad, cap, hv, by omega, ?_⟩
    show cutV (e n).v lo (hi - lo) = _
    rw [hv, Nat.mul_one]
    rfl) rfl
theorem op_cutU {x : Operand} {t T m n lo len : Nat} {T0 : TypeId} {k : IntKind} {q : Nat} {l : List (BitVec q)} {ol : Option Operand} (ho : o.op = .slice t x ol none none) (hdn : o.dst = some n) (hg : o.guard = none) (hd : dstB o.dst C.nt = true) (hx : S.ev x = some (.v m)) (hr : S.res m = some (.osub m T0 len (valsL k l))) (hu' : tabLook undT t = some (.slice T)) (hs' : tabLook sizT T = some 1) (hl : EvO S ol 0 lo := by first | exact evO_none | exact evO_some (by first | exact evK_const rfl | exact evK_tmp rfl)) (h1 : lo ≤ len := by first | omega | decide) (hmn : Nat.beq m n = false := by exact rfl) :
    OpG C Try.prog ops o S ⟨opT x ++ opO ol, [m], [(n, .v n)], [(m, none), (n, some (.osub n T0 (len - lo) (valsL k (l.drop lo))))], [n]⟩ := by
  refine opG_mk hg fun S' h1' h2' h3' e a w hS => ?_
  have hr' := (h2' m (by simp)).trans hr
  have hok : ownsSub w T0 (e m).v len (valsL k l) := hS.res m _ hr'
  obtain ⟨ad, cap, hv, hc⟩ := hok.cut_den
  have hevx : a.eval x = .slice ad len cap := (hS.ev ((ev_like h1' fun _ h => List.mem_append_left _ h).trans hx)).trans hv
  have e1 := evO_run (a := a) hS hl (fun i hi => h1' i (List.mem_append_right _ hi))
  have e1' : ∃ k1, (ol.map a.eval = none ∧ lo = 0) ∨ ol.map a.eval = some (.int k1 ((lo : Nat) : Int)) := by
    rcases e1 with h | ⟨k, h⟩
    · exact ⟨.i64, .inl h⟩
    · exact ⟨k, .inr h⟩
  obtain ⟨k1, e1'⟩ := e1'
  have hrun := run_cut (a := ad) (k2 := .i64) (oh := none) hu' hs' h1 hc e1' (.inl ⟨rfl, rfl⟩) w
  have hcut := hok.cut h1
  have hne : m ≠ n := fun h => by subst h; simp at hmn
  have hval : cutV (e m).v lo (len - lo) = .slice (if cap = lo then ad else ad.map (·.add lo)) (len - lo) (cap - lo) := by rw [hv]; rfl
  have hH := hS.chg (w' := w) [(n, .osub n T0 (len - lo) ((valsL k l).drop lo))] [m] (h3' n (by simp)) ⟨0, 0, cutV (e m).v lo (len - lo)⟩ rfl rfl rfl (Nat.le_refl _)
    (fun k hk r hr2 => by
      rcases List.mem_cons.1 hk with rfl | hk
      · rw [hr'] at hr2; cases hr2; rfl
      · cases hk) (fun _ _ _ => rfl)
    (fun p hp => by
      rcases List.mem_cons.1 hp with rfl | hp
      · show ownsSub w T0 ((e.set n _) n).v _ _
        rw [Env.set_self]; exact hcut
      · cases hp)
    (fun p hp b hb => by
      rcases List.mem_cons.1 hp with rfl | hp
      · have hb : ((e.set n ⟨0, 0, cutV (e m).v lo (len - lo)⟩) n).v.ownBlock = some b := hb
        rw [Env.set_self] at hb
        refine .inl ⟨m, by simp, _, hr', ?_⟩
        show (e m).v.ownBlock = some b
        rw [← hb, hval, hv]
        split
        · cases ad <;> rfl
        · cases ad with
          | none => rfl
          | some ad => exact congrArg some (by unfold Addr.add; split <;> rfl)
      · cases hp)
    (fun p hp p' hp' hne' b hb hb' => by
      rcases List.mem_cons.1 hp with rfl | hp
      · rcases List.mem_cons.1 hp' with rfl | hp'
        · exact hne' rfl
        · cases hp'
      · cases hp)
  have hH2 : Holds C ⟨S'.t, (m, none) :: (n, some (.osub n T0 (len - lo) (valsL k (l.drop lo)))) :: S'.h⟩ (e.set n ⟨0, 0, cutV (e m).v lo (len - lo)⟩) a w := by
    refine hH.like ⟨fun _ => rfl, fun q => ?_⟩
    show _ = (St.mk S'.t ((n, some (.osub n T0 (len - lo) ((valsL k l).drop lo))) :: (m, none) :: S'.h)).res q
    simp only [St.res_cons]
    have hdd : (valsL k l).drop lo = valsL k (l.drop lo) := by simp [valsL]
    by_cases hq : m = q
    · subst hq; simp [Ne.symm hne]
    · simp [hq, hdd]
  refine wp_value (v := cutV (e m).v lo (len - lo)) (w' := w) ?_ ⟨e.set n ⟨0, 0, cutV (e m).v lo (len - lo)⟩, ?_⟩
  · simp only [execOp, ho, hevx, Option.map_none, Sem.run_bind, hrun, Result.andThen_ok, Sem.run_pure, hval, Nat.mul_one]
  · rw [hdn]
    have hd' : dstB (some n) C.nt = true := by rw [← hdn]; exact hd
    have := hH2.put hd' (.v n)
    simp only [SV.v, Env.set_self] at this
    exact this
/-! ### append -/
/-! ### a slice as an array's place -/
/-! ### a slice stored into an object -/
def OneC (C : Ctx) (S : St) (rb : List Nat) (v : SV) : Prop := ∀ (S' : St) e a w, Holds C S' e a w → (∀ q ∈ rb, S'.res q = S.res q) → (v.den e).cells = #[v.den e] ∧ (v.den e).oneCell' = true
theorem one_own {n : Nat} {T : TypeId} {size len : Nat} {xs : List Value} (hr : S.res n = some (.own n T size len xs)) : OneC C S [n] (.v n) := fun S' e a w hS hq => by
  have h : w.ownsRow 0 T size (e n).v len xs := hS.res n _ ((hq n (by simp)).trans hr)
  show (e n).v.cells = #[(e n).v] ∧ (e n).v.oneCell' = true
  rcases h.2 with ⟨h3, _⟩ | ⟨g, cap, cur, h3, _⟩ <;> rw [h3] <;> exact ⟨rfl, rfl⟩
theorem one_osub {n : Nat} {T : TypeId} {len : Nat} {xs : List Value} (hr : S.res n = some (.osub n T len xs)) : OneC C S [n] (.v n) := fun S' e a w hS hq =>
  (show ownsSub w T (e n).v len xs from hS.res n _ ((hq n (by simp)).trans hr)).own
theorem op_storeO {ty : TypeId} {x y : Operand} {n off : Nat} {T : TypeId} {A A' : SA} {v : SV} {rb : List Nat} (ho : o.op = .store ty x y) (hg : o.guard = none) (hdst : o.dst = none) (hx : S.ev x = some (.p n off)) (hy : S.ev y = some v) (hr : S.res n = some (.blk n T A))
    (hi' : tabLook sizT ty = some 1) (hv : OneC C S rb v) (hoff : ∀ e, off < (A.den e).size := by (fail_if_success (with_reducible apply trap_sz)); repeat (first | ((with_reducible apply sz_vals); exact (by first | omega | (simp; omega) | (simp <;> fail) | omega)) | ((with_reducible apply sz_l); (first | decide | (simp only [List.length_set, List.length_cons, List.length_nil]; omega))) | ((with_reducible apply sz_c); decide) | ((with_reducible apply sz_appL); first | ((with_reducible apply sz_l); (first | decide | (simp only [List.length_set, List.length_cons, List.length_nil]; omega))) | ((with_reducible apply sz_vals); exact (by first | omega | (simp; omega) | (simp <;> fail) | omega))) | ((with_reducible apply sz_appR); (· exact (by (fail_if_success (with_reducible apply trap_sm)); first | ((with_reducible apply sm_vals); first | (with_reducible assumption) | (simp <;> fail) | rfl) | ((with_reducible apply sm_c); first | (with_reducible assumption) | rfl) | ((with_reducible apply sm_l); rfl)))))) (hA : ∀ e, (A.den e).setIfInBounds off (v.den e) = A'.den e := by (fail_if_success (with_reducible apply trap_set)); repeat (first | (with_reducible exact st_vals) | ((with_reducible apply st_valsz); rfl) | (with_reducible exact st_l) | (with_reducible exact st_c) | ((with_reducible apply set_appR); (· exact (by (fail_if_success (with_reducible apply trap_sm)); first | ((with_reducible apply sm_vals); first | (with_reducible assumption) | (simp <;> fail) | rfl) | ((with_reducible apply sm_c); first | (with_reducible assumption) | rfl) | ((with_reducible apply sm_l); rfl))); (· rfl)) | ((with_reducible apply set_appL); (· exact (by (fail_if_success (with_reducible apply trap_sz)); first | ((with_reducible apply sz_vals); exact (by first | omega | (simp; omega) | (simp <;> fail) | omega)) | ((with_reducible apply sz_l); (first | decide | (simp only [List.length_set, List.length_cons, List.length_nil]; omega))) | ((with_reducible apply sz_c); decide)))))) :
    OpG C Try.prog ops o S ⟨opT x ++ opT y, n :: (A'.sup ++ rb), [], [(n, some (.blk n T A'))], []⟩ := by
  have hi := tabAll_look sizT_ok hi'
  refine opG_mk hg fun S' h1 h2 h3 e a w hS => ?_
  have hev : a.eval x = .pointer (some ⟨(e n).b, off, none⟩) := hS.ev ((ev_like h1 fun _ h => List.mem_append_left _ h).trans hx)
  have hevy : a.eval y = v.den e := hS.ev ((ev_like h1 fun _ h => List.mem_append_right _ h).trans hy)
  have hr' := (h2 n (by simp)).trans hr
  obtain ⟨fr, hb, hfr⟩ := res_blk hS hr'
  rw [hfr rfl] at hb
  obtain ⟨hcs, hone⟩ := hv S' e a w hS (fun q hq => h2 q (by simp [hq]))
  have hc : w.cell? ⟨(e n).b, off, none⟩ = some ((A.den e)[off]'(hoff e)) := (cell_of_row w _ off _ _ _ hb).trans (by simp [hoff e])
  have hf : w.frozen? ⟨(e n).b, off, none⟩ = false := frozen_of_row w _ off _ _ hb
  refine wp_skip' (w' := w.setCell ⟨(e n).b, off, none⟩ (v.den e)) ?_ ⟨e, ?_⟩
  · cases hq : Try.prog.info? ty with
    | none => simp [hq] at hi
    | some i =>
      have hs : i.size = 1 := by simpa [hq] using hi
      simp [execOp, ho, hev, hevy, Instr.storeAt, Instr.sureAddr, storeVar, sizeOf, typeInfo, hq, hs, hcs, storeCells, run_store Try.prog _ _ _ _ hone, hc, hf, Addr.add]
  · rw [hdst]
    refine hS.write hr' rfl rfl rfl (by simp [World.setCell]) ?_ (fun k hk => Below.heap_setCell w _ _ k hk)
    rw [← hA e]
    exact heap_setCell_same w _ off _ _ _ hb
/-! ### calls -/
section
variable {l : List Oper} {t : List (Nat × SV)} {h : List (Nat × Option Res)} {d : Nat} {f j : FuncId} {xs : Array Operand} {ats : Array TypeId} {vs : List SV}
end
end Go.Proofs.Ytcgmapioelfneaa
namespace Go.Proofs.Ytcgmapioelfneaa
open Go.RowKit
set_option maxRecDepth 100000
variable {C : Ctx} {ops : Array Oper} {S : St} {o : Oper}
theorem op_eqT {ty yt : TypeId} {x y : Operand} {a b : Bool} (ho : o.op = .binOp .eql ty x y yt) (hg : o.guard = none) (hd : dstB o.dst C.nt = true) (hx : S.ev x = some (.c (.bool a))) (hy : S.ev y = some (.c (.bool b))) (hu' : tabLook undT ty = some .bool) : OpG C Try.prog ops o S ⟨opT x ++ opT y, [], dw o.dst (.c (.bool (a == b))), [], []⟩ :=
  op_two (v := .c (.bool (a == b))) hg hd hx hy fun e ρ w h1 h2 => by
    have h1' : ρ x = .bool a := h1
    have h2' : ρ y = .bool b := h2
    have hu := tabAll_look undT_ok hu'
    have hgd : (eqGuard .eql ty x y (.bool a) (.bool b)).run Try.prog w = .ok () w := by unfold eqGuard; rfl
    simp only [execOp, ho, h1', h2', Sem.run_bind, hgd, Result.andThen_ok, run_eql_bool w ty a b hu, Sem.run_pure]
    rfl
theorem op_neT {ty yt : TypeId} {x y : Operand} {a b : Bool} (ho : o.op = .binOp .neq ty x y yt) (hg : o.guard = none) (hd : dstB o.dst C.nt = true) (hx : S.ev x = some (.c (.bool a))) (hy : S.ev y = some (.c (.bool b))) (hu' : tabLook undT ty = some .bool) : OpG C Try.prog ops o S ⟨opT x ++ opT y, [], dw o.dst (.c (.bool (!(a == b)))), [], []⟩ :=
  op_two (v := .c (.bool (!(a == b)))) hg hd hx hy fun e ρ w h1 h2 => by
    have h1' : ρ x = .bool a := h1
    have h2' : ρ y = .bool b := h2
    have hu := tabAll_look undT_ok hu'
    have hgd : (eqGuard .neq ty x y (.bool a) (.bool b)).run Try.prog w = .ok () w := by unfold eqGuard; rfl
    simp only [execOp, ho, h1', h2', Sem.run_bind, hgd, Result.andThen_ok, run_neq_bool w ty a b hu, Sem.run_pure]
    rfl
/-- The same cells, told otherwise. -/
theorem ent_blkA {t : List (Nat × SV)} {h : List (Nat × Option Res)} (n : Nat) {T : TypeId} {A : SA} (A' : SA) {wr : Bool} (hr : (St.mk t h).res n = some (.blk n T A wr)) (hA : ∀ e, A.den e = A'.den e) : Ents C ⟨t, h⟩ ⟨t, (n, some (.blk n T A' wr)) :: h⟩ := fun e a w hS => by
  have hres : ∀ k r, (St.mk t ((n, some (.blk n T A' wr)) :: h)).res k = some r → ∃ r0, (St.mk t h).res k = some r0 ∧ r.foot e = r0.foot e ∧ (r0.ok e w → r.ok e w) ∧ r.wr = r0.wr := fun k r hk => by
    rw [St.res_cons] at hk
    split at hk
    · rename_i he
      cases hk
      subst he
      refine ⟨_, hr, rfl, fun ⟨fr, h1, h2⟩ => ⟨fr, by rw [← hA]; exact h1, h2⟩, rfl⟩
    · exact ⟨r, hk, rfl, fun h => h, rfl⟩
  refine ⟨e, hS.defers, hS.size, hS.tmp, fun k r hk => ?_, fun k r hk hw b hb => ?_, fun k m r r' hk hm hne hw b hb hb' => ?_, hS.frame⟩
  · obtain ⟨r0, h1, h2, h3, h4⟩ := hres k r hk
    exact h3 (hS.res k r0 h1)
  · obtain ⟨r0, h1, h2, h3, h4⟩ := hres k r hk
    exact hS.mine k r0 h1 (by rw [← h4]; exact hw) b (by rw [← h2]; exact hb)
  · obtain ⟨r0, h1, h2, h3, h4⟩ := hres k r hk
    obtain ⟨r1, g1, g2, g3, g4⟩ := hres m r' hm
    exact hS.sep k m r0 r1 h1 g1 hne (by rw [← h4]; exact hw) b (by rw [← h2]; exact hb) (by rw [← g2]; exact hb')
end Go.Proofs.Ytcgmapioelfneaa
namespace Go.Proofs.Ytcgmapioelfneaa
open Go.RowKit
set_option maxRecDepth 100000
variable {C : Ctx} {ops : Array Oper} {S : St} {o : Oper}
/-! ### a slice of its own and a value handed back, slices handed over -/
end Go.Proofs.Ytcgmapioelfneaa
