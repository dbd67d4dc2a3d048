/- Objects with a slice of their own in them; slices that begin somewhere in a block of their own. No condition. Operations on slices that begin somewhere in a block of their own; slices stored into objects; calls that change objects which hold them. No condition. Rows of numbers appended to slices of rows, and read out of them. No condition. Shifts of whole numbers by nothing. No condition. Rows in slices: read out of closed ones, fields' addresses, appended, written. No condition. -/
import Derived.Test.YtmpnkknocfaciaaSymLR
import Derived.Laws.Cover3
namespace Go.Proofs.Ytmpnkknocfaciaa
open Go.RowKit
set_option maxRecDepth 100000
/-! ### a slice that lies in a block of its own, from some place on -/
def ownsSub (w : World) (T : TypeId) (v : Value) (n : Nat) (xs : List Value) : Prop :=
  xs.length = n ∧ ((v = .slice none 0 0 ∧ n = 0) ∨ ∃ g off cap cur, v = .slice (some ⟨g, off, none⟩) n cap ∧ w.heap[g]? = some (.cells cur T (0, 0)) ∧ n ≤ cap ∧ cap ≤ maxLen ∧ off + cap ≤ cur.size ∧ (cur.toList.drop off).take n = xs)
theorem ownsSub.loc {w w' : World} {T : TypeId} {v : Value} {n : Nat} {xs : List Value} (h : ownsSub w T v n xs) (hb : ∀ b, v.ownBlock = some b → w'.heap[b]? = w.heap[b]?) : ownsSub w' T v n xs := by
  refine ⟨h.1, ?_⟩
  rcases h.2 with h2 | ⟨g, off, cap, cur, hv, hg, rest⟩
  · exact .inl h2
  · exact .inr ⟨g, off, cap, cur, hv, (hb g (by rw [hv]; rfl)).trans hg, rest⟩
theorem ownsSub.lt {w : World} {T : TypeId} {v : Value} {n : Nat} {xs : List Value} (h : ownsSub w T v n xs) {b : Nat} (hb : v.ownBlock = some b) : b < w.heap.size := by
  rcases h.2 with ⟨rfl, _⟩ | ⟨g, off, cap, cur, rfl, hg, rest⟩
  · cases hb
  · cases hb; exact (Array.getElem?_eq_some_iff.1 hg).1
theorem ownsSub.cut {w : World} {T : TypeId} {v : Value} {n lo : Nat} {xs : List Value} (h : ownsSub w T v n xs) (hlo : lo ≤ n) : ownsSub w T (cutV v lo (n - lo)) (n - lo) (xs.drop lo) := by
  refine ⟨by rw [List.length_drop, h.1], ?_⟩
  rcases h.2 with ⟨rfl, rfl⟩ | ⟨g, off, cap, cur, rfl, hg, hn, hm, hs, ht⟩
  · have : lo = 0 := by omega
    subst this
    exact .inl ⟨rfl, rfl⟩
  · right
    by_cases hc : cap = lo
    · refine ⟨g, off, cap - lo, cur, by simp [cutV, hc], hg, by omega, by omega, by omega, ?_⟩
      have h0 : n - lo = 0 := by omega
      have h1 : xs.drop lo = [] := List.drop_of_length_le (by rw [h.1]; omega)
      rw [h0, h1, List.take_zero]
    · refine ⟨g, off + lo, cap - lo, cur, by simp [cutV, hc, add_place], hg, by omega, by omega, by omega, ?_⟩
      rw [← ht, ← List.drop_drop, List.drop_take]
theorem ownsSub.own {w : World} {T : TypeId} {v : Value} {n : Nat} {xs : List Value} (h : ownsSub w T v n xs) : v.cells = #[v] ∧ v.oneCell' = true := by
  rcases h.2 with ⟨rfl, _⟩ | ⟨g, off, cap, cur, rfl, _⟩ <;> exact ⟨rfl, rfl⟩
theorem ownsSub.cell {w : World} {T : TypeId} {n : Nat} {xs : List Value} {g off cap : Nat} (h : ownsSub w T (.slice (some ⟨g, off, none⟩) n cap) n xs) (j : Nat) (u : Value) (hu : xs[j]? = some u) : w.cell? ⟨g, off + j, none⟩ = some u := by
  rcases h.2 with ⟨h2, _⟩ | ⟨g', off', cap', cur, hv, hg, hn, hm, hs, ht⟩
  · cases h2
  · cases hv
    rw [cell_of_row w g _ cur T (0, 0) hg, ← Array.getElem?_toList, ← List.getElem?_drop]
    have hj : j < n := by have := (List.getElem?_eq_some_iff.1 hu).1; rw [h.1] at this; exact this
    rw [← ht, List.getElem?_take, if_pos hj] at hu
    exact hu
def Res.osub (n : Nat) (T : TypeId) (len : Nat) (xs : List Value) : Res where
  foot e b := (e n).v.ownBlock = some b
  ok e w := ownsSub w T (e n).v len xs
  sup := [n]
  wr := true
  ind e e' h := by have h1 := h n (by simp); simp only [h1, and_self]
  loc e w w' h hok := hok.loc h
  lt e w b hok hf := hok.lt hf
/-! ### what stands for a slice of its own -/
structure IsOwn (R : Res) (n : Nat) (K : World → Value → Prop) : Prop where
  foot : ∀ e b, R.foot e b = ((e n).v.ownBlock = some b)
  ok : ∀ e w, R.ok e w = K w (e n).v
  sup : R.sup = [n]
  wr : R.wr = true
def ownK (T : TypeId) (size len : Nat) (xs : List Value) : World → Value → Prop := fun w v => w.ownsRow 0 T size v len xs
variable {C : Ctx} {ops : Array Oper} {S : St} {o : Oper}
/-! ### some resources changed -/
theorem res_chg {t : List (Nat × SV)} {N : List (Nat × Res)} {K : List Nat} {h : List (Nat × Option Res)} {n : Nat} {r : Res} (hr : (St.mk t (N.map (fun p => (p.1, some p.2)) ++ (K.map (fun k => (k, none)) ++ h))).res n = some r) : (n, r) ∈ N ∨ (n ∉ K ∧ (St.mk t h).res n = some r) := by
  unfold St.res at hr ⊢
  rw [look_append, look_append] at hr
  cases h1 : look (N.map (fun p => (p.1, some p.2))) n with
  | some x =>
    rw [h1] at hr
    left
    have := look_some_mem h1
    obtain ⟨p, hp, he⟩ := List.mem_map.1 this
    cases he
    cases hr
    exact hp
  | none =>
    rw [h1] at hr
    right
    cases h2 : look (K.map (fun k => ((k, none) : Nat × Option Res))) n with
    | some x =>
      rw [h2] at hr
      have := look_some_mem h2
      obtain ⟨p, hp, he⟩ := List.mem_map.1 this
      cases he
      cases hr
    | none =>
      rw [h2] at hr
      refine ⟨fun hn => ?_, hr⟩
      obtain ⟨x, hx⟩ := look_isSome (l := K.map (fun k => ((k, none) : Nat × Option Res))) (i := n) (by simpa using hn)
      rw [hx] at h2; cases h2
theorem Holds.chg {e : Env} {a : Act} {w w' : World} (hS : Holds C S e a w) (N : List (Nat × Res)) (K : List Nat) {d : Nat} (hf : S.fresh d) (x : Ent)
    (hos : w'.os = w.os) (htape : w'.tape = w.tape) (hout : w'.output = w.output) (hsz : w.heap.size ≤ w'.heap.size)
    (hK : ∀ k ∈ K, ∀ r, S.res k = some r → r.wr = true)
    (hblk : ∀ b, b < w.heap.size → (∀ k ∈ K, ∀ r, S.res k = some r → ¬ r.foot e b) → w'.heap[b]? = w.heap[b]?)
    (hok : ∀ p ∈ N, p.2.ok (e.set d x) w')
    (hfoot : ∀ p ∈ N, ∀ b, p.2.foot (e.set d x) b → (∃ k ∈ K, ∃ r, S.res k = some r ∧ r.foot e b) ∨ w.heap.size ≤ b)
    (hsep : ∀ p ∈ N, ∀ q ∈ N, p.1 ≠ q.1 → ∀ b, p.2.foot (e.set d x) b → ¬ q.2.foot (e.set d x) b) :
    Holds C ⟨S.t, N.map (fun p => (p.1, some p.2)) ++ (K.map (fun k => (k, none)) ++ S.h)⟩ (e.set d x) a w' := by
  have h1 := hS.rename hf x
  have hind : ∀ k r, S.res k = some r → r.foot (e.set d x) = r.foot e ∧ r.ok (e.set d x) = r.ok e := fun k r h => r.ind e _ fun q hq => Env.set_ne e _ (fun he => hf.2 k r h (he ▸ hq))
  refine ⟨h1.defers, h1.size, h1.tmp, fun n r hn => ?_, fun n r hn hw b hb => ?_, fun n m r r' hn hm hne hw b hb hb' => ?_, ⟨hos.trans hS.frame.os, htape.trans hS.frame.tape, hout.trans hS.frame.output, Nat.le_trans hS.frame.size hsz, fun k hk hkm => ?_⟩⟩
  · rcases res_chg hn with h2 | ⟨h2, h3⟩
    · exact hok _ h2
    · rw [(hind n r h3).2]
      refine r.loc e w w' (fun b hb => hblk b (r.lt e w b (hS.res n r h3) hb) fun k hk rk hrk hfk => ?_) (hS.res n r h3)
      exact hS.sep k n rk r hrk h3 (fun he => h2 (he ▸ hk)) (hK k hk rk hrk) b hfk hb
  · rcases res_chg hn with h2 | ⟨h2, h3⟩
    · rcases hfoot _ h2 b hb with ⟨k, hk, rk, hrk, hfk⟩ | h4
      · exact hS.mine k rk hrk (hK k hk rk hrk) b hfk
      · exact .inl (Nat.le_trans hS.frame.size h4)
    · exact h1.mine n r h3 hw b hb
  · rcases res_chg hn with h2 | ⟨h2, h3⟩
    · rcases res_chg hm with g2 | ⟨g2, g3⟩
      · exact hsep _ h2 _ g2 hne b hb hb'
      · rw [(hind m r' g3).1] at hb'
        rcases hfoot _ h2 b hb with ⟨k, hk, rk, hrk, hfk⟩ | h4
        · exact hS.sep k m rk r' hrk g3 (fun he => g2 (he ▸ hk)) (hK k hk rk hrk) b hfk hb'
        · exact absurd (r'.lt e w b (hS.res m r' g3) hb') (by omega)
    · rcases res_chg hm with g2 | ⟨g2, g3⟩
      · rw [(hind n r h3).1] at hb
        rcases hfoot _ g2 b hb' with ⟨k, hk, rk, hrk, hfk⟩ | h4
        · exact hS.sep k n rk r hrk h3 (fun he => h2 (he ▸ hk)) (hK k hk rk hrk) b hfk hb
        · exact absurd (r.lt e w b (hS.res n r h3) hb) (by omega)
      · exact h1.sep n m r r' h3 g3 hne hw b hb hb'
  · refine (hblk k (Nat.lt_of_lt_of_le hk hS.frame.size) fun q hq r hr hfq => ?_).trans (hS.frame.block k hk hkm)
    rcases hS.mine q r hr (hK q hq r hr) k hfq with h | h
    · omega
    · exact hkm h
/-! ### the walk of a method of such an object -/
/-! ### calls of such methods -/
end Go.Proofs.Ytmpnkknocfaciaa
namespace Go.Proofs.Ytmpnkknocfaciaa
open Go.RowKit
set_option maxRecDepth 100000
variable {C : Ctx} {ops : Array Oper} {S : St} {o : Oper}
/-! ### read -/
/-! ### cut -/
/-! ### append -/
/-! ### a slice as an array's place -/
/-! ### a slice stored into an object -/
def OneC (C : Ctx) (S : St) (rb : List Nat) (v : SV) : Prop := ∀ (S' : St) e a w, Holds C S' e a w → (∀ q ∈ rb, S'.res q = S.res q) → (v.den e).cells = #[v.den e] ∧ (v.den e).oneCell' = true
theorem one_own {n : Nat} {T : TypeId} {size len : Nat} {xs : List Value} (hr : S.res n = some (.own n T size len xs)) : OneC C S [n] (.v n) := fun S' e a w hS hq => by
  have h : w.ownsRow 0 T size (e n).v len xs := hS.res n _ ((hq n (by simp)).trans hr)
  show (e n).v.cells = #[(e n).v] ∧ (e n).v.oneCell' = true
  rcases h.2 with ⟨h3, _⟩ | ⟨g, cap, cur, h3, _⟩ <;> rw [h3] <;> exact ⟨rfl, rfl⟩
theorem one_osub {n : Nat} {T : TypeId} {len : Nat} {xs : List Value} (hr : S.res n = some (.osub n T len xs)) : OneC C S [n] (.v n) := fun S' e a w hS hq =>
  (show ownsSub w T (e n).v len xs from hS.res n _ ((hq n (by simp)).trans hr)).own
theorem op_storeO {ty : TypeId} {x y : Operand} {n off : Nat} {T : TypeId} {A A' : SA} {v : SV} {rb : List Nat} (ho : o.op = .store ty x y) (hg : o.guard = none) (hdst : o.dst = none) (hx : S.ev x = some (.p n off)) (hy : S.ev y = some v) (hr : S.res n = some (.blk n T A))
    (hi' : tabLook sizT ty = some 1) (hv : OneC C S rb v) (hoff : ∀ e, off < (A.den e).size := by (fail_if_success (with_reducible apply trap_sz)); repeat (first | ((with_reducible apply sz_vals); exact (by first | omega | (simp; omega) | (simp <;> fail) | omega)) | ((with_reducible apply sz_l); (first | decide | (simp only [List.length_set, List.length_cons, List.length_nil]; omega))) | ((with_reducible apply sz_c); decide) | ((with_reducible apply sz_appL); first | ((with_reducible apply sz_l); (first | decide | (simp only [List.length_set, List.length_cons, List.length_nil]; omega))) | ((with_reducible apply sz_vals); exact (by first | omega | (simp; omega) | (simp <;> fail) | omega))) | ((with_reducible apply sz_appR); (· exact (by (fail_if_success (with_reducible apply trap_sm)); first | ((with_reducible apply sm_vals); first | (with_reducible assumption) | (simp <;> fail) | rfl) | ((with_reducible apply sm_c); first | (with_reducible assumption) | rfl) | ((with_reducible apply sm_l); rfl)))))) (hA : ∀ e, (A.den e).setIfInBounds off (v.den e) = A'.den e := by (fail_if_success (with_reducible apply trap_set)); repeat (first | (with_reducible exact st_vals) | ((with_reducible apply st_valsz); rfl) | (with_reducible exact st_l) | (with_reducible exact st_c) | ((with_reducible apply set_appR); (· exact (by (fail_if_success (with_reducible apply trap_sm)); first | ((with_reducible apply sm_vals); first | (with_reducible assumption) | (simp <;> fail) | rfl) | ((with_reducible apply sm_c); first | (with_reducible assumption) | rfl) | ((with_reducible apply sm_l); rfl))); (· rfl)) | ((with_reducible apply set_appL); (· exact (by (fail_if_success (with_reducible apply trap_sz)); first | ((with_reducible apply sz_vals); exact (by first | omega | (simp; omega) | (simp <;> fail) | omega)) | ((with_reducible apply sz_l); (first | decide | (simp only [List.length_set, List.length_cons, List.length_nil]; omega))) | ((with_reducible apply sz_c); decide)))))) :
    OpG C Try.prog ops o S ⟨opT x ++ opT y, n :: (A'.sup ++ rb), [], [(n, some (.blk n T A'))], []⟩ := by
  have hi := tabAll_look sizT_ok hi'
  refine opG_mk hg fun S' h1 h2 h3 e a w hS => ?_
  have hev : a.eval x = .pointer (some ⟨(e n).b, off, none⟩) := hS.ev ((ev_like h1 fun _ h => List.mem_append_left _ h).trans hx)
  have hevy : a.eval y = v.den e := hS.ev ((ev_like h1 fun _ h => List.mem_append_right _ h).trans hy)
  have hr' := (h2 n (by simp)).trans hr
  obtain ⟨fr, hb, hfr⟩ := res_blk hS hr'
  rw [hfr rfl] at hb
  obtain ⟨hcs, hone⟩ := hv S' e a w hS (fun q hq => h2 q (by simp [hq]))
  have hc : w.cell? ⟨(e n).b, off, none⟩ = some ((A.den e)[off]'(hoff e)) := (cell_of_row w _ off _ _ _ hb).trans (by simp [hoff e])
  have hf : w.frozen? ⟨(e n).b, off, none⟩ = false := frozen_of_row w _ off _ _ hb
  refine wp_skip' (w' := w.setCell ⟨(e n).b, off, none⟩ (v.den e)) ?_ ⟨e, ?_⟩
  · cases hq : Try.prog.info? ty with
    | none => simp [hq] at hi
    | some i =>
      have hs : i.size = 1 := by simpa [hq] using hi
      simp [execOp, ho, hev, hevy, Instr.storeAt, Instr.sureAddr, storeVar, sizeOf, typeInfo, hq, hs, hcs, storeCells, run_store Try.prog _ _ _ _ hone, hc, hf, Addr.add]
  · rw [hdst]
    refine hS.write hr' rfl rfl rfl (by simp [World.setCell]) ?_ (fun k hk => Below.heap_setCell w _ _ k hk)
    rw [← hA e]
    exact heap_setCell_same w _ off _ _ _ hb
/-! ### calls -/
/-- An object whose cells hang on names. -/
def CallPE (C : Ctx) (S : St) (rb : List Nat) (n T j : Nat) (vs : List SV) (A' : SA) (v : Value) : Prop := ∀ (S' : St) e a w, Holds C S' e a w → (∀ q ∈ rb, S'.res q = S.res q) → Calls Try.prog j (vs.map (·.den e)).toArray w (RetP w (e n).b T (A'.den e) v)
theorem callPE_0 {n T j : Nat} {vs : List SV} {A A' : SA} {v : Value} (hr : S.res n = some (.blk n T A)) (h : ∀ (e : Env) w, Blk w (e n).b (A.den e) T → Calls Try.prog j (vs.map (·.den e)).toArray w (RetP w (e n).b T (A'.den e) v)) : CallPE C S [n] n T j vs A' v := fun S' e a w hS hq => by
  obtain ⟨fr, hb, hfr⟩ := res_blk hS ((hq n (by simp)).trans hr)
  rw [hfr rfl] at hb
  exact h e w hb
theorem op_callPE {f : FuncId} {xs : Array Operand} {ats : Array TypeId} {vs : List SV} {rb : List Nat} {j n T : Nat} {A A' : SA} {v : Value} (ho : o.op = .call { callee := .value (.func f), args := xs, argTypes := ats }) (hg : o.guard = none) (hd : dstB o.dst C.nt = true) (hxs : EvS S xs.toList vs) (hc' : tabLook calT f = some j)
    (hr : S.res n = some (.blk n T A)) (hcon : CallPE C S rb n T j vs A' v) :
    OpG C Try.prog ops o S ⟨xs.toList.flatMap opT, n :: (A'.sup ++ rb), dw o.dst (.c v), [(n, some (.blk n T A'))], []⟩ := by
  refine opG_mk hg fun S' h1 h2 h3 e a w hS => ?_
  unfold Oper.wp
  rw [call_hop ho hxs hc' h1 hS]
  refine Calls.mono (hcon S' e a w hS fun q hq => h2 q (by simp [hq])) ?_
  rintro r w' ⟨rfl, hb, hx⟩
  exact ⟨e, (hS.writeX ((h2 n (by simp)).trans hr) hx hb).put hd (.c v)⟩
section
variable {l : List Oper} {t : List (Nat × SV)} {h : List (Nat × Option Res)} {d : Nat} {f j : FuncId} {xs : Array Operand} {ats : Array TypeId} {vs : List SV}
theorem walk1_callPE {K : St → Prop} (A' : SA) {n T : Nat} {A : SA} {vs' : List SV} (ho : o.op = .call { callee := .value (.func f), args := xs, argTypes := ats }) (hdn : o.dst = some d) (hg : o.guard = none) (hd : dstB o.dst C.nt = true) (hxs : EvS ⟨t, h⟩ xs.toList vs) (hp : vs = .p n 0 :: vs') (h1 : (St.mk t h).res n = some (.blk n T A)) (hc' : tabLook calT f = some j)
    (hK : ∃ rb v, CallPE C ⟨t, h⟩ rb n T j vs A' v ∧ Walk1 C Try.prog ops l ⟨(d, .c v) :: t, (n, some (.blk n T A')) :: h⟩ K) : Walk1 C Try.prog ops (o :: l) ⟨t, h⟩ K := by
  obtain ⟨rb, v, h2, h4⟩ := hK
  have := op_callPE (C := C) (ops := ops) ho hg hd hxs hc' h1 h2
  rw [hdn] at this
  exact ⟨_, this, rfl, h4⟩
theorem walk1_callPE0 {K : St → Prop} (A' : SA) {n T : Nat} {A : SA} {vs' : List SV} (ho : o.op = .call { callee := .value (.func f), args := xs, argTypes := ats }) (hdn : o.dst = none) (hg : o.guard = none) (hxs : EvS ⟨t, h⟩ xs.toList vs) (hp : vs = .p n 0 :: vs') (h1 : (St.mk t h).res n = some (.blk n T A)) (hc' : tabLook calT f = some j)
    (hK : ∃ rb v, CallPE C ⟨t, h⟩ rb n T j vs A' v ∧ Walk1 C Try.prog ops l ⟨t, (n, some (.blk n T A')) :: h⟩ K) : Walk1 C Try.prog ops (o :: l) ⟨t, h⟩ K := by
  obtain ⟨rb, v, h2, h4⟩ := hK
  have := op_callPE (C := C) (ops := ops) ho hg (by rw [hdn]; rfl) hxs hc' h1 h2
  rw [hdn] at this
  exact ⟨_, this, rfl, h4⟩
end
end Go.Proofs.Ytmpnkknocfaciaa
namespace Go.Proofs.Ytmpnkknocfaciaa
open Go.RowKit
set_option maxRecDepth 100000
variable {C : Ctx} {ops : Array Oper} {S : St} {o : Oper}
theorem op_loadsR {ty : TypeId} {x : Operand} {n off len sz m b : Nat} {T0 : TypeId} {k : IntKind} {L : List (BitVec b)} {d : TypeDesc} (ho : o.op = .load ty x) (hg : o.guard = none) (hd : dstB o.dst C.nt = true) (hx : S.ev x = some (.vp n off)) (hr : S.res n = some (.own n T0 sz len (valsL k L))) (hu' : tabLook undT ty = some d) (hda : d.isRow = true) (hi' : tabLook sizT ty = some m) (hm : 0 < m) (hb : off + m ≤ L.length) :
    OpG C Try.prog ops o S ⟨opT x, [n], dw o.dst (.c (.agg (vals k ((L.drop off).take m)))), [], []⟩ := by
  refine op_loadsV ho hg hd hx hr hu' hda hi' hm (by rw [valsL_length]; exact hb) ?_
  simp [valsL]
theorem op_eqT {ty yt : TypeId} {x y : Operand} {a b : Bool} (ho : o.op = .binOp .eql ty x y yt) (hg : o.guard = none) (hd : dstB o.dst C.nt = true) (hx : S.ev x = some (.c (.bool a))) (hy : S.ev y = some (.c (.bool b))) (hu' : tabLook undT ty = some .bool) : OpG C Try.prog ops o S ⟨opT x ++ opT y, [], dw o.dst (.c (.bool (a == b))), [], []⟩ :=
  op_two (v := .c (.bool (a == b))) hg hd hx hy fun e ρ w h1 h2 => by
    have h1' : ρ x = .bool a := h1
    have h2' : ρ y = .bool b := h2
    have hu := tabAll_look undT_ok hu'
    have hgd : (eqGuard .eql ty x y (.bool a) (.bool b)).run Try.prog w = .ok () w := by unfold eqGuard; rfl
    simp only [execOp, ho, h1', h2', Sem.run_bind, hgd, Result.andThen_ok, run_eql_bool w ty a b hu, Sem.run_pure]
    rfl
theorem op_neT {ty yt : TypeId} {x y : Operand} {a b : Bool} (ho : o.op = .binOp .neq ty x y yt) (hg : o.guard = none) (hd : dstB o.dst C.nt = true) (hx : S.ev x = some (.c (.bool a))) (hy : S.ev y = some (.c (.bool b))) (hu' : tabLook undT ty = some .bool) : OpG C Try.prog ops o S ⟨opT x ++ opT y, [], dw o.dst (.c (.bool (!(a == b)))), [], []⟩ :=
  op_two (v := .c (.bool (!(a == b)))) hg hd hx hy fun e ρ w h1 h2 => by
    have h1' : ρ x = .bool a := h1
    have h2' : ρ y = .bool b := h2
    have hu := tabAll_look undT_ok hu'
    have hgd : (eqGuard .neq ty x y (.bool a) (.bool b)).run Try.prog w = .ok () w := by unfold eqGuard; rfl
    simp only [execOp, ho, h1', h2', Sem.run_bind, hgd, Result.andThen_ok, run_neq_bool w ty a b hu, Sem.run_pure]
    rfl
/-- The same cells, told otherwise. -/
theorem ent_blkA {t : List (Nat × SV)} {h : List (Nat × Option Res)} (n : Nat) {T : TypeId} {A : SA} (A' : SA) {wr : Bool} (hr : (St.mk t h).res n = some (.blk n T A wr)) (hA : ∀ e, A.den e = A'.den e) : Ents C ⟨t, h⟩ ⟨t, (n, some (.blk n T A' wr)) :: h⟩ := fun e a w hS => by
  have hres : ∀ k r, (St.mk t ((n, some (.blk n T A' wr)) :: h)).res k = some r → ∃ r0, (St.mk t h).res k = some r0 ∧ r.foot e = r0.foot e ∧ (r0.ok e w → r.ok e w) ∧ r.wr = r0.wr := fun k r hk => by
    rw [St.res_cons] at hk
    split at hk
    · rename_i he
      cases hk
      subst he
      refine ⟨_, hr, rfl, fun ⟨fr, h1, h2⟩ => ⟨fr, by rw [← hA]; exact h1, h2⟩, rfl⟩
    · exact ⟨r, hk, rfl, fun h => h, rfl⟩
  refine ⟨e, hS.defers, hS.size, hS.tmp, fun k r hk => ?_, fun k r hk hw b hb => ?_, fun k m r r' hk hm hne hw b hb hb' => ?_, hS.frame⟩
  · obtain ⟨r0, h1, h2, h3, h4⟩ := hres k r hk
    exact h3 (hS.res k r0 h1)
  · obtain ⟨r0, h1, h2, h3, h4⟩ := hres k r hk
    exact hS.mine k r0 h1 (by rw [← h4]; exact hw) b (by rw [← h2]; exact hb)
  · obtain ⟨r0, h1, h2, h3, h4⟩ := hres k r hk
    obtain ⟨r1, g1, g2, g3, g4⟩ := hres m r' hm
    exact hS.sep k m r0 r1 h1 g1 hne (by rw [← h4]; exact hw) b (by rw [← h2]; exact hb) (by rw [← g2]; exact hb')
end Go.Proofs.Ytmpnkknocfaciaa
namespace Go.Proofs.Ytmpnkknocfaciaa
open Go.RowKit
set_option maxRecDepth 100000
variable {C : Ctx} {ops : Array Oper} {S : St} {o : Oper}
theorem op_eqNilG {x y : Operand} {ty yt e0 : TypeId} {len cap : Nat} (hu' : tabLook undT ty = some (.slice e0)) (ho : o.op = .binOp .eql ty x y yt) (hg : o.guard = none) (hd : dstB o.dst C.nt = true) (hx : S.ev x = some (.c (.slice none len cap))) (hy : S.ev y = some (.c (.slice none 0 0))) : OpG C Try.prog ops o S ⟨opT x ++ opT y, [], dw o.dst (.c (.bool true)), [], []⟩ :=
  op_two (v := .c (.bool true)) hg hd hx hy fun e ρ w h1 h2 => by
    have h1' : ρ x = .slice none len cap := h1
    have h2' : ρ y = .slice none 0 0 := h2
    have hu := tabAll_look undT_ok hu'
    simp [execOp, ho, h1', h2', binOp, eqGuard, SV.c, run_equal_slice_nil w ty e0 _ _ _ hu]
/-! ### a slice of its own and a value handed back, slices handed over -/
end Go.Proofs.Ytmpnkknocfaciaa
namespace Go.Proofs.Ytmpnkknocfaciaa
open Go.RowKit
set_option maxRecDepth 100000
/-! ### lists of rows -/
theorem flat_length {α β : Type} {f : α → List β} {sz : Nat} : ∀ (l : List α), (∀ a ∈ l, (f a).length = sz) → (l.flatMap f).length = l.length * sz
  | [], _ => by simp
  | a :: l, h => by
    rw [List.flatMap_cons, List.length_append, flat_length l fun b hb => h b (List.mem_cons_of_mem _ hb), h a List.mem_cons_self, List.length_cons, Nat.add_mul]
    omega
theorem flat_row {α β : Type} {f : α → List β} {sz : Nat} : ∀ (l : List α), (∀ a ∈ l, (f a).length = sz) → ∀ (i : Nat) a, l[i]? = some a → ((l.flatMap f).drop (i * sz)).take sz = f a
  | [], _, i, a, h => by simp at h
  | b :: l, hl, 0, a, h => by
    simp at h
    subst h
    rw [List.flatMap_cons, Nat.zero_mul, List.drop_zero, List.take_append_of_le_length (by rw [hl b List.mem_cons_self]; exact Nat.le_refl _), List.take_of_length_le (by rw [hl b List.mem_cons_self]; exact Nat.le_refl _)]
  | b :: l, hl, i + 1, a, h => by
    have hb := hl b List.mem_cons_self
    have := flat_row l (fun c hc => hl c (List.mem_cons_of_mem _ hc)) i a (by simpa using h)
    rw [List.flatMap_cons, show (i + 1) * sz = (f b).length + i * sz by rw [hb, Nat.add_mul]; omega, List.drop_append]
    simpa [List.drop_of_length_le] using this
theorem flat_get {α β : Type} {f : α → List β} {sz : Nat} (l : List α) (hl : ∀ a ∈ l, (f a).length = sz) (i k : Nat) (a : α) (h : l[i]? = some a) (hk : k < sz) : (l.flatMap f)[i * sz + k]? = (f a)[k]? := by
  rw [← flat_row l hl i a h, List.getElem?_take, if_pos hk, List.getElem?_drop]
theorem flat_take {α β : Type} {f : α → List β} (l : List α) (i : Nat) (a : α) (h : l[i]? = some a) : (l.take (i + 1)).flatMap f = (l.take i).flatMap f ++ f a := by
  rw [List.take_add_one, h]
  simp
theorem flat_cut {α β : Type} {f : α → List β} {sz : Nat} : ∀ (l : List α), (∀ a ∈ l, (f a).length = sz) → ∀ k, (l.take k).flatMap f = (l.flatMap f).take (k * sz) ∧ (l.drop k).flatMap f = (l.flatMap f).drop (k * sz)
  | [], _, k => by simp
  | a :: l, _, 0 => by simp
  | a :: l, hl, k + 1 => by
    have ha := hl a List.mem_cons_self
    obtain ⟨h1, h2⟩ := flat_cut l (fun c hc => hl c (List.mem_cons_of_mem _ hc)) k
    rw [List.take_succ_cons, List.drop_succ_cons, List.flatMap_cons, List.flatMap_cons, h1, h2, show (k + 1) * sz = (f a).length + k * sz by rw [ha, Nat.add_mul]; omega, List.take_length_add_append, List.drop_length_add_append]
    exact ⟨rfl, rfl⟩
variable {C : Ctx} {ops : Array Oper} {S : St} {o : Oper}
/-! ### rows read -/
theorem op_loadsF {ty : TypeId} {x : Operand} {v : Value} {n off sz m : Nat} {xs : List Value} {B : List Value} {d : TypeDesc} (ho : o.op = .load ty x) (hg : o.guard = none) (hd : dstB o.dst C.nt = true) (hx : S.ev x = some (.c (ptrV v off))) (hm0 : C.m = []) (hf : RdV C.w0 sz v n xs) (hu' : tabLook undT ty = some d) (hda : d.isRow = true) (hi' : tabLook sizT ty = some m) (hm : 0 < m) (hb : off + m ≤ xs.length) (hB : (xs.drop off).take m = B) :
    OpG C Try.prog ops o S ⟨opT x, [], dw o.dst (.c (.agg B.toArray)), [], []⟩ := by
  have hu := tabAll_look undT_ok hu'
  have hi := tabAll_look sizT_ok hi'
  have hBl : B.length = m := by rw [← hB, List.length_take, List.length_drop]; omega
  have := op_value (C := C) (P := Try.prog) (ops := ops) (S := S) hg hd [x] [] (.c (.agg B.toArray)) fun S' e a w hS h1 h2 => by
    have hev : a.eval x = ptrV v off := hS.ev ((h1 x (by simp)).trans hx)
    obtain ⟨hl, ad, c, rfl, hr⟩ := hf
    rcases hr with h3 | ⟨b, o2, rfl, hr⟩
    · subst h3; omega
    · have hra : w.rangeAt b (o2 + off) B := fun j u hj => by
        have hjl : j < m := by have := (List.getElem?_eq_some_iff.1 hj).1; omega
        rw [← hB, List.getElem?_take, if_pos hjl, List.getElem?_drop] at hj
        have hc := hr (off + j) u hj
        have hlt := World.block_lt_of_cell? C.w0 ⟨b, o2 + (off + j), none⟩ hc
        rw [Nat.add_assoc, World.cell?_of_block (hS.frame.block b hlt (by rw [hm0]; simp))]
        exact hc
      have hl := run_loadVar_mid (P := Try.prog) w b (o2 + off) ty B d hra hu hda (by rw [hi, hBl])
      have hev : a.eval x = .pointer (some ⟨b, o2 + off, none⟩) := hev
      simp [execOp, ho, hev, Instr.loadAt, Instr.sureAddr, Sem.run_bind, hl, SV.c]
  simpa using this
/-! ### addresses of fields -/
theorem op_fldF {ty f off k sz n size : Nat} {v : Value} {xs : List Value} {x : Operand} (ho : o.op = .fieldAddr ty x f) (hg : o.guard = none) (hd : dstB o.dst C.nt = true) (hx : S.ev x = some (.c (ptrV v off))) (hf : RdV C.w0 size v n xs) (hn : 0 < n) (hk : tabLook fldT (ty * 100 + f) = some (k, sz)) (hz : (decide (f < 100) && decide (sz ≠ 0)) = true) {off' : Nat} (hoff : off + k = off') :
    OpG C Try.prog ops o S ⟨opT x, [], dw o.dst (.c (ptrV v off')), [], []⟩ := by
  subst hoff
  obtain ⟨hl, ad, c, rfl, hr⟩ := hf
  rcases hr with h3 | ⟨b, o2, rfl, hr⟩
  · omega
  simp only [Bool.and_eq_true, decide_eq_true_eq] at hz
  have hkk := tabAll_look fldT_ok hk
  obtain ⟨fs, fd, hu, hf, h1, h2⟩ := hkk
  rw [show (ty * 100 + f) / 100 = ty by omega] at hu
  rw [show (ty * 100 + f) % 100 = f by omega] at hf
  simp only at h1
  subst h1
  refine op_one (v := .c (ptrV (.slice (some ⟨b, o2, none⟩) n c) (off + fd.offset))) hg hd hx fun e ρ w h1 => ?_
  have h1' : ρ x = .pointer (some ⟨b, o2 + off, none⟩) := h1
  have hs : (sizeOf fd.type).run Try.prog w = .ok sz w := by
    cases hq : Try.prog.info? fd.type with
    | none => simp [hq] at h2
    | some i =>
      have hi : i.size = sz := by simpa [hq] using h2
      simp [sizeOf, typeInfo, hq, hi]
  simp only [execOp, ho, h1', Instr.fieldAt, fieldPlace, Sem.run_bind, run_underlying hu w, Result.andThen_ok, hf, Sem.run_pure, Instr.sureAddr, Sem.run_ite, hs, if_neg hz.2, add_place, Nat.add_assoc]
  rfl
/-! ### a row appended -/
theorem op_appendE {x y : Operand} {t T sz len by_ m n q cap : Nat} {T0 : TypeId} {wr : Bool} {xs news : List Value} {A : Array Value} {ty : TypeId} {pos : String} {after : Array Edge} (hd : dstB (some n) C.nt = true) (hx : S.ev x = some (.v m)) (hr : S.res m = some (.own m T sz len xs)) (hy : S.ev y = some (.s q 0 1 cap))
    (hq : S.res q = some (.blk q T0 (.c news.toArray) wr)) (hu' : tabLook undT t = some (.slice T)) (hs' : tabLook sizT T = some sz) (hy' : tabLook bytT T = some by_) (hz' : tabLook zerT T = some A) (hA : A.size = sz) (hsz : 0 < sz) (hl2 : news.length = sz) (h1 : ∀ u ∈ news, u.oneCell' = true)
    (hmax : len + 1 ≤ 1099511627776 ∧ (len + 1) * by_ ≤ 140737488355328) (hmn : Nat.beq m n = false) :
    OpG C Try.prog ops ⟨some n, .call { callee := .builtin .append, args := #[x, y], argTypes := #[t, t] }, ty, pos, after, none⟩ S ⟨opT x ++ opT y, m :: ((SV.s q 0 1 cap).sup ++ [q]), [(n, .v n)], [(m, none), (n, some (.own n T sz (len + 1) (xs ++ news)))], [n]⟩ := by
  refine op_append hd hx hr hy hu' hs' hy' hz' hA hsz ?_ h1 hmax hmn
  have := rdn_row (C := C) (S := S) (size := sz) (len := 1) (cap := cap) hq (by rw [List.size_toArray, hl2, Nat.one_mul])
  simpa using this
end Go.Proofs.Ytmpnkknocfaciaa
namespace Go.Proofs.Ytmpnkknocfaciaa
open Go.RowKit
set_option maxRecDepth 100000
/-- What is cut out of a slice of elements of sz cells. -/
def cutZ (sz : Nat) : Value → Nat → Nat → Value
  | .slice a _ c, lo, len => .slice (if c = lo then a else a.map (·.add (lo * sz))) len (c - lo)
  | v, _, _ => v
theorem FS.cutZ {w : World} {sz : Nat} {v : Value} {n : Nat} {xs : List Value} (h : FS w sz v n xs) {lo len : Nat} (hl : lo + len ≤ n) : FS w sz (cutZ sz v lo len) len ((xs.drop (lo * sz)).take (len * sz)) := by
  obtain ⟨⟨hlen, a, c, hv, hr⟩, a', c', hv', hc⟩ := h
  rw [hv] at hv'
  cases hv'
  subst hv
  have hm : lo * sz + len * sz ≤ n * sz := by rw [← Nat.add_mul]; exact Nat.mul_le_mul_right _ hl
  refine ⟨⟨by rw [List.length_take, List.length_drop]; omega, _, _, rfl, ?_⟩, _, _, rfl, by omega⟩
  rcases hr with h0 | ⟨b, off, rfl, hr⟩
  · exact .inl (by omega)
  · by_cases hcl : c = lo
    · left; omega
    · refine .inr ⟨b, off + lo * sz, by rw [if_neg hcl]; simp [add_place], fun j u hu => ?_⟩
      rw [List.getElem?_take] at hu
      split at hu
      · rw [List.getElem?_drop] at hu
        rw [Nat.add_assoc]
        exact hr _ u hu
      · cases hu
variable {C : Ctx} {ops : Array Oper} {S : St} {o : Oper}
theorem op_storesC {ty : TypeId} {x y : Operand} {n : Nat} {T : TypeId} {A : SA} {a : Array Value} {m : Nat} (ho : o.op = .store ty x y) (hg : o.guard = none) (hdst : o.dst = none) (hx : S.ev x = some (.p n 0)) (hy : S.ev y = some (.c (.agg a))) (hr : S.res n = some (.blk n T A))
    (hi' : tabLook sizT ty = some m) (hsz : a.size = m) (h1c : a.all (·.oneCell') = true) (hm : ∀ e, (A.den e).size = m := by (fail_if_success (with_reducible apply trap_sm)); first | ((with_reducible apply sm_vals); exact (by first | omega | (simp; omega) | (simp <;> fail) | omega)) | ((with_reducible apply sm_c); first | (with_reducible assumption) | rfl) | ((with_reducible apply sm_l); rfl)) :
    OpG C Try.prog ops o S ⟨opT x ++ opT y, n :: (SA.c a).sup, [], [(n, some (.blk n T (.c a)))], []⟩ := op_stores ho hg hdst hx hy hr hi' hm (fun _ => rfl) (fun _ => hsz) (fun _ => h1c)
end Go.Proofs.Ytmpnkknocfaciaa
namespace Go.Proofs.Ytmpnkknocfaciaa
open Go.RowKit
set_option maxRecDepth 100000
section
variable {C : Ctx} {ops : Array Oper} {S : St} {o : Oper} {x y : Operand} {ty yt : TypeId}
end
section
variable {C : Ctx} {ops : Array Oper} {S : St} {o : Oper}
end
end Go.Proofs.Ytmpnkknocfaciaa
