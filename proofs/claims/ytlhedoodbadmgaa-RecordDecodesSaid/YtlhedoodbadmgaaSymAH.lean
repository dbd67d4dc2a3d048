/- A struct with an own slice in it and a value, handed back together; rows that hang on a slice. No condition. -/
import Derived.Test.YtlhedoodbadmgaaSymAG
namespace Go.Proofs.Ytlhedoodbadmgaa
open Go.RowKit
set_option maxRecDepth 100000
set_option maxHeartbeats 1000000
def SV.fn (n : Nat) (F : Value → Value) : SV := ⟨21, fun e => F (e n).v, [n], fun e e' h => by simp only [h n (by simp)]⟩
def SA.fn (n : Nat) (G : Value → Array Value) : SA := ⟨21, fun e => G (e n).v, [n], fun e e' h => by simp only [h n (by simp)]⟩
/-- A slice as it is; anything else: none. -/
def slV : Value → Value
  | .slice a n c => .slice a n c
  | _ => .slice none 0 0
theorem slV_one (v : Value) : (slV v).oneCell' = true ∧ (slV v).cells = #[slV v] := by cases v <;> exact ⟨rfl, rfl⟩
theorem slV_slice {v : Value} (h : ∃ a n c, v = .slice a n c) : slV v = v := by obtain ⟨a, n, c, rfl⟩ := h; rfl
/-- Handed back: a struct that holds a new slice of these cells, and a value. -/
def RetG (w : World) (T size len : Nat) (xs : List Value) (G : Value → Array Value) (u : Value) : Ending → World → Prop := fun r w' => ∃ v, r = .returned (.tuple #[.agg (G v), u]) ∧ w'.ownsRow w.heap.size T size v len xs ∧ Below w.heap.size w w'
section
variable {C : Ctx} {ops : Array Oper} {S : St} {o : Oper}
theorem own_slice {w : World} {b T size len : Nat} {v : Value} {xs : List Value} (h : w.ownsRow b T size v len xs) : ∃ a c, v = .slice a len c := by
  rcases h.2 with ⟨rfl, h0⟩ | ⟨g, cap, cur, rfl, _⟩
  · exact ⟨none, 0, by rw [h0]⟩
  · exact ⟨_, _, rfl⟩
theorem fin_GX {q nt n2 T size len : Nat} {xs : List Value} {w0 w1 : World} {m : List Nat} {G : Value → Array Value} {V : SV} {u : Value} (hF : (Ctx.mk n2 w0 []).frame w1) (hm : ∀ x ∈ m, (Ctx.mk n2 w0 []).mine x) (hr : S.res q = some (.own q T size len xs)) (hV : ∀ e : Env, (∃ a c, (e q).v = .slice a len c) → V.den e = .tuple #[.agg (G (e q).v), u]) : ∀ e a w, Holds ⟨nt, w1, m⟩ S e a w → RetG w0 T size len xs G u (.returned (V.den e)) w := fun e a w hS => by
  have hmm : ∀ x ∈ m, w0.heap.size ≤ x := fun x hx => (hm x hx).elim id fun h => by cases h
  have hok : w.ownsRow 0 T size (e q).v len xs := hS.res q _ hr
  refine ⟨(e q).v, by rw [hV e (own_slice hok)], ⟨hok.1, ?_⟩, Below.joinX (hF.below rfl) (Nat.le_refl _) hS.frame.belowX hmm⟩
  rcases hok.2 with h | ⟨g, cap, cur, hv, _, h⟩
  · exact .inl h
  · have : w0.heap.size ≤ g := by
      rcases hS.mine q _ hr rfl g (by show (e q).v.ownBlock = some g; rw [hv]; rfl) with h | h
      · exact Nat.le_trans hF.size h
      · exact hmm g h
    exact .inr ⟨g, cap, cur, hv, this, h⟩
theorem fin_GX0 {nt n2 T size : Nat} {w0 w1 : World} {m : List Nat} {G : Value → Array Value} {V : SV} {u : Value} (hF : (Ctx.mk n2 w0 []).frame w1) (hm : ∀ x ∈ m, (Ctx.mk n2 w0 []).mine x) (hV : ∀ e : Env, V.den e = .tuple #[.agg (G (.slice none 0 0)), u]) : ∀ e a w, Holds ⟨nt, w1, m⟩ S e a w → RetG w0 T size 0 [] G u (.returned (V.den e)) w := fun e a w hS => by
  have hmm : ∀ x ∈ m, w0.heap.size ≤ x := fun x hx => (hm x hx).elim id fun h => by cases h
  exact ⟨.slice none 0 0, by rw [hV e], ⟨by simp, .inl ⟨rfl, rfl⟩⟩, Below.joinX (hF.below rfl) (Nat.le_refl _) hS.frame.belowX hmm⟩
theorem callM_ow {j : FuncId} {vs : List SV} {v : Value} {q T size len : Nat} {xs : List Value} (hr : S.res q = some (.own q T size len xs)) (h : ∀ (e : Env) w, (∃ a c, (e q).v = .slice a len c) → Calls Try.prog j (vs.map (·.den e)).toArray w fun r w' => r = .returned v ∧ Below w.heap.size w w') : CallM C S [q] j vs v := fun S' e a w hS hq => h e w (own_slice (hS.res q _ ((hq q (by simp)).trans hr)))
/-- The same cells told otherwise, as a slice is one. -/
theorem ent_blkO {t : List (Nat × SV)} {h : List (Nat × Option Res)} {n q : Nat} {T T0 size len : Nat} {xs : List Value} {A : SA} (A' : SA) {wr : Bool} (hr : (St.mk t h).res n = some (.blk n T A wr)) (hq : (St.mk t h).res q = some (.own q T0 size len xs)) (hA : ∀ e : Env, (∃ a c, (e q).v = .slice a len c) → A.den e = A'.den e) : Ents C ⟨t, h⟩ ⟨t, (n, some (.blk n T A' wr)) :: h⟩ := fun e a w hS => by
  have hsl := hA e (own_slice (hS.res q _ hq))
  have hres : ∀ k r, (St.mk t ((n, some (.blk n T A' wr)) :: h)).res k = some r → ∃ r0, (St.mk t h).res k = some r0 ∧ r.foot e = r0.foot e ∧ (r0.ok e w → r.ok e w) ∧ r.wr = r0.wr := fun k r hk => by
    rw [St.res_cons] at hk
    split at hk
    · rename_i he
      cases hk
      subst he
      refine ⟨_, hr, rfl, fun hok => ?_, rfl⟩
      obtain ⟨fr, h1, h2⟩ := hok
      exact ⟨fr, by rw [← hsl]; exact h1, h2⟩
    · exact ⟨r, hk, rfl, id, rfl⟩
  refine ⟨e, hS.defers, hS.size, hS.tmp, fun k r hk => ?_, fun k r hk hw b hb => ?_, fun k k' r r' hk hk' hne hw b hb hb' => ?_, hS.frame⟩
  · obtain ⟨r0, h1, _, h3, _⟩ := hres k r hk
    exact h3 (hS.res k r0 h1)
  · obtain ⟨r0, h1, h2, _, h4⟩ := hres k r hk
    exact hS.mine k r0 h1 (h4 ▸ hw) b (h2 ▸ hb)
  · obtain ⟨r0, h1, h2, _, h4⟩ := hres k r hk
    obtain ⟨r1, g1, g2, _, _⟩ := hres k' r' hk'
    exact hS.sep k k' r0 r1 h1 g1 hne (h4 ▸ hw) b (h2 ▸ hb) (g2 ▸ hb')
def CallG (C : Ctx) (S : St) (rb : List Nat) (j : FuncId) (vs : List SV) (T size len : Nat) (xs : List Value) (G : Value → Array Value) (u : Value) : Prop := ∀ (S' : St) e a w, Holds C S' e a w → (∀ q ∈ rb, S'.res q = S.res q) → Calls Try.prog j (vs.map (·.den e)).toArray w (RetG w T size len xs G u)
theorem callG_f {j : FuncId} {vs : List SV} {T size len : Nat} {xs : List Value} {G : Value → Array Value} {u : Value} {d : List (BitVec 8)} {ns1 : List Nat} {v1 : SV} (h1 : FSQ C S ns1 v1 d) (h : ∀ (e : Env) w, FS w 1 (v1.den e) d.length (valsL .u8 d) → Calls Try.prog j (vs.map (·.den e)).toArray w (RetG w T size len xs G u)) : CallG C S ns1 j vs T size len xs G u := fun S' e a w hS hq => h e w (h1 S' e a w hq hS)
theorem op_callG {f : FuncId} {xs : Array Operand} {ats : Array TypeId} {vs : List SV} {rb : List Nat} {j n T size len : Nat} {ys : List Value} {G : Value → Array Value} {u : Value} (ho : o.op = .call { callee := .value (.func f), args := xs, argTypes := ats }) (hdn : o.dst = some n) (hg : o.guard = none) (hd : dstB o.dst C.nt = true) (hxs : EvS S xs.toList vs) (hc' : tabLook calT f = some j) (hcon : CallG C S rb j vs T size len ys G u) :
    OpG C Try.prog ops o S ⟨xs.toList.flatMap opT, rb, [(n, .tup [.row (.fn n G), .c u])], [(n, some (.own n T size len ys))], [n]⟩ := by
  refine opG_mk hg fun S' h1 h2 h3 e a w hS => ?_
  unfold Oper.wp
  rw [call_hop ho hxs hc' h1 hS]
  refine Calls.mono (hcon S' e a w hS h2) ?_
  rintro r w' ⟨v, rfl, hown, hb⟩
  have := (hS.ownNew (n := n) (h3 n (by simp)) hb hown).put hd (.tup [.row (.fn n G), .c u])
  have hden : (SV.tup [.row (.fn n G), .c u]).den (e.set n ⟨0, 0, v⟩) = .tuple #[.agg (G v), u] := by
    show Value.tuple ([SV.row (.fn n G), SV.c u].map (·.den (e.set n ⟨0, 0, v⟩))).toArray = _
    simp only [List.map_cons, List.map_nil, SV.row, SA.fn, SV.c, Env.set_self]
  rw [hden] at this
  rw [hdn] at this ⊢
  exact ⟨_, this⟩
section
variable {l : List Oper} {t : List (Nat × SV)} {h : List (Nat × Option Res)} {d : Nat} {f j : FuncId} {xs : Array Operand} {ats : Array TypeId} {vs : List SV}
theorem walk1_callG {K : St → Prop} (ho : o.op = .call { callee := .value (.func f), args := xs, argTypes := ats }) (hdn : o.dst = some d) (hg : o.guard = none) (hd : dstB o.dst C.nt = true) (hf : freshB ⟨t, h⟩ d = true) (hxs : EvS ⟨t, h⟩ xs.toList vs) (hc' : tabLook calT f = some j)
    (hK : ∃ rb T size len ys G u, CallG C ⟨t, h⟩ rb j vs T size len ys G u ∧ Walk1 C Try.prog ops l ⟨(d, .tup [.row (.fn d G), .c u]) :: t, (d, some (.own d T size len ys)) :: h⟩ K) : Walk1 C Try.prog ops (o :: l) ⟨t, h⟩ K := by
  obtain ⟨rb, T, size, len, ys, G, u, h1, h2⟩ := hK
  exact walk1_n (op_callG (C := C) (ops := ops) ho hdn hg hd hxs hc' h1) hf h2
end
theorem callNL_1 {T j sz m : Nat} {vs : List SV} {cells : Value → Array Value} {K : World → Value → Prop} {ns : List Nat} {v1 : SV} {xs : List Value} (h1 : RdN C S ns sz v1 m xs) (h : ∀ (e : Env) w, RdV w sz (v1.den e) m xs → Calls Try.prog j (vs.map (·.den e)).toArray w (RetNL w T cells K)) : CallNL C S ns T j vs cells K := fun S' e a w hS hq => h e w (h1 S' e a w hq hS)
/-- Such a row, stored whole, and read whole. -/
theorem op_storeG {ty : TypeId} {x y : Operand} {n q : Nat} {T : TypeId} {A : SA} {G : Value → Array Value} {m : Nat} (ho : o.op = .store ty x y) (hg : o.guard = none) (hdst : o.dst = none) (hx : S.ev x = some (.p n 0)) (hy : S.ev y = some (.row (.fn q G))) (hr : S.res n = some (.blk n T A))
    (hi' : tabLook sizT ty = some m) (hsz : ∀ v, (G v).size = m) (h1c : ∀ v, (G v).all (·.oneCell') = true) (hm : ∀ e, (A.den e).size = m := by (fail_if_success (with_reducible apply trap_sm)); first | ((with_reducible apply sm_vals); exact (by first | omega | (simp; omega) | (simp <;> fail) | omega)) | ((with_reducible apply sm_c); first | (with_reducible assumption) | rfl) | ((with_reducible apply sm_l); rfl)) :
    OpG C Try.prog ops o S ⟨opT x ++ opT y, n :: (SA.fn q G).sup, [], [(n, some (.blk n T (.fn q G)))], []⟩ := op_stores ho hg hdst hx hy hr hi' hm (fun _ => rfl) (fun e => hsz _) (fun e => h1c _)
theorem op_loadsG {ty : TypeId} {x : Operand} {n q : Nat} {T : TypeId} {G : Value → Array Value} {wr : Bool} {d : TypeDesc} {m : Nat} (ho : o.op = .load ty x) (hg : o.guard = none) (hd : dstB o.dst C.nt = true) (hx : S.ev x = some (.p n 0)) (hr : S.res n = some (.blk n T (.fn q G) wr))
    (hu' : tabLook undT ty = some d) (hda : d.isRow = true) (hi' : tabLook sizT ty = some m) (hsz : ∀ v, (G v).size = m) : OpG C Try.prog ops o S ⟨opT x, n :: (SV.row (.fn q G)).sup, dw o.dst (.row (.fn q G)), [], []⟩ := op_loads ho hg hd hx hr hu' hda hi' (fun e => hsz _) (fun _ => rfl)
end
/-! ### a row handed back in a cell, with a value -/
theorem res_cellS {C : Ctx} {S : St} {fn : Func} {t1 t2 : Tmp} {ty1 : TypeId} {n1 m1 : Nat} {T1 : TypeId} {A1 : SA} {u : Value} {wr1 : Bool} {d1 : TypeDesc} (h : fn.results = #[.cell t1 ty1, .tmp t2]) (hv1 : S.tmp t1 = some (.p n1 0)) (hr1 : S.res n1 = some (.blk n1 T1 A1 wr1)) (hv2 : S.tmp t2 = some (.c u))
    (hu1 : tabLook undT ty1 = some d1) (hd1 : d1.isRow = true) (hi1 : tabLook sizT ty1 = some m1) (hm1 : ∀ e, (A1.den e).size = m1) : ∀ e a w, Holds C S e a w → (results fn a.tmps).run Try.prog w = .ok ((SV.tup [.row A1, .c u]).den e) w := fun e a w hS => by
  have hu := tabAll_look undT_ok hu1
  have hi := tabAll_look sizT_ok hi1
  obtain ⟨fr, hb, _⟩ := res_blk hS hr1
  have hp1 : a.tmps.getD t1 undef = .pointer (some ⟨(e n1).b, 0, none⟩) := getD_of (hS.tmp t1 _ hv1)
  have hp2 : a.tmps.getD t2 undef = u := getD_of (hS.tmp t2 _ hv2)
  have hp1' : a.tmps[t1]?.getD undef = .pointer (some ⟨(e n1).b, 0, none⟩) := by simpa using hp1
  have hp2' : a.tmps[t2]?.getD undef = u := by simpa using hp2
  have hl := run_loadVar_row (P := Try.prog) w (e n1).b T1 ty1 (A1.den e) fr d1 hb hu (by cases d1 <;> simp_all) (by rw [hi, hm1 e])
  simp [results, h, hp1', hp2', asAddr, hl]
  rfl
end Go.Proofs.Ytlhedoodbadmgaa
