/- Structs built of parts of which some are slices of their own. No condition. A struct with an own slice in it and a value, handed back together; rows that hang on a slice. No condition. A slice of its own handed in, grown in place or anew, and handed back. No condition. A struct with an own slice in it, handed back alone. No condition. -/
import Derived.Test.YtihbiejgebmeaaaSymAEF
namespace Go.Proofs.Ytihbiejgebmeaaa
open Go.RowKit
set_option maxRecDepth 100000
set_option maxHeartbeats 1000000
section
variable {C : Ctx} {ops : Array Oper} {S : St} {o : Oper}
theorem op_buildC {ty : TypeId} {parts : List (Nat × Operand)} {vs : List Value} {fs : Array Field} {Z : Array Value} (R : Array Value) (ho : o.op = .build ty parts.toArray) (hg : o.guard = none) (hd : dstB o.dst C.nt = true) (hx : (parts.map (·.2)).map S.ev = vs.map fun v => some (SV.c v)) (hu' : tabLook undT ty = some (.struct fs)) (hz' : tabLook zerT ty = some Z) (hss : (fs.all fun f => (tabLook sizT f.type).isSome) = true)
    (hf : Instr.fill (fun i => (fs.map fun f => (f.offset, (tabLook sizT f.type).getD 0))[i]?) Z ((parts.map (·.1)).zip vs) = some R) :
    OpG C Try.prog ops o S ⟨(parts.map (·.2)).flatMap opT, [], dw o.dst (.c (.agg R)), [], []⟩ := by
  have := op_value (C := C) (P := Try.prog) (ops := ops) (S := S) hg hd (parts.map (·.2)) [] (.c (.agg R)) fun S' e a w hS h1 h2 => by
    have hu := tabAll_look undT_ok hu'
    have hz := tabAll_look zerT_ok hz'
    have hev : ∀ (ps : List (Nat × Operand)) (us : List Value), (ps.map (·.2)).map S.ev = us.map (fun v => some (SV.c v)) → (∀ x ∈ ps.map (·.2), S'.ev x = S.ev x) → ps.map (fun p => (p.1, a.eval p.2)) = (ps.map (·.1)).zip us := by
      intro ps
      induction ps with
      | nil => intro us h _; cases us with
        | nil => rfl
        | cons u us => simp at h
      | cons p ps ih =>
        intro us h h3
        cases us with
        | nil => simp at h
        | cons u us =>
          simp only [List.map_cons, List.cons.injEq] at h
          have e1 : a.eval p.2 = u := hS.ev ((h3 p.2 (by simp)).trans h.1)
          simp only [List.map_cons, List.zip_cons_cons, e1]
          rw [ih us h.2 fun x hx => h3 x (by simp only [List.map_cons, List.mem_cons]; exact .inr hx)]
    have hev := hev parts vs hx h1
    obtain ⟨zv, hz3, hzc⟩ : ∃ zv, (zeroValue ty).run Try.prog w = .ok zv w ∧ zv.cells = Z := by
      cases hb : (Try.prog.info? ty) with
      | none => simp [hb] at hz
      | some i =>
        cases hc : i.zero with
        | none => simp [hb, hc] at hz
        | some zz => exact ⟨zz, by simp [zeroValue, typeInfo, hb, hc], by simpa [hb, hc] using hz⟩
    have hall : ∀ f ∈ fs.toList, ∃ sz, tabLook sizT f.type = some sz := fun f hf => by
      have := Array.all_eq_true_iff_forall_mem.1 hss f (by simpa using hf)
      exact Option.isSome_iff_exists.1 this
    have hmap : ∀ l : List Field, (∀ f ∈ l, ∃ sz, tabLook sizT f.type = some sz) → (l.mapM fun (f : Field) => do pure (f.offset, ← sizeOf f.type)).run Try.prog w = .ok (l.map fun f => (f.offset, (tabLook sizT f.type).getD 0)) w := by
      intro l
      induction l with
      | nil => intro _; rfl
      | cons f l ih =>
        intro h
        obtain ⟨sz, hsz⟩ := h f (by simp)
        simp only [List.mapM_cons, Sem.run_bind, run_sizeT hsz w, Result.andThen_ok, Sem.run_pure, ih fun g hg => h g (by simp [hg]), List.map_cons, hsz, Option.getD_some]
    have hmapA : (fs.mapM fun (f : Field) => do pure (f.offset, ← sizeOf f.type)).run Try.prog w = .ok (fs.map fun f => (f.offset, (tabLook sizT f.type).getD 0)) w := by
      rw [Array.mapM_eq_mapM_toList]
      have e1 : (fs.toList.map fun f => (f.offset, (tabLook sizT f.type).getD 0)).toArray = fs.map fun f => (f.offset, (tabLook sizT f.type).getD 0) := by
        apply Array.ext'; simp
      simp only [map_eq_pure_bind, Sem.run_bind, hmap fs.toList hall, Result.andThen_ok, Sem.run_pure, e1]
    simp only [execOp, ho, Instr.build, Sem.run_bind, hz3, Result.andThen_ok, run_underlying hu w, hmapA, hzc, List.map_toArray, hev, hf, Sem.run_pure]
    rfl
  simpa using this
end
end Go.Proofs.Ytihbiejgebmeaaa
namespace Go.Proofs.Ytihbiejgebmeaaa
open Go.RowKit
set_option maxRecDepth 100000
set_option maxHeartbeats 1000000
def SV.fn (n : Nat) (F : Value → Value) : SV := ⟨21, fun e => F (e n).v, [n], fun e e' h => by simp only [h n (by simp)]⟩
def SA.fn (n : Nat) (G : Value → Array Value) : SA := ⟨21, fun e => G (e n).v, [n], fun e e' h => by simp only [h n (by simp)]⟩
/-- A slice as it is; anything else: none. -/
def slV : Value → Value
  | .slice a n c => .slice a n c
  | _ => .slice none 0 0
theorem slV_one (v : Value) : (slV v).oneCell' = true ∧ (slV v).cells = #[slV v] := by cases v <;> exact ⟨rfl, rfl⟩
theorem slV_slice {v : Value} (h : ∃ a n c, v = .slice a n c) : slV v = v := by obtain ⟨a, n, c, rfl⟩ := h; rfl
/-- Handed back: a struct that holds a new slice of these cells, and a value. -/
def RetG (w : World) (T size len : Nat) (xs : List Value) (G : Value → Array Value) (u : Value) : Ending → World → Prop := fun r w' => ∃ v, r = .returned (.tuple #[.agg (G v), u]) ∧ w'.ownsRow w.heap.size T size v len xs ∧ Below w.heap.size w w'
section
variable {C : Ctx} {ops : Array Oper} {S : St} {o : Oper}
theorem own_slice {w : World} {b T size len : Nat} {v : Value} {xs : List Value} (h : w.ownsRow b T size v len xs) : ∃ a c, v = .slice a len c := by
  rcases h.2 with ⟨rfl, h0⟩ | ⟨g, cap, cur, rfl, _⟩
  · exact ⟨none, 0, by rw [h0]⟩
  · exact ⟨_, _, rfl⟩
theorem fin_G {n q nt T size len : Nat} {xs : List Value} {w0 : World} {G : Value → Array Value} {V : SV} {u : Value} (hr : S.res q = some (.own q T size len xs)) (hV : ∀ e : Env, (∃ a c, (e q).v = .slice a len c) → V.den e = .tuple #[.agg (G (e q).v), u]) : ∀ e a w, Holds ⟨nt, w0, []⟩ S e a w → RetG w0 T size len xs G u (.returned (V.den e)) w := fun e a w hS => by
  obtain ⟨v, h1, h2, h3⟩ := fin_own hr e a w hS
  have hv : v = (e q).v := by cases h1; rfl
  subst hv
  exact ⟨(e q).v, by rw [hV e (own_slice h2)], h2, h3⟩
theorem fin_GX0 {nt n2 T size : Nat} {w0 w1 : World} {m : List Nat} {G : Value → Array Value} {V : SV} {u : Value} (hF : (Ctx.mk n2 w0 []).frame w1) (hm : ∀ x ∈ m, (Ctx.mk n2 w0 []).mine x) (hV : ∀ e : Env, V.den e = .tuple #[.agg (G (.slice none 0 0)), u]) : ∀ e a w, Holds ⟨nt, w1, m⟩ S e a w → RetG w0 T size 0 [] G u (.returned (V.den e)) w := fun e a w hS => by
  have hmm : ∀ x ∈ m, w0.heap.size ≤ x := fun x hx => (hm x hx).elim id fun h => by cases h
  exact ⟨.slice none 0 0, by rw [hV e], ⟨by simp, .inl ⟨rfl, rfl⟩⟩, Below.joinX (hF.below rfl) (Nat.le_refl _) hS.frame.belowX hmm⟩
theorem callM_ow {j : FuncId} {vs : List SV} {v : Value} {q T size len : Nat} {xs : List Value} (hr : S.res q = some (.own q T size len xs)) (h : ∀ (e : Env) w, (∃ a c, (e q).v = .slice a len c) → Calls Try.prog j (vs.map (·.den e)).toArray w fun r w' => r = .returned v ∧ Below w.heap.size w w') : CallM C S [q] j vs v := fun S' e a w hS hq => h e w (own_slice (hS.res q _ ((hq q (by simp)).trans hr)))
/-- The same cells told otherwise, as a slice is one. -/
theorem ent_blkO {t : List (Nat × SV)} {h : List (Nat × Option Res)} {n q : Nat} {T T0 size len : Nat} {xs : List Value} {A : SA} (A' : SA) {wr : Bool} (hr : (St.mk t h).res n = some (.blk n T A wr)) (hq : (St.mk t h).res q = some (.own q T0 size len xs)) (hA : ∀ e : Env, (∃ a c, (e q).v = .slice a len c) → A.den e = A'.den e) : Ents C ⟨t, h⟩ ⟨t, (n, some (.blk n T A' wr)) :: h⟩ := fun e a w hS => by
  have hsl := hA e (own_slice (hS.res q _ hq))
  have hres : ∀ k r, (St.mk t ((n, some (.blk n T A' wr)) :: h)).res k = some r → ∃ r0, (St.mk t h).res k = some r0 ∧ r.foot e = r0.foot e ∧ (r0.ok e w → r.ok e w) ∧ r.wr = r0.wr := fun k r hk => by
    rw [St.res_cons] at hk
    split at hk
    · rename_i he
      cases hk
      subst he
      refine ⟨_, hr, rfl, fun hok => ?_, rfl⟩
      obtain ⟨fr, h1, h2⟩ := hok
      exact ⟨fr, by rw [← hsl]; exact h1, h2⟩
    · exact ⟨r, hk, rfl, id, rfl⟩
  refine ⟨e, hS.defers, hS.size, hS.tmp, fun k r hk => ?_, fun k r hk hw b hb => ?_, fun k k' r r' hk hk' hne hw b hb hb' => ?_, hS.frame⟩
  · obtain ⟨r0, h1, _, h3, _⟩ := hres k r hk
    exact h3 (hS.res k r0 h1)
  · obtain ⟨r0, h1, h2, _, h4⟩ := hres k r hk
    exact hS.mine k r0 h1 (h4 ▸ hw) b (h2 ▸ hb)
  · obtain ⟨r0, h1, h2, _, h4⟩ := hres k r hk
    obtain ⟨r1, g1, g2, _, _⟩ := hres k' r' hk'
    exact hS.sep k k' r0 r1 h1 g1 hne (h4 ▸ hw) b (h2 ▸ hb) (g2 ▸ hb')
def CallG (C : Ctx) (S : St) (rb : List Nat) (j : FuncId) (vs : List SV) (T size len : Nat) (xs : List Value) (G : Value → Array Value) (u : Value) : Prop := ∀ (S' : St) e a w, Holds C S' e a w → (∀ q ∈ rb, S'.res q = S.res q) → Calls Try.prog j (vs.map (·.den e)).toArray w (RetG w T size len xs G u)
theorem op_callG {f : FuncId} {xs : Array Operand} {ats : Array TypeId} {vs : List SV} {rb : List Nat} {j n T size len : Nat} {ys : List Value} {G : Value → Array Value} {u : Value} (ho : o.op = .call { callee := .value (.func f), args := xs, argTypes := ats }) (hdn : o.dst = some n) (hg : o.guard = none) (hd : dstB o.dst C.nt = true) (hxs : EvS S xs.toList vs) (hc' : tabLook calT f = some j) (hcon : CallG C S rb j vs T size len ys G u) :
    OpG C Try.prog ops o S ⟨xs.toList.flatMap opT, rb, [(n, .tup [.row (.fn n G), .c u])], [(n, some (.own n T size len ys))], [n]⟩ := by
  refine opG_mk hg fun S' h1 h2 h3 e a w hS => ?_
  unfold Oper.wp
  rw [call_hop ho hxs hc' h1 hS]
  refine Calls.mono (hcon S' e a w hS h2) ?_
  rintro r w' ⟨v, rfl, hown, hb⟩
  have := (hS.ownNew (n := n) (h3 n (by simp)) hb hown).put hd (.tup [.row (.fn n G), .c u])
  have hden : (SV.tup [.row (.fn n G), .c u]).den (e.set n ⟨0, 0, v⟩) = .tuple #[.agg (G v), u] := by
    show Value.tuple ([SV.row (.fn n G), SV.c u].map (·.den (e.set n ⟨0, 0, v⟩))).toArray = _
    simp only [List.map_cons, List.map_nil, SV.row, SA.fn, SV.c, Env.set_self]
  rw [hden] at this
  rw [hdn] at this ⊢
  exact ⟨_, this⟩
section
variable {l : List Oper} {t : List (Nat × SV)} {h : List (Nat × Option Res)} {d : Nat} {f j : FuncId} {xs : Array Operand} {ats : Array TypeId} {vs : List SV}
theorem walk1_callG {K : St → Prop} (ho : o.op = .call { callee := .value (.func f), args := xs, argTypes := ats }) (hdn : o.dst = some d) (hg : o.guard = none) (hd : dstB o.dst C.nt = true) (hf : freshB ⟨t, h⟩ d = true) (hxs : EvS ⟨t, h⟩ xs.toList vs) (hc' : tabLook calT f = some j)
    (hK : ∃ rb T size len ys G u, CallG C ⟨t, h⟩ rb j vs T size len ys G u ∧ Walk1 C Try.prog ops l ⟨(d, .tup [.row (.fn d G), .c u]) :: t, (d, some (.own d T size len ys)) :: h⟩ K) : Walk1 C Try.prog ops (o :: l) ⟨t, h⟩ K := by
  obtain ⟨rb, T, size, len, ys, G, u, h1, h2⟩ := hK
  exact walk1_n (op_callG (C := C) (ops := ops) ho hdn hg hd hxs hc' h1) hf h2
end
/-- Such a row, stored whole, and read whole. -/
theorem op_storeG {ty : TypeId} {x y : Operand} {n q : Nat} {T : TypeId} {A : SA} {G : Value → Array Value} {m : Nat} (ho : o.op = .store ty x y) (hg : o.guard = none) (hdst : o.dst = none) (hx : S.ev x = some (.p n 0)) (hy : S.ev y = some (.row (.fn q G))) (hr : S.res n = some (.blk n T A))
    (hi' : tabLook sizT ty = some m) (hsz : ∀ v, (G v).size = m) (h1c : ∀ v, (G v).all (·.oneCell') = true) (hm : ∀ e, (A.den e).size = m := by (fail_if_success (with_reducible apply trap_sm)); first | ((with_reducible apply sm_vals); exact (by first | omega | (simp; omega) | (simp <;> fail) | omega)) | ((with_reducible apply sm_c); first | (with_reducible assumption) | rfl) | ((with_reducible apply sm_l); rfl)) :
    OpG C Try.prog ops o S ⟨opT x ++ opT y, n :: (SA.fn q G).sup, [], [(n, some (.blk n T (.fn q G)))], []⟩ := op_stores ho hg hdst hx hy hr hi' hm (fun _ => rfl) (fun e => hsz _) (fun e => h1c _)
theorem op_loadsG {ty : TypeId} {x : Operand} {n q : Nat} {T : TypeId} {G : Value → Array Value} {wr : Bool} {d : TypeDesc} {m : Nat} (ho : o.op = .load ty x) (hg : o.guard = none) (hd : dstB o.dst C.nt = true) (hx : S.ev x = some (.p n 0)) (hr : S.res n = some (.blk n T (.fn q G) wr))
    (hu' : tabLook undT ty = some d) (hda : d.isRow = true) (hi' : tabLook sizT ty = some m) (hsz : ∀ v, (G v).size = m) : OpG C Try.prog ops o S ⟨opT x, n :: (SV.row (.fn q G)).sup, dw o.dst (.row (.fn q G)), [], []⟩ := op_loads ho hg hd hx hr hu' hda hi' (fun e => hsz _) (fun _ => rfl)
end
/-! ### a row handed back in a cell, with a value -/
theorem res_cellS {C : Ctx} {S : St} {fn : Func} {t1 t2 : Tmp} {ty1 : TypeId} {n1 m1 : Nat} {T1 : TypeId} {A1 : SA} {u : Value} {wr1 : Bool} {d1 : TypeDesc} (h : fn.results = #[.cell t1 ty1, .tmp t2]) (hv1 : S.tmp t1 = some (.p n1 0)) (hr1 : S.res n1 = some (.blk n1 T1 A1 wr1)) (hv2 : S.tmp t2 = some (.c u))
    (hu1 : tabLook undT ty1 = some d1) (hd1 : d1.isRow = true) (hi1 : tabLook sizT ty1 = some m1) (hm1 : ∀ e, (A1.den e).size = m1) : ∀ e a w, Holds C S e a w → (results fn a.tmps).run Try.prog w = .ok ((SV.tup [.row A1, .c u]).den e) w := fun e a w hS => by
  have hu := tabAll_look undT_ok hu1
  have hi := tabAll_look sizT_ok hi1
  obtain ⟨fr, hb, _⟩ := res_blk hS hr1
  have hp1 : a.tmps.getD t1 undef = .pointer (some ⟨(e n1).b, 0, none⟩) := getD_of (hS.tmp t1 _ hv1)
  have hp2 : a.tmps.getD t2 undef = u := getD_of (hS.tmp t2 _ hv2)
  have hp1' : a.tmps[t1]?.getD undef = .pointer (some ⟨(e n1).b, 0, none⟩) := by simpa using hp1
  have hp2' : a.tmps[t2]?.getD undef = u := by simpa using hp2
  have hl := run_loadVar_row (P := Try.prog) w (e n1).b T1 ty1 (A1.den e) fr d1 hb hu (by cases d1 <;> simp_all) (by rw [hi, hm1 e])
  simp [results, h, hp1', hp2', asAddr, hl]
  rfl
end Go.Proofs.Ytihbiejgebmeaaa
namespace Go.Proofs.Ytihbiejgebmeaaa
open Go.RowKit
set_option maxRecDepth 100000
set_option maxHeartbeats 1000000
/-- Handed back: a slice of its own, its memory new or that of the one handed in; nothing else that lay there is changed. -/
def RetA (w : World) (g : Option Nat) (K : World → Value → Prop) : Ending → World → Prop := fun r w' => ∃ v', r = .returned v' ∧ K w' v' ∧ (∀ x, v'.ownBlock = some x → g = some x ∨ w.heap.size ≤ x) ∧ BelowX w w' g.toList
theorem belowX_nil {w w' : World} (h : BelowX w w' []) : Below w.heap.size w w' := ⟨h.os, h.tape, h.output, h.size, fun b hb => h.block b hb (by simp)⟩
/-- None handed in: all is new. -/
theorem RetA.own {w w' : World} {r : Ending} {T size len : Nat} {xs : List Value} (h : RetA w none (ownK T size len xs) r w') : RetOwn w T size len xs r w' := by
  obtain ⟨v, h1, h2, h3, h4⟩ := h
  refine ⟨v, h1, ⟨h2.1, ?_⟩, belowX_nil h4⟩
  rcases h2.2 with h | ⟨g, cap, cur, hv, _, h⟩
  · exact .inl h
  · refine .inr ⟨g, cap, cur, hv, ?_, h⟩
    rcases h3 g (by rw [hv]; rfl) with h | h
    · cases h
    · exact h
section
variable {C : Ctx} {ops : Array Oper} {S : St} {o : Oper}
section
variable {l : List Oper} {t : List (Nat × SV)} {h : List (Nat × Option Res)} {d q : Nat} {f j : FuncId} {xs : Array Operand} {ats : Array TypeId} {vs : List SV} {R R' : Res}
end
end
end Go.Proofs.Ytihbiejgebmeaaa
namespace Go.Proofs.Ytihbiejgebmeaaa
open Go.RowKit
set_option maxRecDepth 100000
set_option maxHeartbeats 1000000
/-- Handed back: a struct that holds a new slice of these cells. -/
def RetF (w : World) (T size len : Nat) (xs : List Value) (G : Value → Array Value) : Ending → World → Prop := fun r w' => ∃ v, r = .returned (.agg (G v)) ∧ w'.ownsRow w.heap.size T size v len xs ∧ Below w.heap.size w w'
section
variable {C : Ctx} {ops : Array Oper} {S : St} {o : Oper}
theorem fin_F {q nt T size len : Nat} {xs : List Value} {w0 : World} {G : Value → Array Value} {V : SV} (hr : S.res q = some (.own q T size len xs)) (hV : ∀ e : Env, (∃ a c, (e q).v = .slice a len c) → V.den e = .agg (G (e q).v)) : ∀ e a w, Holds ⟨nt, w0, []⟩ S e a w → RetF w0 T size len xs G (.returned (V.den e)) w := fun e a w hS => by
  obtain ⟨v, h1, h2, h3⟩ := fin_own hr e a w hS
  have hv : v = (e q).v := by cases h1; rfl
  subst hv
  exact ⟨(e q).v, by rw [hV e (own_slice h2)], h2, h3⟩
def CallF (C : Ctx) (S : St) (rb : List Nat) (j : FuncId) (vs : List SV) (T size len : Nat) (xs : List Value) (G : Value → Array Value) : Prop := ∀ (S' : St) e a w, Holds C S' e a w → (∀ q ∈ rb, S'.res q = S.res q) → Calls Try.prog j (vs.map (·.den e)).toArray w (RetF w T size len xs G)
theorem op_callF {f : FuncId} {xs : Array Operand} {ats : Array TypeId} {vs : List SV} {rb : List Nat} {j n T size len : Nat} {ys : List Value} {G : Value → Array Value} (ho : o.op = .call { callee := .value (.func f), args := xs, argTypes := ats }) (hdn : o.dst = some n) (hg : o.guard = none) (hd : dstB o.dst C.nt = true) (hxs : EvS S xs.toList vs) (hc' : tabLook calT f = some j) (hcon : CallF C S rb j vs T size len ys G) :
    OpG C Try.prog ops o S ⟨xs.toList.flatMap opT, rb, [(n, .row (.fn n G))], [(n, some (.own n T size len ys))], [n]⟩ := by
  refine opG_mk hg fun S' h1 h2 h3 e a w hS => ?_
  unfold Oper.wp
  rw [call_hop ho hxs hc' h1 hS]
  refine Calls.mono (hcon S' e a w hS h2) ?_
  rintro r w' ⟨v, rfl, hown, hb⟩
  have := (hS.ownNew (n := n) (h3 n (by simp)) hb hown).put hd (.row (.fn n G))
  have hden : (SV.row (.fn n G)).den (e.set n ⟨0, 0, v⟩) = .agg (G v) := by
    simp only [SV.row, SA.fn, Env.set_self]
  rw [hden] at this
  rw [hdn] at this ⊢
  exact ⟨_, this⟩
section
variable {l : List Oper} {t : List (Nat × SV)} {h : List (Nat × Option Res)} {d : Nat} {f j : FuncId} {xs : Array Operand} {ats : Array TypeId} {vs : List SV}
theorem walk1_callF {K : St → Prop} (ho : o.op = .call { callee := .value (.func f), args := xs, argTypes := ats }) (hdn : o.dst = some d) (hg : o.guard = none) (hd : dstB o.dst C.nt = true) (hf : freshB ⟨t, h⟩ d = true) (hxs : EvS ⟨t, h⟩ xs.toList vs) (hc' : tabLook calT f = some j)
    (hK : ∃ rb T size len ys G, CallF C ⟨t, h⟩ rb j vs T size len ys G ∧ Walk1 C Try.prog ops l ⟨(d, .row (.fn d G)) :: t, (d, some (.own d T size len ys)) :: h⟩ K) : Walk1 C Try.prog ops (o :: l) ⟨t, h⟩ K := by
  obtain ⟨rb, T, size, len, ys, G, h1, h2⟩ := hK
  exact walk1_n (op_callF (C := C) (ops := ops) ho hdn hg hd hxs hc' h1) hf h2
end
/-- A struct built of closed parts and of a slice of its own. -/
theorem op_buildF {ty : TypeId} {parts : List (Nat × Operand)} {svs : List SV} {vs : Value → List Value} {fs : Array Field} {Z : Array Value} {q T size len : Nat} {xs : List Value} (G : Value → Array Value) (ho : o.op = .build ty parts.toArray) (hg : o.guard = none) (hd : dstB o.dst C.nt = true) (hq : S.res q = some (.own q T size len xs)) (hx : (parts.map (·.2)).map S.ev = svs.map some) (hv : ∀ e : Env, svs.map (·.den e) = vs (e q).v) (hu' : tabLook undT ty = some (.struct fs)) (hz' : tabLook zerT ty = some Z) (hss : (fs.all fun f => (tabLook sizT f.type).isSome) = true)
    (hf : ∀ a c, Instr.fill (fun i => (fs.map fun f => (f.offset, (tabLook sizT f.type).getD 0))[i]?) Z ((parts.map (·.1)).zip (vs (.slice a len c))) = some (G (.slice a len c))) :
    OpG C Try.prog ops o S ⟨(parts.map (·.2)).flatMap opT, [q], dw o.dst (.row (.fn q G)), [], []⟩ := by
  refine opG_mk hg fun S' h1 h2 _ e a w hS => ?_
  refine wp_value (v := .agg (G (e q).v)) (w' := w) ?_ ⟨e, hS.put hd (.row (.fn q G))⟩
  have h1 : ∀ x ∈ parts.map (·.2), S'.ev x = S.ev x := fun x hx => ev_like h1 fun i hi => List.mem_flatMap.2 ⟨x, hx, hi⟩
  obtain ⟨ad, c, hsl⟩ := own_slice (hS.res q _ ((h2 q (by simp)).trans hq))
  have hu := tabAll_look undT_ok hu'
  have hz := tabAll_look zerT_ok hz'
  have hev : ∀ (ps : List (Nat × Operand)) (us : List SV), (ps.map (·.2)).map S.ev = us.map some → (∀ x ∈ ps.map (·.2), S'.ev x = S.ev x) → ps.map (fun p => (p.1, a.eval p.2)) = (ps.map (·.1)).zip (us.map (·.den e)) := by
    intro ps
    induction ps with
    | nil => intro us h _; cases us with
      | nil => rfl
      | cons u us => simp at h
    | cons p ps ih =>
      intro us h h3
      cases us with
      | nil => simp at h
      | cons u us =>
        simp only [List.map_cons, List.cons.injEq] at h
        have e1 : a.eval p.2 = u.den e := hS.ev ((h3 p.2 (by simp)).trans h.1)
        simp only [List.map_cons, List.zip_cons_cons, e1]
        rw [ih us h.2 fun x hx => h3 x (by simp only [List.map_cons, List.mem_cons]; exact .inr hx)]
  have hev := hev parts svs hx h1
  rw [hv e, hsl] at hev
  obtain ⟨zv, hz3, hzc⟩ : ∃ zv, (zeroValue ty).run Try.prog w = .ok zv w ∧ zv.cells = Z := by
    cases hb : (Try.prog.info? ty) with
    | none => simp [hb] at hz
    | some i =>
      cases hc : i.zero with
      | none => simp [hb, hc] at hz
      | some zz => exact ⟨zz, by simp [zeroValue, typeInfo, hb, hc], by simpa [hb, hc] using hz⟩
  have hall : ∀ f ∈ fs.toList, ∃ sz, tabLook sizT f.type = some sz := fun f hf => by
    have := Array.all_eq_true_iff_forall_mem.1 hss f (by simpa using hf)
    exact Option.isSome_iff_exists.1 this
  have hmap : ∀ l : List Field, (∀ f ∈ l, ∃ sz, tabLook sizT f.type = some sz) → (l.mapM fun (f : Field) => do pure (f.offset, ← sizeOf f.type)).run Try.prog w = .ok (l.map fun f => (f.offset, (tabLook sizT f.type).getD 0)) w := by
    intro l
    induction l with
    | nil => intro _; rfl
    | cons f l ih =>
      intro h
      obtain ⟨sz, hsz⟩ := h f (by simp)
      simp only [List.mapM_cons, Sem.run_bind, run_sizeT hsz w, Result.andThen_ok, Sem.run_pure, ih fun g hg => h g (by simp [hg]), List.map_cons, hsz, Option.getD_some]
  have hmapA : (fs.mapM fun (f : Field) => do pure (f.offset, ← sizeOf f.type)).run Try.prog w = .ok (fs.map fun f => (f.offset, (tabLook sizT f.type).getD 0)) w := by
    rw [Array.mapM_eq_mapM_toList]
    have e1 : (fs.toList.map fun f => (f.offset, (tabLook sizT f.type).getD 0)).toArray = fs.map fun f => (f.offset, (tabLook sizT f.type).getD 0) := by
      apply Array.ext'; simp
    simp only [map_eq_pure_bind, Sem.run_bind, hmap fs.toList hall, Result.andThen_ok, Sem.run_pure, e1]
  have hff := hf ad c
  rw [hsl]
  simp only [execOp, ho, Instr.build, Sem.run_bind, hz3, Result.andThen_ok, run_underlying hu w, hmapA, hzc, List.map_toArray, hev, hff, Sem.run_pure]
end
end Go.Proofs.Ytihbiejgebmeaaa
