/- Objects told by a state of their own, whatever blocks they lie in: made, changed by methods. No condition. Methods that read what lies beside their object; a walk begun anew from a later world. No condition. -/
import Derived.Test.YtlhedoodbadmgaaSymSX
namespace Go.Proofs.Ytlhedoodbadmgaa
open Go.RowKit
set_option maxRecDepth 100000
set_option maxHeartbeats 1000000
/-- The blocks that a value leads to. -/
def vblk : Value → List Nat
  | .tuple xs => xs.toList.flatMap fun v => v.ownBlock.toList
  | v => v.ownBlock.toList
/-- What is known of an object: its block, what else it leads to, its state. -/
structure Obj (σ : Type) where
  ok : World → Nat → Value → σ → Prop
  loc : ∀ {w w' : World} {b : Nat} {v : Value} {s : σ}, (∀ x, (x = b ∨ x ∈ vblk v) → w'.heap[x]? = w.heap[x]?) → ok w b v s → ok w' b v s
  lt : ∀ {w : World} {b : Nat} {v : Value} {s : σ} {x : Nat}, ok w b v s → (x = b ∨ x ∈ vblk v) → x < w.heap.size
def Res.obj {σ : Type} (n : Nat) (O : Obj σ) (s : σ) : Res where
  foot e x := x = (e n).b ∨ x ∈ vblk (e n).v
  ok e w := O.ok w (e n).b (e n).v s
  sup := [n]
  wr := true
  ind e e' h := by have h1 := h n (by simp); simp only [h1, and_self]
  loc _ _ _ h hok := O.loc h hok
  lt _ _ _ hok hf := O.lt hok hf
/-- The name stands for this block and this value. -/
def Res.at_ (n b : Nat) (v : Value) : Res where
  foot _ _ := False
  ok e _ := (e n).b = b ∧ (e n).v = v
  sup := [n]
  wr := false
  ind e e' h := ⟨rfl, by rw [h n (by simp)]⟩
  loc _ _ _ _ h := h
  lt _ _ _ _ h := h.elim
def RetO {σ : Type} (O : Obj σ) (w : World) (b : Nat) (v : Value) (s : σ) (u : Value) : Ending → World → Prop := fun r w' => r = .returned u ∧ O.ok w' b v s ∧ BelowX w w' (b :: vblk v)
section
variable {C : Ctx} {ops : Array Oper} {S : St} {o : Oper}
theorem St.some_fresh (S : St) : ∃ d, S.fresh d := by
  obtain ⟨d, _, h2⟩ := above 0 (S.t.flatMap (fun p => p.2.sup) ++ S.h.flatMap (fun p => match p.2 with | some r => r.sup | none => []))
  refine ⟨d, fun i v hv hdv => ?_, fun m r hm hdr => ?_⟩
  · exact absurd (h2 d (List.mem_append_left _ (List.mem_flatMap.2 ⟨_, look_some_mem hv, hdv⟩))) (by omega)
  · unfold St.res at hm
    cases hl : look S.h m with
    | none => rw [hl] at hm; cases hm
    | some x =>
      rw [hl] at hm
      cases hm
      exact absurd (h2 d (List.mem_append_right _ (List.mem_flatMap.2 ⟨_, look_some_mem hl, hdr⟩))) (by omega)
theorem Env.set_same (e : Env) (d : Nat) : e.set d (e d) = e := by
  funext m
  unfold Env.set
  split
  · rename_i h; rw [h]
  · rfl
theorem Holds.drop {e : Env} {a : Act} {w : World} (hS : Holds C S e a w) (n : Nat) : Holds C ⟨S.t, (n, none) :: S.h⟩ e a w := by
  have key : ∀ q r, (St.mk S.t ((n, none) :: S.h)).res q = some r → S.res q = some r := fun q r h => by
    rw [St.res_cons] at h
    split at h
    · cases h
    · exact h
  exact ⟨hS.defers, hS.size, hS.tmp, fun q r h => hS.res q r (key q r h), fun q r h => hS.mine q r (key q r h), fun q q' r r' h h' => hS.sep q q' r r' (key q r h) (key q' r' h'), hS.frame⟩
theorem Holds.chgObj {σ : Type} {e : Env} {a : Act} {w w' : World} (hS : Holds C S e a w) {k n : Nat} {O : Obj σ} {s s' : σ} (hr : S.res k = some (.obj n O s)) (hok : O.ok w' (e n).b (e n).v s') (hx : BelowX w w' ((e n).b :: vblk (e n).v)) : Holds C ⟨S.t, (k, some (.obj n O s')) :: S.h⟩ e a w' := by
  obtain ⟨d, hd⟩ := S.some_fresh
  have h1 := hS.chg (w' := w') [(k, .obj n O s')] [k] hd (e d) hx.os hx.tape hx.output hx.size (fun q hk r hr' => by
    rcases List.mem_cons.1 hk with rfl | hk
    · rw [hr] at hr'; cases hr'; rfl
    · cases hk) (fun b hb hnot => hx.block b hb fun hbm => hnot k (by simp) _ hr (by
      rcases List.mem_cons.1 hbm with h | h
      · exact .inl h
      · exact .inr h)) (fun p hp => by
    rcases List.mem_cons.1 hp with rfl | hp
    · rw [Env.set_same]; exact hok
    · cases hp) (fun p hp b hb => by
    rcases List.mem_cons.1 hp with rfl | hp
    · rw [Env.set_same] at hb; exact .inl ⟨k, by simp, _, hr, hb⟩
    · cases hp) (fun p hp q hq hne => by
    rcases List.mem_cons.1 hp with rfl | hp
    · rcases List.mem_cons.1 hq with rfl | hq
      · exact absurd rfl hne
      · cases hq
    · cases hp)
  rw [Env.set_same] at h1
  refine h1.like ⟨fun _ => rfl, fun q => ?_⟩
  show (St.mk S.t ((k, some (.obj n O s')) :: S.h)).res q = (St.mk S.t ((k, some (.obj n O s')) :: (k, none) :: S.h)).res q
  simp only [St.res_cons]
  split <;> rfl
section
variable {l : List Oper} {t : List (Nat × SV)} {h : List (Nat × Option Res)} {d : Nat} {f j : FuncId} {xs : Array Operand} {ats : Array TypeId} {vs : List SV}
end
/-! ### a function that takes such an object -/
theorem holds_startO {σ : Type} {n b : Nat} {v : Value} {args : Array Value} {w : World} {O : Obj σ} {s : σ} (slot : SV) (h : args.size ≤ n) (h0 : args[0]? = some (slot.den fun _ => ⟨b, 0, v⟩)) (hok : O.ok w b v s) :
    Holds ⟨n, w, b :: vblk v⟩ ⟨(0, slot) :: idx 0 args.toList, [(1003, some (.obj 1000 O s)), (1001, some (.at_ 1000 b v))]⟩ (fun _ => ⟨b, 0, v⟩) { tmps := args ++ Array.replicate (n - args.size) undef, defers := [] } w where
  defers := rfl
  size := by simp; omega
  tmp i u hv := by
    have hv' : look ((0, slot) :: idx 0 args.toList) i = some u := hv
    rw [look_cons] at hv'
    split at hv'
    · rename_i h2; subst h2; cases hv'
      have hi : 0 < args.size := (Array.getElem?_eq_some_iff.1 h0).1
      rw [Array.getElem?_append_left hi]
      exact h0
    · obtain ⟨u', h1, _, rfl⟩ := idx_look args.toList 0 i u hv'
      rw [Nat.sub_zero] at h1
      have hi : i < args.size := by have := (List.getElem?_eq_some_iff.1 h1).1; simpa using this
      rw [Array.getElem?_append_left hi]
      simpa [SV.c] using h1
  res k r hr := by
    rw [St.res_cons] at hr
    split at hr
    · cases hr; exact hok
    · rw [St.res_cons] at hr
      split at hr
      · cases hr; exact ⟨rfl, rfl⟩
      · cases hr
  mine k r hr hw x hx := by
    rw [St.res_cons] at hr
    split at hr
    · cases hr
      refine .inr ?_
      rcases hx with hx | hx
      · rw [show x = b from hx]; simp
      · exact List.mem_cons_of_mem _ hx
    · rw [St.res_cons] at hr
      split at hr
      · cases hr; cases hw
      · cases hr
  sep k m r r' hr hr' hne hw x hx hx' := by
    rw [St.res_cons] at hr hr'
    split at hr
    · split at hr'
      · rename_i h1 h2; exact hne (h1.symm.trans h2)
      · rw [St.res_cons] at hr'
        split at hr'
        · cases hr'; exact hx'
        · cases hr'
    · rw [St.res_cons] at hr
      split at hr
      · cases hr; cases hw
      · cases hr
  frame := ⟨rfl, rfl, rfl, Nat.le_refl _, fun _ _ _ => rfl⟩
theorem calls_triO {σ : Type} {P : Program} {f : FuncId} {fn : Func} {c : Code} {args : Array Value} {w : World} {R : Ending → World → Prop} {n b : Nat} {v : Value} {O : Obj σ} {s : σ} (slot : SV) (hok : O.ok w b v s) (hf : P.funcs[f]? = some fn) (hb : fn.body = some c) (hn : fn.ntmps = n) (hargs : Nat.ble args.size n = true)
    (h0 : args[0]? = some (slot.den fun _ => ⟨b, 0, v⟩))
    (h : Tri ⟨n, w, b :: vblk v⟩ P ⟨(0, slot) :: idx 0 args.toList, [(1003, some (.obj 1000 O s)), (1001, some (.at_ 1000 b v))]⟩ c (bodyPost P fn R)) : Calls P f args w R := by
  subst hn
  exact calls_of_wp hf hb (h _ _ _ (holds_startO slot (Nat.le_of_ble_eq_true hargs) h0 hok))
theorem fin_O {σ : Type} {u : Value} {V : SV} {w0 : World} {n b : Nat} {v : Value} {O : Obj σ} {s : σ} (hr : S.res 1003 = some (.obj 1000 O s)) (hi : S.res 1001 = some (.at_ 1000 b v)) (h : ∀ e, V.den e = u) :
    ∀ e a w, Holds ⟨n, w0, b :: vblk v⟩ S e a w → RetO O w0 b v s u (.returned (V.den e)) w := fun e a w hS => by
  have hok : O.ok w (e 1000).b (e 1000).v s := hS.res 1003 _ hr
  obtain ⟨h1, h2⟩ : (e 1000).b = b ∧ (e 1000).v = v := hS.res 1001 _ hi
  rw [h1, h2] at hok
  exact ⟨by rw [h e], hok, hS.frame.belowX⟩
/-! ### reading where little has changed -/
theorem RdV.locB {w w' : World} {size : Nat} {v : Value} {n : Nat} {xs : List Value} (h : RdV w size v n xs) (hb : ∀ x, v.ownBlock = some x → w'.heap[x]? = w.heap[x]?) : RdV w' size v n xs := by
  obtain ⟨hl, a, c, rfl, h⟩ := h
  refine ⟨hl, a, c, rfl, ?_⟩
  rcases h with h | ⟨b, off, rfl, h⟩
  · exact .inl h
  · refine .inr ⟨b, off, rfl, fun j u hu => ?_⟩
    rw [World.cell?_of_block (hb b rfl)]
    exact h j u hu
theorem FS.locB {w w' : World} {size : Nat} {v : Value} {n : Nat} {xs : List Value} (h : FS w size v n xs) (hb : ∀ x, v.ownBlock = some x → w'.heap[x]? = w.heap[x]?) : FS w' size v n xs := ⟨h.1.locB hb, h.2⟩
theorem FS.fsx {w : World} {size : Nat} {v : Value} {n : Nat} {xs : List Value} (h : FS w size v n xs) {m : List Nat} (hm : ∀ x, v.ownBlock = some x → x < w.heap.size ∧ x ∉ m) : FSX w m size v n xs := fun w' hw => h.locB fun x hx => hw.block x (hm x hx).1 (hm x hx).2
end
end Go.Proofs.Ytlhedoodbadmgaa
namespace Go.Proofs.Ytlhedoodbadmgaa
open Go.RowKit
set_option maxRecDepth 100000
set_option maxHeartbeats 1000000
/-- What stays true as long as only these blocks change. -/
def Later (pre : World → List Nat → Prop) : Prop := ∀ (w w' : World) (m m' : List Nat), pre w m → BelowX w w' m → (∀ x ∈ m', x ∈ m ∨ w.heap.size ≤ x) → pre w' m'
theorem BelowX.join {w w' w'' : World} {m m' : List Nat} (h : BelowX w w' m) (h' : BelowX w' w'' m') (hm : ∀ x ∈ m', x ∈ m ∨ w.heap.size ≤ x) : BelowX w w'' m := ⟨h'.os.trans h.os, h'.tape.trans h.tape, h'.output.trans h.output, Nat.le_trans h.size h'.size, fun k hk hkm => (h'.block k (Nat.lt_of_lt_of_le hk h.size) (fun hk' => (hm k hk').elim hkm (by omega))).trans (h.block k hk hkm)⟩
theorem BelowX.more {w w' : World} {m m' : List Nat} (h : BelowX w w' m) (hm : ∀ x ∈ m, x ∈ m') : BelowX w w' m' := ⟨h.os, h.tape, h.output, h.size, fun k hk hkm => h.block k hk fun hk' => hkm (hm k hk')⟩
theorem later_fsx {sz : Nat} {v : Value} {n : Nat} {xs : List Value} : Later (fun w m => FSX w m sz v n xs) := fun _ _ _ _ h hw hm w2 hw2 => h w2 (hw.join hw2 hm)
theorem later_and {p q : World → List Nat → Prop} (hp : Later p) (hq : Later q) : Later (fun w m => p w m ∧ q w m) := fun w w' m m' h hw hm => ⟨hp w w' m m' h.1 hw hm, hq w w' m m' h.2 hw hm⟩
/-- A method that reads beside its object. -/
def ObjR {σ : Type} (O : Obj σ) (pre : World → List Nat → Prop) (j : FuncId) (mk : Nat → Array Value) (s s' : σ) (u : Value) : Prop := ∀ (w : World) (b : Nat) (v : Value), O.ok w b v s → pre w (b :: vblk v) → Calls Try.prog j (mk b) w (RetO O w b v s' u)
section
variable {C : Ctx} {ops : Array Oper} {S : St} {o : Oper}
theorem op_callObjR {σ : Type} {f : FuncId} {xs : Array Operand} {ats : Array TypeId} {vs : List SV} {j n k : Nat} {O : Obj σ} {s s' : σ} {pre : World → List Nat → Prop} {mk : Nat → Array Value} {u : Value} (ho : o.op = .call { callee := .value (.func f), args := xs, argTypes := ats }) (hg : o.guard = none) (hd : dstB o.dst C.nt = true) (hxs : EvS S xs.toList vs) (hc' : tabLook calT f = some j)
    (hr : S.res k = some (.obj n O s)) (hmk : ∀ e : Env, (vs.map (·.den e)).toArray = mk (e n).b) (hL : Later pre) (hp : pre C.w0 C.m) (H : ObjR O pre j mk s s' u) :
    OpG C Try.prog ops o S ⟨xs.toList.flatMap opT, [k, n], dw o.dst (.c u), [(k, some (.obj n O s'))], []⟩ := by
  refine opG_mk hg fun S' h1 h2 h3 e a w hS => ?_
  unfold Oper.wp
  rw [call_hop ho hxs hc' h1 hS, hmk e]
  have hr' := (h2 k (by simp)).trans hr
  have hpw : pre w ((e n).b :: vblk (e n).v) := hL _ _ _ _ hp hS.frame.belowX fun x hx => (hS.mine k _ hr' rfl x (by
    rcases List.mem_cons.1 hx with h | h
    · exact .inl h
    · exact .inr h)).symm
  refine Calls.mono (H w (e n).b (e n).v (hS.res k _ hr') hpw) ?_
  rintro r w' ⟨rfl, hok, hx⟩
  exact ⟨e, (hS.chgObj hr' hok hx).put hd (.c u)⟩
section
variable {l : List Oper} {t : List (Nat × SV)} {h : List (Nat × Option Res)} {d : Nat} {f j : FuncId} {xs : Array Operand} {ats : Array TypeId} {vs : List SV}
theorem walk1_callObjR {σ : Type} (k : Nat) {n : Nat} {O : Obj σ} {s s' : σ} {pre : World → List Nat → Prop} {mk : Nat → Array Value} {u : Value} {K : St → Prop} (H : ObjR O pre j mk s s' u) (ho : o.op = .call { callee := .value (.func f), args := xs, argTypes := ats }) (hdn : o.dst = some d) (hg : o.guard = none) (hd : dstB o.dst C.nt = true) (hxs : EvS ⟨t, h⟩ xs.toList vs) (hc' : tabLook calT f = some j) (hr : (St.mk t h).res k = some (.obj n O s)) (hmk : ∀ e : Env, (vs.map (·.den e)).toArray = mk (e n).b) (hL : Later pre) (hp : pre C.w0 C.m)
    (hK : Walk1 C Try.prog ops l ⟨(d, .c u) :: t, (k, some (.obj n O s')) :: h⟩ K) : Walk1 C Try.prog ops (o :: l) ⟨t, h⟩ K := by
  have := op_callObjR (C := C) (ops := ops) ho hg hd hxs hc' hr hmk hL hp H
  rw [hdn] at this
  exact ⟨_, this, rfl, hK⟩
theorem walk_callObjR {σ : Type} (k : Nat) {n : Nat} {O : Obj σ} {s s' : σ} {pre : World → List Nat → Prop} {mk : Nat → Array Value} {u : Value} {x : List Nat} {acc : List OS} {K : St → List OS → Prop} (H : ObjR O pre j mk s s' u) (ho : o.op = .call { callee := .value (.func f), args := xs, argTypes := ats }) (hdn : o.dst = some d) (hg : o.guard = none) (hd : dstB o.dst C.nt = true) (hxs : EvS ⟨t, h⟩ xs.toList vs) (hc' : tabLook calT f = some j) (hr : (St.mk t h).res k = some (.obj n O s)) (hmk : ∀ e : Env, (vs.map (·.den e)).toArray = mk (e n).b) (hL : Later pre) (hp : pre C.w0 C.m)
    (hK : WalkTo C Try.prog ops [] l ⟨(d, .c u) :: t, (k, some (.obj n O s')) :: h⟩ (⟨x ++ xs.toList.flatMap opT, [k, n], [(d, .c u)], [(k, some (.obj n O s'))], []⟩ :: acc) K) : WalkTo C Try.prog ops x (o :: l) ⟨t, h⟩ acc K := by
  have := op_callObjR (C := C) (ops := ops) ho hg hd hxs hc' hr hmk hL hp H
  rw [hdn] at this
  exact ⟨⟨_, _, _, _, _⟩, opG_more x this, rfl, hK⟩
end
/-! ### begun anew -/
theorem tri_anew {P : Program} {c : Code} {Q : Exit → Act → World → Prop} (h : ∀ e a w, Holds C S e a w → ∃ C' S' e', Holds C' S' e' a w ∧ Tri C' P S' c Q) : Tri C P S c Q := fun e a w hS => by
  obtain ⟨C', S', e', h1, h2⟩ := h e a w hS
  exact h2 e' a w h1
/-- The state from a later world on: some resources are kept; those that may be written lie in m. -/
theorem Holds.anew {e : Env} {a : Act} {w : World} (hS : Holds C S e a w) {t : List (Nat × SV)} {h : List (Nat × Option Res)} (m : List Nat) (ht : ∀ i v, look t i = some v → ∃ u, S.tmp i = some u ∧ u.den e = v.den e)
    (hr : ∀ n r, (St.mk t h).res n = some r → (S.res n = some r ∨ (r.wr = false ∧ (∀ b, ¬ r.foot e b) ∧ r.ok e w)))
    (hm : ∀ n r, (St.mk t h).res n = some r → r.wr = true → ∀ b, r.foot e b → b ∈ m) : Holds ⟨C.nt, w, m⟩ ⟨t, h⟩ e a w where
  defers := hS.defers
  size := hS.size
  tmp i v hv := by
    obtain ⟨u, h1, h2⟩ := ht i v hv
    rw [hS.tmp i u h1, h2]
  res n r hn := by
    rcases hr n r hn with h1 | h1
    · exact hS.res n r h1
    · exact h1.2.2
  mine n r hn hw b hb := .inr (hm n r hn hw b hb)
  sep n k r r' hn hk hne hw b hb hb' := by
    rcases hr n r hn with h1 | h1
    · rcases hr k r' hk with h2 | h2
      · exact hS.sep n k r r' h1 h2 hne hw b hb hb'
      · exact h2.2.1 b hb'
    · rw [h1.1] at hw; cases hw
  frame := ⟨rfl, rfl, rfl, Nat.le_refl _, fun _ _ _ => rfl⟩
theorem Below.joinX {n : Nat} {w w' w'' : World} {m : List Nat} (h : Below n w w') (hn : n ≤ w.heap.size) (h' : BelowX w' w'' m) (hm : ∀ x ∈ m, n ≤ x) : Below n w w'' :=
  ⟨h'.os.trans h.os, h'.tape.trans h.tape, h'.output.trans h.output, Nat.le_trans h.size h'.size, fun k hk => (h'.block k (Nat.lt_of_lt_of_le (Nat.lt_of_lt_of_le hk hn) h.size) (fun hkm => by have := hm k hkm; omega)).trans (h.block k hk)⟩
end
end Go.Proofs.Ytlhedoodbadmgaa
