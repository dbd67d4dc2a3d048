/- Objects told by a state of their own, whatever blocks they lie in: made, changed by methods. No condition. Methods that read what lies beside their object; a walk begun anew from a later world. No condition. Structs built of parts of which some are slices of their own. No condition. A struct with an own slice in it and a value, handed back together; rows that hang on a slice. No condition. -/
import Derived.Test.YtcookaiakfbdiaaSymX
namespace Go.Proofs.Ytcookaiakfbdiaa
open Go.RowKit
set_option maxRecDepth 100000
set_option maxHeartbeats 1000000
/-- The blocks that a value leads to. -/
def vblk : Value → List Nat
  | .tuple xs => xs.toList.flatMap fun v => v.ownBlock.toList
  | v => v.ownBlock.toList
/-- What is known of an object: its block, what else it leads to, its state. -/
structure Obj (σ : Type) where
  ok : World → Nat → Value → σ → Prop
  loc : ∀ {w w' : World} {b : Nat} {v : Value} {s : σ}, (∀ x, (x = b ∨ x ∈ vblk v) → w'.heap[x]? = w.heap[x]?) → ok w b v s → ok w' b v s
  lt : ∀ {w : World} {b : Nat} {v : Value} {s : σ} {x : Nat}, ok w b v s → (x = b ∨ x ∈ vblk v) → x < w.heap.size
def Res.obj {σ : Type} (n : Nat) (O : Obj σ) (s : σ) : Res where
  foot e x := x = (e n).b ∨ x ∈ vblk (e n).v
  ok e w := O.ok w (e n).b (e n).v s
  sup := [n]
  wr := true
  ind e e' h := by have h1 := h n (by simp); simp only [h1, and_self]
  loc _ _ _ h hok := O.loc h hok
  lt _ _ _ hok hf := O.lt hok hf
/-- The name stands for this block and this value. -/
def Res.at_ (n b : Nat) (v : Value) : Res where
  foot _ _ := False
  ok e _ := (e n).b = b ∧ (e n).v = v
  sup := [n]
  wr := false
  ind e e' h := ⟨rfl, by rw [h n (by simp)]⟩
  loc _ _ _ _ h := h
  lt _ _ _ _ h := h.elim
def RetO {σ : Type} (O : Obj σ) (w : World) (b : Nat) (v : Value) (s : σ) (u : Value) : Ending → World → Prop := fun r w' => r = .returned u ∧ O.ok w' b v s ∧ BelowX w w' (b :: vblk v)
/-- A method: in this state the call leads to that state and hands back this. -/
def ObjM {σ : Type} (O : Obj σ) (j : FuncId) (mk : Nat → Array Value) (s s' : σ) (u : Value) : Prop := ∀ (w : World) (b : Nat) (v : Value), O.ok w b v s → Calls Try.prog j (mk b) w (RetO O w b v s' u)
section
variable {C : Ctx} {ops : Array Oper} {S : St} {o : Oper}
theorem St.some_fresh (S : St) : ∃ d, S.fresh d := by
  obtain ⟨d, _, h2⟩ := above 0 (S.t.flatMap (fun p => p.2.sup) ++ S.h.flatMap (fun p => match p.2 with | some r => r.sup | none => []))
  refine ⟨d, fun i v hv hdv => ?_, fun m r hm hdr => ?_⟩
  · exact absurd (h2 d (List.mem_append_left _ (List.mem_flatMap.2 ⟨_, look_some_mem hv, hdv⟩))) (by omega)
  · unfold St.res at hm
    cases hl : look S.h m with
    | none => rw [hl] at hm; cases hm
    | some x =>
      rw [hl] at hm
      cases hm
      exact absurd (h2 d (List.mem_append_right _ (List.mem_flatMap.2 ⟨_, look_some_mem hl, hdr⟩))) (by omega)
theorem Env.set_same (e : Env) (d : Nat) : e.set d (e d) = e := by
  funext m
  unfold Env.set
  split
  · rename_i h; rw [h]
  · rfl
theorem Holds.drop {e : Env} {a : Act} {w : World} (hS : Holds C S e a w) (n : Nat) : Holds C ⟨S.t, (n, none) :: S.h⟩ e a w := by
  have key : ∀ q r, (St.mk S.t ((n, none) :: S.h)).res q = some r → S.res q = some r := fun q r h => by
    rw [St.res_cons] at h
    split at h
    · cases h
    · exact h
  exact ⟨hS.defers, hS.size, hS.tmp, fun q r h => hS.res q r (key q r h), fun q r h => hS.mine q r (key q r h), fun q q' r r' h h' => hS.sep q q' r r' (key q r h) (key q' r' h'), hS.frame⟩
theorem Holds.chgObj {σ : Type} {e : Env} {a : Act} {w w' : World} (hS : Holds C S e a w) {k n : Nat} {O : Obj σ} {s s' : σ} (hr : S.res k = some (.obj n O s)) (hok : O.ok w' (e n).b (e n).v s') (hx : BelowX w w' ((e n).b :: vblk (e n).v)) : Holds C ⟨S.t, (k, some (.obj n O s')) :: S.h⟩ e a w' := by
  obtain ⟨d, hd⟩ := S.some_fresh
  have h1 := hS.chg (w' := w') [(k, .obj n O s')] [k] hd (e d) hx.os hx.tape hx.output hx.size (fun q hk r hr' => by
    rcases List.mem_cons.1 hk with rfl | hk
    · rw [hr] at hr'; cases hr'; rfl
    · cases hk) (fun b hb hnot => hx.block b hb fun hbm => hnot k (by simp) _ hr (by
      rcases List.mem_cons.1 hbm with h | h
      · exact .inl h
      · exact .inr h)) (fun p hp => by
    rcases List.mem_cons.1 hp with rfl | hp
    · rw [Env.set_same]; exact hok
    · cases hp) (fun p hp b hb => by
    rcases List.mem_cons.1 hp with rfl | hp
    · rw [Env.set_same] at hb; exact .inl ⟨k, by simp, _, hr, hb⟩
    · cases hp) (fun p hp q hq hne => by
    rcases List.mem_cons.1 hp with rfl | hp
    · rcases List.mem_cons.1 hq with rfl | hq
      · exact absurd rfl hne
      · cases hq
    · cases hp)
  rw [Env.set_same] at h1
  refine h1.like ⟨fun _ => rfl, fun q => ?_⟩
  show (St.mk S.t ((k, some (.obj n O s')) :: S.h)).res q = (St.mk S.t ((k, some (.obj n O s')) :: (k, none) :: S.h)).res q
  simp only [St.res_cons]
  split <;> rfl
theorem Holds.newObjO {σ : Type} {e : Env} {a : Act} {w w' : World} (hS : Holds C S e a w) {n b : Nat} (k : Nat) {v : Value} {O : Obj σ} {s : σ} (hf : S.fresh n) (hok : O.ok w' b v s) (hnew : ∀ x, (x = b ∨ x ∈ vblk v) → w.heap.size ≤ x) (hb : Below w.heap.size w w') : Holds C ⟨S.t, (k, some (.obj n O s)) :: S.h⟩ (e.set n ⟨b, 0, v⟩) a w' := by
  have h1 := hS.chg (w' := w') [(k, .obj n O s)] [] hf ⟨b, 0, v⟩ hb.os hb.tape hb.output hb.size (fun q hk => by cases hk) (fun x hx _ => hb.block x hx) (fun p hp => by
    rcases List.mem_cons.1 hp with rfl | hp
    · show O.ok w' _ _ s
      rw [Env.set_self]; exact hok
    · cases hp) (fun p hp x hx => by
    rcases List.mem_cons.1 hp with rfl | hp
    · right
      have hx : x = ((e.set n ⟨b, 0, v⟩) n).b ∨ x ∈ vblk ((e.set n ⟨b, 0, v⟩) n).v := hx
      rw [Env.set_self] at hx
      exact hnew x hx
    · cases hp) (fun p hp q hq hne => by
    rcases List.mem_cons.1 hp with rfl | hp
    · rcases List.mem_cons.1 hq with rfl | hq
      · exact absurd rfl hne
      · cases hq
    · cases hp)
  exact h1
theorem op_callObj {σ : Type} {f : FuncId} {xs : Array Operand} {ats : Array TypeId} {vs : List SV} {j n k : Nat} {O : Obj σ} {s s' : σ} {mk : Nat → Array Value} {u : Value} (ho : o.op = .call { callee := .value (.func f), args := xs, argTypes := ats }) (hg : o.guard = none) (hd : dstB o.dst C.nt = true) (hxs : EvS S xs.toList vs) (hc' : tabLook calT f = some j)
    (hr : S.res k = some (.obj n O s)) (hmk : ∀ e : Env, (vs.map (·.den e)).toArray = mk (e n).b) (H : ObjM O j mk s s' u) :
    OpG C Try.prog ops o S ⟨xs.toList.flatMap opT, [k, n], dw o.dst (.c u), [(k, some (.obj n O s'))], []⟩ := by
  refine opG_mk hg fun S' h1 h2 h3 e a w hS => ?_
  unfold Oper.wp
  rw [call_hop ho hxs hc' h1 hS, hmk e]
  have hr' := (h2 k (by simp)).trans hr
  refine Calls.mono (H w (e n).b (e n).v (hS.res k _ hr')) ?_
  rintro r w' ⟨rfl, hok, hx⟩
  exact ⟨e, (hS.chgObj hr' hok hx).put hd (.c u)⟩
section
variable {l : List Oper} {t : List (Nat × SV)} {h : List (Nat × Option Res)} {d : Nat} {f j : FuncId} {xs : Array Operand} {ats : Array TypeId} {vs : List SV}
theorem walk1_callObj {σ : Type} (k : Nat) {n : Nat} {O : Obj σ} {s s' : σ} {mk : Nat → Array Value} {u : Value} {K : St → Prop} (H : ObjM O j mk s s' u) (ho : o.op = .call { callee := .value (.func f), args := xs, argTypes := ats }) (hdn : o.dst = some d) (hg : o.guard = none) (hd : dstB o.dst C.nt = true) (hxs : EvS ⟨t, h⟩ xs.toList vs) (hc' : tabLook calT f = some j) (hr : (St.mk t h).res k = some (.obj n O s)) (hmk : ∀ e : Env, (vs.map (·.den e)).toArray = mk (e n).b)
    (hK : Walk1 C Try.prog ops l ⟨(d, .c u) :: t, (k, some (.obj n O s')) :: h⟩ K) : Walk1 C Try.prog ops (o :: l) ⟨t, h⟩ K := by
  have := op_callObj (C := C) (ops := ops) ho hg hd hxs hc' hr hmk H
  rw [hdn] at this
  exact ⟨_, this, rfl, hK⟩
theorem walk_callObj {σ : Type} (k : Nat) {n : Nat} {O : Obj σ} {s s' : σ} {mk : Nat → Array Value} {u : Value} {x : List Nat} {acc : List OS} {K : St → List OS → Prop} (H : ObjM O j mk s s' u) (ho : o.op = .call { callee := .value (.func f), args := xs, argTypes := ats }) (hdn : o.dst = some d) (hg : o.guard = none) (hd : dstB o.dst C.nt = true) (hxs : EvS ⟨t, h⟩ xs.toList vs) (hc' : tabLook calT f = some j) (hr : (St.mk t h).res k = some (.obj n O s)) (hmk : ∀ e : Env, (vs.map (·.den e)).toArray = mk (e n).b)
    (hK : WalkTo C Try.prog ops [] l ⟨(d, .c u) :: t, (k, some (.obj n O s')) :: h⟩ (⟨x ++ xs.toList.flatMap opT, [k, n], [(d, .c u)], [(k, some (.obj n O s'))], []⟩ :: acc) K) : WalkTo C Try.prog ops x (o :: l) ⟨t, h⟩ acc K := by
  have := op_callObj (C := C) (ops := ops) ho hg hd hxs hc' hr hmk H
  rw [hdn] at this
  exact ⟨⟨_, _, _, _, _⟩, opG_more x this, rfl, hK⟩
theorem walk1_callObj0 {σ : Type} (k : Nat) {n : Nat} {O : Obj σ} {s s' : σ} {mk : Nat → Array Value} {u : Value} {K : St → Prop} (H : ObjM O j mk s s' u) (ho : o.op = .call { callee := .value (.func f), args := xs, argTypes := ats }) (hdn : o.dst = none) (hg : o.guard = none) (hxs : EvS ⟨t, h⟩ xs.toList vs) (hc' : tabLook calT f = some j) (hr : (St.mk t h).res k = some (.obj n O s)) (hmk : ∀ e : Env, (vs.map (·.den e)).toArray = mk (e n).b)
    (hK : Walk1 C Try.prog ops l ⟨t, (k, some (.obj n O s')) :: h⟩ K) : Walk1 C Try.prog ops (o :: l) ⟨t, h⟩ K := by
  have := op_callObj (C := C) (ops := ops) ho hg (by rw [hdn]; rfl) hxs hc' hr hmk H
  rw [hdn] at this
  exact ⟨_, this, rfl, hK⟩
theorem walk_callObj0 {σ : Type} (k : Nat) {n : Nat} {O : Obj σ} {s s' : σ} {mk : Nat → Array Value} {u : Value} {x : List Nat} {acc : List OS} {K : St → List OS → Prop} (H : ObjM O j mk s s' u) (ho : o.op = .call { callee := .value (.func f), args := xs, argTypes := ats }) (hdn : o.dst = none) (hg : o.guard = none) (hxs : EvS ⟨t, h⟩ xs.toList vs) (hc' : tabLook calT f = some j) (hr : (St.mk t h).res k = some (.obj n O s)) (hmk : ∀ e : Env, (vs.map (·.den e)).toArray = mk (e n).b)
    (hK : WalkTo C Try.prog ops [] l ⟨t, (k, some (.obj n O s')) :: h⟩ (⟨x ++ xs.toList.flatMap opT, [k, n], [], [(k, some (.obj n O s'))], []⟩ :: acc) K) : WalkTo C Try.prog ops x (o :: l) ⟨t, h⟩ acc K := by
  have := op_callObj (C := C) (ops := ops) ho hg (by rw [hdn]; rfl) hxs hc' hr hmk H
  rw [hdn] at this
  exact ⟨⟨_, _, _, _, _⟩, opG_more x this, rfl, hK⟩
end
/-! ### a function that takes such an object -/
/-! ### reading where little has changed -/
theorem RdV.locB {w w' : World} {size : Nat} {v : Value} {n : Nat} {xs : List Value} (h : RdV w size v n xs) (hb : ∀ x, v.ownBlock = some x → w'.heap[x]? = w.heap[x]?) : RdV w' size v n xs := by
  obtain ⟨hl, a, c, rfl, h⟩ := h
  refine ⟨hl, a, c, rfl, ?_⟩
  rcases h with h | ⟨b, off, rfl, h⟩
  · exact .inl h
  · refine .inr ⟨b, off, rfl, fun j u hu => ?_⟩
    rw [World.cell?_of_block (hb b rfl)]
    exact h j u hu
theorem FS.locB {w w' : World} {size : Nat} {v : Value} {n : Nat} {xs : List Value} (h : FS w size v n xs) (hb : ∀ x, v.ownBlock = some x → w'.heap[x]? = w.heap[x]?) : FS w' size v n xs := ⟨h.1.locB hb, h.2⟩
end
end Go.Proofs.Ytcookaiakfbdiaa
namespace Go.Proofs.Ytcookaiakfbdiaa
open Go.RowKit
set_option maxRecDepth 100000
set_option maxHeartbeats 1000000
theorem BelowX.join {w w' w'' : World} {m m' : List Nat} (h : BelowX w w' m) (h' : BelowX w' w'' m') (hm : ∀ x ∈ m', x ∈ m ∨ w.heap.size ≤ x) : BelowX w w'' m := ⟨h'.os.trans h.os, h'.tape.trans h.tape, h'.output.trans h.output, Nat.le_trans h.size h'.size, fun k hk hkm => (h'.block k (Nat.lt_of_lt_of_le hk h.size) (fun hk' => (hm k hk').elim hkm (by omega))).trans (h.block k hk hkm)⟩
theorem BelowX.more {w w' : World} {m m' : List Nat} (h : BelowX w w' m) (hm : ∀ x ∈ m, x ∈ m') : BelowX w w' m' := ⟨h.os, h.tape, h.output, h.size, fun k hk hkm => h.block k hk fun hk' => hkm (hm k hk')⟩
section
variable {C : Ctx} {ops : Array Oper} {S : St} {o : Oper}
section
variable {l : List Oper} {t : List (Nat × SV)} {h : List (Nat × Option Res)} {d : Nat} {f j : FuncId} {xs : Array Operand} {ats : Array TypeId} {vs : List SV}
end
/-! ### begun anew -/
/-- The state from a later world on: some resources are kept; those that may be written lie in m. -/
theorem Holds.anew {e : Env} {a : Act} {w : World} (hS : Holds C S e a w) {t : List (Nat × SV)} {h : List (Nat × Option Res)} (m : List Nat) (ht : ∀ i v, look t i = some v → ∃ u, S.tmp i = some u ∧ u.den e = v.den e)
    (hr : ∀ n r, (St.mk t h).res n = some r → (S.res n = some r ∨ (r.wr = false ∧ (∀ b, ¬ r.foot e b) ∧ r.ok e w)))
    (hm : ∀ n r, (St.mk t h).res n = some r → r.wr = true → ∀ b, r.foot e b → b ∈ m) : Holds ⟨C.nt, w, m⟩ ⟨t, h⟩ e a w where
  defers := hS.defers
  size := hS.size
  tmp i v hv := by
    obtain ⟨u, h1, h2⟩ := ht i v hv
    rw [hS.tmp i u h1, h2]
  res n r hn := by
    rcases hr n r hn with h1 | h1
    · exact hS.res n r h1
    · exact h1.2.2
  mine n r hn hw b hb := .inr (hm n r hn hw b hb)
  sep n k r r' hn hk hne hw b hb hb' := by
    rcases hr n r hn with h1 | h1
    · rcases hr k r' hk with h2 | h2
      · exact hS.sep n k r r' h1 h2 hne hw b hb hb'
      · exact h2.2.1 b hb'
    · rw [h1.1] at hw; cases hw
  frame := ⟨rfl, rfl, rfl, Nat.le_refl _, fun _ _ _ => rfl⟩
end
end Go.Proofs.Ytcookaiakfbdiaa
namespace Go.Proofs.Ytcookaiakfbdiaa
open Go.RowKit
set_option maxRecDepth 100000
set_option maxHeartbeats 1000000
section
variable {C : Ctx} {ops : Array Oper} {S : St} {o : Oper}
/-- In each state that is like S at these names the value has these cells. -/
def CellC (C : Ctx) (S : St) (rb : List Nat) (v : SV) (B : SA) : Prop := ∀ (S' : St) e a w, Holds C S' e a w → (∀ q ∈ rb, S'.res q = S.res q) → (v.den e).cells = B.den e
theorem cellC_ce {v : SV} {B : SA} (h : ∀ e, (v.den e).cells = B.den e) : CellC C S v.sup v B := fun _ e _ _ _ _ => h e
theorem cellC_own {n : Nat} {T : TypeId} {size len : Nat} {xs : List Value} (hr : S.res n = some (.own n T size len xs)) : CellC C S [n] (.v n) (.l [.v n]) := fun S' e a w hS hq => own_cells (hS.res n _ ((hq n (by simp)).trans hr))
def FillQ (C : Ctx) (S : St) (fs : Array Field) : SA → List (Nat × Operand) → SA → List Nat → Prop
  | A, [], A', l => A' = A ∧ l = []
  | A, p :: ps, A', l => ∃ fd sz v B A1 r q, fs[p.1]? = some fd ∧ tabLook sizT fd.type = some sz ∧ S.ev p.2 = some v ∧ CellC C S q v B ∧ Upd A fd.offset sz B A1 ∧ FillQ C S fs A1 ps A' r ∧ l = q ++ r
theorem fillq_nil {fs : Array Field} {A : SA} : FillQ C S fs A [] A [] := ⟨rfl, rfl⟩
theorem fillq_cons {fs : Array Field} {A A' A1 B : SA} {i sz : Nat} {x : Operand} {ps : List (Nat × Operand)} {fd : Field} {v : SV} {r q : List Nat} (hf : fs[i]? = some fd) (hs : tabLook sizT fd.type = some sz) (hx : S.ev x = some v) (hc : CellC C S q v B) (hu : Upd A fd.offset sz B A1) (h : FillQ C S fs A1 ps A' r) : FillQ C S fs A ((i, x) :: ps) A' (q ++ r) :=
  ⟨fd, sz, v, B, A1, r, q, hf, hs, hx, hc, hu, h, rfl⟩
theorem fillq_run {fs : Array Field} {S' : St} {e : Env} {a : Act} {w : World} (hS : Holds C S' e a w) {places : Nat → Option (Nat × Nat)} (hp : ∀ i fd sz, fs[i]? = some fd → tabLook sizT fd.type = some sz → places i = some (fd.offset, sz)) :
    ∀ (ps : List (Nat × Operand)) (A A' : SA) (l : List Nat), FillQ C S fs A ps A' l → (∀ p ∈ ps, S'.ev p.2 = S.ev p.2) → (∀ q ∈ l, S'.res q = S.res q) → Instr.fill places (A.den e) (ps.map fun p => (p.1, a.eval p.2)) = some (A'.den e)
  | [], A, A', l, ⟨h, _⟩, _, _ => by rw [h]; rfl
  | p :: ps, A, A', l, ⟨fd, sz, v, B, A1, r, q, hf, hs, hx, hc, hu, hr, hl⟩, hev, hq => by
    subst hl
    have hv : a.eval p.2 = v.den e := hS.ev ((hev p (by simp)).trans hx)
    have hcv := hc S' e a w hS fun x hx => hq x (List.mem_append_left _ hx)
    obtain ⟨pre, old, post, g1, g2, g3, g4, g5⟩ := hu e
    have ih := fillq_run hS hp ps A1 A' r hr (fun q hq => hev q (by simp [hq])) fun x hx => hq x (List.mem_append_right _ hx)
    rw [List.map_cons, Instr.fill]
    dsimp only
    rw [hp p.1 fd sz hf hs]
    dsimp only
    rw [hv, hcv]
    have hb1 : ¬ ((B.den e).size ≠ sz ∨ fd.offset + (B.den e).size > (A.den e).size) := by
      rw [g1]; simp only [Array.size_append]; omega
    rw [if_neg (by simpa using hb1)]
    have hfold : (B.den e).zipIdx.foldl (fun cs (x : Value × Nat) => cs.setIfInBounds (fd.offset + x.2) x.1) (A.den e) = A1.den e := by
      rw [g1, g5]
      have := fold_set (B.den e).toList fd.offset pre old post 0 (by omega) (by simp; omega)
      rw [← Array.foldl_toList, Array.toList_zipIdx]
      simpa using this
    rw [hfold]
    exact ih
theorem op_buildQ {ty : TypeId} {parts : Array (Nat × Operand)} {fs : Array Field} {Z : Array Value} {A0 A' : SA} {l : List Nat} (ho : o.op = .build ty parts) (hg : o.guard = none) (hd : dstB o.dst C.nt = true) (hu' : tabLook undT ty = some (.struct fs)) (hss : (fs.all fun f => (tabLook sizT f.type).isSome) = true := by kernel_rfl) (hz' : tabLook zerT ty = some Z := by exact rfl) {zc : Array Value} (hz0 : ZerR fs.toList A0 zc := by (fail_if_success (with_reducible apply trap_zer)); repeat (first | exact zer_one rfl | (apply zer_cons; (· rfl)))) (hzz : Z = zc := by kernel_rfl) (hf : FillQ C S fs A0 parts.toList A' l := by repeat (first | exact fillq_nil | (apply fillq_cons; (· rfl); (· rfl); (· rfl); (· first | exact cellC_own rfl | exact cellC_ce (by (fail_if_success (with_reducible apply trap_ce)); first | (with_reducible exact ce_row) | exact ce_c | exact ce_l | exact ce_row | exact (ce_one fun _ => rfl))); (· exact (by (fail_if_success (with_reducible apply trap_upd)); repeat (first | ((with_reducible apply upd_all'); (· rfl); (· exact (by (fail_if_success (with_reducible apply trap_sm)); first | ((with_reducible apply sm_vals); exact (by first | omega | (simp; omega) | (simp <;> fail) | omega)) | ((with_reducible apply sm_c); first | (with_reducible assumption) | rfl) | ((with_reducible apply sm_l); rfl))); (· exact (by (fail_if_success (with_reducible apply trap_sm)); repeat (first | ((with_reducible apply sm_vals); first | (with_reducible assumption) | exact (by first | omega | (simp; omega) | (simp <;> fail) | omega)) | ((with_reducible apply sm_c); first | (with_reducible assumption) | rfl) | ((with_reducible apply sm_l); rfl) | ((with_reducible apply sm_app); (· exact (by (fail_if_success (with_reducible apply trap_sm)); first | ((with_reducible apply sm_vals); first | (with_reducible assumption) | (simp <;> fail) | rfl) | ((with_reducible apply sm_c); first | (with_reducible assumption) | rfl) | ((with_reducible apply sm_l); rfl)))) | rfl)))) | ((first | with_reducible apply upd_here4 | with_reducible apply upd_here3 | with_reducible apply upd_here2 | with_reducible apply upd_here'); (· rfl); (· exact (by (fail_if_success (with_reducible apply trap_drop)); repeat (first | ((with_reducible apply drop_here); exact (by (fail_if_success (with_reducible apply trap_sm)); first | ((with_reducible apply sm_vals); exact (by first | omega | (simp; omega) | (simp <;> fail) | omega)) | ((with_reducible apply sm_c); first | (with_reducible assumption) | rfl) | ((with_reducible apply sm_l); rfl))) | ((with_reducible apply drop_skip); (· exact (by (fail_if_success (with_reducible apply trap_sm)); first | ((with_reducible apply sm_vals); first | (with_reducible assumption) | (simp <;> fail) | rfl) | ((with_reducible apply sm_c); first | (with_reducible assumption) | rfl) | ((with_reducible apply sm_l); rfl))); (· rfl))))); (· exact (by (fail_if_success (with_reducible apply trap_sm)); repeat (first | ((with_reducible apply sm_vals); first | (with_reducible assumption) | exact (by first | omega | (simp; omega) | (simp <;> fail) | omega)) | ((with_reducible apply sm_c); first | (with_reducible assumption) | rfl) | ((with_reducible apply sm_l); rfl) | ((with_reducible apply sm_app); (· exact (by (fail_if_success (with_reducible apply trap_sm)); first | ((with_reducible apply sm_vals); first | (with_reducible assumption) | (simp <;> fail) | rfl) | ((with_reducible apply sm_c); first | (with_reducible assumption) | rfl) | ((with_reducible apply sm_l); rfl)))) | rfl)))) | ((with_reducible apply upd_skip); (· exact (by (fail_if_success (with_reducible apply trap_sm)); first | ((with_reducible apply sm_vals); first | (with_reducible assumption) | (simp <;> fail) | rfl) | ((with_reducible apply sm_c); first | (with_reducible assumption) | rfl) | ((with_reducible apply sm_l); rfl))); (· rfl)))))))) (hl : subB A'.sup l = true := by kernel_rfl) :
    OpG C Try.prog ops o S ⟨(parts.toList.map (·.2)).flatMap opT, l, dw o.dst (.row A'), [], []⟩ := by
  refine opG_mk hg fun S' h1 h2 _ e a w hS => ?_
  refine wp_value (v := .agg (A'.den e)) (w' := w) ?_ ⟨e, hS.put hd (.row A')⟩
  have h1 : ∀ x ∈ parts.toList.map (·.2), S'.ev x = S.ev x := fun x hx => ev_like h1 fun i hi => List.mem_flatMap.2 ⟨x, hx, hi⟩
  have hu := tabAll_look undT_ok hu'
  have hz := tabAll_look zerT_ok hz'
  obtain ⟨zv, hz3, hzc⟩ : ∃ zv, (zeroValue ty).run Try.prog w = .ok zv w ∧ zv.cells = Z := by
    cases hb : (Try.prog.info? ty) with
    | none => simp [hb] at hz
    | some i =>
      cases hc : i.zero with
      | none => simp [hb, hc] at hz
      | some zz => exact ⟨zz, by simp [zeroValue, typeInfo, hb, hc], by simpa [hb, hc] using hz⟩
  have hall : ∀ f ∈ fs.toList, ∃ sz, tabLook sizT f.type = some sz := fun f hf => by
    have := Array.all_eq_true_iff_forall_mem.1 hss f (by simpa using hf)
    exact Option.isSome_iff_exists.1 this
  have hmap : ∀ l : List Field, (∀ f ∈ l, ∃ sz, tabLook sizT f.type = some sz) → (l.mapM fun (f : Field) => do pure (f.offset, ← sizeOf f.type)).run Try.prog w = .ok (l.map fun f => (f.offset, (tabLook sizT f.type).getD 0)) w := by
    intro l
    induction l with
    | nil => intro _; rfl
    | cons f l ih =>
      intro h
      obtain ⟨sz, hsz⟩ := h f (by simp)
      simp only [List.mapM_cons, Sem.run_bind, run_sizeT hsz w, Result.andThen_ok, Sem.run_pure, ih fun g hg => h g (by simp [hg]), List.map_cons, hsz, Option.getD_some]
  have hmapA : (fs.mapM fun (f : Field) => do pure (f.offset, ← sizeOf f.type)).run Try.prog w = .ok (fs.map fun f => (f.offset, (tabLook sizT f.type).getD 0)) w := by
    rw [Array.mapM_eq_mapM_toList]
    have e1 : (fs.toList.map fun f => (f.offset, (tabLook sizT f.type).getD 0)).toArray = fs.map fun f => (f.offset, (tabLook sizT f.type).getD 0) := by
      apply Array.ext'; simp
    simp only [map_eq_pure_bind, Sem.run_bind, hmap fs.toList hall, Result.andThen_ok, Sem.run_pure, e1]
  have hp : ∀ (i : Nat) (fd : Field) (sz : Nat), fs[i]? = some fd → tabLook sizT fd.type = some sz → (fun i => (fs.map fun f => (f.offset, (tabLook sizT f.type).getD 0))[i]?) i = some (fd.offset, sz) := by
    intro i fd sz h1 h2
    simp [h1, h2]
  have hfill := fillq_run hS hp parts.toList A0 A' l hf (fun p hp => h1 p.2 (List.mem_map.2 ⟨p, hp, rfl⟩)) h2
  have hpa : (parts.map fun (i, x) => (i, a.eval x)).toList = parts.toList.map fun p => (p.1, a.eval p.2) := by simp
  simp only [execOp, ho, Instr.build, Sem.run_bind, hz3, Result.andThen_ok, run_underlying hu w, hmapA, hzc, hpa, hzz.trans (zer_den hz0 e), hfill, Sem.run_pure]
theorem op_buildC {ty : TypeId} {parts : List (Nat × Operand)} {vs : List Value} {fs : Array Field} {Z : Array Value} (R : Array Value) (ho : o.op = .build ty parts.toArray) (hg : o.guard = none) (hd : dstB o.dst C.nt = true) (hx : (parts.map (·.2)).map S.ev = vs.map fun v => some (SV.c v)) (hu' : tabLook undT ty = some (.struct fs)) (hz' : tabLook zerT ty = some Z) (hss : (fs.all fun f => (tabLook sizT f.type).isSome) = true)
    (hf : Instr.fill (fun i => (fs.map fun f => (f.offset, (tabLook sizT f.type).getD 0))[i]?) Z ((parts.map (·.1)).zip vs) = some R) :
    OpG C Try.prog ops o S ⟨(parts.map (·.2)).flatMap opT, [], dw o.dst (.c (.agg R)), [], []⟩ := by
  have := op_value (C := C) (P := Try.prog) (ops := ops) (S := S) hg hd (parts.map (·.2)) [] (.c (.agg R)) fun S' e a w hS h1 h2 => by
    have hu := tabAll_look undT_ok hu'
    have hz := tabAll_look zerT_ok hz'
    have hev : ∀ (ps : List (Nat × Operand)) (us : List Value), (ps.map (·.2)).map S.ev = us.map (fun v => some (SV.c v)) → (∀ x ∈ ps.map (·.2), S'.ev x = S.ev x) → ps.map (fun p => (p.1, a.eval p.2)) = (ps.map (·.1)).zip us := by
      intro ps
      induction ps with
      | nil => intro us h _; cases us with
        | nil => rfl
        | cons u us => simp at h
      | cons p ps ih =>
        intro us h h3
        cases us with
        | nil => simp at h
        | cons u us =>
          simp only [List.map_cons, List.cons.injEq] at h
          have e1 : a.eval p.2 = u := hS.ev ((h3 p.2 (by simp)).trans h.1)
          simp only [List.map_cons, List.zip_cons_cons, e1]
          rw [ih us h.2 fun x hx => h3 x (by simp only [List.map_cons, List.mem_cons]; exact .inr hx)]
    have hev := hev parts vs hx h1
    obtain ⟨zv, hz3, hzc⟩ : ∃ zv, (zeroValue ty).run Try.prog w = .ok zv w ∧ zv.cells = Z := by
      cases hb : (Try.prog.info? ty) with
      | none => simp [hb] at hz
      | some i =>
        cases hc : i.zero with
        | none => simp [hb, hc] at hz
        | some zz => exact ⟨zz, by simp [zeroValue, typeInfo, hb, hc], by simpa [hb, hc] using hz⟩
    have hall : ∀ f ∈ fs.toList, ∃ sz, tabLook sizT f.type = some sz := fun f hf => by
      have := Array.all_eq_true_iff_forall_mem.1 hss f (by simpa using hf)
      exact Option.isSome_iff_exists.1 this
    have hmap : ∀ l : List Field, (∀ f ∈ l, ∃ sz, tabLook sizT f.type = some sz) → (l.mapM fun (f : Field) => do pure (f.offset, ← sizeOf f.type)).run Try.prog w = .ok (l.map fun f => (f.offset, (tabLook sizT f.type).getD 0)) w := by
      intro l
      induction l with
      | nil => intro _; rfl
      | cons f l ih =>
        intro h
        obtain ⟨sz, hsz⟩ := h f (by simp)
        simp only [List.mapM_cons, Sem.run_bind, run_sizeT hsz w, Result.andThen_ok, Sem.run_pure, ih fun g hg => h g (by simp [hg]), List.map_cons, hsz, Option.getD_some]
    have hmapA : (fs.mapM fun (f : Field) => do pure (f.offset, ← sizeOf f.type)).run Try.prog w = .ok (fs.map fun f => (f.offset, (tabLook sizT f.type).getD 0)) w := by
      rw [Array.mapM_eq_mapM_toList]
      have e1 : (fs.toList.map fun f => (f.offset, (tabLook sizT f.type).getD 0)).toArray = fs.map fun f => (f.offset, (tabLook sizT f.type).getD 0) := by
        apply Array.ext'; simp
      simp only [map_eq_pure_bind, Sem.run_bind, hmap fs.toList hall, Result.andThen_ok, Sem.run_pure, e1]
    simp only [execOp, ho, Instr.build, Sem.run_bind, hz3, Result.andThen_ok, run_underlying hu w, hmapA, hzc, List.map_toArray, hev, hf, Sem.run_pure]
    rfl
  simpa using this
end
end Go.Proofs.Ytcookaiakfbdiaa
namespace Go.Proofs.Ytcookaiakfbdiaa
open Go.RowKit
set_option maxRecDepth 100000
set_option maxHeartbeats 1000000
def SV.fn (n : Nat) (F : Value → Value) : SV := ⟨21, fun e => F (e n).v, [n], fun e e' h => by simp only [h n (by simp)]⟩
def SA.fn (n : Nat) (G : Value → Array Value) : SA := ⟨21, fun e => G (e n).v, [n], fun e e' h => by simp only [h n (by simp)]⟩
section
variable {C : Ctx} {ops : Array Oper} {S : St} {o : Oper}
section
variable {l : List Oper} {t : List (Nat × SV)} {h : List (Nat × Option Res)} {d : Nat} {f j : FuncId} {xs : Array Operand} {ats : Array TypeId} {vs : List SV}
end
end
/-! ### a row handed back in a cell, with a value -/
theorem res_cellS {C : Ctx} {S : St} {fn : Func} {t1 t2 : Tmp} {ty1 : TypeId} {n1 m1 : Nat} {T1 : TypeId} {A1 : SA} {u : Value} {wr1 : Bool} {d1 : TypeDesc} (h : fn.results = #[.cell t1 ty1, .tmp t2]) (hv1 : S.tmp t1 = some (.p n1 0)) (hr1 : S.res n1 = some (.blk n1 T1 A1 wr1)) (hv2 : S.tmp t2 = some (.c u))
    (hu1 : tabLook undT ty1 = some d1) (hd1 : d1.isRow = true) (hi1 : tabLook sizT ty1 = some m1) (hm1 : ∀ e, (A1.den e).size = m1) : ∀ e a w, Holds C S e a w → (results fn a.tmps).run Try.prog w = .ok ((SV.tup [.row A1, .c u]).den e) w := fun e a w hS => by
  have hu := tabAll_look undT_ok hu1
  have hi := tabAll_look sizT_ok hi1
  obtain ⟨fr, hb, _⟩ := res_blk hS hr1
  have hp1 : a.tmps.getD t1 undef = .pointer (some ⟨(e n1).b, 0, none⟩) := getD_of (hS.tmp t1 _ hv1)
  have hp2 : a.tmps.getD t2 undef = u := getD_of (hS.tmp t2 _ hv2)
  have hp1' : a.tmps[t1]?.getD undef = .pointer (some ⟨(e n1).b, 0, none⟩) := by simpa using hp1
  have hp2' : a.tmps[t2]?.getD undef = u := by simpa using hp2
  have hl := run_loadVar_row (P := Try.prog) w (e n1).b T1 ty1 (A1.den e) fr d1 hb hu (by cases d1 <;> simp_all) (by rw [hi, hm1 e])
  simp [results, h, hp1', hp2', asAddr, hl]
  rfl
end Go.Proofs.Ytcookaiakfbdiaa
