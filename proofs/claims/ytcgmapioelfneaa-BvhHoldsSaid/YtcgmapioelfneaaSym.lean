/- A state of a run, told by names: what its temporaries hold, what its blocks hold; operations as steps from state to state; a region that draws its order, walked once in the order of the text. No condition. -/
import Derived.Test.YtcgmapioelfneaaBase
namespace Go.Proofs.Ytcgmapioelfneaa
open Go.RowKit

/-! ### names, values that hang on names, resources -/
/-- What a name stands for: a block, a number, a value. -/
structure Ent where
  b : Nat
  c : Nat
  v : Value
abbrev Env := Nat → Ent
/-- A value that hangs on some names. -/
structure SV where
  tag : Nat
  den : Env → Value
  sup : List Nat
  ind : ∀ e e' : Env, (∀ n ∈ sup, e' n = e n) → den e' = den e
def SV.c (v : Value) : SV := ⟨0, fun _ => v, [], fun _ _ _ => rfl⟩
def SV.p (n off : Nat) : SV := ⟨1, fun e => .pointer (some ⟨(e n).b, off, none⟩), [n], fun e e' h => by simp only [h n (by simp)]⟩
def SV.s (n off len cap : Nat) : SV := ⟨2, fun e => .slice (some ⟨(e n).b, off, none⟩) len cap, [n], fun e e' h => by simp only [h n (by simp)]⟩
def SV.v (n : Nat) : SV := ⟨3, fun e => (e n).v, [n], fun e e' h => by simp only [h n (by simp)]⟩
theorem dens_ind (l : List SV) (e e' : Env) (h : ∀ n ∈ l.flatMap (·.sup), e' n = e n) : l.map (·.den e') = l.map (·.den e) :=
  List.map_congr_left fun v hv => v.ind e e' fun n hn => h n (List.mem_flatMap.2 ⟨v, hv, hn⟩)
def SV.tup (l : List SV) : SV := ⟨4, fun e => .tuple (l.map (·.den e)).toArray, l.flatMap (·.sup), fun e e' h => by rw [dens_ind l e e' h]⟩
def SV.agg (l : List SV) : SV := ⟨5, fun e => .agg (l.map (·.den e)).toArray, l.flatMap (·.sup), fun e e' h => by rw [dens_ind l e e' h]⟩
/-- A row of cells that hangs on some names. -/
structure SA where
  tag : Nat
  den : Env → Array Value
  sup : List Nat
  ind : ∀ e e' : Env, (∀ n ∈ sup, e' n = e n) → den e' = den e
def SA.c (a : Array Value) : SA := ⟨0, fun _ => a, [], fun _ _ _ => rfl⟩
def SA.l (l : List SV) : SA := ⟨1, fun e => (l.map (·.den e)).toArray, l.flatMap (·.sup), fun e e' h => by rw [dens_ind l e e' h]⟩
def SA.app (x y : SA) : SA := ⟨2, fun e => x.den e ++ y.den e, x.sup ++ y.sup, fun e e' h => by
  rw [x.ind e e' fun n hn => h n (List.mem_append_left _ hn), y.ind e e' fun n hn => h n (List.mem_append_right _ hn)]⟩

/-- A resource: something that is known of some blocks. -/
structure Res where
  foot : Env → Nat → Prop
  ok : Env → World → Prop
  sup : List Nat
  wr : Bool
  ind : ∀ e e' : Env, (∀ n ∈ sup, e' n = e n) → foot e' = foot e ∧ ok e' = ok e
  loc : ∀ (e : Env) (w w' : World), (∀ b, foot e b → w'.heap[b]? = w.heap[b]?) → ok e w → ok e w'
  lt : ∀ (e : Env) (w : World) (b : Nat), ok e w → foot e b → b < w.heap.size
/-- Block n is a row of cells. -/
def Res.blk (n : Nat) (T : TypeId) (A : SA) (wr : Bool := true) : Res where
  foot e b := b = (e n).b
  ok e w := ∃ fr, w.heap[(e n).b]? = some (.cells (A.den e) T fr) ∧ (wr = true → fr = (0, 0))
  sup := n :: A.sup
  wr := wr
  ind e e' h := by
    have h1 := h n (by simp)
    have h2 := A.ind e e' fun k hk => h k (List.mem_cons_of_mem _ hk)
    simp only [h1, h2, and_self]
  loc e w w' h hok := by obtain ⟨fr, h1, h2⟩ := hok; exact ⟨fr, (h _ rfl).trans h1, h2⟩
  lt e w b hok hf := by
    obtain ⟨fr, h1, _⟩ := hok
    subst hf
    exact (Array.getElem?_eq_some_iff.1 h1).1
/-- What name n stands for is a slice that begins its own block, and holds these cells; or none, and there are none. -/
def Res.own (n : Nat) (T : TypeId) (size len : Nat) (xs : List Value) : Res where
  foot e b := (e n).v.ownBlock = some b
  ok e w := w.ownsRow 0 T size (e n).v len xs
  sup := [n]
  wr := true
  ind e e' h := by have h1 := h n (by simp); simp only [h1, and_self]
  loc e w w' h hok := by
    refine ⟨hok.1, ?_⟩
    rcases hok.2 with hn | ⟨g, cap, cur, hv, hb, hgg, rest⟩
    · exact .inl hn
    · exact .inr ⟨g, cap, cur, hv, hb, (h g (by rw [hv]; rfl)).trans hgg, rest⟩
  lt e w b hok hf := (hok.lt b hf).2

/-! ### states -/
def look {α : Type} : List (Nat × α) → Nat → Option α
  | [], _ => none
  | (j, x) :: l, i => cond (Nat.beq j i) (some x) (look l i)
theorem look_cons {α : Type} (j : Nat) (x : α) (l : List (Nat × α)) (i : Nat) : look ((j, x) :: l) i = if j = i then some x else look l i := by
  have hb : Nat.beq j i = decide (j = i) := by rw [Bool.eq_iff_iff]; simp
  rw [look, hb]
  by_cases h : j = i <;> simp [h]
theorem look_append {α : Type} (l m : List (Nat × α)) (i : Nat) : look (l ++ m) i = (look l i).or (look m i) := by
  induction l with
  | nil => rfl
  | cons p l ih =>
    obtain ⟨j, x⟩ := p
    rw [List.cons_append, look_cons, look_cons, ih]
    split <;> rfl
theorem look_some_mem {α : Type} {l : List (Nat × α)} {i : Nat} {x : α} (h : look l i = some x) : (i, x) ∈ l := by
  induction l with
  | nil => cases h
  | cons p l ih =>
    obtain ⟨j, y⟩ := p
    rw [look_cons] at h
    split at h
    · rename_i e; subst e; cases h; exact List.mem_cons_self
    · exact List.mem_cons_of_mem _ (ih h)
theorem look_isSome {α : Type} {l : List (Nat × α)} {i : Nat} (h : i ∈ l.map (·.1)) : ∃ x, look l i = some x := by
  induction l with
  | nil => cases h
  | cons p l ih =>
    obtain ⟨j, y⟩ := p
    rw [look_cons]
    by_cases e : j = i
    · exact ⟨y, by rw [if_pos e]⟩
    · rw [if_neg e]
      simp only [List.map_cons, List.mem_cons] at h
      rcases h with h | h
      · exact absurd h.symm e
      · exact ih h
/-- A state: temporaries, resources. -/
structure St where
  t : List (Nat × SV)
  h : List (Nat × Option Res)
def St.tmp (S : St) (i : Nat) : Option SV := look S.t i
def St.res (S : St) (n : Nat) : Option Res := (look S.h n).join
structure Ctx where
  nt : Nat
  w0 : World
  m : List Nat
def Ctx.mine (C : Ctx) (b : Nat) : Prop := C.w0.heap.size ≤ b ∨ b ∈ C.m
structure Ctx.frame (C : Ctx) (w : World) : Prop where
  os : w.os = C.w0.os
  tape : w.tape = C.w0.tape
  output : w.output = C.w0.output
  size : C.w0.heap.size ≤ w.heap.size
  block : ∀ k, k < C.w0.heap.size → k ∉ C.m → w.heap[k]? = C.w0.heap[k]?
theorem Ctx.frame.below {C : Ctx} {w : World} (h : C.frame w) (hm : C.m = []) : Below C.w0.heap.size C.w0 w :=
  ⟨h.os, h.tape, h.output, h.size, fun k hk => h.block k hk (by rw [hm]; simp)⟩
/-- The state holds of a run's frame and world. -/
structure Holds (C : Ctx) (S : St) (e : Env) (a : Act) (w : World) : Prop where
  defers : a.defers = []
  size : a.tmps.size = C.nt
  tmp : ∀ i v, S.tmp i = some v → a.tmps[i]? = some (v.den e)
  res : ∀ n r, S.res n = some r → r.ok e w
  mine : ∀ n r, S.res n = some r → r.wr = true → ∀ b, r.foot e b → C.mine b
  sep : ∀ n m r r', S.res n = some r → S.res m = some r' → n ≠ m → r.wr = true → ∀ b, r.foot e b → ¬ r'.foot e b
  frame : C.frame w
def St.like (S S' : St) : Prop := (∀ i, S'.tmp i = S.tmp i) ∧ ∀ n, S'.res n = S.res n
theorem Holds.like {C : Ctx} {S S' : St} {e : Env} {a : Act} {w : World} (h : Holds C S e a w) (hl : S.like S') : Holds C S' e a w :=
  ⟨h.defers, h.size, fun i v hv => h.tmp i v (by rw [← hl.1]; exact hv), fun n r hr => h.res n r (by rw [← hl.2]; exact hr), fun n r hr => h.mine n r (by rw [← hl.2]; exact hr),
    fun n m r r' hr hr' => h.sep n m r r' (by rw [← hl.2]; exact hr) (by rw [← hl.2]; exact hr'), h.frame⟩
/-- What an operation's operand holds. -/
def St.ev (S : St) : Operand → Option SV
  | .tmp t => S.tmp t
  | .const v => some (.c v)
  | .global g => some (.c (.pointer (some ⟨g, 0, none⟩)))
  | .func f => some (.c (.func (.func f) #[] #[]))
def opT : Operand → List Nat
  | .tmp t => [t]
  | _ => []
theorem Holds.ev {C : Ctx} {S : St} {e : Env} {a : Act} {w : World} (h : Holds C S e a w) {x : Operand} {v : SV} (hx : S.ev x = some v) : a.eval x = v.den e := by
  cases x with
  | tmp t =>
    have := h.tmp t v hx
    simp [Act.eval, Array.getD_eq_getD_getElem?, this]
  | const v => cases hx; rfl
  | global g => cases hx; rfl
  | func f => cases hx; rfl

/-! ### steps -/
/-- What an operation reads and writes: temporaries and names read; temporaries, resources written; names that come anew. -/
structure OS where
  rt : List Nat
  rb : List Nat
  wt : List (Nat × SV)
  wb : List (Nat × Option Res)
  nw : List Nat
def St.upd (S : St) (os : OS) : St := ⟨os.wt ++ S.t, os.wb ++ S.h⟩
def St.fresh (S : St) (n : Nat) : Prop := (∀ i v, S.tmp i = some v → n ∉ v.sup) ∧ (∀ m r, S.res m = some r → n ∉ r.sup)
def subB (l m : List Nat) : Bool := l.all fun x => m.any fun y => Nat.beq x y
theorem subB_spec {l m : List Nat} (h : subB l m = true) : ∀ x ∈ l, x ∈ m := by
  intro x hx
  have := List.all_eq_true.1 h x hx
  obtain ⟨y, hy, he⟩ := List.any_eq_true.1 this
  have : x = y := by simpa using he
  exact this ▸ hy
/-- All names of what it writes are read, or come anew. -/
def OS.names (os : OS) : Bool := os.wt.all (fun p => subB p.2.sup (os.nw ++ os.rb)) && os.wb.all fun p => match p.2 with | some r => subB r.sup (os.nw ++ os.rb) | none => true
section
variable (C : Ctx) (P : Program) (ops : Array Oper)
/-- One operation is a step from each state that is like S where it reads. -/
def OpG (o : Oper) (S : St) (os : OS) : Prop :=
  ∀ S' : St, (∀ i ∈ os.rt, S'.tmp i = S.tmp i) → (∀ n ∈ os.rb, S'.res n = S.res n) → (∀ n ∈ os.nw, S'.fresh n) → ∀ e a w, Holds C S' e a w →
    if Region.wanted o (yielded ops a.tmps) then o.wp P a w (fun a' w' => ∃ e', Holds C (S'.upd os) e' a' w') (fun _ _ _ => False)
    else ∃ e', Holds C (S'.upd os) e' (a.put o.dst undef) w
def freshB (S : St) (n : Nat) : Bool := (S.t.all fun p => !(p.2.sup.any fun y => Nat.beq n y)) && S.h.all fun p => match p.2 with | some r => !(r.sup.any fun y => Nat.beq n y) | none => true
theorem freshB_spec {S : St} {n : Nat} (h : freshB S n = true) : S.fresh n := by
  simp only [freshB, Bool.and_eq_true, List.all_eq_true] at h
  refine ⟨fun i v hv hn => ?_, fun m r hr hn => ?_⟩
  · have := h.1 _ (look_some_mem hv)
    simp only [Bool.not_eq_true', List.any_eq_false] at this
    exact this n hn (by simp)
  · unfold St.res at hr
    obtain ⟨o, ho, he⟩ : ∃ o, look S.h m = some o ∧ o = some r := by
      cases hl : look S.h m with
      | none => rw [hl] at hr; cases hr
      | some o => rw [hl] at hr; exact ⟨o, rfl, hr⟩
    subst he
    have := h.2 _ (look_some_mem ho)
    simp only [Bool.not_eq_true', List.any_eq_false] at this
    exact this n hn (by simp)
/-- The operations, one after the other. -/
def Chain : List Oper → St → List OS → St → Prop
  | [], S, [], S' => S = S'
  | o :: l, S, os :: r, S' => OpG C P ops o S os ∧ (os.nw.all (freshB S) = true) ∧ Chain l (S.upd os) r S'
  | _, _, _, _ => False
end
section
variable {C : Ctx} {P : Program} {ops : Array Oper} {Q : Exit → Act → World → Prop}
theorem wp_any {o : Oper} {a : Act} {w : World} {K : Act → World → Prop} (h : o.wp P a w K (fun _ _ _ => False)) : o.wp P a w K Q := by
  unfold Oper.wp at *
  generalize (execOp a.eval o).run P w = r at *
  cases r with
  | ok n w' =>
    cases n <;> simp only [Oper.upon] at h ⊢ <;> first | exact h | skip
    case enter f args =>
      refine Calls.mono h fun e w'' he => ?_
      cases e with
      | returned u => exact he
      | panicked c => exact he.elim
      | outgrown => obtain ⟨_, _, hf⟩ := he; exact hf.elim
  | halt x w' => cases x <;> simp only [Oper.upon] at h ⊢
theorem chain_list : ∀ (l : List Oper) (S : St) (r : List OS) (S' : St), Chain C P ops l S r S' → ∀ e a w, Holds C S e a w → (∀ e a w, Holds C S' e a w → Q .normal a w) → wpList P ops Q l a w
  | [], S, [], S', h, e, a, w, hS, hQ => by cases h; exact hQ e a w hS
  | o :: l, S, os :: r, S', ⟨h, hf, ht⟩, e, a, w, hS, hQ => by
    have h1 := h S (fun _ _ => rfl) (fun _ _ => rfl) (fun n hn => freshB_spec (List.all_eq_true.1 hf n hn)) e a w hS
    unfold wpList
    split at h1
    · rename_i hw
      rw [if_pos hw]
      exact .inl (wp_any (Oper.wp_mono (fun a' w' ⟨e', h'⟩ => chain_list l _ r S' ht e' a' w' h' hQ) h1))
    · rename_i hw
      rw [if_neg hw]
      obtain ⟨e', h'⟩ := h1
      exact chain_list l _ r S' ht e' _ w h' hQ
  | [], _, _ :: _, _, h, _, _, _, _, _ => h.elim
  | _ :: _, _, [], _, h, _, _, _, _, _ => h.elim
theorem chain_region {id : Nat} {l : List Oper} {S S' : St} {r : List OS} (h : Chain C P l.toArray l S r S') {e : Env} {a : Act} {w : World} (hS : Holds C S e a w) (hQ : ∀ e a w, Holds C S' e a w → Q .normal a w) : (Code.region id l.toArray false).wp P Q a w :=
  wp_region_lit (chain_list l S r S' h e a w hS hQ)

/-! ### a region that draws its order -/
def OS.effT (os : OS) (i : Nat) : Option (Option SV) := (look os.wt i).map some
def OS.effB (os : OS) (n : Nat) : Option (Option Res) := look os.wb n
theorem upd_tmp (S : St) (os : OS) (i : Nat) : (S.upd os).tmp i = (os.effT i).getD (S.tmp i) := by
  unfold St.upd St.tmp OS.effT
  rw [look_append]
  cases look os.wt i <;> rfl
theorem upd_res (S : St) (os : OS) (n : Nat) : (S.upd os).res n = (os.effB n).getD (S.res n) := by
  unfold St.upd St.res OS.effB
  rw [look_append]
  cases look os.wb n <;> rfl
/-- The state behind those steps that have been taken. -/
def folds : List OS → (Nat → Bool) → Nat → St → St
  | [], _, _, S => S
  | os :: r, E, k, S => folds r E (k + 1) (if E k then S.upd os else S)
def lastAt {α : Type} : List (Option α) → (Nat → Bool) → Nat → α → α
  | [], _, _, x => x
  | y :: l, E, k, x => lastAt l E (k + 1) (if E k then y.getD x else x)
theorem folds_tmp (r : List OS) (E : Nat → Bool) (i : Nat) : ∀ (k : Nat) (S : St), (folds r E k S).tmp i = lastAt (r.map (·.effT i)) E k (S.tmp i) := by
  induction r with
  | nil => intro k S; rfl
  | cons os r ih =>
    intro k S
    rw [folds, ih, List.map_cons, lastAt]
    congr 1
    split
    · exact upd_tmp S os i
    · rfl
theorem folds_res (r : List OS) (E : Nat → Bool) (n : Nat) : ∀ (k : Nat) (S : St), (folds r E k S).res n = lastAt (r.map (·.effB n)) E k (S.res n) := by
  induction r with
  | nil => intro k S; rfl
  | cons os r ih =>
    intro k S
    rw [folds, ih, List.map_cons, lastAt]
    congr 1
    split
    · exact upd_res S os n
    · rfl
theorem lastAt_congr {α : Type} (E E' : Nat → Bool) : ∀ (f : List (Option α)) (k : Nat) (x : α), (∀ j y, f[j]? = some (some y) → E (k + j) = E' (k + j)) → lastAt f E k x = lastAt f E' k x
  | [], _, _, _ => rfl
  | y :: f, k, x, h => by
    rw [lastAt, lastAt]
    have e1 : (if E k then y.getD x else x) = if E' k then y.getD x else x := by
      cases y with
      | none => simp
      | some y => have := h 0 y rfl; simp only [Nat.add_zero] at this; rw [this]
    rw [e1]
    exact lastAt_congr E E' f (k + 1) _ fun j z hj => by have := h (j + 1) z (by simpa using hj); rwa [show k + 1 + j = k + (j + 1) by omega]
theorem lastAt_none {α : Type} (E : Nat → Bool) : ∀ (f : List (Option α)) (k : Nat) (x : α), (∀ j y, f[j]? = some (some y) → E (k + j) = false) → lastAt f E k x = x
  | [], _, _, _ => rfl
  | y :: f, k, x, h => by
    have e1 : (if E k then y.getD x else x) = x := by
      cases y with
      | none => simp
      | some y => have := h 0 y rfl; simp only [Nat.add_zero] at this; simp [this]
    rw [lastAt, e1]
    exact lastAt_none E f (k + 1) _ fun j z hj => by have := h (j + 1) z (by simpa using hj); rwa [show k + 1 + j = k + (j + 1) by omega]
theorem lastAt_last {α : Type} (E : Nat → Bool) : ∀ (f : List (Option α)) (k : Nat) (x y : α) (j : Nat), f[j]? = some (some y) → E (k + j) = true → (∀ j' z, j < j' → f[j']? = some (some z) → E (k + j') = false) → lastAt f E k x = y
  | [], _, _, _, _, h, _, _ => by simp at h
  | z :: f, k, x, y, 0, h, h2, h3 => by
    have : z = some y := by simpa using h
    subst this
    rw [lastAt, if_pos (by simpa using h2)]
    exact lastAt_none E f (k + 1) _ fun j z hj => by have := h3 (j + 1) z (by omega) (by simpa using hj); rwa [show k + 1 + j = k + (j + 1) by omega]
  | z :: f, k, x, y, j + 1, h, h2, h3 => by
    rw [lastAt]
    exact lastAt_last E f (k + 1) _ y j (by simpa using h) (by rwa [show k + 1 + j = k + (j + 1) by omega]) fun j' z' hj' hz => by
      have := h3 (j' + 1) z' (by omega) (by simpa using hz); rwa [show k + 1 + j' = k + (j' + 1) by omega]

/-- Which operations must come ahead of each. -/
def maskOf (acc : List Nat) (es : List Edge) (s : Nat) : Nat := es.foldl (fun s e => if Region.binds .any e then s ||| 2 ^ e.on ||| acc.getD e.on 0 else s) s
def bef : List Oper → List Nat → List Nat
  | [], acc => acc
  | o :: l, acc => bef l (acc ++ [maskOf acc o.after.toList 0])
theorem maskOf_bit (acc : List Nat) (j : Nat) : ∀ (es : List Edge) (s : Nat), (maskOf acc es s).testBit j = true → s.testBit j = true ∨ ∃ e ∈ es, Region.binds .any e = true ∧ (j = e.on ∨ (acc.getD e.on 0).testBit j = true)
  | [], s, h => .inl h
  | e :: es, s, h => by
    rw [maskOf, List.foldl_cons] at h
    rcases maskOf_bit acc j es _ h with h1 | ⟨e', he', h2⟩
    · by_cases hb : Region.binds .any e = true
      · rw [if_pos hb, Nat.testBit_or, Nat.testBit_or, Nat.testBit_two_pow] at h1
        simp only [Bool.or_eq_true, decide_eq_true_eq] at h1
        rcases h1 with (h1 | h1) | h1
        · exact .inl h1
        · exact .inr ⟨e, List.mem_cons_self, hb, .inl h1.symm⟩
        · exact .inr ⟨e, List.mem_cons_self, hb, .inr h1⟩
      · rw [if_neg hb] at h1
        exact .inl h1
    · exact .inr ⟨e', List.mem_cons_of_mem _ he', h2⟩
/-- What has been taken, has been taken behind what must come ahead of it. -/
def ClosedE (E : Nat → Bool) (l : List Oper) : Prop := ∀ (i : Nat) (o : Oper), l[i]? = some o → E i = true → ∀ e ∈ o.after.toList, Region.binds .any e = true → E e.on = true
theorem bef_ok (E : Nat → Bool) (full : List Oper) (hc : ClosedE E full) : ∀ (l pre : List Oper) (acc : List Nat), pre ++ l = full → acc.length = pre.length → (∀ i m j, acc[i]? = some m → m.testBit j = true → E i = true → E j = true) →
    ∀ i m j, (bef l acc)[i]? = some m → m.testBit j = true → E i = true → E j = true
  | [], _, acc, _, _, h => h
  | o :: l, pre, acc, hf, hl, h => by
    refine bef_ok E full hc l (pre ++ [o]) _ (by simpa using hf) (by simp [hl]) fun i m j hi hm hE => ?_
    by_cases hlt : i < acc.length
    · rw [List.getElem?_append_left hlt] at hi
      exact h i m j hi hm hE
    · rw [List.getElem?_append_right (by omega)] at hi
      have hi0 : i = acc.length := by
        have := (List.getElem?_eq_some_iff.1 hi).1
        simp at this
        omega
      subst hi0
      simp only [Nat.sub_self, List.getElem?_cons_zero, Option.some.injEq] at hi
      subst hi
      have ho : full[acc.length]? = some o := by rw [← hf, hl]; simp
      rcases maskOf_bit acc j o.after.toList 0 hm with h0 | ⟨e, he, hb, h1⟩
      · simp at h0
      · have hEe := hc _ o ho hE e he hb
        rcases h1 with rfl | h1
        · exact hEe
        · by_cases hlt2 : e.on < acc.length
          · exact h e.on _ j (by rw [List.getElem?_eq_getElem hlt2]) (by rwa [List.getD_eq_getElem?_getD, List.getElem?_eq_getElem hlt2] at h1) hEe
          · rw [List.getD_eq_getElem?_getD, List.getElem?_eq_none (by omega)] at h1
            simp at h1
def disjB (l m : List Nat) : Bool := l.all fun x => !(m.any fun y => Nat.beq x y)
theorem disjB_spec {l m : List Nat} (h : disjB l m = true) {x : Nat} (h1 : x ∈ l) (h2 : x ∈ m) : False := by
  have := List.all_eq_true.1 h x h1
  simp only [Bool.not_eq_true', List.any_eq_false] at this
  exact this x h2 (by simp)
def OS.kt (os : OS) : List Nat := os.wt.map (·.1)
def OS.kb (os : OS) : List Nat := os.wb.map (·.1)
def indep (a b : OS) : Bool := disjB a.kt (b.rt ++ b.kt) && disjB b.kt a.rt && disjB a.kb (b.rb ++ b.kb) && disjB b.kb a.rb
def pairsB (bs : List Nat) (r : List OS) : Bool := (List.range r.length).all fun j => (List.range j).all fun i => (bs.getD j 0).testBit i || match r[i]?, r[j]? with | some a, some b => indep a b | _, _ => true
def downB (l : List Oper) : Bool := (List.range l.length).all fun i => match l[i]? with | some o => o.after.toList.all fun e => !Region.binds .any e || Nat.blt e.on i | none => true
/-- The region's steps may be taken in whatever order its edges allow. -/
def chk (l : List Oper) (r : List OS) : Bool := downB l && pairsB (bef l []) r && r.all fun os => os.names && subB os.nw os.kb
theorem effT_some {os : OS} {i : Nat} {y : Option SV} (h : os.effT i = some y) : i ∈ os.kt := by
  unfold OS.effT at h
  cases hl : look os.wt i with
  | none => rw [hl] at h; cases h
  | some v => exact List.mem_map.2 ⟨_, look_some_mem hl, rfl⟩
theorem effB_some {os : OS} {n : Nat} {y : Option Res} (h : os.effB n = some y) : n ∈ os.kb :=
  List.mem_map.2 ⟨_, look_some_mem h, rfl⟩
theorem chain_len : ∀ {l : List Oper} {S S' : St} {r : List OS}, Chain C P ops l S r S' → r.length = l.length
  | [], _, _, [], _ => rfl
  | _ :: _, _, _, _ :: _, ⟨_, _, ht⟩ => by simp [chain_len ht]
  | [], _, _, _ :: _, h => h.elim
  | _ :: _, _, _, [], h => h.elim
theorem folds_lt (r : List OS) (i : Nat) : ∀ (k : Nat) (S : St), i ≤ k → folds r (fun j => decide (j < i)) k S = S := by
  induction r with
  | nil => intro k S _; rfl
  | cons os r ih =>
    intro k S h
    rw [folds, if_neg (by simp; omega)]
    exact ih (k + 1) S (by omega)
theorem chain_at : ∀ {l : List Oper} {S S' : St} {r : List OS} (k : Nat), Chain C P ops l S r S' → ∀ i o, l[i]? = some o →
    ∃ os, r[i]? = some os ∧ OpG C P ops o (folds r (fun j => decide (j < k + i)) k S) os ∧ os.nw.all (freshB (folds r (fun j => decide (j < k + i)) k S)) = true
  | [], _, _, [], _, _, i, o, h => by simp at h
  | o :: l, S, S', os :: r, k, ⟨h, hf, ht⟩, 0, o', ho => by
    have : o = o' := by simpa using ho
    subst this
    refine ⟨os, rfl, ?_⟩
    rw [folds, if_neg (by simp), folds_lt r (k + 0) (k + 1) S (by omega)]
    exact ⟨h, hf⟩
  | o :: l, S, S', os :: r, k, ⟨h, hf, ht⟩, i + 1, o', ho => by
    obtain ⟨os', h1, h2⟩ := chain_at (k + 1) ht i o' (by simpa using ho)
    refine ⟨os', by simpa using h1, ?_⟩
    rw [folds, if_pos (by simp), show k + (i + 1) = k + 1 + i by omega]
    exact h2
  | [], _, _, _ :: _, _, h, _, _, _ => h.elim
  | _ :: _, _, _, [], _, h, _, _, _ => h.elim
theorem chain_end : ∀ {l : List Oper} {S S' : St} {r : List OS} (k : Nat), Chain C P ops l S r S' → S' = folds r (fun _ => true) k S
  | [], _, _, [], _, h => h.symm
  | _ :: _, S, S', os :: r, k, ⟨_, _, ht⟩ => by rw [folds, if_pos rfl]; exact chain_end (k + 1) ht
  | [], _, _, _ :: _, _, h => h.elim
  | _ :: _, _, _, [], _, h => h.elim
theorem freshB_folds {n : Nat} : ∀ (r : List OS) (E : Nat → Bool) (k : Nat) (S : St), freshB (folds r E k S) n = true → freshB S n = true ∧ ∀ j os, r[j]? = some os → E (k + j) = true → (∀ p ∈ os.wt, n ∉ p.2.sup) ∧ ∀ p ∈ os.wb, ∀ q, p.2 = some q → n ∉ q.sup
  | [], _, _, _, h => ⟨h, fun j os hj => by simp at hj⟩
  | os :: r, E, k, S, h => by
    rw [folds] at h
    obtain ⟨h1, h2⟩ := freshB_folds r E (k + 1) _ h
    have hup : E k = true → freshB S n = true ∧ (∀ p ∈ os.wt, n ∉ p.2.sup) ∧ ∀ p ∈ os.wb, ∀ q, p.2 = some q → n ∉ q.sup := by
      intro hE
      rw [if_pos hE] at h1
      simp only [freshB, St.upd, List.all_append, Bool.and_eq_true] at h1
      refine ⟨by simp only [freshB, Bool.and_eq_true]; exact ⟨h1.1.2, h1.2.2⟩, fun p hp hn => ?_, fun p hp q hq hn => ?_⟩
      · have := List.all_eq_true.1 h1.1.1 p hp
        simp only [Bool.not_eq_true', List.any_eq_false] at this
        exact this n hn (by simp)
      · have := List.all_eq_true.1 h1.2.1 p hp
        rw [hq] at this
        simp only [Bool.not_eq_true', List.any_eq_false] at this
        exact this n hn (by simp)
    refine ⟨?_, fun j os' hj hE => ?_⟩
    · by_cases hE : E k = true
      · exact (hup hE).1
      · rw [if_neg hE] at h1; exact h1
    · cases j with
      | zero =>
        have : os = os' := by simpa using hj
        subst this
        exact (hup (by simpa using hE)).2
      | succ j => exact h2 j os' (by simpa using hj) (by rwa [show k + 1 + j = k + (j + 1) by omega])
theorem mem_folds_tmp {v : SV} : ∀ (r : List OS) (E : Nat → Bool) (k : Nat) (S : St) (i : Nat), (folds r E k S).tmp i = some v → S.tmp i = some v ∨ ∃ j os, r[j]? = some os ∧ E (k + j) = true ∧ (i, v) ∈ os.wt
  | [], _, _, _, _, h => .inl h
  | os :: r, E, k, S, i, h => by
    rw [folds] at h
    rcases mem_folds_tmp r E (k + 1) _ i h with h1 | ⟨j, os', hj, hE, hm⟩
    · by_cases hE : E k = true
      · rw [if_pos hE, upd_tmp] at h1
        unfold OS.effT at h1
        cases hl : look os.wt i with
        | none => rw [hl] at h1; exact .inl h1
        | some u =>
          rw [hl] at h1
          have : u = v := by simpa using h1
          subst this
          exact .inr ⟨0, os, rfl, by simpa using hE, look_some_mem hl⟩
      · rw [if_neg hE] at h1; exact .inl h1
    · exact .inr ⟨j + 1, os', by simpa using hj, by rwa [show k + (j + 1) = k + 1 + j by omega], hm⟩
theorem mem_folds_res {q : Res} : ∀ (r : List OS) (E : Nat → Bool) (k : Nat) (S : St) (n : Nat), (folds r E k S).res n = some q → S.res n = some q ∨ ∃ j os, r[j]? = some os ∧ E (k + j) = true ∧ (n, some q) ∈ os.wb
  | [], _, _, _, _, h => .inl h
  | os :: r, E, k, S, n, h => by
    rw [folds] at h
    rcases mem_folds_res r E (k + 1) _ n h with h1 | ⟨j, os', hj, hE, hm⟩
    · by_cases hE : E k = true
      · rw [if_pos hE, upd_res] at h1
        unfold OS.effB at h1
        cases hl : look os.wb n with
        | none => rw [hl] at h1; exact .inl h1
        | some u =>
          rw [hl] at h1
          have : u = some q := by simpa using h1
          subst this
          exact .inr ⟨0, os, rfl, by simpa using hE, look_some_mem hl⟩
      · rw [if_neg hE] at h1; exact .inl h1
    · exact .inr ⟨j + 1, os', by simpa using hj, by rwa [show k + (j + 1) = k + 1 + j by omega], hm⟩

theorem exists_least' {p : Nat → Prop} (h : ∃ n, p n) : ∃ n, p n ∧ ∀ m, p m → n ≤ m := by
  obtain ⟨n, hn⟩ := h
  induction n using Nat.strongRecOn with
  | _ n ih =>
    by_cases hm : ∃ m, m < n ∧ p m
    · obtain ⟨m, hlt, hp⟩ := hm
      exact ih m hlt hp
    · exact ⟨n, hn, fun m hp => Nat.le_of_not_lt fun hlt => hm ⟨m, hlt, hp⟩⟩
/-- What the check says of two operations. -/
theorem pairsB_spec {bs : List Nat} {r : List OS} (h : pairsB bs r = true) {i j : Nat} (hij : i < j) {a b : OS} (ha : r[i]? = some a) (hb : r[j]? = some b) : (∃ m, bs[j]? = some m ∧ m.testBit i = true) ∨ indep a b = true := by
  have hj : j < r.length := (List.getElem?_eq_some_iff.1 hb).1
  have h1 := List.all_eq_true.1 (List.all_eq_true.1 h j (List.mem_range.2 hj)) i (List.mem_range.2 hij)
  rw [ha, hb] at h1
  simp only [Bool.or_eq_true] at h1
  rcases h1 with h1 | h1
  · left
    rw [List.getD_eq_getElem?_getD] at h1
    cases hm : bs[j]? with
    | none => rw [hm] at h1; simp at h1
    | some m => rw [hm] at h1; exact ⟨m, rfl, h1⟩
  · exact .inr h1
theorem step_any {l : List Oper} {S S' : St} {r : List OS} (hch : Chain C P ops l S r S') (hk : chk l r = true) (E : Nat → Bool) (hE : ClosedE E l) {i : Nat} {o : Oper} (ho : l[i]? = some o) (hi : E i = false)
    (hed : ∀ e ∈ o.after.toList, Region.binds .any e = true → E e.on = true) {e : Env} {a : Act} {w : World} (hS : Holds C (folds r E 0 S) e a w) :
    if Region.wanted o (yielded ops a.tmps) then o.wp P a w (fun a' w' => ∃ e', Holds C (folds r (fun j => E j || decide (j = i)) 0 S) e' a' w') (fun _ _ _ => False)
    else ∃ e', Holds C (folds r (fun j => E j || decide (j = i)) 0 S) e' (a.put o.dst undef) w := by
  obtain ⟨os, hr, hG, hF⟩ := chain_at 0 hch i o ho
  simp only [Nat.zero_add] at hG hF
  simp only [chk, Bool.and_eq_true, List.all_eq_true] at hk
  obtain ⟨⟨hdown, hpairs⟩, hnames⟩ := hk
  have hE' : ClosedE (fun j => E j || decide (j = i)) l := by
    intro j o' ho' hj e' he' hb'
    simp only [Bool.or_eq_true, decide_eq_true_eq] at hj ⊢
    rcases hj with hj | rfl
    · exact .inl (hE j o' ho' hj e' he' hb')
    · rw [ho] at ho'; cases ho'; exact .inl (hed e' he' hb')
  have bef0 := bef_ok E l hE l [] [] rfl rfl (by simp)
  have bef1 := bef_ok _ l hE' l [] [] rfl rfl (by simp)
  -- of those ahead: taken, or apart; of those behind: not taken, or apart
  have ahead : ∀ j b, j < i → r[j]? = some b → E j = true ∨ indep b os = true := by
    intro j b hj hb
    rcases pairsB_spec hpairs hj hb hr with ⟨m, hm, hbit⟩ | h
    · left
      have := bef1 i m j hm hbit (by simp)
      simpa [show ¬ j = i by omega] using this
    · exact .inr h
  have behind : ∀ j b, i < j → r[j]? = some b → E j = false ∨ indep os b = true := by
    intro j b hj hb
    rcases pairsB_spec hpairs hj hr hb with ⟨m, hm, hbit⟩ | h
    · left
      cases hEj : E j with
      | false => rfl
      | true => have := bef0 j m i hm hbit hEj; rw [hi] at this; cases this
    · exact .inr h
  have getT : ∀ (x j : Nat) (y : Option SV), (r.map (·.effT x))[j]? = some (some y) → ∃ b : OS, r[j]? = some b ∧ x ∈ b.kt := by
    intro x j y h
    rw [List.getElem?_map] at h
    cases hb : r[j]? with
    | none => rw [hb] at h; cases h
    | some b => rw [hb] at h; exact ⟨b, rfl, effT_some (by simpa using h)⟩
  have getB : ∀ (x j : Nat) (y : Option Res), (r.map (·.effB x))[j]? = some (some y) → ∃ b : OS, r[j]? = some b ∧ x ∈ b.kb := by
    intro x j y h
    rw [List.getElem?_map] at h
    cases hb : r[j]? with
    | none => rw [hb] at h; cases h
    | some b => rw [hb] at h; exact ⟨b, rfl, effB_some (by simpa using h)⟩
  have key : ∀ (j : Nat) (b : OS), r[j]? = some b → (E j = decide (j < i)) ∨ (j < i ∧ indep b os = true) ∨ (i < j ∧ indep os b = true) := by
    intro j b hb
    rcases Nat.lt_trichotomy j i with h | rfl | h
    · rcases ahead j b h hb with h1 | h1
      · left; simp [h1, h]
      · exact .inr (.inl ⟨h, h1⟩)
    · left; simp [hi]
    · rcases behind j b h hb with h1 | h1
      · left; simp [h1]; omega
      · exact .inr (.inr ⟨h, h1⟩)
  have ind : ∀ {a b : OS}, indep a b = true → disjB a.kt (b.rt ++ b.kt) = true ∧ disjB b.kt a.rt = true ∧ disjB a.kb (b.rb ++ b.kb) = true ∧ disjB b.kb a.rb = true := by
    intro a b h
    simp only [indep, Bool.and_eq_true] at h
    exact ⟨h.1.1.1, h.1.1.2, h.1.2, h.2⟩
  have h1 := hG (folds r E 0 S)
    (fun x hx => by
      rw [folds_tmp, folds_tmp]
      refine lastAt_congr _ _ _ _ _ fun j y hj => ?_
      obtain ⟨b, hb, hxb⟩ := getT x j y hj
      rw [Nat.zero_add]
      rcases key j b hb with h | ⟨_, h⟩ | ⟨_, h⟩
      · exact h
      · exact (disjB_spec (ind h).1 hxb (List.mem_append_left _ hx)).elim
      · exact (disjB_spec (ind h).2.1 hxb hx).elim)
    (fun x hx => by
      rw [folds_res, folds_res]
      refine lastAt_congr _ _ _ _ _ fun j y hj => ?_
      obtain ⟨b, hb, hxb⟩ := getB x j y hj
      rw [Nat.zero_add]
      rcases key j b hb with h | ⟨_, h⟩ | ⟨_, h⟩
      · exact h
      · exact (disjB_spec (ind h).2.2.1 hxb (List.mem_append_left _ hx)).elim
      · exact (disjB_spec (ind h).2.2.2 hxb hx).elim)
    (fun n hn => by
      obtain ⟨f0, f1⟩ := freshB_folds r _ 0 S (List.all_eq_true.1 hF n hn)
      have f2 := freshB_spec f0
      have hno := hnames os (List.mem_of_getElem? hr)
      have hnk : n ∈ os.kb := subB_spec hno.2 n hn
      -- no step that was taken names n
      have none : ∀ j b, r[j]? = some b → E (0 + j) = true → (∀ p ∈ b.wt, n ∉ p.2.sup) ∧ ∀ p ∈ b.wb, ∀ q, p.2 = some q → n ∉ q.sup := by
        intro j b hb hEj
        rw [Nat.zero_add] at hEj
        have hbn := (hnames b (List.mem_of_getElem? hb)).1
        have hbk := (hnames b (List.mem_of_getElem? hb)).2
        have far : ∀ (sup : List Nat), subB sup (b.nw ++ b.rb) = true → (∀ x ∈ os.kb, x ∉ b.kb ∧ x ∉ b.rb) → n ∉ sup := by
          intro sup hs hd hns
          rcases List.mem_append.1 (subB_spec hs n hns) with h | h
          · exact (hd n hnk).1 (subB_spec hbk n h)
          · exact (hd n hnk).2 h
        have names : (∀ x ∈ os.kb, x ∉ b.kb ∧ x ∉ b.rb) → (∀ p ∈ b.wt, n ∉ p.2.sup) ∧ ∀ p ∈ b.wb, ∀ q, p.2 = some q → n ∉ q.sup := by
          intro hd
          simp only [OS.names, Bool.and_eq_true, List.all_eq_true] at hbn
          refine ⟨fun p hp => far _ (hbn.1 p hp) hd, fun p hp q hq => ?_⟩
          have := hbn.2 p hp
          rw [hq] at this
          exact far _ this hd
        rcases key j b hb with h | ⟨_, h⟩ | ⟨_, h⟩
        · rw [hEj] at h
          exact f1 j b hb (by simpa using h.symm)
        · refine names fun x hx => ⟨fun hxb => disjB_spec (ind h).2.2.1 hxb (List.mem_append_right _ hx), fun hxb => disjB_spec (ind h).2.2.2 hx hxb⟩
        · refine names fun x hx => ⟨fun hxb => disjB_spec (ind h).2.2.1 hx (List.mem_append_right _ hxb), fun hxb => disjB_spec (ind h).2.2.1 hx (List.mem_append_left _ hxb)⟩
      refine ⟨fun i v hv => ?_, fun m q hq => ?_⟩
      · rcases mem_folds_tmp r E 0 S i hv with h | ⟨j, b, hb, hEj, hm⟩
        · exact f2.1 i v h
        · exact (none j b hb hEj).1 _ hm
      · rcases mem_folds_res r E 0 S m hq with h | ⟨j, b, hb, hEj, hm⟩
        · exact f2.2 m q h
        · exact (none j b hb hEj).2 _ hm q rfl)
    e a w hS
  have hlike : ((folds r E 0 S).upd os).like (folds r (fun j => E j || decide (j = i)) 0 S) := by
    constructor
    · intro x
      rw [upd_tmp, folds_tmp, folds_tmp]
      cases hx : os.effT x with
      | none =>
        refine lastAt_congr _ _ _ _ _ fun j y hj => ?_
        rw [Nat.zero_add]
        by_cases hji : j = i
        · subst hji
          rw [List.getElem?_map, hr] at hj
          simp [hx] at hj
        · simp [hji]
      | some y =>
        refine lastAt_last _ _ _ _ _ i (by rw [List.getElem?_map, hr]; simp [hx]) (by simp) fun j' z hj' hz => ?_
        obtain ⟨b, hb, hxb⟩ := getT x j' z hz
        rw [Nat.zero_add]
        rcases behind j' b hj' hb with h | h
        · simp [h]; omega
        · exact (disjB_spec (ind h).1 (effT_some hx) (List.mem_append_right _ hxb)).elim
    · intro x
      rw [upd_res, folds_res, folds_res]
      cases hx : os.effB x with
      | none =>
        refine lastAt_congr _ _ _ _ _ fun j y hj => ?_
        rw [Nat.zero_add]
        by_cases hji : j = i
        · subst hji
          rw [List.getElem?_map, hr] at hj
          simp [hx] at hj
        · simp [hji]
      | some y =>
        refine lastAt_last _ _ _ _ _ i (by rw [List.getElem?_map, hr]; simp [hx]) (by simp) fun j' z hj' hz => ?_
        obtain ⟨b, hb, hxb⟩ := getB x j' z hz
        rw [Nat.zero_add]
        rcases behind j' b hj' hb with h | h
        · simp [h]; omega
        · exact (disjB_spec (ind h).2.2.1 (effB_some hx) (List.mem_append_right _ hxb)).elim
  split at h1
  · rename_i hw
    rw [if_pos hw]
    exact Oper.wp_mono (fun a' w' ⟨e', h'⟩ => ⟨e', h'.like hlike⟩) h1
  · rename_i hw
    rw [if_neg hw]
    obtain ⟨e', h'⟩ := h1
    exact ⟨e', h'.like hlike⟩
theorem listed_set {listed : Array Bool} {i : Nat} (h : i < listed.size) : (fun j => (listed.setIfInBounds i true).getD j false) = fun j => listed.getD j false || decide (j = i) := by
  funext j
  by_cases hj : j = i
  · subst hj; simp [h]
  · have : i ≠ j := fun e => hj e.symm
    simp [hj, Array.getElem?_setIfInBounds_ne this]
theorem any_order {l : List Oper} {S S' : St} {r : List OS} (hch : Chain C P l.toArray l S r S') (hk : chk l r = true) (hQ : ∀ e a w, Holds C S' e a w → Q .normal a w) :
    ∀ (fuel : Nat) (listed : Array Bool), listed.size = l.length → (listed.toList.countP (· == false)) = fuel → ClosedE (fun j => listed.getD j false) l → ∀ e a w, Holds C (folds r (fun j => listed.getD j false) 0 S) e a w →
      wpAny P .any l.toArray Q fuel listed a w := by
  intro fuel
  have hdown : downB l = true := by simp only [chk, Bool.and_eq_true] at hk; exact hk.1.1
  induction fuel with
  | zero =>
    intro listed hsz hcnt hE e a w hS
    have hall : ∀ i, i < l.length → listed.getD i false = true := by
      intro i hi
      rw [List.countP_eq_zero] at hcnt
      have := hcnt (listed[i]'(by omega)) (by simp)
      simp only [beq_false, Bool.not_eq_true', Bool.not_eq_false] at this
      simp only [Array.getD_eq_getD_getElem?, Array.getElem?_eq_getElem (show i < listed.size by omega), Option.getD_some]
      simpa using this
    refine ⟨?_, hQ e a w (hS.like ?_)⟩
    · unfold Region.ready
      rw [List.filter_eq_nil_iff]
      intro i hi
      have hi' : i < l.length := by simpa using hi
      have := hall i hi'
      have h2 : listed.getD i true = true := by
        simp only [Array.getD_eq_getD_getElem?, Array.getElem?_eq_getElem (show i < listed.size by omega), Option.getD_some] at this ⊢
        exact this
      simp [h2]
    · rw [chain_end 0 hch]
      have hlen := chain_len hch
      constructor
      · intro x
        rw [folds_tmp, folds_tmp]
        refine lastAt_congr _ _ _ _ _ fun j y hj => ?_
        have hjl : j < l.length := by have := (List.getElem?_eq_some_iff.1 hj).1; simp at this; omega
        simp only [Nat.zero_add, hall j hjl]
      · intro x
        rw [folds_res, folds_res]
        refine lastAt_congr _ _ _ _ _ fun j y hj => ?_
        have hjl : j < l.length := by have := (List.getElem?_eq_some_iff.1 hj).1; simp at this; omega
        simp only [Nat.zero_add, hall j hjl]
  | succ fuel ih =>
    intro listed hsz hcnt hE e a w hS
    refine ⟨fun hnil => ?_, fun i hi => ?_⟩
    · -- the first that was not taken is ready
      exfalso
      have hex : ∃ i, i < l.length ∧ listed.getD i true = false := by
        have : 0 < listed.toList.countP (· == false) := by omega
        rw [List.countP_pos_iff] at this
        obtain ⟨b, hb, hf⟩ := this
        obtain ⟨i, hi, he⟩ := List.getElem_of_mem hb
        have hi2 : i < listed.size := by simpa using hi
        refine ⟨i, by omega, ?_⟩
        have hb2 : b = false := by simpa using hf
        simp only [Array.getD_eq_getD_getElem?, Array.getElem?_eq_getElem hi2, Option.getD_some]
        rw [← hb2, ← he]; simp
      obtain ⟨i, ⟨hi, hif⟩, hmin⟩ := exists_least' (p := fun i => i < l.length ∧ listed.getD i true = false) hex
      have : i ∈ Region.ready .any l.toArray listed := by
        unfold Region.ready
        rw [List.mem_filter]
        refine ⟨by simpa using hi, ?_⟩
        have ho : l[i]? = some l[i] := List.getElem?_eq_getElem hi
        simp only [hif, Bool.not_false, Bool.true_and, List.getElem?_toArray, ho, Option.map_some, Option.getD_some]
        rw [← Array.all_toList, List.all_eq_true]
        intro x hx
        by_cases hb : Region.binds .any x = true
        · have hd := List.all_eq_true.1 hdown i (List.mem_range.2 hi)
          rw [ho] at hd
          have hlt := List.all_eq_true.1 hd x hx
          rw [hb] at hlt
          have hlt2 : x.on < i := by simpa [Nat.blt_eq] using hlt
          simp only [hb, Bool.not_true, Bool.false_or]
          cases hl : listed.getD x.on false with
          | true => rfl
          | false =>
            exfalso
            have h3 : listed.getD x.on true = false := by
              simp only [Array.getD_eq_getD_getElem?, Array.getElem?_eq_getElem (show x.on < listed.size by omega), Option.getD_some] at hl ⊢
              exact hl
            have := hmin x.on ⟨by omega, h3⟩
            omega
        · simp [hb]
      rw [hnil] at this
      cases this
    · unfold Region.ready at hi
      rw [List.mem_filter] at hi
      obtain ⟨hir, hi2⟩ := hi
      have hil : i < l.length := by simpa using hir
      have ho : l[i]? = some l[i] := List.getElem?_eq_getElem hil
      simp only [List.getElem?_toArray, ho, Option.map_some, Option.getD_some, Bool.and_eq_true, Bool.not_eq_true'] at hi2
      obtain ⟨hif, hed⟩ := hi2
      have hif2 : listed.getD i false = false := by
        simp only [Array.getD_eq_getD_getElem?, Array.getElem?_eq_getElem (show i < listed.size by omega), Option.getD_some] at hif ⊢
        exact hif
      rw [← Array.all_toList, List.all_eq_true] at hed
      have hed2 : ∀ x ∈ l[i].after.toList, Region.binds .any x = true → listed.getD x.on false = true := by
        intro x hx hb
        have := hed x hx
        rw [hb] at this
        simpa using this
      have h1 := step_any hch hk (fun j => listed.getD j false) hE ho hif2 hed2 hS
      have hset := listed_set (listed := listed) (i := i) (by omega)
      have hE2 : ClosedE (fun j => (listed.setIfInBounds i true).getD j false) l := by
        rw [hset]
        intro j o' ho' hj x hx hb
        simp only [Bool.or_eq_true, decide_eq_true_eq] at hj ⊢
        rcases hj with hj | rfl
        · exact .inl (hE j o' ho' hj x hx hb)
        · rw [ho] at ho'; cases ho'; exact .inl (hed2 x hx hb)
      have hcnt2 : (listed.setIfInBounds i true).toList.countP (· == false) = fuel := by
        rw [Array.toList_setIfInBounds, List.countP_set (by simp; omega)]
        have : listed.toList[i]'(by simp; omega) = false := by
          simp only [Array.getD_eq_getD_getElem?, Array.getElem?_eq_getElem (show i < listed.size by omega), Option.getD_some] at hif
          simpa using hif
        rw [this, hcnt]
        simp
      have next : ∀ e' a' w', Holds C (folds r (fun j => (listed.getD j false || decide (j = i))) 0 S) e' a' w' → wpAny P .any l.toArray Q fuel (listed.setIfInBounds i true) a' w' := by
        intro e' a' w' h'
        rw [← hset] at h'
        exact ih _ (by simpa using hsz) hcnt2 hE2 e' a' w' h'
      unfold wpOp
      simp only [List.getElem?_toArray, ho]
      split at h1
      · rename_i hw
        rw [if_pos hw]
        exact .inl (wp_any (Oper.wp_mono (fun a' w' ⟨e', h'⟩ => next e' a' w' h') h1))
      · rename_i hw
        rw [if_neg hw]
        obtain ⟨e', h'⟩ := h1
        exact next e' _ w h'
theorem Holds.drew' {S : St} {e : Env} {a : Act} {w : World} (h : Holds C S e a w) : Holds C S e a { w with drawn := w.drawn + 1 } :=
  ⟨h.defers, h.size, h.tmp, fun n r hr => r.loc e w _ (fun _ _ => rfl) (h.res n r hr), h.mine, h.sep, ⟨h.frame.os, h.frame.tape, h.frame.output, h.frame.size, h.frame.block⟩⟩
theorem draw_region {id : Nat} {l : List Oper} {S S' : St} {r : List OS} (hm : P.follows .mixedOrders = true) (h : Chain C P l.toArray l S r S') (hk : chk l r = true) {e : Env} {a : Act} {w : World} (hS : Holds C S e a w) (hQ : ∀ e a w, Holds C S' e a w → Q .normal a w) :
    (Code.region id l.toArray true).wp P Q a w := by
  refine wp_region_any hm ?_
  have h0 : folds r (fun j => (Array.replicate l.length false).getD j false) 0 S = S := by
    have : (fun j => (Array.replicate l.length false).getD j false) = fun j => decide (j < 0) := by
      funext j
      simp only [Array.getD_eq_getD_getElem?, Array.getElem?_replicate]
      split <;> simp
    rw [this]
    exact folds_lt r 0 0 S (Nat.le_refl _)
  have := any_order (Q := Q) h hk hQ l.length (Array.replicate l.length false) (by simp) (by simp [List.countP_replicate]) (by
    intro i o ho hi
    simp only [Array.getD_eq_getD_getElem?, Array.getElem?_replicate] at hi
    split at hi <;> cases hi) e a _ (by rw [h0]; exact hS.drew')
  simpa using this
end
end Go.Proofs.Ytcgmapioelfneaa
