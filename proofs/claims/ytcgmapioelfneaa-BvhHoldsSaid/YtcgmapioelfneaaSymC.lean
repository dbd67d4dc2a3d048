/- How code is walked from state to state; how a function is entered and left. No condition. -/
import Derived.Test.YtcgmapioelfneaaSymB
namespace Go.Proofs.Ytcgmapioelfneaa
open Go.RowKit

/-- Walked from the state S on, the code ends as Q says. -/
def Tri (C : Ctx) (P : Program) (S : St) (c : Code) (Q : Exit → Act → World → Prop) : Prop := ∀ e a w, Holds C S e a w → c.wp P Q a w
/-- In the state S so much may be said. -/
def EndA (C : Ctx) (S : St) (K : Act → World → Prop) : Prop := ∀ e a w, Holds C S e a w → K a w
/-- The state S is a state S', too. -/
def Ents (C : Ctx) (S S' : St) : Prop := ∀ e a w, Holds C S e a w → ∃ e', Holds C S' e' a w
section
variable {C : Ctx} {P : Program} {S S' : St} {Q : Exit → Act → World → Prop}

theorem tri_seq {x y : Code} (h : Tri C P S x (Exit.then (fun a w => y.wp P Q a w) Q)) : Tri C P S (.seq x y) Q := fun e a w hS => wp_seq (h e a w hS)
theorem end_seq {y : Code} {Q' : Exit → Act → World → Prop} (h : Tri C P S y Q) : EndA C S (Exit.then (fun a w => y.wp P Q a w) Q' .normal) := h
/-- The operations one after the other, and what is to be shown behind them; x: what the first one's guard reads. -/
def WalkTo (C : Ctx) (P : Program) (ops : Array Oper) : List Nat → List Oper → St → List OS → (St → List OS → Prop) → Prop
  | _, [], S, acc, K => K S acc.reverse
  | x, o :: l, S, acc, K => ∃ os : OS, OpG C P ops o S ⟨x ++ os.rt, os.rb, os.wt, os.wb, os.nw⟩ ∧ os.nw.all (freshB S) = true ∧ WalkTo C P ops [] l (S.upd os) (⟨x ++ os.rt, os.rb, os.wt, os.wb, os.nw⟩ :: acc) K
theorem opG_more {ops : Array Oper} {o : Oper} {os : OS} (x : List Nat) (h : OpG C P ops o S os) : OpG C P ops o S ⟨x ++ os.rt, os.rb, os.wt, os.wb, os.nw⟩ := fun S' h1 h2 h3 => h S' (fun i hi => h1 i (List.mem_append_right _ hi)) h2 h3
section
variable {ops : Array Oper} {o : Oper} {l : List Oper} {acc : List OS} {K : St → List OS → Prop} {t : List (Nat × SV)} {h : List (Nat × Option Res)} {rt rb x : List Nat} {d n : Nat} {v : SV} {r : Option Res} {nw : List Nat}
theorem walk_t (ho : OpG C P ops o ⟨t, h⟩ ⟨rt, rb, [(d, v)], [], []⟩) (ht : WalkTo C P ops [] l ⟨(d, v) :: t, h⟩ (⟨x ++ rt, rb, [(d, v)], [], []⟩ :: acc) K) : WalkTo C P ops x (o :: l) ⟨t, h⟩ acc K := ⟨⟨rt, rb, [(d, v)], [], []⟩, opG_more x ho, rfl, ht⟩
theorem walk_n (ho : OpG C P ops o ⟨t, h⟩ ⟨rt, rb, [(d, v)], [(n, r)], [n]⟩) (hf : freshB ⟨t, h⟩ n = true) (ht : WalkTo C P ops [] l ⟨(d, v) :: t, (n, r) :: h⟩ (⟨x ++ rt, rb, [(d, v)], [(n, r)], [n]⟩ :: acc) K) : WalkTo C P ops x (o :: l) ⟨t, h⟩ acc K := ⟨⟨rt, rb, [(d, v)], [(n, r)], [n]⟩, opG_more x ho, by simp [hf], ht⟩
theorem walk_b (ho : OpG C P ops o ⟨t, h⟩ ⟨rt, rb, [], [(n, r)], []⟩) (ht : WalkTo C P ops [] l ⟨t, (n, r) :: h⟩ (⟨x ++ rt, rb, [], [(n, r)], []⟩ :: acc) K) : WalkTo C P ops x (o :: l) ⟨t, h⟩ acc K := ⟨⟨rt, rb, [], [(n, r)], []⟩, opG_more x ho, rfl, ht⟩
theorem walk_0 (ho : OpG C P ops o ⟨t, h⟩ ⟨rt, rb, [], [], []⟩) (ht : WalkTo C P ops [] l ⟨t, h⟩ (⟨x ++ rt, rb, [], [], []⟩ :: acc) K) : WalkTo C P ops x (o :: l) ⟨t, h⟩ acc K := ⟨⟨rt, rb, [], [], []⟩, opG_more x ho, rfl, ht⟩
theorem walk_g {m : Nat} {q : Res} {q0 : Option Res} (ho : OpG C P ops o ⟨t, h⟩ ⟨rt, rb, [(d, v)], [(m, q0), (n, some q)], [n]⟩) (hf : freshB ⟨t, h⟩ n = true) (ht : WalkTo C P ops [] l ⟨(d, v) :: t, (m, q0) :: (n, some q) :: h⟩ (⟨x ++ rt, rb, [(d, v)], [(m, q0), (n, some q)], [n]⟩ :: acc) K) : WalkTo C P ops x (o :: l) ⟨t, h⟩ acc K := ⟨⟨rt, rb, [(d, v)], [(m, q0), (n, some q)], [n]⟩, opG_more x ho, by simp [hf], ht⟩
/-- ... where no order is drawn: what was read need not be kept. -/
def Walk1 (C : Ctx) (P : Program) (ops : Array Oper) : List Oper → St → (St → Prop) → Prop
  | [], S, K => K S
  | o :: l, S, K => ∃ os : OS, OpG C P ops o S os ∧ os.nw.all (freshB S) = true ∧ Walk1 C P ops l (S.upd os) K
end
section
variable {ops : Array Oper} {o : Oper} {l : List Oper} {K : St → Prop} {t : List (Nat × SV)} {h : List (Nat × Option Res)} {rt rb : List Nat} {d n : Nat} {v : SV} {r : Option Res} {nw : List Nat}
theorem walk1_t (ho : OpG C P ops o ⟨t, h⟩ ⟨rt, rb, [(d, v)], [], []⟩) (ht : Walk1 C P ops l ⟨(d, v) :: t, h⟩ K) : Walk1 C P ops (o :: l) ⟨t, h⟩ K := ⟨_, ho, rfl, ht⟩
theorem walk1_n (ho : OpG C P ops o ⟨t, h⟩ ⟨rt, rb, [(d, v)], [(n, r)], [n]⟩) (hf : freshB ⟨t, h⟩ n = true) (ht : Walk1 C P ops l ⟨(d, v) :: t, (n, r) :: h⟩ K) : Walk1 C P ops (o :: l) ⟨t, h⟩ K := ⟨_, ho, by simp [hf], ht⟩
theorem walk1_b (ho : OpG C P ops o ⟨t, h⟩ ⟨rt, rb, [], [(n, r)], []⟩) (ht : Walk1 C P ops l ⟨t, (n, r) :: h⟩ K) : Walk1 C P ops (o :: l) ⟨t, h⟩ K := ⟨_, ho, rfl, ht⟩
theorem walk1_0 (ho : OpG C P ops o ⟨t, h⟩ ⟨rt, rb, [], [], []⟩) (ht : Walk1 C P ops l ⟨t, h⟩ K) : Walk1 C P ops (o :: l) ⟨t, h⟩ K := ⟨_, ho, rfl, ht⟩
theorem walk1_g {m : Nat} {q : Res} {q0 : Option Res} (ho : OpG C P ops o ⟨t, h⟩ ⟨rt, rb, [(d, v)], [(m, q0), (n, some q)], [n]⟩) (hf : freshB ⟨t, h⟩ n = true) (ht : Walk1 C P ops l ⟨(d, v) :: t, (m, q0) :: (n, some q) :: h⟩ K) : Walk1 C P ops (o :: l) ⟨t, h⟩ K := ⟨_, ho, by simp [hf], ht⟩
theorem walk1_chain {ops : Array Oper} : ∀ (l : List Oper) (S : St), Walk1 C P ops l S K → ∃ r S', Chain C P ops l S r S' ∧ K S'
  | [], S, h => ⟨[], S, rfl, h⟩
  | o :: l, S, ⟨os, h1, h2, h3⟩ => by
    obtain ⟨r, S', hc, hK⟩ := walk1_chain l _ h3
    exact ⟨os :: r, S', ⟨h1, h2, hc⟩, hK⟩
theorem walk1_end {K : Act → World → Prop} (h : EndA C S K) : Walk1 C P ops [] S (fun S' => EndA C S' K) := h
end
theorem walk_chain {ops : Array Oper} {K : St → List OS → Prop} : ∀ (x : List Nat) (l : List Oper) (S : St) (acc : List OS), WalkTo C P ops x l S acc K → ∃ r S', Chain C P ops l S r S' ∧ K S' (acc.reverse ++ r)
  | _, [], S, acc, h => ⟨[], S, rfl, by rw [List.append_nil]; exact h⟩
  | x, o :: l, S, acc, ⟨os, h1, h2, h3⟩ => by
    obtain ⟨r, S', hc, hK⟩ := walk_chain [] l _ _ h3
    exact ⟨⟨x ++ os.rt, os.rb, os.wt, os.wb, os.nw⟩ :: r, S', ⟨h1, h2, hc⟩, by simpa using hK⟩
theorem tri_reg {id : Nat} {l : List Oper} (h : Walk1 C P l.toArray l S fun S' => EndA C S' (Q .normal)) : Tri C P S (.region id l.toArray false) Q := fun _ _ _ hS => by
  obtain ⟨r, S', hc, hK⟩ := walk1_chain l S h
  exact chain_region hc hS hK
theorem mixed_ok : Try.prog.follows .mixedOrders = true := by kernel_rfl
theorem tri_draw {id : Nat} {l : List Oper} (h : WalkTo C Try.prog l.toArray [] l S [] fun S' r => chk l r = true ∧ EndA C S' (Q .normal)) : Tri C Try.prog S (.region id l.toArray true) Q := fun _ _ _ hS => by
  obtain ⟨r, S', hc, hk, hK⟩ := walk_chain [] l S [] h
  exact draw_region mixed_ok hc hk hS hK
theorem walk_endD {ops : Array Oper} {acc : List OS} {l : List Oper} {K : Act → World → Prop} (hk : chk l acc.reverse = true) (h : EndA C S K) : WalkTo C P ops [] [] S acc (fun S' r => chk l r = true ∧ EndA C S' K) := ⟨hk, h⟩
theorem end_then {K : Act → World → Prop} (h : EndA C S K) : EndA C S (Exit.then K Q .normal) := h
theorem end_then_ret {K : Act → World → Prop} (h : EndA C S (Q .ret)) : EndA C S (Exit.then K Q .ret) := h
theorem end_then_exit {K : Act → World → Prop} {id : Nat} (h : EndA C S (Q (.exit id))) : EndA C S (Exit.then K Q (.exit id)) := h
theorem end_block {id : Nat} (h : EndA C S (Q .normal)) : EndA C S (Exit.inBlock id Q .normal) := h
theorem end_block_ret {id : Nat} (h : EndA C S (Q .ret)) : EndA C S (Exit.inBlock id Q .ret) := h
theorem end_block_exit {id : Nat} (h : EndA C S (Q .normal)) : EndA C S (Exit.inBlock id Q (.exit id)) := fun e a w hS => by
  show if id = id then Q .normal a w else Q (.exit id) a w
  rw [if_pos rfl]; exact h e a w hS
theorem end_block_other {id id' : Nat} (hne : Nat.beq id' id = false) (h : EndA C S (Q (.exit id'))) : EndA C S (Exit.inBlock id Q (.exit id')) := fun e a w hS => by
  show if id' = id then Q .normal a w else Q (.exit id') a w
  rw [if_neg (fun he => by subst he; simp at hne)]; exact h e a w hS
theorem end_scope {x : Exit} (hx : ∀ l, x ≠ .goto l) (h : EndA C S (Q x)) : EndA C S (Exit.noGoto Q x) := fun e a w hS => by
  cases x <;> first | exact h e a w hS | exact absurd rfl (hx _)
theorem tri_skip (h : EndA C S (Q .normal)) : Tri C P S .skip Q := fun e a w hS => wp_skip (h e a w hS)
theorem tri_label {l : Nat} (h : EndA C S (Q .normal)) : Tri C P S (.label l) Q := fun e a w hS => wp_label (h e a w hS)
theorem tri_ret (h : EndA C S (Q .ret)) : Tri C P S .ret Q := fun e a w hS => wp_ret (h e a w hS)
theorem tri_exit {id : Nat} (h : EndA C S (Q (.exit id))) : Tri C P S (.exit id) Q := fun e a w hS => wp_exit (h e a w hS)
theorem tri_block {id : Nat} {c : Code} (h : Tri C P S c (Exit.inBlock id Q)) : Tri C P S (.block id c) Q := fun e a w hS => wp_block (h e a w hS)
theorem tri_scope {c : Code} (h : Tri C P S c (Exit.noGoto Q)) : Tri C P S (.scope c) Q := fun e a w hS => wp_scope_straight (h e a w hS)
theorem tri_cond {c : Operand} {x y : Code} {b : Bool} (hc : S.ev c = some (.c (.bool b))) (ht : b = true → Tri C P S x Q) (hf : b = false → Tri C P S y Q) : Tri C P S (.cond c x y) Q := fun e a w hS =>
  wp_cond_split (t := b) (hS.ev hc) (fun h => ht h e a w hS) (fun h => hf h e a w hS)
theorem tri_true {c : Operand} {x y : Code} {b : Bool} (hc : S.ev c = some (.c (.bool b))) (hb : b = true) (h : Tri C P S x Q) : Tri C P S (.cond c x y) Q := tri_cond hc (fun _ => h) (fun h2 => by rw [hb] at h2; cases h2)
theorem tri_false {c : Operand} {x y : Code} {b : Bool} (hc : S.ev c = some (.c (.bool b))) (hb : b = false) (h : Tri C P S y Q) : Tri C P S (.cond c x y) Q := tri_cond hc (fun h2 => by rw [hb] at h2; cases h2) (fun _ => h)
theorem tri_yes {c : Operand} {x y : Code} {p : Prop} [Decidable p] (hc : S.ev c = some (.c (.bool (decide p)))) (hp : p) (h : Tri C P S x Q) : Tri C P S (.cond c x y) Q := tri_true hc (by simpa using hp) h
theorem tri_no {c : Operand} {x y : Code} {p : Prop} [Decidable p] (hc : S.ev c = some (.c (.bool (decide p)))) (hp : ¬ p) (h : Tri C P S y Q) : Tri C P S (.cond c x y) Q := tri_false hc (by simpa using hp) h
theorem tri_ent (h : Ents C S S') {c : Code} (ht : Tri C P S' c Q) : Tri C P S c Q := fun e a w hS => let ⟨e', h'⟩ := h e a w hS; ht e' a w h'
theorem end_ent (h : Ents C S S') {K : Act → World → Prop} (ht : EndA C S' K) : EndA C S K := fun e a w hS => let ⟨e', h'⟩ := h e a w hS; ht e' a w h'
/-! ### guards -/
section
variable {ops : Array Oper} {dst : Option Tmp} {op : Op} {ty : TypeId} {pos : String} {after : Array Edge} {j : Nat} {want b : Bool} {g d : Nat} {l : List Oper} {t : List (Nat × SV)} {h : List (Nat × Option Res)}
theorem yielded_of {e : Env} {a : Act} {w : World} (hS : Holds C S e a w) (hj : (ops[j]?).bind (·.dst) = some g) (hv : S.tmp g = some (.c (.bool b))) : yielded ops a.tmps j = some b := by
  have := hS.tmp g _ hv
  unfold yielded
  rw [hj]
  simp only [Option.bind_some, this]
  rfl
theorem opG_yes {os : OS} (hj : (ops[j]?).bind (·.dst) = some g) (hv : S.tmp g = some (.c (.bool b))) (hb : b = want) (ho : OpG C P ops ⟨dst, op, ty, pos, after, none⟩ S os) : OpG C P ops ⟨dst, op, ty, pos, after, some (j, want)⟩ S ⟨g :: os.rt, os.rb, os.wt, os.wb, os.nw⟩ := by
  intro S' h1 h2 h3 e a w hS
  have hy := yielded_of (ops := ops) hS hj ((h1 g (by simp)).trans hv)
  rw [if_pos (by simp [Region.wanted, hy, hb])]
  have := ho S' (fun i hi => h1 i (List.mem_cons_of_mem _ hi)) h2 h3 e a w hS
  rw [if_pos (by simp [Region.wanted])] at this
  exact this
theorem opG_no (hj : (ops[j]?).bind (·.dst) = some g) (hv : S.tmp g = some (.c (.bool b))) (hb : b = !want) (hd : dstB dst C.nt = true) : OpG C P ops ⟨dst, op, ty, pos, after, some (j, want)⟩ S ⟨[g], [], dw dst (.c undef), [], []⟩ := by
  intro S' h1 h2 h3 e a w hS
  have hy := yielded_of (ops := ops) hS hj ((h1 g (by simp)).trans hv)
  rw [if_neg (by simp [Region.wanted, hy, hb])]
  exact ⟨e, hS.put hd (.c undef)⟩
theorem walk1_yes {K : St → Prop} (hj : (ops[j]?).bind (·.dst) = some g) (hv : look t g = some (.c (.bool b))) (hb : b = want) (hK : Walk1 C P ops (⟨dst, op, ty, pos, after, none⟩ :: l) ⟨t, h⟩ K) : Walk1 C P ops (⟨dst, op, ty, pos, after, some (j, want)⟩ :: l) ⟨t, h⟩ K := by
  obtain ⟨os, h1, h2, h3⟩ := hK
  exact ⟨⟨g :: os.rt, os.rb, os.wt, os.wb, os.nw⟩, opG_yes (S := ⟨t, h⟩) hj hv hb h1, h2, h3⟩
theorem walk_yes {acc : List OS} {K : St → List OS → Prop} (hj : (ops[j]?).bind (·.dst) = some g) (hv : look t g = some (.c (.bool b))) (hb : b = want) (hK : WalkTo C P ops [g] (⟨dst, op, ty, pos, after, none⟩ :: l) ⟨t, h⟩ acc K) : WalkTo C P ops [] (⟨dst, op, ty, pos, after, some (j, want)⟩ :: l) ⟨t, h⟩ acc K := by
  obtain ⟨os, h1, h2, h3⟩ := hK
  refine ⟨⟨[g] ++ os.rt, os.rb, os.wt, os.wb, os.nw⟩, ?_, h2, h3⟩
  have h4 : OpG C P ops ⟨dst, op, ty, pos, after, some (j, want)⟩ ⟨t, h⟩ ⟨g :: ([g] ++ os.rt), os.rb, os.wt, os.wb, os.nw⟩ := opG_yes (S := ⟨t, h⟩) hj hv hb h1
  intro S' h5
  exact h4 S' (fun i hi => h5 i (by simpa using hi))
theorem walk1_no {K : St → Prop} (hj : (ops[j]?).bind (·.dst) = some g) (hv : look t g = some (.c (.bool b))) (hb : b = !want) (hd : dstB (some d) C.nt = true) (hK : Walk1 C P ops l ⟨(d, .c undef) :: t, h⟩ K) : Walk1 C P ops (⟨some d, op, ty, pos, after, some (j, want)⟩ :: l) ⟨t, h⟩ K :=
  walk1_t (opG_no (S := ⟨t, h⟩) hj hv hb hd) hK
theorem walk_no {acc : List OS} {K : St → List OS → Prop} (hj : (ops[j]?).bind (·.dst) = some g) (hv : look t g = some (.c (.bool b))) (hb : b = !want) (hd : dstB (some d) C.nt = true) (hK : WalkTo C P ops [] l ⟨(d, .c undef) :: t, h⟩ (⟨[] ++ [g], [], [(d, .c undef)], [], []⟩ :: acc) K) : WalkTo C P ops [] (⟨some d, op, ty, pos, after, some (j, want)⟩ :: l) ⟨t, h⟩ acc K :=
  walk_t (x := []) (opG_no (S := ⟨t, h⟩) hj hv hb hd) hK
end

/-! ### a call, met by its contract -/
section
variable {ops : Array Oper} {o : Oper} {l : List Oper} {t : List (Nat × SV)} {h : List (Nat × Option Res)} {d : Nat} {f j : FuncId} {xs : Array Operand} {ats : Array TypeId} {vs : List SV}
def CallC (j : FuncId) (vs : List SV) (v : Value) : Prop := ∀ (e : Env) w, Calls Try.prog j (vs.map (·.den e)).toArray w fun r w' => r = .returned v ∧ Below w.heap.size w w'
theorem walk1_call {K : St → Prop} (ho : o.op = .call { callee := .value (.func f), args := xs, argTypes := ats }) (hdn : o.dst = some d) (hg : o.guard = none) (hd : dstB o.dst C.nt = true) (hxs : EvS ⟨t, h⟩ xs.toList vs) (hc' : tabLook calT f = some j)
    (hK : ∃ v, CallC j vs v ∧ Walk1 C Try.prog ops l ⟨(d, .c v) :: t, h⟩ K) : Walk1 C Try.prog ops (o :: l) ⟨t, h⟩ K := by
  obtain ⟨v, h1, h2⟩ := hK
  have := op_callC (C := C) (ops := ops) v ho hg hd hxs hc' h1
  rw [hdn] at this
  exact walk1_t this h2
theorem walk1_call0 {K : St → Prop} (ho : o.op = .call { callee := .value (.func f), args := xs, argTypes := ats }) (hdn : o.dst = none) (hg : o.guard = none) (hxs : EvS ⟨t, h⟩ xs.toList vs) (hc' : tabLook calT f = some j)
    (hK : ∃ v, CallC j vs v ∧ Walk1 C Try.prog ops l ⟨t, h⟩ K) : Walk1 C Try.prog ops (o :: l) ⟨t, h⟩ K := by
  obtain ⟨v, h1, h2⟩ := hK
  have := op_callC (C := C) (ops := ops) v ho hg (by rw [hdn]; rfl) hxs hc' h1
  rw [hdn] at this
  exact walk1_0 this h2
theorem walk_call {x : List Nat} {acc : List OS} {K : St → List OS → Prop} (ho : o.op = .call { callee := .value (.func f), args := xs, argTypes := ats }) (hdn : o.dst = some d) (hg : o.guard = none) (hd : dstB o.dst C.nt = true) (hxs : EvS ⟨t, h⟩ xs.toList vs) (hc' : tabLook calT f = some j)
    (hK : ∃ v, CallC j vs v ∧ WalkTo C Try.prog ops [] l ⟨(d, .c v) :: t, h⟩ (⟨x ++ xs.toList.flatMap opT, [], [(d, .c v)], [], []⟩ :: acc) K) : WalkTo C Try.prog ops x (o :: l) ⟨t, h⟩ acc K := by
  obtain ⟨v, h1, h2⟩ := hK
  have := op_callC (C := C) (ops := ops) v ho hg hd hxs hc' h1
  rw [hdn] at this
  exact walk_t this h2
theorem walk_call0 {x : List Nat} {acc : List OS} {K : St → List OS → Prop} (ho : o.op = .call { callee := .value (.func f), args := xs, argTypes := ats }) (hdn : o.dst = none) (hg : o.guard = none) (hxs : EvS ⟨t, h⟩ xs.toList vs) (hc' : tabLook calT f = some j)
    (hK : ∃ v, CallC j vs v ∧ WalkTo C Try.prog ops [] l ⟨t, h⟩ (⟨x ++ xs.toList.flatMap opT, [], [], [], []⟩ :: acc) K) : WalkTo C Try.prog ops x (o :: l) ⟨t, h⟩ acc K := by
  obtain ⟨v, h1, h2⟩ := hK
  have := op_callC (C := C) (ops := ops) v ho hg (by rw [hdn]; rfl) hxs hc' h1
  rw [hdn] at this
  exact walk_0 this h2
end

/-! ### states told anew -/
def HasT (S : St) : List (Nat × SV) → Prop
  | [] => True
  | (i, v) :: l => S.tmp i = some v ∧ HasT S l
def HasR (S : St) : List (Nat × Option Res) → Prop
  | [] => True
  | (n, r) :: l => (S.res n = r ∨ r = none) ∧ HasR S l
theorem hasT_look {S : St} : ∀ {l : List (Nat × SV)}, HasT S l → ∀ {i v}, look l i = some v → S.tmp i = some v
  | [], _, _, _, h => by cases h
  | (j, u) :: l, ⟨h1, h2⟩, i, v, h => by
    rw [look_cons] at h
    split at h
    · rename_i e; subst e; cases h; exact h1
    · exact hasT_look h2 h
theorem hasR_look {S : St} : ∀ {l : List (Nat × Option Res)}, HasR S l → ∀ {n r}, (look l n).join = some r → S.res n = some r
  | [], _, _, _, h => by cases h
  | (m, q) :: l, ⟨h1, h2⟩, n, r, h => by
    rw [look_cons] at h
    split at h
    · rename_i e; subst e
      have h : q = some r := h
      subst h
      rcases h1 with h1 | h1
      · exact h1
      · cases h1
    · exact hasR_look h2 h
theorem ent_keep {t : List (Nat × SV)} {h : List (Nat × Option Res)} (ht : HasT S t) (hr : HasR S h) : Ents C S ⟨t, h⟩ := fun e a w hS =>
  ⟨e, hS.defers, hS.size, fun i v hv => hS.tmp i v (hasT_look ht hv), fun n r hn => hS.res n r (hasR_look hr hn), fun n r hn => hS.mine n r (hasR_look hr hn),
    fun n m r r' hn hm => hS.sep n m r r' (hasR_look hr hn) (hasR_look hr hm), hS.frame⟩
theorem tri_keep (t : List (Nat × SV)) (h : List (Nat × Option Res)) {c : Code} (ht : HasT S t) (hr : HasR S h) (hc : Tri C P ⟨t, h⟩ c Q) : Tri C P S c Q := tri_ent (ent_keep ht hr) hc
theorem hasT_cons {i : Nat} {v : SV} {l : List (Nat × SV)} (h1 : S.tmp i = some v) (h2 : HasT S l) : HasT S ((i, v) :: l) := ⟨h1, h2⟩
theorem hasT_eq {i : Nat} {v u : SV} {l : List (Nat × SV)} (h1 : S.tmp i = some u) (he : u = v) (h2 : HasT S l) : HasT S ((i, v) :: l) := ⟨he ▸ h1, h2⟩
theorem hasT_nil : HasT S [] := trivial
theorem hasR_cons {n : Nat} {r : Option Res} {l : List (Nat × Option Res)} (h1 : S.res n = r) (h2 : HasR S l) : HasR S ((n, r) :: l) := ⟨.inl h1, h2⟩
theorem hasR_nil : HasR S [] := trivial
theorem svi {k : IntKind} {a b : Int} (h : a = b) : SV.c (.int k a) = SV.c (.int k b) := by rw [h]
/-! ### loops -/
theorem tri_loop {X : Type} (Inv : X → St) (I : X → Prop) (μ : X → Nat) (x0 : X) (h0 : I x0) (hS0 : Ents C S (Inv x0)) {body : Code}
    (round : ∀ x, I x → ∀ K : Act → World → Prop, (∀ (S' : St) (x' : X), I x' → μ x' < μ x → Ents C S' (Inv x') → EndA C S' K) → Tri C P (Inv x) body (Exit.then K Q)) : Tri C P S (.loop body) Q := by
  intro e a w hS
  obtain ⟨e0, h1⟩ := hS0 e a w hS
  refine wp_loop_ghost (fun n a w => ∃ x e, μ x = n ∧ I x ∧ Holds C (Inv x) e a w) (μ x0) ⟨x0, e0, rfl, h0, h1⟩ ?_
  rintro n a w ⟨x, e, rfl, hI, hx⟩
  exact round x hI _ (fun S' x' hI' hlt hE e a w hS' => by
    obtain ⟨e', h'⟩ := hE e a w hS'
    exact ⟨μ x', hlt, x', e', rfl, hI', h'⟩) e a w hx

/-! ### entering and leaving -/
def idx (k : Nat) : List Value → List (Nat × SV)
  | [] => []
  | v :: l => (k, .c v) :: idx (k + 1) l
theorem idx_look : ∀ (l : List Value) (k i : Nat) (v : SV), look (idx k l) i = some v → ∃ u, l[i - k]? = some u ∧ k ≤ i ∧ v = .c u
  | [], _, _, _, h => by cases h
  | u :: l, k, i, v, h => by
    rw [idx, look_cons] at h
    split at h
    · rename_i e; subst e; cases h
      exact ⟨u, by simp, Nat.le_refl _, rfl⟩
    · rename_i e
      obtain ⟨u', h1, h2, h3⟩ := idx_look l (k + 1) i v h
      refine ⟨u', ?_, by omega, h3⟩
      rw [show i - k = (i - (k + 1)) + 1 by omega]
      simpa using h1
theorem holds_start {n : Nat} {args : Array Value} {w : World} (h : args.size ≤ n) :
    Holds ⟨n, w, []⟩ ⟨idx 0 args.toList, []⟩ (fun _ => ⟨0, 0, undef⟩) { tmps := args ++ Array.replicate (n - args.size) undef, defers := [] } w where
  defers := rfl
  size := by simp; omega
  tmp i v hv := by
    obtain ⟨u, h1, _, rfl⟩ := idx_look args.toList 0 i v hv
    rw [Nat.sub_zero] at h1
    have hi : i < args.size := by have := (List.getElem?_eq_some_iff.1 h1).1; simpa using this
    rw [Array.getElem?_append_left hi]
    simpa [SV.c] using h1
  res n r hr := by cases hr
  mine n r hr := by cases hr
  sep n m r r' hr := by cases hr
  frame := ⟨rfl, rfl, rfl, Nat.le_refl _, fun _ _ _ => rfl⟩
theorem calls_tri {f : FuncId} {fn : Func} {c : Code} {args : Array Value} {w : World} {R : Ending → World → Prop} {n : Nat} (hf : P.funcs[f]? = some fn) (hb : fn.body = some c) (hn : fn.ntmps = n) (hargs : Nat.ble args.size n = true)
    (h : Tri ⟨n, w, []⟩ P ⟨idx 0 args.toList, []⟩ c (bodyPost P fn R)) : Calls P f args w R := by
  subst hn
  exact calls_of_wp hf hb (h _ _ _ (holds_start (Nat.le_of_ble_eq_true hargs)))
/-- The way back: what the results read as. -/
theorem end_ret {fn : Func} {R : Ending → World → Prop} (v : SV) (hv : ∀ e a w, Holds C S e a w → (results fn a.tmps).run P w = .ok (v.den e) w) (hR : ∀ e a w, Holds C S e a w → R (.returned (v.den e)) w) : EndA C S (bodyPost P fn R .ret) :=
  fun e a w hS => bodyPost_ret (hv e a w hS) hS.defers (hR e a w hS)
theorem end_normal {fn : Func} {R : Ending → World → Prop} (v : SV) (hv : ∀ e a w, Holds C S e a w → (results fn a.tmps).run P w = .ok (v.den e) w) (hR : ∀ e a w, Holds C S e a w → R (.returned (v.den e)) w) : EndA C S (bodyPost P fn R .normal) :=
  fun e a w hS => bodyPost_end (hv e a w hS) hS.defers (hR e a w hS)
theorem getD_of {a : Act} {t : Nat} {v : Value} (h : a.tmps[t]? = some v) : a.tmps.getD t undef = v := by simp [Array.getD_eq_getD_getElem?, h]
theorem res_tmp {fn : Func} {t : Tmp} {v : SV} (h : fn.results = #[.tmp t]) (hv : S.tmp t = some v) : ∀ e a w, Holds C S e a w → (results fn a.tmps).run P w = .ok (v.den e) w := fun e a w hS => by
  rw [results_tmp h, getD_of (hS.tmp t v hv)]
theorem res_none {fn : Func} (h : fn.results = #[]) : ∀ e a w, Holds C S e a w → (results fn a.tmps).run P w = .ok ((SV.c (.tuple #[])).den e) w := fun e a w _ => results_none h _ _ _
theorem res_cells {fn : Func} {t : Tmp} {ty : TypeId} {n m : Nat} {T : TypeId} {A : SA} {wr : Bool} {d : TypeDesc} {v : SV} (h : fn.results = #[.cell t ty]) (hv : S.tmp t = some (.p n 0)) (hr : S.res n = some (.blk n T A wr)) (hu' : tabLook undT ty = some d) (hda : d.isRow = true) (hi' : tabLook sizT ty = some m) (hm : ∀ e, (A.den e).size = m) (hA : ∀ e, .agg (A.den e) = v.den e) :
    ∀ e a w, Holds C S e a w → (results fn a.tmps).run Try.prog w = .ok (v.den e) w := fun e a w hS => by
  have hu := tabAll_look undT_ok hu'
  have hi := tabAll_look sizT_ok hi'
  obtain ⟨fr, hb, _⟩ := res_blk hS hr
  have hp : a.tmps.getD t undef = .pointer (some ⟨(e n).b, 0, none⟩) := getD_of (hS.tmp t _ hv)
  rw [← hA e]
  exact results_cell_row h _ w (e n).b T (A.den e) fr d hp hb hu (by cases d <;> simp_all) (by rw [hi, hm e])
/-- The usual end: so much is handed back, and what lay below is as it was. -/
theorem fin_below {v : Value} {V : SV} {w0 : World} {n : Nat} (h : ∀ e, V.den e = v) : ∀ e a w, Holds ⟨n, w0, []⟩ S e a w → (fun r w' => r = Ending.returned v ∧ Below w0.heap.size w0 w') (.returned (V.den e)) w := fun e _ _ hS => ⟨by rw [h e], hS.frame.below rfl⟩
end
/-! ### one step of code, found by its form -/
class Go1 (A : Prop) (B : outParam Prop) : Prop where
  go : B → A
theorem go1 {A B : Prop} [h : Go1 A B] (b : B) : A := h.go b
section
variable {C : Ctx} {P : Program} {S : St} {Q Q' : Exit → Act → World → Prop} {K : Act → World → Prop} {x y c : Code} {id l : Nat}
instance : Go1 (Tri C P S (.seq x y) Q) (Tri C P S x (Exit.then (fun a w => y.wp P Q a w) Q)) := ⟨tri_seq⟩
instance : Go1 (Tri C P S (.block id c) Q) (Tri C P S c (Exit.inBlock id Q)) := ⟨tri_block⟩
instance : Go1 (Tri C P S (.scope c) Q) (Tri C P S c (Exit.noGoto Q)) := ⟨tri_scope⟩
instance : Go1 (Tri C P S .skip Q) (EndA C S (Q .normal)) := ⟨tri_skip⟩
instance : Go1 (Tri C P S (.label l) Q) (EndA C S (Q .normal)) := ⟨tri_label⟩
instance : Go1 (Tri C P S .ret Q) (EndA C S (Q .ret)) := ⟨tri_ret⟩
instance : Go1 (Tri C P S (.exit id) Q) (EndA C S (Q (.exit id))) := ⟨tri_exit⟩
instance (priority := high) : Go1 (EndA C S (Exit.then (fun a w => y.wp P Q a w) Q' .normal)) (Tri C P S y Q) := ⟨end_seq⟩
instance : Go1 (EndA C S (Exit.then K Q .normal)) (EndA C S K) := ⟨end_then⟩
instance : Go1 (EndA C S (Exit.then K Q .ret)) (EndA C S (Q .ret)) := ⟨end_then_ret⟩
instance : Go1 (EndA C S (Exit.then K Q (.exit id))) (EndA C S (Q (.exit id))) := ⟨end_then_exit⟩
instance : Go1 (EndA C S (Exit.inBlock id Q .normal)) (EndA C S (Q .normal)) := ⟨end_block⟩
instance : Go1 (EndA C S (Exit.inBlock id Q .ret)) (EndA C S (Q .ret)) := ⟨end_block_ret⟩
instance : Go1 (EndA C S (Exit.inBlock id Q (.exit id))) (EndA C S (Q .normal)) := ⟨end_block_exit⟩
instance {id : Nat} {l : List Oper} : Go1 (Tri C P S (.region id l.toArray false) Q) (Walk1 C P l.toArray l S fun S' => EndA C S' (Q .normal)) := ⟨tri_reg⟩
instance {id : Nat} {l : List Oper} : Go1 (Tri C Try.prog S (.region id l.toArray true) Q) (WalkTo C Try.prog l.toArray [] l S [] fun S' r => chk l r = true ∧ EndA C S' (Q .normal)) := ⟨tri_draw⟩
instance {ops : Array Oper} : Go1 (Walk1 C P ops [] S (fun S' => EndA C S' K)) (EndA C S K) := ⟨walk1_end⟩
theorem tri_yesA {c : Operand} {x y : Code} {p : Prop} [Decidable p] (hc : S.ev c = some (.c (.bool (decide p)))) (h : Tri C P S x Q) (hp : p := by first | omega | (simp <;> fail) | assumption) : Tri C P S (.cond c x y) Q := tri_yes hc hp h
theorem tri_noA {c : Operand} {x y : Code} {p : Prop} [Decidable p] (hc : S.ev c = some (.c (.bool (decide p)))) (h : Tri C P S y Q) (hp : ¬ p := by first | omega | (simp <;> fail) | assumption) : Tri C P S (.cond c x y) Q := tri_no hc hp h
theorem tri_trueA {c : Operand} {x y : Code} {b : Bool} (hc : S.ev c = some (.c (.bool b))) (h : Tri C P S x Q) (hb : b = true := by first | with_reducible rfl | with_reducible exact Bool.not_false | with_reducible assumption) : Tri C P S (.cond c x y) Q := tri_true hc hb h
theorem tri_falseA {c : Operand} {x y : Code} {b : Bool} (hc : S.ev c = some (.c (.bool b))) (h : Tri C P S y Q) (hb : b = false := by first | with_reducible rfl | with_reducible exact Bool.not_true | with_reducible assumption) : Tri C P S (.cond c x y) Q := tri_false hc hb h
end
end Go.Proofs.Ytcgmapioelfneaa
