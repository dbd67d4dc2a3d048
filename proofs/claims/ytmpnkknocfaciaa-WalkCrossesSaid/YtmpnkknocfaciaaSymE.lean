/- Slices of the run's own, in loops, calls and results. No condition. -/
import Derived.Test.YtmpnkknocfaciaaSymD
namespace Go.Proofs.Ytmpnkknocfaciaa
open Go.RowKit

section
variable {C : Ctx} {P : Program} {ops : Array Oper} {S : St} {o : Oper} {Q : Exit → Act → World → Prop}
/-! ### numbers appended -/
section
variable {x y : Operand} {t T len cnt by_ m n b : Nat} {k : IntKind} {l l2 : List (BitVec b)} {A : Array Value} {v2 : SV} {ns : List Nat} {ty : TypeId} {pos : String} {after : Array Edge}
end
theorem getV {k : IntKind} {m : Nat} {l : List (BitVec m)} {i : Nat} (h : i < l.length) : (valsL k l)[i]? = some (.int k (bvi (gt l i))) := by
  have := vals_get (k := k) h; simpa [vals] using this

/-! ### cut from the head; the lesser, the greater -/
section
variable {t T len cap off n b sz lo hi : Nat} {x : Operand} {ol oh : Option Operand}
theorem op_cutP0 (ho : o.op = .slice t x none oh none) (hg : o.guard = none) (hd : dstB o.dst C.nt = true) (hx : S.ev x = some (.p n off)) (hu' : tabLook undT t = some (.array len T)) (hs' : tabLook sizT T = some sz) (hh : EvO S oh len hi) (h2 : hi ≤ len) :
    OpG C Try.prog ops o S ⟨opT x ++ (opO none ++ opO oh), [n], dw o.dst (.s n off hi len), [], []⟩ := by
  have := op_cutP (C := C) (ops := ops) ho hg hd hx hu' hs' evO_none hh (Nat.zero_le _) h2 (off' := off) (by simp)
  simpa using this
end
section
variable {dst : Option Tmp} {x y : Operand} {ats : Array TypeId} {ty : TypeId} {pos : String} {after : Array Edge}
theorem run_min {ρ : Operand → Value} {k : IntKind} {a b : Int} (hx : ρ x = .int k a) (hy : ρ y = .int k b) (w : World) : (execOp ρ ⟨dst, .call { callee := .builtin .min, args := #[x, y], argTypes := ats }, ty, pos, after, none⟩).run Try.prog w = .ok (.value (.int k (if b < a then b else a))) w := by
  simp [execOp, resolve, invoke, builtin, hx, hy, Builtin.min_, Builtin.min2]
theorem run_max {ρ : Operand → Value} {k : IntKind} {a b : Int} (hx : ρ x = .int k a) (hy : ρ y = .int k b) (w : World) : (execOp ρ ⟨dst, .call { callee := .builtin .max, args := #[x, y], argTypes := ats }, ty, pos, after, none⟩).run Try.prog w = .ok (.value (.int k (if b > a then b else a))) w := by
  simp [execOp, resolve, invoke, builtin, hx, hy, Builtin.max_, Builtin.max2]
theorem op_minI {a b : Int} (hd : dstB dst C.nt = true) (hx : EvI S x a) (hy : EvI S y b) : OpG C Try.prog ops ⟨dst, .call { callee := .builtin .min, args := #[x, y], argTypes := ats }, ty, pos, after, none⟩ S ⟨opT x ++ opT y, [], dw dst (.c (.int .i64 (min a b))), [], []⟩ :=
  op_two (v := .c (.int .i64 (min a b))) rfl hd hx hy fun e ρ w h1 h2 => by
    have h1' : ρ x = .int .i64 a := h1
    have h2' : ρ y = .int .i64 b := h2
    rw [run_min h1' h2' w, show (if b < a then b else a) = min a b by split <;> omega]
    rfl
theorem op_maxI {a b : Int} (hd : dstB dst C.nt = true) (hx : EvI S x a) (hy : EvI S y b) : OpG C Try.prog ops ⟨dst, .call { callee := .builtin .max, args := #[x, y], argTypes := ats }, ty, pos, after, none⟩ S ⟨opT x ++ opT y, [], dw dst (.c (.int .i64 (max a b))), [], []⟩ :=
  op_two (v := .c (.int .i64 (max a b))) rfl hd hx hy fun e ρ w h1 h2 => by
    have h1' : ρ x = .int .i64 a := h1
    have h2' : ρ y = .int .i64 b := h2
    rw [run_max h1' h2' w, show (if b > a then b else a) = max a b by split <;> omega]
    rfl
end

/-! ### other names -/
def mp (σ : Nat → Nat) (e : Env) : Env := fun n => e (σ n)
def HasTm (σ : Nat → Nat) (S : St) : List (Nat × SV) → Prop
  | [] => True
  | p :: l => (∃ u, S.tmp p.1 = some u ∧ ∀ e, p.2.den (mp σ e) = u.den e) ∧ HasTm σ S l
def HasRm (σ : Nat → Nat) (S : St) : List (Nat × Option Res) → Prop
  | [] => True
  | p :: l => (∀ r, p.2 = some r → ∃ q, S.res (σ p.1) = some q ∧ (∀ e, r.foot (mp σ e) = q.foot e) ∧ (∀ e w, q.ok e w → r.ok (mp σ e) w) ∧ r.wr = q.wr) ∧ HasRm σ S l
theorem hasTm_nil {σ : Nat → Nat} : HasTm σ S [] := trivial
theorem hasTm_cons {σ : Nat → Nat} {i : Nat} {v u : SV} {l : List (Nat × SV)} (h : S.tmp i = some u) (hd : ∀ e, v.den (mp σ e) = u.den e) (h2 : HasTm σ S l) : HasTm σ S ((i, v) :: l) := ⟨⟨u, h, hd⟩, h2⟩
theorem hasRm_nil {σ : Nat → Nat} : HasRm σ S [] := trivial
theorem hasRm_cons {σ : Nat → Nat} {n : Nat} {r q : Res} {l : List (Nat × Option Res)} (h : S.res (σ n) = some q) (hf : ∀ e, r.foot (mp σ e) = q.foot e) (hok : ∀ e w, q.ok e w → r.ok (mp σ e) w) (hw : r.wr = q.wr) (h2 : HasRm σ S l) : HasRm σ S ((n, some r) :: l) :=
  ⟨fun r' hr' => by cases hr'; exact ⟨q, h, hf, hok, hw⟩, h2⟩
theorem hasTm_look {σ : Nat → Nat} : ∀ {l : List (Nat × SV)}, HasTm σ S l → ∀ {i v}, look l i = some v → ∃ u, S.tmp i = some u ∧ ∀ e, v.den (mp σ e) = u.den e
  | [], _, _, _, h => by cases h
  | (j, u) :: l, ⟨h1, h2⟩, i, v, h => by
    rw [look_cons] at h
    split at h
    · rename_i e; subst e; cases h; exact h1
    · exact hasTm_look h2 h
theorem hasRm_look {σ : Nat → Nat} : ∀ {l : List (Nat × Option Res)}, HasRm σ S l → ∀ {n r}, (look l n).join = some r → ∃ q, S.res (σ n) = some q ∧ (∀ e, r.foot (mp σ e) = q.foot e) ∧ (∀ e w, q.ok e w → r.ok (mp σ e) w) ∧ r.wr = q.wr
  | [], _, _, _, h => by cases h
  | (m, q) :: l, ⟨h1, h2⟩, n, r, h => by
    rw [look_cons] at h
    split at h
    · rename_i e; subst e
      exact h1 r h
    · exact hasRm_look h2 h
theorem join_mem {l : List (Nat × Option Res)} {n : Nat} {r : Res} (h : (look l n).join = some r) : n ∈ l.map (·.1) := by
  cases hl : look l n with
  | none => rw [hl] at h; cases h
  | some x => exact List.mem_map.2 ⟨_, look_some_mem hl, rfl⟩
/-- The state told by other names. -/
theorem ent_ren (σ : Nat → Nat) {t : List (Nat × SV)} {h : List (Nat × Option Res)} (ht : HasTm σ S t) (hr : HasRm σ S h) (hi : (h.map (·.1)).all (fun n => (h.map (·.1)).all fun m => Nat.beq n m || !Nat.beq (σ n) (σ m)) = true) : Ents C S ⟨t, h⟩ := fun e a w hS => by
  have inj : ∀ n m, n ∈ h.map (·.1) → m ∈ h.map (·.1) → n ≠ m → σ n ≠ σ m := by
    intro n m hn hm hne he
    have := List.all_eq_true.1 (List.all_eq_true.1 hi n hn) m hm
    simp [hne, he] at this
  refine ⟨mp σ e, hS.defers, hS.size, fun i v hv => ?_, fun n r hn => ?_, fun n r hn hw b hb => ?_, fun n m r r' hn hm hne hw b hb hb' => ?_, hS.frame⟩
  · obtain ⟨u, h1, h2⟩ := hasTm_look ht hv
    rw [h2 e]; exact hS.tmp i u h1
  · obtain ⟨q, h1, h2, h3, h4⟩ := hasRm_look hr hn
    exact h3 e w (hS.res _ q h1)
  · obtain ⟨q, h1, h2, h3, h4⟩ := hasRm_look hr hn
    rw [h2 e] at hb
    exact hS.mine _ q h1 (by rw [← h4]; exact hw) b hb
  · obtain ⟨q, h1, h2, h3, h4⟩ := hasRm_look hr hn
    obtain ⟨q', g1, g2, g3, g4⟩ := hasRm_look hr hm
    rw [h2 e] at hb
    rw [g2 e] at hb'
    exact hS.sep _ _ q q' h1 g1 (inj n m (join_mem hn) (join_mem hm) hne) (by rw [← h4]; exact hw) b hb hb'
/-- What holds no slice holds an own one of no element. -/
theorem ent_nil {t : List (Nat × SV)} {h : List (Nat × Option Res)} {i n : Nat} (T size : Nat) (hv : look t i = some (.c (.slice none 0 0))) (hf : freshB ⟨t, h⟩ n = true) : Ents C ⟨t, h⟩ ⟨(i, .v n) :: t, (n, some (.own n T size 0 [])) :: h⟩ := fun e a w hS => by
  have hfr := freshB_spec hf
  have h1 := hS.rename hfr ⟨0, 0, .slice none 0 0⟩
  have hfo : ∀ b, ¬ (Res.own n T size 0 []).foot (e.set n ⟨0, 0, .slice none 0 0⟩) b := by
    intro b hb
    have hb : ((e.set n ⟨0, 0, .slice none 0 0⟩) n).v.ownBlock = some b := hb
    rw [Env.set_self] at hb; cases hb
  refine ⟨e.set n ⟨0, 0, .slice none 0 0⟩, h1.defers, h1.size, fun j v hj => ?_, fun m r hm => ?_, fun m r hm hw b hb => ?_, fun m q r r' hm hq hne hw b hb hb' => ?_, h1.frame⟩
  · have hj2 : look ((i, SV.v n) :: t) j = some v := hj
    rw [look_cons] at hj2
    by_cases e0 : i = j
    · rw [if_pos e0] at hj2
      have hj3 : SV.v n = v := by simpa using hj2
      subst hj3
      subst e0
      show a.tmps[i]? = some ((e.set n ⟨0, 0, .slice none 0 0⟩) n).v
      rw [Env.set_self]
      exact hS.tmp i _ hv
    · rw [if_neg e0] at hj2
      exact h1.tmp j v hj2
  · rw [St.res_cons] at hm
    split at hm
    · cases hm
      show w.ownsRow 0 T size ((e.set n ⟨0, 0, .slice none 0 0⟩) n).v 0 []
      rw [Env.set_self]; exact World.ownsRow_nil w 0 T size
    · exact h1.res m r hm
  · rw [St.res_cons] at hm
    split at hm
    · cases hm; exact (hfo b hb).elim
    · exact h1.mine m r hm hw b hb
  · rw [St.res_cons] at hm hq
    split at hm
    · cases hm; exact (hfo b hb).elim
    · split at hq
      · cases hq; exact (hfo b hb').elim
      · exact h1.sep m q r r' hm hq hne hw b hb hb'

/-! ### calls that read memory, or hand back a slice of their own -/
/-- Handed back: a new slice of these cells; what lay there is as it was. -/
def RetOwn (w : World) (T size len : Nat) (xs : List Value) : Ending → World → Prop := fun r w' => ∃ v, r = .returned v ∧ w'.ownsRow w.heap.size T size v len xs ∧ Below w.heap.size w w'
theorem fin_own {n nt T size len : Nat} {xs : List Value} {w0 : World} (hr : S.res n = some (.own n T size len xs)) : ∀ e a w, Holds ⟨nt, w0, []⟩ S e a w → RetOwn w0 T size len xs (.returned ((SV.v n).den e)) w := fun e a w hS => by
  refine ⟨(e n).v, rfl, ?_, hS.frame.below rfl⟩
  have hok : w.ownsRow 0 T size (e n).v len xs := hS.res n _ hr
  have hmine := hS.mine n _ hr rfl
  refine ⟨hok.1, ?_⟩
  rcases hok.2 with h | ⟨g, cap, cur, hv, _, h⟩
  · exact .inl h
  · have : w0.heap.size ≤ g := by
      rcases hmine g (by show (e n).v.ownBlock = some g; rw [hv]; rfl) with h | h
      · exact h
      · cases h
    exact .inr ⟨g, cap, cur, hv, this, h⟩
def CallM (C : Ctx) (S : St) (rb : List Nat) (j : FuncId) (vs : List SV) (v : Value) : Prop := ∀ (S' : St) e a w, Holds C S' e a w → (∀ q ∈ rb, S'.res q = S.res q) → Calls Try.prog j (vs.map (·.den e)).toArray w fun r w' => r = .returned v ∧ Below w.heap.size w w'
def CallO (C : Ctx) (S : St) (rb : List Nat) (j : FuncId) (vs : List SV) (T size len : Nat) (xs : List Value) : Prop := ∀ (S' : St) e a w, Holds C S' e a w → (∀ q ∈ rb, S'.res q = S.res q) → Calls Try.prog j (vs.map (·.den e)).toArray w (RetOwn w T size len xs)
section
variable {j : FuncId} {vs : List SV} {v : Value} {T size len n1 n2 s1 s2 : Nat} {xs x1 x2 : List Value} {ns1 ns2 : List Nat} {v1 v2 : SV}
theorem callM_1 (h1 : RdN C S ns1 s1 v1 n1 x1) (h : ∀ (e : Env) w, RdV w s1 (v1.den e) n1 x1 → Calls Try.prog j (vs.map (·.den e)).toArray w fun r w' => r = .returned v ∧ Below w.heap.size w w') : CallM C S ns1 j vs v := fun S' e a w hS hq => h e w (h1 S' e a w hq hS)
theorem callM_2 (h1 : RdN C S ns1 s1 v1 n1 x1) (h2 : RdN C S ns2 s2 v2 n2 x2) (h : ∀ (e : Env) w, RdV w s1 (v1.den e) n1 x1 → RdV w s2 (v2.den e) n2 x2 → Calls Try.prog j (vs.map (·.den e)).toArray w fun r w' => r = .returned v ∧ Below w.heap.size w w') : CallM C S (ns1 ++ ns2) j vs v := fun S' e a w hS hq =>
  h e w (h1 S' e a w (fun q hq' => hq q (List.mem_append_left _ hq')) hS) (h2 S' e a w (fun q hq' => hq q (List.mem_append_right _ hq')) hS)
theorem callO_1 (h1 : RdN C S ns1 s1 v1 n1 x1) (h : ∀ (e : Env) w, RdV w s1 (v1.den e) n1 x1 → Calls Try.prog j (vs.map (·.den e)).toArray w (RetOwn w T size len xs)) : CallO C S ns1 j vs T size len xs := fun S' e a w hS hq => h e w (h1 S' e a w hq hS)
end
theorem op_callM {f : FuncId} {xs : Array Operand} {ats : Array TypeId} {vs : List SV} {rb : List Nat} {v : Value} {j : FuncId} (ho : o.op = .call { callee := .value (.func f), args := xs, argTypes := ats }) (hg : o.guard = none) (hd : dstB o.dst C.nt = true) (hxs : EvS S xs.toList vs) (hc' : tabLook calT f = some j) (hcon : CallM C S rb j vs v) :
    OpG C Try.prog ops o S ⟨xs.toList.flatMap opT, rb, dw o.dst (.c v), [], []⟩ := by
  have := op_call (C := C) (ops := ops) rb (.c v) ho hg hd hxs hc' fun S' e a w hS hq => hcon S' e a w hS hq
  rwa [show rb ++ (SV.c v).sup = rb from List.append_nil rb] at this
/-- A state behind a call that hands back a new slice. -/
theorem Holds.ownNew {e : Env} {a : Act} {w w' : World} (hS : Holds C S e a w) {n T size len : Nat} {xs : List Value} {v : Value} (hf : S.fresh n) (hb : Below w.heap.size w w') (hown : w'.ownsRow w.heap.size T size v len xs) : Holds C ⟨S.t, (n, some (.own n T size len xs)) :: S.h⟩ (e.set n ⟨0, 0, v⟩) a w' := by
  have h1 := (hS.world hb).rename hf ⟨0, 0, v⟩
  have hlow : ∀ b, v.ownBlock = some b → w.heap.size ≤ b := fun b hv => (hown.lt b hv).1
  have hfo : ∀ b, (Res.own n T size len xs).foot (e.set n ⟨0, 0, v⟩) b → w.heap.size ≤ b := by
    intro b hb
    have hb : ((e.set n ⟨0, 0, v⟩) n).v.ownBlock = some b := hb
    rw [Env.set_self] at hb; exact hlow b hb
  have hold : ∀ m r, S.res m = some r → ∀ b, r.foot (e.set n ⟨0, 0, v⟩) b → b < w.heap.size := by
    intro m r hr b hb
    have hind := r.ind e (e.set n ⟨0, 0, v⟩) fun q hq => Env.set_ne e _ (fun he => hf.2 m r hr (he ▸ hq))
    rw [hind.1] at hb
    exact r.lt e w b (hS.res m r hr) hb
  refine ⟨h1.defers, h1.size, h1.tmp, fun m r hm => ?_, fun m r hm hw b hb => ?_, fun m q r r' hm hq hne hw b hb hb' => ?_, h1.frame⟩
  · rw [St.res_cons] at hm
    split at hm
    · cases hm
      show w'.ownsRow 0 T size ((e.set n ⟨0, 0, v⟩) n).v len xs
      rw [Env.set_self]
      refine ⟨hown.1, ?_⟩
      rcases hown.2 with h | ⟨g, cap, cur, hv, _, h⟩
      · exact .inl h
      · exact .inr ⟨g, cap, cur, hv, Nat.zero_le _, h⟩
    · exact h1.res m r hm
  · rw [St.res_cons] at hm
    split at hm
    · cases hm; exact .inl (Nat.le_trans hS.frame.size (hfo b hb))
    · exact h1.mine m r hm hw b hb
  · rw [St.res_cons] at hm hq
    split at hm
    · cases hm
      split at hq
      · rename_i h2 h3; exact hne (h2.symm.trans h3)
      · have := hold q r' hq b hb'; have := hfo b hb; omega
    · split at hq
      · cases hq; have := hold m r hm b hb; have := hfo b hb'; omega
      · exact h1.sep m q r r' hm hq hne hw b hb hb'
theorem op_callO {f : FuncId} {xs : Array Operand} {ats : Array TypeId} {vs : List SV} {rb : List Nat} {j n T size len : Nat} {ys : List Value} (ho : o.op = .call { callee := .value (.func f), args := xs, argTypes := ats }) (hdn : o.dst = some n) (hg : o.guard = none) (hd : dstB o.dst C.nt = true) (hxs : EvS S xs.toList vs) (hc' : tabLook calT f = some j) (hcon : CallO C S rb j vs T size len ys) :
    OpG C Try.prog ops o S ⟨xs.toList.flatMap opT, rb, [(n, .v n)], [(n, some (.own n T size len ys))], [n]⟩ := by
  refine opG_mk hg fun S' h1 h2 h3 e a w hS => ?_
  have hev : xs.toList.map S'.ev = vs.map some := by
    rw [← show xs.toList.map S.ev = vs.map some from hxs]
    exact List.map_congr_left fun x hx => ev_like h1 fun i hi => List.mem_flatMap.2 ⟨x, hx, hi⟩
  have hargs : xs.map a.eval = (vs.map (·.den e)).toArray := by
    rw [← evs_all hS _ _ hev, ← Array.toList_map, Array.toArray_toList]
  have hcall := tabAll_look calT_ok hc'
  have hop : (execOp a.eval o).run Try.prog w = .ok (.enter j (vs.map (·.den e)).toArray) w := by
    obtain ⟨dst, op, ty, pos, after, guard⟩ := o
    change op = _ at ho
    subst ho
    rw [execOp_call_go]
    simp only [hargs, Array.empty_append, Array.append_empty]
    exact hcall _ w
  unfold Oper.wp
  rw [hop]
  refine Calls.mono (hcon S' e a w hS h2) ?_
  rintro r w' ⟨v, rfl, hown, hb⟩
  have := (hS.ownNew (n := n) (h3 n (by simp)) hb hown).put hd (.v n)
  simp only [SV.v, Env.set_self] at this
  rw [hdn] at this ⊢
  exact ⟨_, this⟩
section
variable {l : List Oper} {t : List (Nat × SV)} {h : List (Nat × Option Res)} {d : Nat} {f j : FuncId} {xs : Array Operand} {ats : Array TypeId} {vs : List SV}
theorem walk1_callM {K : St → Prop} (ho : o.op = .call { callee := .value (.func f), args := xs, argTypes := ats }) (hdn : o.dst = some d) (hg : o.guard = none) (hd : dstB o.dst C.nt = true) (hxs : EvS ⟨t, h⟩ xs.toList vs) (hc' : tabLook calT f = some j)
    (hK : ∃ rb v, CallM C ⟨t, h⟩ rb j vs v ∧ Walk1 C Try.prog ops l ⟨(d, .c v) :: t, h⟩ K) : Walk1 C Try.prog ops (o :: l) ⟨t, h⟩ K := by
  obtain ⟨rb, v, h1, h2⟩ := hK
  have := op_callM (C := C) (ops := ops) ho hg hd hxs hc' h1
  rw [hdn] at this
  exact walk1_t this h2
theorem walk_callO {x : List Nat} {acc : List OS} {K : St → List OS → Prop} (ho : o.op = .call { callee := .value (.func f), args := xs, argTypes := ats }) (hdn : o.dst = some d) (hg : o.guard = none) (hd : dstB o.dst C.nt = true) (hf : freshB ⟨t, h⟩ d = true) (hxs : EvS ⟨t, h⟩ xs.toList vs) (hc' : tabLook calT f = some j)
    (hK : ∃ rb T size len ys, CallO C ⟨t, h⟩ rb j vs T size len ys ∧ WalkTo C Try.prog ops [] l ⟨(d, .v d) :: t, (d, some (.own d T size len ys)) :: h⟩ (⟨x ++ xs.toList.flatMap opT, rb, [(d, .v d)], [(d, some (.own d T size len ys))], [d]⟩ :: acc) K) : WalkTo C Try.prog ops x (o :: l) ⟨t, h⟩ acc K := by
  obtain ⟨rb, T, size, len, ys, h1, h2⟩ := hK
  exact walk_n (op_callO (C := C) (ops := ops) ho hdn hg hd hxs hc' h1) hf h2
end
end
end Go.Proofs.Ytmpnkknocfaciaa
