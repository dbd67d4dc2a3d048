/- Slices of the run's own, in loops, calls and results. No condition. Rows in parts; slices that lay there ahead of the run; bytes as text. No condition. -/
import Derived.Test.YtcgmapioelfneaaSymD
import Derived.Deep.MidRow
import Derived.Laws.BytesString
namespace Go.Proofs.Ytcgmapioelfneaa
open Go.RowKit

section
variable {C : Ctx} {P : Program} {ops : Array Oper} {S : St} {o : Oper} {Q : Exit → Act → World → Prop}
/-! ### numbers appended -/
section
variable {x y : Operand} {t T len cnt by_ m n b : Nat} {k : IntKind} {l l2 : List (BitVec b)} {A : Array Value} {v2 : SV} {ns : List Nat} {ty : TypeId} {pos : String} {after : Array Edge}
end
/-! ### cut from the head; the lesser, the greater -/
section
variable {t T len cap off n b sz lo hi : Nat} {x : Operand} {ol oh : Option Operand}
theorem op_cutC0 (ho : o.op = .slice t x none oh none) (hg : o.guard = none) (hd : dstB o.dst C.nt = true) (hx : S.ev x = some (.c (.slice (some ⟨b, off, none⟩) len cap))) (hu' : tabLook undT t = some (.slice T)) (hs' : tabLook sizT T = some sz) (hh : EvO S oh len hi) (h2 : hi ≤ cap) :
    OpG C Try.prog ops o S ⟨opT x ++ (opO none ++ opO oh), [], dw o.dst (.c (.slice (some ⟨b, off, none⟩) hi cap)), [], []⟩ := by
  have := op_cutC (C := C) (ops := ops) ho hg hd hx hu' hs' evO_none hh (Nat.zero_le _) h2
  simpa using this
theorem op_cutS0 (ho : o.op = .slice t x none oh none) (hg : o.guard = none) (hd : dstB o.dst C.nt = true) (hx : S.ev x = some (.s n off len cap)) (hu' : tabLook undT t = some (.slice T)) (hs' : tabLook sizT T = some sz) (hh : EvO S oh len hi) (h2 : hi ≤ cap) :
    OpG C Try.prog ops o S ⟨opT x ++ (opO none ++ opO oh), [n], dw o.dst (.s n off hi cap), [], []⟩ := by
  have := op_cutS (C := C) (ops := ops) ho hg hd hx hu' hs' evO_none hh (Nat.zero_le _) h2
  simpa using this
theorem op_cutP0 (ho : o.op = .slice t x none oh none) (hg : o.guard = none) (hd : dstB o.dst C.nt = true) (hx : S.ev x = some (.p n off)) (hu' : tabLook undT t = some (.array len T)) (hs' : tabLook sizT T = some sz) (hh : EvO S oh len hi) (h2 : hi ≤ len) :
    OpG C Try.prog ops o S ⟨opT x ++ (opO none ++ opO oh), [n], dw o.dst (.s n off hi len), [], []⟩ := by
  have := op_cutP (C := C) (ops := ops) ho hg hd hx hu' hs' evO_none hh (Nat.zero_le _) h2 (off' := off) (by simp)
  simpa using this
theorem op_cutP1 (ho : o.op = .slice t x ol oh none) (hg : o.guard = none) (hd : dstB o.dst C.nt = true) (hx : S.ev x = some (.p n 0)) (hu' : tabLook undT t = some (.array len T)) (hs' : tabLook sizT T = some 1) (hl : EvO S ol 0 lo := by first | exact evO_none | exact evO_some (by first | exact evK_const rfl | exact evK_tmp rfl)) (hh : EvO S oh len hi := by first | exact evO_none | exact evO_some (by first | exact evK_const rfl | exact evK_tmp rfl)) (h1 : lo ≤ hi := by first | omega | decide) (h2 : hi ≤ len := by first | omega | decide) (h3 : lo < len := by first | omega | decide) :
    OpG C Try.prog ops o S ⟨opT x ++ (opO ol ++ opO oh), [n], dw o.dst (.s n lo (hi - lo) (len - lo)), [], []⟩ :=
  op_cutP ho hg hd hx hu' hs' hl hh h1 h2 (by rw [if_neg (by omega)]; omega)
theorem op_cutC1 (ho : o.op = .slice t x ol oh none) (hg : o.guard = none) (hd : dstB o.dst C.nt = true) (hx : S.ev x = some (.c (.slice (some ⟨b, off, none⟩) len cap))) (hu' : tabLook undT t = some (.slice T)) (hs' : tabLook sizT T = some 1) (hl : EvO S ol 0 lo := by first | exact evO_none | exact evO_some (by first | exact evK_const rfl | exact evK_tmp rfl)) (hh : EvO S oh len hi := by first | exact evO_none | exact evO_some (by first | exact evK_const rfl | exact evK_tmp rfl)) (h1 : lo ≤ hi := by first | omega | decide) (h2 : hi ≤ cap := by first | omega | decide) (h3 : lo < cap := by first | omega | decide) :
    OpG C Try.prog ops o S ⟨opT x ++ (opO ol ++ opO oh), [], dw o.dst (.c (.slice (some ⟨b, off + lo, none⟩) (hi - lo) (cap - lo))), [], []⟩ := by
  have := op_cutC (C := C) (ops := ops) ho hg hd hx hu' hs' hl hh h1 h2
  rw [if_neg (by omega), Nat.mul_one] at this
  exact this
end
section
variable {dst : Option Tmp} {x y : Operand} {ats : Array TypeId} {ty : TypeId} {pos : String} {after : Array Edge}
theorem run_min {ρ : Operand → Value} {k : IntKind} {a b : Int} (hx : ρ x = .int k a) (hy : ρ y = .int k b) (w : World) : (execOp ρ ⟨dst, .call { callee := .builtin .min, args := #[x, y], argTypes := ats }, ty, pos, after, none⟩).run Try.prog w = .ok (.value (.int k (if b < a then b else a))) w := by
  simp [execOp, resolve, invoke, builtin, hx, hy, Builtin.min_, Builtin.min2]
theorem run_max {ρ : Operand → Value} {k : IntKind} {a b : Int} (hx : ρ x = .int k a) (hy : ρ y = .int k b) (w : World) : (execOp ρ ⟨dst, .call { callee := .builtin .max, args := #[x, y], argTypes := ats }, ty, pos, after, none⟩).run Try.prog w = .ok (.value (.int k (if b > a then b else a))) w := by
  simp [execOp, resolve, invoke, builtin, hx, hy, Builtin.max_, Builtin.max2]
theorem op_minN {a b : Nat} (hd : dstB dst C.nt = true) (hx : EvN S x a) (hy : EvN S y b) : OpG C Try.prog ops ⟨dst, .call { callee := .builtin .min, args := #[x, y], argTypes := ats }, ty, pos, after, none⟩ S ⟨opT x ++ opT y, [], dw dst (.c (.int .i64 ((min a b : Nat) : Int))), [], []⟩ :=
  op_two (v := .c (.int .i64 ((min a b : Nat) : Int))) rfl hd hx hy fun e ρ w h1 h2 => by
    have h1' : ρ x = .int .i64 (a : Int) := h1
    have h2' : ρ y = .int .i64 (b : Int) := h2
    rw [run_min h1' h2' w, show (if (b : Int) < (a : Int) then (b : Int) else (a : Int)) = ((min a b : Nat) : Int) by split <;> omega]
    rfl
theorem op_maxN {a b : Nat} (hd : dstB dst C.nt = true) (hx : EvN S x a) (hy : EvN S y b) : OpG C Try.prog ops ⟨dst, .call { callee := .builtin .max, args := #[x, y], argTypes := ats }, ty, pos, after, none⟩ S ⟨opT x ++ opT y, [], dw dst (.c (.int .i64 ((max a b : Nat) : Int))), [], []⟩ :=
  op_two (v := .c (.int .i64 ((max a b : Nat) : Int))) rfl hd hx hy fun e ρ w h1 h2 => by
    have h1' : ρ x = .int .i64 (a : Int) := h1
    have h2' : ρ y = .int .i64 (b : Int) := h2
    rw [run_max h1' h2' w, show (if (b : Int) > (a : Int) then (b : Int) else (a : Int)) = ((max a b : Nat) : Int) by split <;> omega]
    rfl
theorem op_minI {a b : Int} (hd : dstB dst C.nt = true) (hx : EvI S x a) (hy : EvI S y b) : OpG C Try.prog ops ⟨dst, .call { callee := .builtin .min, args := #[x, y], argTypes := ats }, ty, pos, after, none⟩ S ⟨opT x ++ opT y, [], dw dst (.c (.int .i64 (min a b))), [], []⟩ :=
  op_two (v := .c (.int .i64 (min a b))) rfl hd hx hy fun e ρ w h1 h2 => by
    have h1' : ρ x = .int .i64 a := h1
    have h2' : ρ y = .int .i64 b := h2
    rw [run_min h1' h2' w, show (if b < a then b else a) = min a b by split <;> omega]
    rfl
theorem op_maxI {a b : Int} (hd : dstB dst C.nt = true) (hx : EvI S x a) (hy : EvI S y b) : OpG C Try.prog ops ⟨dst, .call { callee := .builtin .max, args := #[x, y], argTypes := ats }, ty, pos, after, none⟩ S ⟨opT x ++ opT y, [], dw dst (.c (.int .i64 (max a b))), [], []⟩ :=
  op_two (v := .c (.int .i64 (max a b))) rfl hd hx hy fun e ρ w h1 h2 => by
    have h1' : ρ x = .int .i64 a := h1
    have h2' : ρ y = .int .i64 b := h2
    rw [run_max h1' h2' w, show (if b > a then b else a) = max a b by split <;> omega]
    rfl
end

/-! ### other names -/
def mp (σ : Nat → Nat) (e : Env) : Env := fun n => e (σ n)
def HasTm (σ : Nat → Nat) (S : St) : List (Nat × SV) → Prop
  | [] => True
  | p :: l => (∃ u, S.tmp p.1 = some u ∧ ∀ e, p.2.den (mp σ e) = u.den e) ∧ HasTm σ S l
def HasRm (σ : Nat → Nat) (S : St) : List (Nat × Option Res) → Prop
  | [] => True
  | p :: l => (∀ r, p.2 = some r → ∃ q, S.res (σ p.1) = some q ∧ (∀ e, r.foot (mp σ e) = q.foot e) ∧ (∀ e w, q.ok e w → r.ok (mp σ e) w) ∧ r.wr = q.wr) ∧ HasRm σ S l
theorem hasTm_nil {σ : Nat → Nat} : HasTm σ S [] := trivial
theorem hasTm_cons {σ : Nat → Nat} {i : Nat} {v u : SV} {l : List (Nat × SV)} (h : S.tmp i = some u) (hd : ∀ e, v.den (mp σ e) = u.den e) (h2 : HasTm σ S l) : HasTm σ S ((i, v) :: l) := ⟨⟨u, h, hd⟩, h2⟩
theorem hasRm_nil {σ : Nat → Nat} : HasRm σ S [] := trivial
theorem hasRm_cons {σ : Nat → Nat} {n : Nat} {r q : Res} {l : List (Nat × Option Res)} (h : S.res (σ n) = some q) (hf : ∀ e, r.foot (mp σ e) = q.foot e) (hok : ∀ e w, q.ok e w → r.ok (mp σ e) w) (hw : r.wr = q.wr) (h2 : HasRm σ S l) : HasRm σ S ((n, some r) :: l) :=
  ⟨fun r' hr' => by cases hr'; exact ⟨q, h, hf, hok, hw⟩, h2⟩
theorem hasTm_look {σ : Nat → Nat} : ∀ {l : List (Nat × SV)}, HasTm σ S l → ∀ {i v}, look l i = some v → ∃ u, S.tmp i = some u ∧ ∀ e, v.den (mp σ e) = u.den e
  | [], _, _, _, h => by cases h
  | (j, u) :: l, ⟨h1, h2⟩, i, v, h => by
    rw [look_cons] at h
    split at h
    · rename_i e; subst e; cases h; exact h1
    · exact hasTm_look h2 h
theorem hasRm_look {σ : Nat → Nat} : ∀ {l : List (Nat × Option Res)}, HasRm σ S l → ∀ {n r}, (look l n).join = some r → ∃ q, S.res (σ n) = some q ∧ (∀ e, r.foot (mp σ e) = q.foot e) ∧ (∀ e w, q.ok e w → r.ok (mp σ e) w) ∧ r.wr = q.wr
  | [], _, _, _, h => by cases h
  | (m, q) :: l, ⟨h1, h2⟩, n, r, h => by
    rw [look_cons] at h
    split at h
    · rename_i e; subst e
      exact h1 r h
    · exact hasRm_look h2 h
theorem join_mem {l : List (Nat × Option Res)} {n : Nat} {r : Res} (h : (look l n).join = some r) : n ∈ l.map (·.1) := by
  cases hl : look l n with
  | none => rw [hl] at h; cases h
  | some x => exact List.mem_map.2 ⟨_, look_some_mem hl, rfl⟩
/-- The state told by other names. -/
theorem ent_ren (σ : Nat → Nat) {t : List (Nat × SV)} {h : List (Nat × Option Res)} (ht : HasTm σ S t) (hr : HasRm σ S h) (hi : (h.map (·.1)).all (fun n => (h.map (·.1)).all fun m => Nat.beq n m || !Nat.beq (σ n) (σ m)) = true) : Ents C S ⟨t, h⟩ := fun e a w hS => by
  have inj : ∀ n m, n ∈ h.map (·.1) → m ∈ h.map (·.1) → n ≠ m → σ n ≠ σ m := by
    intro n m hn hm hne he
    have := List.all_eq_true.1 (List.all_eq_true.1 hi n hn) m hm
    simp [hne, he] at this
  refine ⟨mp σ e, hS.defers, hS.size, fun i v hv => ?_, fun n r hn => ?_, fun n r hn hw b hb => ?_, fun n m r r' hn hm hne hw b hb hb' => ?_, hS.frame⟩
  · obtain ⟨u, h1, h2⟩ := hasTm_look ht hv
    rw [h2 e]; exact hS.tmp i u h1
  · obtain ⟨q, h1, h2, h3, h4⟩ := hasRm_look hr hn
    exact h3 e w (hS.res _ q h1)
  · obtain ⟨q, h1, h2, h3, h4⟩ := hasRm_look hr hn
    rw [h2 e] at hb
    exact hS.mine _ q h1 (by rw [← h4]; exact hw) b hb
  · obtain ⟨q, h1, h2, h3, h4⟩ := hasRm_look hr hn
    obtain ⟨q', g1, g2, g3, g4⟩ := hasRm_look hr hm
    rw [h2 e] at hb
    rw [g2 e] at hb'
    exact hS.sep _ _ q q' h1 g1 (inj n m (join_mem hn) (join_mem hm) hne) (by rw [← h4]; exact hw) b hb hb'
/-- What holds no slice holds an own one of no element. -/
theorem ent_nil {t : List (Nat × SV)} {h : List (Nat × Option Res)} {i n : Nat} (T size : Nat) (hv : look t i = some (.c (.slice none 0 0))) (hf : freshB ⟨t, h⟩ n = true) : Ents C ⟨t, h⟩ ⟨(i, .v n) :: t, (n, some (.own n T size 0 [])) :: h⟩ := fun e a w hS => by
  have hfr := freshB_spec hf
  have h1 := hS.rename hfr ⟨0, 0, .slice none 0 0⟩
  have hfo : ∀ b, ¬ (Res.own n T size 0 []).foot (e.set n ⟨0, 0, .slice none 0 0⟩) b := by
    intro b hb
    have hb : ((e.set n ⟨0, 0, .slice none 0 0⟩) n).v.ownBlock = some b := hb
    rw [Env.set_self] at hb; cases hb
  refine ⟨e.set n ⟨0, 0, .slice none 0 0⟩, h1.defers, h1.size, fun j v hj => ?_, fun m r hm => ?_, fun m r hm hw b hb => ?_, fun m q r r' hm hq hne hw b hb hb' => ?_, h1.frame⟩
  · have hj2 : look ((i, SV.v n) :: t) j = some v := hj
    rw [look_cons] at hj2
    by_cases e0 : i = j
    · rw [if_pos e0] at hj2
      have hj3 : SV.v n = v := by simpa using hj2
      subst hj3
      subst e0
      show a.tmps[i]? = some ((e.set n ⟨0, 0, .slice none 0 0⟩) n).v
      rw [Env.set_self]
      exact hS.tmp i _ hv
    · rw [if_neg e0] at hj2
      exact h1.tmp j v hj2
  · rw [St.res_cons] at hm
    split at hm
    · cases hm
      show w.ownsRow 0 T size ((e.set n ⟨0, 0, .slice none 0 0⟩) n).v 0 []
      rw [Env.set_self]; exact World.ownsRow_nil w 0 T size
    · exact h1.res m r hm
  · rw [St.res_cons] at hm
    split at hm
    · cases hm; exact (hfo b hb).elim
    · exact h1.mine m r hm hw b hb
  · rw [St.res_cons] at hm hq
    split at hm
    · cases hm; exact (hfo b hb).elim
    · split at hq
      · cases hq; exact (hfo b hb').elim
      · exact h1.sep m q r r' hm hq hne hw b hb hb'

/-! ### calls that read memory, or hand back a slice of their own -/
/-- Handed back: a new slice of these cells; what lay there is as it was. -/
def RetOwn (w : World) (T size len : Nat) (xs : List Value) : Ending → World → Prop := fun r w' => ∃ v, r = .returned v ∧ w'.ownsRow w.heap.size T size v len xs ∧ Below w.heap.size w w'
theorem fin_own {n nt T size len : Nat} {xs : List Value} {w0 : World} (hr : S.res n = some (.own n T size len xs)) : ∀ e a w, Holds ⟨nt, w0, []⟩ S e a w → RetOwn w0 T size len xs (.returned ((SV.v n).den e)) w := fun e a w hS => by
  refine ⟨(e n).v, rfl, ?_, hS.frame.below rfl⟩
  have hok : w.ownsRow 0 T size (e n).v len xs := hS.res n _ hr
  have hmine := hS.mine n _ hr rfl
  refine ⟨hok.1, ?_⟩
  rcases hok.2 with h | ⟨g, cap, cur, hv, _, h⟩
  · exact .inl h
  · have : w0.heap.size ≤ g := by
      rcases hmine g (by show (e n).v.ownBlock = some g; rw [hv]; rfl) with h | h
      · exact h
      · cases h
    exact .inr ⟨g, cap, cur, hv, this, h⟩
def CallM (C : Ctx) (S : St) (rb : List Nat) (j : FuncId) (vs : List SV) (v : Value) : Prop := ∀ (S' : St) e a w, Holds C S' e a w → (∀ q ∈ rb, S'.res q = S.res q) → Calls Try.prog j (vs.map (·.den e)).toArray w fun r w' => r = .returned v ∧ Below w.heap.size w w'
def CallO (C : Ctx) (S : St) (rb : List Nat) (j : FuncId) (vs : List SV) (T size len : Nat) (xs : List Value) : Prop := ∀ (S' : St) e a w, Holds C S' e a w → (∀ q ∈ rb, S'.res q = S.res q) → Calls Try.prog j (vs.map (·.den e)).toArray w (RetOwn w T size len xs)
section
variable {j : FuncId} {vs : List SV} {v : Value} {T size len n1 n2 s1 s2 : Nat} {xs x1 x2 : List Value} {ns1 ns2 : List Nat} {v1 v2 : SV}
theorem callM_1 (h1 : RdN C S ns1 s1 v1 n1 x1) (h : ∀ (e : Env) w, RdV w s1 (v1.den e) n1 x1 → Calls Try.prog j (vs.map (·.den e)).toArray w fun r w' => r = .returned v ∧ Below w.heap.size w w') : CallM C S ns1 j vs v := fun S' e a w hS hq => h e w (h1 S' e a w hq hS)
theorem callM_2 (h1 : RdN C S ns1 s1 v1 n1 x1) (h2 : RdN C S ns2 s2 v2 n2 x2) (h : ∀ (e : Env) w, RdV w s1 (v1.den e) n1 x1 → RdV w s2 (v2.den e) n2 x2 → Calls Try.prog j (vs.map (·.den e)).toArray w fun r w' => r = .returned v ∧ Below w.heap.size w w') : CallM C S (ns1 ++ ns2) j vs v := fun S' e a w hS hq =>
  h e w (h1 S' e a w (fun q hq' => hq q (List.mem_append_left _ hq')) hS) (h2 S' e a w (fun q hq' => hq q (List.mem_append_right _ hq')) hS)
theorem callO_0 (h : ∀ (e : Env) w, Calls Try.prog j (vs.map (·.den e)).toArray w (RetOwn w T size len xs)) : CallO C S [] j vs T size len xs := fun _ e _ w _ _ => h e w
theorem callO_1 (h1 : RdN C S ns1 s1 v1 n1 x1) (h : ∀ (e : Env) w, RdV w s1 (v1.den e) n1 x1 → Calls Try.prog j (vs.map (·.den e)).toArray w (RetOwn w T size len xs)) : CallO C S ns1 j vs T size len xs := fun S' e a w hS hq => h e w (h1 S' e a w hq hS)
end
theorem op_callM {f : FuncId} {xs : Array Operand} {ats : Array TypeId} {vs : List SV} {rb : List Nat} {v : Value} {j : FuncId} (ho : o.op = .call { callee := .value (.func f), args := xs, argTypes := ats }) (hg : o.guard = none) (hd : dstB o.dst C.nt = true) (hxs : EvS S xs.toList vs) (hc' : tabLook calT f = some j) (hcon : CallM C S rb j vs v) :
    OpG C Try.prog ops o S ⟨xs.toList.flatMap opT, rb, dw o.dst (.c v), [], []⟩ := by
  have := op_call (C := C) (ops := ops) rb (.c v) ho hg hd hxs hc' fun S' e a w hS hq => hcon S' e a w hS hq
  rwa [show rb ++ (SV.c v).sup = rb from List.append_nil rb] at this
/-- A state behind a call that hands back a new slice. -/
theorem Holds.ownNew {e : Env} {a : Act} {w w' : World} (hS : Holds C S e a w) {n T size len : Nat} {xs : List Value} {v : Value} (hf : S.fresh n) (hb : Below w.heap.size w w') (hown : w'.ownsRow w.heap.size T size v len xs) : Holds C ⟨S.t, (n, some (.own n T size len xs)) :: S.h⟩ (e.set n ⟨0, 0, v⟩) a w' := by
  have h1 := (hS.world hb).rename hf ⟨0, 0, v⟩
  have hlow : ∀ b, v.ownBlock = some b → w.heap.size ≤ b := fun b hv => (hown.lt b hv).1
  have hfo : ∀ b, (Res.own n T size len xs).foot (e.set n ⟨0, 0, v⟩) b → w.heap.size ≤ b := by
    intro b hb
    have hb : ((e.set n ⟨0, 0, v⟩) n).v.ownBlock = some b := hb
    rw [Env.set_self] at hb; exact hlow b hb
  have hold : ∀ m r, S.res m = some r → ∀ b, r.foot (e.set n ⟨0, 0, v⟩) b → b < w.heap.size := by
    intro m r hr b hb
    have hind := r.ind e (e.set n ⟨0, 0, v⟩) fun q hq => Env.set_ne e _ (fun he => hf.2 m r hr (he ▸ hq))
    rw [hind.1] at hb
    exact r.lt e w b (hS.res m r hr) hb
  refine ⟨h1.defers, h1.size, h1.tmp, fun m r hm => ?_, fun m r hm hw b hb => ?_, fun m q r r' hm hq hne hw b hb hb' => ?_, h1.frame⟩
  · rw [St.res_cons] at hm
    split at hm
    · cases hm
      show w'.ownsRow 0 T size ((e.set n ⟨0, 0, v⟩) n).v len xs
      rw [Env.set_self]
      refine ⟨hown.1, ?_⟩
      rcases hown.2 with h | ⟨g, cap, cur, hv, _, h⟩
      · exact .inl h
      · exact .inr ⟨g, cap, cur, hv, Nat.zero_le _, h⟩
    · exact h1.res m r hm
  · rw [St.res_cons] at hm
    split at hm
    · cases hm; exact .inl (Nat.le_trans hS.frame.size (hfo b hb))
    · exact h1.mine m r hm hw b hb
  · rw [St.res_cons] at hm hq
    split at hm
    · cases hm
      split at hq
      · rename_i h2 h3; exact hne (h2.symm.trans h3)
      · have := hold q r' hq b hb'; have := hfo b hb; omega
    · split at hq
      · cases hq; have := hold m r hm b hb; have := hfo b hb'; omega
      · exact h1.sep m q r r' hm hq hne hw b hb hb'
theorem op_callO {f : FuncId} {xs : Array Operand} {ats : Array TypeId} {vs : List SV} {rb : List Nat} {j n T size len : Nat} {ys : List Value} (ho : o.op = .call { callee := .value (.func f), args := xs, argTypes := ats }) (hdn : o.dst = some n) (hg : o.guard = none) (hd : dstB o.dst C.nt = true) (hxs : EvS S xs.toList vs) (hc' : tabLook calT f = some j) (hcon : CallO C S rb j vs T size len ys) :
    OpG C Try.prog ops o S ⟨xs.toList.flatMap opT, rb, [(n, .v n)], [(n, some (.own n T size len ys))], [n]⟩ := by
  refine opG_mk hg fun S' h1 h2 h3 e a w hS => ?_
  have hev : xs.toList.map S'.ev = vs.map some := by
    rw [← show xs.toList.map S.ev = vs.map some from hxs]
    exact List.map_congr_left fun x hx => ev_like h1 fun i hi => List.mem_flatMap.2 ⟨x, hx, hi⟩
  have hargs : xs.map a.eval = (vs.map (·.den e)).toArray := by
    rw [← evs_all hS _ _ hev, ← Array.toList_map, Array.toArray_toList]
  have hcall := tabAll_look calT_ok hc'
  have hop : (execOp a.eval o).run Try.prog w = .ok (.enter j (vs.map (·.den e)).toArray) w := by
    obtain ⟨dst, op, ty, pos, after, guard⟩ := o
    change op = _ at ho
    subst ho
    rw [execOp_call_go]
    simp only [hargs, Array.empty_append, Array.append_empty]
    exact hcall _ w
  unfold Oper.wp
  rw [hop]
  refine Calls.mono (hcon S' e a w hS h2) ?_
  rintro r w' ⟨v, rfl, hown, hb⟩
  have := (hS.ownNew (n := n) (h3 n (by simp)) hb hown).put hd (.v n)
  simp only [SV.v, Env.set_self] at this
  rw [hdn] at this ⊢
  exact ⟨_, this⟩
section
variable {l : List Oper} {t : List (Nat × SV)} {h : List (Nat × Option Res)} {d : Nat} {f j : FuncId} {xs : Array Operand} {ats : Array TypeId} {vs : List SV}
theorem walk1_callM {K : St → Prop} (ho : o.op = .call { callee := .value (.func f), args := xs, argTypes := ats }) (hdn : o.dst = some d) (hg : o.guard = none) (hd : dstB o.dst C.nt = true) (hxs : EvS ⟨t, h⟩ xs.toList vs) (hc' : tabLook calT f = some j)
    (hK : ∃ rb v, CallM C ⟨t, h⟩ rb j vs v ∧ Walk1 C Try.prog ops l ⟨(d, .c v) :: t, h⟩ K) : Walk1 C Try.prog ops (o :: l) ⟨t, h⟩ K := by
  obtain ⟨rb, v, h1, h2⟩ := hK
  have := op_callM (C := C) (ops := ops) ho hg hd hxs hc' h1
  rw [hdn] at this
  exact walk1_t this h2
theorem walk_callM {x : List Nat} {acc : List OS} {K : St → List OS → Prop} (ho : o.op = .call { callee := .value (.func f), args := xs, argTypes := ats }) (hdn : o.dst = some d) (hg : o.guard = none) (hd : dstB o.dst C.nt = true) (hxs : EvS ⟨t, h⟩ xs.toList vs) (hc' : tabLook calT f = some j)
    (hK : ∃ rb v, CallM C ⟨t, h⟩ rb j vs v ∧ WalkTo C Try.prog ops [] l ⟨(d, .c v) :: t, h⟩ (⟨x ++ xs.toList.flatMap opT, rb, [(d, .c v)], [], []⟩ :: acc) K) : WalkTo C Try.prog ops x (o :: l) ⟨t, h⟩ acc K := by
  obtain ⟨rb, v, h1, h2⟩ := hK
  have := op_callM (C := C) (ops := ops) ho hg hd hxs hc' h1
  rw [hdn] at this
  exact walk_t this h2
theorem walk1_callO {K : St → Prop} (ho : o.op = .call { callee := .value (.func f), args := xs, argTypes := ats }) (hdn : o.dst = some d) (hg : o.guard = none) (hd : dstB o.dst C.nt = true) (hf : freshB ⟨t, h⟩ d = true) (hxs : EvS ⟨t, h⟩ xs.toList vs) (hc' : tabLook calT f = some j)
    (hK : ∃ rb T size len ys, CallO C ⟨t, h⟩ rb j vs T size len ys ∧ Walk1 C Try.prog ops l ⟨(d, .v d) :: t, (d, some (.own d T size len ys)) :: h⟩ K) : Walk1 C Try.prog ops (o :: l) ⟨t, h⟩ K := by
  obtain ⟨rb, T, size, len, ys, h1, h2⟩ := hK
  exact walk1_n (op_callO (C := C) (ops := ops) ho hdn hg hd hxs hc' h1) hf h2
theorem walk_callO {x : List Nat} {acc : List OS} {K : St → List OS → Prop} (ho : o.op = .call { callee := .value (.func f), args := xs, argTypes := ats }) (hdn : o.dst = some d) (hg : o.guard = none) (hd : dstB o.dst C.nt = true) (hf : freshB ⟨t, h⟩ d = true) (hxs : EvS ⟨t, h⟩ xs.toList vs) (hc' : tabLook calT f = some j)
    (hK : ∃ rb T size len ys, CallO C ⟨t, h⟩ rb j vs T size len ys ∧ WalkTo C Try.prog ops [] l ⟨(d, .v d) :: t, (d, some (.own d T size len ys)) :: h⟩ (⟨x ++ xs.toList.flatMap opT, rb, [(d, .v d)], [(d, some (.own d T size len ys))], [d]⟩ :: acc) K) : WalkTo C Try.prog ops x (o :: l) ⟨t, h⟩ acc K := by
  obtain ⟨rb, T, size, len, ys, h1, h2⟩ := hK
  exact walk_n (op_callO (C := C) (ops := ops) ho hdn hg hd hxs hc' h1) hf h2
end
end
end Go.Proofs.Ytcgmapioelfneaa
namespace Go.Proofs.Ytcgmapioelfneaa
open Go.RowKit

section
variable {C : Ctx} {ops : Array Oper} {S : St} {o : Oper}
/-! ### rows in parts -/
def Sub (A : SA) (off m : Nat) (B : SA) : Prop := ∀ e, ∃ pre post, A.den e = pre ++ B.den e ++ post ∧ pre.size = off ∧ (B.den e).size = m
theorem sub_all {A : SA} {m : Nat} (h : ∀ e, (A.den e).size = m) : Sub A 0 m A := fun e => ⟨#[], #[], by simp, rfl, h e⟩
theorem sub_here {A R : SA} {m : Nat} (h : ∀ e, (A.den e).size = m) : Sub (A.app R) 0 m A := fun e => ⟨#[], R.den e, by simp [SA.app], rfl, h e⟩
theorem sub_skip {A R B : SA} {off m k : Nat} (hk : ∀ e, (A.den e).size = k) (hle : Nat.ble k off = true) (h : Sub R (off - k) m B) : Sub (A.app R) off m B := fun e => by
  obtain ⟨pre, post, h1, h2, h3⟩ := h e
  have hle : k ≤ off := by simpa using hle
  exact ⟨A.den e ++ pre, post, by simp [SA.app, h1], by rw [Array.size_append, hk e, h2]; omega, h3⟩
theorem sub_more {A R B : SA} {m k : Nat} (hk : ∀ e, (A.den e).size = k) (hle : Nat.ble k m = true) (h : Sub R 0 (m - k) B) : Sub (A.app R) 0 m (A.app B) := fun e => by
  obtain ⟨pre, post, h1, h2, h3⟩ := h e
  have hle : k ≤ m := by simpa using hle
  have hp : pre = #[] := by simpa using h2
  subst hp
  exact ⟨#[], post, by simp [SA.app, h1], rfl, by simp only [SA.app, Array.size_append, hk e, h3]; omega⟩
theorem sub_c {a b : Array Value} {off m : Nat} (h : (decide (off + m ≤ a.size)) = true) (hb : a.extract off (off + m) = b) : Sub (.c a) off m (.c b) := fun e => by
  have h : off + m ≤ a.size := by simpa using h
  subst hb
  refine ⟨a.extract 0 off, a.extract (off + m), ?_, by simp; omega, by simp [SA.c]; omega⟩
  simp [SA.c, Nat.max_eq_right h]
/-- A cell of a row in parts. -/
theorem ld_appL {A R : SA} {i : Nat} {v : SV} (h : ∀ e, (A.den e)[i]? = some (v.den e)) : ∀ e, ((A.app R).den e)[i]? = some (v.den e) := fun e => by
  have h1 := h e
  have h2 := (Array.getElem?_eq_some_iff.1 h1).1
  simp only [SA.app]
  rw [Array.getElem?_append_left h2, h1]
theorem ld_appR {A R : SA} {i k : Nat} {v : SV} (hk : ∀ e, (A.den e).size = k) (hle : Nat.ble k i = true) (h : ∀ e, (R.den e)[i - k]? = some (v.den e)) : ∀ e, ((A.app R).den e)[i]? = some (v.den e) := fun e => by
  have hle : k ≤ i := by simpa using hle
  simp only [SA.app]
  rw [Array.getElem?_append_right (by rw [hk e]; exact hle), hk e, h e]
theorem set_appL {A R A' : SA} {i : Nat} {v : SV} (hlt : ∀ e, i < (A.den e).size) (h : ∀ e, (A.den e).setIfInBounds i (v.den e) = A'.den e) : ∀ e, ((A.app R).den e).setIfInBounds i (v.den e) = (A'.app R).den e := fun e => by
  simp only [SA.app]
  rw [← h e, Array.setIfInBounds_append, if_pos (hlt e)]
theorem set_appR {A R R' : SA} {i k : Nat} {v : SV} (hk : ∀ e, (A.den e).size = k) (hle : Nat.ble k i = true) (h : ∀ e, (R.den e).setIfInBounds (i - k) (v.den e) = R'.den e) : ∀ e, ((A.app R).den e).setIfInBounds i (v.den e) = (A.app R').den e := fun e => by
  have hle : k ≤ i := by simpa using hle
  simp only [SA.app]
  rw [Array.setIfInBounds_append, hk e, if_neg (by omega), h e]
theorem sz_appL {A R : SA} {i : Nat} (h : ∀ e, i < (A.den e).size) : ∀ e, i < ((A.app R).den e).size := fun e => by
  have := h e
  simp only [SA.app, Array.size_append]; omega
theorem sz_appR {A R : SA} {i k : Nat} (hk : ∀ e, (A.den e).size = k) (h : ∀ e, i - k < (R.den e).size) : ∀ e, i < ((A.app R).den e).size := fun e => by
  have := h e; have := hk e
  simp only [SA.app, Array.size_append]; omega
theorem sub_vals {k : IntKind} {q : Nat} {l : List (BitVec q)} {off m : Nat} (h : off + m ≤ l.length) : Sub (.c (vals k l)) off m (.c (vals k ((l.drop off).take m))) := fun e => by
  refine ⟨vals k (l.take off), vals k (l.drop (off + m)), ?_, ?_, ?_⟩
  · show vals k l = _
    have : l = l.take off ++ ((l.drop off).take m ++ l.drop (off + m)) := by rw [← List.drop_drop, List.take_append_drop, List.take_append_drop]
    conv => lhs; rw [this]
    simp [SA.c, vals, valsL]
  · simp [vals, valsL]; omega
  · simp [SA.c, vals, valsL]; omega
theorem sm_app {A R : SA} {k m n : Nat} (hk : ∀ e, (A.den e).size = k) (hm : ∀ e, (R.den e).size = m) (h : k + m = n) : ∀ e, ((A.app R).den e).size = n := fun e => by
  simp only [SA.app, Array.size_append, hk e, hm e, h]
theorem oc_app {A R : SA} (h : ∀ e, (A.den e).all (·.oneCell') = true) (h2 : ∀ e, (R.den e).all (·.oneCell') = true) : ∀ e, ((A.app R).den e).all (·.oneCell') = true := fun e => by
  simp only [SA.app, Array.all_append, h e, h2 e, Bool.and_self]
theorem oc_lnil : ∀ e, ((SA.l []).den e).all (·.oneCell') = true := fun _ => by simp [SA.l]
theorem oc_l {v : SV} {l : List SV} (hv : ∀ e, (v.den e).oneCell' = true) (h : ∀ e, ((SA.l l).den e).all (·.oneCell') = true) : ∀ e, ((SA.l (v :: l)).den e).all (·.oneCell') = true := fun e => by
  have := h e
  simp only [SA.l, List.map_cons, List.all_toArray] at this ⊢
  simp only [List.all_cons, hv e, this, Bool.and_self]
/-- A value that is a row. -/
def SV.row (A : SA) : SV := ⟨8, fun e => .agg (A.den e), A.sup, fun e e' h => by rw [A.ind e e' h]⟩
theorem ag_row {A : SA} : ∀ e, Value.agg (A.den e) = (SV.row A).den e := fun _ => rfl
theorem ga_row {A : SA} : ∀ e, (SV.row A).den e = Value.agg (A.den e) := fun _ => rfl
theorem ce_row {A : SA} : ∀ e, ((SV.row A).den e).cells = A.den e := fun _ => rfl
/-- A closed row, told in parts. -/
theorem ce_app {a : Array Value} {A : SA} (h : ∀ e, a = A.den e) : ∀ e, ((SV.c (.agg a)).den e).cells = A.den e := fun e => h e
theorem cea_one {a : Array Value} : ∀ e, a = (SA.c a).den e := fun _ => rfl
theorem cea_app {a b : Array Value} {R : SA} (h : ∀ e, b = R.den e) : ∀ e, a ++ b = ((SA.c a).app R).den e := fun e => by rw [h e]; rfl
/-- A part of a row, read. -/
theorem op_loadsM {ty : TypeId} {x : Operand} {n off : Nat} {T : TypeId} {A B : SA} {wr : Bool} {v : SV} {d : TypeDesc} {m : Nat} (ho : o.op = .load ty x) (hg : o.guard = none) (hd : dstB o.dst C.nt = true) (hx : S.ev x = some (.p n off)) (hr : S.res n = some (.blk n T A wr))
    (hu' : tabLook undT ty = some d) (hda : d.isRow = true) (hi' : tabLook sizT ty = some m) (hs : Sub A off m B := by (fail_if_success (with_reducible apply trap_sub)); repeat (first | ((with_reducible apply sub_all'); (· rfl); (· exact (by (fail_if_success (with_reducible apply trap_sm)); first | ((with_reducible apply sm_vals); exact (by first | omega | (simp; omega) | (simp <;> fail) | omega)) | ((with_reducible apply sm_c); first | (with_reducible assumption) | rfl) | ((with_reducible apply sm_l); rfl)))) | ((with_reducible apply sub_vals); first | omega | (simp; omega)) | ((with_reducible apply sub_here'); (· rfl); (· exact (by (fail_if_success (with_reducible apply trap_sm)); first | ((with_reducible apply sm_vals); exact (by first | omega | (simp; omega) | (simp <;> fail) | omega)) | ((with_reducible apply sm_c); first | (with_reducible assumption) | rfl) | ((with_reducible apply sm_l); rfl)))) | ((with_reducible apply sub_skip); (· exact (by (fail_if_success (with_reducible apply trap_sm)); first | ((with_reducible apply sm_vals); first | (with_reducible assumption) | (simp <;> fail) | rfl) | ((with_reducible apply sm_c); first | (with_reducible assumption) | rfl) | ((with_reducible apply sm_l); rfl))); (· rfl)) | ((with_reducible apply sub_more'); (· rfl); (· exact (by (fail_if_success (with_reducible apply trap_sm)); first | ((with_reducible apply sm_vals); first | (with_reducible assumption) | (simp <;> fail) | rfl) | ((with_reducible apply sm_c); first | (with_reducible assumption) | rfl) | ((with_reducible apply sm_l); rfl))); (· rfl)) | ((with_reducible apply sub_c); (· rfl); (· rfl)))) (hv : ∀ e, .agg (B.den e) = v.den e := by first | (with_reducible exact ag_c) | (with_reducible exact ag_l) | (with_reducible exact ag_row)) : OpG C Try.prog ops o S ⟨opT x, n :: v.sup, dw o.dst v, [], []⟩ := by
  have hu := tabAll_look undT_ok hu'
  have hi := tabAll_look sizT_ok hi'
  have := op_value (C := C) (P := Try.prog) (ops := ops) (S := S) hg hd [x] (n :: v.sup) v fun S' e a w hS h1 h2 => by
    have hev : a.eval x = .pointer (some ⟨(e n).b, off, none⟩) := hS.ev ((h1 x (by simp)).trans hx)
    obtain ⟨fr, hb, _⟩ := res_blk hS ((h2 n (by simp)).trans hr)
    obtain ⟨pre, post, g1, g2, g3⟩ := hs e
    have hra := World.rangeAt_of_block hb off m
    have hex : (A.den e).extract off (off + m) = B.den e := by
      rw [g1, ← g2, ← g3]
      apply Array.ext'
      simp
    rw [hex] at hra
    have hl := run_loadVar_mid (P := Try.prog) w (e n).b off ty (B.den e).toList d hra hu hda (by rw [hi]; simp [g3])
    rw [Array.toArray_toList] at hl
    simp [execOp, ho, hev, Instr.loadAt, Instr.sureAddr, Sem.run_bind, hl, hv e]
  simpa using this
/-- A part of a row, written. -/
def Upd (A : SA) (off m : Nat) (B A' : SA) : Prop := ∀ e, ∃ pre old post, A.den e = pre ++ old ++ post ∧ pre.size = off ∧ old.size = m ∧ (B.den e).size = m ∧ A'.den e = pre ++ B.den e ++ post
def Drop (A : SA) (m : Nat) (R : SA) : Prop := ∀ e, ∃ pre, A.den e = pre ++ R.den e ∧ pre.size = m
theorem drop_here {A R : SA} {m : Nat} (h : ∀ e, (A.den e).size = m) : Drop (A.app R) m R := fun e => ⟨A.den e, rfl, h e⟩
theorem drop_skip {A R R' : SA} {m k : Nat} (hk : ∀ e, (A.den e).size = k) (hle : Nat.ble k m = true) (h : Drop R (m - k) R') : Drop (A.app R) m R' := fun e => by
  obtain ⟨pre, h1, h2⟩ := h e
  have hle : k ≤ m := by simpa using hle
  exact ⟨A.den e ++ pre, by simp [SA.app, h1], by rw [Array.size_append, hk e, h2]; omega⟩
theorem upd_all {A B : SA} {m : Nat} (h : ∀ e, (A.den e).size = m) (hb : ∀ e, (B.den e).size = m) : Upd A 0 m B B := fun e => ⟨#[], A.den e, #[], by simp, rfl, h e, hb e, by simp⟩
theorem upd_here {A R B : SA} {m : Nat} (h : Drop A m R) (hb : ∀ e, (B.den e).size = m) : Upd A 0 m B (B.app R) := fun e => by
  obtain ⟨pre, h1, h2⟩ := h e
  exact ⟨#[], pre, R.den e, by simp [h1], rfl, h2, hb e, by simp [SA.app]⟩
theorem upd_skip {A R R' B : SA} {off m k : Nat} (hk : ∀ e, (A.den e).size = k) (hle : Nat.ble k off = true) (h : Upd R (off - k) m B R') : Upd (A.app R) off m B (A.app R') := fun e => by
  obtain ⟨pre, old, post, h1, h2, h3, h4, h5⟩ := h e
  have hle : k ≤ off := by simpa using hle
  exact ⟨A.den e ++ pre, old, post, by simp [SA.app, h1], by rw [Array.size_append, hk e, h2]; omega, h3, h4, by simp [SA.app, h5]⟩
theorem op_storesM {ty : TypeId} {x y : Operand} {n off : Nat} {T : TypeId} {A A' B : SA} {v : SV} {m : Nat} (ho : o.op = .store ty x y) (hg : o.guard = none) (hdst : o.dst = none) (hx : S.ev x = some (.p n off)) (hy : S.ev y = some v) (hr : S.res n = some (.blk n T A))
    (hi' : tabLook sizT ty = some m) (hv : ∀ e, v.den e = .agg (B.den e) := by first | (with_reducible exact ga_c) | (with_reducible exact ga_l) | (with_reducible exact ga_row)) (hup : Upd A off m B A' := by (fail_if_success (with_reducible apply trap_upd)); repeat (first | ((with_reducible apply upd_all'); (· rfl); (· exact (by (fail_if_success (with_reducible apply trap_sm)); first | ((with_reducible apply sm_vals); exact (by first | omega | (simp; omega) | (simp <;> fail) | omega)) | ((with_reducible apply sm_c); first | (with_reducible assumption) | rfl) | ((with_reducible apply sm_l); rfl))); (· exact (by (fail_if_success (with_reducible apply trap_sm)); repeat (first | ((with_reducible apply sm_vals); first | (with_reducible assumption) | exact (by first | omega | (simp; omega) | (simp <;> fail) | omega)) | ((with_reducible apply sm_c); first | (with_reducible assumption) | rfl) | ((with_reducible apply sm_l); rfl) | ((with_reducible apply sm_app); (· exact (by (fail_if_success (with_reducible apply trap_sm)); first | ((with_reducible apply sm_vals); first | (with_reducible assumption) | (simp <;> fail) | rfl) | ((with_reducible apply sm_c); first | (with_reducible assumption) | rfl) | ((with_reducible apply sm_l); rfl)))) | rfl)))) | ((first | with_reducible apply upd_here4 | with_reducible apply upd_here3 | with_reducible apply upd_here2 | with_reducible apply upd_here'); (· rfl); (· exact (by (fail_if_success (with_reducible apply trap_drop)); repeat (first | ((with_reducible apply drop_here); exact (by (fail_if_success (with_reducible apply trap_sm)); first | ((with_reducible apply sm_vals); exact (by first | omega | (simp; omega) | (simp <;> fail) | omega)) | ((with_reducible apply sm_c); first | (with_reducible assumption) | rfl) | ((with_reducible apply sm_l); rfl))) | ((with_reducible apply drop_skip); (· exact (by (fail_if_success (with_reducible apply trap_sm)); first | ((with_reducible apply sm_vals); first | (with_reducible assumption) | (simp <;> fail) | rfl) | ((with_reducible apply sm_c); first | (with_reducible assumption) | rfl) | ((with_reducible apply sm_l); rfl))); (· rfl))))); (· exact (by (fail_if_success (with_reducible apply trap_sm)); repeat (first | ((with_reducible apply sm_vals); first | (with_reducible assumption) | exact (by first | omega | (simp; omega) | (simp <;> fail) | omega)) | ((with_reducible apply sm_c); first | (with_reducible assumption) | rfl) | ((with_reducible apply sm_l); rfl) | ((with_reducible apply sm_app); (· exact (by (fail_if_success (with_reducible apply trap_sm)); first | ((with_reducible apply sm_vals); first | (with_reducible assumption) | (simp <;> fail) | rfl) | ((with_reducible apply sm_c); first | (with_reducible assumption) | rfl) | ((with_reducible apply sm_l); rfl)))) | rfl)))) | ((with_reducible apply upd_skip); (· exact (by (fail_if_success (with_reducible apply trap_sm)); first | ((with_reducible apply sm_vals); first | (with_reducible assumption) | (simp <;> fail) | rfl) | ((with_reducible apply sm_c); first | (with_reducible assumption) | rfl) | ((with_reducible apply sm_l); rfl))); (· rfl)))) (h1c : ∀ e, (B.den e).all (·.oneCell') = true := by (fail_if_success (with_reducible apply trap_oc)); repeat (first | (with_reducible exact oc_vals) | (with_reducible exact oc_lnil) | ((with_reducible apply oc_c); first | rfl | (simp [Value.oneCell'] <;> fail)) | ((with_reducible apply oc_l); (· exact fun _ => rfl)) | (with_reducible apply oc_app))) :
    OpG C Try.prog ops o S ⟨opT x ++ opT y, n :: A'.sup, [], [(n, some (.blk n T A'))], []⟩ := by
  have hi := tabAll_look sizT_ok hi'
  refine opG_mk hg fun S' h1 h2 h3 e a w hS => ?_
  have hev : a.eval x = .pointer (some ⟨(e n).b, off, none⟩) := hS.ev ((ev_like h1 fun _ h => List.mem_append_left _ h).trans hx)
  have hevy : a.eval y = .agg (B.den e) := (hS.ev ((ev_like h1 fun _ h => List.mem_append_right _ h).trans hy)).trans (hv e)
  have hr' := (h2 n (by simp)).trans hr
  obtain ⟨fr, hb, hfr⟩ := res_blk hS hr'
  rw [hfr rfl] at hb
  obtain ⟨pre, old, post, g1, g2, g3, g4, g5⟩ := hup e
  have hst := run_storeCells_at Try.prog (e n).b off T (B.den e).toList 0 (A.den e) w hb (by rw [g1]; simp only [Array.size_append, Array.length_toList]; omega) (fun u hu => Array.all_eq_true_iff_forall_mem.1 (h1c e) u (by simpa using hu))
  have hA : ((A.den e).toList.take (off + 0) ++ (B.den e).toList ++ (A.den e).toList.drop (off + 0 + (B.den e).toList.length)).toArray = A'.den e := by
    have l1 : pre.toList.length = off := by simpa using g2
    have l2 : old.toList.length = m := by simpa using g3
    have l3 : (B.den e).toList.length = m := by simpa using g4
    apply Array.ext'
    rw [g1, g5]
    simp only [Array.toList_append, Nat.add_zero, l3, List.append_assoc]
    rw [List.take_append_of_le_length (by omega), List.take_of_length_le (by omega), ← l1, ← l2, List.drop_append, List.drop_append]
    simp
    rw [List.drop_of_length_le (by simp), List.drop_of_length_le (by simp)]
    rfl
  rw [hA] at hst
  refine wp_skip' (w' := w.setRow (e n).b (A'.den e)) ?_ ⟨e, ?_⟩
  · cases hq : Try.prog.info? ty with
    | none => simp [hq] at hi
    | some i =>
      have hs : i.size = m := by simpa [hq] using hi
      have hcs : (Value.agg (B.den e)).cells = B.den e := rfl
      simp only [execOp, ho, hev, hevy, Instr.storeAt, Instr.sureAddr, storeVar, sizeOf, typeInfo, Sem.run_bind, Sem.run_pure, Result.andThen_ok, hcs]
      simp [hq, hs, g4, hst]
  · rw [hdst]
    refine hS.write hr' rfl rfl rfl (by simp) ?_ (fun k hk => setRow_other w _ k _ hk)
    exact setRow_heap w _ _ _ _ _ hb
theorem sub_all' {A : SA} {off m : Nat} (h0 : off = 0) (h : ∀ e, (A.den e).size = m) : Sub A off m A := h0 ▸ sub_all h
theorem sub_here' {A R : SA} {off m : Nat} (h0 : off = 0) (h : ∀ e, (A.den e).size = m) : Sub (A.app R) off m A := h0 ▸ sub_here h
theorem sub_more' {A R B : SA} {off m k : Nat} (h0 : off = 0) (hk : ∀ e, (A.den e).size = k) (hle : Nat.ble k m = true) (h : Sub R 0 (m - k) B) : Sub (A.app R) off m (A.app B) := h0 ▸ sub_more hk hle h
theorem upd_all' {A B : SA} {off m : Nat} (h0 : off = 0) (h : ∀ e, (A.den e).size = m) (hb : ∀ e, (B.den e).size = m) : Upd A off m B B := h0 ▸ upd_all h hb
theorem upd_here' {A R B : SA} {off m : Nat} (h0 : off = 0) (h : Drop A m R) (hb : ∀ e, (B.den e).size = m) : Upd A off m B (B.app R) := h0 ▸ upd_here h hb
theorem ld_cL {a : Array Value} {i : Nat} {v : Value} (h : a.toList[i]? = some v) : ∀ e, ((SA.c a).den e)[i]? = some ((SV.c v).den e) := fun _ => by simpa [SA.c, SV.c] using h
theorem cea_one1 {v : Value} {b : Array Value} {R : SA} (h : ∀ e, b = R.den e) : ∀ e, #[v] ++ b = ((SA.l [SV.c v]).app R).den e := fun e => by rw [h e]; rfl
/-! ### traps: a search that knows not yet what it looks at is to fail -/
def SA.trap : SA := SA.c #[]
def SV.trap : SV := SV.c undef
def trapF : List Field := []
theorem trap_sm (h : False) {k : Nat} : ∀ e, (SA.trap.den e).size = k := h.elim
theorem trap_sz (h : False) {i : Nat} : ∀ e, i < (SA.trap.den e).size := h.elim
theorem trap_ld (h : False) {i : Nat} {v : SV} : ∀ e, (SA.trap.den e)[i]? = some (v.den e) := h.elim
theorem trap_set (h : False) {i : Nat} {v : SV} {A : SA} : ∀ e, (SA.trap.den e).setIfInBounds i (v.den e) = A.den e := h.elim
theorem trap_sub (h : False) {off m : Nat} {B : SA} : Sub SA.trap off m B := h.elim
theorem trap_upd (h : False) {off m : Nat} {B A : SA} : Upd SA.trap off m B A := h.elim
theorem trap_drop (h : False) {m : Nat} {R : SA} : Drop SA.trap m R := h.elim
theorem trap_oc (h : False) : ∀ e, (SA.trap.den e).all (·.oneCell') = true := h.elim
theorem trap_ce (h : False) {A : SA} : ∀ e, (SV.trap.den e).cells = A.den e := h.elim
/-! ### structs, built of their parts -/
def FillR (S : St) (fs : Array Field) : SA → List (Nat × Operand) → SA → List Nat → Prop
  | A, [], A', l => A' = A ∧ l = []
  | A, p :: ps, A', l => ∃ fd sz v B A1 r, fs[p.1]? = some fd ∧ tabLook sizT fd.type = some sz ∧ S.ev p.2 = some v ∧ (∀ e, (v.den e).cells = B.den e) ∧ Upd A fd.offset sz B A1 ∧ FillR S fs A1 ps A' r ∧ l = v.sup ++ r
theorem fill_nil {fs : Array Field} {A : SA} : FillR S fs A [] A [] := ⟨rfl, rfl⟩
theorem fill_cons {fs : Array Field} {A A' A1 B : SA} {i sz : Nat} {x : Operand} {ps : List (Nat × Operand)} {fd : Field} {v : SV} {r : List Nat} (hf : fs[i]? = some fd) (hs : tabLook sizT fd.type = some sz) (hx : S.ev x = some v) (hc : ∀ e, (v.den e).cells = B.den e) (hu : Upd A fd.offset sz B A1) (h : FillR S fs A1 ps A' r) : FillR S fs A ((i, x) :: ps) A' (v.sup ++ r) :=
  ⟨fd, sz, v, B, A1, r, hf, hs, hx, hc, hu, h, rfl⟩
theorem fold_set : ∀ (l : List Value) (off : Nat) (pre old post : Array Value) (k : Nat), pre.size = off + k → old.size = l.length → (l.zipIdx k).foldl (fun cs (x : Value × Nat) => cs.setIfInBounds (off + x.2) x.1) (pre ++ old ++ post) = pre ++ l.toArray ++ post
  | [], off, pre, old, post, k, h, ho => by
    have : old = #[] := by simpa using ho
    subst this; simp
  | v :: l, off, pre, old, post, k, h, ho => by
    have hpos : 0 < old.size := by simp at ho; omega
    obtain ⟨x, rest, hx⟩ : ∃ x rest, old = #[x] ++ rest := by
      refine ⟨old[0], old.extract 1, ?_⟩
      apply Array.ext'
      obtain ⟨l0⟩ := old
      cases l0 with
      | nil => simp at hpos
      | cons y l0 => simp
    subst hx
    have e1 : (pre ++ (#[x] ++ rest) ++ post).setIfInBounds (off + k) v = (pre ++ #[v]) ++ rest ++ post := by
      apply Array.ext'
      simp only [Array.toList_setIfInBounds, Array.toList_append, ← h]
      rw [List.append_assoc, List.set_append_right _ _ (by simp)]
      simp
    rw [List.zipIdx_cons, List.foldl_cons]
    show List.foldl _ ((pre ++ (#[x] ++ rest) ++ post).setIfInBounds (off + k) v) _ = _
    rw [e1, fold_set l off (pre ++ #[v]) rest post (k + 1) (by simp [h]; omega) (by simp at ho; omega)]
    apply Array.ext'; simp
theorem fill_run {fs : Array Field} {S' : St} {e : Env} {a : Act} {w : World} (hS : Holds C S' e a w) {places : Nat → Option (Nat × Nat)} (hp : ∀ i fd sz, fs[i]? = some fd → tabLook sizT fd.type = some sz → places i = some (fd.offset, sz)) :
    ∀ (ps : List (Nat × Operand)) (A A' : SA) (l : List Nat), FillR S fs A ps A' l → (∀ p ∈ ps, S'.ev p.2 = S.ev p.2) → Instr.fill places (A.den e) (ps.map fun p => (p.1, a.eval p.2)) = some (A'.den e)
  | [], A, A', l, ⟨h, _⟩, _ => by rw [h]; rfl
  | p :: ps, A, A', l, ⟨fd, sz, v, B, A1, r, hf, hs, hx, hc, hu, hr, _⟩, hev => by
    have hv : a.eval p.2 = v.den e := hS.ev ((hev p (by simp)).trans hx)
    obtain ⟨pre, old, post, g1, g2, g3, g4, g5⟩ := hu e
    have ih := fill_run hS hp ps A1 A' r hr fun q hq => hev q (by simp [hq])
    rw [List.map_cons, Instr.fill]
    dsimp only
    rw [hp p.1 fd sz hf hs]
    dsimp only
    rw [hv, hc e]
    have hb1 : ¬ ((B.den e).size ≠ sz ∨ fd.offset + (B.den e).size > (A.den e).size) := by
      rw [g1]; simp only [Array.size_append]; omega
    rw [if_neg (by simpa using hb1)]
    have hfold : (B.den e).zipIdx.foldl (fun cs (x : Value × Nat) => cs.setIfInBounds (fd.offset + x.2) x.1) (A.den e) = A1.den e := by
      rw [g1, g5]
      have := fold_set (B.den e).toList fd.offset pre old post 0 (by omega) (by simp; omega)
      rw [← Array.foldl_toList, Array.toList_zipIdx]
      simpa using this
    rw [hfold]
    exact ih
def ZerR : List Field → SA → Array Value → Prop
  | [], _, _ => False
  | [f], A, zc => ∃ z, tabLook zerT f.type = some z ∧ A = .c z ∧ zc = z
  | f :: g :: fs, A, zc => ∃ z R zr, tabLook zerT f.type = some z ∧ A = (SA.c z).app R ∧ zc = z ++ zr ∧ ZerR (g :: fs) R zr
theorem zer_one {f : Field} {z : Array Value} (h : tabLook zerT f.type = some z) : ZerR [f] (.c z) z := ⟨z, h, rfl, rfl⟩
theorem zer_cons {f g : Field} {fs : List Field} {z zr : Array Value} {R : SA} (h : tabLook zerT f.type = some z) (h2 : ZerR (g :: fs) R zr) : ZerR (f :: g :: fs) ((SA.c z).app R) (z ++ zr) := ⟨z, R, zr, h, rfl, rfl, h2⟩
theorem zer_den : ∀ {fs : List Field} {A : SA} {zc : Array Value}, ZerR fs A zc → ∀ e, zc = A.den e
  | [], _, _, h, _ => h.elim
  | [_], _, _, ⟨_, _, h1, h2⟩, _ => by rw [h1, h2]; rfl
  | _ :: g :: fs, _, _, ⟨_, R, zr, _, h1, h2, h3⟩, e => by
    have h4 : zr = R.den e := zer_den h3 e
    rw [h1, h2, h4]; rfl
theorem trap_zer (h : False) {A : SA} {z : Array Value} : ZerR trapF A z := h.elim
theorem op_buildS {ty : TypeId} {parts : Array (Nat × Operand)} {fs : Array Field} {Z : Array Value} {A0 A' : SA} {l : List Nat} (ho : o.op = .build ty parts) (hg : o.guard = none) (hd : dstB o.dst C.nt = true) (hu' : tabLook undT ty = some (.struct fs)) (hss : (fs.all fun f => (tabLook sizT f.type).isSome) = true := by kernel_rfl) (hz' : tabLook zerT ty = some Z := by exact rfl) {zc : Array Value} (hz0 : ZerR fs.toList A0 zc := by (fail_if_success (with_reducible apply trap_zer)); repeat (first | exact zer_one rfl | (apply zer_cons; (· rfl)))) (hzz : Z = zc := by kernel_rfl) (hf : FillR S fs A0 parts.toList A' l := by repeat (first | exact fill_nil | (apply fill_cons; (· rfl); (· rfl); (· rfl); (· exact (by (fail_if_success (with_reducible apply trap_ce)); first | (with_reducible exact ce_row) | exact ce_c | exact ce_l | exact ce_row | exact (ce_one fun _ => rfl))); (· exact (by (fail_if_success (with_reducible apply trap_upd)); repeat (first | ((with_reducible apply upd_all'); (· rfl); (· exact (by (fail_if_success (with_reducible apply trap_sm)); first | ((with_reducible apply sm_vals); exact (by first | omega | (simp; omega) | (simp <;> fail) | omega)) | ((with_reducible apply sm_c); first | (with_reducible assumption) | rfl) | ((with_reducible apply sm_l); rfl))); (· exact (by (fail_if_success (with_reducible apply trap_sm)); repeat (first | ((with_reducible apply sm_vals); first | (with_reducible assumption) | exact (by first | omega | (simp; omega) | (simp <;> fail) | omega)) | ((with_reducible apply sm_c); first | (with_reducible assumption) | rfl) | ((with_reducible apply sm_l); rfl) | ((with_reducible apply sm_app); (· exact (by (fail_if_success (with_reducible apply trap_sm)); first | ((with_reducible apply sm_vals); first | (with_reducible assumption) | (simp <;> fail) | rfl) | ((with_reducible apply sm_c); first | (with_reducible assumption) | rfl) | ((with_reducible apply sm_l); rfl)))) | rfl)))) | ((first | with_reducible apply upd_here4 | with_reducible apply upd_here3 | with_reducible apply upd_here2 | with_reducible apply upd_here'); (· rfl); (· exact (by (fail_if_success (with_reducible apply trap_drop)); repeat (first | ((with_reducible apply drop_here); exact (by (fail_if_success (with_reducible apply trap_sm)); first | ((with_reducible apply sm_vals); exact (by first | omega | (simp; omega) | (simp <;> fail) | omega)) | ((with_reducible apply sm_c); first | (with_reducible assumption) | rfl) | ((with_reducible apply sm_l); rfl))) | ((with_reducible apply drop_skip); (· exact (by (fail_if_success (with_reducible apply trap_sm)); first | ((with_reducible apply sm_vals); first | (with_reducible assumption) | (simp <;> fail) | rfl) | ((with_reducible apply sm_c); first | (with_reducible assumption) | rfl) | ((with_reducible apply sm_l); rfl))); (· rfl))))); (· exact (by (fail_if_success (with_reducible apply trap_sm)); repeat (first | ((with_reducible apply sm_vals); first | (with_reducible assumption) | exact (by first | omega | (simp; omega) | (simp <;> fail) | omega)) | ((with_reducible apply sm_c); first | (with_reducible assumption) | rfl) | ((with_reducible apply sm_l); rfl) | ((with_reducible apply sm_app); (· exact (by (fail_if_success (with_reducible apply trap_sm)); first | ((with_reducible apply sm_vals); first | (with_reducible assumption) | (simp <;> fail) | rfl) | ((with_reducible apply sm_c); first | (with_reducible assumption) | rfl) | ((with_reducible apply sm_l); rfl)))) | rfl)))) | ((with_reducible apply upd_skip); (· exact (by (fail_if_success (with_reducible apply trap_sm)); first | ((with_reducible apply sm_vals); first | (with_reducible assumption) | (simp <;> fail) | rfl) | ((with_reducible apply sm_c); first | (with_reducible assumption) | rfl) | ((with_reducible apply sm_l); rfl))); (· rfl)))))))) (hl : subB A'.sup l = true := by kernel_rfl) :
    OpG C Try.prog ops o S ⟨(parts.toList.map (·.2)).flatMap opT, A'.sup, dw o.dst (.row A'), [], []⟩ := by
  refine op_value hg hd (parts.toList.map (·.2)) A'.sup (.row A') fun S' e a w hS h1 _ => ?_
  have hu := tabAll_look undT_ok hu'
  have hz := tabAll_look zerT_ok hz'
  obtain ⟨zv, hz3, hzc⟩ : ∃ zv, (zeroValue ty).run Try.prog w = .ok zv w ∧ zv.cells = Z := by
    cases hb : (Try.prog.info? ty) with
    | none => simp [hb] at hz
    | some i =>
      cases hc : i.zero with
      | none => simp [hb, hc] at hz
      | some zz => exact ⟨zz, by simp [zeroValue, typeInfo, hb, hc], by simpa [hb, hc] using hz⟩
  have hall : ∀ f ∈ fs.toList, ∃ sz, tabLook sizT f.type = some sz := fun f hf => by
    have := Array.all_eq_true_iff_forall_mem.1 hss f (by simpa using hf)
    exact Option.isSome_iff_exists.1 this
  have hmap : ∀ l : List Field, (∀ f ∈ l, ∃ sz, tabLook sizT f.type = some sz) → (l.mapM fun (f : Field) => do pure (f.offset, ← sizeOf f.type)).run Try.prog w = .ok (l.map fun f => (f.offset, (tabLook sizT f.type).getD 0)) w := by
    intro l
    induction l with
    | nil => intro _; rfl
    | cons f l ih =>
      intro h
      obtain ⟨sz, hsz⟩ := h f (by simp)
      simp only [List.mapM_cons, Sem.run_bind, run_sizeT hsz w, Result.andThen_ok, Sem.run_pure, ih fun g hg => h g (by simp [hg]), List.map_cons, hsz, Option.getD_some]
  have hmapA : (fs.mapM fun (f : Field) => do pure (f.offset, ← sizeOf f.type)).run Try.prog w = .ok (fs.map fun f => (f.offset, (tabLook sizT f.type).getD 0)) w := by
    rw [Array.mapM_eq_mapM_toList]
    have e1 : (fs.toList.map fun f => (f.offset, (tabLook sizT f.type).getD 0)).toArray = fs.map fun f => (f.offset, (tabLook sizT f.type).getD 0) := by
      apply Array.ext'; simp
    simp only [map_eq_pure_bind, Sem.run_bind, hmap fs.toList hall, Result.andThen_ok, Sem.run_pure, e1]
  have hp : ∀ (i : Nat) (fd : Field) (sz : Nat), fs[i]? = some fd → tabLook sizT fd.type = some sz → (fun i => (fs.map fun f => (f.offset, (tabLook sizT f.type).getD 0))[i]?) i = some (fd.offset, sz) := by
    intro i fd sz h1 h2
    simp [h1, h2]
  have hfill := fill_run hS hp parts.toList A0 A' l hf fun p hp => h1 p.2 (List.mem_map.2 ⟨p, hp, rfl⟩)
  have hpa : (parts.map fun (i, x) => (i, a.eval x)).toList = parts.toList.map fun p => (p.1, a.eval p.2) := by simp
  simp only [execOp, ho, Instr.build, Sem.run_bind, hz3, Result.andThen_ok, run_underlying hu w, hmapA, hzc, hpa, hzz.trans (zer_den hz0 e), hfill, Sem.run_pure]
  rfl
end
end Go.Proofs.Ytcgmapioelfneaa
