/- Regions that draw their order: one walk, in an order of ones own, serves every order. No condition. -/
import Derived.Test.YtikopoimoaddhaaChaM1
namespace Go.Proofs.Ytikopoimoaddhaa
open Go.RowKit
section
variable {P : Program} {ops : Array Oper} {C : World → Prop} {Q : Exit → Act → World → Prop}

/-- Operations that neither call nor write nor make. -/
def pureOp : Op → Bool
  | .move _ | .assign _ | .build _ _ | .load _ _ | .binOp _ _ _ _ _ | .unOp _ _ _ | .convert _ _ _ | .slice _ _ _ _ _ | .fieldAddr _ _ _ | .field _ _ _ | .indexAddr _ _ _ | .index _ _ _ | .extract _ _ => true
  | _ => false
theorem noEnter_value {s : Sem Value} {w w' : World} {f : FuncId} {args : Array Value} : (do let x ← s; pure (Next.value x) : Sem Next).run P w ≠ .ok (.enter f args) w' := by
  rw [Sem.run_bind]
  cases s.run P w with
  | ok v w1 => simp [Result.andThen]
  | halt h w1 => simp [Result.andThen]
theorem pure_noEnter {o : Oper} (h : pureOp o.op = true) {ρ : Operand → Value} {w w' : World} {f : FuncId} {args : Array Value} : (execOp ρ o).run P w ≠ .ok (.enter f args) w' := by
  obtain ⟨dst, op, type, pos, after, guard⟩ := o
  cases op <;> simp only [pureOp, Bool.false_eq_true] at h <;> simp only [execOp] <;> first | exact noEnter_value | simp

/-- In every world of the class the operation leaves v, and the world. -/
def Yields (P : Program) (C : World → Prop) (o : Oper) (v : Value) (a : Act) : Prop :=
  ∀ w, C w → (execOp a.eval o).run P w = .ok (.value v) w ∨ ((execOp a.eval o).run P w = .ok .skip w ∧ v = undef)
theorem yields_of_quiet {o : Oper} (hp : pureOp o.op = true) {a : Act} {K : Act → Prop} (h : o.quiet P a C K) : ∃ v, Yields P C o v a ∧ K (a.put o.dst v) := by
  obtain ⟨v, h1, h2⟩ := h
  refine ⟨v, fun w hw => ?_, h2⟩
  have h3 := h1 w hw
  unfold Oper.quietAt at h3
  have hne := fun f args w' => pure_noEnter (P := P) hp (ρ := a.eval) (w := w) (w' := w') (f := f) (args := args)
  generalize (execOp a.eval o).run P w = r at *
  cases r with
  | ok n w' =>
    cases n <;> simp only [Oper.quietUpon] at h3
    case value u => obtain ⟨rfl, rfl⟩ := h3; exact .inl rfl
    case skip => obtain ⟨rfl, rfl⟩ := h3; exact .inr ⟨rfl, rfl⟩
    case enter f args => exact (hne f args w' rfl).elim
  | halt x w' => simp only [Oper.quietUpon] at h3
theorem Yields.wp {o : Oper} {v : Value} {a : Act} (h : Yields P C o v a) {w : World} (hw : C w) {K : Act → World → Prop} (hk : K (a.put o.dst v) w) : o.wp P a w K (fun _ _ _ => False) := by
  unfold Oper.wp
  rcases h w hw with e | ⟨e, rfl⟩ <;> rw [e] <;> exact hk

/-- 'a' agrees with a but for the slot that an operation writes. -/
def SameBut (dst : Option Tmp) (a a' : Act) : Prop := ∃ (ds : List Deferred) (u : Value), a' = ({ a with defers := ds } : Act).put dst u
theorem upon_put {o : Oper} {a : Act} {x : Option Tmp} {v : Value} (hx : ∀ d, x = some d → o.dst ≠ some d) {K : Act → World → Prop} {r : Result Next} (h : o.upon P (a.put x v) K (fun _ _ _ => False) r) :
    o.upon P a (fun a' w' => K (a'.put x v) w' ∧ SameBut o.dst a a') (fun _ _ _ => False) r := by
  cases r with
  | ok n w' =>
    cases n <;> simp only [Oper.upon] at h ⊢
    case value u => exact ⟨by rw [← Act.put_comm a v u hx]; exact h, a.defers, u, rfl⟩
    case skip => exact ⟨by rw [← Act.put_comm a v undef hx]; exact h, a.defers, undef, rfl⟩
    case defer d =>
      refine ⟨?_, d :: a.defers, undef, rfl⟩
      rw [Act.put_defers] at h
      rw [← Act.put_comm _ v undef hx]; exact h
    case enter f args =>
      refine Calls.mono h fun e w'' he => ?_
      cases e with
      | returned u => exact ⟨by rw [← Act.put_comm a v u hx]; exact he, a.defers, u, rfl⟩
      | panicked c => exact he
      | outgrown => exact he
    case row row args => exact Rows.mono h fun u w'' he => ⟨by rw [← Act.put_comm a v u hx]; exact he, a.defers, u, rfl⟩
  | halt x w' => cases x <;> simp only [Oper.upon] at h ⊢

def opC (P : Program) (ops : Array Oper) (C : World → Prop) (i : Nat) (K : Act → World → Prop) (a : Act) (w : World) : Prop :=
  match ops[i]? with
  | none => K a w
  | some o => o.wp P a w (fun a' w' => C w' ∧ K a' w') (fun _ _ _ => False)
/-- Whatever order is picked from here on; the class is kept. -/
def wpAnyC (P : Program) (md : Region.Mode) (ops : Array Oper) (C : World → Prop) (Q : Exit → Act → World → Prop) : Nat → Array Bool → Act → World → Prop
  | 0, listed, a, w => Region.ready md ops listed = [] ∧ Q .normal a w
  | fuel + 1, listed, a, w => (Region.ready md ops listed = [] → Q .normal a w) ∧ ∀ i ∈ Region.ready md ops listed, opC P ops C i (wpAnyC P md ops C Q fuel (listed.setIfInBounds i true)) a w
theorem wp_of_noPanic {o : Oper} {a : Act} {w : World} {K : Act → World → Prop} (h : o.wp P a w K (fun _ _ _ => False)) : o.wp P a w K Q := by
  unfold Oper.wp at *
  generalize (execOp a.eval o).run P w = r at *
  cases r with
  | ok n w' =>
    cases n <;> simp only [Oper.upon] at h ⊢ <;> first | exact h | skip
    case enter f args =>
      refine Calls.mono h fun e w'' he => ?_
      cases e with
      | returned u => exact he
      | panicked c => exact he.elim
      | outgrown => obtain ⟨_, _, hf⟩ := he; exact hf.elim
  | halt x w' => cases x <;> simp only [Oper.upon] at h ⊢
variable {md : Region.Mode}
theorem wpAny_of_C (hg : ∀ (i : Nat) (o : Oper), ops[i]? = some o → o.guard = none) : ∀ (fuel : Nat) (listed : Array Bool) (a : Act) (w : World), wpAnyC P md ops C Q fuel listed a w → wpAny P md ops Q fuel listed a w
  | 0, _, _, _, h => h
  | fuel + 1, listed, a, w, h => ⟨h.1, fun i hi => by
      have h1 := h.2 i hi
      unfold opC at h1
      unfold wpOp
      cases ho : ops[i]? with
      | none => simp only [ho] at h1 ⊢; exact wpAny_of_C hg fuel _ _ _ h1
      | some o =>
        simp only [ho] at h1 ⊢
        have hw : Region.wanted o (yielded ops a.tmps) = true := by unfold Region.wanted; rw [hg i o ho]
        rw [if_pos hw]
        exact .inl (wp_of_noPanic (Oper.wp_mono (fun a' w' hk => wpAny_of_C hg fuel _ _ _ hk.2) h1))⟩
theorem wpAnyC_first {i : Nat} {oi : Oper} {v : Value} (hi : ops[i]? = some oi) (hsel : ∀ (j : Nat) (o : Oper) cs b, ops[j]? = some o → o.op ≠ .select cs b) :
    ∀ (fuel : Nat) (listed : Array Bool) (a : Act) (w : World),
      (∀ j oj, ops[j]? = some oj → j ≠ i → listed.getD j true = false → (∀ e ∈ oj.after, Region.binds md e = true → e.on ≠ i) → oi.apart ops oj = true) →
      i ∈ Region.ready md ops listed → Yields P C oi v a → C w →
      wpAnyC P md ops C Q fuel (listed.setIfInBounds i true) (a.put oi.dst v) w → wpAnyC P md ops C Q (fuel + 1) listed a w := by
  intro fuel
  induction fuel with
  | zero =>
    intro listed a w _ hr hy hC H
    refine ⟨fun h => (by rw [h] at hr; cases hr), fun j hj => ?_⟩
    by_cases hji : j = i
    · subst hji
      unfold opC; simp only [hi]
      exact hy.wp hC ⟨hC, H⟩
    · have := ready_mono hj hji
      rw [H.1] at this
      cases this
  | succ fuel ih =>
    intro listed a w hfree hr hy hC H
    refine ⟨fun h => (by rw [h] at hr; cases hr), fun j hj => ?_⟩
    by_cases hji : j = i
    · subst hji
      unfold opC; simp only [hi]
      exact hy.wp hC ⟨hC, H⟩
    · have h1 := H.2 j (ready_mono hj hji)
      obtain ⟨hjun, oj, hoj, hall⟩ := mem_ready.1 hj
      have hnot : ∀ e ∈ oj.after, Region.binds md e = true → e.on ≠ i := fun e he hb heq => by
        have h1 := hall e he hb
        have h0 := (mem_ready.1 hr).1
        rw [heq] at h1
        rcases Nat.lt_or_ge i listed.size with h' | h'
        · simp [h'] at h0 h1; rw [h0] at h1; cases h1
        · simp [Array.getElem?_eq_none h'] at h1
      obtain ⟨p1, p2, p3⟩ := Oper.apart_spec (hfree j oj hoj hji hjun hnot)
      have hfree' : ∀ k ok, ops[k]? = some ok → k ≠ i → (listed.setIfInBounds j true).getD k true = false →
          (∀ e ∈ ok.after, Region.binds md e = true → e.on ≠ i) → oi.apart ops ok = true := fun k ok hk hki hun hno => by
        refine hfree k ok hk hki ?_ hno
        by_cases hjk : j = k
        · subst hjk; exact hjun
        · rw [getD_set_ne true hjk] at hun; exact hun
      unfold opC at h1 ⊢
      simp only [hoj] at h1 ⊢
      unfold Oper.wp at h1
      rw [execOp_put oj (fun cs b => hsel j oj cs b hoj) a oi.dst v p1] at h1
      have h2 := upon_put (fun d hd => p2 d hd) h1
      refine Oper.wp_mono (fun a' w' hk => ?_) (show oj.wp P a w _ (fun _ _ _ => False) from h2)
      obtain ⟨⟨hC', hk'⟩, ds, u, rfl⟩ := hk
      refine ⟨hC', ih (listed.setIfInBounds j true) _ w' hfree' (ready_mono hr (Ne.symm hji)) ?_ hC' ?_⟩
      · intro w2 hw2
        have e : execOp ((({ a with defers := ds } : Act).put oj.dst u).eval) oi = execOp a.eval oi :=
          (execOp_put oi (fun cs b => hsel i oi cs b hi) ({ a with defers := ds } : Act) oj.dst u p3)
        rw [e]; exact hy w2 hw2
      · rw [Array.setIfInBounds_comm _ _ hji]
        exact hk'

/-- An order of one's own: 'calm': an operation that only computes; 'one': another one; 'two': one of two others, each with what is behind it. -/
inductive Ord where
  | done
  | calm (k : Nat) (rest : Ord)
  | one (k : Nat) (rest : Ord)
  | two (k : Nat) (rest : Ord) (k' : Nat) (rest' : Ord)
/-- n computing operations from k on, one behind the other. -/
def calms (k : Nat) : Nat → Ord → Ord
  | 0, r => r
  | n + 1, r => .calm k (calms (k + 1) n r)
/-- A walk in an order of one's own: operations that only compute by one value for the class, the others as they stand. -/
def wpMix (P : Program) (ops : Array Oper) (C : World → Prop) (Q : Exit → Act → World → Prop) : Ord → Act → World → Prop
  | .done, a, w => Q .normal a w
  | .calm k rest, a, w => ∃ o, ops[k]? = some o ∧ o.quiet P a C (fun a' => wpMix P ops C Q rest a' w)
  | .one k rest, a, w => ∃ o, ops[k]? = some o ∧ o.wp P a w (fun a' w' => C w' ∧ wpMix P ops C Q rest a' w') (fun _ _ _ => False)
  | .two k rest k' rest', a, w => (∃ o, ops[k]? = some o ∧ o.wp P a w (fun a' w' => C w' ∧ wpMix P ops C Q rest a' w') (fun _ _ _ => False)) ∧
      (∃ o, ops[k']? = some o ∧ o.wp P a w (fun a' w' => C w' ∧ wpMix P ops C Q rest' a' w') (fun _ _ _ => False))
/-- The order is one that serves for all. -/
def mixB (md : Region.Mode) (ops : Array Oper) : Ord → Nat → Array Bool → Bool
  | .done, n, listed => n == 0 && (Region.ready md ops listed).isEmpty
  | .calm k rest, n, listed => (Region.ready md ops listed).contains k && Region.free md ops listed k && ((ops[k]?).map (fun o => pureOp o.op)).getD false && (n != 0) && mixB md ops rest (n - 1) (listed.setIfInBounds k true)
  | .one k rest, n, listed => (Region.ready md ops listed == [k]) && (n != 0) && mixB md ops rest (n - 1) (listed.setIfInBounds k true)
  | .two k rest k' rest', n, listed => (Region.ready md ops listed == [k, k']) && (n != 0) && mixB md ops rest (n - 1) (listed.setIfInBounds k true) && mixB md ops rest' (n - 1) (listed.setIfInBounds k' true)
theorem wpAnyC_of_mix (hs : Region.noSelect ops = true) : ∀ (order : Ord) (n : Nat) (listed : Array Bool) (a : Act) (w : World), mixB md ops order n listed = true → C w → wpMix P ops C Q order a w → wpAnyC P md ops C Q n listed a w
  | .done, n, listed, a, w, hB, _, h => by
    simp only [mixB, Bool.and_eq_true, beq_iff_eq] at hB
    obtain ⟨rfl, hB⟩ := hB
    exact ⟨by simpa using hB, h⟩
  | .calm k rest, n, listed, a, w, hB, hC, h => by
    obtain ⟨o, ho, hq⟩ := h
    simp only [mixB, Bool.and_eq_true, ho, Option.map_some, Option.getD_some, bne_iff_ne] at hB
    obtain ⟨⟨⟨⟨hr, hf⟩, hp⟩, hn⟩, hB'⟩ := hB
    obtain ⟨m, rfl⟩ : ∃ m, n = m + 1 := ⟨n - 1, by omega⟩
    obtain ⟨v, hy, hK⟩ := yields_of_quiet hp hq
    exact wpAnyC_first ho (Region.noSelect_spec hs) m listed a w (Region.free_spec ho hf) (by simpa using hr) hy hC (wpAnyC_of_mix hs rest m _ _ _ hB' hC hK)
  | .one k rest, n, listed, a, w, hB, hC, h => by
    obtain ⟨o, ho, hq⟩ := h
    simp only [mixB, Bool.and_eq_true, beq_iff_eq, bne_iff_ne] at hB
    obtain ⟨⟨hr, hn⟩, hB'⟩ := hB
    obtain ⟨m, rfl⟩ : ∃ m, n = m + 1 := ⟨n - 1, by omega⟩
    refine ⟨fun e => (by rw [hr] at e; cases e), fun i hi => ?_⟩
    rw [hr] at hi
    obtain rfl : i = k := by simpa using hi
    unfold opC; simp only [ho]
    exact Oper.wp_mono (fun a' w' ⟨h1, h2⟩ => ⟨h1, wpAnyC_of_mix hs rest m _ _ _ hB' h1 h2⟩) hq
  | .two k rest k' rest', n, listed, a, w, hB, hC, h => by
    obtain ⟨⟨o, ho, hq⟩, ⟨o', ho', hq'⟩⟩ := h
    simp only [mixB, Bool.and_eq_true, beq_iff_eq, bne_iff_ne] at hB
    obtain ⟨⟨⟨hr, hn⟩, hB'⟩, hB''⟩ := hB
    obtain ⟨m, rfl⟩ : ∃ m, n = m + 1 := ⟨n - 1, by omega⟩
    refine ⟨fun e => (by rw [hr] at e; cases e), fun i hi => ?_⟩
    rw [hr] at hi
    rcases (by simpa using hi : i = k ∨ i = k') with rfl | rfl
    · unfold opC; simp only [ho]
      exact Oper.wp_mono (fun a' w' ⟨h1, h2⟩ => ⟨h1, wpAnyC_of_mix hs rest m _ _ _ hB' h1 h2⟩) hq
    · unfold opC; simp only [ho']
      exact Oper.wp_mono (fun a' w' ⟨h1, h2⟩ => ⟨h1, wpAnyC_of_mix hs rest' m _ _ _ hB'' h1 h2⟩) hq'
/-- A world of a class. -/
def HeldW (C0 : World → Prop) : Type := { W : World // C0 W }
def HeldW.w {C0 : World → Prop} (x : HeldW C0) : World := x.1
theorem HeldW.out {C0 : World → Prop} (x : HeldW C0) : C0 x.w := x.2
/-- ONE WALK IN AN ORDER OF ONE's OWN SERVES EVERY ORDER. -/
theorem wp_region_mix {id : Nat} {a : Act} {w : World} {l : List Oper} (order : Ord) (C0 : World → Prop) (hm : P.follows .mixedOrders = true)
    (hB : (l.all (·.guard.isNone) && Region.noSelect l.toArray && mixB .any l.toArray order l.length (Array.replicate l.length false)) = true) (hC : C0 w.drew)
    (h : Nonempty (HeldW C0) → wpMix P l.toArray (fun w' => ∃ x : HeldW C0, w' = x.w) Q order a w.drew) : (Code.region id l.toArray true).wp P Q a w := by
  simp only [Bool.and_eq_true, List.all_eq_true] at hB
  obtain ⟨⟨hg, hs⟩, hB'⟩ := hB
  refine wp_region_any hm (wpAny_of_C (C := fun w' => ∃ x : HeldW C0, w' = x.w) (fun i o ho => ?_) _ _ _ _ ?_)
  · have := hg o (by have := Array.mem_of_getElem? ho; simpa using this)
    simpa using this
  · have h2 := wpAnyC_of_mix (C := fun w' => ∃ x : HeldW C0, w' = x.w) hs order l.length (Array.replicate l.length false) a w.drew hB' ⟨⟨_, hC⟩, rfl⟩ (h ⟨⟨_, hC⟩⟩)
    simpa using h2
theorem wpMix_pure {C0 : World → Prop} {k : Nat} {rest : Ord} {a : Act} {w : World} {o : Oper} (hk : ops[k]? = some o)
    (h : ∀ K : Act → Prop, (∀ a, wpMix P ops (fun w' => ∃ x : HeldW C0, w' = x.w) Q rest a w → K a) → o.quiet P a (fun w' => ∃ x : HeldW C0, w' = x.w) K) : wpMix P ops (fun w' => ∃ x : HeldW C0, w' = x.w) Q (.calm k rest) a w :=
  ⟨o, hk, h _ fun _ h => h⟩
theorem wpMix_eff {C0 : World → Prop} {k : Nat} {rest : Ord} {a : Act} {w : World} {o : Oper} (hk : ops[k]? = some o)
    (h : ∀ K : Act → World → Prop, (∀ a w, (C0 w ∧ wpMix P ops (fun w' => ∃ x : HeldW C0, w' = x.w) Q rest a w) → K a w) → o.wp P a w K (fun _ _ _ => False)) : wpMix P ops (fun w' => ∃ x : HeldW C0, w' = x.w) Q (.one k rest) a w :=
  ⟨o, hk, h _ fun _ _ h => ⟨⟨⟨_, h.1⟩, rfl⟩, h.2⟩⟩
theorem wpMix_two {C0 : World → Prop} {k k' : Nat} {rest rest' : Ord} {a : Act} {w : World} (h : wpMix P ops (fun w' => ∃ x : HeldW C0, w' = x.w) Q (.one k rest) a w) (h' : wpMix P ops (fun w' => ∃ x : HeldW C0, w' = x.w) Q (.one k' rest') a w) :
    wpMix P ops (fun w' => ∃ x : HeldW C0, w' = x.w) Q (.two k rest k' rest') a w := ⟨h, h'⟩
theorem wpMix_done {C0 : World → Prop} {a : Act} {w : World} (h : Q .normal a w) : wpMix P ops (fun w' => ∃ x : HeldW C0, w' = x.w) Q .done a w := h
end
end Go.Proofs.Ytikopoimoaddhaa
