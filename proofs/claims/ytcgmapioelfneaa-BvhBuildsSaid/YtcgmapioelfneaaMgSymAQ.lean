/- A range over a function, told by places: the round's walk, the walk behind. No condition. Functions that hold a range over a function: their entry, their ends; what yields; what hands back a closure. No condition. slices.Backward over nodes: its contract. No condition. How deep a tree is, as the program tells: walked. No condition. -/
import Derived.Test.YtcgmapioelfneaaMgBvp3
import Derived.Test.YtcgmapioelfneaaMgBld3
import Derived.Test.YtcgmapioelfneaaMgSwp7
namespace Go.Proofs.Ytcgmapioelfneaa
open Go.RowKit
set_option maxRecDepth 100000
set_option maxHeartbeats 1000000
/-- An object that is no cells lies there. -/
def Res.lay (L : Nat) (o : Go.Obj) : Res where
  foot _ x := x = L
  ok _ w := w.heap[L]? = some o
  sup := []
  wr := true
  ind _ _ _ := ⟨rfl, rfl⟩
  loc _ _ _ h hok := (h L rfl).trans hok
  lt _ _ _ hok hf := by subst hf; exact (Array.getElem?_eq_some_iff.1 hok).1
section
variable {C : Ctx} {S : St} {e : Env} {a : Act} {w : World}
theorem Holds.layNew (hS : Holds C S e a w) (k : Nat) (o : Go.Obj) : Holds C ⟨S.t, (k, some (.lay w.heap.size o)) :: S.h⟩ e a (w.alloc o) where
  defers := hS.defers
  size := hS.size
  tmp := hS.tmp
  res n r hr := by
    rw [St.res_cons] at hr
    split at hr
    · cases hr; exact World.alloc_heap_new w o
    · exact r.loc e w _ (fun b hb => Below.heap_alloc w o b (r.lt e w b (hS.res n r hr) hb)) (hS.res n r hr)
  mine n r hr hw b hb := by
    rw [St.res_cons] at hr
    split at hr
    · cases hr; rw [show b = w.heap.size from hb]; exact .inl hS.frame.size
    · exact hS.mine n r hr hw b hb
  sep n m r r' hr hr' hne hw b hb hb' := by
    rw [St.res_cons] at hr hr'
    split at hr
    · split at hr'
      · rename_i h1 h2; exact hne (h1.symm.trans h2)
      · cases hr
        have := r'.lt e w b (hS.res m r' hr') hb'
        rw [show b = w.heap.size from hb] at this
        exact Nat.lt_irrefl _ this
    · split at hr'
      · cases hr'
        have := r.lt e w b (hS.res n r hr) hb
        rw [show b = w.heap.size from hb'] at this
        exact Nat.lt_irrefl _ this
      · exact hS.sep n m r r' hr hr' hne hw b hb hb'
  frame := ⟨hS.frame.os, hS.frame.tape, hS.frame.output, by rw [World.size_alloc]; exact Nat.le_succ_of_le hS.frame.size, fun k hk hm => (Below.heap_alloc w o k (Nat.lt_of_lt_of_le hk hS.frame.size)).trans (hS.frame.block k hk hm)⟩
theorem Holds.layPut (hS : Holds C S e a w) {k L : Nat} {o : Go.Obj} (hr0 : S.res k = some (.lay L o)) (o' : Go.Obj) : Holds C ⟨S.t, (k, some (.lay L o')) :: S.h⟩ e a (w.putObj L o') := by
  have hL : w.heap[L]? = some o := hS.res k _ hr0
  have hlt : L < w.heap.size := (Array.getElem?_eq_some_iff.1 hL).1
  have hsz : (w.putObj L o').heap.size = w.heap.size := by simp [World.putObj]
  refine ⟨hS.defers, hS.size, hS.tmp, fun n r hr => ?_, fun n r hr hw b hb => ?_, fun n m r r' hr hr' hne hw b hb hb' => ?_, ⟨hS.frame.os, hS.frame.tape, hS.frame.output, by rw [hsz]; exact hS.frame.size, fun q hq hm => ?_⟩⟩
  · rw [St.res_cons] at hr
    split at hr
    · cases hr; exact World.putObj_heap_same hlt
    · rename_i hne
      refine r.loc e w _ (fun b hb => World.putObj_heap_other fun hbL => ?_) (hS.res n r hr)
      exact hS.sep k n _ r hr0 hr hne rfl b (show b = L from hbL) hb
  · rw [St.res_cons] at hr
    split at hr
    · cases hr; exact hS.mine k _ hr0 rfl b hb
    · exact hS.mine n r hr hw b hb
  · rw [St.res_cons] at hr hr'
    split at hr
    · split at hr'
      · rename_i h1 h2; exact hne (h1.symm.trans h2)
      · rename_i h1 h2
        cases hr
        exact hS.sep k m _ r' hr0 hr' h2 rfl b hb hb'
    · split at hr'
      · rename_i h1 h2
        cases hr'
        exact hS.sep k n _ r hr0 hr h1 rfl b hb' hb
      · exact hS.sep n m r r' hr hr' hne hw b hb hb'
  · refine (World.putObj_heap_other fun hqL => ?_).trans (hS.frame.block q hq hm)
    rcases hS.mine k _ hr0 rfl L rfl with h | h
    · omega
    · exact hm (hqL ▸ h)
end
def closedT (l : List (Nat × Value)) : List (Nat × SV) := l.map fun p => (p.1, SV.c p.2)
theorem look_closedT (i : Nat) : ∀ l : List (Nat × Value), look (closedT l) i = (look l i).map SV.c
  | [] => rfl
  | (j, x) :: l => by
    show look ((j, SV.c x) :: closedT l) i = _
    rw [look_cons, look_cons, look_closedT i l]
    split <;> rfl
theorem wide_n {r : Option Nat} {n m : Nat} {P : Program} {c : Code} {Q : Exit → Act → World → Prop} {a : Act} {w : World} (h : c.wpIn (fenR r) n P Q a w) : c.wpIn (fenR r) m P Q a w := fun b k cs hro hb _ => h b k cs hro hb (room_wide _)
/-- An iterator, told by places: in the k-th round it hands over encs k. -/
def IterAt (P : Program) (gf : Nat) (lb : Array Value) (encs : Nat → Array Value) (N : Nat) (Rd : World → Prop) : Prop :=
  ∀ (l : Nat) (J : Nat → World → Prop) (Jx : World → Prop) (W : World), (∀ k W, J k W → Rd W) → (∀ k W W', J k W → Below W.heap.size W W' → J k W') → (∀ W W', Jx W → Below W.heap.size W W' → Jx W') →
    (∀ k W1, k < N → J k W1 → YieldAt Fence.wide 7 P l (encs k) W1 fun e W' => (e = .returned (.bool true) ∧ J (k + 1) W') ∨ (e = .returned (.bool false) ∧ Jx W')) → J 0 W →
    CallsIn Fence.wide 8 P gf (#[.func (.yield l) #[] #[]] ++ lb) W fun e W' => (∃ v, e = .returned v) ∧ (J N W' ∨ Jx W')
def markD (D : Nat) : Deferred := { target := .collected D, args := #[] }
def loopOf (fn : FuncId) (tmps : Array Value) (ps : Array Tmp) (assign body : Code) (D : Nat) (st : LoopState) : Loop := { state := st, pending := none, fn, tmps, params := ps, assign, body, defers := D }
end Go.Proofs.Ytcgmapioelfneaa
namespace Go.Proofs.Ytcgmapioelfneaa
open Go.RowKit
set_option maxRecDepth 100000
set_option maxHeartbeats 1000000
section
variable {C : Ctx} {P : Program} {S : St} {Q : Exit → Act → World → Prop} {r : Option Nat} {ds : List Deferred}
/-! ### entry and ends -/
theorem calls_triM {f : FuncId} {fn : Func} {c : Code} {args : Array Value} {w : World} {R : Ending → World → Prop} {n : Nat} (hf : P.funcs[f]? = some fn) (hb : fn.body = some c) (hn : fn.ntmps = n) (hargs : Nat.ble args.size n = true)
    (h : Tri ⟨n, w, []⟩ P ⟨idx 0 args.toList, []⟩ c (bodyPostM Fence.wide 9 P fn R)) : Calls P f args w R := by
  subst hn
  exact callsIn_wide.1 (callsIn_of_wp_marks hf hb trivial (wpIn_wide.2 (h _ _ _ (holds_start (Nat.le_of_ble_eq_true hargs)))))
theorem end_retD {fn : Func} {R : Ending → World → Prop} {D : Nat} (v : SV) (hr : S.res 7777 = some (.lay D (.deferred (some []))))
    (hv : ∀ e a w, Holds C ⟨S.t, (7777, some (.lay D (.deferred none))) :: S.h⟩ e a w → (results fn a.tmps).run P w = .ok (v.den e) w) (hR : ∀ e a w, Holds C ⟨S.t, (7777, some (.lay D (.deferred none))) :: S.h⟩ e a w → R (.returned (v.den e)) w) :
    EndA C S (fun a w => bodyPostM Fence.wide 9 P fn R .ret (dfs [markD D] a) w) := fun e a w hS => by
  have hD : w.heap[D]? = some (.deferred (some [])) := hS.res 7777 _ hr
  have h1 := hS.layPut hr (.deferred none)
  exact ⟨by simp, .inl ⟨D, _, rfl, run_takeDeferred hD, _, hv e a _ h1, hR e a _ h1⟩⟩
/-- Behind the loop: what is left is walked with the mark among the deferred calls. -/
theorem end_rest {y : Code} (h : TriG none ds C P S y (fun e a w => Q e (dfs ds a) w)) : EndA C S (fun a w => y.wp P Q (dfs ds a) w) := fun e a w hS =>
  wpIn_wide.1 (wpIn_mono (h e a w hS) fun _ _ _ ⟨_, h1, h2⟩ => by subst h1; exact h2)
/-! ### blocks by number -/
def pinsL (e : Env) (ns : List Nat) : List (Nat × Option Res) := ns.map fun n => (8000 + n, some (Res.is n (e n).b))
theorem look_pins {e : Env} {i : Nat} {x : Option Res} : ∀ {ns : List Nat}, look (pinsL e ns) i = some x → ∃ n, x = some (.is n (e n).b)
  | [], h => by cases h
  | n :: ns, h => by
    have h : look ((8000 + n, some (Res.is n (e n).b)) :: pinsL e ns) i = some x := h
    rw [look_cons] at h
    split at h
    · exact ⟨n, (Option.some.inj h).symm⟩
    · exact look_pins h
theorem tri_pin {c : Code} (ns : List Nat) (h : ∀ e : Env, Tri C P ⟨closeT e S.t, pinsL e ns ++ S.h⟩ c Q) : Tri C P S c Q := fun e a w hS => by
  have key : ∀ q rr, (St.mk (closeT e S.t) (pinsL e ns ++ S.h)).res q = some rr → (∃ n, rr = .is n (e n).b) ∨ S.res q = some rr := fun q rr hq => by
    unfold St.res at hq
    rw [look_append] at hq
    cases hl : look (pinsL e ns) q with
    | none => rw [hl] at hq; exact .inr hq
    | some x =>
      rw [hl] at hq
      obtain ⟨n, rfl⟩ := look_pins hl
      obtain rfl := Option.some.inj hq
      exact .inl ⟨n, rfl⟩
  refine h e e a w ⟨hS.defers, hS.size, fun i v hv => ?_, fun q rr hq => ?_, fun q rr hq hw b hb => ?_, fun q q' rr rr' hq hq' hne hw b hb hb' => ?_, hS.frame⟩
  · have hv : look (closeT e S.t) i = some v := hv
    rw [look_closeT] at hv
    cases hl : look S.t i with
    | none => rw [hl] at hv; cases hv
    | some u =>
      rw [hl] at hv
      obtain rfl := Option.some.inj hv
      exact hS.tmp i u hl
  · rcases key q rr hq with ⟨n, rfl⟩ | h1
    · rfl
    · exact hS.res q rr h1
  · rcases key q rr hq with ⟨n, rfl⟩ | h1
    · exact hb.elim
    · exact hS.mine q rr h1 hw b hb
  · rcases key q rr hq with ⟨n, rfl⟩ | h1
    · exact hb.elim
    · rcases key q' rr' hq' with ⟨n, rfl⟩ | h2
      · exact hb'.elim
      · exact hS.sep q q' rr rr' h1 h2 hne hw b hb hb'
/-- A block's number is a name's again. -/
theorem ent_unp {t : List (Nat × SV)} {h : List (Nat × Option Res)} (i n off : Nat) {b : Nat} (hv : look t i = some (.c (.pointer (some ⟨b, off, none⟩)))) (hr : (St.mk t h).res (8000 + n) = some (.is n b)) : Ents C ⟨t, h⟩ ⟨(i, .p n off) :: t, h⟩ := fun e a w hS => by
  refine ⟨e, hS.defers, hS.size, fun j v hj => ?_, hS.res, hS.mine, hS.sep, hS.frame⟩
  have hk : look ((i, SV.p n off) :: t) j = some v := hj
  rw [look_cons] at hk
  by_cases h1 : i = j
  · rw [if_pos h1] at hk
    obtain rfl := Option.some.inj hk
    have h2 := hS.tmp i _ hv
    have h3 : (e n).b = b := hS.res _ _ hr
    rw [← h1, h2]
    simp only [SV.c, SV.p, h3]
  · rw [if_neg h1] at hk
    exact hS.tmp j v hk
/-! ### a call that hands back a closure, which holds one new block -/
def RetFV (w : World) (gf T : Nat) (cells : Array Value) : Ending → World → Prop := fun x w' => ∃ b, x = .returned (.func (.func gf) #[] #[.pointer (some ⟨b, 0, none⟩)]) ∧ w.heap.size ≤ b ∧ Blk w' b cells T ∧ Below w.heap.size w w'
theorem op_callFV {ops : Array Oper} {o : Oper} {f : FuncId} {xs : Array Operand} {ats : Array TypeId} {vs : List SV} {j n gf T : Nat} {cells : Array Value} (ho : o.op = .call { callee := .value (.func f), args := xs, argTypes := ats }) (hdn : o.dst = some n) (hg : o.guard = none) (hd : dstB o.dst C.nt = true) (hxs : EvS S xs.toList vs) (hc' : tabLook calT f = some j)
    (hcon : ∀ (e : Env) w, Calls Try.prog j (vs.map (·.den e)).toArray w (RetFV w gf T cells)) :
    OpG C Try.prog ops o S ⟨xs.toList.flatMap opT, [], [(n, .clo gf [.p n 0])], [(n, some (.blk n T (.c cells)))], [n]⟩ := by
  refine opG_mk hg fun S' h1 h2 h3 e a w hS => ?_
  unfold Oper.wp
  rw [call_hop ho hxs hc' h1 hS]
  refine Calls.mono (hcon e w) ?_
  rintro x w' ⟨b, rfl, hsz, hB, hb⟩
  have := (hS.newObj (n := n) (h3 n (by simp)) T (.c cells) (fun _ => rfl) hb hsz hB).put hd (.clo gf [.p n 0])
  rw [hdn] at this ⊢
  simp only [SV.clo, SV.p, List.map_cons, List.map_nil, Env.set_self] at this
  exact ⟨_, this⟩
theorem fin_FV {w0 : World} {nt n gf : Nat} {T : TypeId} {A : SA} {cells : Array Value} (hr : S.res n = some (.blk n T A)) (hA : ∀ e, A.den e = cells) :
    ∀ e a w, Holds ⟨nt, w0, []⟩ S e a w → RetFV w0 gf T cells (.returned ((SV.clo gf [.p n 0]).den e)) w := fun e a w hS => by
  obtain ⟨fr, hb, hfr⟩ := res_blk hS hr
  rw [hfr rfl, hA] at hb
  refine ⟨(e n).b, rfl, ?_, hb, hS.frame.below rfl⟩
  rcases hS.mine n _ hr rfl _ rfl with h | h
  · exact h
  · cases h
theorem endA_of {K : Act → World → Prop} (h : ∀ e a w, Holds C S e a w → K a w) : EndA C S K := h
theorem walk1_nil {ops : Array Oper} {K : St → Prop} (h : K S) : Walk1 C P ops [] S K := h
theorem Holds.rebaseW {e : Env} {a : Act} {w w2 : World} {t : List (Nat × SV)} (hS : Holds C S e a w) (ht : HasT S t) : Holds ⟨C.nt, w2, []⟩ ⟨t, []⟩ e a w2 :=
  ⟨hS.defers, hS.size, fun i v hv => hS.tmp i v (hasT_look ht hv), fun n rr hn => (by cases hn), fun n rr hn => (by cases hn), fun n m rr rr' hn => (by cases hn), ⟨rfl, rfl, rfl, Nat.le_refl _, fun _ _ _ => rfl⟩⟩
theorem Holds.rebase {e : Env} {a : Act} {w : World} {t : List (Nat × SV)} (hS : Holds C S e a w) (ht : HasT S t) : Holds ⟨C.nt, w, []⟩ ⟨t, []⟩ e a w :=
  ⟨hS.defers, hS.size, fun i v hv => hS.tmp i v (hasT_look ht hv), fun n rr hn => (by cases hn), fun n rr hn => (by cases hn), fun n m rr rr' hn => (by cases hn), ⟨rfl, rfl, rfl, Nat.le_refl _, fun _ _ _ => rfl⟩⟩
/-! ### yield -/
theorem chain_preG {ops : Array Oper} {l2 : List Oper} : ∀ (l : List Oper) (S : St) (os : List OS) (S' : St), l.all calmO = true → Chain C P ops l S os S' → ∀ e a w, Holds C S e a w → (∀ e a w, Holds C S' e a w → wpListIn (fenR r) 9 P ops (liftQ ds Q) l2 (dfs ds a) w) → wpListIn (fenR r) 9 P ops (liftQ ds Q) (l ++ l2) (dfs ds a) w
  | [], S, [], S', _, h, e, a, w, hS, hQ => by cases h; exact hQ e a w hS
  | o :: l, S, os :: rr, S', hc, ⟨h, hf, ht⟩, e, a, w, hS, hQ => by
    rw [List.all_cons, Bool.and_eq_true] at hc
    have h1 := h S (fun _ _ => rfl) (fun _ _ => rfl) (fun n hn => freshB_spec (List.all_eq_true.1 hf n hn)) e a w hS
    rw [List.cons_append]
    unfold wpListIn
    rw [show (dfs ds a).tmps = a.tmps from rfl]
    split at h1
    · rename_i hw
      rw [if_pos hw]
      exact Oper.wpIn_mono (fun a' w' ⟨a0, ha, e', h'⟩ => by
        subst ha
        exact chain_preG l _ rr S' hc.2 ht e' a0 w' h' hQ) (oper_in hc.1 holds_calm h1)
    · rename_i hw
      rw [if_neg hw, put_dfs]
      obtain ⟨e', h'⟩ := h1
      exact ⟨fun _ _ => trivial, chain_preG l _ rr S' hc.2 ht e' _ w h' hQ⟩
  | [], _, _ :: _, _, _, h, _, _, _, _, _ => h.elim
  | _ :: _, _, [], _, _, h, _, _, _, _, _ => h.elim
theorem triG_regS {id : Nat} {l1 l2 : List Oper} {o : Oper} (h : Walk1 C P (l1 ++ o :: l2).toArray l1 S fun S' => ∀ e a w, Holds C S' e a w → o.wpIn (fenR r) 9 P (dfs ds a) w (fun a' w' => ∃ a0, a' = dfs ds a0 ∧ wpListIn (fenR r) 9 P (l1 ++ o :: l2).toArray (liftQ ds Q) l2 (dfs ds a0) w') (liftQ ds Q))
    (hg : o.guard = none := by rfl) (hc : l1.all calmO = true := by rfl) : TriG r ds C P S (.region id (l1 ++ o :: l2).toArray false) Q := fun e a w hS => by
  obtain ⟨os, S', h1, h2⟩ := walk1_chain l1 S h
  refine wpIn_region_lit (chain_preG l1 S os S' hc h1 e a w hS fun e a w hS' => ?_)
  unfold wpListIn
  rw [if_pos (by simp [Region.wanted, hg])]
  exact Oper.wpIn_mono (fun a' w' ⟨a0, ha, h'⟩ => by subst ha; exact h') (h2 e a w hS')
theorem list_walk {ops : Array Oper} {l2 : List Oper} {e : Env} {a : Act} {w : World} (hS : Holds C S e a w) (h : Walk1 C P ops l2 S fun S' => EndA C S' (Q .normal)) (hc : l2.all calmO = true := by rfl) : wpListIn (fenR r) 9 P ops (liftQ ds Q) l2 (dfs ds a) w := by
  obtain ⟨os, S', h1, h2⟩ := walk1_chain l2 S h
  exact chain_listG l2 S os S' hc h1 e a w hS h2
theorem yield_in {e : Env} {a : Act} {w : World} (hS : Holds C S e a w) {o : Oper} {t0 d l : Nat} {xs : Array Operand} {ats : Array TypeId} {vs : List SV} {args : Array Value} {R : Ending → World → Prop} {K : Act → World → Prop} (ho : o.op = .call { callee := .value (.tmp t0), args := xs, argTypes := ats }) (hdn : o.dst = some d)
    (hcal : S.tmp t0 = some (.c (.func (.yield l) #[] #[]))) (hxs : EvS S xs.toList vs) (hargs : (vs.map (·.den e)).toArray = args) (hY : YieldAt Fence.wide 7 P l args w R) (hR : ∀ x w', R x w' → ∃ v, x = .returned v ∧ K (a.put (some d) v) w') :
    o.wpIn (fenR none) 9 P (dfs [] a) w (fun a' w' => ∃ a0, a' = dfs [] a0 ∧ K a0 w') Q := by
  obtain ⟨fn, tmps, assign, body, hy, hRd⟩ := hY
  have hav : xs.map a.eval = args := by
    rw [← hargs, ← evs_all hS _ _ hxs, ← Array.toList_map, Array.toArray_toList]
  have hfn : a.eval (.tmp t0) = .func (.yield l) #[] #[] := hS.ev (show S.ev (.tmp t0) = _ from hcal)
  refine ⟨fun _ _ => trivial, ?_⟩
  show o.uponIn _ _ _ _ _ _ ((execOp a.eval o).run P w)
  have hop : (execOp a.eval o).run P w = .ok (.round l fn tmps assign body) w := by
    simp only [execOp, ho, resolve, hfn, Deferred.ofValue, Sem.run_bind, Sem.run_pure, Result.andThen_ok, invoke, Array.empty_append, Array.append_empty, hav]
    exact hy
  rw [hop]
  refine ⟨fun h => (by cases h), trivial, fun c cs _ => ?_⟩
  obtain ⟨x, w', h1, h2⟩ := hRd.2 c cs (room_wide _)
  obtain ⟨v, rfl, hk⟩ := hR x w' h1
  refine ⟨.returned v, w', ?_, h2⟩
  rw [hdn]
  exact ⟨_, put_dfs a _ _, hk⟩
/-! ### a loop whose world is told anew at each round -/
theorem triG_loopC {X : Type} (CI : X → Ctx) (Inv : X → St) (I : X → Prop) (μ : X → Nat) (hS0 : ∀ e a w, Holds C S e a w → ∃ x e', I x ∧ Holds (CI x) (Inv x) e' a w) {body : Code}
    (round : ∀ x, I x → ∀ K : Act → World → Prop, (∀ e a w x', I x' → μ x' < μ x → Holds (CI x') (Inv x') e a w → K a w) → TriG r ds (CI x) P (Inv x) body (Exit.then K Q)) : TriG r ds C P S (.loop body) Q := by
  intro e a w hS
  obtain ⟨x0, e0, h0, h1⟩ := hS0 e a w hS
  have key : ∀ (n : Nat) (x : X), μ x < n → I x → ∀ e a w, Holds (CI x) (Inv x) e a w → Code.roundsIn (fenR r) 9 P body (liftQ ds Q) n (dfs ds a) w := by
    intro n
    induction n with
    | zero => intro x h; omega
    | succ n ih =>
      intro x hx hI e a w hS
      rw [roundsIn_succ]
      have := round x hI (fun a w => Code.roundsIn (fenR r) 9 P body (liftQ ds Q) n (dfs ds a) w) (fun e a w x' hI' hlt h' => ih x' (by omega) hI' e a w h') e a w hS
      refine Code.wpIn_mono (fun e a w hq => ?_) this
      obtain ⟨a0, rfl, hq⟩ := hq
      cases e <;> first | exact hq | exact ⟨a0, rfl, hq⟩
  exact wpIn_loop_rounds _ (key (μ x0 + 1) x0 (by omega) h0 e0 a w h1)
theorem calls_triG {f : FuncId} {fn : Func} {c : Code} {args : Array Value} {w : World} {R : Ending → World → Prop} {n : Nat} (hf : P.funcs[f]? = some fn) (hb : fn.body = some c) (hn : fn.ntmps = n) (hargs : Nat.ble args.size n = true)
    (h : TriG none [] ⟨n, w, []⟩ P ⟨idx 0 args.toList, []⟩ c (bodyPost P fn R)) : CallsIn Fence.wide 8 P f args w R := by
  subst hn
  exact callsIn_of_wp hf hb trivial (wide_n (n := 9) (wpIn_mono (h _ _ _ (holds_start (Nat.le_of_ble_eq_true hargs))) fun x a' w' ⟨a0, h1, h2⟩ => by
    subst h1
    cases x <;> first | exact ⟨rfl, h2.2⟩ | exact h2)) rfl
end
end Go.Proofs.Ytcgmapioelfneaa
namespace Go.Proofs.Ytcgmapioelfneaa
open Go.RowKit
set_option maxRecDepth 100000
set_option maxHeartbeats 2000000
attribute [local irreducible] Calls Walk1 WalkTo Tri EndA
theorem backward_any (a0 : Option Addr) (n0 c0 : Nat) (w : World) : Calls Try.prog 25 #[.slice a0 n0 c0] w (RetFV w 39 24 #[.slice a0 n0 c0]) := by
  refine calls_tri Try.func25 rfl Try.ntmps25 rfl ?_
  repeat (first | (show Walk1 _ _ _ (_ :: _) _ _; first | (show HW1 (.assign _); refine wz2 ?_) | (show HW1 (.box _ _); refine wz11 ?_)) | refine go1 ?_ | refine end_block_other rfl ?_ | refine end_scope (fun _ h => by cases h) ?_ | (refine walk_endD ?_ ?_; (· kernel_rfl)) | refine tri_yesA rfl ?_ | refine tri_noA rfl ?_ | refine tri_trueA rfl ?_ | refine tri_falseA rfl ?_ | refine triG_reg ?_ | refine triG_draw ?_ | refine triG_yesA rfl ?_ | refine triG_noA rfl ?_ | refine triG_trueA rfl ?_ | refine triG_falseA rfl ?_)
  refine walk1_t (op_makeFn rfl rfl rfl evq) ?_
  repeat (first | (show Walk1 _ _ _ (_ :: _) _ _; (show HW1 (.assign _); refine wz2 ?_)) | refine go1 ?_ | refine end_block_other rfl ?_ | refine end_scope (fun _ h => by cases h) ?_ | (refine walk_endD ?_ ?_; (· kernel_rfl)) | refine tri_yesA rfl ?_ | refine tri_noA rfl ?_ | refine tri_trueA rfl ?_ | refine tri_falseA rfl ?_ | refine triG_reg ?_ | refine triG_draw ?_ | refine triG_yesA rfl ?_ | refine triG_noA rfl ?_ | refine triG_trueA rfl ?_ | refine triG_falseA rfl ?_)
  refine end_ret (.clo 39 [.p 1 0]) (res_tmp rfl rfl) ?_
  exact fin_FV rfl fun _ => rfl
theorem back_it (N : List NodeS) (hN : N.length ≤ 1000000) (bx : Nat) (v1 : Value) : IterAt Try.prog 39 #[.pointer (some ⟨bx, 0, none⟩)] (fun k => #[.int .i64 ((N.length - 1 - k : Nat) : Int), .agg (nodeC (nodeAt N (N.length - 1 - k))).toArray]) N.length (fun W => FS W 1 (blkV bx) 1 [v1] ∧ FS W 10 v1 N.length (nodesC N)) := by
  intro l J Jx W hJ hAb hAx hY h0
  have hlen := nodes_len N
  have hrows := fun (i : Nat) (n : NodeS) (h : N[i]? = some n) => node_row h
  have hat := fun (i : Nat) (n : NodeS) (h : N[i]? = some n) => nodeAt_of h
  obtain ⟨rb0, rn0⟩ := hJ 0 W h0
  have k0 : [v1][0]? = some v1 := rfl
  generalize hNC : nodesC N = NC at *
  show CallsIn _ _ _ _ #[.func (.yield l) #[] #[], .pointer (some ⟨bx, 0, none⟩)] W _
  refine calls_triG Try.func39 rfl Try.ntmps39 rfl ?_
  refine triG_keep [(0, .c (.func (.yield l) #[] #[])), (1, .c (ptrV (blkV bx) 0))] [] (by repeat (first | exact hasT_nil | refine hasT_cons rfl ?_ | refine hasT_eq rfl (svi (by omega)) ?_)) (by exact hasR_nil) ?_
  
  repeat (first | (show Walk1 _ _ _ (_ :: _) _ _; first | (show HW1 (.assign _); refine wz2 ?_) | (show HW1 (.binOp .sub _ _ _ _); refine walk1_t (op_subI rfl rfl rfl rfl rfl (by omega)) ?_) | (show HW1 (.load _ _); refine wz44 ?_) | (show HW1 (.call ⟨.builtin .len, _, _⟩); refine wz27 ?_)) | refine go1 ?_ | refine end_block_other rfl ?_ | refine end_scope (fun _ h => by cases h) ?_ | (refine walk_endD ?_ ?_; (· kernel_rfl)) | refine tri_yesA rfl ?_ | refine tri_noA rfl ?_ | refine tri_trueA rfl ?_ | refine tri_falseA rfl ?_ | refine triG_reg ?_ | refine triG_draw ?_ | refine triG_yesA rfl ?_ | refine triG_noA rfl ?_ | refine triG_trueA rfl ?_ | refine triG_falseA rfl ?_)
  refine triG_loopC (X := Nat × World) (fun x => ⟨19, x.2, []⟩) (fun x => ⟨[(0, .c (.func (.yield l) #[] #[])), (1, .c (ptrV (blkV bx) 0)), (3, .c (.int .i64 (((N.length : Nat) : Int) - 1 - (x.1 : Int))))], []⟩) (fun x => x.1 ≤ N.length ∧ J x.1 x.2) (fun x => N.length - x.1) ?_ ?_
  · intro e a w hS
    exact ⟨(0, w), e, ⟨Nat.zero_le _, hAb 0 W w h0 (hS.frame.below rfl)⟩, hS.rebase (by repeat (first | exact hasT_nil | refine hasT_cons rfl ?_ | refine hasT_eq rfl (svi (by omega)) ?_))⟩
  · rintro ⟨k, w⟩ ⟨hk, hJk⟩ K next
    dsimp only at hk hJk next ⊢
    obtain ⟨rb, rn⟩ := hJ k w hJk
    by_cases hlt : k < N.length
    · have hY1 := fun W1 h => hY k W1 hlt h
      dsimp only at hY1
      obtain ⟨nd, hnd⟩ : ∃ nd, N[N.length - 1 - k]? = some nd := ⟨_, List.getElem?_eq_getElem (by omega)⟩
      have hrow := hrows _ nd hnd
      rw [hat _ nd hnd] at hY1
      have hil : N.length - 1 - k < N.length := by omega
      have hie : (((N.length : Nat) : Int) - 1 - (k : Int)) = ((N.length - 1 - k : Nat) : Int) := by omega
      have hrl : 0 + (N.length - 1 - k) * 10 + 10 ≤ NC.length := by omega
      refine triG_keep [(0, .c (.func (.yield l) #[] #[])), (1, .c (ptrV (blkV bx) 0)), (3, SV.c (.int .i64 ((N.length - 1 - k : Nat) : Int)))] [] (by repeat (first | exact hasT_nil | refine hasT_cons rfl ?_ | refine hasT_eq rfl (svi (by omega)) ?_)) (by exact hasR_nil) ?_
      clear hY hrows hat rb0 rn0
      generalize N.length - 1 - k = i at *
      have hsz : (nodeC nd).length = 10 := rfl
      generalize nodeC nd = NR at *
      iterate 13 (try (first | (show Walk1 _ _ _ (_ :: _) _ _; first | (show HW1 (.move _); refine wz1 ?_) | (show HW1 (.binOp .geq _ _ _ _); refine wz70 ?_)) | refine go1 ?_ | refine end_block_other rfl ?_ | refine end_scope (fun _ h => by cases h) ?_ | (refine walk_endD ?_ ?_; (· kernel_rfl)) | refine tri_yesA rfl ?_ | refine tri_noA rfl ?_ | refine tri_trueA rfl ?_ | refine tri_falseA rfl ?_ | refine triG_reg ?_ | refine triG_draw ?_ | refine triG_yesA rfl ?_ | refine triG_noA rfl ?_ | refine triG_trueA rfl ?_ | refine triG_falseA rfl ?_))
      refine triG_regS (l1 := [_, _, _, _, _, _]) (o := _) (l2 := [_]) ?_
      repeat (first | (show Walk1 _ _ _ (_ :: _) _ _; first | (show HW1 (.move _); refine wz1 ?_) | (show HW1 (.indexAddr _ _ _); refine wz26 ?_) | (show HW1 (.load _ _); first | refine wz44 ?_ | refine wz51 ?_)) | refine go1 ?_ | refine end_block_other rfl ?_ | refine end_scope (fun _ h => by cases h) ?_ | (refine walk_endD ?_ ?_; (· kernel_rfl)) | refine tri_yesA rfl ?_ | refine tri_noA rfl ?_ | refine tri_trueA rfl ?_ | refine tri_falseA rfl ?_ | refine triG_reg ?_ | refine triG_draw ?_ | refine triG_yesA rfl ?_ | refine triG_noA rfl ?_ | refine triG_trueA rfl ?_ | refine triG_falseA rfl ?_)
      refine walk1_nil fun e a w1 hS => ?_
      refine yield_in (vs := [.c (.int .i64 (i : Int)), .c (.agg NR.toArray)]) (args := #[.int .i64 (i : Int), .agg NR.toArray]) hS rfl rfl rfl evq rfl (hY1 w1 (hAb _ _ _ hJk (hS.frame.below rfl))) ?_
      rintro x w2 (⟨rfl, hJ2⟩ | ⟨rfl, hJx⟩)
      · refine ⟨.bool true, rfl, list_walk (((hS.rebaseW (w2 := w2) (t := [(0, .c (.func (.yield l) #[] #[])), (1, .c (ptrV (blkV bx) 0)), (3, SV.c (.int .i64 ((i : Nat) : Int)))]) (by repeat (first | exact hasT_nil | refine hasT_cons rfl ?_ | refine hasT_eq rfl (svi (by omega)) ?_))).put (d := some 17) rfl (.c (.bool true)))) ?_⟩
        repeat (first | (show Walk1 _ _ _ (_ :: _) _ _; first | (show HW1 (.move _); refine wz1 ?_) | (show HW1 (.assign _); refine wz2 ?_) | (show HW1 (.binOp .sub _ _ _ _); refine walk1_t (op_subI rfl rfl rfl rfl rfl (by omega)) ?_) | (show HW1 (.unOp _ _ _); refine wz19 ?_)) | refine go1 ?_ | refine end_block_other rfl ?_ | refine end_scope (fun _ h => by cases h) ?_ | (refine walk_endD ?_ ?_; (· kernel_rfl)) | refine tri_yesA rfl ?_ | refine tri_noA rfl ?_ | refine tri_trueA rfl ?_ | refine tri_falseA rfl ?_ | refine triG_reg ?_ | refine triG_draw ?_ | refine triG_yesA rfl ?_ | refine triG_noA rfl ?_ | refine triG_trueA rfl ?_ | refine triG_falseA rfl ?_)
        exact endA_of fun e a w3 hS3 => next e a w3 (k + 1, w3) ⟨by omega, hAb _ _ _ hJ2 (hS3.frame.below rfl)⟩ (by dsimp only; omega) (hS3.rebase (by repeat (first | exact hasT_nil | refine hasT_cons rfl ?_ | refine hasT_eq rfl (svi (by omega)) ?_)))
      · refine ⟨.bool false, rfl, list_walk (((hS.rebaseW (w2 := w2) (t := [(0, .c (.func (.yield l) #[] #[])), (1, .c (ptrV (blkV bx) 0)), (3, SV.c (.int .i64 ((i : Nat) : Int)))]) (by repeat (first | exact hasT_nil | refine hasT_cons rfl ?_ | refine hasT_eq rfl (svi (by omega)) ?_))).put (d := some 17) rfl (.c (.bool false)))) ?_⟩
        repeat (first | (show Walk1 _ _ _ (_ :: _) _ _; (show HW1 (.unOp _ _ _); refine wz19 ?_)) | refine go1 ?_ | refine end_block_other rfl ?_ | refine end_scope (fun _ h => by cases h) ?_ | (refine walk_endD ?_ ?_; (· kernel_rfl)) | refine tri_yesA rfl ?_ | refine tri_noA rfl ?_ | refine tri_trueA rfl ?_ | refine tri_falseA rfl ?_ | refine triG_reg ?_ | refine triG_draw ?_ | refine triG_yesA rfl ?_ | refine triG_noA rfl ?_ | refine triG_trueA rfl ?_ | refine triG_falseA rfl ?_)
        exact endA_of fun e a w3 hS3 => ⟨hS3.defers, _, res_none rfl e a w3 hS3, ⟨_, rfl⟩, .inr (hAx _ _ hJx (hS3.frame.below rfl))⟩
    · obtain rfl : k = N.length := by omega
      repeat (first | (show Walk1 _ _ _ (_ :: _) _ _; first | (show HW1 (.move _); refine wz1 ?_) | (show HW1 (.binOp .geq _ _ _ _); refine wz71 ?_)) | refine go1 ?_ | refine end_block_other rfl ?_ | refine end_scope (fun _ h => by cases h) ?_ | (refine walk_endD ?_ ?_; (· kernel_rfl)) | refine tri_yesA rfl ?_ | refine tri_noA rfl ?_ | refine tri_trueA rfl ?_ | refine tri_falseA rfl ?_ | refine triG_reg ?_ | refine triG_draw ?_ | refine triG_yesA rfl ?_ | refine triG_noA rfl ?_ | refine triG_trueA rfl ?_ | refine triG_falseA rfl ?_)
      exact endA_of fun e a w' hS => ⟨hS.defers, _, res_none rfl e a w' hS, ⟨_, rfl⟩, .inl (hAb _ _ _ hJk (hS.frame.below rfl))⟩
end Go.Proofs.Ytcgmapioelfneaa
namespace Go.Proofs.Ytcgmapioelfneaa
open Go.RowKit
set_option maxRecDepth 100000
set_option maxHeartbeats 2000000
theorem ordC_set (l : List Nat) (i n : Nat) : (ordC l).set i (.int .i64 ((n : Nat) : Int)) = ordC (l.set i n) := by
  unfold ordC
  rw [List.map_set]
theorem ordC_get {l : List Nat} {i n : Nat} (h : l[i]? = some n) : (ordC l)[i]? = some (.int .i64 ((n : Nat) : Int)) := by
  unfold ordC
  rw [List.getElem?_map, h]
  rfl
theorem ordC_len (l : List Nat) : (ordC l).length = l.length := by unfold ordC; rw [List.length_map]
theorem ordC_made (n : Nat) : (madeCells #[Value.int .i64 0] (n * 1)).toList = ordC (List.replicate n 0) := by
  unfold ordC madeCells
  rw [List.map_replicate, Nat.mul_one, Array.toList_map, Array.toList_range]
  apply List.ext_getElem
  · simp
  · intro i h1 h2
    simp [Nat.mod_one]
/-- The depths that are known when k nodes, from the last one on, have been looked at. -/
def deepsL (D : Nat → Nat) (n k : Nat) : List Nat := (List.range n).map fun j => if n - k ≤ j then D j else 0
theorem deepsL_len (D : Nat → Nat) (n k : Nat) : (deepsL D n k).length = n := by simp [deepsL]
theorem deepsL_zero (D : Nat → Nat) (n : Nat) : deepsL D n 0 = List.replicate n 0 := by
  unfold deepsL
  apply List.ext_getElem
  · simp
  · intro i h1 h2
    simp at h1
    simp
    omega
theorem deepsL_get (D : Nat → Nat) {n k j : Nat} (h1 : n - k ≤ j) (h2 : j < n) : (deepsL D n k)[j]? = some (D j) := by
  unfold deepsL
  rw [List.getElem?_map, List.getElem?_range h2]
  rw [Option.map_some, if_pos h1]
theorem deepsL_succ (D : Nat → Nat) {n k i : Nat} (hi : i = n - 1 - k) (hk : k < n) : (deepsL D n k).set i (D i) = deepsL D n (k + 1) := by
  unfold deepsL
  apply List.ext_getElem
  · simp
  · intro j h1 h2
    simp at h1 h2
    rw [List.getElem_set]
    simp only [List.getElem_map, List.getElem_range]
    by_cases hj : i = j
    · rw [if_pos hj, if_pos (by omega), hj]
    · rw [if_neg hj]
      by_cases h3 : n - k ≤ j
      · rw [if_pos h3, if_pos (by omega)]
      · rw [if_neg h3, if_neg (by omega)]
attribute [local irreducible] Calls Walk1 WalkTo Tri EndA
end Go.Proofs.Ytcgmapioelfneaa
