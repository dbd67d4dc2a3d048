/- Functions that hold a range over a function: their entry, their ends; what yields; what hands back a closure. No condition. slices.Backward over nodes: its contract. No condition. How deep a tree is, as the program tells: walked. No condition. slices.Concat and slices.ContainsFunc over ints: walked. No condition. -/
import Derived.Test.YtcgmapioelfneaaMgBvq1
import Derived.Test.YtcgmapioelfneaaMgBld3
import Derived.Test.YtcgmapioelfneaaMgSwp7
import Derived.Test.YtcgmapioelfneaaMgSymY
namespace Go.Proofs.Ytcgmapioelfneaa
open Go.RowKit
set_option maxRecDepth 100000
set_option maxHeartbeats 1000000
section
variable {C : Ctx} {P : Program} {S : St} {Q : Exit → Act → World → Prop} {r : Option Nat} {ds : List Deferred}
/-! ### entry and ends -/
theorem calls_triM {f : FuncId} {fn : Func} {c : Code} {args : Array Value} {w : World} {R : Ending → World → Prop} {n : Nat} (hf : P.funcs[f]? = some fn) (hb : fn.body = some c) (hn : fn.ntmps = n) (hargs : Nat.ble args.size n = true)
    (h : Tri ⟨n, w, []⟩ P ⟨idx 0 args.toList, []⟩ c (bodyPostM Fence.wide 9 P fn R)) : Calls P f args w R := by
  subst hn
  exact callsIn_wide.1 (callsIn_of_wp_marks hf hb trivial (wpIn_wide.2 (h _ _ _ (holds_start (Nat.le_of_ble_eq_true hargs)))))
theorem end_retD {fn : Func} {R : Ending → World → Prop} {D : Nat} (v : SV) (hr : S.res 7777 = some (.lay D (.deferred (some []))))
    (hv : ∀ e a w, Holds C ⟨S.t, (7777, some (.lay D (.deferred none))) :: S.h⟩ e a w → (results fn a.tmps).run P w = .ok (v.den e) w) (hR : ∀ e a w, Holds C ⟨S.t, (7777, some (.lay D (.deferred none))) :: S.h⟩ e a w → R (.returned (v.den e)) w) :
    EndA C S (fun a w => bodyPostM Fence.wide 9 P fn R .ret (dfs [markD D] a) w) := fun e a w hS => by
  have hD : w.heap[D]? = some (.deferred (some [])) := hS.res 7777 _ hr
  have h1 := hS.layPut hr (.deferred none)
  exact ⟨by simp, .inl ⟨D, _, rfl, run_takeDeferred hD, _, hv e a _ h1, hR e a _ h1⟩⟩
/-- Behind the loop: what is left is walked with the mark among the deferred calls. -/
theorem end_rest {y : Code} (h : TriG none ds C P S y (fun e a w => Q e (dfs ds a) w)) : EndA C S (fun a w => y.wp P Q (dfs ds a) w) := fun e a w hS =>
  wpIn_wide.1 (wpIn_mono (h e a w hS) fun _ _ _ ⟨_, h1, h2⟩ => by subst h1; exact h2)
/-! ### blocks by number -/
def pinsL (e : Env) (ns : List Nat) : List (Nat × Option Res) := ns.map fun n => (8000 + n, some (Res.is n (e n).b))
theorem look_pins {e : Env} {i : Nat} {x : Option Res} : ∀ {ns : List Nat}, look (pinsL e ns) i = some x → ∃ n, x = some (.is n (e n).b)
  | [], h => by cases h
  | n :: ns, h => by
    have h : look ((8000 + n, some (Res.is n (e n).b)) :: pinsL e ns) i = some x := h
    rw [look_cons] at h
    split at h
    · exact ⟨n, (Option.some.inj h).symm⟩
    · exact look_pins h
theorem tri_pin {c : Code} (ns : List Nat) (h : ∀ e : Env, Tri C P ⟨closeT e S.t, pinsL e ns ++ S.h⟩ c Q) : Tri C P S c Q := fun e a w hS => by
  have key : ∀ q rr, (St.mk (closeT e S.t) (pinsL e ns ++ S.h)).res q = some rr → (∃ n, rr = .is n (e n).b) ∨ S.res q = some rr := fun q rr hq => by
    unfold St.res at hq
    rw [look_append] at hq
    cases hl : look (pinsL e ns) q with
    | none => rw [hl] at hq; exact .inr hq
    | some x =>
      rw [hl] at hq
      obtain ⟨n, rfl⟩ := look_pins hl
      obtain rfl := Option.some.inj hq
      exact .inl ⟨n, rfl⟩
  refine h e e a w ⟨hS.defers, hS.size, fun i v hv => ?_, fun q rr hq => ?_, fun q rr hq hw b hb => ?_, fun q q' rr rr' hq hq' hne hw b hb hb' => ?_, hS.frame⟩
  · have hv : look (closeT e S.t) i = some v := hv
    rw [look_closeT] at hv
    cases hl : look S.t i with
    | none => rw [hl] at hv; cases hv
    | some u =>
      rw [hl] at hv
      obtain rfl := Option.some.inj hv
      exact hS.tmp i u hl
  · rcases key q rr hq with ⟨n, rfl⟩ | h1
    · rfl
    · exact hS.res q rr h1
  · rcases key q rr hq with ⟨n, rfl⟩ | h1
    · exact hb.elim
    · exact hS.mine q rr h1 hw b hb
  · rcases key q rr hq with ⟨n, rfl⟩ | h1
    · exact hb.elim
    · rcases key q' rr' hq' with ⟨n, rfl⟩ | h2
      · exact hb'.elim
      · exact hS.sep q q' rr rr' h1 h2 hne hw b hb hb'
/-- A block's number is a name's again. -/
theorem ent_unp {t : List (Nat × SV)} {h : List (Nat × Option Res)} (i n off : Nat) {b : Nat} (hv : look t i = some (.c (.pointer (some ⟨b, off, none⟩)))) (hr : (St.mk t h).res (8000 + n) = some (.is n b)) : Ents C ⟨t, h⟩ ⟨(i, .p n off) :: t, h⟩ := fun e a w hS => by
  refine ⟨e, hS.defers, hS.size, fun j v hj => ?_, hS.res, hS.mine, hS.sep, hS.frame⟩
  have hk : look ((i, SV.p n off) :: t) j = some v := hj
  rw [look_cons] at hk
  by_cases h1 : i = j
  · rw [if_pos h1] at hk
    obtain rfl := Option.some.inj hk
    have h2 := hS.tmp i _ hv
    have h3 : (e n).b = b := hS.res _ _ hr
    rw [← h1, h2]
    simp only [SV.c, SV.p, h3]
  · rw [if_neg h1] at hk
    exact hS.tmp j v hk
/-! ### a call that hands back a closure, which holds one new block -/
def RetFV (w : World) (gf T : Nat) (cells : Array Value) : Ending → World → Prop := fun x w' => ∃ b, x = .returned (.func (.func gf) #[] #[.pointer (some ⟨b, 0, none⟩)]) ∧ w.heap.size ≤ b ∧ Blk w' b cells T ∧ Below w.heap.size w w'
theorem op_callFV {ops : Array Oper} {o : Oper} {f : FuncId} {xs : Array Operand} {ats : Array TypeId} {vs : List SV} {j n gf T : Nat} {cells : Array Value} (ho : o.op = .call { callee := .value (.func f), args := xs, argTypes := ats }) (hdn : o.dst = some n) (hg : o.guard = none) (hd : dstB o.dst C.nt = true) (hxs : EvS S xs.toList vs) (hc' : tabLook calT f = some j)
    (hcon : ∀ (e : Env) w, Calls Try.prog j (vs.map (·.den e)).toArray w (RetFV w gf T cells)) :
    OpG C Try.prog ops o S ⟨xs.toList.flatMap opT, [], [(n, .clo gf [.p n 0])], [(n, some (.blk n T (.c cells)))], [n]⟩ := by
  refine opG_mk hg fun S' h1 h2 h3 e a w hS => ?_
  unfold Oper.wp
  rw [call_hop ho hxs hc' h1 hS]
  refine Calls.mono (hcon e w) ?_
  rintro x w' ⟨b, rfl, hsz, hB, hb⟩
  have := (hS.newObj (n := n) (h3 n (by simp)) T (.c cells) (fun _ => rfl) hb hsz hB).put hd (.clo gf [.p n 0])
  rw [hdn] at this ⊢
  simp only [SV.clo, SV.p, List.map_cons, List.map_nil, Env.set_self] at this
  exact ⟨_, this⟩
theorem fin_FV {w0 : World} {nt n gf : Nat} {T : TypeId} {A : SA} {cells : Array Value} (hr : S.res n = some (.blk n T A)) (hA : ∀ e, A.den e = cells) :
    ∀ e a w, Holds ⟨nt, w0, []⟩ S e a w → RetFV w0 gf T cells (.returned ((SV.clo gf [.p n 0]).den e)) w := fun e a w hS => by
  obtain ⟨fr, hb, hfr⟩ := res_blk hS hr
  rw [hfr rfl, hA] at hb
  refine ⟨(e n).b, rfl, ?_, hb, hS.frame.below rfl⟩
  rcases hS.mine n _ hr rfl _ rfl with h | h
  · exact h
  · cases h
theorem endA_of {K : Act → World → Prop} (h : ∀ e a w, Holds C S e a w → K a w) : EndA C S K := h
theorem walk1_nil {ops : Array Oper} {K : St → Prop} (h : K S) : Walk1 C P ops [] S K := h
theorem Holds.rebaseW {e : Env} {a : Act} {w w2 : World} {t : List (Nat × SV)} (hS : Holds C S e a w) (ht : HasT S t) : Holds ⟨C.nt, w2, []⟩ ⟨t, []⟩ e a w2 :=
  ⟨hS.defers, hS.size, fun i v hv => hS.tmp i v (hasT_look ht hv), fun n rr hn => (by cases hn), fun n rr hn => (by cases hn), fun n m rr rr' hn => (by cases hn), ⟨rfl, rfl, rfl, Nat.le_refl _, fun _ _ _ => rfl⟩⟩
theorem Holds.rebase {e : Env} {a : Act} {w : World} {t : List (Nat × SV)} (hS : Holds C S e a w) (ht : HasT S t) : Holds ⟨C.nt, w, []⟩ ⟨t, []⟩ e a w :=
  ⟨hS.defers, hS.size, fun i v hv => hS.tmp i v (hasT_look ht hv), fun n rr hn => (by cases hn), fun n rr hn => (by cases hn), fun n m rr rr' hn => (by cases hn), ⟨rfl, rfl, rfl, Nat.le_refl _, fun _ _ _ => rfl⟩⟩
/-! ### yield -/
theorem chain_preG {ops : Array Oper} {l2 : List Oper} : ∀ (l : List Oper) (S : St) (os : List OS) (S' : St), l.all calmO = true → Chain C P ops l S os S' → ∀ e a w, Holds C S e a w → (∀ e a w, Holds C S' e a w → wpListIn (fenR r) 9 P ops (liftQ ds Q) l2 (dfs ds a) w) → wpListIn (fenR r) 9 P ops (liftQ ds Q) (l ++ l2) (dfs ds a) w
  | [], S, [], S', _, h, e, a, w, hS, hQ => by cases h; exact hQ e a w hS
  | o :: l, S, os :: rr, S', hc, ⟨h, hf, ht⟩, e, a, w, hS, hQ => by
    rw [List.all_cons, Bool.and_eq_true] at hc
    have h1 := h S (fun _ _ => rfl) (fun _ _ => rfl) (fun n hn => freshB_spec (List.all_eq_true.1 hf n hn)) e a w hS
    rw [List.cons_append]
    unfold wpListIn
    rw [show (dfs ds a).tmps = a.tmps from rfl]
    split at h1
    · rename_i hw
      rw [if_pos hw]
      exact Oper.wpIn_mono (fun a' w' ⟨a0, ha, e', h'⟩ => by
        subst ha
        exact chain_preG l _ rr S' hc.2 ht e' a0 w' h' hQ) (oper_in hc.1 holds_calm h1)
    · rename_i hw
      rw [if_neg hw, put_dfs]
      obtain ⟨e', h'⟩ := h1
      exact ⟨fun _ _ => trivial, chain_preG l _ rr S' hc.2 ht e' _ w h' hQ⟩
  | [], _, _ :: _, _, _, h, _, _, _, _, _ => h.elim
  | _ :: _, _, [], _, _, h, _, _, _, _, _ => h.elim
theorem triG_regS {id : Nat} {l1 l2 : List Oper} {o : Oper} (h : Walk1 C P (l1 ++ o :: l2).toArray l1 S fun S' => ∀ e a w, Holds C S' e a w → o.wpIn (fenR r) 9 P (dfs ds a) w (fun a' w' => ∃ a0, a' = dfs ds a0 ∧ wpListIn (fenR r) 9 P (l1 ++ o :: l2).toArray (liftQ ds Q) l2 (dfs ds a0) w') (liftQ ds Q))
    (hg : o.guard = none := by rfl) (hc : l1.all calmO = true := by rfl) : TriG r ds C P S (.region id (l1 ++ o :: l2).toArray false) Q := fun e a w hS => by
  obtain ⟨os, S', h1, h2⟩ := walk1_chain l1 S h
  refine wpIn_region_lit (chain_preG l1 S os S' hc h1 e a w hS fun e a w hS' => ?_)
  unfold wpListIn
  rw [if_pos (by simp [Region.wanted, hg])]
  exact Oper.wpIn_mono (fun a' w' ⟨a0, ha, h'⟩ => by subst ha; exact h') (h2 e a w hS')
theorem list_walk {ops : Array Oper} {l2 : List Oper} {e : Env} {a : Act} {w : World} (hS : Holds C S e a w) (h : Walk1 C P ops l2 S fun S' => EndA C S' (Q .normal)) (hc : l2.all calmO = true := by rfl) : wpListIn (fenR r) 9 P ops (liftQ ds Q) l2 (dfs ds a) w := by
  obtain ⟨os, S', h1, h2⟩ := walk1_chain l2 S h
  exact chain_listG l2 S os S' hc h1 e a w hS h2
theorem yield_in {e : Env} {a : Act} {w : World} (hS : Holds C S e a w) {o : Oper} {t0 d l : Nat} {xs : Array Operand} {ats : Array TypeId} {vs : List SV} {args : Array Value} {R : Ending → World → Prop} {K : Act → World → Prop} (ho : o.op = .call { callee := .value (.tmp t0), args := xs, argTypes := ats }) (hdn : o.dst = some d)
    (hcal : S.tmp t0 = some (.c (.func (.yield l) #[] #[]))) (hxs : EvS S xs.toList vs) (hargs : (vs.map (·.den e)).toArray = args) (hY : YieldAt Fence.wide 7 P l args w R) (hR : ∀ x w', R x w' → ∃ v, x = .returned v ∧ K (a.put (some d) v) w') :
    o.wpIn (fenR none) 9 P (dfs [] a) w (fun a' w' => ∃ a0, a' = dfs [] a0 ∧ K a0 w') Q := by
  obtain ⟨fn, tmps, assign, body, hy, hRd⟩ := hY
  have hav : xs.map a.eval = args := by
    rw [← hargs, ← evs_all hS _ _ hxs, ← Array.toList_map, Array.toArray_toList]
  have hfn : a.eval (.tmp t0) = .func (.yield l) #[] #[] := hS.ev (show S.ev (.tmp t0) = _ from hcal)
  refine ⟨fun _ _ => trivial, ?_⟩
  show o.uponIn _ _ _ _ _ _ ((execOp a.eval o).run P w)
  have hop : (execOp a.eval o).run P w = .ok (.round l fn tmps assign body) w := by
    simp only [execOp, ho, resolve, hfn, Deferred.ofValue, Sem.run_bind, Sem.run_pure, Result.andThen_ok, invoke, Array.empty_append, Array.append_empty, hav]
    exact hy
  rw [hop]
  refine ⟨fun h => (by cases h), trivial, fun c cs _ => ?_⟩
  obtain ⟨x, w', h1, h2⟩ := hRd.2 c cs (room_wide _)
  obtain ⟨v, rfl, hk⟩ := hR x w' h1
  refine ⟨.returned v, w', ?_, h2⟩
  rw [hdn]
  exact ⟨_, put_dfs a _ _, hk⟩
/-! ### a loop whose world is told anew at each round -/
theorem triG_loopC {X : Type} (CI : X → Ctx) (Inv : X → St) (I : X → Prop) (μ : X → Nat) (hS0 : ∀ e a w, Holds C S e a w → ∃ x e', I x ∧ Holds (CI x) (Inv x) e' a w) {body : Code}
    (round : ∀ x, I x → ∀ K : Act → World → Prop, (∀ e a w x', I x' → μ x' < μ x → Holds (CI x') (Inv x') e a w → K a w) → TriG r ds (CI x) P (Inv x) body (Exit.then K Q)) : TriG r ds C P S (.loop body) Q := by
  intro e a w hS
  obtain ⟨x0, e0, h0, h1⟩ := hS0 e a w hS
  have key : ∀ (n : Nat) (x : X), μ x < n → I x → ∀ e a w, Holds (CI x) (Inv x) e a w → Code.roundsIn (fenR r) 9 P body (liftQ ds Q) n (dfs ds a) w := by
    intro n
    induction n with
    | zero => intro x h; omega
    | succ n ih =>
      intro x hx hI e a w hS
      rw [roundsIn_succ]
      have := round x hI (fun a w => Code.roundsIn (fenR r) 9 P body (liftQ ds Q) n (dfs ds a) w) (fun e a w x' hI' hlt h' => ih x' (by omega) hI' e a w h') e a w hS
      refine Code.wpIn_mono (fun e a w hq => ?_) this
      obtain ⟨a0, rfl, hq⟩ := hq
      cases e <;> first | exact hq | exact ⟨a0, rfl, hq⟩
  exact wpIn_loop_rounds _ (key (μ x0 + 1) x0 (by omega) h0 e0 a w h1)
theorem calls_triG {f : FuncId} {fn : Func} {c : Code} {args : Array Value} {w : World} {R : Ending → World → Prop} {n : Nat} (hf : P.funcs[f]? = some fn) (hb : fn.body = some c) (hn : fn.ntmps = n) (hargs : Nat.ble args.size n = true)
    (h : TriG none [] ⟨n, w, []⟩ P ⟨idx 0 args.toList, []⟩ c (bodyPost P fn R)) : CallsIn Fence.wide 8 P f args w R := by
  subst hn
  exact callsIn_of_wp hf hb trivial (wide_n (n := 9) (wpIn_mono (h _ _ _ (holds_start (Nat.le_of_ble_eq_true hargs))) fun x a' w' ⟨a0, h1, h2⟩ => by
    subst h1
    cases x <;> first | exact ⟨rfl, h2.2⟩ | exact h2)) rfl
end
end Go.Proofs.Ytcgmapioelfneaa
namespace Go.Proofs.Ytcgmapioelfneaa
open Go.RowKit
set_option maxRecDepth 100000
set_option maxHeartbeats 2000000
attribute [local irreducible] Calls Walk1 WalkTo Tri EndA
theorem backward_any (a0 : Option Addr) (n0 c0 : Nat) (w : World) : Calls Try.prog 25 #[.slice a0 n0 c0] w (RetFV w 39 24 #[.slice a0 n0 c0]) := by
  refine calls_tri Try.func25 rfl Try.ntmps25 rfl ?_
  repeat (first | (show Walk1 _ _ _ (_ :: _) _ _; first | (show HW1 (.assign _); refine wz2 ?_) | (show HW1 (.box _ _); refine wz11 ?_)) | refine go1 ?_ | refine end_block_other rfl ?_ | refine end_scope (fun _ h => by cases h) ?_ | (refine walk_endD ?_ ?_; (· kernel_rfl)) | refine tri_yesA rfl ?_ | refine tri_noA rfl ?_ | refine tri_trueA rfl ?_ | refine tri_falseA rfl ?_ | refine triG_reg ?_ | refine triG_draw ?_ | refine triG_yesA rfl ?_ | refine triG_noA rfl ?_ | refine triG_trueA rfl ?_ | refine triG_falseA rfl ?_)
  refine walk1_t (op_makeFn rfl rfl rfl evq) ?_
  repeat (first | (show Walk1 _ _ _ (_ :: _) _ _; (show HW1 (.assign _); refine wz2 ?_)) | refine go1 ?_ | refine end_block_other rfl ?_ | refine end_scope (fun _ h => by cases h) ?_ | (refine walk_endD ?_ ?_; (· kernel_rfl)) | refine tri_yesA rfl ?_ | refine tri_noA rfl ?_ | refine tri_trueA rfl ?_ | refine tri_falseA rfl ?_ | refine triG_reg ?_ | refine triG_draw ?_ | refine triG_yesA rfl ?_ | refine triG_noA rfl ?_ | refine triG_trueA rfl ?_ | refine triG_falseA rfl ?_)
  refine end_ret (.clo 39 [.p 1 0]) (res_tmp rfl rfl) ?_
  exact fin_FV rfl fun _ => rfl
theorem back_it (N : List NodeS) (hN : N.length ≤ 1000000) (bx : Nat) (v1 : Value) : IterAt Try.prog 39 #[.pointer (some ⟨bx, 0, none⟩)] (fun k => #[.int .i64 ((N.length - 1 - k : Nat) : Int), .agg (nodeC (nodeAt N (N.length - 1 - k))).toArray]) N.length (fun W => FS W 1 (blkV bx) 1 [v1] ∧ FS W 10 v1 N.length (nodesC N)) := by
  intro l J Jx W hJ hAb hAx hY h0
  have hlen := nodes_len N
  have hrows := fun (i : Nat) (n : NodeS) (h : N[i]? = some n) => node_row h
  have hat := fun (i : Nat) (n : NodeS) (h : N[i]? = some n) => nodeAt_of h
  obtain ⟨rb0, rn0⟩ := hJ 0 W h0
  have k0 : [v1][0]? = some v1 := rfl
  generalize hNC : nodesC N = NC at *
  show CallsIn _ _ _ _ #[.func (.yield l) #[] #[], .pointer (some ⟨bx, 0, none⟩)] W _
  refine calls_triG Try.func39 rfl Try.ntmps39 rfl ?_
  refine triG_keep [(0, .c (.func (.yield l) #[] #[])), (1, .c (ptrV (blkV bx) 0))] [] (by repeat (first | exact hasT_nil | refine hasT_cons rfl ?_ | refine hasT_eq rfl (svi (by omega)) ?_)) (by exact hasR_nil) ?_
  
  repeat (first | (show Walk1 _ _ _ (_ :: _) _ _; first | (show HW1 (.assign _); refine wz2 ?_) | (show HW1 (.binOp .sub _ _ _ _); refine walk1_t (op_subI rfl rfl rfl rfl rfl (by omega)) ?_) | (show HW1 (.load _ _); refine wz44 ?_) | (show HW1 (.call ⟨.builtin .len, _, _⟩); refine wz27 ?_)) | refine go1 ?_ | refine end_block_other rfl ?_ | refine end_scope (fun _ h => by cases h) ?_ | (refine walk_endD ?_ ?_; (· kernel_rfl)) | refine tri_yesA rfl ?_ | refine tri_noA rfl ?_ | refine tri_trueA rfl ?_ | refine tri_falseA rfl ?_ | refine triG_reg ?_ | refine triG_draw ?_ | refine triG_yesA rfl ?_ | refine triG_noA rfl ?_ | refine triG_trueA rfl ?_ | refine triG_falseA rfl ?_)
  refine triG_loopC (X := Nat × World) (fun x => ⟨19, x.2, []⟩) (fun x => ⟨[(0, .c (.func (.yield l) #[] #[])), (1, .c (ptrV (blkV bx) 0)), (3, .c (.int .i64 (((N.length : Nat) : Int) - 1 - (x.1 : Int))))], []⟩) (fun x => x.1 ≤ N.length ∧ J x.1 x.2) (fun x => N.length - x.1) ?_ ?_
  · intro e a w hS
    exact ⟨(0, w), e, ⟨Nat.zero_le _, hAb 0 W w h0 (hS.frame.below rfl)⟩, hS.rebase (by repeat (first | exact hasT_nil | refine hasT_cons rfl ?_ | refine hasT_eq rfl (svi (by omega)) ?_))⟩
  · rintro ⟨k, w⟩ ⟨hk, hJk⟩ K next
    dsimp only at hk hJk next ⊢
    obtain ⟨rb, rn⟩ := hJ k w hJk
    by_cases hlt : k < N.length
    · have hY1 := fun W1 h => hY k W1 hlt h
      dsimp only at hY1
      obtain ⟨nd, hnd⟩ : ∃ nd, N[N.length - 1 - k]? = some nd := ⟨_, List.getElem?_eq_getElem (by omega)⟩
      have hrow := hrows _ nd hnd
      rw [hat _ nd hnd] at hY1
      have hil : N.length - 1 - k < N.length := by omega
      have hie : (((N.length : Nat) : Int) - 1 - (k : Int)) = ((N.length - 1 - k : Nat) : Int) := by omega
      have hrl : 0 + (N.length - 1 - k) * 10 + 10 ≤ NC.length := by omega
      refine triG_keep [(0, .c (.func (.yield l) #[] #[])), (1, .c (ptrV (blkV bx) 0)), (3, SV.c (.int .i64 ((N.length - 1 - k : Nat) : Int)))] [] (by repeat (first | exact hasT_nil | refine hasT_cons rfl ?_ | refine hasT_eq rfl (svi (by omega)) ?_)) (by exact hasR_nil) ?_
      clear hY hrows hat rb0 rn0
      generalize N.length - 1 - k = i at *
      have hsz : (nodeC nd).length = 10 := rfl
      generalize nodeC nd = NR at *
      iterate 13 (try (first | (show Walk1 _ _ _ (_ :: _) _ _; first | (show HW1 (.move _); refine wz1 ?_) | (show HW1 (.binOp .geq _ _ _ _); refine wz70 ?_)) | refine go1 ?_ | refine end_block_other rfl ?_ | refine end_scope (fun _ h => by cases h) ?_ | (refine walk_endD ?_ ?_; (· kernel_rfl)) | refine tri_yesA rfl ?_ | refine tri_noA rfl ?_ | refine tri_trueA rfl ?_ | refine tri_falseA rfl ?_ | refine triG_reg ?_ | refine triG_draw ?_ | refine triG_yesA rfl ?_ | refine triG_noA rfl ?_ | refine triG_trueA rfl ?_ | refine triG_falseA rfl ?_))
      refine triG_regS (l1 := [_, _, _, _, _, _]) (o := _) (l2 := [_]) ?_
      repeat (first | (show Walk1 _ _ _ (_ :: _) _ _; first | (show HW1 (.move _); refine wz1 ?_) | (show HW1 (.indexAddr _ _ _); refine wz26 ?_) | (show HW1 (.load _ _); first | refine wz44 ?_ | refine wz51 ?_)) | refine go1 ?_ | refine end_block_other rfl ?_ | refine end_scope (fun _ h => by cases h) ?_ | (refine walk_endD ?_ ?_; (· kernel_rfl)) | refine tri_yesA rfl ?_ | refine tri_noA rfl ?_ | refine tri_trueA rfl ?_ | refine tri_falseA rfl ?_ | refine triG_reg ?_ | refine triG_draw ?_ | refine triG_yesA rfl ?_ | refine triG_noA rfl ?_ | refine triG_trueA rfl ?_ | refine triG_falseA rfl ?_)
      refine walk1_nil fun e a w1 hS => ?_
      refine yield_in (vs := [.c (.int .i64 (i : Int)), .c (.agg NR.toArray)]) (args := #[.int .i64 (i : Int), .agg NR.toArray]) hS rfl rfl rfl evq rfl (hY1 w1 (hAb _ _ _ hJk (hS.frame.below rfl))) ?_
      rintro x w2 (⟨rfl, hJ2⟩ | ⟨rfl, hJx⟩)
      · refine ⟨.bool true, rfl, list_walk (((hS.rebaseW (w2 := w2) (t := [(0, .c (.func (.yield l) #[] #[])), (1, .c (ptrV (blkV bx) 0)), (3, SV.c (.int .i64 ((i : Nat) : Int)))]) (by repeat (first | exact hasT_nil | refine hasT_cons rfl ?_ | refine hasT_eq rfl (svi (by omega)) ?_))).put (d := some 17) rfl (.c (.bool true)))) ?_⟩
        repeat (first | (show Walk1 _ _ _ (_ :: _) _ _; first | (show HW1 (.move _); refine wz1 ?_) | (show HW1 (.assign _); refine wz2 ?_) | (show HW1 (.binOp .sub _ _ _ _); refine walk1_t (op_subI rfl rfl rfl rfl rfl (by omega)) ?_) | (show HW1 (.unOp _ _ _); refine wz19 ?_)) | refine go1 ?_ | refine end_block_other rfl ?_ | refine end_scope (fun _ h => by cases h) ?_ | (refine walk_endD ?_ ?_; (· kernel_rfl)) | refine tri_yesA rfl ?_ | refine tri_noA rfl ?_ | refine tri_trueA rfl ?_ | refine tri_falseA rfl ?_ | refine triG_reg ?_ | refine triG_draw ?_ | refine triG_yesA rfl ?_ | refine triG_noA rfl ?_ | refine triG_trueA rfl ?_ | refine triG_falseA rfl ?_)
        exact endA_of fun e a w3 hS3 => next e a w3 (k + 1, w3) ⟨by omega, hAb _ _ _ hJ2 (hS3.frame.below rfl)⟩ (by dsimp only; omega) (hS3.rebase (by repeat (first | exact hasT_nil | refine hasT_cons rfl ?_ | refine hasT_eq rfl (svi (by omega)) ?_)))
      · refine ⟨.bool false, rfl, list_walk (((hS.rebaseW (w2 := w2) (t := [(0, .c (.func (.yield l) #[] #[])), (1, .c (ptrV (blkV bx) 0)), (3, SV.c (.int .i64 ((i : Nat) : Int)))]) (by repeat (first | exact hasT_nil | refine hasT_cons rfl ?_ | refine hasT_eq rfl (svi (by omega)) ?_))).put (d := some 17) rfl (.c (.bool false)))) ?_⟩
        repeat (first | (show Walk1 _ _ _ (_ :: _) _ _; (show HW1 (.unOp _ _ _); refine wz19 ?_)) | refine go1 ?_ | refine end_block_other rfl ?_ | refine end_scope (fun _ h => by cases h) ?_ | (refine walk_endD ?_ ?_; (· kernel_rfl)) | refine tri_yesA rfl ?_ | refine tri_noA rfl ?_ | refine tri_trueA rfl ?_ | refine tri_falseA rfl ?_ | refine triG_reg ?_ | refine triG_draw ?_ | refine triG_yesA rfl ?_ | refine triG_noA rfl ?_ | refine triG_trueA rfl ?_ | refine triG_falseA rfl ?_)
        exact endA_of fun e a w3 hS3 => ⟨hS3.defers, _, res_none rfl e a w3 hS3, ⟨_, rfl⟩, .inr (hAx _ _ hJx (hS3.frame.below rfl))⟩
    · obtain rfl : k = N.length := by omega
      repeat (first | (show Walk1 _ _ _ (_ :: _) _ _; first | (show HW1 (.move _); refine wz1 ?_) | (show HW1 (.binOp .geq _ _ _ _); refine wz71 ?_)) | refine go1 ?_ | refine end_block_other rfl ?_ | refine end_scope (fun _ h => by cases h) ?_ | (refine walk_endD ?_ ?_; (· kernel_rfl)) | refine tri_yesA rfl ?_ | refine tri_noA rfl ?_ | refine tri_trueA rfl ?_ | refine tri_falseA rfl ?_ | refine triG_reg ?_ | refine triG_draw ?_ | refine triG_yesA rfl ?_ | refine triG_noA rfl ?_ | refine triG_trueA rfl ?_ | refine triG_falseA rfl ?_)
      exact endA_of fun e a w' hS => ⟨hS.defers, _, res_none rfl e a w' hS, ⟨_, rfl⟩, .inl (hAb _ _ _ hJk (hS.frame.below rfl))⟩
end Go.Proofs.Ytcgmapioelfneaa
namespace Go.Proofs.Ytcgmapioelfneaa
open Go.RowKit
set_option maxRecDepth 100000
set_option maxHeartbeats 2000000
theorem ordC_set (l : List Nat) (i n : Nat) : (ordC l).set i (.int .i64 ((n : Nat) : Int)) = ordC (l.set i n) := by
  unfold ordC
  rw [List.map_set]
theorem ordC_get {l : List Nat} {i n : Nat} (h : l[i]? = some n) : (ordC l)[i]? = some (.int .i64 ((n : Nat) : Int)) := by
  unfold ordC
  rw [List.getElem?_map, h]
  rfl
theorem ordC_len (l : List Nat) : (ordC l).length = l.length := by unfold ordC; rw [List.length_map]
theorem ordC_made (n : Nat) : (madeCells #[Value.int .i64 0] (n * 1)).toList = ordC (List.replicate n 0) := by
  unfold ordC madeCells
  rw [List.map_replicate, Nat.mul_one, Array.toList_map, Array.toList_range]
  apply List.ext_getElem
  · simp
  · intro i h1 h2
    simp [Nat.mod_one]
attribute [local irreducible] Calls Walk1 WalkTo Tri EndA
end Go.Proofs.Ytcgmapioelfneaa
namespace Go.Proofs.Ytcgmapioelfneaa
open Go.RowKit
set_option maxRecDepth 100000
set_option maxHeartbeats 1000000
section
variable {C : Ctx} {ops : Array Oper} {S : St} {o : Oper}
theorem op_appendL {x y : Operand} {t T size len cnt by_ m n : Nat} {xs news : List Value} {A : Array Value} {v : Value} {ty : TypeId} {pos : String} {after : Array Edge} (hd : dstB (some n) C.nt = true) (hx : S.ev x = some (.v m)) (hr : S.res m = some (.own m T size len xs)) (hy : S.ev y = some (.c v))
    (hu' : tabLook undT t = some (.slice T)) (hs' : tabLook sizT T = some size) (hy' : tabLook bytT T = some by_) (hz' : tabLook zerT T = some A) (hA : A.size = size) (hsz : 0 < size) (hf : RdV C.w0 size v cnt news) (hm : C.m = []) (h1 : ∀ u ∈ news, u.oneCell' = true)
    (hmax : len + cnt ≤ 1099511627776 ∧ (len + cnt) * by_ ≤ 140737488355328) (hmn : Nat.beq m n = false) :
    OpG C Try.prog ops ⟨some n, .call { callee := .builtin .append, args := #[x, y], argTypes := #[t, t] }, ty, pos, after, none⟩ S ⟨opT x ++ opT y, m :: ((SV.c v).sup ++ []), [(n, .v n)], [(m, none), (n, some (.own n T size (len + cnt) (xs ++ news)))], [n]⟩ :=
  op_append hd hx hr hy hu' hs' hy' hz' hA hsz (rdn_old hf hsz hm) h1 hmax hmn
end
/-- Of slices of ints. -/
def SlcI (w : World) (v : Value) (ds : List (List Nat)) : Prop := ∃ ps, RdV w 1 v ds.length ps ∧ ∀ (i : Nat) d, ds[i]? = some d → ∃ p, ps[i]? = some p ∧ FS w 1 p d.length (ordC d)
theorem flat_takeI (ds : List (List Nat)) (i : Nat) (d : List Nat) (h : ds[i]? = some d) : (ds.take (i + 1)).flatten = (ds.take i).flatten ++ d := by
  rw [List.take_add_one, h]; simp
theorem flat_leI (ds : List (List Nat)) (i : Nat) : (ds.take i).flatten.length ≤ ds.flatten.length := by
  conv => rhs; rw [← List.take_append_drop i ds, List.flatten_append, List.length_append]
  omega
theorem ordC_one (d : List Nat) : ∀ u ∈ ordC d, u.oneCell' = true := fun u hu => by
  unfold ordC at hu
  obtain ⟨k, _, rfl⟩ := List.mem_map.1 hu
  rfl
attribute [local irreducible] Calls Walk1 WalkTo Tri EndA
theorem growI_any (n : Nat) (w : World) (hn : n ≤ 100000) : Calls Try.prog 40 #[.slice none 0 0, .int .i64 (n : Int)] w (RetOwn w 3 1 0 (ordC [])) := by
  have hnil : FS w 1 (.slice none 0 0) 0 [] := ⟨⟨rfl, none, 0, rfl, .inl rfl⟩, none, 0, rfl, Nat.le_refl _⟩
  by_cases h : 0 < n
  · refine calls_tri Try.func40 rfl Try.ntmps40 rfl ?_
    repeat (first | (show Walk1 _ _ _ (_ :: _) _ _; first | (show HW1 (.move _); refine wz1 ?_) | (show HW1 (.assign _); refine wz2 ?_) | (show HW1 (.binOp .sub _ _ _ _); refine wz35 ?_) | (show HW1 (.binOp .lss _ _ _ _); refine wz5 ?_) | (show HW1 (.binOp .gtr _ _ _ _); refine wz33 ?_) | (show HW1 (.call ⟨.builtin .cap, _, _⟩); refine walk1_t (op_capC rfl rfl rfl) ?_) | (show HW1 (.call ⟨.builtin .len, _, _⟩); refine wz39 ?_) | (show HW1 (.call ⟨.builtin .append, _, _⟩); refine walk1_n (op_appendZ (m := 8) rfl rfl evn rfl rfl rfl rfl rfl (by omega) (by omega)) (by kernel_rfl) ?_) | (show HW1 (.slice _ _ _ _ _); first | refine wz98 ?_ | refine walk1_t (op_cutF rfl rfl rfl rfl rfl rfl) ?_)) | refine go1 ?_ | refine end_block_other rfl ?_ | refine end_scope (fun _ h => by cases h) ?_ | (refine walk_endD ?_ ?_; (· kernel_rfl)) | refine tri_yesA rfl ?_ | refine tri_noA rfl ?_ | refine tri_trueA rfl ?_ | refine tri_falseA rfl ?_)
    refine end_ent (ent_cut (i := 4) 99 rfl rfl (by omega) rfl (by kernel_rfl)) ?_
    refine end_ret (.v 99) (res_tmp rfl rfl) ?_
    exact fin_own rfl
  · obtain rfl : n = 0 := by omega
    refine calls_tri Try.func40 rfl Try.ntmps40 rfl ?_
    repeat (first | (show Walk1 _ _ _ (_ :: _) _ _; first | (show HW1 (.move _); refine wz1 ?_) | (show HW1 (.assign _); refine wz2 ?_) | (show HW1 (.binOp .sub _ _ _ _); refine wz35 ?_) | (show HW1 (.binOp .lss _ _ _ _); refine wz5 ?_) | (show HW1 (.binOp .gtr _ _ _ _); refine wz33 ?_) | (show HW1 (.call ⟨.builtin .cap, _, _⟩); refine walk1_t (op_capC rfl rfl rfl) ?_) | (show HW1 (.call ⟨.builtin .len, _, _⟩); refine wz39 ?_)) | refine go1 ?_ | refine end_block_other rfl ?_ | refine end_scope (fun _ h => by cases h) ?_ | (refine walk_endD ?_ ?_; (· kernel_rfl)) | refine tri_yesA rfl ?_ | refine tri_noA rfl ?_ | refine tri_trueA rfl ?_ | refine tri_falseA rfl ?_)
    refine end_ent (ent_nil (i := 4) (n := 99) 3 1 rfl (by kernel_rfl)) ?_
    refine end_ret (.v 99) (res_tmp rfl rfl) ?_
    exact fin_own rfl
theorem concatI_any (dv : Value) (ds : List (List Nat)) (w : World) (hv : SlcI w dv ds) (hn : ds.flatten.length ≤ 100000) (hdl : ds.length ≤ 100000) :
    Calls Try.prog 26 #[dv] w (RetOwn w 3 1 ds.flatten.length (ordC ds.flatten)) := by
  obtain ⟨ps, hps, hel⟩ := hv
  have cg := fun n w hn => growI_any n w hn
  refine calls_tri Try.func26 rfl Try.ntmps26 rfl ?_
  repeat (first | (show Walk1 _ _ _ (_ :: _) _ _; first | (show HW1 (.move _); first | refine wz40 ?_ | refine wz1 ?_) | (show HW1 (.assign _); first | refine wz13 ?_ | refine wz2 ?_) | (show HW1 (.call ⟨.builtin .len, _, _⟩); refine wz27 ?_)) | refine go1 ?_ | refine end_block_other rfl ?_ | refine end_scope (fun _ h => by cases h) ?_ | (refine walk_endD ?_ ?_; (· kernel_rfl)) | refine tri_yesA rfl ?_ | refine tri_noA rfl ?_ | refine tri_trueA rfl ?_ | refine tri_falseA rfl ?_)
  refine tri_loop (X := Nat) (fun j => ⟨[(11, SV.c (.int .i64 ((j : Nat) : Int))), (10, SV.c (.int .i64 ((ds.length : Nat) : Int))), (9, .c dv), (0, .c dv), (3, SV.c (.int .i64 (((ds.take j).flatten.length : Nat) : Int)))], []⟩)
    (fun j => j ≤ ds.length) (fun j => ds.length - j) 0 (by omega) (ent_keep (by repeat (first | exact hasT_nil | refine hasT_cons rfl ?_ | refine hasT_eq rfl (svi (by omega)) ?_)) (by repeat (first | exact hasR_nil | refine hasR_cons rfl ?_))) ?_
  intro j hj K next
  by_cases h : j < ds.length
  · obtain ⟨p, hp, hfs⟩ := hel j ds[j] (List.getElem?_eq_getElem h)
    have hft := flat_takeI ds j ds[j] (List.getElem?_eq_getElem h)
    have hfl := flat_leI ds (j + 1)
    have hlen : (ds.take (j + 1)).flatten.length = (ds.take j).flatten.length + ds[j].length := by rw [hft, List.length_append]
    generalize ds[j] = d at *
    generalize (ds.take j).flatten.length = F at *
    repeat (first | (show Walk1 _ _ _ (_ :: _) _ _; first | (show HW1 (.move _); refine wz1 ?_) | (show HW1 (.assign _); refine wz2 ?_) | (show HW1 (.binOp .add _ _ _ _); refine wz10 ?_) | (show HW1 (.binOp .lss _ _ _ _); refine wz5 ?_) | (show HW1 (.indexAddr _ _ _); refine wz80 ?_) | (show HW1 (.load _ _); refine wz44 ?_) | (show HW1 (.call ⟨.builtin .len, _, _⟩); refine wz27 ?_)) | refine go1 ?_ | refine end_block_other rfl ?_ | refine end_scope (fun _ h => by cases h) ?_ | (refine walk_endD ?_ ?_; (· kernel_rfl)) | refine tri_yesA rfl ?_ | refine tri_noA rfl ?_ | refine tri_trueA rfl ?_ | refine tri_falseA rfl ?_)
    rw [← hlen]
    exact next _ (j + 1) (by omega) (by omega) (ent_keep (by repeat (first | exact hasT_nil | refine hasT_cons rfl ?_ | refine hasT_eq rfl (svi (by omega)) ?_)) (by repeat (first | exact hasR_nil | refine hasR_cons rfl ?_)))
  obtain rfl : j = ds.length := by omega
  rw [List.take_of_length_le (Nat.le_refl _)]
  have cg1 := fun w => cg ds.flatten.length w hn
  clear next cg
  repeat (first | (show Walk1 _ _ _ (_ :: _) _ _; first | (show HW1 (.move _); first | refine wz40 ?_ | refine wz1 ?_) | (show HW1 (.assign _); refine wz2 ?_) | (show HW1 (.binOp .lss _ _ _ _); refine wz5 ?_) | (show HW1 (.call ⟨.builtin .len, _, _⟩); refine wz27 ?_) | (show HW1 (.call ⟨.value (.func 40), _, _⟩); (refine walk1_callO rfl rfl rfl rfl (by kernel_rfl) evq rfl ?_; refine ⟨_, _, _, _, _, callO_0  (fun e w  => cg1 w), ?_⟩))) | refine go1 ?_ | refine end_block_other rfl ?_ | refine end_scope (fun _ h => by cases h) ?_ | (refine walk_endD ?_ ?_; (· kernel_rfl)) | refine tri_yesA rfl ?_ | refine tri_noA rfl ?_ | refine tri_trueA rfl ?_ | refine tri_falseA rfl ?_)
  refine tri_loop (X := Nat) (fun j => ⟨[(27, SV.c (.int .i64 ((j : Nat) : Int))), (26, SV.c (.int .i64 ((ds.length : Nat) : Int))), (25, .c dv), (6, .v 24)], [(24, some (.own 24 3 1 (ds.take j).flatten.length (ordC (ds.take j).flatten)))]⟩)
    (fun j => j ≤ ds.length) (fun j => ds.length - j) 0 (by omega) (ent_keep (by repeat (first | exact hasT_nil | refine hasT_cons rfl ?_ | refine hasT_eq rfl (svi (by omega)) ?_)) (by repeat (first | exact hasR_nil | refine hasR_cons rfl ?_))) ?_
  intro j hj K next
  by_cases h : j < ds.length
  · obtain ⟨p, hp, hfs⟩ := hel j ds[j] (List.getElem?_eq_getElem h)
    have hft := flat_takeI ds j ds[j] (List.getElem?_eq_getElem h)
    have hfl := flat_leI ds (j + 1)
    have hlen : (ds.take (j + 1)).flatten.length = (ds.take j).flatten.length + ds[j].length := by rw [hft, List.length_append]
    generalize ds[j] = d at *
    generalize (ds.take j).flatten = F at *
    have hrd := hfs.rd
    have hone := ordC_one d
    repeat (first | (show Walk1 _ _ _ (_ :: _) _ _; first | (show HW1 (.move _); refine wz1 ?_) | (show HW1 (.assign _); refine wz2 ?_) | (show HW1 (.binOp .add _ _ _ _); refine wz10 ?_) | (show HW1 (.binOp .lss _ _ _ _); refine wz5 ?_) | (show HW1 (.indexAddr _ _ _); refine wz80 ?_) | (show HW1 (.load _ _); refine wz44 ?_) | (show HW1 (.call ⟨.builtin .append, _, _⟩); refine walk1_g (op_appendL rfl rfl rfl rfl rfl rfl rfl rfl rfl (by decide) (by assumption) rfl (by with_reducible assumption) (by omega) rfl) (by kernel_rfl) ?_)) | refine go1 ?_ | refine end_block_other rfl ?_ | refine end_scope (fun _ h => by cases h) ?_ | (refine walk_endD ?_ ?_; (· kernel_rfl)) | refine tri_yesA rfl ?_ | refine tri_noA rfl ?_ | refine tri_trueA rfl ?_ | refine tri_falseA rfl ?_)
    rw [← hlen, ← ordC_app, ← hft]
    exact next _ (j + 1) (by omega) (by omega) (ent_ren (fun n => cond (Nat.beq n 24) 33 n) (by repeat (first | exact hasTm_nil | refine hasTm_cons rfl (fun _ => rfl) ?_)) (by repeat (first | exact hasRm_nil | refine hasRm_cons rfl (fun _ => rfl) (fun _ _ h => h) rfl ?_)) (by kernel_rfl))
  · obtain rfl : j = ds.length := by omega
    rw [List.take_of_length_le (Nat.le_refl _)]
    repeat (first | (show Walk1 _ _ _ (_ :: _) _ _; first | (show HW1 (.move _); refine wz1 ?_) | (show HW1 (.assign _); refine wz2 ?_) | (show HW1 (.binOp .lss _ _ _ _); refine wz5 ?_)) | refine go1 ?_ | refine end_block_other rfl ?_ | refine end_scope (fun _ h => by cases h) ?_ | (refine walk_endD ?_ ?_; (· kernel_rfl)) | refine tri_yesA rfl ?_ | refine tri_noA rfl ?_ | refine tri_trueA rfl ?_ | refine tri_falseA rfl ?_)
    refine end_ret (.v 24) (res_tmp rfl rfl) ?_
    exact fin_own rfl
theorem soundOne_any (w : World) : Calls Try.prog 29 #[.int .i64 1] w fun e w' => e = .returned (.bool false) ∧ Below w.heap.size w w' := by
  refine calls_tri Try.func29 rfl Try.ntmps29 rfl ?_
  repeat (first | (show Walk1 _ _ _ (_ :: _) _ _; first | (show HW1 (.move _); refine wz1 ?_) | (show HW1 (.assign _); refine wz2 ?_) | (show HW1 (.binOp .neq _ _ _ _); refine wz61 ?_)) | refine go1 ?_ | refine end_block_other rfl ?_ | refine end_scope (fun _ h => by cases h) ?_ | (refine walk_endD ?_ ?_; (· kernel_rfl)) | refine tri_yesA rfl ?_ | refine tri_noA rfl ?_ | refine tri_trueA rfl ?_ | refine tri_falseA rfl ?_)
  refine end_ret (.c (.bool false)) (res_tmp rfl rfl) ?_
  exact fin_below fun _ => rfl
theorem indexOnes_any (v : Value) (n : Nat) (w : World) (hv : RdV w 1 v n (ordC (List.replicate n 1))) (hl : n ≤ 100000) :
    Calls Try.prog 38 #[v, .func (.func 29) #[] #[]] w fun e w' => e = .returned (.int .i64 (-1)) ∧ Below w.heap.size w w' := by
  have cf := soundOne_any
  refine calls_tri Try.func38 rfl Try.ntmps38 rfl ?_
  repeat (first | (show Walk1 _ _ _ (_ :: _) _ _; first | (show HW1 (.move _); first | refine wz40 ?_ | refine wz1 ?_) | (show HW1 (.assign _); refine wz13 ?_) | (show HW1 (.call ⟨.builtin .len, _, _⟩); refine wz27 ?_)) | refine go1 ?_ | refine end_block_other rfl ?_ | refine end_scope (fun _ h => by cases h) ?_ | (refine walk_endD ?_ ?_; (· kernel_rfl)) | refine tri_yesA rfl ?_ | refine tri_noA rfl ?_ | refine tri_trueA rfl ?_ | refine tri_falseA rfl ?_)
  refine tri_loop (X := Nat) (fun j => ⟨[(8, SV.c (.int .i64 ((j : Nat) : Int))), (7, SV.c (.int .i64 ((n : Nat) : Int))), (0, .c v), (1, .c (.func (.func 29) #[] #[]))], []⟩)
    (fun j => j ≤ n) (fun j => n - j) 0 (by omega) (ent_keep (by repeat (first | exact hasT_nil | refine hasT_cons rfl ?_ | refine hasT_eq rfl (svi (by omega)) ?_)) (by repeat (first | exact hasR_nil | refine hasR_cons rfl ?_))) ?_
  intro j hj K next
  by_cases h : j < n
  · have hr : (ordC (List.replicate n 1))[j]? = some (.int .i64 1) := ordC_get (by rw [List.getElem?_replicate, if_pos h])
    have nx := fun S' => next S' (j + 1)
    clear next
    repeat (first | (show Walk1 _ _ _ (_ :: _) _ _; first | (show HW1 (.move _); refine wz1 ?_) | (show HW1 (.assign _); refine wz2 ?_) | (show HW1 (.binOp .add _ _ _ _); refine wz10 ?_) | (show HW1 (.binOp .lss _ _ _ _); refine wz5 ?_) | (show HW1 (.indexAddr _ _ _); refine wz80 ?_) | (show HW1 (.load _ _); refine wz44 ?_) | (show HW1 (.call ⟨.value (.tmp _), _, _⟩); (refine walk1_callMV rfl rfl rfl rfl rfl evq rfl ?_; refine ⟨[], _, (fun _ e _ w _ _ => cf w), ?_⟩))) | refine go1 ?_ | refine end_block_other rfl ?_ | refine end_scope (fun _ h => by cases h) ?_ | (refine walk_endD ?_ ?_; (· kernel_rfl)) | refine tri_yesA rfl ?_ | refine tri_noA rfl ?_ | refine tri_trueA rfl ?_ | refine tri_falseA rfl ?_)
    exact nx _ (by omega) (by omega) (ent_keep (by repeat (first | exact hasT_nil | refine hasT_cons rfl ?_ | refine hasT_eq rfl (svi (by omega)) ?_)) (by repeat (first | exact hasR_nil | refine hasR_cons rfl ?_)))
  · obtain rfl : j = n := by omega
    clear next
    repeat (first | (show Walk1 _ _ _ (_ :: _) _ _; first | (show HW1 (.assign _); refine wz2 ?_) | (show HW1 (.binOp .lss _ _ _ _); refine wz5 ?_)) | refine go1 ?_ | refine end_block_other rfl ?_ | refine end_scope (fun _ h => by cases h) ?_ | (refine walk_endD ?_ ?_; (· kernel_rfl)) | refine tri_yesA rfl ?_ | refine tri_noA rfl ?_ | refine tri_trueA rfl ?_ | refine tri_falseA rfl ?_)
    refine end_ret (.c (.int .i64 (-1))) (res_tmp rfl rfl) ?_
    exact fin_below fun _ => rfl
theorem containsOnes_any (v : Value) (n : Nat) (w : World) (hv : RdV w 1 v n (ordC (List.replicate n 1))) (hl : n ≤ 100000) :
    Calls Try.prog 28 #[v, .func (.func 29) #[] #[]] w fun e w' => e = .returned (.bool false) ∧ Below w.heap.size w w' := by
  have ci := fun w h => indexOnes_any v n w h hl
  refine calls_tri Try.func28 rfl Try.ntmps28 rfl ?_
  repeat (first | (show Walk1 _ _ _ (_ :: _) _ _; first | (show HW1 (.move _); refine wz1 ?_) | (show HW1 (.assign _); refine wz2 ?_) | (show HW1 (.binOp .geq _ _ _ _); refine wz71 ?_) | (show HW1 (.call ⟨.value (.func 38), _, _⟩); (refine cwalk1M 38 ?_; refine ⟨_, _, callM_1 (rdn_old hv (by omega) rfl) (fun e w h1 => ci w h1), ?_⟩))) | refine go1 ?_ | refine end_block_other rfl ?_ | refine end_scope (fun _ h => by cases h) ?_ | (refine walk_endD ?_ ?_; (· kernel_rfl)) | refine tri_yesA rfl ?_ | refine tri_noA rfl ?_ | refine tri_trueA rfl ?_ | refine tri_falseA rfl ?_)
  refine end_ret (.c (.bool false)) (res_tmp rfl rfl) ?_
  exact fin_below fun _ => rfl
end Go.Proofs.Ytcgmapioelfneaa
