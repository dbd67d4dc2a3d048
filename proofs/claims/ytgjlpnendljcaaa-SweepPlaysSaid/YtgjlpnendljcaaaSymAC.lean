/- A new object with a slice of its own and a value, handed back together: the call. No condition. -/
import Derived.Test.YtgjlpnendljcaaaSwp10
namespace Go.Proofs.Ytgjlpnendljcaaa
open Go.RowKit
set_option maxRecDepth 100000
set_option maxHeartbeats 1000000
section
variable {C : Ctx} {ops : Array Oper} {S : St} {o : Oper}
def CallNT (C : Ctx) (S : St) (rb : List Nat) (T j : Nat) (vs : List SV) (cells : Value → Array Value) (K : World → Value → Prop) (u : Value) : Prop := ∀ (S' : St) e a w, Holds C S' e a w → (∀ q ∈ rb, S'.res q = S.res q) → Calls Try.prog j (vs.map (·.den e)).toArray w (RetNT w T cells K u)
theorem callNT_1 {T j sz m : Nat} {vs : List SV} {cells : Value → Array Value} {K : World → Value → Prop} {u : Value} {ns : List Nat} {v1 : SV} {xs : List Value} (h1 : RdN C S ns sz v1 m xs) (h : ∀ (e : Env) w, RdV w sz (v1.den e) m xs → Calls Try.prog j (vs.map (·.den e)).toArray w (RetNT w T cells K u)) : CallNT C S ns T j vs cells K u := fun S' e a w hS hq => h e w (h1 S' e a w hq hS)
theorem op_callNT {f : FuncId} {xs : Array Operand} {ats : Array TypeId} {vs : List SV} {rb : List Nat} {j n q T : Nat} {A' : SA} {R' : Res} {K : World → Value → Prop} {cells : Value → Array Value} {u : Value} (ho : o.op = .call { callee := .value (.func f), args := xs, argTypes := ats }) (hdn : o.dst = some n) (hg : o.guard = none) (hd : dstB o.dst C.nt = true) (hxs : EvS S xs.toList vs) (hc' : tabLook calT f = some j)
    (hqn : Nat.beq n q = false) (hA' : ∀ e, A'.den e = cells (e q).v) (hAs : subB A'.sup [q] = true) (hR' : IsOwn R' q K) (hcon : CallNT C S rb T j vs cells K u) :
    OpG C Try.prog ops o S ⟨xs.toList.flatMap opT, rb, [(n, .tup [.p n 0, .c u])], [(n, some (.blk n T A')), (q, some R')], [n, q]⟩ := by
  refine opG_mk hg fun S' h1 h2 h3 e a w hS => ?_
  unfold Oper.wp
  rw [call_hop ho hxs hc' h1 hS]
  refine Calls.mono (hcon S' e a w hS h2) ?_
  rintro r w' ⟨b, v', rfl, _, hsz, hB, hK, hfo, hb⟩
  have hne : n ≠ q := by intro h; subst h; simp at hqn
  have hA2 : ∀ e0 x, A'.den (Env.set e0 n x) = A'.den e0 := fun e0 x => A'.ind e0 _ fun m hm => Env.set_ne e0 _ (fun he => by
    have := subB_spec hAs m hm
    rw [he] at this
    simp at this
    exact hne this)
  have hfr1 := h3 n (by simp)
  have hfr2 := h3 q (by simp)
  -- the slice first, then the object's block
  have hS1 := (hS.world hb).rename hfr1 ⟨b, 0, undef⟩
  have hold : ∀ m r, S'.res m = some r → ∀ k, r.foot (e.set n ⟨b, 0, undef⟩) k → k < w.heap.size := fun m r hr k hk => by
    have h4 := r.ind e (e.set n ⟨b, 0, undef⟩) fun x hx => Env.set_ne e _ (fun he => hfr1.2 m r hr (he ▸ hx))
    rw [h4.1] at hk
    exact r.lt e w k (hS.res m r hr) hk
  have hS2 := hS1.rename hfr2 ⟨0, 0, v'⟩
  have hold2 : ∀ m r, S'.res m = some r → ∀ k, r.foot ((e.set n ⟨b, 0, undef⟩).set q ⟨0, 0, v'⟩) k → k < w.heap.size := fun m r hr k hk => by
    have h4 := r.ind (e.set n ⟨b, 0, undef⟩) ((e.set n ⟨b, 0, undef⟩).set q ⟨0, 0, v'⟩) fun x hx => Env.set_ne _ _ (fun he => hfr2.2 m r hr (he ▸ hx))
    rw [h4.1] at hk
    exact hold m r hr k hk
  have hen : (((e.set n ⟨b, 0, undef⟩).set q ⟨0, 0, v'⟩) n) = ⟨b, 0, undef⟩ := by rw [Env.set_ne _ _ hne, Env.set_self]
  have hRf : ∀ k, R'.foot ((e.set n ⟨b, 0, undef⟩).set q ⟨0, 0, v'⟩) k → v'.ownBlock = some k := fun k hk => by rw [hR'.foot, Env.set_self] at hk; exact hk
  have hBf : ∀ k, (Res.blk n T A').foot ((e.set n ⟨b, 0, undef⟩).set q ⟨0, 0, v'⟩) k → k = b := fun k hk => by
    have hk : k = (((e.set n ⟨b, 0, undef⟩).set q ⟨0, 0, v'⟩) n).b := hk
    rw [hen] at hk; exact hk
  have hres : ∀ k r, (St.mk S'.t ((n, some (.blk n T A')) :: (q, some R') :: S'.h)).res k = some r → (k = n ∧ r = .blk n T A') ∨ (k = q ∧ r = R') ∨ S'.res k = some r := fun k r hk => by
    rw [St.res_cons] at hk
    split at hk
    · rename_i h; cases hk; exact .inl ⟨h.symm, rfl⟩
    · rw [St.res_cons] at hk
      split at hk
      · rename_i h; cases hk; exact .inr (.inl ⟨h.symm, rfl⟩)
      · exact .inr (.inr hk)
  have hH : Holds C ⟨S'.t, (n, some (.blk n T A')) :: (q, some R') :: S'.h⟩ ((e.set n ⟨b, 0, undef⟩).set q ⟨0, 0, v'⟩) a w' := by
    refine ⟨hS2.defers, hS2.size, hS2.tmp, fun k r hk => ?_, fun k r hk hw x hx => ?_, fun k m r r' hk hm hkm hw x hx hx' => ?_, hS2.frame⟩
    · rcases hres k r hk with ⟨rfl, rfl⟩ | ⟨rfl, rfl⟩ | h
      · refine ⟨(0, 0), ?_, fun _ => rfl⟩
        rw [hen, hA', Env.set_self]
        exact hB
      · rw [hR'.ok, Env.set_self]; exact hK
      · exact hS2.res k r h
    · rcases hres k r hk with ⟨rfl, rfl⟩ | ⟨rfl, rfl⟩ | h
      · exact .inl (by rw [hBf x hx]; exact Nat.le_trans hS.frame.size hsz)
      · exact .inl (Nat.le_trans hS.frame.size (hfo x (hRf x hx)).1)
      · exact hS2.mine k r h hw x hx
    · rcases hres k r hk with ⟨rfl, rfl⟩ | ⟨rfl, rfl⟩ | h
      · rcases hres m r' hm with ⟨rfl, rfl⟩ | ⟨rfl, rfl⟩ | h'
        · exact hkm rfl
        · exact (hfo x (hRf x hx')).2 (hBf x hx)
        · have := hold2 m r' h' x hx'
          rw [hBf x hx] at this
          omega
      · rcases hres m r' hm with ⟨rfl, rfl⟩ | ⟨rfl, rfl⟩ | h'
        · exact (hfo x (hRf x hx)).2 (hBf x hx')
        · exact hkm rfl
        · have := hold2 m r' h' x hx'
          have := (hfo x (hRf x hx)).1
          omega
      · rcases hres m r' hm with ⟨rfl, rfl⟩ | ⟨rfl, rfl⟩ | h'
        · have := hold2 k r h x hx
          rw [hBf x hx'] at this
          omega
        · have := hold2 k r h x hx
          have := (hfo x (hRf x hx')).1
          omega
        · exact hS2.sep k m r r' h h' hkm hw x hx hx'
  have hfin := hH.put hd (.tup [.p n 0, .c u])
  have hden : (SV.tup [.p n 0, .c u]).den ((e.set n ⟨b, 0, undef⟩).set q ⟨0, 0, v'⟩) = .tuple #[.pointer (some ⟨b, 0, none⟩), u] := by
    show Value.tuple ([SV.p n 0, SV.c u].map (·.den ((e.set n ⟨b, 0, undef⟩).set q ⟨0, 0, v'⟩))).toArray = _
    simp only [List.map_cons, List.map_nil, SV.p, SV.c, hen]
  rw [hden] at hfin
  rw [hdn] at hfin ⊢
  exact ⟨_, hfin⟩
variable {l : List Oper} {t : List (Nat × SV)} {h : List (Nat × Option Res)} {d : Nat} {f j : FuncId} {xs : Array Operand} {ats : Array TypeId} {vs : List SV}
theorem walk1_callNT {K0 : St → Prop} (q : Nat) (A' : SA) (ho : o.op = .call { callee := .value (.func f), args := xs, argTypes := ats }) (hdn : o.dst = some d) (hg : o.guard = none) (hd : dstB o.dst C.nt = true) (hf : freshB ⟨t, h⟩ d = true) (hfq : freshB ⟨t, h⟩ q = true) (hqn : Nat.beq d q = false) (hAs : subB A'.sup [q] = true) (hxs : EvS ⟨t, h⟩ xs.toList vs) (hc' : tabLook calT f = some j)
    (hK : ∃ rb T cells K u R', CallNT C ⟨t, h⟩ rb T j vs cells K u ∧ (∀ e, A'.den e = cells (e q).v) ∧ IsOwn R' q K ∧ Walk1 C Try.prog ops l ⟨(d, .tup [.p d 0, .c u]) :: t, (d, some (.blk d T A')) :: (q, some R') :: h⟩ K0) : Walk1 C Try.prog ops (o :: l) ⟨t, h⟩ K0 := by
  obtain ⟨rb, T, cells, K, u, R', h1, h2, h3, h4⟩ := hK
  exact ⟨_, op_callNT (C := C) (ops := ops) ho hdn hg hd hxs hc' hqn h2 hAs h3 h1, by simp [hf, hfq], h4⟩
theorem walk_callNT {x : List Nat} {acc : List OS} {K0 : St → List OS → Prop} (q : Nat) (A' : SA) (ho : o.op = .call { callee := .value (.func f), args := xs, argTypes := ats }) (hdn : o.dst = some d) (hg : o.guard = none) (hd : dstB o.dst C.nt = true) (hf : freshB ⟨t, h⟩ d = true) (hfq : freshB ⟨t, h⟩ q = true) (hqn : Nat.beq d q = false) (hAs : subB A'.sup [q] = true) (hxs : EvS ⟨t, h⟩ xs.toList vs) (hc' : tabLook calT f = some j)
    (hK : ∃ rb T cells K u R', CallNT C ⟨t, h⟩ rb T j vs cells K u ∧ (∀ e, A'.den e = cells (e q).v) ∧ IsOwn R' q K ∧ WalkTo C Try.prog ops [] l ⟨(d, .tup [.p d 0, .c u]) :: t, (d, some (.blk d T A')) :: (q, some R') :: h⟩ (⟨x ++ xs.toList.flatMap opT, rb, [(d, .tup [.p d 0, .c u])], [(d, some (.blk d T A')), (q, some R')], [d, q]⟩ :: acc) K0) : WalkTo C Try.prog ops x (o :: l) ⟨t, h⟩ acc K0 := by
  obtain ⟨rb, T, cells, K, u, R', h1, h2, h3, h4⟩ := hK
  exact ⟨⟨_, _, _, _, _⟩, opG_more x (op_callNT (C := C) (ops := ops) ho hdn hg hd hxs hc' hqn h2 hAs h3 h1), by simp [hf, hfq], h4⟩
end
end Go.Proofs.Ytgjlpnendljcaaa
