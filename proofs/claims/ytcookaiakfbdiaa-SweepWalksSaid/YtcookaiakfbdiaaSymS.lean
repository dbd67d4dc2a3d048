/- Objects with a slice of their own in them; slices that begin somewhere in a block of their own. No condition. -/
import Derived.Test.YtcookaiakfbdiaaMgSymK
namespace Go.Proofs.Ytcookaiakfbdiaa
open Go.RowKit
set_option maxRecDepth 100000
/-! ### a slice that lies in a block of its own, from some place on -/
def ownsSub (w : World) (T : TypeId) (v : Value) (n : Nat) (xs : List Value) : Prop :=
  xs.length = n ∧ ((v = .slice none 0 0 ∧ n = 0) ∨ ∃ g off cap cur, v = .slice (some ⟨g, off, none⟩) n cap ∧ w.heap[g]? = some (.cells cur T (0, 0)) ∧ n ≤ cap ∧ cap ≤ maxLen ∧ off + cap ≤ cur.size ∧ (cur.toList.drop off).take n = xs)
theorem ownsSub.loc {w w' : World} {T : TypeId} {v : Value} {n : Nat} {xs : List Value} (h : ownsSub w T v n xs) (hb : ∀ b, v.ownBlock = some b → w'.heap[b]? = w.heap[b]?) : ownsSub w' T v n xs := by
  refine ⟨h.1, ?_⟩
  rcases h.2 with h2 | ⟨g, off, cap, cur, hv, hg, rest⟩
  · exact .inl h2
  · exact .inr ⟨g, off, cap, cur, hv, (hb g (by rw [hv]; rfl)).trans hg, rest⟩
theorem ownsSub.lt {w : World} {T : TypeId} {v : Value} {n : Nat} {xs : List Value} (h : ownsSub w T v n xs) {b : Nat} (hb : v.ownBlock = some b) : b < w.heap.size := by
  rcases h.2 with ⟨rfl, _⟩ | ⟨g, off, cap, cur, rfl, hg, rest⟩
  · cases hb
  · cases hb; exact (Array.getElem?_eq_some_iff.1 hg).1
theorem ownsSub.cut {w : World} {T : TypeId} {v : Value} {n lo : Nat} {xs : List Value} (h : ownsSub w T v n xs) (hlo : lo ≤ n) : ownsSub w T (cutV v lo (n - lo)) (n - lo) (xs.drop lo) := by
  refine ⟨by rw [List.length_drop, h.1], ?_⟩
  rcases h.2 with ⟨rfl, rfl⟩ | ⟨g, off, cap, cur, rfl, hg, hn, hm, hs, ht⟩
  · have : lo = 0 := by omega
    subst this
    exact .inl ⟨rfl, rfl⟩
  · right
    by_cases hc : cap = lo
    · refine ⟨g, off, cap - lo, cur, by simp [cutV, hc], hg, by omega, by omega, by omega, ?_⟩
      have h0 : n - lo = 0 := by omega
      have h1 : xs.drop lo = [] := List.drop_of_length_le (by rw [h.1]; omega)
      rw [h0, h1, List.take_zero]
    · refine ⟨g, off + lo, cap - lo, cur, by simp [cutV, hc, add_place], hg, by omega, by omega, by omega, ?_⟩
      rw [← ht, ← List.drop_drop, List.drop_take]
theorem ownsSub.own {w : World} {T : TypeId} {v : Value} {n : Nat} {xs : List Value} (h : ownsSub w T v n xs) : v.cells = #[v] ∧ v.oneCell' = true := by
  rcases h.2 with ⟨rfl, _⟩ | ⟨g, off, cap, cur, rfl, _⟩ <;> exact ⟨rfl, rfl⟩
theorem ownsSub.cell {w : World} {T : TypeId} {n : Nat} {xs : List Value} {g off cap : Nat} (h : ownsSub w T (.slice (some ⟨g, off, none⟩) n cap) n xs) (j : Nat) (u : Value) (hu : xs[j]? = some u) : w.cell? ⟨g, off + j, none⟩ = some u := by
  rcases h.2 with ⟨h2, _⟩ | ⟨g', off', cap', cur, hv, hg, hn, hm, hs, ht⟩
  · cases h2
  · cases hv
    rw [cell_of_row w g _ cur T (0, 0) hg, ← Array.getElem?_toList, ← List.getElem?_drop]
    have hj : j < n := by have := (List.getElem?_eq_some_iff.1 hu).1; rw [h.1] at this; exact this
    rw [← ht, List.getElem?_take, if_pos hj] at hu
    exact hu
def Res.osub (n : Nat) (T : TypeId) (len : Nat) (xs : List Value) : Res where
  foot e b := (e n).v.ownBlock = some b
  ok e w := ownsSub w T (e n).v len xs
  sup := [n]
  wr := true
  ind e e' h := by have h1 := h n (by simp); simp only [h1, and_self]
  loc e w w' h hok := hok.loc h
  lt e w b hok hf := hok.lt hf
/-! ### what stands for a slice of its own -/
structure IsOwn (R : Res) (n : Nat) (K : World → Value → Prop) : Prop where
  foot : ∀ e b, R.foot e b = ((e n).v.ownBlock = some b)
  ok : ∀ e w, R.ok e w = K w (e n).v
  sup : R.sup = [n]
  wr : R.wr = true
def ownK (T : TypeId) (size len : Nat) (xs : List Value) : World → Value → Prop := fun w v => w.ownsRow 0 T size v len xs
def subK (T : TypeId) (len : Nat) (xs : List Value) : World → Value → Prop := fun w v => ownsSub w T v len xs
theorem isOwn_own {n : Nat} {T : TypeId} {size len : Nat} {xs : List Value} : IsOwn (.own n T size len xs) n (ownK T size len xs) := ⟨fun _ _ => rfl, fun _ _ => rfl, rfl, rfl⟩
theorem isOwn_sub {n : Nat} {T : TypeId} {len : Nat} {xs : List Value} : IsOwn (.osub n T len xs) n (subK T len xs) := ⟨fun _ _ => rfl, fun _ _ => rfl, rfl, rfl⟩
variable {C : Ctx} {ops : Array Oper} {S : St} {o : Oper}
/-! ### some resources changed -/
theorem res_chg {t : List (Nat × SV)} {N : List (Nat × Res)} {K : List Nat} {h : List (Nat × Option Res)} {n : Nat} {r : Res} (hr : (St.mk t (N.map (fun p => (p.1, some p.2)) ++ (K.map (fun k => (k, none)) ++ h))).res n = some r) : (n, r) ∈ N ∨ (n ∉ K ∧ (St.mk t h).res n = some r) := by
  unfold St.res at hr ⊢
  rw [look_append, look_append] at hr
  cases h1 : look (N.map (fun p => (p.1, some p.2))) n with
  | some x =>
    rw [h1] at hr
    left
    have := look_some_mem h1
    obtain ⟨p, hp, he⟩ := List.mem_map.1 this
    cases he
    cases hr
    exact hp
  | none =>
    rw [h1] at hr
    right
    cases h2 : look (K.map (fun k => ((k, none) : Nat × Option Res))) n with
    | some x =>
      rw [h2] at hr
      have := look_some_mem h2
      obtain ⟨p, hp, he⟩ := List.mem_map.1 this
      cases he
      cases hr
    | none =>
      rw [h2] at hr
      refine ⟨fun hn => ?_, hr⟩
      obtain ⟨x, hx⟩ := look_isSome (l := K.map (fun k => ((k, none) : Nat × Option Res))) (i := n) (by simpa using hn)
      rw [hx] at h2; cases h2
theorem Holds.chg {e : Env} {a : Act} {w w' : World} (hS : Holds C S e a w) (N : List (Nat × Res)) (K : List Nat) {d : Nat} (hf : S.fresh d) (x : Ent)
    (hos : w'.os = w.os) (htape : w'.tape = w.tape) (hout : w'.output = w.output) (hsz : w.heap.size ≤ w'.heap.size)
    (hK : ∀ k ∈ K, ∀ r, S.res k = some r → r.wr = true)
    (hblk : ∀ b, b < w.heap.size → (∀ k ∈ K, ∀ r, S.res k = some r → ¬ r.foot e b) → w'.heap[b]? = w.heap[b]?)
    (hok : ∀ p ∈ N, p.2.ok (e.set d x) w')
    (hfoot : ∀ p ∈ N, ∀ b, p.2.foot (e.set d x) b → (∃ k ∈ K, ∃ r, S.res k = some r ∧ r.foot e b) ∨ w.heap.size ≤ b)
    (hsep : ∀ p ∈ N, ∀ q ∈ N, p.1 ≠ q.1 → ∀ b, p.2.foot (e.set d x) b → ¬ q.2.foot (e.set d x) b) :
    Holds C ⟨S.t, N.map (fun p => (p.1, some p.2)) ++ (K.map (fun k => (k, none)) ++ S.h)⟩ (e.set d x) a w' := by
  have h1 := hS.rename hf x
  have hind : ∀ k r, S.res k = some r → r.foot (e.set d x) = r.foot e ∧ r.ok (e.set d x) = r.ok e := fun k r h => r.ind e _ fun q hq => Env.set_ne e _ (fun he => hf.2 k r h (he ▸ hq))
  refine ⟨h1.defers, h1.size, h1.tmp, fun n r hn => ?_, fun n r hn hw b hb => ?_, fun n m r r' hn hm hne hw b hb hb' => ?_, ⟨hos.trans hS.frame.os, htape.trans hS.frame.tape, hout.trans hS.frame.output, Nat.le_trans hS.frame.size hsz, fun k hk hkm => ?_⟩⟩
  · rcases res_chg hn with h2 | ⟨h2, h3⟩
    · exact hok _ h2
    · rw [(hind n r h3).2]
      refine r.loc e w w' (fun b hb => hblk b (r.lt e w b (hS.res n r h3) hb) fun k hk rk hrk hfk => ?_) (hS.res n r h3)
      exact hS.sep k n rk r hrk h3 (fun he => h2 (he ▸ hk)) (hK k hk rk hrk) b hfk hb
  · rcases res_chg hn with h2 | ⟨h2, h3⟩
    · rcases hfoot _ h2 b hb with ⟨k, hk, rk, hrk, hfk⟩ | h4
      · exact hS.mine k rk hrk (hK k hk rk hrk) b hfk
      · exact .inl (Nat.le_trans hS.frame.size h4)
    · exact h1.mine n r h3 hw b hb
  · rcases res_chg hn with h2 | ⟨h2, h3⟩
    · rcases res_chg hm with g2 | ⟨g2, g3⟩
      · exact hsep _ h2 _ g2 hne b hb hb'
      · rw [(hind m r' g3).1] at hb'
        rcases hfoot _ h2 b hb with ⟨k, hk, rk, hrk, hfk⟩ | h4
        · exact hS.sep k m rk r' hrk g3 (fun he => g2 (he ▸ hk)) (hK k hk rk hrk) b hfk hb'
        · exact absurd (r'.lt e w b (hS.res m r' g3) hb') (by omega)
    · rcases res_chg hm with g2 | ⟨g2, g3⟩
      · rw [(hind n r h3).1] at hb
        rcases hfoot _ g2 b hb' with ⟨k, hk, rk, hrk, hfk⟩ | h4
        · exact hS.sep k n rk r hrk h3 (fun he => h2 (he ▸ hk)) (hK k hk rk hrk) b hfk hb
        · exact absurd (r.lt e w b (hS.res n r h3) hb) (by omega)
      · exact h1.sep n m r r' h3 g3 hne hw b hb hb'
  · refine (hblk k (Nat.lt_of_lt_of_le hk hS.frame.size) fun q hq r hr hfq => ?_).trans (hS.frame.block k hk hkm)
    rcases hS.mine q r hr (hK q hq r hr) k hfq with h | h
    · omega
    · exact hkm h
/-! ### the walk of a method of such an object -/
/-- Handed back: a value; the object's cells are these of some slice, of which this is known; nothing else that lay there is changed. -/
def RetPL (w : World) (b : Nat) (g : Option Nat) (T : TypeId) (cells : Value → Array Value) (K : World → Value → Prop) (u : Value) : Ending → World → Prop := fun r w' => r = .returned u ∧ ∃ v', Blk w' b (cells v') T ∧ K w' v' ∧ (∀ x, v'.ownBlock = some x → (g = some x ∨ w.heap.size ≤ x) ∧ x ≠ b) ∧ BelowX w w' (b :: g.toList)
/-- Handed back: a pointer to a new one. -/
def RetNL (w : World) (T : TypeId) (cells : Value → Array Value) (K : World → Value → Prop) : Ending → World → Prop := fun r w' => ∃ b v', r = .returned (.pointer (some ⟨b, 0, none⟩)) ∧ w.heap.size ≤ b ∧ Blk w' b (cells v') T ∧ K w' v' ∧ (∀ x, v'.ownBlock = some x → w.heap.size ≤ x ∧ x ≠ b) ∧ Below w.heap.size w w'
theorem holds_startL {n b : Nat} {v : Value} {args : Array Value} {w : World} {T : TypeId} {A : SA} {cells : Value → Array Value} {R : Res} {K : World → Value → Prop} (h : args.size ≤ n) (h0 : args[0]? = some (.pointer (some ⟨b, 0, none⟩))) (hA : ∀ e, A.den e = cells (e 1002).v) (hB : Blk w b (cells v) T) (hR : IsOwn R 1002 K) (hK : K w v) (hne : v.ownBlock ≠ some b) :
    Holds ⟨n, w, b :: v.ownBlock.toList⟩ ⟨(0, .p 1000 0) :: idx 0 args.toList, [(1000, some (.blk 1000 T A)), (1001, some (.is 1000 b)), (1002, some R)]⟩ (fun _ => ⟨b, 0, v⟩) { tmps := args ++ Array.replicate (n - args.size) undef, defers := [] } w where
  defers := rfl
  size := by simp; omega
  tmp i v hv := by
    have hv' : look ((0, SV.p 1000 0) :: idx 0 args.toList) i = some v := hv
    rw [look_cons] at hv'
    split at hv'
    · rename_i h2; subst h2; cases hv'
      have hi : 0 < args.size := (Array.getElem?_eq_some_iff.1 h0).1
      rw [Array.getElem?_append_left hi]
      exact h0
    · obtain ⟨u, h1, _, rfl⟩ := idx_look args.toList 0 i v hv'
      rw [Nat.sub_zero] at h1
      have hi : i < args.size := by have := (List.getElem?_eq_some_iff.1 h1).1; simpa using this
      rw [Array.getElem?_append_left hi]
      simpa [SV.c] using h1
  res k r hr := by
    rw [St.res_cons] at hr
    split at hr
    · cases hr; exact ⟨(0, 0), by rw [hA]; exact hB, fun _ => rfl⟩
    · rw [St.res_cons] at hr
      split at hr
      · cases hr; rfl
      · rw [St.res_cons] at hr
        split at hr
        · cases hr; rw [hR.ok]; exact hK
        · cases hr
  mine k r hr hw x hx := by
    rw [St.res_cons] at hr
    split at hr
    · cases hr; exact .inr (by rw [show x = b from hx]; simp)
    · rw [St.res_cons] at hr
      split at hr
      · cases hr; cases hw
      · rw [St.res_cons] at hr
        split at hr
        · cases hr
          rw [hR.foot] at hx
          exact .inr (by rw [show v.ownBlock = some x from hx]; simp)
        · cases hr
  sep k m r r' hr hr' hm hw x hx hx' := by
    rw [St.res_cons] at hr hr'
    split at hr
    · rename_i h1
      cases hr
      split at hr'
      · rename_i h2; exact hm (h1.symm.trans h2)
      · rw [St.res_cons] at hr'
        split at hr'
        · cases hr'; exact hx'
        · rw [St.res_cons] at hr'
          split at hr'
          · cases hr'
            rw [hR.foot] at hx'
            rw [show x = b from hx] at hx'
            exact hne hx'
          · cases hr'
    · rw [St.res_cons] at hr
      split at hr
      · cases hr; cases hw
      · rw [St.res_cons] at hr
        split at hr
        · rename_i h3
          cases hr
          rw [hR.foot] at hx
          split at hr'
          · cases hr'
            rw [show x = b from hx'] at hx
            exact hne hx
          · rw [St.res_cons] at hr'
            split at hr'
            · cases hr'; exact hx'
            · rw [St.res_cons] at hr'
              split at hr'
              · rename_i h4; exact hm (h3.symm.trans h4)
              · cases hr'
        · cases hr
  frame := ⟨rfl, rfl, rfl, Nat.le_refl _, fun _ _ _ => rfl⟩
theorem calls_triL {P : Program} {f : FuncId} {fn : Func} {c : Code} {args : Array Value} {w : World} {Rt : Ending → World → Prop} {n b : Nat} {v : Value} (T : TypeId) (A : SA) {cells : Value → Array Value} {R : Res} {K : World → Value → Prop} (hf : P.funcs[f]? = some fn) (hb : fn.body = some c) (hn : fn.ntmps = n) (hargs : Nat.ble args.size n = true)
    (h0 : args[0]? = some (.pointer (some ⟨b, 0, none⟩))) (hB : Blk w b (cells v) T) (hA : ∀ e, A.den e = cells (e 1002).v) (hR : IsOwn R 1002 K) (hK : K w v) (hne : v.ownBlock ≠ some b)
    (h : Tri ⟨n, w, b :: v.ownBlock.toList⟩ P ⟨(0, .p 1000 0) :: idx 0 args.toList, [(1000, some (.blk 1000 T A)), (1001, some (.is 1000 b)), (1002, some R)]⟩ c (bodyPost P fn Rt)) : Calls P f args w Rt := by
  subst hn
  exact calls_of_wp hf hb (h _ _ _ (holds_startL (Nat.le_of_ble_eq_true hargs) h0 hA hB hR hK hne))
theorem fin_objL {u : Value} {V : SV} {w0 : World} {nt n b : Nat} {g : Option Nat} {T : TypeId} {A : SA} {cells : Value → Array Value} {R : Res} {K : World → Value → Prop} (hr : S.res 1000 = some (.blk 1000 T A)) (hi : S.res 1001 = some (.is 1000 b)) (hq : S.res n = some R) (hR : IsOwn R n K) (hn : Nat.beq n 1000 = false) (hA : ∀ e, A.den e = cells (e n).v) (h : ∀ e, V.den e = u) :
    ∀ e a w, Holds ⟨nt, w0, b :: g.toList⟩ S e a w → RetPL w0 b g T cells K u (.returned (V.den e)) w := fun e a w hS => by
  obtain ⟨fr, hb, hfr⟩ := res_blk hS hr
  have he : (e 1000).b = b := hS.res 1001 _ hi
  rw [hfr rfl, he, hA] at hb
  have hok := hS.res n _ hq
  rw [hR.ok] at hok
  refine ⟨by rw [h e], (e n).v, hb, hok, fun x hx => ?_, hS.frame.belowX⟩
  have hfx : R.foot e x := by rw [hR.foot]; exact hx
  have hxb : x ≠ b := fun hxb => hS.sep n 1000 _ _ hq hr (by intro h; subst h; simp at hn) hR.wr x hfx (by rw [hxb]; exact he.symm)
  refine ⟨?_, hxb⟩
  rcases hS.mine n _ hq hR.wr x hfx with h1 | h1
  · exact .inr h1
  · simp only [List.mem_cons, Option.mem_toList] at h1
    rcases h1 with h1 | h1
    · exact absurd h1 hxb
    · exact .inl h1
theorem fin_newL {w0 : World} {nt n q : Nat} {T : TypeId} {A : SA} {cells : Value → Array Value} {R : Res} {K : World → Value → Prop} (hr : S.res n = some (.blk n T A)) (hq : S.res q = some R) (hR : IsOwn R q K) (hn : Nat.beq q n = false) (hA : ∀ e, A.den e = cells (e q).v) :
    ∀ e a w, Holds ⟨nt, w0, []⟩ S e a w → RetNL w0 T cells K (.returned ((SV.p n 0).den e)) w := fun e a w hS => by
  obtain ⟨fr, hb, hfr⟩ := res_blk hS hr
  rw [hfr rfl, hA] at hb
  have hok := hS.res q _ hq
  rw [hR.ok] at hok
  have mine : ∀ m r, S.res m = some r → r.wr = true → ∀ x, r.foot e x → w0.heap.size ≤ x := fun m r hm hw x hx => by
    rcases hS.mine m r hm hw x hx with h | h
    · exact h
    · cases h
  refine ⟨(e n).b, (e q).v, rfl, mine n _ hr rfl _ rfl, hb, hok, fun x hx => ?_, hS.frame.below rfl⟩
  have hfx : R.foot e x := by rw [hR.foot]; exact hx
  exact ⟨mine q _ hq hR.wr x hfx, fun hxb => hS.sep q n _ _ hq hr (by intro h; subst h; simp at hn) hR.wr x hfx hxb⟩
/-! ### calls of such methods -/
def CallPL (C : Ctx) (S : St) (rb : List Nat) (n q T j : Nat) (vs : List SV) (cells : Value → Array Value) (K : World → Value → Prop) (u : Value) : Prop := ∀ (S' : St) e a w, Holds C S' e a w → (∀ x ∈ rb, S'.res x = S.res x) → Calls Try.prog j (vs.map (·.den e)).toArray w (RetPL w (e n).b (e q).v.ownBlock T cells K u)
theorem callPL_0 {n q T j : Nat} {vs : List SV} {A : SA} {R : Res} {cells0 cells : Value → Array Value} {K0 K : World → Value → Prop} {u : Value} (hr : S.res n = some (.blk n T A)) (hq : S.res q = some R) (hR : IsOwn R q K0) (hn : Nat.beq q n = false) (hA : ∀ e, A.den e = cells0 (e q).v)
    (h : ∀ (e : Env) w v, Blk w (e n).b (cells0 v) T → K0 w v → v.ownBlock ≠ some (e n).b → Calls Try.prog j (vs.map (·.den e)).toArray w (RetPL w (e n).b v.ownBlock T cells K u)) : CallPL C S [n, q] n q T j vs cells K u := fun S' e a w hS hx => by
  have hr' := (hx n (by simp)).trans hr
  have hq' := (hx q (by simp)).trans hq
  obtain ⟨fr, hb, hfr⟩ := res_blk hS hr'
  rw [hfr rfl, hA] at hb
  have hok := hS.res q _ hq'
  rw [hR.ok] at hok
  refine h e w (e q).v hb hok fun hxb => ?_
  exact hS.sep q n _ _ hq' hr' (by intro h; subst h; simp at hn) hR.wr (e n).b (by rw [hR.foot]; exact hxb) rfl
theorem op_callPL {f : FuncId} {xs : Array Operand} {ats : Array TypeId} {vs : List SV} {rb : List Nat} {j n q d T : Nat} {A A' : SA} {R R' : Res} {K0 K : World → Value → Prop} {cells : Value → Array Value} {u : Value} (ho : o.op = .call { callee := .value (.func f), args := xs, argTypes := ats }) (hg : o.guard = none) (hd : dstB o.dst C.nt = true) (hxs : EvS S xs.toList vs) (hc' : tabLook calT f = some j)
    (hr : S.res n = some (.blk n T A)) (hq : S.res q = some R) (hR : IsOwn R q K0) (hdn : (Nat.beq d n || Nat.beq d q) = false) (hA' : ∀ e, A'.den e = cells (e d).v) (hR' : IsOwn R' d K) (hcon : CallPL C S rb n q T j vs cells K u) :
    OpG C Try.prog ops o S ⟨xs.toList.flatMap opT, n :: q :: rb, dw o.dst (.c u), [(n, some (.blk n T A')), (d, some R'), (q, none)], [d]⟩ := by
  refine opG_mk hg fun S' h1 h2 h3 e a w hS => ?_
  unfold Oper.wp
  rw [call_hop ho hxs hc' h1 hS]
  refine Calls.mono (hcon S' e a w hS fun q hq => h2 q (List.mem_cons_of_mem _ (List.mem_cons_of_mem _ hq))) ?_
  rintro r w' ⟨rfl, v', hB, hK, hfo, hx⟩
  have hr' := (h2 n (by simp)).trans hr
  have hq' := (h2 q (by simp)).trans hq
  simp only [Bool.or_eq_false_iff] at hdn
  have hdn1 : n ≠ d := by intro h; subst h; simp at hdn
  have hdq1 : q ≠ d := by intro h; subst h; simp at hdn
  have hR1 : R'.foot (e.set d ⟨0, 0, v'⟩) = fun b => v'.ownBlock = some b := by funext b; rw [hR'.foot, Env.set_self]
  have hB1 : ∀ b, (Res.blk n T A').foot (e.set d ⟨0, 0, v'⟩) b → b = (e n).b := fun b hb => by
    have hb : b = ((e.set d ⟨0, 0, v'⟩) n).b := hb
    rw [Env.set_ne e _ hdn1] at hb
    exact hb
  have hH := hS.chg (w' := w') [(n, .blk n T A'), (d, R')] [n, q] (h3 d (by simp)) ⟨0, 0, v'⟩ hx.os hx.tape hx.output hx.size (fun k hk r hr'' => by
    rcases List.mem_cons.1 hk with rfl | hk
    · rw [hr'] at hr''; cases hr''; rfl
    · rcases List.mem_cons.1 hk with rfl | hk
      · rw [hq'] at hr''; cases hr''; exact hR.wr
      · cases hk) (fun b hb hnot => hx.block b hb fun hbm => by
    rcases List.mem_cons.1 hbm with h | h
    · exact hnot n (by simp) _ hr' h
    · refine hnot q (by simp) _ hq' ?_
      rw [hR.foot]
      simpa using h) (fun p hp => by
    rcases List.mem_cons.1 hp with rfl | hp
    · refine ⟨(0, 0), ?_, fun _ => rfl⟩
      rw [Env.set_ne e _ hdn1, hA', Env.set_self]
      exact hB
    · rcases List.mem_cons.1 hp with rfl | hp
      · show R'.ok _ _
        rw [hR'.ok, Env.set_self]; exact hK
      · cases hp) (fun p hp b hb => by
    rcases List.mem_cons.1 hp with rfl | hp
    · exact .inl ⟨n, by simp, _, hr', hB1 b hb⟩
    · rcases List.mem_cons.1 hp with rfl | hp
      · have hb : R'.foot (e.set d ⟨0, 0, v'⟩) b := hb
        rw [hR1] at hb
        rcases (hfo b hb).1 with h | h
        · exact .inl ⟨q, by simp, _, hq', by rw [hR.foot]; exact h⟩
        · exact .inr h
      · cases hp) (fun p hp p' hp' hne b hb hb' => by
    rcases List.mem_cons.1 hp with rfl | hp
    · rcases List.mem_cons.1 hp' with rfl | hp'
      · exact hne rfl
      · rcases List.mem_cons.1 hp' with rfl | hp'
        · have hb' : R'.foot (e.set d ⟨0, 0, v'⟩) b := hb'
          rw [hR1] at hb'
          exact (hfo b hb').2 (hB1 b hb)
        · cases hp'
    · rcases List.mem_cons.1 hp with rfl | hp
      · have hb : R'.foot (e.set d ⟨0, 0, v'⟩) b := hb
        rw [hR1] at hb
        rcases List.mem_cons.1 hp' with rfl | hp'
        · exact (hfo b hb).2 (hB1 b hb')
        · rcases List.mem_cons.1 hp' with rfl | hp'
          · exact hne rfl
          · cases hp'
      · cases hp)
  have hH2 : Holds C ⟨S'.t, (n, some (.blk n T A')) :: (d, some R') :: (q, none) :: S'.h⟩ (e.set d ⟨0, 0, v'⟩) a w' := by
    refine hH.like ⟨fun _ => rfl, fun k => ?_⟩
    show _ = (St.mk S'.t ((n, some (.blk n T A')) :: (d, some R') :: (n, none) :: (q, none) :: S'.h)).res k
    simp only [St.res_cons]
    split
    · rfl
    · split
      · rfl
      · rfl
  exact ⟨e.set d ⟨0, 0, v'⟩, hH2.put hd (.c u)⟩
end Go.Proofs.Ytcookaiakfbdiaa
