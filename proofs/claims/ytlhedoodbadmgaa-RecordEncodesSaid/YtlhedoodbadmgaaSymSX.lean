/- Objects with a slice of their own in them; slices that begin somewhere in a block of their own. No condition. Operations on slices that begin somewhere in a block of their own; slices stored into objects; calls that change objects which hold them. No condition. Rows of numbers appended to slices of rows, and read out of them. No condition. Shifts of whole numbers by nothing. No condition. Rows in slices: read out of closed ones, fields' addresses, appended, written. No condition. -/
import Derived.Test.YtlhedoodbadmgaaSymLR
import Derived.Laws.Cover3
namespace Go.Proofs.Ytlhedoodbadmgaa
open Go.RowKit
set_option maxRecDepth 100000
/-! ### a slice that lies in a block of its own, from some place on -/
def ownsSub (w : World) (T : TypeId) (v : Value) (n : Nat) (xs : List Value) : Prop :=
  xs.length = n ∧ ((v = .slice none 0 0 ∧ n = 0) ∨ ∃ g off cap cur, v = .slice (some ⟨g, off, none⟩) n cap ∧ w.heap[g]? = some (.cells cur T (0, 0)) ∧ n ≤ cap ∧ cap ≤ maxLen ∧ off + cap ≤ cur.size ∧ (cur.toList.drop off).take n = xs)
theorem ownsSub_nil (w : World) (T : TypeId) : ownsSub w T (.slice none 0 0) 0 [] := ⟨rfl, .inl ⟨rfl, rfl⟩⟩
theorem ownsSub.loc {w w' : World} {T : TypeId} {v : Value} {n : Nat} {xs : List Value} (h : ownsSub w T v n xs) (hb : ∀ b, v.ownBlock = some b → w'.heap[b]? = w.heap[b]?) : ownsSub w' T v n xs := by
  refine ⟨h.1, ?_⟩
  rcases h.2 with h2 | ⟨g, off, cap, cur, hv, hg, rest⟩
  · exact .inl h2
  · exact .inr ⟨g, off, cap, cur, hv, (hb g (by rw [hv]; rfl)).trans hg, rest⟩
theorem ownsSub.lt {w : World} {T : TypeId} {v : Value} {n : Nat} {xs : List Value} (h : ownsSub w T v n xs) {b : Nat} (hb : v.ownBlock = some b) : b < w.heap.size := by
  rcases h.2 with ⟨rfl, _⟩ | ⟨g, off, cap, cur, rfl, hg, rest⟩
  · cases hb
  · cases hb; exact (Array.getElem?_eq_some_iff.1 hg).1
theorem ownsSub_of {w : World} {T : TypeId} {v : Value} {n : Nat} {xs : List Value} (h : w.ownsRow 0 T 1 v n xs) : ownsSub w T v n xs := by
  refine ⟨by have := h.1; omega, ?_⟩
  rcases h.2 with h2 | ⟨g, cap, cur, hv, _, hg, hn, hm, hs, ht⟩
  · exact .inl h2
  · exact .inr ⟨g, 0, cap, cur, hv, hg, hn, hm, by omega, by rw [List.drop_zero]; rwa [Nat.mul_one] at ht⟩
theorem ownsSub.cut {w : World} {T : TypeId} {v : Value} {n lo : Nat} {xs : List Value} (h : ownsSub w T v n xs) (hlo : lo ≤ n) : ownsSub w T (cutV v lo (n - lo)) (n - lo) (xs.drop lo) := by
  refine ⟨by rw [List.length_drop, h.1], ?_⟩
  rcases h.2 with ⟨rfl, rfl⟩ | ⟨g, off, cap, cur, rfl, hg, hn, hm, hs, ht⟩
  · have : lo = 0 := by omega
    subst this
    exact .inl ⟨rfl, rfl⟩
  · right
    by_cases hc : cap = lo
    · refine ⟨g, off, cap - lo, cur, by simp [cutV, hc], hg, by omega, by omega, by omega, ?_⟩
      have h0 : n - lo = 0 := by omega
      have h1 : xs.drop lo = [] := List.drop_of_length_le (by rw [h.1]; omega)
      rw [h0, h1, List.take_zero]
    · refine ⟨g, off + lo, cap - lo, cur, by simp [cutV, hc, add_place], hg, by omega, by omega, by omega, ?_⟩
      rw [← ht, ← List.drop_drop, List.drop_take]
theorem ownsSub.own {w : World} {T : TypeId} {v : Value} {n : Nat} {xs : List Value} (h : ownsSub w T v n xs) : v.cells = #[v] ∧ v.oneCell' = true := by
  rcases h.2 with ⟨rfl, _⟩ | ⟨g, off, cap, cur, rfl, _⟩ <;> exact ⟨rfl, rfl⟩
theorem ownsSub.cell {w : World} {T : TypeId} {n : Nat} {xs : List Value} {g off cap : Nat} (h : ownsSub w T (.slice (some ⟨g, off, none⟩) n cap) n xs) (j : Nat) (u : Value) (hu : xs[j]? = some u) : w.cell? ⟨g, off + j, none⟩ = some u := by
  rcases h.2 with ⟨h2, _⟩ | ⟨g', off', cap', cur, hv, hg, hn, hm, hs, ht⟩
  · cases h2
  · cases hv
    rw [cell_of_row w g _ cur T (0, 0) hg, ← Array.getElem?_toList, ← List.getElem?_drop]
    have hj : j < n := by have := (List.getElem?_eq_some_iff.1 hu).1; rw [h.1] at this; exact this
    rw [← ht, List.getElem?_take, if_pos hj] at hu
    exact hu
def Res.osub (n : Nat) (T : TypeId) (len : Nat) (xs : List Value) : Res where
  foot e b := (e n).v.ownBlock = some b
  ok e w := ownsSub w T (e n).v len xs
  sup := [n]
  wr := true
  ind e e' h := by have h1 := h n (by simp); simp only [h1, and_self]
  loc e w w' h hok := hok.loc h
  lt e w b hok hf := hok.lt hf
/-! ### what stands for a slice of its own -/
structure IsOwn (R : Res) (n : Nat) (K : World → Value → Prop) : Prop where
  foot : ∀ e b, R.foot e b = ((e n).v.ownBlock = some b)
  ok : ∀ e w, R.ok e w = K w (e n).v
  sup : R.sup = [n]
  wr : R.wr = true
def ownK (T : TypeId) (size len : Nat) (xs : List Value) : World → Value → Prop := fun w v => w.ownsRow 0 T size v len xs
def subK (T : TypeId) (len : Nat) (xs : List Value) : World → Value → Prop := fun w v => ownsSub w T v len xs
theorem isOwn_own {n : Nat} {T : TypeId} {size len : Nat} {xs : List Value} : IsOwn (.own n T size len xs) n (ownK T size len xs) := ⟨fun _ _ => rfl, fun _ _ => rfl, rfl, rfl⟩
theorem isOwn_sub {n : Nat} {T : TypeId} {len : Nat} {xs : List Value} : IsOwn (.osub n T len xs) n (subK T len xs) := ⟨fun _ _ => rfl, fun _ _ => rfl, rfl, rfl⟩
variable {C : Ctx} {ops : Array Oper} {S : St} {o : Oper}
/-! ### some resources changed -/
theorem res_chg {t : List (Nat × SV)} {N : List (Nat × Res)} {K : List Nat} {h : List (Nat × Option Res)} {n : Nat} {r : Res} (hr : (St.mk t (N.map (fun p => (p.1, some p.2)) ++ (K.map (fun k => (k, none)) ++ h))).res n = some r) : (n, r) ∈ N ∨ (n ∉ K ∧ (St.mk t h).res n = some r) := by
  unfold St.res at hr ⊢
  rw [look_append, look_append] at hr
  cases h1 : look (N.map (fun p => (p.1, some p.2))) n with
  | some x =>
    rw [h1] at hr
    left
    have := look_some_mem h1
    obtain ⟨p, hp, he⟩ := List.mem_map.1 this
    cases he
    cases hr
    exact hp
  | none =>
    rw [h1] at hr
    right
    cases h2 : look (K.map (fun k => ((k, none) : Nat × Option Res))) n with
    | some x =>
      rw [h2] at hr
      have := look_some_mem h2
      obtain ⟨p, hp, he⟩ := List.mem_map.1 this
      cases he
      cases hr
    | none =>
      rw [h2] at hr
      refine ⟨fun hn => ?_, hr⟩
      obtain ⟨x, hx⟩ := look_isSome (l := K.map (fun k => ((k, none) : Nat × Option Res))) (i := n) (by simpa using hn)
      rw [hx] at h2; cases h2
theorem Holds.chg {e : Env} {a : Act} {w w' : World} (hS : Holds C S e a w) (N : List (Nat × Res)) (K : List Nat) {d : Nat} (hf : S.fresh d) (x : Ent)
    (hos : w'.os = w.os) (htape : w'.tape = w.tape) (hout : w'.output = w.output) (hsz : w.heap.size ≤ w'.heap.size)
    (hK : ∀ k ∈ K, ∀ r, S.res k = some r → r.wr = true)
    (hblk : ∀ b, b < w.heap.size → (∀ k ∈ K, ∀ r, S.res k = some r → ¬ r.foot e b) → w'.heap[b]? = w.heap[b]?)
    (hok : ∀ p ∈ N, p.2.ok (e.set d x) w')
    (hfoot : ∀ p ∈ N, ∀ b, p.2.foot (e.set d x) b → (∃ k ∈ K, ∃ r, S.res k = some r ∧ r.foot e b) ∨ w.heap.size ≤ b)
    (hsep : ∀ p ∈ N, ∀ q ∈ N, p.1 ≠ q.1 → ∀ b, p.2.foot (e.set d x) b → ¬ q.2.foot (e.set d x) b) :
    Holds C ⟨S.t, N.map (fun p => (p.1, some p.2)) ++ (K.map (fun k => (k, none)) ++ S.h)⟩ (e.set d x) a w' := by
  have h1 := hS.rename hf x
  have hind : ∀ k r, S.res k = some r → r.foot (e.set d x) = r.foot e ∧ r.ok (e.set d x) = r.ok e := fun k r h => r.ind e _ fun q hq => Env.set_ne e _ (fun he => hf.2 k r h (he ▸ hq))
  refine ⟨h1.defers, h1.size, h1.tmp, fun n r hn => ?_, fun n r hn hw b hb => ?_, fun n m r r' hn hm hne hw b hb hb' => ?_, ⟨hos.trans hS.frame.os, htape.trans hS.frame.tape, hout.trans hS.frame.output, Nat.le_trans hS.frame.size hsz, fun k hk hkm => ?_⟩⟩
  · rcases res_chg hn with h2 | ⟨h2, h3⟩
    · exact hok _ h2
    · rw [(hind n r h3).2]
      refine r.loc e w w' (fun b hb => hblk b (r.lt e w b (hS.res n r h3) hb) fun k hk rk hrk hfk => ?_) (hS.res n r h3)
      exact hS.sep k n rk r hrk h3 (fun he => h2 (he ▸ hk)) (hK k hk rk hrk) b hfk hb
  · rcases res_chg hn with h2 | ⟨h2, h3⟩
    · rcases hfoot _ h2 b hb with ⟨k, hk, rk, hrk, hfk⟩ | h4
      · exact hS.mine k rk hrk (hK k hk rk hrk) b hfk
      · exact .inl (Nat.le_trans hS.frame.size h4)
    · exact h1.mine n r h3 hw b hb
  · rcases res_chg hn with h2 | ⟨h2, h3⟩
    · rcases res_chg hm with g2 | ⟨g2, g3⟩
      · exact hsep _ h2 _ g2 hne b hb hb'
      · rw [(hind m r' g3).1] at hb'
        rcases hfoot _ h2 b hb with ⟨k, hk, rk, hrk, hfk⟩ | h4
        · exact hS.sep k m rk r' hrk g3 (fun he => g2 (he ▸ hk)) (hK k hk rk hrk) b hfk hb'
        · exact absurd (r'.lt e w b (hS.res m r' g3) hb') (by omega)
    · rcases res_chg hm with g2 | ⟨g2, g3⟩
      · rw [(hind n r h3).1] at hb
        rcases hfoot _ g2 b hb' with ⟨k, hk, rk, hrk, hfk⟩ | h4
        · exact hS.sep k n rk r hrk h3 (fun he => h2 (he ▸ hk)) (hK k hk rk hrk) b hfk hb
        · exact absurd (r.lt e w b (hS.res n r h3) hb) (by omega)
      · exact h1.sep n m r r' h3 g3 hne hw b hb hb'
  · refine (hblk k (Nat.lt_of_lt_of_le hk hS.frame.size) fun q hq r hr hfq => ?_).trans (hS.frame.block k hk hkm)
    rcases hS.mine q r hr (hK q hq r hr) k hfq with h | h
    · omega
    · exact hkm h
/-! ### the walk of a method of such an object -/
/-- Handed back: a value; the object's cells are these of some slice, of which this is known; nothing else that lay there is changed. -/
def RetPL (w : World) (b : Nat) (g : Option Nat) (T : TypeId) (cells : Value → Array Value) (K : World → Value → Prop) (u : Value) : Ending → World → Prop := fun r w' => r = .returned u ∧ ∃ v', Blk w' b (cells v') T ∧ K w' v' ∧ (∀ x, v'.ownBlock = some x → (g = some x ∨ w.heap.size ≤ x) ∧ x ≠ b) ∧ BelowX w w' (b :: g.toList)
/-- Handed back: a pointer to a new one. -/
def RetNL (w : World) (T : TypeId) (cells : Value → Array Value) (K : World → Value → Prop) : Ending → World → Prop := fun r w' => ∃ b v', r = .returned (.pointer (some ⟨b, 0, none⟩)) ∧ w.heap.size ≤ b ∧ Blk w' b (cells v') T ∧ K w' v' ∧ (∀ x, v'.ownBlock = some x → w.heap.size ≤ x ∧ x ≠ b) ∧ Below w.heap.size w w'
theorem holds_startL {n b : Nat} {v : Value} {args : Array Value} {w : World} {T : TypeId} {A : SA} {cells : Value → Array Value} {R : Res} {K : World → Value → Prop} (h : args.size ≤ n) (h0 : args[0]? = some (.pointer (some ⟨b, 0, none⟩))) (hA : ∀ e, A.den e = cells (e 1002).v) (hB : Blk w b (cells v) T) (hR : IsOwn R 1002 K) (hK : K w v) (hne : v.ownBlock ≠ some b) :
    Holds ⟨n, w, b :: v.ownBlock.toList⟩ ⟨(0, .p 1000 0) :: idx 0 args.toList, [(1000, some (.blk 1000 T A)), (1001, some (.is 1000 b)), (1002, some R)]⟩ (fun _ => ⟨b, 0, v⟩) { tmps := args ++ Array.replicate (n - args.size) undef, defers := [] } w where
  defers := rfl
  size := by simp; omega
  tmp i v hv := by
    have hv' : look ((0, SV.p 1000 0) :: idx 0 args.toList) i = some v := hv
    rw [look_cons] at hv'
    split at hv'
    · rename_i h2; subst h2; cases hv'
      have hi : 0 < args.size := (Array.getElem?_eq_some_iff.1 h0).1
      rw [Array.getElem?_append_left hi]
      exact h0
    · obtain ⟨u, h1, _, rfl⟩ := idx_look args.toList 0 i v hv'
      rw [Nat.sub_zero] at h1
      have hi : i < args.size := by have := (List.getElem?_eq_some_iff.1 h1).1; simpa using this
      rw [Array.getElem?_append_left hi]
      simpa [SV.c] using h1
  res k r hr := by
    rw [St.res_cons] at hr
    split at hr
    · cases hr; exact ⟨(0, 0), by rw [hA]; exact hB, fun _ => rfl⟩
    · rw [St.res_cons] at hr
      split at hr
      · cases hr; rfl
      · rw [St.res_cons] at hr
        split at hr
        · cases hr; rw [hR.ok]; exact hK
        · cases hr
  mine k r hr hw x hx := by
    rw [St.res_cons] at hr
    split at hr
    · cases hr; exact .inr (by rw [show x = b from hx]; simp)
    · rw [St.res_cons] at hr
      split at hr
      · cases hr; cases hw
      · rw [St.res_cons] at hr
        split at hr
        · cases hr
          rw [hR.foot] at hx
          exact .inr (by rw [show v.ownBlock = some x from hx]; simp)
        · cases hr
  sep k m r r' hr hr' hm hw x hx hx' := by
    rw [St.res_cons] at hr hr'
    split at hr
    · rename_i h1
      cases hr
      split at hr'
      · rename_i h2; exact hm (h1.symm.trans h2)
      · rw [St.res_cons] at hr'
        split at hr'
        · cases hr'; exact hx'
        · rw [St.res_cons] at hr'
          split at hr'
          · cases hr'
            rw [hR.foot] at hx'
            rw [show x = b from hx] at hx'
            exact hne hx'
          · cases hr'
    · rw [St.res_cons] at hr
      split at hr
      · cases hr; cases hw
      · rw [St.res_cons] at hr
        split at hr
        · rename_i h3
          cases hr
          rw [hR.foot] at hx
          split at hr'
          · cases hr'
            rw [show x = b from hx'] at hx
            exact hne hx
          · rw [St.res_cons] at hr'
            split at hr'
            · cases hr'; exact hx'
            · rw [St.res_cons] at hr'
              split at hr'
              · rename_i h4; exact hm (h3.symm.trans h4)
              · cases hr'
        · cases hr
  frame := ⟨rfl, rfl, rfl, Nat.le_refl _, fun _ _ _ => rfl⟩
theorem calls_triL {P : Program} {f : FuncId} {fn : Func} {c : Code} {args : Array Value} {w : World} {Rt : Ending → World → Prop} {n b : Nat} {v : Value} (T : TypeId) (A : SA) {cells : Value → Array Value} {R : Res} {K : World → Value → Prop} (hf : P.funcs[f]? = some fn) (hb : fn.body = some c) (hn : fn.ntmps = n) (hargs : Nat.ble args.size n = true)
    (h0 : args[0]? = some (.pointer (some ⟨b, 0, none⟩))) (hB : Blk w b (cells v) T) (hA : ∀ e, A.den e = cells (e 1002).v) (hR : IsOwn R 1002 K) (hK : K w v) (hne : v.ownBlock ≠ some b)
    (h : Tri ⟨n, w, b :: v.ownBlock.toList⟩ P ⟨(0, .p 1000 0) :: idx 0 args.toList, [(1000, some (.blk 1000 T A)), (1001, some (.is 1000 b)), (1002, some R)]⟩ c (bodyPost P fn Rt)) : Calls P f args w Rt := by
  subst hn
  exact calls_of_wp hf hb (h _ _ _ (holds_startL (Nat.le_of_ble_eq_true hargs) h0 hA hB hR hK hne))
theorem fin_objL {u : Value} {V : SV} {w0 : World} {nt n b : Nat} {g : Option Nat} {T : TypeId} {A : SA} {cells : Value → Array Value} {R : Res} {K : World → Value → Prop} (hr : S.res 1000 = some (.blk 1000 T A)) (hi : S.res 1001 = some (.is 1000 b)) (hq : S.res n = some R) (hR : IsOwn R n K) (hn : Nat.beq n 1000 = false) (hA : ∀ e, A.den e = cells (e n).v) (h : ∀ e, V.den e = u) :
    ∀ e a w, Holds ⟨nt, w0, b :: g.toList⟩ S e a w → RetPL w0 b g T cells K u (.returned (V.den e)) w := fun e a w hS => by
  obtain ⟨fr, hb, hfr⟩ := res_blk hS hr
  have he : (e 1000).b = b := hS.res 1001 _ hi
  rw [hfr rfl, he, hA] at hb
  have hok := hS.res n _ hq
  rw [hR.ok] at hok
  refine ⟨by rw [h e], (e n).v, hb, hok, fun x hx => ?_, hS.frame.belowX⟩
  have hfx : R.foot e x := by rw [hR.foot]; exact hx
  have hxb : x ≠ b := fun hxb => hS.sep n 1000 _ _ hq hr (by intro h; subst h; simp at hn) hR.wr x hfx (by rw [hxb]; exact he.symm)
  refine ⟨?_, hxb⟩
  rcases hS.mine n _ hq hR.wr x hfx with h1 | h1
  · exact .inr h1
  · simp only [List.mem_cons, Option.mem_toList] at h1
    rcases h1 with h1 | h1
    · exact absurd h1 hxb
    · exact .inl h1
theorem fin_newL {w0 : World} {nt n q : Nat} {T : TypeId} {A : SA} {cells : Value → Array Value} {R : Res} {K : World → Value → Prop} (hr : S.res n = some (.blk n T A)) (hq : S.res q = some R) (hR : IsOwn R q K) (hn : Nat.beq q n = false) (hA : ∀ e, A.den e = cells (e q).v) :
    ∀ e a w, Holds ⟨nt, w0, []⟩ S e a w → RetNL w0 T cells K (.returned ((SV.p n 0).den e)) w := fun e a w hS => by
  obtain ⟨fr, hb, hfr⟩ := res_blk hS hr
  rw [hfr rfl, hA] at hb
  have hok := hS.res q _ hq
  rw [hR.ok] at hok
  have mine : ∀ m r, S.res m = some r → r.wr = true → ∀ x, r.foot e x → w0.heap.size ≤ x := fun m r hm hw x hx => by
    rcases hS.mine m r hm hw x hx with h | h
    · exact h
    · cases h
  refine ⟨(e n).b, (e q).v, rfl, mine n _ hr rfl _ rfl, hb, hok, fun x hx => ?_, hS.frame.below rfl⟩
  have hfx : R.foot e x := by rw [hR.foot]; exact hx
  exact ⟨mine q _ hq hR.wr x hfx, fun hxb => hS.sep q n _ _ hq hr (by intro h; subst h; simp at hn) hR.wr x hfx hxb⟩
/-- One that holds no slice yet. -/
theorem fin_newL0 {w0 : World} {nt n : Nat} {T : TypeId} {A : SA} {cells : Value → Array Value} {K : World → Value → Prop} (hr : S.res n = some (.blk n T A)) (hK : ∀ w, K w (.slice none 0 0)) (hA : ∀ e, A.den e = cells (.slice none 0 0)) :
    ∀ e a w, Holds ⟨nt, w0, []⟩ S e a w → RetNL w0 T cells K (.returned ((SV.p n 0).den e)) w := fun e a w hS => by
  obtain ⟨fr, hb, hfr⟩ := res_blk hS hr
  rw [hfr rfl, hA] at hb
  refine ⟨(e n).b, .slice none 0 0, rfl, ?_, hb, hK w, (fun x hx => by cases hx), hS.frame.below rfl⟩
  rcases hS.mine n _ hr rfl _ rfl with h | h
  · exact h
  · cases h
/-! ### calls of such methods -/
def CallPL (C : Ctx) (S : St) (rb : List Nat) (n q T j : Nat) (vs : List SV) (cells : Value → Array Value) (K : World → Value → Prop) (u : Value) : Prop := ∀ (S' : St) e a w, Holds C S' e a w → (∀ x ∈ rb, S'.res x = S.res x) → Calls Try.prog j (vs.map (·.den e)).toArray w (RetPL w (e n).b (e q).v.ownBlock T cells K u)
def CallNL (C : Ctx) (S : St) (rb : List Nat) (T j : Nat) (vs : List SV) (cells : Value → Array Value) (K : World → Value → Prop) : Prop := ∀ (S' : St) e a w, Holds C S' e a w → (∀ q ∈ rb, S'.res q = S.res q) → Calls Try.prog j (vs.map (·.den e)).toArray w (RetNL w T cells K)
theorem callPL_0 {n q T j : Nat} {vs : List SV} {A : SA} {R : Res} {cells0 cells : Value → Array Value} {K0 K : World → Value → Prop} {u : Value} (hr : S.res n = some (.blk n T A)) (hq : S.res q = some R) (hR : IsOwn R q K0) (hn : Nat.beq q n = false) (hA : ∀ e, A.den e = cells0 (e q).v)
    (h : ∀ (e : Env) w v, Blk w (e n).b (cells0 v) T → K0 w v → v.ownBlock ≠ some (e n).b → Calls Try.prog j (vs.map (·.den e)).toArray w (RetPL w (e n).b v.ownBlock T cells K u)) : CallPL C S [n, q] n q T j vs cells K u := fun S' e a w hS hx => by
  have hr' := (hx n (by simp)).trans hr
  have hq' := (hx q (by simp)).trans hq
  obtain ⟨fr, hb, hfr⟩ := res_blk hS hr'
  rw [hfr rfl, hA] at hb
  have hok := hS.res q _ hq'
  rw [hR.ok] at hok
  refine h e w (e q).v hb hok fun hxb => ?_
  exact hS.sep q n _ _ hq' hr' (by intro h; subst h; simp at hn) hR.wr (e n).b (by rw [hR.foot]; exact hxb) rfl
theorem callNL_0 {T j : Nat} {vs : List SV} {cells : Value → Array Value} {K : World → Value → Prop} (h : ∀ (e : Env) w, Calls Try.prog j (vs.map (·.den e)).toArray w (RetNL w T cells K)) : CallNL C S [] T j vs cells K := fun _ e _ w _ _ => h e w
theorem Holds.loseL {e : Env} {a : Act} {w w' : World} (hS : Holds C S e a w) {n q : Nat} {T : TypeId} {A : SA} {R : Res} {K : World → Value → Prop} (hr : S.res n = some (.blk n T A)) (hq : S.res q = some R) (hR : IsOwn R q K) (hx : BelowX w w' ((e n).b :: (e q).v.ownBlock.toList)) : ∃ d x, S.fresh d ∧ Holds C ⟨S.t, (n, none) :: (q, none) :: S.h⟩ (e.set d x) a w' ∧ e.set d x = e := by
  obtain ⟨d, hd⟩ : ∃ d, S.fresh d := by
    obtain ⟨d, _, h2⟩ := above 0 (S.t.flatMap (fun p => p.2.sup) ++ S.h.flatMap (fun p => match p.2 with | some r => r.sup | none => []))
    refine ⟨d, fun i v hv hdv => ?_, fun m r hm hdr => ?_⟩
    · exact absurd (h2 d (List.mem_append_left _ (List.mem_flatMap.2 ⟨_, look_some_mem hv, hdv⟩))) (by omega)
    · unfold St.res at hm
      cases hl : look S.h m with
      | none => rw [hl] at hm; cases hm
      | some x =>
        rw [hl] at hm
        cases hm
        exact absurd (h2 d (List.mem_append_right _ (List.mem_flatMap.2 ⟨_, look_some_mem hl, hdr⟩))) (by omega)
  have hself : e.set d (e d) = e := by
    funext m
    unfold Env.set
    split
    · rename_i h; rw [h]
    · rfl
  refine ⟨d, e d, hd, ?_, hself⟩
  have := hS.chg (w' := w') [] [n, q] hd (e d) hx.os hx.tape hx.output hx.size (fun k hk r hr' => by
    rcases List.mem_cons.1 hk with rfl | hk
    · rw [hr] at hr'; cases hr'; rfl
    · rcases List.mem_cons.1 hk with rfl | hk
      · rw [hq] at hr'; cases hr'; exact hR.wr
      · cases hk) (fun b hb hnot => hx.block b hb fun hbm => by
    rcases List.mem_cons.1 hbm with h | h
    · exact hnot n (by simp) _ hr h
    · refine hnot q (by simp) _ hq ?_
      rw [hR.foot]
      simpa using h) (fun p hp => by cases hp) (fun p hp => by cases hp) (fun p hp => by cases hp)
  exact this
theorem callPL_s {n q T j : Nat} {vs : List SV} {A : SA} {R : Res} {cells0 cells : Value → Array Value} {K0 K : World → Value → Prop} {u : Value} {ns : List Nat} {v1 : SV} {ds : List (List (BitVec 8))} (hr : S.res n = some (.blk n T A)) (hq : S.res q = some R) (hR : IsOwn R q K0) (hn : Nat.beq q n = false) (hA : ∀ e, A.den e = cells0 (e q).v) (h1 : SlcQ C S ns v1 ds) (hns : (ns.any fun y => Nat.beq n y || Nat.beq q y) = false)
    (h : ∀ (e : Env) w v, Blk w (e n).b (cells0 v) T → K0 w v → v.ownBlock ≠ some (e n).b → SlcX w ((e n).b :: v.ownBlock.toList) (v1.den e) ds → Calls Try.prog j (vs.map (·.den e)).toArray w (RetPL w (e n).b v.ownBlock T cells K u)) : CallPL C S (n :: q :: ns) n q T j vs cells K u := fun S' e a w hS hx => by
  have hr' := (hx n (by simp)).trans hr
  have hq' := (hx q (by simp)).trans hq
  obtain ⟨fr, hb, hfr⟩ := res_blk hS hr'
  rw [hfr rfl, hA] at hb
  have hok := hS.res q _ hq'
  rw [hR.ok] at hok
  have hnm : ∀ x ∈ ns, n ≠ x ∧ q ≠ x := fun x hx => by
    have := List.any_eq_false.1 hns x hx
    simp at this
    exact ⟨this.1, this.2⟩
  refine h e w (e q).v hb hok (fun hxb => ?_) ?_
  · exact hS.sep q n _ _ hq' hr' (by intro h; subst h; simp at hn) hR.wr (e n).b (by rw [hR.foot]; exact hxb) rfl
  · have key : ∀ w', BelowX w w' ((e n).b :: (e q).v.ownBlock.toList) → ∃ S'' : St, Holds C S'' e a w' ∧ ∀ x ∈ ns, S''.res x = S.res x := fun w' hw => by
      obtain ⟨d, x, _, h2, h3⟩ := hS.loseL hr' hq' hR hw
      rw [h3] at h2
      refine ⟨_, h2, fun x hx' => ?_⟩
      rw [St.res_cons, if_neg (hnm x hx').1, St.res_cons, if_neg (hnm x hx').2]
      exact hx x (List.mem_cons_of_mem _ (List.mem_cons_of_mem _ hx'))
    obtain ⟨ps, g1, g2⟩ := h1 e
    refine ⟨ps, fun w' hw => ?_, fun i d hd => ?_⟩
    · obtain ⟨S'', k1, k2⟩ := key w' hw
      exact g1 S'' a w' k2 k1
    · obtain ⟨p, h3, h4⟩ := g2 i d hd
      exact ⟨p, h3, fun w' hw => by
        obtain ⟨S'', k1, k2⟩ := key w' hw
        exact h4 S'' a w' k2 k1⟩
theorem op_callPL {f : FuncId} {xs : Array Operand} {ats : Array TypeId} {vs : List SV} {rb : List Nat} {j n q d T : Nat} {A A' : SA} {R R' : Res} {K0 K : World → Value → Prop} {cells : Value → Array Value} {u : Value} (ho : o.op = .call { callee := .value (.func f), args := xs, argTypes := ats }) (hg : o.guard = none) (hd : dstB o.dst C.nt = true) (hxs : EvS S xs.toList vs) (hc' : tabLook calT f = some j)
    (hr : S.res n = some (.blk n T A)) (hq : S.res q = some R) (hR : IsOwn R q K0) (hdn : (Nat.beq d n || Nat.beq d q) = false) (hA' : ∀ e, A'.den e = cells (e d).v) (hR' : IsOwn R' d K) (hcon : CallPL C S rb n q T j vs cells K u) :
    OpG C Try.prog ops o S ⟨xs.toList.flatMap opT, n :: q :: rb, dw o.dst (.c u), [(n, some (.blk n T A')), (d, some R'), (q, none)], [d]⟩ := by
  refine opG_mk hg fun S' h1 h2 h3 e a w hS => ?_
  unfold Oper.wp
  rw [call_hop ho hxs hc' h1 hS]
  refine Calls.mono (hcon S' e a w hS fun q hq => h2 q (List.mem_cons_of_mem _ (List.mem_cons_of_mem _ hq))) ?_
  rintro r w' ⟨rfl, v', hB, hK, hfo, hx⟩
  have hr' := (h2 n (by simp)).trans hr
  have hq' := (h2 q (by simp)).trans hq
  simp only [Bool.or_eq_false_iff] at hdn
  have hdn1 : n ≠ d := by intro h; subst h; simp at hdn
  have hdq1 : q ≠ d := by intro h; subst h; simp at hdn
  have hR1 : R'.foot (e.set d ⟨0, 0, v'⟩) = fun b => v'.ownBlock = some b := by funext b; rw [hR'.foot, Env.set_self]
  have hB1 : ∀ b, (Res.blk n T A').foot (e.set d ⟨0, 0, v'⟩) b → b = (e n).b := fun b hb => by
    have hb : b = ((e.set d ⟨0, 0, v'⟩) n).b := hb
    rw [Env.set_ne e _ hdn1] at hb
    exact hb
  have hH := hS.chg (w' := w') [(n, .blk n T A'), (d, R')] [n, q] (h3 d (by simp)) ⟨0, 0, v'⟩ hx.os hx.tape hx.output hx.size (fun k hk r hr'' => by
    rcases List.mem_cons.1 hk with rfl | hk
    · rw [hr'] at hr''; cases hr''; rfl
    · rcases List.mem_cons.1 hk with rfl | hk
      · rw [hq'] at hr''; cases hr''; exact hR.wr
      · cases hk) (fun b hb hnot => hx.block b hb fun hbm => by
    rcases List.mem_cons.1 hbm with h | h
    · exact hnot n (by simp) _ hr' h
    · refine hnot q (by simp) _ hq' ?_
      rw [hR.foot]
      simpa using h) (fun p hp => by
    rcases List.mem_cons.1 hp with rfl | hp
    · refine ⟨(0, 0), ?_, fun _ => rfl⟩
      rw [Env.set_ne e _ hdn1, hA', Env.set_self]
      exact hB
    · rcases List.mem_cons.1 hp with rfl | hp
      · show R'.ok _ _
        rw [hR'.ok, Env.set_self]; exact hK
      · cases hp) (fun p hp b hb => by
    rcases List.mem_cons.1 hp with rfl | hp
    · exact .inl ⟨n, by simp, _, hr', hB1 b hb⟩
    · rcases List.mem_cons.1 hp with rfl | hp
      · have hb : R'.foot (e.set d ⟨0, 0, v'⟩) b := hb
        rw [hR1] at hb
        rcases (hfo b hb).1 with h | h
        · exact .inl ⟨q, by simp, _, hq', by rw [hR.foot]; exact h⟩
        · exact .inr h
      · cases hp) (fun p hp p' hp' hne b hb hb' => by
    rcases List.mem_cons.1 hp with rfl | hp
    · rcases List.mem_cons.1 hp' with rfl | hp'
      · exact hne rfl
      · rcases List.mem_cons.1 hp' with rfl | hp'
        · have hb' : R'.foot (e.set d ⟨0, 0, v'⟩) b := hb'
          rw [hR1] at hb'
          exact (hfo b hb').2 (hB1 b hb)
        · cases hp'
    · rcases List.mem_cons.1 hp with rfl | hp
      · have hb : R'.foot (e.set d ⟨0, 0, v'⟩) b := hb
        rw [hR1] at hb
        rcases List.mem_cons.1 hp' with rfl | hp'
        · exact (hfo b hb).2 (hB1 b hb')
        · rcases List.mem_cons.1 hp' with rfl | hp'
          · exact hne rfl
          · cases hp'
      · cases hp)
  have hH2 : Holds C ⟨S'.t, (n, some (.blk n T A')) :: (d, some R') :: (q, none) :: S'.h⟩ (e.set d ⟨0, 0, v'⟩) a w' := by
    refine hH.like ⟨fun _ => rfl, fun k => ?_⟩
    show _ = (St.mk S'.t ((n, some (.blk n T A')) :: (d, some R') :: (n, none) :: (q, none) :: S'.h)).res k
    simp only [St.res_cons]
    split
    · rfl
    · split
      · rfl
      · rfl
  exact ⟨e.set d ⟨0, 0, v'⟩, hH2.put hd (.c u)⟩
theorem op_callNL {f : FuncId} {xs : Array Operand} {ats : Array TypeId} {vs : List SV} {rb : List Nat} {j n q T : Nat} {A' : SA} {R' : Res} {K : World → Value → Prop} {cells : Value → Array Value} (ho : o.op = .call { callee := .value (.func f), args := xs, argTypes := ats }) (hdn : o.dst = some n) (hg : o.guard = none) (hd : dstB o.dst C.nt = true) (hxs : EvS S xs.toList vs) (hc' : tabLook calT f = some j)
    (hqn : Nat.beq n q = false) (hA' : ∀ e, A'.den e = cells (e q).v) (hAs : subB A'.sup [q] = true) (hR' : IsOwn R' q K) (hcon : CallNL C S rb T j vs cells K) :
    OpG C Try.prog ops o S ⟨xs.toList.flatMap opT, rb, [(n, .p n 0)], [(n, some (.blk n T A')), (q, some R')], [n, q]⟩ := by
  refine opG_mk hg fun S' h1 h2 h3 e a w hS => ?_
  unfold Oper.wp
  rw [call_hop ho hxs hc' h1 hS]
  refine Calls.mono (hcon S' e a w hS h2) ?_
  rintro r w' ⟨b, v', rfl, hsz, hB, hK, hfo, hb⟩
  have hne : n ≠ q := by intro h; subst h; simp at hqn
  have hA2 : ∀ e0 x, A'.den (Env.set e0 n x) = A'.den e0 := fun e0 x => A'.ind e0 _ fun m hm => Env.set_ne e0 _ (fun he => by
    have := subB_spec hAs m hm
    rw [he] at this
    simp at this
    exact hne this)
  have hfr1 := h3 n (by simp)
  have hfr2 := h3 q (by simp)
  -- the slice first, then the object's block
  have hS1 := (hS.world hb).rename hfr1 ⟨b, 0, undef⟩
  have hold : ∀ m r, S'.res m = some r → ∀ k, r.foot (e.set n ⟨b, 0, undef⟩) k → k < w.heap.size := fun m r hr k hk => by
    have h4 := r.ind e (e.set n ⟨b, 0, undef⟩) fun x hx => Env.set_ne e _ (fun he => hfr1.2 m r hr (he ▸ hx))
    rw [h4.1] at hk
    exact r.lt e w k (hS.res m r hr) hk
  have hS2 := hS1.rename hfr2 ⟨0, 0, v'⟩
  have hold2 : ∀ m r, S'.res m = some r → ∀ k, r.foot ((e.set n ⟨b, 0, undef⟩).set q ⟨0, 0, v'⟩) k → k < w.heap.size := fun m r hr k hk => by
    have h4 := r.ind (e.set n ⟨b, 0, undef⟩) ((e.set n ⟨b, 0, undef⟩).set q ⟨0, 0, v'⟩) fun x hx => Env.set_ne _ _ (fun he => hfr2.2 m r hr (he ▸ hx))
    rw [h4.1] at hk
    exact hold m r hr k hk
  have hen : (((e.set n ⟨b, 0, undef⟩).set q ⟨0, 0, v'⟩) n) = ⟨b, 0, undef⟩ := by rw [Env.set_ne _ _ hne, Env.set_self]
  have hRf : ∀ k, R'.foot ((e.set n ⟨b, 0, undef⟩).set q ⟨0, 0, v'⟩) k → v'.ownBlock = some k := fun k hk => by rw [hR'.foot, Env.set_self] at hk; exact hk
  have hBf : ∀ k, (Res.blk n T A').foot ((e.set n ⟨b, 0, undef⟩).set q ⟨0, 0, v'⟩) k → k = b := fun k hk => by
    have hk : k = (((e.set n ⟨b, 0, undef⟩).set q ⟨0, 0, v'⟩) n).b := hk
    rw [hen] at hk; exact hk
  have hres : ∀ k r, (St.mk S'.t ((n, some (.blk n T A')) :: (q, some R') :: S'.h)).res k = some r → (k = n ∧ r = .blk n T A') ∨ (k = q ∧ r = R') ∨ S'.res k = some r := fun k r hk => by
    rw [St.res_cons] at hk
    split at hk
    · rename_i h; cases hk; exact .inl ⟨h.symm, rfl⟩
    · rw [St.res_cons] at hk
      split at hk
      · rename_i h; cases hk; exact .inr (.inl ⟨h.symm, rfl⟩)
      · exact .inr (.inr hk)
  have hH : Holds C ⟨S'.t, (n, some (.blk n T A')) :: (q, some R') :: S'.h⟩ ((e.set n ⟨b, 0, undef⟩).set q ⟨0, 0, v'⟩) a w' := by
    refine ⟨hS2.defers, hS2.size, hS2.tmp, fun k r hk => ?_, fun k r hk hw x hx => ?_, fun k m r r' hk hm hkm hw x hx hx' => ?_, hS2.frame⟩
    · rcases hres k r hk with ⟨rfl, rfl⟩ | ⟨rfl, rfl⟩ | h
      · refine ⟨(0, 0), ?_, fun _ => rfl⟩
        rw [hen, hA', Env.set_self]
        exact hB
      · rw [hR'.ok, Env.set_self]; exact hK
      · exact hS2.res k r h
    · rcases hres k r hk with ⟨rfl, rfl⟩ | ⟨rfl, rfl⟩ | h
      · exact .inl (by rw [hBf x hx]; exact Nat.le_trans hS.frame.size hsz)
      · exact .inl (Nat.le_trans hS.frame.size (hfo x (hRf x hx)).1)
      · exact hS2.mine k r h hw x hx
    · rcases hres k r hk with ⟨rfl, rfl⟩ | ⟨rfl, rfl⟩ | h
      · rcases hres m r' hm with ⟨rfl, rfl⟩ | ⟨rfl, rfl⟩ | h'
        · exact hkm rfl
        · exact (hfo x (hRf x hx')).2 (hBf x hx)
        · have := hold2 m r' h' x hx'
          rw [hBf x hx] at this
          omega
      · rcases hres m r' hm with ⟨rfl, rfl⟩ | ⟨rfl, rfl⟩ | h'
        · exact (hfo x (hRf x hx)).2 (hBf x hx')
        · exact hkm rfl
        · have := hold2 m r' h' x hx'
          have := (hfo x (hRf x hx)).1
          omega
      · rcases hres m r' hm with ⟨rfl, rfl⟩ | ⟨rfl, rfl⟩ | h'
        · have := hold2 k r h x hx
          rw [hBf x hx'] at this
          omega
        · have := hold2 k r h x hx
          have := (hfo x (hRf x hx')).1
          omega
        · exact hS2.sep k m r r' h h' hkm hw x hx hx'
  have hfin := hH.put hd (.p n 0)
  rw [show (SV.p n 0).den ((e.set n ⟨b, 0, undef⟩).set q ⟨0, 0, v'⟩) = .pointer (some ⟨b, 0, none⟩) by simp only [SV.p, hen]] at hfin
  rw [hdn] at hfin ⊢
  exact ⟨_, hfin⟩
end Go.Proofs.Ytlhedoodbadmgaa
namespace Go.Proofs.Ytlhedoodbadmgaa
open Go.RowKit
set_option maxRecDepth 100000
variable {C : Ctx} {ops : Array Oper} {S : St} {o : Oper}
/-! ### read -/
theorem rdn_osub {n : Nat} {T : TypeId} {len : Nat} {xs : List Value} (hr : S.res n = some (.osub n T len xs)) : RdN C S [n] 1 (.v n) len xs := by
  intro S' e a w h hS
  have hok : ownsSub w T (e n).v len xs := hS.res n _ ((h n (by simp)).trans hr)
  refine ⟨by rw [hok.1, Nat.mul_one], ?_⟩
  show ∃ a c, (e n).v = .slice a len c ∧ _
  rcases hok.2 with ⟨h1, h2⟩ | ⟨g, off, cap, cur, h1, _⟩
  · rw [h1, h2]; exact ⟨_, _, rfl, .inl rfl⟩
  · rw [h1] at hok ⊢
    exact ⟨_, _, rfl, .inr ⟨g, off, rfl, fun j u hu => hok.cell j u hu⟩⟩
theorem fs_osub {w : World} {T : TypeId} {v : Value} {len : Nat} {xs : List Value} (hok : ownsSub w T v len xs) : FS w 1 v len xs := by
  rcases hok.2 with ⟨h1, h2⟩ | ⟨g, off, cap, cur, h1, _, hn, _⟩
  · have hx := hok.1
    rw [h1]
    exact ⟨⟨by rw [hx, Nat.mul_one], none, 0, by rw [h2], .inl h2⟩, none, 0, by rw [h2], by omega⟩
  · rw [h1] at hok ⊢
    exact ⟨⟨by rw [hok.1, Nat.mul_one], _, _, rfl, .inr ⟨g, off, rfl, fun j u hu => hok.cell j u hu⟩⟩, _, _, rfl, hn⟩
theorem fsq_osub {n : Nat} {T k : Nat} {d : List (BitVec 8)} (hr : S.res n = some (.osub n T k (valsL .u8 d))) : FSQ C S [n] (.v n) d := fun S' e a w hq hS => by
  have hok : ownsSub w T (e n).v k (valsL .u8 d) := hS.res n _ ((hq n (by simp)).trans hr)
  have hk : k = d.length := by have := hok.1; rw [valsL_length] at this; omega
  subst hk; exact fs_osub hok
theorem fsq_subU {n : Nat} {T k lo cnt : Nat} {d : List (BitVec 8)} (hr : S.res n = some (.osub n T k (valsL .u8 d))) (h : lo + cnt ≤ k) {d' : List (BitVec 8)} (hd' : (d.drop lo).take cnt = d') : FSQ C S [n] (.sub n lo cnt) d' := fun S' e a w hq hS => by
  have hok : ownsSub w T (e n).v k (valsL .u8 d) := hS.res n _ ((hq n (by simp)).trans hr)
  have hk : k = d.length := by have := hok.1; rw [valsL_length] at this; omega
  have := (fs_osub hok).cutB (lo := lo) (len := cnt) h
  have hl : d'.length = cnt := by rw [← hd', List.length_take, List.length_drop]; omega
  rw [hd'] at this
  rw [hl]
  exact this
theorem op_lenU {dst : Option Tmp} {x : Operand} {t T ty : TypeId} {pos : String} {after : Array Edge} {n len : Nat} {T0 : TypeId} {xs : List Value} (hd : dstB dst C.nt = true) (hx : S.ev x = some (.v n)) (hr : S.res n = some (.osub n T0 len xs)) (hu' : tabLook undT t = some (.slice T)) : OpG C Try.prog ops ⟨dst, .call { callee := .builtin .len, args := #[x], argTypes := #[t] }, ty, pos, after, none⟩ S ⟨opT x, [n], dw dst (.c (.int .i64 ((len : Nat) : Int))), [], []⟩ :=
  op_lenR hd hx hu' (rdn_osub hr)
/-! ### cut -/
theorem ownsSub.cut_den {w : World} {T : TypeId} {v : Value} {n : Nat} {xs : List Value} (h : ownsSub w T v n xs) : ∃ ad cap, v = .slice ad n cap ∧ n ≤ cap := by
  rcases h.2 with ⟨rfl, rfl⟩ | ⟨g, off, cap, cur, rfl, _, hn, _⟩
  · exact ⟨_, _, rfl, Nat.le_refl _⟩
  · exact ⟨_, _, rfl, hn⟩
theorem op_cutUS {x : Operand} {t T : TypeId} {n lo hi len : Nat} {T0 : TypeId} {xs : List Value} {ol oh : Option Operand} (ho : o.op = .slice t x ol oh none) (hg : o.guard = none) (hd : dstB o.dst C.nt = true) (hx : S.ev x = some (.v n)) (hr : S.res n = some (.osub n T0 len xs)) (hu' : tabLook undT t = some (.slice T)) (hs' : tabLook sizT T = some 1) (hl : EvO S ol 0 lo) (hh : EvO S oh len hi) (h1 : lo ≤ hi) (h2 : hi ≤ len) :
    OpG C Try.prog ops o S ⟨opT x ++ (opO ol ++ opO oh), [n], dw o.dst (.sub n lo (hi - lo)), [], []⟩ :=
  op_cut ho hg hd hx hu' hs' hl hh h1 (fun S' e a w hq hS => by
    have hok : ownsSub w T0 (e n).v len xs := hS.res n _ ((hq n (by simp)).trans hr)
    obtain ⟨ad, cap, hv, hc⟩ := hok.cut_den
    refine ⟨ad, cap, hv, by omega, ?_⟩
    show cutV (e n).v lo (hi - lo) = _
    rw [hv, Nat.mul_one]
    rfl) rfl
theorem op_cutU {x : Operand} {t T m n lo len : Nat} {T0 : TypeId} {k : IntKind} {q : Nat} {l : List (BitVec q)} {ol : Option Operand} (ho : o.op = .slice t x ol none none) (hdn : o.dst = some n) (hg : o.guard = none) (hd : dstB o.dst C.nt = true) (hx : S.ev x = some (.v m)) (hr : S.res m = some (.osub m T0 len (valsL k l))) (hu' : tabLook undT t = some (.slice T)) (hs' : tabLook sizT T = some 1) (hl : EvO S ol 0 lo := by first | exact evO_none | exact evO_some (by first | exact evK_const rfl | exact evK_tmp rfl)) (h1 : lo ≤ len := by first | omega | decide) (hmn : Nat.beq m n = false := by exact rfl) :
    OpG C Try.prog ops o S ⟨opT x ++ opO ol, [m], [(n, .v n)], [(m, none), (n, some (.osub n T0 (len - lo) (valsL k (l.drop lo))))], [n]⟩ := by
  refine opG_mk hg fun S' h1' h2' h3' e a w hS => ?_
  have hr' := (h2' m (by simp)).trans hr
  have hok : ownsSub w T0 (e m).v len (valsL k l) := hS.res m _ hr'
  obtain ⟨ad, cap, hv, hc⟩ := hok.cut_den
  have hevx : a.eval x = .slice ad len cap := (hS.ev ((ev_like h1' fun _ h => List.mem_append_left _ h).trans hx)).trans hv
  have e1 := evO_run (a := a) hS hl (fun i hi => h1' i (List.mem_append_right _ hi))
  have e1' : ∃ k1, (ol.map a.eval = none ∧ lo = 0) ∨ ol.map a.eval = some (.int k1 ((lo : Nat) : Int)) := by
    rcases e1 with h | ⟨k, h⟩
    · exact ⟨.i64, .inl h⟩
    · exact ⟨k, .inr h⟩
  obtain ⟨k1, e1'⟩ := e1'
  have hrun := run_cut (a := ad) (k2 := .i64) (oh := none) hu' hs' h1 hc e1' (.inl ⟨rfl, rfl⟩) w
  have hcut := hok.cut h1
  have hne : m ≠ n := fun h => by subst h; simp at hmn
  have hval : cutV (e m).v lo (len - lo) = .slice (if cap = lo then ad else ad.map (·.add lo)) (len - lo) (cap - lo) := by rw [hv]; rfl
  have hH := hS.chg (w' := w) [(n, .osub n T0 (len - lo) ((valsL k l).drop lo))] [m] (h3' n (by simp)) ⟨0, 0, cutV (e m).v lo (len - lo)⟩ rfl rfl rfl (Nat.le_refl _)
    (fun k hk r hr2 => by
      rcases List.mem_cons.1 hk with rfl | hk
      · rw [hr'] at hr2; cases hr2; rfl
      · cases hk) (fun _ _ _ => rfl)
    (fun p hp => by
      rcases List.mem_cons.1 hp with rfl | hp
      · show ownsSub w T0 ((e.set n _) n).v _ _
        rw [Env.set_self]; exact hcut
      · cases hp)
    (fun p hp b hb => by
      rcases List.mem_cons.1 hp with rfl | hp
      · have hb : ((e.set n ⟨0, 0, cutV (e m).v lo (len - lo)⟩) n).v.ownBlock = some b := hb
        rw [Env.set_self] at hb
        refine .inl ⟨m, by simp, _, hr', ?_⟩
        show (e m).v.ownBlock = some b
        rw [← hb, hval, hv]
        split
        · cases ad <;> rfl
        · cases ad with
          | none => rfl
          | some ad => exact congrArg some (by unfold Addr.add; split <;> rfl)
      · cases hp)
    (fun p hp p' hp' hne' b hb hb' => by
      rcases List.mem_cons.1 hp with rfl | hp
      · rcases List.mem_cons.1 hp' with rfl | hp'
        · exact hne' rfl
        · cases hp'
      · cases hp)
  have hH2 : Holds C ⟨S'.t, (m, none) :: (n, some (.osub n T0 (len - lo) (valsL k (l.drop lo)))) :: S'.h⟩ (e.set n ⟨0, 0, cutV (e m).v lo (len - lo)⟩) a w := by
    refine hH.like ⟨fun _ => rfl, fun q => ?_⟩
    show _ = (St.mk S'.t ((n, some (.osub n T0 (len - lo) ((valsL k l).drop lo))) :: (m, none) :: S'.h)).res q
    simp only [St.res_cons]
    have hdd : (valsL k l).drop lo = valsL k (l.drop lo) := by simp [valsL]
    by_cases hq : m = q
    · subst hq; simp [Ne.symm hne]
    · simp [hq, hdd]
  refine wp_value (v := cutV (e m).v lo (len - lo)) (w' := w) ?_ ⟨e.set n ⟨0, 0, cutV (e m).v lo (len - lo)⟩, ?_⟩
  · simp only [execOp, ho, hevx, Option.map_none, Sem.run_bind, hrun, Result.andThen_ok, Sem.run_pure, hval, Nat.mul_one]
  · rw [hdn]
    have hd' : dstB (some n) C.nt = true := by rw [← hdn]; exact hd
    have := hH2.put hd' (.v n)
    simp only [SV.v, Env.set_self] at this
    exact this
/-! ### append -/
theorem run_append_roomAt {P : Program} (w : World) (t ty e : TypeId) (i : TypeInfo) (ht : P.underlying t = some (.slice e)) (hi : P.info? e = some i) (hi1 : i.size = 1)
    (g off sLen sCap : Nat) (cur : Array Value) (hg : w.heap[g]? = some (.cells cur e (0, 0)))
    (a : Addr) (m c : Nat) (news : List Value) (hl : news.length = m * i.size) (hnews : ∀ j u, news[j]? = some u → w.cell? (a.add j) = some u) (h1 : ∀ u ∈ news, u.oneCell' = true)
    (hroom : sLen + m ≤ sCap) (hfit : off + sLen + news.length ≤ cur.size) :
    (Builtin.append_ #[t, t] ty #[.slice (some ⟨g, off, none⟩) sLen sCap, .slice (some a) m c]).run P w =
      .ok (.slice (some ⟨g, off, none⟩) (sLen + m) sCap) (w.setRow g (cur.toList.take (off + sLen) ++ news ++ cur.toList.drop (off + sLen + news.length)).toArray) := by
  have hf := run_firstCells_some (P := P) w i.size m a m c news hl hnews
  have hst := run_storeCells_at P g (off + sLen) e news 0 cur w hg (by simpa using hfit) h1
  simp only [Nat.add_zero] at hst
  simp [Builtin.append_, run_underlying ht, sizeOf, typeInfo, hi, Builtin.lenOf, hroom, hf, add_place, hi1, hst]
  rw [← hi1, hf]
  simp [hst]
theorem sub_append {w : World} {T n : Nat} {xs : List Value} {v : Value} {m : Nat} {news : List Value} {t ty : TypeId} {by_ : Nat} {A : Array Value} (hu' : tabLook undT t = some (.slice T)) (hs' : tabLook sizT T = some 1) (hy' : tabLook bytT T = some by_) (hz' : tabLook zerT T = some A) (hA : A.size = 1)
    (hown : ownsSub w T v n xs) {v2 : Value} (hrd : RdV w 1 v2 m news) (h1 : ∀ u ∈ news, u.oneCell' = true) (hmax : n + m ≤ maxLen) (hbytes : (n + m) * by_ ≤ 140737488355328) :
    ∃ v' w', (Builtin.append_ #[t, t] ty #[v, v2]).run Try.prog w = .ok v' w' ∧ ownsSub w' T v' (n + m) (xs ++ news) ∧ w.grownBy w' v.ownBlock ∧ ∀ b, v'.ownBlock = some b → v.ownBlock = some b ∨ w.heap.size ≤ b := by
  have hu := tabAll_look undT_ok hu'
  have hs := tabAll_look sizT_ok hs'
  have hy := tabAll_look bytT_ok hy'
  have hz := tabAll_look zerT_ok hz'
  obtain ⟨i, hi, his, hib, z, hiz, hzs⟩ : ∃ i, Try.prog.info? T = some i ∧ i.size = 1 ∧ i.bytes = by_ ∧ ∃ z, i.zero = some z ∧ z.cells = A := by
    cases hq : Try.prog.info? T with
    | none => simp [hq] at hs
    | some i =>
      cases hzz : i.zero with
      | none => simp [hq, hzz] at hz
      | some z => exact ⟨i, rfl, by simpa [hq] using hs, by simpa [hq] using hy, z, hzz, by simpa [hq, hzz] using hz⟩
  obtain ⟨hl, a, c, rfl, hcell⟩ := hrd
  have hxl := hown.1
  by_cases hm0 : m = 0
  · subst hm0
    have hn0 : news = [] := List.eq_nil_of_length_eq_zero (by simpa using hl)
    subst hn0
    have hrun : (Builtin.append_ #[t, t] ty #[v, .slice a 0 c]).run Try.prog w = .ok v w := by
      rcases hown.2 with ⟨rfl, rfl⟩ | ⟨g, off, cap, cur, rfl, _, hnc, _⟩
      · cases a <;> simp [Builtin.append_, run_underlying hu, sizeOf, typeInfo, hi, Builtin.lenOf, Builtin.firstCells, loadCells, loadCellsFrom]
      · cases a <;> simp [Builtin.append_, run_underlying hu, sizeOf, typeInfo, hi, Builtin.lenOf, Builtin.firstCells, hnc, storeCells, loadCells, loadCellsFrom]
    exact ⟨v, w, hrun, by simpa using hown, ⟨rfl, rfl, rfl, Nat.le_refl _, fun _ _ _ => rfl⟩, fun b hb => .inl hb⟩
  · rcases hcell with h | ⟨b, off2, rfl, hcell⟩
    · exact absurd h hm0
    have hnews : ∀ j u, news[j]? = some u → w.cell? ((⟨b, off2, none⟩ : Addr).add j) = some u := fun j u hu => by rw [add_place]; exact hcell j u hu
    have h63 : ((n + m : Nat) : Int) ≤ 9223372036854775807 := by simp only [maxLen] at hmax; omega
    -- what a new block holds
    have made : ∀ old : Nat, old < n + m → ownsSub (w.drew.alloc (.cells (xs.toArray ++ news.toArray ++ Builtin.zeroCells z.cells (grownCap w (n + m) old T - (n + m))) T)) T (.slice (some ⟨w.heap.size, 0, none⟩) (n + m) (grownCap w (n + m) old T)) (n + m) (xs ++ news) := by
      intro old _
      have hge := grownCap_ge w (n + m) old T
      have hle := grownCap_le_maxLen w (n + m) old T hmax
      refine ⟨by rw [List.length_append, hxl, hl, Nat.mul_one], .inr ⟨w.heap.size, 0, grownCap w (n + m) old T, _, rfl, heap_alloc_new w.drew _, hge, hle, ?_, ?_⟩⟩
      · simp only [Array.size_append, List.size_toArray, size_zeroCells, hzs, hA, hxl, hl]
        omega
      · rw [List.drop_zero]
        simp only [Array.toList_append, List.append_assoc]
        rw [← List.append_assoc]
        exact List.take_left' (by rw [List.length_append, hxl, hl, Nat.mul_one])
    rcases hown.2 with ⟨rfl, rfl⟩ | ⟨g, off, cap, cur, rfl, hg, hnc, hcm, hcs, htake⟩
    · have hx : xs = [] := List.eq_nil_of_length_eq_zero hxl
      subst hx
      have hr := run_append_nil (P := Try.prog) w t ty T i z hu hi hiz ⟨b, off2, none⟩ m c news (by rw [his]; exact hl) hnews (by omega) (by omega) (by rw [hib]; have := hbytes; simp only [Nat.zero_add] at this; omega)
      have hgr := made 0 (by omega)
      simp only [Nat.zero_add, List.nil_append, Array.empty_append] at hgr ⊢
      exact ⟨_, _, hr, hgr, ⟨rfl, rfl, rfl, by simp, fun k hk _ => heap_alloc_old w.drew _ hk⟩, fun q hq => .inr (by simp [Value.ownBlock] at hq; omega)⟩
    · by_cases hroom : n + m ≤ cap
      · have hr := run_append_roomAt (P := Try.prog) w t ty T i hu hi his g off n cap cur hg ⟨b, off2, none⟩ m c news (by rw [his]; exact hl) hnews h1 hroom (by rw [hl]; omega)
        refine ⟨_, _, hr, ⟨by rw [List.length_append, hxl, hl, Nat.mul_one], .inr ⟨g, off, cap, _, rfl, setRow_heap w g cur _ T _ hg, hroom, hcm, ?_, ?_⟩⟩, ⟨rfl, rfl, rfl, by simp, fun k _ hk => setRow_other w g k _ (fun e => hk (by simp [Value.ownBlock, e]))⟩, fun q hq => .inl hq⟩
        · simp only [List.size_toArray, List.length_append, List.length_take, List.length_drop, Array.length_toList]
          omega
        · simp only [List.append_assoc]
          have hlc : cur.toList.length = cur.size := Array.length_toList
          rw [List.drop_append_of_le_length (by rw [List.length_take, hlc]; omega), ← List.append_assoc, List.drop_take, show off + n - off = n by omega, htake]
          exact List.take_left' (by rw [List.length_append, hxl, hl, Nat.mul_one])
      · have holds : ∀ j u, xs[j]? = some u → w.cell? ((⟨g, off, none⟩ : Addr).add j) = some u := fun j u hu => by rw [add_place]; exact hown.cell j u hu
        have hr := run_append_grow (P := Try.prog) w t ty T i z hu hi hiz ⟨g, off, none⟩ n cap xs (by rw [his, Nat.mul_one]; exact hxl) holds ⟨b, off2, none⟩ m c news (by rw [his]; exact hl) hnews (by omega) h63 (growslice_fits (by omega) (by rw [hib]; exact hbytes))
        exact ⟨_, _, hr, made cap (by omega), ⟨rfl, rfl, rfl, by simp, fun k hk _ => heap_alloc_old w.drew _ hk⟩, fun q hq => .inr (by simp [Value.ownBlock] at hq; omega)⟩
theorem op_appendU {x y : Operand} {t T len cnt by_ m n b : Nat} {k : IntKind} {l l2 : List (BitVec b)} {A : Array Value} {v2 : SV} {ns : List Nat} {ty : TypeId} {pos : String} {after : Array Edge} (hd : dstB (some n) C.nt = true) (hx : S.ev x = some (.v m)) (hr : S.res m = some (.osub m T len (valsL k l))) (hy : S.ev y = some v2)
    (hu' : tabLook undT t = some (.slice T)) (hs' : tabLook sizT T = some 1) (hy' : tabLook bytT T = some by_) (hz' : tabLook zerT T = some A) (hA : A.size = 1) (hrd : RdN C S ns 1 v2 cnt (valsL k l2) := by first | exact rdn_one rfl | exact rdn_ones rfl rfl | exact rdn_own rfl | exact rdn_osub rfl | exact rdn_whole rfl (by first | omega | (simp; omega) | (simp <;> fail) | omega) | exact rdn_sub rfl (by first | omega | decide) | exact rdn_blk rfl (by first | omega | (simp; omega) | (simp <;> fail) | omega) | exact rdn_nil | exact rdn_lit rfl (by repeat (first | exact litl_nil | apply litl_bv | refine litl_z rfl ?_)) rfl | exact rdn_oldX (by assumption) | exact rdn_oldR (by assumption) | exact rdn_oldX (FSX.cutB (by assumption) (by omega)) | exact rdn_old (by assumption) (by omega) rfl | exact rdn_old (FS.rd (by first | assumption | exact FSX.fs (by assumption) | (refine FS.cutB (by assumption) ?_; omega) | (refine FS.cut (by assumption) ?_; omega))) (by omega) rfl)
    (hmax : len + cnt ≤ 1099511627776 ∧ (len + cnt) * by_ ≤ 140737488355328 := by omega) (hmn : Nat.beq m n = false := by exact rfl) :
    OpG C Try.prog ops ⟨some n, .call { callee := .builtin .append, args := #[x, y], argTypes := #[t, t] }, ty, pos, after, none⟩ S ⟨opT x ++ opT y, m :: (v2.sup ++ ns), [(n, .v n)], [(m, none), (n, some (.osub n T (len + cnt) (valsL k (l ++ l2))))], [n]⟩ := by
  refine opG_mk rfl fun S' h1' h2' h3' e a w hS => ?_
  have hevx : a.eval x = (e m).v := hS.ev ((ev_like h1' fun _ h => List.mem_append_left _ h).trans hx)
  have hevy : a.eval y = v2.den e := hS.ev ((ev_like h1' fun _ h => List.mem_append_right _ h).trans hy)
  have hr' := (h2' m (by simp)).trans hr
  have hown : ownsSub w T (e m).v len (valsL k l) := hS.res m _ hr'
  have hrv := hrd S' e a w (fun q hq => h2' q (by simp [hq])) hS
  obtain ⟨v', w', hrun, ho, hg, hb⟩ := sub_append (t := t) (ty := ty) hu' hs' hy' hz' hA hown hrv (valsL_one l2) (by simp only [maxLen]; omega) hmax.2
  have hex := run_builtin_append (a := a) (x := x) (y := y) (t := t) (ty := ty) (w := w) (r := .ok v' w') (dst := some n) (pos := pos) (after := after) (by rw [hevx, hevy]; exact hrun)
  have hne : m ≠ n := fun h => by subst h; simp at hmn
  have hH := hS.chg (w' := w') [(n, .osub n T (len + cnt) (valsL k l ++ valsL k l2))] [m] (h3' n (by simp)) ⟨0, 0, v'⟩ hg.os hg.tape hg.output hg.size
    (fun k hk r hr2 => by
      rcases List.mem_cons.1 hk with rfl | hk
      · rw [hr'] at hr2; cases hr2; rfl
      · cases hk) (fun b hb hnot => hg.block b hb fun he => hnot m (by simp) _ hr' (show (e m).v.ownBlock = some b from he.symm))
    (fun p hp => by
      rcases List.mem_cons.1 hp with rfl | hp
      · show ownsSub w' T ((e.set n _) n).v _ _
        rw [Env.set_self]; exact ho
      · cases hp)
    (fun p hp b hb' => by
      rcases List.mem_cons.1 hp with rfl | hp
      · have hb' : ((e.set n ⟨0, 0, v'⟩) n).v.ownBlock = some b := hb'
        rw [Env.set_self] at hb'
        rcases hb b hb' with h | h
        · exact .inl ⟨m, by simp, _, hr', h⟩
        · exact .inr h
      · cases hp)
    (fun p hp p' hp' hne' b hb hb' => by
      rcases List.mem_cons.1 hp with rfl | hp
      · rcases List.mem_cons.1 hp' with rfl | hp'
        · exact hne' rfl
        · cases hp'
      · cases hp)
  have hH2 : Holds C ⟨S'.t, (m, none) :: (n, some (.osub n T (len + cnt) (valsL k (l ++ l2)))) :: S'.h⟩ (e.set n ⟨0, 0, v'⟩) a w' := by
    refine hH.like ⟨fun _ => rfl, fun q => ?_⟩
    show _ = (St.mk S'.t ((n, some (.osub n T (len + cnt) (valsL k l ++ valsL k l2))) :: (m, none) :: S'.h)).res q
    simp only [St.res_cons]
    by_cases hq : m = q
    · subst hq; simp [Ne.symm hne]
    · simp [hq, valsL_append]
  refine wp_value hex ⟨e.set n ⟨0, 0, v'⟩, ?_⟩
  have := hH2.put hd (.v n)
  simp only [SV.v, Env.set_self] at this
  exact this
/-! ### a slice as an array's place -/
theorem op_s2a {t T : TypeId} {x : Operand} {m n off len cap : Nat} (ho : o.op = .sliceToArrayPointer t x) (hg : o.guard = none) (hd : dstB o.dst C.nt = true) (hx : S.ev x = some (.s n off len cap)) (hu' : tabLook undT t = some (.array m T)) (hm : Nat.ble m len = true) : OpG C Try.prog ops o S ⟨opT x, [n], dw o.dst (.p n off), [], []⟩ :=
  op_one (v := .p n off) hg hd hx fun e ρ w h1 => by
    have h1' : ρ x = .slice (some ⟨(e n).b, off, none⟩) len cap := h1
    have hu := tabAll_look undT_ok hu'
    have hm2 : m ≤ len := Nat.le_of_ble_eq_true hm
    have hlt : ¬ len < m := by omega
    simp [execOp, ho, h1', Instr.arrayAt, Sem.run_bind, run_underlying hu w, hlt, SV.p]
/-! ### a slice stored into an object -/
def OneC (C : Ctx) (S : St) (rb : List Nat) (v : SV) : Prop := ∀ (S' : St) e a w, Holds C S' e a w → (∀ q ∈ rb, S'.res q = S.res q) → (v.den e).cells = #[v.den e] ∧ (v.den e).oneCell' = true
theorem one_own {n : Nat} {T : TypeId} {size len : Nat} {xs : List Value} (hr : S.res n = some (.own n T size len xs)) : OneC C S [n] (.v n) := fun S' e a w hS hq => by
  have h : w.ownsRow 0 T size (e n).v len xs := hS.res n _ ((hq n (by simp)).trans hr)
  show (e n).v.cells = #[(e n).v] ∧ (e n).v.oneCell' = true
  rcases h.2 with ⟨h3, _⟩ | ⟨g, cap, cur, h3, _⟩ <;> rw [h3] <;> exact ⟨rfl, rfl⟩
theorem one_osub {n : Nat} {T : TypeId} {len : Nat} {xs : List Value} (hr : S.res n = some (.osub n T len xs)) : OneC C S [n] (.v n) := fun S' e a w hS hq =>
  (show ownsSub w T (e n).v len xs from hS.res n _ ((hq n (by simp)).trans hr)).own
theorem op_storeO {ty : TypeId} {x y : Operand} {n off : Nat} {T : TypeId} {A A' : SA} {v : SV} {rb : List Nat} (ho : o.op = .store ty x y) (hg : o.guard = none) (hdst : o.dst = none) (hx : S.ev x = some (.p n off)) (hy : S.ev y = some v) (hr : S.res n = some (.blk n T A))
    (hi' : tabLook sizT ty = some 1) (hv : OneC C S rb v) (hoff : ∀ e, off < (A.den e).size := by (fail_if_success (with_reducible apply trap_sz)); repeat (first | ((with_reducible apply sz_vals); exact (by first | omega | (simp; omega) | (simp <;> fail) | omega)) | ((with_reducible apply sz_l); (first | decide | (simp only [List.length_set, List.length_cons, List.length_nil]; omega))) | ((with_reducible apply sz_c); decide) | ((with_reducible apply sz_appL); first | ((with_reducible apply sz_l); (first | decide | (simp only [List.length_set, List.length_cons, List.length_nil]; omega))) | ((with_reducible apply sz_vals); exact (by first | omega | (simp; omega) | (simp <;> fail) | omega))) | ((with_reducible apply sz_appR); (· exact (by (fail_if_success (with_reducible apply trap_sm)); first | ((with_reducible apply sm_vals); first | (with_reducible assumption) | (simp <;> fail) | rfl) | ((with_reducible apply sm_c); rfl) | ((with_reducible apply sm_l); rfl)))))) (hA : ∀ e, (A.den e).setIfInBounds off (v.den e) = A'.den e := by (fail_if_success (with_reducible apply trap_set)); repeat (first | (with_reducible exact st_vals) | ((with_reducible apply st_valsz); rfl) | (with_reducible exact st_l) | (with_reducible exact st_c) | ((with_reducible apply set_appR); (· exact (by (fail_if_success (with_reducible apply trap_sm)); first | ((with_reducible apply sm_vals); first | (with_reducible assumption) | (simp <;> fail) | rfl) | ((with_reducible apply sm_c); rfl) | ((with_reducible apply sm_l); rfl))); (· rfl)) | ((with_reducible apply set_appL); (· exact (by (fail_if_success (with_reducible apply trap_sz)); first | ((with_reducible apply sz_vals); exact (by first | omega | (simp; omega) | (simp <;> fail) | omega)) | ((with_reducible apply sz_l); (first | decide | (simp only [List.length_set, List.length_cons, List.length_nil]; omega))) | ((with_reducible apply sz_c); decide)))))) :
    OpG C Try.prog ops o S ⟨opT x ++ opT y, n :: (A'.sup ++ rb), [], [(n, some (.blk n T A'))], []⟩ := by
  have hi := tabAll_look sizT_ok hi'
  refine opG_mk hg fun S' h1 h2 h3 e a w hS => ?_
  have hev : a.eval x = .pointer (some ⟨(e n).b, off, none⟩) := hS.ev ((ev_like h1 fun _ h => List.mem_append_left _ h).trans hx)
  have hevy : a.eval y = v.den e := hS.ev ((ev_like h1 fun _ h => List.mem_append_right _ h).trans hy)
  have hr' := (h2 n (by simp)).trans hr
  obtain ⟨fr, hb, hfr⟩ := res_blk hS hr'
  rw [hfr rfl] at hb
  obtain ⟨hcs, hone⟩ := hv S' e a w hS (fun q hq => h2 q (by simp [hq]))
  have hc : w.cell? ⟨(e n).b, off, none⟩ = some ((A.den e)[off]'(hoff e)) := (cell_of_row w _ off _ _ _ hb).trans (by simp [hoff e])
  have hf : w.frozen? ⟨(e n).b, off, none⟩ = false := frozen_of_row w _ off _ _ hb
  refine wp_skip' (w' := w.setCell ⟨(e n).b, off, none⟩ (v.den e)) ?_ ⟨e, ?_⟩
  · cases hq : Try.prog.info? ty with
    | none => simp [hq] at hi
    | some i =>
      have hs : i.size = 1 := by simpa [hq] using hi
      simp [execOp, ho, hev, hevy, Instr.storeAt, Instr.sureAddr, storeVar, sizeOf, typeInfo, hq, hs, hcs, storeCells, run_store Try.prog _ _ _ _ hone, hc, hf, Addr.add]
  · rw [hdst]
    refine hS.write hr' rfl rfl rfl (by simp [World.setCell]) ?_ (fun k hk => Below.heap_setCell w _ _ k hk)
    rw [← hA e]
    exact heap_setCell_same w _ off _ _ _ hb
/-! ### calls -/
theorem callO_f {j : FuncId} {vs : List SV} {d : List (BitVec 8)} {ns1 : List Nat} {v1 : SV} {T size len : Nat} {xs : List Value} (h1 : FSQ C S ns1 v1 d) (h : ∀ (e : Env) w, FS w 1 (v1.den e) d.length (valsL .u8 d) → Calls Try.prog j (vs.map (·.den e)).toArray w (RetOwn w T size len xs)) : CallO C S ns1 j vs T size len xs := fun S' e a w hS hq => h e w (h1 S' e a w hq hS)
/-- An object whose cells hang on names. -/
def CallPE (C : Ctx) (S : St) (rb : List Nat) (n T j : Nat) (vs : List SV) (A' : SA) (v : Value) : Prop := ∀ (S' : St) e a w, Holds C S' e a w → (∀ q ∈ rb, S'.res q = S.res q) → Calls Try.prog j (vs.map (·.den e)).toArray w (RetP w (e n).b T (A'.den e) v)
theorem callPE_0 {n T j : Nat} {vs : List SV} {A A' : SA} {v : Value} (hr : S.res n = some (.blk n T A)) (h : ∀ (e : Env) w, Blk w (e n).b (A.den e) T → Calls Try.prog j (vs.map (·.den e)).toArray w (RetP w (e n).b T (A'.den e) v)) : CallPE C S [n] n T j vs A' v := fun S' e a w hS hq => by
  obtain ⟨fr, hb, hfr⟩ := res_blk hS ((hq n (by simp)).trans hr)
  rw [hfr rfl] at hb
  exact h e w hb
theorem op_callPE {f : FuncId} {xs : Array Operand} {ats : Array TypeId} {vs : List SV} {rb : List Nat} {j n T : Nat} {A A' : SA} {v : Value} (ho : o.op = .call { callee := .value (.func f), args := xs, argTypes := ats }) (hg : o.guard = none) (hd : dstB o.dst C.nt = true) (hxs : EvS S xs.toList vs) (hc' : tabLook calT f = some j)
    (hr : S.res n = some (.blk n T A)) (hcon : CallPE C S rb n T j vs A' v) :
    OpG C Try.prog ops o S ⟨xs.toList.flatMap opT, n :: (A'.sup ++ rb), dw o.dst (.c v), [(n, some (.blk n T A'))], []⟩ := by
  refine opG_mk hg fun S' h1 h2 h3 e a w hS => ?_
  unfold Oper.wp
  rw [call_hop ho hxs hc' h1 hS]
  refine Calls.mono (hcon S' e a w hS fun q hq => h2 q (by simp [hq])) ?_
  rintro r w' ⟨rfl, hb, hx⟩
  exact ⟨e, (hS.writeX ((h2 n (by simp)).trans hr) hx hb).put hd (.c v)⟩
section
variable {l : List Oper} {t : List (Nat × SV)} {h : List (Nat × Option Res)} {d : Nat} {f j : FuncId} {xs : Array Operand} {ats : Array TypeId} {vs : List SV}
theorem walk1_callPE {K : St → Prop} (A' : SA) {n T : Nat} {A : SA} {vs' : List SV} (ho : o.op = .call { callee := .value (.func f), args := xs, argTypes := ats }) (hdn : o.dst = some d) (hg : o.guard = none) (hd : dstB o.dst C.nt = true) (hxs : EvS ⟨t, h⟩ xs.toList vs) (hp : vs = .p n 0 :: vs') (h1 : (St.mk t h).res n = some (.blk n T A)) (hc' : tabLook calT f = some j)
    (hK : ∃ rb v, CallPE C ⟨t, h⟩ rb n T j vs A' v ∧ Walk1 C Try.prog ops l ⟨(d, .c v) :: t, (n, some (.blk n T A')) :: h⟩ K) : Walk1 C Try.prog ops (o :: l) ⟨t, h⟩ K := by
  obtain ⟨rb, v, h2, h4⟩ := hK
  have := op_callPE (C := C) (ops := ops) ho hg hd hxs hc' h1 h2
  rw [hdn] at this
  exact ⟨_, this, rfl, h4⟩
theorem walk1_callPE0 {K : St → Prop} (A' : SA) {n T : Nat} {A : SA} {vs' : List SV} (ho : o.op = .call { callee := .value (.func f), args := xs, argTypes := ats }) (hdn : o.dst = none) (hg : o.guard = none) (hxs : EvS ⟨t, h⟩ xs.toList vs) (hp : vs = .p n 0 :: vs') (h1 : (St.mk t h).res n = some (.blk n T A)) (hc' : tabLook calT f = some j)
    (hK : ∃ rb v, CallPE C ⟨t, h⟩ rb n T j vs A' v ∧ Walk1 C Try.prog ops l ⟨t, (n, some (.blk n T A')) :: h⟩ K) : Walk1 C Try.prog ops (o :: l) ⟨t, h⟩ K := by
  obtain ⟨rb, v, h2, h4⟩ := hK
  have := op_callPE (C := C) (ops := ops) ho hg (by rw [hdn]; rfl) hxs hc' h1 h2
  rw [hdn] at this
  exact ⟨_, this, rfl, h4⟩
theorem walk_callPE {x : List Nat} {acc : List OS} {K : St → List OS → Prop} (A' : SA) {n T : Nat} {A : SA} {vs' : List SV} (ho : o.op = .call { callee := .value (.func f), args := xs, argTypes := ats }) (hdn : o.dst = some d) (hg : o.guard = none) (hd : dstB o.dst C.nt = true) (hxs : EvS ⟨t, h⟩ xs.toList vs) (hp : vs = .p n 0 :: vs') (h1 : (St.mk t h).res n = some (.blk n T A)) (hc' : tabLook calT f = some j)
    (hK : ∃ rb v, CallPE C ⟨t, h⟩ rb n T j vs A' v ∧ WalkTo C Try.prog ops [] l ⟨(d, .c v) :: t, (n, some (.blk n T A')) :: h⟩ (⟨x ++ xs.toList.flatMap opT, n :: (A'.sup ++ rb), [(d, .c v)], [(n, some (.blk n T A'))], []⟩ :: acc) K) : WalkTo C Try.prog ops x (o :: l) ⟨t, h⟩ acc K := by
  obtain ⟨rb, v, h2, h4⟩ := hK
  have := op_callPE (C := C) (ops := ops) ho hg hd hxs hc' h1 h2
  rw [hdn] at this
  exact ⟨⟨_, _, _, _, _⟩, opG_more x this, rfl, h4⟩
theorem walk_callPE0 {x : List Nat} {acc : List OS} {K : St → List OS → Prop} (A' : SA) {n T : Nat} {A : SA} {vs' : List SV} (ho : o.op = .call { callee := .value (.func f), args := xs, argTypes := ats }) (hdn : o.dst = none) (hg : o.guard = none) (hxs : EvS ⟨t, h⟩ xs.toList vs) (hp : vs = .p n 0 :: vs') (h1 : (St.mk t h).res n = some (.blk n T A)) (hc' : tabLook calT f = some j)
    (hK : ∃ rb v, CallPE C ⟨t, h⟩ rb n T j vs A' v ∧ WalkTo C Try.prog ops [] l ⟨t, (n, some (.blk n T A')) :: h⟩ (⟨x ++ xs.toList.flatMap opT, n :: (A'.sup ++ rb), [], [(n, some (.blk n T A'))], []⟩ :: acc) K) : WalkTo C Try.prog ops x (o :: l) ⟨t, h⟩ acc K := by
  obtain ⟨rb, v, h2, h4⟩ := hK
  have := op_callPE (C := C) (ops := ops) ho hg (by rw [hdn]; rfl) hxs hc' h1 h2
  rw [hdn] at this
  exact ⟨⟨_, _, _, _, _⟩, opG_more x this, rfl, h4⟩
theorem walk1_callPL {K0 : St → Prop} (q d0 : Nat) (A' : SA) {n T : Nat} {A : SA} {R : Res} {K1 : World → Value → Prop} {vs' : List SV} (ho : o.op = .call { callee := .value (.func f), args := xs, argTypes := ats }) (hdn : o.dst = some d) (hg : o.guard = none) (hd : dstB o.dst C.nt = true) (hxs : EvS ⟨t, h⟩ xs.toList vs) (hp : vs = .p n 0 :: vs') (h1 : (St.mk t h).res n = some (.blk n T A)) (hq : (St.mk t h).res q = some R) (hR : IsOwn R q K1) (hc' : tabLook calT f = some j) (hdq : (Nat.beq d0 n || Nat.beq d0 q) = false) (hf : freshB ⟨t, h⟩ d0 = true)
    (hK : ∃ rb cells K v R', CallPL C ⟨t, h⟩ rb n q T j vs cells K v ∧ (∀ e, A'.den e = cells (e d0).v) ∧ IsOwn R' d0 K ∧ Walk1 C Try.prog ops l ⟨(d, .c v) :: t, (n, some (.blk n T A')) :: (d0, some R') :: (q, none) :: h⟩ K0) : Walk1 C Try.prog ops (o :: l) ⟨t, h⟩ K0 := by
  obtain ⟨rb, cells, K, v, R', h2, h3, h4, h5⟩ := hK
  have := op_callPL (C := C) (ops := ops) ho hg hd hxs hc' h1 hq hR hdq h3 h4 h2
  rw [hdn] at this
  exact ⟨_, this, by simp [hf], h5⟩
theorem walk1_callPL0 {K0 : St → Prop} (q d0 : Nat) (A' : SA) {n T : Nat} {A : SA} {R : Res} {K1 : World → Value → Prop} {vs' : List SV} (ho : o.op = .call { callee := .value (.func f), args := xs, argTypes := ats }) (hdn : o.dst = none) (hg : o.guard = none) (hxs : EvS ⟨t, h⟩ xs.toList vs) (hp : vs = .p n 0 :: vs') (h1 : (St.mk t h).res n = some (.blk n T A)) (hq : (St.mk t h).res q = some R) (hR : IsOwn R q K1) (hc' : tabLook calT f = some j) (hdq : (Nat.beq d0 n || Nat.beq d0 q) = false) (hf : freshB ⟨t, h⟩ d0 = true)
    (hK : ∃ rb cells K v R', CallPL C ⟨t, h⟩ rb n q T j vs cells K v ∧ (∀ e, A'.den e = cells (e d0).v) ∧ IsOwn R' d0 K ∧ Walk1 C Try.prog ops l ⟨t, (n, some (.blk n T A')) :: (d0, some R') :: (q, none) :: h⟩ K0) : Walk1 C Try.prog ops (o :: l) ⟨t, h⟩ K0 := by
  obtain ⟨rb, cells, K, v, R', h2, h3, h4, h5⟩ := hK
  have := op_callPL (C := C) (ops := ops) ho hg (by rw [hdn]; rfl) hxs hc' h1 hq hR hdq h3 h4 h2
  rw [hdn] at this
  exact ⟨_, this, by simp [hf], h5⟩
theorem walk_callPL {x : List Nat} {acc : List OS} {K0 : St → List OS → Prop} (q d0 : Nat) (A' : SA) {n T : Nat} {A : SA} {R : Res} {K1 : World → Value → Prop} {vs' : List SV} (ho : o.op = .call { callee := .value (.func f), args := xs, argTypes := ats }) (hdn : o.dst = some d) (hg : o.guard = none) (hd : dstB o.dst C.nt = true) (hxs : EvS ⟨t, h⟩ xs.toList vs) (hp : vs = .p n 0 :: vs') (h1 : (St.mk t h).res n = some (.blk n T A)) (hq : (St.mk t h).res q = some R) (hR : IsOwn R q K1) (hc' : tabLook calT f = some j) (hdq : (Nat.beq d0 n || Nat.beq d0 q) = false) (hf : freshB ⟨t, h⟩ d0 = true)
    (hK : ∃ rb cells K v R', CallPL C ⟨t, h⟩ rb n q T j vs cells K v ∧ (∀ e, A'.den e = cells (e d0).v) ∧ IsOwn R' d0 K ∧ WalkTo C Try.prog ops [] l ⟨(d, .c v) :: t, (n, some (.blk n T A')) :: (d0, some R') :: (q, none) :: h⟩ (⟨x ++ xs.toList.flatMap opT, n :: q :: rb, [(d, .c v)], [(n, some (.blk n T A')), (d0, some R'), (q, none)], [d0]⟩ :: acc) K0) : WalkTo C Try.prog ops x (o :: l) ⟨t, h⟩ acc K0 := by
  obtain ⟨rb, cells, K, v, R', h2, h3, h4, h5⟩ := hK
  have := op_callPL (C := C) (ops := ops) ho hg hd hxs hc' h1 hq hR hdq h3 h4 h2
  rw [hdn] at this
  exact ⟨⟨_, _, _, _, _⟩, opG_more x this, by simp [hf], h5⟩
theorem walk_callPL0 {x : List Nat} {acc : List OS} {K0 : St → List OS → Prop} (q d0 : Nat) (A' : SA) {n T : Nat} {A : SA} {R : Res} {K1 : World → Value → Prop} {vs' : List SV} (ho : o.op = .call { callee := .value (.func f), args := xs, argTypes := ats }) (hdn : o.dst = none) (hg : o.guard = none) (hxs : EvS ⟨t, h⟩ xs.toList vs) (hp : vs = .p n 0 :: vs') (h1 : (St.mk t h).res n = some (.blk n T A)) (hq : (St.mk t h).res q = some R) (hR : IsOwn R q K1) (hc' : tabLook calT f = some j) (hdq : (Nat.beq d0 n || Nat.beq d0 q) = false) (hf : freshB ⟨t, h⟩ d0 = true)
    (hK : ∃ rb cells K v R', CallPL C ⟨t, h⟩ rb n q T j vs cells K v ∧ (∀ e, A'.den e = cells (e d0).v) ∧ IsOwn R' d0 K ∧ WalkTo C Try.prog ops [] l ⟨t, (n, some (.blk n T A')) :: (d0, some R') :: (q, none) :: h⟩ (⟨x ++ xs.toList.flatMap opT, n :: q :: rb, [], [(n, some (.blk n T A')), (d0, some R'), (q, none)], [d0]⟩ :: acc) K0) : WalkTo C Try.prog ops x (o :: l) ⟨t, h⟩ acc K0 := by
  obtain ⟨rb, cells, K, v, R', h2, h3, h4, h5⟩ := hK
  have := op_callPL (C := C) (ops := ops) ho hg (by rw [hdn]; rfl) hxs hc' h1 hq hR hdq h3 h4 h2
  rw [hdn] at this
  exact ⟨⟨_, _, _, _, _⟩, opG_more x this, by simp [hf], h5⟩
theorem walk1_callNL {K0 : St → Prop} (q : Nat) (A' : SA) (ho : o.op = .call { callee := .value (.func f), args := xs, argTypes := ats }) (hdn : o.dst = some d) (hg : o.guard = none) (hd : dstB o.dst C.nt = true) (hf : freshB ⟨t, h⟩ d = true) (hfq : freshB ⟨t, h⟩ q = true) (hqn : Nat.beq d q = false) (hAs : subB A'.sup [q] = true) (hxs : EvS ⟨t, h⟩ xs.toList vs) (hc' : tabLook calT f = some j)
    (hK : ∃ rb T cells K R', CallNL C ⟨t, h⟩ rb T j vs cells K ∧ (∀ e, A'.den e = cells (e q).v) ∧ IsOwn R' q K ∧ Walk1 C Try.prog ops l ⟨(d, .p d 0) :: t, (d, some (.blk d T A')) :: (q, some R') :: h⟩ K0) : Walk1 C Try.prog ops (o :: l) ⟨t, h⟩ K0 := by
  obtain ⟨rb, T, cells, K, R', h1, h2, h3, h4⟩ := hK
  exact ⟨_, op_callNL (C := C) (ops := ops) ho hdn hg hd hxs hc' hqn h2 hAs h3 h1, by simp [hf, hfq], h4⟩
theorem walk_callNL {x : List Nat} {acc : List OS} {K0 : St → List OS → Prop} (q : Nat) (A' : SA) (ho : o.op = .call { callee := .value (.func f), args := xs, argTypes := ats }) (hdn : o.dst = some d) (hg : o.guard = none) (hd : dstB o.dst C.nt = true) (hf : freshB ⟨t, h⟩ d = true) (hfq : freshB ⟨t, h⟩ q = true) (hqn : Nat.beq d q = false) (hAs : subB A'.sup [q] = true) (hxs : EvS ⟨t, h⟩ xs.toList vs) (hc' : tabLook calT f = some j)
    (hK : ∃ rb T cells K R', CallNL C ⟨t, h⟩ rb T j vs cells K ∧ (∀ e, A'.den e = cells (e q).v) ∧ IsOwn R' q K ∧ WalkTo C Try.prog ops [] l ⟨(d, .p d 0) :: t, (d, some (.blk d T A')) :: (q, some R') :: h⟩ (⟨x ++ xs.toList.flatMap opT, rb, [(d, .p d 0)], [(d, some (.blk d T A')), (q, some R')], [d, q]⟩ :: acc) K0) : WalkTo C Try.prog ops x (o :: l) ⟨t, h⟩ acc K0 := by
  obtain ⟨rb, T, cells, K, R', h1, h2, h3, h4⟩ := hK
  exact ⟨⟨_, _, _, _, _⟩, opG_more x (op_callNL (C := C) (ops := ops) ho hdn hg hd hxs hc' hqn h2 hAs h3 h1), by simp [hf, hfq], h4⟩
end
end Go.Proofs.Ytlhedoodbadmgaa
namespace Go.Proofs.Ytlhedoodbadmgaa
open Go.RowKit
set_option maxRecDepth 100000
variable {C : Ctx} {ops : Array Oper} {S : St} {o : Oper}
theorem op_appendR {x y : Operand} {t T sz len by_ m n q b cap : Nat} {T0 : TypeId} {wr : Bool} {k : IntKind} {l l2 : List (BitVec b)} {A : Array Value} {ty : TypeId} {pos : String} {after : Array Edge} (hd : dstB (some n) C.nt = true) (hx : S.ev x = some (.v m)) (hr : S.res m = some (.own m T sz len (valsL k l))) (hy : S.ev y = some (.s q 0 1 cap))
    (hq : S.res q = some (.blk q T0 (.c (vals k l2)) wr)) (hu' : tabLook undT t = some (.slice T)) (hs' : tabLook sizT T = some sz) (hy' : tabLook bytT T = some by_) (hz' : tabLook zerT T = some A) (hA : A.size = sz) (hsz : 0 < sz) (hl2 : l2.length = sz)
    (hmax : len + 1 ≤ 1099511627776 ∧ (len + 1) * by_ ≤ 140737488355328) (hmn : Nat.beq m n = false) :
    OpG C Try.prog ops ⟨some n, .call { callee := .builtin .append, args := #[x, y], argTypes := #[t, t] }, ty, pos, after, none⟩ S ⟨opT x ++ opT y, m :: ((SV.s q 0 1 cap).sup ++ [q]), [(n, .v n)], [(m, none), (n, some (.own n T sz (len + 1) (valsL k (l ++ l2))))], [n]⟩ := by
  rw [valsL_append]
  refine op_append hd hx hr hy hu' hs' hy' hz' hA hsz ?_ (valsL_one l2) hmax hmn
  have := rdn_row (C := C) (S := S) (size := sz) (len := 1) (cap := cap) hq (by rw [vals_size, hl2, Nat.one_mul])
  simpa [vals] using this
theorem op_loadsR {ty : TypeId} {x : Operand} {n off len sz m b : Nat} {T0 : TypeId} {k : IntKind} {L : List (BitVec b)} {d : TypeDesc} (ho : o.op = .load ty x) (hg : o.guard = none) (hd : dstB o.dst C.nt = true) (hx : S.ev x = some (.vp n off)) (hr : S.res n = some (.own n T0 sz len (valsL k L))) (hu' : tabLook undT ty = some d) (hda : d.isRow = true) (hi' : tabLook sizT ty = some m) (hm : 0 < m) (hb : off + m ≤ L.length) :
    OpG C Try.prog ops o S ⟨opT x, [n], dw o.dst (.c (.agg (vals k ((L.drop off).take m)))), [], []⟩ := by
  refine op_loadsV ho hg hd hx hr hu' hda hi' hm (by rw [valsL_length]; exact hb) ?_
  simp [valsL]
theorem op_allocV {ty e0 : TypeId} {k : IntKind} {q m n : Nat} [Bits k q] (ho : o.op = .alloc ty) (hdn : o.dst = some n) (hg : o.guard = none) (hd : dstB o.dst C.nt = true) (_hu : tabLook undT ty = some (.array m e0)) (_he : tabLook undT e0 = some (.int k)) (hz : tabLook zerT ty = some (vals k (List.replicate m (0#q)))) :
    OpG C Try.prog ops o S ⟨[], [], dw o.dst (.p n 0), [(n, some (.blk n ty (.c (vals k (List.replicate m (0#q))))))], [n]⟩ := op_alloc ho hdn hg hd hz
theorem op_eqT {ty yt : TypeId} {x y : Operand} {a b : Bool} (ho : o.op = .binOp .eql ty x y yt) (hg : o.guard = none) (hd : dstB o.dst C.nt = true) (hx : S.ev x = some (.c (.bool a))) (hy : S.ev y = some (.c (.bool b))) (hu' : tabLook undT ty = some .bool) : OpG C Try.prog ops o S ⟨opT x ++ opT y, [], dw o.dst (.c (.bool (a == b))), [], []⟩ :=
  op_two (v := .c (.bool (a == b))) hg hd hx hy fun e ρ w h1 h2 => by
    have h1' : ρ x = .bool a := h1
    have h2' : ρ y = .bool b := h2
    have hu := tabAll_look undT_ok hu'
    have hgd : (eqGuard .eql ty x y (.bool a) (.bool b)).run Try.prog w = .ok () w := by unfold eqGuard; rfl
    simp only [execOp, ho, h1', h2', Sem.run_bind, hgd, Result.andThen_ok, run_eql_bool w ty a b hu, Sem.run_pure]
    rfl
theorem op_neT {ty yt : TypeId} {x y : Operand} {a b : Bool} (ho : o.op = .binOp .neq ty x y yt) (hg : o.guard = none) (hd : dstB o.dst C.nt = true) (hx : S.ev x = some (.c (.bool a))) (hy : S.ev y = some (.c (.bool b))) (hu' : tabLook undT ty = some .bool) : OpG C Try.prog ops o S ⟨opT x ++ opT y, [], dw o.dst (.c (.bool (!(a == b)))), [], []⟩ :=
  op_two (v := .c (.bool (!(a == b)))) hg hd hx hy fun e ρ w h1 h2 => by
    have h1' : ρ x = .bool a := h1
    have h2' : ρ y = .bool b := h2
    have hu := tabAll_look undT_ok hu'
    have hgd : (eqGuard .neq ty x y (.bool a) (.bool b)).run Try.prog w = .ok () w := by unfold eqGuard; rfl
    simp only [execOp, ho, h1', h2', Sem.run_bind, hgd, Result.andThen_ok, run_neq_bool w ty a b hu, Sem.run_pure]
    rfl
/-- The same cells, told otherwise. -/
theorem ent_blkA {t : List (Nat × SV)} {h : List (Nat × Option Res)} (n : Nat) {T : TypeId} {A : SA} (A' : SA) {wr : Bool} (hr : (St.mk t h).res n = some (.blk n T A wr)) (hA : ∀ e, A.den e = A'.den e) : Ents C ⟨t, h⟩ ⟨t, (n, some (.blk n T A' wr)) :: h⟩ := fun e a w hS => by
  have hres : ∀ k r, (St.mk t ((n, some (.blk n T A' wr)) :: h)).res k = some r → ∃ r0, (St.mk t h).res k = some r0 ∧ r.foot e = r0.foot e ∧ (r0.ok e w → r.ok e w) ∧ r.wr = r0.wr := fun k r hk => by
    rw [St.res_cons] at hk
    split at hk
    · rename_i he
      cases hk
      subst he
      refine ⟨_, hr, rfl, fun ⟨fr, h1, h2⟩ => ⟨fr, by rw [← hA]; exact h1, h2⟩, rfl⟩
    · exact ⟨r, hk, rfl, fun h => h, rfl⟩
  refine ⟨e, hS.defers, hS.size, hS.tmp, fun k r hk => ?_, fun k r hk hw b hb => ?_, fun k m r r' hk hm hne hw b hb hb' => ?_, hS.frame⟩
  · obtain ⟨r0, h1, h2, h3, h4⟩ := hres k r hk
    exact h3 (hS.res k r0 h1)
  · obtain ⟨r0, h1, h2, h3, h4⟩ := hres k r hk
    exact hS.mine k r0 h1 (by rw [← h4]; exact hw) b (by rw [← h2]; exact hb)
  · obtain ⟨r0, h1, h2, h3, h4⟩ := hres k r hk
    obtain ⟨r1, g1, g2, g3, g4⟩ := hres m r' hm
    exact hS.sep k m r0 r1 h1 g1 hne (by rw [← h4]; exact hw) b (by rw [← h2]; exact hb) (by rw [← g2]; exact hb')
end Go.Proofs.Ytlhedoodbadmgaa
namespace Go.Proofs.Ytlhedoodbadmgaa
open Go.RowKit
set_option maxRecDepth 100000
variable {C : Ctx} {ops : Array Oper} {S : St} {o : Oper}
theorem op_shl0 {ty yt : TypeId} {x y : Operand} {z : Int} {b : Nat} (ho : o.op = .binOp .shl ty x y yt) (hg : o.guard = none) (hd : dstB o.dst C.nt = true) (hx : S.ev x = some (.c (.int .i64 z))) (hy : EvK S y b) (hb : b = 0) (hz : -9223372036854775808 ≤ z ∧ z < 9223372036854775808) : OpG C Try.prog ops o S ⟨opT x ++ opT y, [], dw o.dst (.c (.int .i64 z)), [], []⟩ := by
  subst hb
  obtain ⟨k, hy⟩ := hy
  refine op_int2 ho hg hd hx hy fun w => ?_
  rw [run_shift.1, Nat.zero_min, Int.pow_zero, Int.mul_one, wrapI hz]
theorem op_shr0 {ty yt : TypeId} {x y : Operand} {z : Int} {b : Nat} (ho : o.op = .binOp .shr ty x y yt) (hg : o.guard = none) (hd : dstB o.dst C.nt = true) (hx : S.ev x = some (.c (.int .i64 z))) (hy : EvK S y b) (hb : b = 0) : OpG C Try.prog ops o S ⟨opT x ++ opT y, [], dw o.dst (.c (.int .i64 z)), [], []⟩ := by
  subst hb
  obtain ⟨k, hy⟩ := hy
  refine op_int2 ho hg hd hx hy fun w => ?_
  rw [run_shift.2, Nat.zero_min, Int.pow_zero, Int.fdiv_one]
theorem op_eqNilG {x y : Operand} {ty yt e0 : TypeId} {len cap : Nat} (hu' : tabLook undT ty = some (.slice e0)) (ho : o.op = .binOp .eql ty x y yt) (hg : o.guard = none) (hd : dstB o.dst C.nt = true) (hx : S.ev x = some (.c (.slice none len cap))) (hy : S.ev y = some (.c (.slice none 0 0))) : OpG C Try.prog ops o S ⟨opT x ++ opT y, [], dw o.dst (.c (.bool true)), [], []⟩ :=
  op_two (v := .c (.bool true)) hg hd hx hy fun e ρ w h1 h2 => by
    have h1' : ρ x = .slice none len cap := h1
    have h2' : ρ y = .slice none 0 0 := h2
    have hu := tabAll_look undT_ok hu'
    simp [execOp, ho, h1', h2', binOp, eqGuard, SV.c, run_equal_slice_nil w ty e0 _ _ _ hu]
/-! ### a slice of its own and a value handed back, slices handed over -/
theorem callOT_1 {j : FuncId} {vs : List SV} {T size len : Nat} {xs : List Value} {u : Value} {ns1 : List Nat} {s1 n1 : Nat} {v1 : SV} {x1 : List Value} (h1 : RdN C S ns1 s1 v1 n1 x1) (h : ∀ (e : Env) w, RdV w s1 (v1.den e) n1 x1 → Calls Try.prog j (vs.map (·.den e)).toArray w (RetOT w T size len xs u)) : CallOT C S ns1 j vs T size len xs u := fun S' e a w hS hq => h e w (h1 S' e a w hq hS)
theorem callOT_2 {j : FuncId} {vs : List SV} {T size len : Nat} {xs : List Value} {u : Value} {ns1 ns2 : List Nat} {s1 n1 s2 n2 : Nat} {v1 v2 : SV} {x1 x2 : List Value} (h1 : RdN C S ns1 s1 v1 n1 x1) (h2 : RdN C S ns2 s2 v2 n2 x2) (h : ∀ (e : Env) w, RdV w s1 (v1.den e) n1 x1 → RdV w s2 (v2.den e) n2 x2 → Calls Try.prog j (vs.map (·.den e)).toArray w (RetOT w T size len xs u)) : CallOT C S (ns1 ++ ns2) j vs T size len xs u := fun S' e a w hS hq =>
  h e w (h1 S' e a w (fun q hq' => hq q (List.mem_append_left _ hq')) hS) (h2 S' e a w (fun q hq' => hq q (List.mem_append_right _ hq')) hS)
end Go.Proofs.Ytlhedoodbadmgaa
namespace Go.Proofs.Ytlhedoodbadmgaa
open Go.RowKit
set_option maxRecDepth 100000
/-! ### lists of rows -/
theorem flat_length {α β : Type} {f : α → List β} {sz : Nat} : ∀ (l : List α), (∀ a ∈ l, (f a).length = sz) → (l.flatMap f).length = l.length * sz
  | [], _ => by simp
  | a :: l, h => by
    rw [List.flatMap_cons, List.length_append, flat_length l fun b hb => h b (List.mem_cons_of_mem _ hb), h a List.mem_cons_self, List.length_cons, Nat.add_mul]
    omega
theorem flat_row {α β : Type} {f : α → List β} {sz : Nat} : ∀ (l : List α), (∀ a ∈ l, (f a).length = sz) → ∀ (i : Nat) a, l[i]? = some a → ((l.flatMap f).drop (i * sz)).take sz = f a
  | [], _, i, a, h => by simp at h
  | b :: l, hl, 0, a, h => by
    simp at h
    subst h
    rw [List.flatMap_cons, Nat.zero_mul, List.drop_zero, List.take_append_of_le_length (by rw [hl b List.mem_cons_self]; exact Nat.le_refl _), List.take_of_length_le (by rw [hl b List.mem_cons_self]; exact Nat.le_refl _)]
  | b :: l, hl, i + 1, a, h => by
    have hb := hl b List.mem_cons_self
    have := flat_row l (fun c hc => hl c (List.mem_cons_of_mem _ hc)) i a (by simpa using h)
    rw [List.flatMap_cons, show (i + 1) * sz = (f b).length + i * sz by rw [hb, Nat.add_mul]; omega, List.drop_append]
    simpa [List.drop_of_length_le] using this
theorem flat_get {α β : Type} {f : α → List β} {sz : Nat} (l : List α) (hl : ∀ a ∈ l, (f a).length = sz) (i k : Nat) (a : α) (h : l[i]? = some a) (hk : k < sz) : (l.flatMap f)[i * sz + k]? = (f a)[k]? := by
  rw [← flat_row l hl i a h, List.getElem?_take, if_pos hk, List.getElem?_drop]
theorem flat_take {α β : Type} {f : α → List β} (l : List α) (i : Nat) (a : α) (h : l[i]? = some a) : (l.take (i + 1)).flatMap f = (l.take i).flatMap f ++ f a := by
  rw [List.take_add_one, h]
  simp
theorem flat_cut {α β : Type} {f : α → List β} {sz : Nat} : ∀ (l : List α), (∀ a ∈ l, (f a).length = sz) → ∀ k, (l.take k).flatMap f = (l.flatMap f).take (k * sz) ∧ (l.drop k).flatMap f = (l.flatMap f).drop (k * sz)
  | [], _, k => by simp
  | a :: l, _, 0 => by simp
  | a :: l, hl, k + 1 => by
    have ha := hl a List.mem_cons_self
    obtain ⟨h1, h2⟩ := flat_cut l (fun c hc => hl c (List.mem_cons_of_mem _ hc)) k
    rw [List.take_succ_cons, List.drop_succ_cons, List.flatMap_cons, List.flatMap_cons, h1, h2, show (k + 1) * sz = (f a).length + k * sz by rw [ha, Nat.add_mul]; omega, List.take_length_add_append, List.drop_length_add_append]
    exact ⟨rfl, rfl⟩
variable {C : Ctx} {ops : Array Oper} {S : St} {o : Oper}
/-! ### rows read -/
theorem op_loadsF {ty : TypeId} {x : Operand} {v : Value} {n off sz m : Nat} {xs : List Value} {B : List Value} {d : TypeDesc} (ho : o.op = .load ty x) (hg : o.guard = none) (hd : dstB o.dst C.nt = true) (hx : S.ev x = some (.c (ptrV v off))) (hm0 : C.m = []) (hf : RdV C.w0 sz v n xs) (hu' : tabLook undT ty = some d) (hda : d.isRow = true) (hi' : tabLook sizT ty = some m) (hm : 0 < m) (hb : off + m ≤ xs.length) (hB : (xs.drop off).take m = B) :
    OpG C Try.prog ops o S ⟨opT x, [], dw o.dst (.c (.agg B.toArray)), [], []⟩ := by
  have hu := tabAll_look undT_ok hu'
  have hi := tabAll_look sizT_ok hi'
  have hBl : B.length = m := by rw [← hB, List.length_take, List.length_drop]; omega
  have := op_value (C := C) (P := Try.prog) (ops := ops) (S := S) hg hd [x] [] (.c (.agg B.toArray)) fun S' e a w hS h1 h2 => by
    have hev : a.eval x = ptrV v off := hS.ev ((h1 x (by simp)).trans hx)
    obtain ⟨hl, ad, c, rfl, hr⟩ := hf
    rcases hr with h3 | ⟨b, o2, rfl, hr⟩
    · subst h3; omega
    · have hra : w.rangeAt b (o2 + off) B := fun j u hj => by
        have hjl : j < m := by have := (List.getElem?_eq_some_iff.1 hj).1; omega
        rw [← hB, List.getElem?_take, if_pos hjl, List.getElem?_drop] at hj
        have hc := hr (off + j) u hj
        have hlt := World.block_lt_of_cell? C.w0 ⟨b, o2 + (off + j), none⟩ hc
        rw [Nat.add_assoc, World.cell?_of_block (hS.frame.block b hlt (by rw [hm0]; simp))]
        exact hc
      have hl := run_loadVar_mid (P := Try.prog) w b (o2 + off) ty B d hra hu hda (by rw [hi, hBl])
      have hev : a.eval x = .pointer (some ⟨b, o2 + off, none⟩) := hev
      simp [execOp, ho, hev, Instr.loadAt, Instr.sureAddr, Sem.run_bind, hl, SV.c]
  simpa using this
/-! ### addresses of fields -/
theorem op_fldF {ty f off k sz n size : Nat} {v : Value} {xs : List Value} {x : Operand} (ho : o.op = .fieldAddr ty x f) (hg : o.guard = none) (hd : dstB o.dst C.nt = true) (hx : S.ev x = some (.c (ptrV v off))) (hf : RdV C.w0 size v n xs) (hn : 0 < n) (hk : tabLook fldT (ty * 100 + f) = some (k, sz)) (hz : (decide (f < 100) && decide (sz ≠ 0)) = true) {off' : Nat} (hoff : off + k = off') :
    OpG C Try.prog ops o S ⟨opT x, [], dw o.dst (.c (ptrV v off')), [], []⟩ := by
  subst hoff
  obtain ⟨hl, ad, c, rfl, hr⟩ := hf
  rcases hr with h3 | ⟨b, o2, rfl, hr⟩
  · omega
  simp only [Bool.and_eq_true, decide_eq_true_eq] at hz
  have hkk := tabAll_look fldT_ok hk
  obtain ⟨fs, fd, hu, hf, h1, h2⟩ := hkk
  rw [show (ty * 100 + f) / 100 = ty by omega] at hu
  rw [show (ty * 100 + f) % 100 = f by omega] at hf
  simp only at h1
  subst h1
  refine op_one (v := .c (ptrV (.slice (some ⟨b, o2, none⟩) n c) (off + fd.offset))) hg hd hx fun e ρ w h1 => ?_
  have h1' : ρ x = .pointer (some ⟨b, o2 + off, none⟩) := h1
  have hs : (sizeOf fd.type).run Try.prog w = .ok sz w := by
    cases hq : Try.prog.info? fd.type with
    | none => simp [hq] at h2
    | some i =>
      have hi : i.size = sz := by simpa [hq] using h2
      simp [sizeOf, typeInfo, hq, hi]
  simp only [execOp, ho, h1', Instr.fieldAt, fieldPlace, Sem.run_bind, run_underlying hu w, Result.andThen_ok, hf, Sem.run_pure, Instr.sureAddr, Sem.run_ite, hs, if_neg hz.2, add_place, Nat.add_assoc]
  rfl
theorem op_fldV {ty f off k sz n len size T0 : Nat} {xs : List Value} {x : Operand} (ho : o.op = .fieldAddr ty x f) (hg : o.guard = none) (hd : dstB o.dst C.nt = true) (hx : S.ev x = some (.vp n off)) (hr : S.res n = some (.own n T0 size len xs)) (hn : 0 < len) (hk : tabLook fldT (ty * 100 + f) = some (k, sz)) (hz : (decide (f < 100) && decide (sz ≠ 0)) = true) {off' : Nat} (hoff : off + k = off') :
    OpG C Try.prog ops o S ⟨opT x, [n], dw o.dst (.vp n off'), [], []⟩ := by
  subst hoff
  simp only [Bool.and_eq_true, decide_eq_true_eq] at hz
  have hkk := tabAll_look fldT_ok hk
  obtain ⟨fs, fd, hu, hf, h1, h2⟩ := hkk
  rw [show (ty * 100 + f) / 100 = ty by omega] at hu
  rw [show (ty * 100 + f) % 100 = f by omega] at hf
  simp only at h1
  subst h1
  have hs : ∀ w, (sizeOf fd.type).run Try.prog w = .ok sz w := fun w => by
    cases hq : Try.prog.info? fd.type with
    | none => simp [hq] at h2
    | some i =>
      have hi : i.size = sz := by simpa [hq] using h2
      simp [sizeOf, typeInfo, hq, hi]
  have := op_value (C := C) (P := Try.prog) (ops := ops) (S := S) hg hd [x] [n] (.vp n (off + fd.offset)) fun S' e a w hS g1 g2 => by
    have hev : a.eval x = (SV.vp n off).den e := hS.ev ((g1 x (by simp)).trans hx)
    have hok : w.ownsRow 0 T0 size (e n).v len xs := hS.res n _ ((g2 n (by simp)).trans hr)
    rcases hok.2 with ⟨h3, h4⟩ | ⟨g, cap, cur, h4, _⟩
    · omega
    · have hden : ∀ q, (SV.vp n q).den e = .pointer (some ⟨g, q, none⟩) := fun q => by simp only [SV.vp, h4]
      rw [hden] at hev
      rw [hden]
      simp only [execOp, ho, hev, Instr.fieldAt, fieldPlace, Sem.run_bind, run_underlying hu w, Result.andThen_ok, hf, Sem.run_pure, Instr.sureAddr, Sem.run_ite, hs w, if_neg hz.2, add_place]
  simpa using this
/-! ### a row appended -/
theorem op_appendE {x y : Operand} {t T sz len by_ m n q cap : Nat} {T0 : TypeId} {wr : Bool} {xs news : List Value} {A : Array Value} {ty : TypeId} {pos : String} {after : Array Edge} (hd : dstB (some n) C.nt = true) (hx : S.ev x = some (.v m)) (hr : S.res m = some (.own m T sz len xs)) (hy : S.ev y = some (.s q 0 1 cap))
    (hq : S.res q = some (.blk q T0 (.c news.toArray) wr)) (hu' : tabLook undT t = some (.slice T)) (hs' : tabLook sizT T = some sz) (hy' : tabLook bytT T = some by_) (hz' : tabLook zerT T = some A) (hA : A.size = sz) (hsz : 0 < sz) (hl2 : news.length = sz) (h1 : ∀ u ∈ news, u.oneCell' = true)
    (hmax : len + 1 ≤ 1099511627776 ∧ (len + 1) * by_ ≤ 140737488355328) (hmn : Nat.beq m n = false) :
    OpG C Try.prog ops ⟨some n, .call { callee := .builtin .append, args := #[x, y], argTypes := #[t, t] }, ty, pos, after, none⟩ S ⟨opT x ++ opT y, m :: ((SV.s q 0 1 cap).sup ++ [q]), [(n, .v n)], [(m, none), (n, some (.own n T sz (len + 1) (xs ++ news)))], [n]⟩ := by
  refine op_append hd hx hr hy hu' hs' hy' hz' hA hsz ?_ h1 hmax hmn
  have := rdn_row (C := C) (S := S) (size := sz) (len := 1) (cap := cap) hq (by rw [List.size_toArray, hl2, Nat.one_mul])
  simpa using this
end Go.Proofs.Ytlhedoodbadmgaa
namespace Go.Proofs.Ytlhedoodbadmgaa
open Go.RowKit
set_option maxRecDepth 100000
/-- What is cut out of a slice of elements of sz cells. -/
def cutZ (sz : Nat) : Value → Nat → Nat → Value
  | .slice a _ c, lo, len => .slice (if c = lo then a else a.map (·.add (lo * sz))) len (c - lo)
  | v, _, _ => v
theorem FS.cutZ {w : World} {sz : Nat} {v : Value} {n : Nat} {xs : List Value} (h : FS w sz v n xs) {lo len : Nat} (hl : lo + len ≤ n) : FS w sz (cutZ sz v lo len) len ((xs.drop (lo * sz)).take (len * sz)) := by
  obtain ⟨⟨hlen, a, c, hv, hr⟩, a', c', hv', hc⟩ := h
  rw [hv] at hv'
  cases hv'
  subst hv
  have hm : lo * sz + len * sz ≤ n * sz := by rw [← Nat.add_mul]; exact Nat.mul_le_mul_right _ hl
  refine ⟨⟨by rw [List.length_take, List.length_drop]; omega, _, _, rfl, ?_⟩, _, _, rfl, by omega⟩
  rcases hr with h0 | ⟨b, off, rfl, hr⟩
  · exact .inl (by omega)
  · by_cases hcl : c = lo
    · left; omega
    · refine .inr ⟨b, off + lo * sz, by rw [if_neg hcl]; simp [add_place], fun j u hu => ?_⟩
      rw [List.getElem?_take] at hu
      split at hu
      · rw [List.getElem?_drop] at hu
        rw [Nat.add_assoc]
        exact hr _ u hu
      · cases hu
theorem FS.cutE {α : Type} {f : α → List Value} {w : World} {sz : Nat} {v : Value} {n : Nat} {es : List α} (h : FS w sz v n (es.flatMap f)) (hf : ∀ e ∈ es, (f e).length = sz) {lo len : Nat} (hl : lo + len ≤ n) : FS w sz (Go.Proofs.Ytlhedoodbadmgaa.cutZ sz v lo len) len (((es.drop lo).take len).flatMap f) := by
  have := h.cutZ hl
  rwa [← (flat_cut es hf lo).2, ← (flat_cut (es.drop lo) (fun e he => hf e (List.mem_of_mem_drop he)) len).1] at this
variable {C : Ctx} {ops : Array Oper} {S : St} {o : Oper}
theorem op_cutZ {t T : TypeId} {x : Operand} {v : Value} {ol oh : Option Operand} {lo hi sz n : Nat} {xs : List Value} (ho : o.op = .slice t x ol oh none) (hg : o.guard = none) (hd : dstB o.dst C.nt = true) (hx : S.ev x = some (.c v)) (hu' : tabLook undT t = some (.slice T)) (hs' : tabLook sizT T = some sz) (hf : FS C.w0 sz v n xs) (hl : EvO S ol 0 lo := by first | exact evO_none | exact evO_some (by first | exact evK_const rfl | exact evK_tmp rfl)) (hh : EvO S oh n hi := by first | exact evO_none | exact evO_some (by first | exact evK_const rfl | exact evK_tmp rfl)) (h1 : lo ≤ hi := by first | omega | decide) (h2 : hi ≤ n := by first | omega | decide) :
    OpG C Try.prog ops o S ⟨opT x ++ (opO ol ++ opO oh), [], dw o.dst (.c (cutZ sz v lo (hi - lo))), [], []⟩ := by
  obtain ⟨_, a, c, rfl, hc⟩ := hf
  exact op_cut ho hg hd hx hu' hs' hl hh h1 (fun S' e a' w _ hS => ⟨a, c, rfl, by omega, rfl⟩) rfl
theorem op_storesC {ty : TypeId} {x y : Operand} {n : Nat} {T : TypeId} {A : SA} {a : Array Value} {m : Nat} (ho : o.op = .store ty x y) (hg : o.guard = none) (hdst : o.dst = none) (hx : S.ev x = some (.p n 0)) (hy : S.ev y = some (.c (.agg a))) (hr : S.res n = some (.blk n T A))
    (hi' : tabLook sizT ty = some m) (hsz : a.size = m) (h1c : a.all (·.oneCell') = true) (hm : ∀ e, (A.den e).size = m := by (fail_if_success (with_reducible apply trap_sm)); first | ((with_reducible apply sm_vals); exact (by first | omega | (simp; omega) | (simp <;> fail) | omega)) | ((with_reducible apply sm_c); rfl) | ((with_reducible apply sm_l); rfl)) :
    OpG C Try.prog ops o S ⟨opT x ++ opT y, n :: (SA.c a).sup, [], [(n, some (.blk n T (.c a)))], []⟩ := op_stores ho hg hdst hx hy hr hi' hm (fun _ => rfl) (fun _ => hsz) (fun _ => h1c)
end Go.Proofs.Ytlhedoodbadmgaa
namespace Go.Proofs.Ytlhedoodbadmgaa
open Go.RowKit
set_option maxRecDepth 100000
section
variable {C : Ctx} {ops : Array Oper} {S : St} {o : Oper} {x y : Operand} {ty yt : TypeId}
theorem op_remI {a b : Int} (ho : o.op = .binOp .rem ty x y yt) (hg : o.guard = none) (hd : dstB o.dst C.nt = true) (hx : EvI S x a) (hy : EvI S y b) (h : b ≠ 0) : OpG C Try.prog ops o S ⟨opT x ++ opT y, [], dw o.dst (.c (.int .i64 (a.tmod b))), [], []⟩ :=
  op_int2 ho hg hd hx hy fun w => (run_div h).2
theorem op_remK {a b : Int} {k : Nat} (ho : o.op = .binOp .rem ty x y yt) (hg : o.guard = none) (hd : dstB o.dst C.nt = true) (hx : EvI S x a) (hy : EvI S y b) (h : b ≠ 0) (hk : a.tmod b = ((k : Nat) : Int)) : OpG C Try.prog ops o S ⟨opT x ++ opT y, [], dw o.dst (.c (.int .i64 ((k : Nat) : Int))), [], []⟩ := by
  rw [← hk]
  exact op_remI ho hg hd hx hy h
end
theorem cut_mod (c : Int) (n : Nat) (h : 0 < n) : ∃ z : Int, ∃ k : Nat, k < n ∧ c.tmod n = z ∧ -(n : Int) < z ∧ z < n ∧ (z + n).tmod n = (k : Int) := by
  have hn : (0 : Int) < n := by omega
  have h1 : -(n : Int) < c.tmod n := by
    rcases Int.le_total 0 c with h0 | h0
    · have := Int.tmod_nonneg (n : Int) h0
      omega
    · have h2 := Int.tmod_lt_of_pos (-c) hn
      rw [Int.neg_tmod] at h2
      omega
  have h2 := Int.tmod_lt_of_pos c hn
  refine ⟨c.tmod n, ((c.tmod n + n).tmod n).toNat, ?_, rfl, h1, h2, ?_⟩
  · have h3 := Int.tmod_lt_of_pos (c.tmod n + n) hn
    have h4 := Int.tmod_nonneg (n : Int) (show 0 ≤ c.tmod n + n by omega)
    omega
  · have h4 := Int.tmod_nonneg (n : Int) (show 0 ≤ c.tmod n + n by omega)
    omega
section
variable {C : Ctx} {ops : Array Oper} {S : St} {o : Oper}
theorem op_storeZ {sz : Nat} {x y : Operand} {t : TypeId} {n off len : Nat} {T0 : TypeId} {xs ys : List Value} {v : SV} {u : Value} (ho : o.op = .store t x y) (hg : o.guard = none) (hdst : o.dst = none) (hx : S.ev x = some (.vp n off)) (hy : S.ev y = some v) (hr : S.res n = some (.own n T0 sz len xs)) (hi' : tabLook sizT t = some 1) (hv : v = .c u) (h1c : u.oneCell' = true) (hoff : off < len * sz) (hys : xs.set off u = ys) :
    OpG C Try.prog ops o S ⟨opT x ++ opT y, [n], [], [(n, some (.own n T0 sz len ys))], []⟩ := by
  have hi := tabAll_look sizT_ok hi'
  subst hv hys
  refine opG_mk hg fun S' h1 h2 h3 e a w hS => ?_
  have hr' := (h2 n (by simp)).trans hr
  have hok : w.ownsRow 0 T0 sz (e n).v len xs := hS.res n _ hr'
  have hxl : xs.length = len * sz := hok.1
  rcases hok.2 with ⟨_, h0⟩ | ⟨g, cap, cur, hev, _, hb, hnc, hcm, hcs, htk⟩
  · subst h0; omega
  have hmul := Nat.mul_le_mul_right sz hnc
  have hevx : a.eval x = .pointer (some ⟨g, off, none⟩) := by
    rw [hS.ev ((ev_like h1 fun _ h => List.mem_append_left _ h).trans hx)]
    show (match (e n).v with | .slice (some a) _ _ => Value.pointer (some ⟨a.block, off, none⟩) | _ => undef) = _
    rw [hev]
  have hevy : a.eval y = u := hS.ev ((ev_like h1 fun _ h => List.mem_append_right _ h).trans hy)
  have hok2 := hok
  rw [hev] at hok2
  obtain ⟨hst, hgr⟩ := hok2.stored off u
  have hc : w.cell? ⟨g, off, none⟩ = some (cur[off]'(by omega)) := (cell_of_row w _ off _ _ _ hb).trans (by simp)
  have hf : w.frozen? ⟨g, off, none⟩ = false := frozen_of_row w _ off _ _ hb
  have hcells : u.cells = #[u] := by cases hh : u <;> rw [hh] at h1c <;> first | rfl | (simp [Value.oneCell'] at h1c)
  have hmine : ∀ b, (e n).v.ownBlock = some b → C.mine b := fun b hb => hS.mine n _ hr' rfl b hb
  have hg0 : (e n).v.ownBlock = some g := by rw [hev]; rfl
  refine wp_skip' (w' := w.setCell ⟨g, off, none⟩ u) ?_ ⟨e, ?_⟩
  · cases hq : Try.prog.info? t with
    | none => simp [hq] at hi
    | some i =>
      have hs : i.size = 1 := by simpa [hq] using hi
      simp [execOp, ho, hevx, hevy, Instr.storeAt, Instr.sureAddr, storeVar, sizeOf, typeInfo, hq, hs, hcells, storeCells, run_store Try.prog _ _ _ _ h1c, hc, hf, Addr.add]
  · rw [hdst]
    refine ⟨hS.defers, hS.size, hS.tmp, fun m r h => ?_, fun m r h hw b hb => ?_, fun m k r r' h h' hne hw b hb => ?_, ⟨hS.frame.os, hS.frame.tape, hS.frame.output, by simpa [World.setCell] using hS.frame.size, fun k hk hkm => ?_⟩⟩
    · have h : (St.mk S'.t ((n, some (.own n T0 sz len (xs.set off u))) :: S'.h)).res m = some r := h
      rw [St.res_cons] at h
      split at h
      · cases h
        show (w.setCell ⟨g, off, none⟩ u).ownsRow 0 T0 sz (e n).v len (xs.set off u)
        rw [hev]; exact hst
      · rename_i hne
        refine r.loc e w _ (fun b hfb => Below.heap_setCell w _ _ b fun he => ?_) (hS.res m r h)
        have he : b = g := he
        subst he
        exact hS.sep n m _ r hr' h hne rfl b hg0 hfb
    · have h : (St.mk S'.t ((n, some (.own n T0 sz len (xs.set off u))) :: S'.h)).res m = some r := h
      rw [St.res_cons] at h
      split at h
      · cases h; exact hmine b hb
      · exact hS.mine m r h hw b hb
    · have h : (St.mk S'.t ((n, some (.own n T0 sz len (xs.set off u))) :: S'.h)).res m = some r := h
      have h' : (St.mk S'.t ((n, some (.own n T0 sz len (xs.set off u))) :: S'.h)).res k = some r' := h'
      rw [St.res_cons] at h h'
      split at h
      · rename_i h1; cases h; subst h1
        split at h'
        · rename_i h2; exact absurd h2 hne
        · exact hS.sep n k _ r' hr' h' hne rfl b hb
      · split at h'
        · rename_i h2; cases h'; subst h2
          exact hS.sep m n r _ h hr' hne hw b hb
        · exact hS.sep m k r r' h h' hne hw b hb
    · refine (Below.heap_setCell w ⟨g, off, none⟩ u k fun he => ?_).trans (hS.frame.block k hk hkm)
      have he : k = g := he
      subst he
      rcases hmine k hg0 with h | h
      · omega
      · exact hkm h
end
end Go.Proofs.Ytlhedoodbadmgaa
