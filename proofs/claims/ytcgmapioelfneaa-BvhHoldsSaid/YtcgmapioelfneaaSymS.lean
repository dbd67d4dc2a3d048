/- Objects with a slice of their own in them; slices that begin somewhere in a block of their own. No condition. -/
import Derived.Test.YtcgmapioelfneaaMgSymK
namespace Go.Proofs.Ytcgmapioelfneaa
open Go.RowKit
set_option maxRecDepth 100000
/-! ### a slice that lies in a block of its own, from some place on -/
def ownsSub (w : World) (T : TypeId) (v : Value) (n : Nat) (xs : List Value) : Prop :=
  xs.length = n ∧ ((v = .slice none 0 0 ∧ n = 0) ∨ ∃ g off cap cur, v = .slice (some ⟨g, off, none⟩) n cap ∧ w.heap[g]? = some (.cells cur T (0, 0)) ∧ n ≤ cap ∧ cap ≤ maxLen ∧ off + cap ≤ cur.size ∧ (cur.toList.drop off).take n = xs)
theorem ownsSub.loc {w w' : World} {T : TypeId} {v : Value} {n : Nat} {xs : List Value} (h : ownsSub w T v n xs) (hb : ∀ b, v.ownBlock = some b → w'.heap[b]? = w.heap[b]?) : ownsSub w' T v n xs := by
  refine ⟨h.1, ?_⟩
  rcases h.2 with h2 | ⟨g, off, cap, cur, hv, hg, rest⟩
  · exact .inl h2
  · exact .inr ⟨g, off, cap, cur, hv, (hb g (by rw [hv]; rfl)).trans hg, rest⟩
theorem ownsSub.lt {w : World} {T : TypeId} {v : Value} {n : Nat} {xs : List Value} (h : ownsSub w T v n xs) {b : Nat} (hb : v.ownBlock = some b) : b < w.heap.size := by
  rcases h.2 with ⟨rfl, _⟩ | ⟨g, off, cap, cur, rfl, hg, rest⟩
  · cases hb
  · cases hb; exact (Array.getElem?_eq_some_iff.1 hg).1
theorem ownsSub.cut {w : World} {T : TypeId} {v : Value} {n lo : Nat} {xs : List Value} (h : ownsSub w T v n xs) (hlo : lo ≤ n) : ownsSub w T (cutV v lo (n - lo)) (n - lo) (xs.drop lo) := by
  refine ⟨by rw [List.length_drop, h.1], ?_⟩
  rcases h.2 with ⟨rfl, rfl⟩ | ⟨g, off, cap, cur, rfl, hg, hn, hm, hs, ht⟩
  · have : lo = 0 := by omega
    subst this
    exact .inl ⟨rfl, rfl⟩
  · right
    by_cases hc : cap = lo
    · refine ⟨g, off, cap - lo, cur, by simp [cutV, hc], hg, by omega, by omega, by omega, ?_⟩
      have h0 : n - lo = 0 := by omega
      have h1 : xs.drop lo = [] := List.drop_of_length_le (by rw [h.1]; omega)
      rw [h0, h1, List.take_zero]
    · refine ⟨g, off + lo, cap - lo, cur, by simp [cutV, hc, add_place], hg, by omega, by omega, by omega, ?_⟩
      rw [← ht, ← List.drop_drop, List.drop_take]
theorem ownsSub.own {w : World} {T : TypeId} {v : Value} {n : Nat} {xs : List Value} (h : ownsSub w T v n xs) : v.cells = #[v] ∧ v.oneCell' = true := by
  rcases h.2 with ⟨rfl, _⟩ | ⟨g, off, cap, cur, rfl, _⟩ <;> exact ⟨rfl, rfl⟩
theorem ownsSub.cell {w : World} {T : TypeId} {n : Nat} {xs : List Value} {g off cap : Nat} (h : ownsSub w T (.slice (some ⟨g, off, none⟩) n cap) n xs) (j : Nat) (u : Value) (hu : xs[j]? = some u) : w.cell? ⟨g, off + j, none⟩ = some u := by
  rcases h.2 with ⟨h2, _⟩ | ⟨g', off', cap', cur, hv, hg, hn, hm, hs, ht⟩
  · cases h2
  · cases hv
    rw [cell_of_row w g _ cur T (0, 0) hg, ← Array.getElem?_toList, ← List.getElem?_drop]
    have hj : j < n := by have := (List.getElem?_eq_some_iff.1 hu).1; rw [h.1] at this; exact this
    rw [← ht, List.getElem?_take, if_pos hj] at hu
    exact hu
def Res.osub (n : Nat) (T : TypeId) (len : Nat) (xs : List Value) : Res where
  foot e b := (e n).v.ownBlock = some b
  ok e w := ownsSub w T (e n).v len xs
  sup := [n]
  wr := true
  ind e e' h := by have h1 := h n (by simp); simp only [h1, and_self]
  loc e w w' h hok := hok.loc h
  lt e w b hok hf := hok.lt hf
/-! ### what stands for a slice of its own -/
structure IsOwn (R : Res) (n : Nat) (K : World → Value → Prop) : Prop where
  foot : ∀ e b, R.foot e b = ((e n).v.ownBlock = some b)
  ok : ∀ e w, R.ok e w = K w (e n).v
  sup : R.sup = [n]
  wr : R.wr = true
def ownK (T : TypeId) (size len : Nat) (xs : List Value) : World → Value → Prop := fun w v => w.ownsRow 0 T size v len xs
variable {C : Ctx} {ops : Array Oper} {S : St} {o : Oper}
/-! ### some resources changed -/
theorem res_chg {t : List (Nat × SV)} {N : List (Nat × Res)} {K : List Nat} {h : List (Nat × Option Res)} {n : Nat} {r : Res} (hr : (St.mk t (N.map (fun p => (p.1, some p.2)) ++ (K.map (fun k => (k, none)) ++ h))).res n = some r) : (n, r) ∈ N ∨ (n ∉ K ∧ (St.mk t h).res n = some r) := by
  unfold St.res at hr ⊢
  rw [look_append, look_append] at hr
  cases h1 : look (N.map (fun p => (p.1, some p.2))) n with
  | some x =>
    rw [h1] at hr
    left
    have := look_some_mem h1
    obtain ⟨p, hp, he⟩ := List.mem_map.1 this
    cases he
    cases hr
    exact hp
  | none =>
    rw [h1] at hr
    right
    cases h2 : look (K.map (fun k => ((k, none) : Nat × Option Res))) n with
    | some x =>
      rw [h2] at hr
      have := look_some_mem h2
      obtain ⟨p, hp, he⟩ := List.mem_map.1 this
      cases he
      cases hr
    | none =>
      rw [h2] at hr
      refine ⟨fun hn => ?_, hr⟩
      obtain ⟨x, hx⟩ := look_isSome (l := K.map (fun k => ((k, none) : Nat × Option Res))) (i := n) (by simpa using hn)
      rw [hx] at h2; cases h2
theorem Holds.chg {e : Env} {a : Act} {w w' : World} (hS : Holds C S e a w) (N : List (Nat × Res)) (K : List Nat) {d : Nat} (hf : S.fresh d) (x : Ent)
    (hos : w'.os = w.os) (htape : w'.tape = w.tape) (hout : w'.output = w.output) (hsz : w.heap.size ≤ w'.heap.size)
    (hK : ∀ k ∈ K, ∀ r, S.res k = some r → r.wr = true)
    (hblk : ∀ b, b < w.heap.size → (∀ k ∈ K, ∀ r, S.res k = some r → ¬ r.foot e b) → w'.heap[b]? = w.heap[b]?)
    (hok : ∀ p ∈ N, p.2.ok (e.set d x) w')
    (hfoot : ∀ p ∈ N, ∀ b, p.2.foot (e.set d x) b → (∃ k ∈ K, ∃ r, S.res k = some r ∧ r.foot e b) ∨ w.heap.size ≤ b)
    (hsep : ∀ p ∈ N, ∀ q ∈ N, p.1 ≠ q.1 → ∀ b, p.2.foot (e.set d x) b → ¬ q.2.foot (e.set d x) b) :
    Holds C ⟨S.t, N.map (fun p => (p.1, some p.2)) ++ (K.map (fun k => (k, none)) ++ S.h)⟩ (e.set d x) a w' := by
  have h1 := hS.rename hf x
  have hind : ∀ k r, S.res k = some r → r.foot (e.set d x) = r.foot e ∧ r.ok (e.set d x) = r.ok e := fun k r h => r.ind e _ fun q hq => Env.set_ne e _ (fun he => hf.2 k r h (he ▸ hq))
  refine ⟨h1.defers, h1.size, h1.tmp, fun n r hn => ?_, fun n r hn hw b hb => ?_, fun n m r r' hn hm hne hw b hb hb' => ?_, ⟨hos.trans hS.frame.os, htape.trans hS.frame.tape, hout.trans hS.frame.output, Nat.le_trans hS.frame.size hsz, fun k hk hkm => ?_⟩⟩
  · rcases res_chg hn with h2 | ⟨h2, h3⟩
    · exact hok _ h2
    · rw [(hind n r h3).2]
      refine r.loc e w w' (fun b hb => hblk b (r.lt e w b (hS.res n r h3) hb) fun k hk rk hrk hfk => ?_) (hS.res n r h3)
      exact hS.sep k n rk r hrk h3 (fun he => h2 (he ▸ hk)) (hK k hk rk hrk) b hfk hb
  · rcases res_chg hn with h2 | ⟨h2, h3⟩
    · rcases hfoot _ h2 b hb with ⟨k, hk, rk, hrk, hfk⟩ | h4
      · exact hS.mine k rk hrk (hK k hk rk hrk) b hfk
      · exact .inl (Nat.le_trans hS.frame.size h4)
    · exact h1.mine n r h3 hw b hb
  · rcases res_chg hn with h2 | ⟨h2, h3⟩
    · rcases res_chg hm with g2 | ⟨g2, g3⟩
      · exact hsep _ h2 _ g2 hne b hb hb'
      · rw [(hind m r' g3).1] at hb'
        rcases hfoot _ h2 b hb with ⟨k, hk, rk, hrk, hfk⟩ | h4
        · exact hS.sep k m rk r' hrk g3 (fun he => g2 (he ▸ hk)) (hK k hk rk hrk) b hfk hb'
        · exact absurd (r'.lt e w b (hS.res m r' g3) hb') (by omega)
    · rcases res_chg hm with g2 | ⟨g2, g3⟩
      · rw [(hind n r h3).1] at hb
        rcases hfoot _ g2 b hb' with ⟨k, hk, rk, hrk, hfk⟩ | h4
        · exact hS.sep k n rk r hrk h3 (fun he => h2 (he ▸ hk)) (hK k hk rk hrk) b hfk hb
        · exact absurd (r.lt e w b (hS.res n r h3) hb) (by omega)
      · exact h1.sep n m r r' h3 g3 hne hw b hb hb'
  · refine (hblk k (Nat.lt_of_lt_of_le hk hS.frame.size) fun q hq r hr hfq => ?_).trans (hS.frame.block k hk hkm)
    rcases hS.mine q r hr (hK q hq r hr) k hfq with h | h
    · omega
    · exact hkm h
/-! ### the walk of a method of such an object -/
/-! ### calls of such methods -/
end Go.Proofs.Ytcgmapioelfneaa
