/- Slices of the run's own, told by names: appended to, cut, read, written. No condition. -/
import Derived.Test.YtcgmapioelfneaaSymC
import Derived.Laws.OwnMore
namespace Go.Proofs.Ytcgmapioelfneaa
open Go.RowKit

/-! ### values that are slices -/
/-- The address of a cell of the block in which an own slice lies. -/
def SV.vp (n off : Nat) : SV := ⟨6, fun e => match (e n).v with | .slice (some a) _ _ => .pointer (some ⟨a.block, off, none⟩) | _ => undef, [n], fun e e' h => by simp only [h n (by simp)]⟩
/-- A part of an own slice. -/
def cutV (v : Value) (lo len : Nat) : Value := match v with | .slice a _ c => .slice (if c = lo then a else a.map (·.add lo)) len (c - lo) | v => v
def SV.sub (n lo len : Nat) : SV := ⟨7, fun e => cutV (e n).v lo len, [n], fun e e' h => by simp only [h n (by simp)]⟩
/-- The value is a slice of n elements, which are read as these cells. -/
def RdV (w : World) (size : Nat) (v : Value) (n : Nat) (xs : List Value) : Prop :=
  xs.length = n * size ∧ ∃ a c, v = .slice a n c ∧ (n = 0 ∨ ∃ b off, a = some ⟨b, off, none⟩ ∧ ∀ j u, xs[j]? = some u → w.cell? ⟨b, off + j, none⟩ = some u)
theorem RdV.later {w w' : World} {size : Nat} {v : Value} {n : Nat} {xs : List Value} (h : RdV w size v n xs) (hs : 0 < size) (hb : ∀ b, b < w.heap.size → w'.heap[b]? = w.heap[b]?) : RdV w' size v n xs := by
  obtain ⟨hl, a, c, rfl, h⟩ := h
  refine ⟨hl, a, c, rfl, ?_⟩
  rcases h with h | ⟨b, off, rfl, h⟩
  · exact .inl h
  · refine .inr ⟨b, off, rfl, fun j u hu => ?_⟩
    have := h j u hu
    rw [World.cell?_of_block (hb b (World.block_lt_of_cell? w ⟨b, off + j, none⟩ this))]
    exact this
/-- In each state that is like S at these names the value is read so. -/
def RdN (C : Ctx) (S : St) (ns : List Nat) (size : Nat) (v : SV) (n : Nat) (xs : List Value) : Prop :=
  ∀ (S' : St) e a w, (∀ x ∈ ns, S'.res x = S.res x) → Holds C S' e a w → RdV w size (v.den e) n xs
section
variable {C : Ctx} {ops : Array Oper} {S : St} {o : Oper}
theorem rdn_own {n : Nat} {T : TypeId} {size len : Nat} {xs : List Value} (hr : S.res n = some (.own n T size len xs)) : RdN C S [n] size (.v n) len xs := by
  intro S' e a w h hS
  have hok : w.ownsRow 0 T size (e n).v len xs := hS.res n _ ((h n (by simp)).trans hr)
  refine ⟨hok.1, ?_⟩
  rcases hok.2 with ⟨h1, h2⟩ | ⟨g, cap, cur, h1, _, h3, _, _, _, h4⟩
  · exact ⟨none, 0, by rw [show (SV.v n).den e = (e n).v from rfl, h1, h2], .inl h2⟩
  · refine ⟨some ⟨g, 0, none⟩, cap, h1, .inr ⟨g, 0, rfl, fun j u hu => ?_⟩⟩
    have := hok.cells (g := g) (by rw [h1]; rfl) j u hu
    rwa [add_place] at this
theorem rdn_row {n : Nat} {T : TypeId} {wr : Bool} {A : Array Value} {size len cap : Nat} (hr : S.res n = some (.blk n T (.c A) wr)) (hc : A.size = len * size) : RdN C S [n] size (.s n 0 len cap) len A.toList := by
  intro S' e a w h hS
  obtain ⟨fr, hb, _⟩ := res_blk hS ((h n (by simp)).trans hr)
  refine ⟨by simpa using hc, some ⟨(e n).b, 0, none⟩, cap, rfl, .inr ⟨(e n).b, 0, rfl, fun j u hu => ?_⟩⟩
  rw [cell_of_row w _ _ _ _ _ hb, Nat.zero_add]
  simpa [SA.c] using hu
theorem rdn_old {v : Value} {size n : Nat} {xs : List Value} (h : RdV C.w0 size v n xs) (hs : 0 < size) (hm : C.m = []) : RdN C S [] size (.c v) n xs := by
  intro S' e a w _ hS
  exact h.later hs fun b hb => hS.frame.block b hb (by rw [hm]; simp)
/-! ### append -/
theorem own_fresh {w : World} {T size n : Nat} {xs : List Value} {v : Value} {m : Nat} {news : List Value} {t ty : TypeId} {by_ : Nat} {A : Array Value} (hu' : tabLook undT t = some (.slice T)) (hs' : tabLook sizT T = some size) (hy' : tabLook bytT T = some by_) (hz' : tabLook zerT T = some A) (hA : A.size = size) (hsz : 0 < size)
    (hown : w.ownsRow 0 T size v n xs) {v2 : Value} (hrd : RdV w size v2 m news) (h1 : ∀ u ∈ news, u.oneCell' = true) (hmax : n + m ≤ maxLen) (hbytes : (n + m) * by_ ≤ 140737488355328) :
    ∃ v' w', (Builtin.append_ #[t, t] ty #[v, v2]).run Try.prog w = .ok v' w' ∧ w'.ownsRow 0 T size v' (n + m) (xs ++ news) ∧ w.grownBy w' v.ownBlock ∧ ∀ b, v'.ownBlock = some b → v.ownBlock = some b ∨ w.heap.size ≤ b := by
  have hu := tabAll_look undT_ok hu'
  have hs := tabAll_look sizT_ok hs'
  have hy := tabAll_look bytT_ok hy'
  have hz := tabAll_look zerT_ok hz'
  obtain ⟨i, hi, his, hib, z, hiz, hzs⟩ : ∃ i, Try.prog.info? T = some i ∧ i.size = size ∧ i.bytes = by_ ∧ ∃ z, i.zero = some z ∧ z.cells = A := by
    cases hq : Try.prog.info? T with
    | none => simp [hq] at hs
    | some i =>
      cases hzz : i.zero with
      | none => simp [hq, hzz] at hz
      | some z => exact ⟨i, rfl, by simpa [hq] using hs, by simpa [hq] using hy, z, hzz, by simpa [hq, hzz] using hz⟩
  obtain ⟨hl, a, c, rfl, hcell⟩ := hrd
  by_cases hm0 : m = 0
  · subst hm0
    have hn0 : news = [] := List.eq_nil_of_length_eq_zero (by simpa using hl)
    subst hn0
    have hrun : (Builtin.append_ #[t, t] ty #[v, .slice a 0 c]).run Try.prog w = .ok v w := by
      rcases hown.2 with ⟨rfl, rfl⟩ | ⟨g, cap, cur, rfl, _, _, hnc, _⟩
      · cases a <;> simp [Builtin.append_, run_underlying hu, sizeOf, typeInfo, hi, Builtin.lenOf, Builtin.firstCells, loadCells, loadCellsFrom]
      · cases a <;> simp [Builtin.append_, run_underlying hu, sizeOf, typeInfo, hi, Builtin.lenOf, Builtin.firstCells, hnc, storeCells, loadCells, loadCellsFrom]
    exact ⟨v, w, hrun, by simpa using hown, ⟨rfl, rfl, rfl, Nat.le_refl _, fun _ _ _ => rfl⟩, fun b hb => .inl hb⟩
  · rcases hcell with h | ⟨b, off, rfl, hcell⟩
    · exact absurd h hm0
    have hnews : ∀ j u, news[j]? = some u → w.cell? ((⟨b, off, none⟩ : Addr).add j) = some u := fun j u hu => by rw [add_place]; exact hcell j u hu
    obtain ⟨v', w', h2, h3, h4, _⟩ := run_append_own (P := Try.prog) w 0 t ty T i z size by_ hu hi hiz his hib (by rw [hzs]; exact hA) hsz v n xs hown ⟨b, off, none⟩ m c news hl hnews h1 hmax hbytes (Nat.zero_le _)
    refine ⟨v', w', h2, h3, h4, fun q hq => ?_⟩
    have h63 : ((n + m : Nat) : Int) ≤ 9223372036854775807 := by simp only [maxLen] at hmax; omega
    rcases hown.2 with ⟨rfl, rfl⟩ | ⟨g, cap, cur, rfl, hbg, hg, hnc, hcm, hcs, htake⟩
    · have hr := run_append_nil (P := Try.prog) w t ty T i z hu hi hiz ⟨b, off, none⟩ m c news (by rw [his]; exact hl) hnews (by omega) (by omega) (by rw [hib]; have := hbytes; simp only [Nat.zero_add] at this; omega)
      rw [h2] at hr
      cases hr
      right
      simp [Value.ownBlock] at hq
      omega
    · by_cases hroom : n + m ≤ cap
      · obtain ⟨w2, hr, _⟩ := run_append_fits (P := Try.prog) w 0 t ty T i size hu hi his g n cap xs hown ⟨b, off, none⟩ m c news hl hnews h1 hroom
        rw [h2] at hr
        cases hr
        exact .inl hq
      · have holds : ∀ j u, xs[j]? = some u → w.cell? ((⟨g, 0, none⟩ : Addr).add j) = some u := hown.cells (g := g) rfl
        have hr := run_append_grow (P := Try.prog) w t ty T i z hu hi hiz ⟨g, 0, none⟩ n cap xs (by rw [his]; exact hown.1) holds ⟨b, off, none⟩ m c news (by rw [his]; exact hl) hnews (by omega) h63 (growslice_fits (by omega) (by rw [hib]; exact hbytes))
        rw [h2] at hr
        cases hr
        right
        simp [Value.ownBlock] at hq
        omega

/-- A state behind an append: the old row is gone, the new one is there. -/
theorem Holds.own {e : Env} {a : Act} {w w' : World} (hS : Holds C S e a w) {m n T size len : Nat} {xs : List Value} {v v' : Value} (hm : m ≠ n) (hf : S.fresh n) (hold : v.ownBlock = none ∨ ∃ T0 s0 l0 x0, S.res m = some (.own m T0 s0 l0 x0) ∧ v = (e m).v)
    (hg : w.grownBy w' v.ownBlock) (hown : w'.ownsRow 0 T size v' len xs) (hb : ∀ b, v'.ownBlock = some b → v.ownBlock = some b ∨ w.heap.size ≤ b) : Holds C ⟨S.t, (m, none) :: (n, some (.own n T size len xs)) :: S.h⟩ (e.set n ⟨0, 0, v'⟩) a w' := by
  have hmine : ∀ b, v.ownBlock = some b → C.mine b := by
    intro b hb2
    rcases hold with h | ⟨T0, s0, l0, x0, h, hv⟩
    · rw [h] at hb2; cases hb2
    · exact hS.mine m _ h rfl b (by rw [hv] at hb2; exact hb2)
  have hother : ∀ k r, S.res k = some r → k ≠ m → ∀ b, r.foot e b → v.ownBlock ≠ some b := by
    intro k r hr hk b hfb he
    rcases hold with h | ⟨T0, s0, l0, x0, h, hv⟩
    · rw [h] at he; cases he
    · exact hS.sep m k _ r h hr (fun x => hk x.symm) rfl b (by rw [hv] at he; exact he) hfb
  have hind : ∀ k r, S.res k = some r → r.foot (e.set n ⟨0, 0, v'⟩) = r.foot e ∧ r.ok (e.set n ⟨0, 0, v'⟩) = r.ok e := fun k r h => r.ind e _ fun q hq => Env.set_ne e _ (fun he => hf.2 k r h (he ▸ hq))
  have hres : ∀ k r, (St.mk S.t ((m, none) :: (n, some (.own n T size len xs)) :: S.h)).res k = some r → (k = n ∧ r = .own n T size len xs) ∨ (k ≠ m ∧ k ≠ n ∧ S.res k = some r) := by
    intro k r h
    rw [St.res_cons] at h
    split at h
    · cases h
    · rename_i h1
      rw [St.res_cons] at h
      split at h
      · rename_i h2; cases h; exact .inl ⟨h2.symm, rfl⟩
      · rename_i h2; exact .inr ⟨fun x => h1 x.symm, fun x => h2 x.symm, h⟩
  have hfoot : ∀ b, (Res.own n T size len xs).foot (e.set n ⟨0, 0, v'⟩) b → v'.ownBlock = some b := by
    intro b h
    have h : ((e.set n ⟨0, 0, v'⟩) n).v.ownBlock = some b := h
    rw [Env.set_self] at h; exact h
  refine ⟨hS.defers, hS.size, fun i u hu => ?_, fun k r h => ?_, fun k r h hw b hfb => ?_, fun k q r r' h h' hne hw b hfb hfb' => ?_, ⟨hg.os.trans hS.frame.os, hg.tape.trans hS.frame.tape, hg.output.trans hS.frame.output, Nat.le_trans hS.frame.size hg.size, fun k hk hkm => ?_⟩⟩
  · have : u.den (e.set n ⟨0, 0, v'⟩) = u.den e := u.ind e _ fun q hq => Env.set_ne e _ (fun he => hf.1 i u hu (he ▸ hq))
    rw [this]; exact hS.tmp i u hu
  · rcases hres k r h with ⟨rfl, rfl⟩ | ⟨h1, h2, h3⟩
    · show w'.ownsRow 0 T size ((e.set k ⟨0, 0, v'⟩) k).v len xs
      rw [Env.set_self]; exact hown
    · rw [(hind k r h3).2]
      refine r.loc e w w' (fun b hfb => hg.block b (r.lt e w b (hS.res k r h3) hfb) fun he => hother k r h3 h1 b hfb he.symm) (hS.res k r h3)
  · rcases hres k r h with ⟨rfl, rfl⟩ | ⟨h1, h2, h3⟩
    · rcases hb b (hfoot b hfb) with h4 | h4
      · exact hmine b h4
      · exact .inl (Nat.le_trans hS.frame.size h4)
    · exact hS.mine k r h3 hw b (by rw [← (hind k r h3).1]; exact hfb)
  · rcases hres k r h with ⟨rfl, rfl⟩ | ⟨h1, h2, h3⟩
    · rcases hres q r' h' with ⟨rfl, rfl⟩ | ⟨g1, g2, g3⟩
      · exact hne rfl
      · rw [(hind q r' g3).1] at hfb'
        rcases hb b (hfoot b hfb) with h4 | h4
        · exact hother q r' g3 g1 b hfb' h4
        · exact absurd (r'.lt e w b (hS.res q r' g3) hfb') (by omega)
    · rw [(hind k r h3).1] at hfb
      rcases hres q r' h' with ⟨rfl, rfl⟩ | ⟨g1, g2, g3⟩
      · rcases hb b (hfoot b hfb') with h4 | h4
        · exact hother k r h3 h1 b hfb h4
        · exact absurd (r.lt e w b (hS.res k r h3) hfb) (by omega)
      · rw [(hind q r' g3).1] at hfb'
        exact hS.sep k q r r' h3 g3 hne hw b hfb hfb'
  · refine (hg.block k (Nat.lt_of_lt_of_le hk hS.frame.size) fun he => ?_).trans (hS.frame.block k hk hkm)
    rcases hmine k he.symm with h | h
    · omega
    · exact hkm h
theorem above (n : Nat) : ∀ l : List Nat, ∃ m, n < m ∧ ∀ x ∈ l, x < m
  | [] => ⟨n + 1, by omega, by simp⟩
  | x :: l => by
    obtain ⟨m, h1, h2⟩ := above n l
    exact ⟨max m (x + 1), by omega, fun y hy => by rcases List.mem_cons.1 hy with rfl | h; omega; have := h2 y h; omega⟩
theorem run_builtin_append {a : Act} {dst : Option Tmp} {x y : Operand} {t ty : TypeId} {pos : String} {after : Array Edge} {w : World} {r : Result Value} (h : (Builtin.append_ #[t, t] ty #[a.eval x, a.eval y]).run Try.prog w = r) :
    (execOp a.eval ⟨dst, .call { callee := .builtin .append, args := #[x, y], argTypes := #[t, t] }, ty, pos, after, none⟩).run Try.prog w = r.andThen fun v w' => .ok (.value v) w' := by
  simp only [execOp, resolve, invoke, builtin, Sem.run_bind, Sem.run_pure, Result.andThen_ok, List.map_toArray, List.map_cons, List.map_nil, h]
/-- append to an own slice. -/
theorem op_append {x y : Operand} {t T size len cnt by_ m n : Nat} {xs news : List Value} {A : Array Value} {v2 : SV} {ns : List Nat} {ty : TypeId} {pos : String} {after : Array Edge} (hd : dstB (some n) C.nt = true) (hx : S.ev x = some (.v m)) (hr : S.res m = some (.own m T size len xs)) (hy : S.ev y = some v2)
    (hu' : tabLook undT t = some (.slice T)) (hs' : tabLook sizT T = some size) (hy' : tabLook bytT T = some by_) (hz' : tabLook zerT T = some A) (hA : A.size = size) (hsz : 0 < size) (hrd : RdN C S ns size v2 cnt news) (h1 : ∀ u ∈ news, u.oneCell' = true)
    (hmax : len + cnt ≤ 1099511627776 ∧ (len + cnt) * by_ ≤ 140737488355328) (hmn : Nat.beq m n = false) :
    OpG C Try.prog ops ⟨some n, .call { callee := .builtin .append, args := #[x, y], argTypes := #[t, t] }, ty, pos, after, none⟩ S ⟨opT x ++ opT y, m :: (v2.sup ++ ns), [(n, .v n)], [(m, none), (n, some (.own n T size (len + cnt) (xs ++ news)))], [n]⟩ := by
  refine opG_mk rfl fun S' h1' h2' h3' e a w hS => ?_
  have hevx : a.eval x = (e m).v := hS.ev ((ev_like h1' fun _ h => List.mem_append_left _ h).trans hx)
  have hevy : a.eval y = v2.den e := hS.ev ((ev_like h1' fun _ h => List.mem_append_right _ h).trans hy)
  have hr' := (h2' m (by simp)).trans hr
  have hown : w.ownsRow 0 T size (e m).v len xs := hS.res m _ hr'
  have hrv := hrd S' e a w (fun q hq => h2' q (by simp [hq])) hS
  obtain ⟨v', w', hrun, ho, hg, hb⟩ := own_fresh (t := t) (ty := ty) hu' hs' hy' hz' hA hsz hown hrv h1 (by simp only [maxLen]; omega) hmax.2
  have hex := run_builtin_append (a := a) (x := x) (y := y) (t := t) (ty := ty) (w := w) (r := .ok v' w') (dst := some n) (pos := pos) (after := after) (by rw [hevx, hevy]; exact hrun)
  have hH := hS.own (m := m) (n := n) (fun h => by subst h; simp at hmn) (h3' n (by simp)) (.inr ⟨T, size, len, xs, hr', rfl⟩) hg ho hb
  refine wp_value hex ⟨e.set n ⟨0, 0, v'⟩, ?_⟩
  have := hH.put hd (.v n)
  simp only [SV.v, Env.set_self] at this
  exact this
/-! ### lengths, parts, elements -/
theorem run_len {t T : TypeId} {ty : TypeId} {a : Option Addr} {n c : Nat} (hu' : tabLook undT t = some (.slice T)) (w : World) : (Builtin.len_ #[t] ty #[.slice a n c]).run Try.prog w = .ok (.int .i64 (n : Int)) w := by
  have hu := tabAll_look undT_ok hu'
  simp [Builtin.len_, run_underlying hu, goInt]
theorem run_builtin_len {ρ : Operand → Value} {dst : Option Tmp} {x : Operand} {t T ty : TypeId} {pos : String} {after : Array Edge} {w : World} {a : Option Addr} {n c : Nat} (hx : ρ x = .slice a n c) (hu' : tabLook undT t = some (.slice T)) :
    (execOp ρ ⟨dst, .call { callee := .builtin .len, args := #[x], argTypes := #[t] }, ty, pos, after, none⟩).run Try.prog w = .ok (.value (.int .i64 (n : Int))) w := by
  have h := run_len (ty := ty) (a := a) (n := n) (c := c) hu' w
  simp only [execOp, resolve, invoke, builtin, Sem.run_bind, Sem.run_pure, Result.andThen_ok, List.map_toArray, List.map_cons, List.map_nil, hx, h]
section
variable {dst : Option Tmp} {x y : Operand} {t T ty : TypeId} {pos : String} {after : Array Edge}
theorem op_lenC {a : Option Addr} {n c : Nat} (hd : dstB dst C.nt = true) (hx : S.ev x = some (.c (.slice a n c))) (hu' : tabLook undT t = some (.slice T)) : OpG C Try.prog ops ⟨dst, .call { callee := .builtin .len, args := #[x], argTypes := #[t] }, ty, pos, after, none⟩ S ⟨opT x, [], dw dst (.c (.int .i64 ((n : Nat) : Int))), [], []⟩ :=
  op_one (v := .c (.int .i64 ((n : Nat) : Int))) rfl hd hx fun e ρ w h1 => by
    have h1' : ρ x = .slice a n c := h1
    exact run_builtin_len h1' hu'
theorem op_lenS {n off len cap : Nat} (hd : dstB dst C.nt = true) (hx : S.ev x = some (.s n off len cap)) (hu' : tabLook undT t = some (.slice T)) : OpG C Try.prog ops ⟨dst, .call { callee := .builtin .len, args := #[x], argTypes := #[t] }, ty, pos, after, none⟩ S ⟨opT x, [], dw dst (.c (.int .i64 ((len : Nat) : Int))), [], []⟩ :=
  op_one (v := .c (.int .i64 ((len : Nat) : Int))) rfl hd hx fun e ρ w h1 => by
    have h1' : ρ x = .slice (some ⟨(e n).b, off, none⟩) len cap := h1
    exact run_builtin_len h1' hu'
theorem op_lenR {v : SV} {ns : List Nat} {size n : Nat} {xs : List Value} (hd : dstB dst C.nt = true) (hx : S.ev x = some v) (hu' : tabLook undT t = some (.slice T)) (hr : RdN C S ns size v n xs) : OpG C Try.prog ops ⟨dst, .call { callee := .builtin .len, args := #[x], argTypes := #[t] }, ty, pos, after, none⟩ S ⟨opT x, ns, dw dst (.c (.int .i64 ((n : Nat) : Int))), [], []⟩ := by
  have := op_value (C := C) (P := Try.prog) (ops := ops) (S := S) (o := ⟨dst, .call { callee := .builtin .len, args := #[x], argTypes := #[t] }, ty, pos, after, none⟩) rfl hd [x] ns (.c (.int .i64 ((n : Nat) : Int))) fun S' e a w hS h1 h2 => by
    have hev : a.eval x = v.den e := hS.ev ((h1 x (by simp)).trans hx)
    obtain ⟨_, b, c, hv, _⟩ := hr S' e a w h2 hS
    exact run_builtin_len (hev.trans hv) hu'
  simpa using this
theorem op_lenV {n size len : Nat} {T0 : TypeId} {xs : List Value} (hd : dstB dst C.nt = true) (hx : S.ev x = some (.v n)) (hr : S.res n = some (.own n T0 size len xs)) (hu' : tabLook undT t = some (.slice T)) : OpG C Try.prog ops ⟨dst, .call { callee := .builtin .len, args := #[x], argTypes := #[t] }, ty, pos, after, none⟩ S ⟨opT x, [n], dw dst (.c (.int .i64 ((len : Nat) : Int))), [], []⟩ :=
  op_lenR hd hx hu' (rdn_own hr)
theorem op_lenT {n lo len : Nat} {T0 : TypeId} {size len0 : Nat} {xs : List Value} (hd : dstB dst C.nt = true) (hx : S.ev x = some (.sub n lo len)) (hr : S.res n = some (.own n T0 size len0 xs)) (hu' : tabLook undT t = some (.slice T)) (hc : lo + len ≤ len0) : OpG C Try.prog ops ⟨dst, .call { callee := .builtin .len, args := #[x], argTypes := #[t] }, ty, pos, after, none⟩ S ⟨opT x, [n], dw dst (.c (.int .i64 ((len : Nat) : Int))), [], []⟩ := by
  have := op_value (C := C) (P := Try.prog) (ops := ops) (S := S) (o := ⟨dst, .call { callee := .builtin .len, args := #[x], argTypes := #[t] }, ty, pos, after, none⟩) rfl hd [x] [n] (.c (.int .i64 ((len : Nat) : Int))) fun S' e a w hS h1 h2 => by
    have hev : a.eval x = cutV (e n).v lo len := hS.ev ((h1 x (by simp)).trans hx)
    have hok : w.ownsRow 0 T0 size (e n).v len0 xs := hS.res n _ ((h2 n (by simp)).trans hr)
    rcases hok.2 with ⟨h3, h4⟩ | ⟨g, cap, cur, h3, _⟩
    · have h0 : len = 0 := by omega
      subst h0
      exact run_builtin_len (hev.trans (by rw [h3]; rfl)) hu'
    · exact run_builtin_len (hev.trans (by rw [h3]; rfl)) hu'
  simpa using this
/-- A slice's bounds. -/
theorem run_cut {a : Option Addr} {len cap sz lo hi : Nat} {T t : TypeId} {k1 k2 : IntKind} (hu' : tabLook undT t = some (.slice T)) (hs' : tabLook sizT T = some sz) (h1 : lo ≤ hi) (h2 : hi ≤ cap) {ol oh : Option Value} (hl : ol = none ∧ lo = 0 ∨ ol = some (.int k1 ((lo : Nat) : Int))) (hh : oh = none ∧ hi = len ∨ oh = some (.int k2 ((hi : Nat) : Int))) (w : World) :
    (Instr.sliceAt t (.slice a len cap) ol oh none).run Try.prog w = .ok (.slice (if cap = lo then a else a.map (·.add (lo * sz))) (hi - lo) (cap - lo)) w := by
  have hu := tabAll_look undT_ok hu'
  have e1 : ¬ ((hi : Int) < 0) := by omega
  have e2 : (0 : Int) ≤ (hi : Int) ∧ (hi : Int) ≤ (cap : Int) := by omega
  have e3 : (0 : Int) ≤ (lo : Int) ∧ (lo : Int) ≤ (hi : Int) := by omega
  rcases hl with ⟨rfl, rfl⟩ | rfl <;> rcases hh with ⟨rfl, rfl⟩ | rfl <;>
    simp [Instr.sliceAt, Instr.slice, Instr.sliceBounds, Instr.sliceBound, asIntOf, run_underlying hu, run_sizeT hs', e2, e3, h1, h2]
/-- What a slice's bound is: none, or a number. -/
def EvO (S : St) (x : Option Operand) (d n : Nat) : Prop := (x = none ∧ n = d) ∨ ∃ y k, x = some y ∧ S.ev y = some (.c (.int k ((n : Nat) : Int)))
theorem evO_none {n : Nat} : EvO S none n n := .inl ⟨rfl, rfl⟩
theorem evO_some {y : Operand} {d n : Nat} (h : EvK S y n) : EvO S (some y) d n := by obtain ⟨k, h⟩ := h; exact .inr ⟨y, k, rfl, h⟩
def opO : Option Operand → List Nat | some x => opT x | none => []
theorem evO_run {S' : St} {e : Env} {a : Act} {w : World} (hS : Holds C S' e a w) {x : Option Operand} {d n : Nat} (hx : EvO S x d n) (hl : ∀ i ∈ opO x, S'.tmp i = S.tmp i) : (x.map a.eval = none ∧ n = d) ∨ ∃ k, x.map a.eval = some (.int k ((n : Nat) : Int)) := by
  rcases hx with ⟨rfl, h⟩ | ⟨y, k, rfl, h⟩
  · exact .inl ⟨rfl, h⟩
  · refine .inr ⟨k, ?_⟩
    rw [Option.map_some, hS.ev ((ev_like hl fun _ h => h).trans h)]
    rfl
/-- A slice cut. -/
theorem op_cut {v r : SV} {ns : List Nat} {len lo hi sz : Nat} {ol oh : Option Operand} (ho : o.op = .slice t x ol oh none) (hg : o.guard = none) (hd : dstB o.dst C.nt = true) (hx : S.ev x = some v) (hu' : tabLook undT t = some (.slice T)) (hs' : tabLook sizT T = some sz) (hl : EvO S ol 0 lo) (hh : EvO S oh len hi) (h1 : lo ≤ hi)
    (hv : ∀ S' e a w, (∀ q ∈ ns, S'.res q = S.res q) → Holds C S' e a w → ∃ ad cap, v.den e = .slice ad len cap ∧ hi ≤ cap ∧ r.den e = .slice (if cap = lo then ad else ad.map (·.add (lo * sz))) (hi - lo) (cap - lo)) (hsup : ns = ns) :
    OpG C Try.prog ops o S ⟨opT x ++ (opO ol ++ opO oh), ns, dw o.dst r, [], []⟩ := by
  refine opG_mk hg fun S' h1' h2' _ e a w hS => ?_
  have hevx : a.eval x = v.den e := hS.ev ((ev_like h1' fun _ h => List.mem_append_left _ h).trans hx)
  have e1 := evO_run (a := a) hS hl (fun i hi => h1' i (List.mem_append_right _ (List.mem_append_left _ hi)))
  have e2 := evO_run (a := a) hS hh (fun i hi => h1' i (List.mem_append_right _ (List.mem_append_right _ hi)))
  obtain ⟨ad, cap, hv1, hv2, hv3⟩ := hv S' e a w h2' hS
  have e1' : ∃ k1, (ol.map a.eval = none ∧ lo = 0) ∨ ol.map a.eval = some (.int k1 ((lo : Nat) : Int)) := by
    rcases e1 with h | ⟨k, h⟩
    · exact ⟨.i64, .inl h⟩
    · exact ⟨k, .inr h⟩
  have e2' : ∃ k1, (oh.map a.eval = none ∧ hi = len) ∨ oh.map a.eval = some (.int k1 ((hi : Nat) : Int)) := by
    rcases e2 with h | ⟨k, h⟩
    · exact ⟨.i64, .inl h⟩
    · exact ⟨k, .inr h⟩
  obtain ⟨k1, e1'⟩ := e1'
  obtain ⟨k2, e2'⟩ := e2'
  have hrun := run_cut (a := ad) hu' hs' h1 hv2 e1' e2' w
  refine wp_value (v := r.den e) (w' := w) ?_ ⟨e, hS.put hd r⟩
  simp only [execOp, ho, hevx, hv1, Option.map_none, Sem.run_bind, hrun, Result.andThen_ok, Sem.run_pure, hv3]
theorem op_cutV {n lo hi len : Nat} {T0 : TypeId} {xs : List Value} {ol oh : Option Operand} (ho : o.op = .slice t x ol oh none) (hg : o.guard = none) (hd : dstB o.dst C.nt = true) (hx : S.ev x = some (.v n)) (hr : S.res n = some (.own n T0 1 len xs)) (hu' : tabLook undT t = some (.slice T)) (hs' : tabLook sizT T = some 1) (hl : EvO S ol 0 lo) (hh : EvO S oh len hi) (h1 : lo ≤ hi) (h2 : hi ≤ len) :
    OpG C Try.prog ops o S ⟨opT x ++ (opO ol ++ opO oh), [n], dw o.dst (.sub n lo (hi - lo)), [], []⟩ := by
  refine op_cut ho hg hd hx hu' hs' hl hh h1 (fun S' e a w hq hS => ?_) rfl
  have hok : w.ownsRow 0 T0 1 (e n).v len xs := hS.res n _ ((hq n (by simp)).trans hr)
  rcases hok.2 with ⟨h3, h4⟩ | ⟨g, cap, cur, h3, _, _, h5, _⟩
  · refine ⟨none, 0, by rw [show (SV.v n).den e = (e n).v from rfl, h3, h4], by omega, ?_⟩
    show cutV (e n).v lo (hi - lo) = _
    rw [h3]; simp [cutV]
  · refine ⟨some ⟨g, 0, none⟩, cap, h3, by omega, ?_⟩
    show cutV (e n).v lo (hi - lo) = _
    rw [h3]; simp [cutV]
theorem op_cutC {b off len cap lo hi sz : Nat} {ol oh : Option Operand} (ho : o.op = .slice t x ol oh none) (hg : o.guard = none) (hd : dstB o.dst C.nt = true) (hx : S.ev x = some (.c (.slice (some ⟨b, off, none⟩) len cap))) (hu' : tabLook undT t = some (.slice T)) (hs' : tabLook sizT T = some sz) (hl : EvO S ol 0 lo) (hh : EvO S oh len hi) (h1 : lo ≤ hi) (h2 : hi ≤ cap) :
    OpG C Try.prog ops o S ⟨opT x ++ (opO ol ++ opO oh), [], dw o.dst (.c (.slice (some ⟨b, if cap = lo then off else off + lo * sz, none⟩) (hi - lo) (cap - lo))), [], []⟩ := by
  refine op_cut ho hg hd hx hu' hs' hl hh h1 (fun S' e a w hq hS => ⟨some ⟨b, off, none⟩, cap, rfl, h2, ?_⟩) rfl
  show Value.slice _ _ _ = _
  split <;> simp [add_place]
theorem op_cutS {n off len cap lo hi sz : Nat} {ol oh : Option Operand} (ho : o.op = .slice t x ol oh none) (hg : o.guard = none) (hd : dstB o.dst C.nt = true) (hx : S.ev x = some (.s n off len cap)) (hu' : tabLook undT t = some (.slice T)) (hs' : tabLook sizT T = some sz) (hl : EvO S ol 0 lo) (hh : EvO S oh len hi) (h1 : lo ≤ hi) (h2 : hi ≤ cap) :
    OpG C Try.prog ops o S ⟨opT x ++ (opO ol ++ opO oh), [n], dw o.dst (.s n (if cap = lo then off else off + lo * sz) (hi - lo) (cap - lo)), [], []⟩ := by
  refine op_cut ho hg hd hx hu' hs' hl hh h1 (fun S' e a w hq hS => ⟨some ⟨(e n).b, off, none⟩, cap, rfl, h2, ?_⟩) rfl
  show Value.slice _ _ _ = _
  split <;> simp [add_place]
/-- An array cut: a slice of it. -/
theorem op_cutP {n off len lo hi sz : Nat} {ol oh : Option Operand} (ho : o.op = .slice t x ol oh none) (hg : o.guard = none) (hd : dstB o.dst C.nt = true) (hx : S.ev x = some (.p n off)) (hu' : tabLook undT t = some (.array len T)) (hs' : tabLook sizT T = some sz) (hl : EvO S ol 0 lo) (hh : EvO S oh len hi) (h1 : lo ≤ hi) (h2 : hi ≤ len) {off' : Nat} (hoff : (if len = lo then off else off + lo * sz) = off') :
    OpG C Try.prog ops o S ⟨opT x ++ (opO ol ++ opO oh), [n], dw o.dst (.s n off' (hi - lo) (len - lo)), [], []⟩ := by
  subst hoff
  refine opG_mk hg fun S' h1' h2' _ e a w hS => ?_
  have hevx : a.eval x = .pointer (some ⟨(e n).b, off, none⟩) := hS.ev ((ev_like h1' fun _ h => List.mem_append_left _ h).trans hx)
  have e1 := evO_run (a := a) hS hl (fun i hi => h1' i (List.mem_append_right _ (List.mem_append_left _ hi)))
  have e2 := evO_run (a := a) hS hh (fun i hi => h1' i (List.mem_append_right _ (List.mem_append_right _ hi)))
  have hu := tabAll_look undT_ok hu'
  have b2 : (0 : Int) ≤ (hi : Int) ∧ (hi : Int) ≤ (len : Int) := by omega
  have b3 : (0 : Int) ≤ (lo : Int) ∧ (lo : Int) ≤ (hi : Int) := by omega
  refine wp_value (v := (SV.s n (if len = lo then off else off + lo * sz) (hi - lo) (len - lo)).den e) (w' := w) ?_ ⟨e, hS.put hd _⟩
  have hrun : (Instr.sliceAt t (.pointer (some ⟨(e n).b, off, none⟩)) (ol.map a.eval) (oh.map a.eval) none).run Try.prog w = .ok ((SV.s n (if len = lo then off else off + lo * sz) (hi - lo) (len - lo)).den e) w := by
    have hden : (SV.s n (if len = lo then off else off + lo * sz) (hi - lo) (len - lo)).den e = .slice (some (if len = lo then ⟨(e n).b, off, none⟩ else (⟨(e n).b, off, none⟩ : Addr).add (lo * sz))) (hi - lo) (len - lo) := by
      show Value.slice _ _ _ = _
      split <;> simp [add_place]
    rw [hden]
    rcases e1 with ⟨h, rfl⟩ | ⟨k, h⟩ <;> rcases e2 with ⟨g, rfl⟩ | ⟨k', g⟩ <;> rw [h, g] <;>
      simp [Instr.sliceAt, Instr.sureAddr, Instr.sliceBounds, Instr.sliceBound, asIntOf, run_underlying hu, run_sizeT hs', b2, b3, h1, h2]
  simp only [execOp, ho, hevx, Option.map_none, Sem.run_bind, hrun, Result.andThen_ok, Sem.run_pure]
/-- The address of an element of an own slice; what lies there. -/
theorem op_idxV {n len sz j : Nat} {T0 : TypeId} {xs : List Value} (ho : o.op = .indexAddr t x y) (hg : o.guard = none) (hd : dstB o.dst C.nt = true) (hx : S.ev x = some (.v n)) (hr : S.res n = some (.own n T0 sz len xs)) (hy : EvK S y j) (hu' : tabLook undT t = some (.slice T)) (hs' : tabLook sizT T = some sz) (hj : j < len) {off' : Nat} (hoff : 0 + j * sz = off') :
    OpG C Try.prog ops o S ⟨opT x ++ opT y, [n], dw o.dst (.vp n off'), [], []⟩ := by
  subst hoff
  obtain ⟨k, hy⟩ := hy
  have := op_value (C := C) (P := Try.prog) (ops := ops) (S := S) hg hd [x, y] [n] (.vp n (0 + j * sz)) fun S' e a w hS h1 h2 => by
    have hev : a.eval x = (e n).v := hS.ev ((h1 x (by simp)).trans hx)
    have hevy : a.eval y = .int k (j : Int) := hS.ev ((h1 y (by simp)).trans hy)
    have hok : w.ownsRow 0 T0 sz (e n).v len xs := hS.res n _ ((h2 n (by simp)).trans hr)
    have hu := tabAll_look undT_ok hu'
    have h3 : (0 : Int) ≤ (j : Int) ∧ (j : Int) < (len : Int) := by omega
    rcases hok.2 with ⟨_, h4⟩ | ⟨g, cap, cur, h4, _⟩
    · omega
    · have hden : (SV.vp n (0 + j * sz)).den e = .pointer (some ⟨g, 0 + j * sz, none⟩) := by simp only [SV.vp, h4]
      rw [hden]
      simp only [execOp, ho, hev, hevy, h4, Instr.indexAt, asIntOf, Sem.run_bind, run_underlying hu w, Result.andThen_ok, Sem.run_pure, Sem.run_ite, if_pos h3, run_sizeT hs' w, add_place, Int.toNat_natCast]
  simpa using this
theorem op_loadV {n off len sz : Nat} {T0 : TypeId} {xs : List Value} {v : Value} {d : TypeDesc} (ho : o.op = .load t x) (hg : o.guard = none) (hd : dstB o.dst C.nt = true) (hx : S.ev x = some (.vp n off)) (hr : S.res n = some (.own n T0 sz len xs)) (hu' : tabLook undT t = some d) (hda : d.isRow = false) (hv : xs[off]? = some v) :
    OpG C Try.prog ops o S ⟨opT x, [n], dw o.dst (.c v), [], []⟩ := by
  have := op_value (C := C) (P := Try.prog) (ops := ops) (S := S) hg hd [x] [n] (.c v) fun S' e a w hS h1 h2 => by
    have hev : a.eval x = (SV.vp n off).den e := hS.ev ((h1 x (by simp)).trans hx)
    have hok : w.ownsRow 0 T0 sz (e n).v len xs := hS.res n _ ((h2 n (by simp)).trans hr)
    have hu := tabAll_look undT_ok hu'
    have hagg : (isAgg t).run Try.prog w = .ok false w := (run_isAgg hu w).trans (by rw [hda])
    rcases hok.2 with ⟨_, h4⟩ | ⟨g, cap, cur, h4, _⟩
    · have := hok.1; rw [h4] at this; simp at this; rw [this] at hv; simp at hv
    · have hden : (SV.vp n off).den e = .pointer (some ⟨g, off, none⟩) := by simp only [SV.vp, h4]
      have hc := hok.cells (g := g) (by rw [h4]; rfl) off v hv
      rw [add_place, Nat.zero_add] at hc
      rw [hden] at hev
      simp [execOp, ho, hev, Instr.loadAt, Instr.sureAddr, loadVar, hagg, hc]
      rfl
  simpa using this
end

/-! ### slices built -/
theorem op_bsliceR {t T sz n : Nat} {parts : Array (Nat × Operand)} {x : Operand} {v : SV} {A : SA} {Z : Array Value} (ho : o.op = .buildSlice t 1 parts) (hp : parts = #[(0, x)]) (hdn : o.dst = some n) (hg : o.guard = none) (hd : dstB o.dst C.nt = true) (hx : S.ev x = some v) (hu' : tabLook undT t = some (.slice T)) (hs' : tabLook sizT T = some sz) (hz' : tabLook zerT T = some Z) (hZ : Z.size = sz) (hsz : (decide (0 < sz) && decide (sz < 10000)) = true) (rb : List Nat) (hA : ∀ S' e a w, Holds C S' e a w → (∀ q ∈ rb, S'.res q = S.res q) → (v.den e).cells = A.den e) (hAs : ∀ e, (A.den e).size = sz) (hn : (A.sup.any fun y => Nat.beq n y) = false) :
    OpG C Try.prog ops o S ⟨opT x, rb ++ A.sup, [(n, .s n 0 1 1)], [(n, some (.blk n T A))], [n]⟩ := by
  refine opG_mk hg fun S' h1 h2 h3 e a w hS => ?_
  have hns : n ∉ A.sup := fun h => by have := List.any_eq_false.1 hn n h; simp at this
  simp only [Bool.and_eq_true, decide_eq_true_eq] at hsz
  have hN := hS.newBlk (h3 n (by simp)) T A hns
  have hev : a.eval x = v.den e := hS.ev ((ev_like h1 fun _ h => h).trans hx)
  have hA' : (v.den e).cells = A.den e := hA S' e a w hS fun q hq => h2 q (List.mem_append_left _ hq)
  have hu := tabAll_look undT_ok hu'
  have hz := tabAll_look zerT_ok hz'
  obtain ⟨zv, hz3, hzc⟩ : ∃ zv, (zeroValue T).run Try.prog w = .ok zv w ∧ zv.cells = Z := by
    cases hb : (Try.prog.info? T) with
    | none => simp [hb] at hz
    | some i =>
      cases hc : i.zero with
      | none => simp [hb, hc] at hz
      | some zz => exact ⟨zz, by simp [zeroValue, typeInfo, hb, hc], by simpa [hb, hc] using hz⟩
  have hcs : (v.den e).cells.size = sz := by rw [hA', hAs e]
  have hfold : ∀ (B : Array Value), B.size = (A.den e).size → ((A.den e).zipIdx.foldl (fun cs x => cs.setIfInBounds (0 * sz + x.2) x.1) B) = A.den e := by
    intro B hB
    generalize A.den e = D at *
    apply Array.ext'
    rw [← Array.foldl_toList, Array.toList_zipIdx]
    have key : ∀ (l : List Value) (k : Nat) (B : Array Value), B.size = k + l.length → (List.foldl (fun (cs : Array Value) (x : Value × Nat) => cs.setIfInBounds (0 * sz + x.2) x.1) B (l.zipIdx k)).toList = B.toList.take k ++ l := by
      intro l
      induction l with
      | nil => intro k B hB; simp at hB; simp [List.take_of_length_le (show B.toList.length ≤ k by simp; omega)]
      | cons y l ih =>
        intro k B hB
        rw [List.zipIdx_cons, List.foldl_cons, ih (k + 1) _ (by simp at hB ⊢; omega)]
        simp only [Nat.zero_mul, Nat.zero_add, Array.toList_setIfInBounds]
        simp at hB
        rw [List.take_succ_eq_append_getElem (by simp; omega)]
        simp [List.take_set_of_le]
    have := key D.toList 0 B (by simpa using hB)
    simpa using this
  refine wp_value (v := .slice (some ⟨w.heap.size, 0, none⟩) 1 1) (w' := w.alloc (.cells (A.den e) T)) ?_ ⟨e.set n ⟨w.heap.size, 0, undef⟩, ?_⟩
  · have hne : ¬ sz = 0 := by omega
    have hlim : ¬ (2 ^ 24 < sz) := by omega
    have hlim2 : ¬ (16777216 < sz) := by omega
    have hc1 : ¬ ((decide ((v.den e).cells.size ≠ sz) || decide (0 * sz + (v.den e).cells.size > ((Array.range (1 * sz)).map fun x => Z[x % Z.size]!).size)) = true) := by
      rw [hcs]; simp
    simp only [execOp, ho, hp, Instr.buildSlice, Sem.run_bind, run_underlying hu w, Result.andThen_ok, run_sizeT hs' w, Nat.one_mul, Sem.run_ite]
    simp only [show ¬ (sz > 2 ^ 24) from by omega, if_false, hne, Sem.run_bind, hz3, Result.andThen_ok, Sem.run_pure, hzc, List.map_toArray, List.map_cons, List.map_nil, hev]
    rw [show Instr.fill (fun i => some (i * sz, sz)) ((Array.range sz).map fun x => Z[x % Z.size]!) [(0, v.den e)] = some (A.den e) from ?_]
    · simp [newRow]
    · rw [Instr.fill]
      dsimp only
      split
      · rename_i hc
        exfalso
        rw [hcs] at hc
        simp at hc
      · rw [hA', hfold _ (by simp [hAs e]), Instr.fill]
  · rw [hdn]
    have hd' : dstB (some n) C.nt = true := by rw [← hdn]; exact hd
    have := hN.put hd' (.s n 0 1 1)
    simp only [SV.s, Env.set_self] at this
    exact this
theorem op_bslice1 {t T sz n : Nat} {parts : Array (Nat × Operand)} {x : Operand} {v : SV} {A : SA} {Z : Array Value} (ho : o.op = .buildSlice t 1 parts) (hp : parts = #[(0, x)]) (hdn : o.dst = some n) (hg : o.guard = none) (hd : dstB o.dst C.nt = true) (hx : S.ev x = some v) (hu' : tabLook undT t = some (.slice T)) (hs' : tabLook sizT T = some sz) (hz' : tabLook zerT T = some Z) (hZ : Z.size = sz) (hsz : (decide (0 < sz) && decide (sz < 10000)) = true) (hA : ∀ e, (v.den e).cells = A.den e) (hAs : ∀ e, (A.den e).size = sz) (hn : (A.sup.any fun y => Nat.beq n y) = false) :
    OpG C Try.prog ops o S ⟨opT x, A.sup, [(n, .s n 0 1 1)], [(n, some (.blk n T A))], [n]⟩ :=
  op_bsliceR ho hp hdn hg hd hx hu' hs' hz' hZ hsz [] (fun _ e _ _ _ _ => hA e) hAs hn
end
end Go.Proofs.Ytcgmapioelfneaa
