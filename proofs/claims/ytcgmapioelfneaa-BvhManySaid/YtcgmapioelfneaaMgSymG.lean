/- Slices that lay there ahead of the run, bytes as text, cells of own slices written. No condition. More operations of the symbolic walk: bits of numbers that may lie below 0. The symbolic walk of methods: an object that lies behind a pointer, that a call changes or makes. -/
import Derived.Test.YtcgmapioelfneaaMgSymE
namespace Go.Proofs.Ytcgmapioelfneaa
open Go.RowKit

section
variable {C : Ctx} {ops : Array Oper} {S : St} {o : Oper}
/-! ### slices that lay there -/
/-- The value is a slice of n elements, which are read as these cells; it has room for them. -/
def FS (w : World) (size : Nat) (v : Value) (n : Nat) (xs : List Value) : Prop := RdV w size v n xs ∧ ∃ a c, v = .slice a n c ∧ n ≤ c
theorem FS.rd {w : World} {size : Nat} {v : Value} {n : Nat} {xs : List Value} (h : FS w size v n xs) : RdV w size v n xs := h.1
theorem FS.later {w w' : World} {size : Nat} {v : Value} {n : Nat} {xs : List Value} (h : FS w size v n xs) (hs : 0 < size) (hb : ∀ b, b < w.heap.size → w'.heap[b]? = w.heap[b]?) : FS w' size v n xs := ⟨h.1.later hs hb, h.2⟩
theorem cutV_slice {a : Option Addr} {n c lo len : Nat} : cutV (.slice a n c) lo len = .slice (if c = lo then a else a.map (·.add lo)) len (c - lo) := rfl
theorem FS.cut {w : World} {v : Value} {n : Nat} {xs : List Value} (h : FS w 1 v n xs) {lo len : Nat} (hl : lo + len ≤ n) : FS w 1 (cutV v lo len) len ((xs.drop lo).take len) := by
  obtain ⟨⟨hlen, a, c, hv, hr⟩, a', c', hv', hc⟩ := h
  rw [hv] at hv'
  cases hv'
  subst hv
  refine ⟨⟨by simp; omega, _, _, rfl, ?_⟩, _, _, rfl, by omega⟩
  rcases hr with h0 | ⟨b, off, rfl, hr⟩
  · exact .inl (by omega)
  · by_cases hcl : c = lo
    · left; omega
    · refine .inr ⟨b, off + lo, by rw [if_neg hcl]; simp [add_place], fun j u hu => ?_⟩
      rw [List.getElem?_take] at hu
      split at hu
      · rw [List.getElem?_drop] at hu
        rw [Nat.add_assoc]
        exact hr _ u hu
      · cases hu
theorem FS.cutB {w : World} {v : Value} {n : Nat} {k : IntKind} {m : Nat} {l : List (BitVec m)} (h : FS w 1 v n (valsL k l)) {lo len : Nat} (hl : lo + len ≤ n) : FS w 1 (cutV v lo len) len (valsL k ((l.drop lo).take len)) := by
  have := h.cut hl
  rwa [show ((valsL k l).drop lo).take len = valsL k ((l.drop lo).take len) by simp [valsL, List.map_take, List.map_drop]] at this
/-- The value is a slice of slices of bytes. -/
def SlcL (w : World) (v : Value) (ds : List (List (BitVec 8))) : Prop := ∃ ps, RdV w 1 v ds.length ps ∧ ∀ (i : Nat) d, ds[i]? = some d → ∃ p, ps[i]? = some p ∧ FS w 1 p d.length (valsL .u8 d)
/-- Where its j-th cell lies. -/
def ptrV (v : Value) (j : Nat) : Value := match v with | .slice (some ⟨b, off, _⟩) _ _ => .pointer (some ⟨b, off + j, none⟩) | _ => undef
section
variable {dst : Option Tmp} {x y : Operand} {t T ty : TypeId} {pos : String} {after : Array Edge} {v : Value} {n size : Nat} {xs : List Value} {ol oh : Option Operand}
theorem op_lenF (hd : dstB dst C.nt = true) (hx : S.ev x = some (.c v)) (hu' : tabLook undT t = some (.slice T)) (hf : RdV C.w0 size v n xs) :
    OpG C Try.prog ops ⟨dst, .call { callee := .builtin .len, args := #[x], argTypes := #[t] }, ty, pos, after, none⟩ S ⟨opT x, [], dw dst (.c (.int .i64 ((n : Nat) : Int))), [], []⟩ := by
  obtain ⟨_, a, c, rfl, _⟩ := hf
  exact op_lenC hd hx hu'
theorem op_cutF {lo hi : Nat} (ho : o.op = .slice t x ol oh none) (hg : o.guard = none) (hd : dstB o.dst C.nt = true) (hx : S.ev x = some (.c v)) (hu' : tabLook undT t = some (.slice T)) (hs' : tabLook sizT T = some 1) (hl : EvO S ol 0 lo := by first | exact evO_none | exact evO_some (by first | exact evK_const rfl | exact evK_tmp rfl)) (hf : FS C.w0 1 v n xs := by first | assumption | exact FSX.fs (by assumption) | (refine FS.cutB (by assumption) ?_; omega) | (refine FS.cut (by assumption) ?_; omega)) (hh : EvO S oh n hi := by first | exact evO_none | exact evO_some (by first | exact evK_const rfl | exact evK_tmp rfl)) (h1 : lo ≤ hi := by first | omega | decide) (h2 : hi ≤ n := by first | omega | decide) :
    OpG C Try.prog ops o S ⟨opT x ++ (opO ol ++ opO oh), [], dw o.dst (.c (cutV v lo (hi - lo))), [], []⟩ := by
  obtain ⟨_, a, c, rfl, hc⟩ := hf
  refine op_cut ho hg hd hx hu' hs' hl hh h1 (fun S' e a' w _ hS => ⟨a, c, rfl, by omega, ?_⟩) rfl
  show cutV (.slice a n c) lo (hi - lo) = _
  rw [cutV_slice, Nat.mul_one]
theorem op_idxF {sz j : Nat} (ho : o.op = .indexAddr t x y) (hg : o.guard = none) (hd : dstB o.dst C.nt = true) (hx : S.ev x = some (.c v)) (hy : EvK S y j) (hu' : tabLook undT t = some (.slice T)) (hs' : tabLook sizT T = some sz) (hf : RdV C.w0 sz v n xs) (hj : j < n) {off' : Nat} (hoff : 0 + j * sz = off') :
    OpG C Try.prog ops o S ⟨opT x ++ opT y, [], dw o.dst (.c (ptrV v off')), [], []⟩ := by
  obtain ⟨_, a, c, rfl, hr⟩ := hf
  rcases hr with h | ⟨b, off, rfl, hr⟩
  · omega
  · have := op_idxC (C := C) (ops := ops) ho hg hd hx hy hu' hs' hj rfl
    subst hoff
    show OpG C Try.prog ops o S ⟨_, [], dw o.dst (.c (.pointer (some ⟨b, off + (0 + j * sz), none⟩))), [], []⟩
    rw [Nat.zero_add]; exact this
theorem op_loadF {off : Nat} {u : Value} {d : TypeDesc} (ho : o.op = .load t x) (hg : o.guard = none) (hd : dstB o.dst C.nt = true) (hx : S.ev x = some (.c (ptrV v off))) (hu' : tabLook undT t = some d) (hda : d.isRow = false) (hm : C.m = []) (hf : RdV C.w0 size v n xs) (hn : 0 < size) (hv : xs[off]? = some u) :
    OpG C Try.prog ops o S ⟨opT x, [], dw o.dst (.c u), [], []⟩ := by
  obtain ⟨hl, a, c, rfl, hr⟩ := hf
  have hlt : off < xs.length := (List.getElem?_eq_some_iff.1 hv).1
  rcases hr with h | ⟨b, o2, rfl, hr⟩
  · subst h; omega
  · have hc := hr off u hv
    have hb := World.block_lt_of_cell? C.w0 ⟨b, o2 + off, none⟩ hc
    exact op_loado ho hg hd hx hu' hda hb (by rw [hm]; simp) hc
end
theorem op_fldT {ty f n off k sz : Nat} {x : Operand} (ho : o.op = .fieldAddr ty x f) (hg : o.guard = none) (hd : dstB o.dst C.nt = true) (hx : S.ev x = some (.p n off)) (hk : tabLook fldT (ty * 100 + f) = some (k, sz)) (hz : (decide (f < 100) && decide (sz ≠ 0)) = true) {off' : Nat} (hoff : off + k = off') :
    OpG C Try.prog ops o S ⟨opT x, [n], dw o.dst (.p n off'), [], []⟩ := by
  subst hoff
  simp only [Bool.and_eq_true, decide_eq_true_eq] at hz
  have hkk := tabAll_look fldT_ok hk
  obtain ⟨fs, fd, hu, hf, h1, h2⟩ := hkk
  rw [show (ty * 100 + f) / 100 = ty by omega] at hu
  rw [show (ty * 100 + f) % 100 = f by omega] at hf
  simp only at h1
  subst h1
  refine op_one (v := .p n (off + fd.offset)) hg hd hx fun e ρ w h1 => ?_
  have h1' : ρ x = .pointer (some ⟨(e n).b, off, none⟩) := h1
  have hs : (sizeOf fd.type).run Try.prog w = .ok sz w := by
    cases hq : Try.prog.info? fd.type with
    | none => simp [hq] at h2
    | some i =>
      have hi : i.size = sz := by simpa [hq] using h2
      simp [sizeOf, typeInfo, hq, hi]
  simp only [execOp, ho, h1', Instr.fieldAt, fieldPlace, Sem.run_bind, run_underlying hu w, Result.andThen_ok, hf, Sem.run_pure, Instr.sureAddr, Sem.run_ite, hs, if_neg hz.2, add_place]
  rfl
theorem off_zero {k : Nat} : 0 + k = k := by omega
/-! ### bytes as text -/
/-! ### a cell of an own slice, written -/
theorem op_storeV {x y : Operand} {t : TypeId} {n off len : Nat} {T0 : TypeId} {xs ys : List Value} {v : SV} {u : Value} (ho : o.op = .store t x y) (hg : o.guard = none) (hdst : o.dst = none) (hx : S.ev x = some (.vp n off)) (hy : S.ev y = some v) (hr : S.res n = some (.own n T0 1 len xs)) (hi' : tabLook sizT t = some 1) (hv : v = .c u) (h1c : u.oneCell' = true) (hoff : off < len) (hys : xs.set off u = ys) :
    OpG C Try.prog ops o S ⟨opT x ++ opT y, [n], [], [(n, some (.own n T0 1 len ys))], []⟩ := by
  have hi := tabAll_look sizT_ok hi'
  subst hv hys
  refine opG_mk hg fun S' h1 h2 h3 e a w hS => ?_
  have hr' := (h2 n (by simp)).trans hr
  have hok : w.ownsRow 0 T0 1 (e n).v len xs := hS.res n _ hr'
  have hxl : xs.length = len := by have := hok.1; omega
  rcases hok.2 with ⟨_, h0⟩ | ⟨g, cap, cur, hev, _, hb, hnc, hcm, hcs, htk⟩
  · omega
  have hevx : a.eval x = .pointer (some ⟨g, off, none⟩) := by
    rw [hS.ev ((ev_like h1 fun _ h => List.mem_append_left _ h).trans hx)]
    show (match (e n).v with | .slice (some a) _ _ => Value.pointer (some ⟨a.block, off, none⟩) | _ => undef) = _
    rw [hev]
  have hevy : a.eval y = u := hS.ev ((ev_like h1 fun _ h => List.mem_append_right _ h).trans hy)
  have hok2 := hok
  rw [hev] at hok2
  obtain ⟨hst, hgr⟩ := hok2.stored off u
  have hc : w.cell? ⟨g, off, none⟩ = some (cur[off]'(by omega)) := (cell_of_row w _ off _ _ _ hb).trans (by simp)
  have hf : w.frozen? ⟨g, off, none⟩ = false := frozen_of_row w _ off _ _ hb
  have hcells : u.cells = #[u] := by cases hh : u <;> rw [hh] at h1c <;> first | rfl | (simp [Value.oneCell'] at h1c)
  have hmine : ∀ b, (e n).v.ownBlock = some b → C.mine b := fun b hb => hS.mine n _ hr' rfl b hb
  have hg0 : (e n).v.ownBlock = some g := by rw [hev]; rfl
  refine wp_skip' (w' := w.setCell ⟨g, off, none⟩ u) ?_ ⟨e, ?_⟩
  · cases hq : Try.prog.info? t with
    | none => simp [hq] at hi
    | some i =>
      have hs : i.size = 1 := by simpa [hq] using hi
      simp [execOp, ho, hevx, hevy, Instr.storeAt, Instr.sureAddr, storeVar, sizeOf, typeInfo, hq, hs, hcells, storeCells, run_store Try.prog _ _ _ _ h1c, hc, hf, Addr.add]
  · rw [hdst]
    refine ⟨hS.defers, hS.size, hS.tmp, fun m r h => ?_, fun m r h hw b hb => ?_, fun m k r r' h h' hne hw b hb => ?_, ⟨hS.frame.os, hS.frame.tape, hS.frame.output, by simpa [World.setCell] using hS.frame.size, fun k hk hkm => ?_⟩⟩
    · have h : (St.mk S'.t ((n, some (.own n T0 1 len (xs.set off u))) :: S'.h)).res m = some r := h
      rw [St.res_cons] at h
      split at h
      · cases h
        show (w.setCell ⟨g, off, none⟩ u).ownsRow 0 T0 1 (e n).v len (xs.set off u)
        rw [hev]; exact hst
      · rename_i hne
        refine r.loc e w _ (fun b hfb => Below.heap_setCell w _ _ b fun he => ?_) (hS.res m r h)
        have he : b = g := he
        subst he
        exact hS.sep n m _ r hr' h hne rfl b hg0 hfb
    · have h : (St.mk S'.t ((n, some (.own n T0 1 len (xs.set off u))) :: S'.h)).res m = some r := h
      rw [St.res_cons] at h
      split at h
      · cases h; exact hmine b hb
      · exact hS.mine m r h hw b hb
    · have h : (St.mk S'.t ((n, some (.own n T0 1 len (xs.set off u))) :: S'.h)).res m = some r := h
      have h' : (St.mk S'.t ((n, some (.own n T0 1 len (xs.set off u))) :: S'.h)).res k = some r' := h'
      rw [St.res_cons] at h h'
      split at h
      · rename_i h1; cases h; subst h1
        split at h'
        · rename_i h2; exact absurd h2 hne
        · exact hS.sep n k _ r' hr' h' hne rfl b hb
      · split at h'
        · rename_i h2; cases h'; subst h2
          exact hS.sep m n r _ h hr' hne hw b hb
        · exact hS.sep m k r r' h h' hne hw b hb
    · refine (Below.heap_setCell w ⟨g, off, none⟩ u k fun he => ?_).trans (hS.frame.block k hk hkm)
      have he : k = g := he
      subst he
      rcases hmine k hg0 with h | h
      · omega
      · exact hkm h
/-! ### one text behind several ends of a round -/
/-! ### slices of slices handed over -/
/-- One value in a block. -/
theorem rdn_l1 {n : Nat} {T : TypeId} {wr : Bool} {u : Value} {cap : Nat} (hr : S.res n = some (.blk n T (.l [SV.c u]) wr)) : RdN C S [n] 1 (.s n 0 1 cap) 1 [u] := by
  intro S' e a w h hS
  obtain ⟨fr, hb, _⟩ := res_blk hS ((h n (by simp)).trans hr)
  refine ⟨by simp, some ⟨(e n).b, 0, none⟩, cap, rfl, .inr ⟨(e n).b, 0, rfl, fun j u hu => ?_⟩⟩
  rw [cell_of_row w _ _ _ _ _ hb, Nat.zero_add]
  simpa [SA.l, SV.c] using hu
theorem one_cells {u : Value} (h : u.oneCell' = true) : ∀ x ∈ [u], x.oneCell' = true := fun x hx => by simp at hx; rw [hx]; exact h
end
end Go.Proofs.Ytcgmapioelfneaa
namespace Go.Proofs.Ytcgmapioelfneaa
open Go.RowKit
set_option maxRecDepth 100000
variable {C : Ctx} {ops : Array Oper} {S : St} {o : Oper}
section
variable {ty yt : TypeId} {x y : Operand} {k : IntKind} {m : Nat} [hk : Bits k m] {a b : BitVec m}
end
end Go.Proofs.Ytcgmapioelfneaa
namespace Go.Proofs.Ytcgmapioelfneaa
open Go.RowKit
set_option maxRecDepth 100000
variable {C : Ctx} {ops : Array Oper} {S : St} {o : Oper}
/-- What lay below is as it was, but for some blocks. -/
structure BelowX (w w' : World) (m : List Nat) : Prop where
  os : w'.os = w.os
  tape : w'.tape = w.tape
  output : w'.output = w.output
  size : w.heap.size ≤ w'.heap.size
  block : ∀ k, k < w.heap.size → k ∉ m → w'.heap[k]? = w.heap[k]?
theorem Ctx.frame.belowX {w : World} (h : C.frame w) : BelowX C.w0 w C.m := ⟨h.os, h.tape, h.output, h.size, h.block⟩
theorem BelowX.of {w w' : World} {m : List Nat} (h : Below w.heap.size w w') : BelowX w w' m := ⟨h.os, h.tape, h.output, h.size, fun k hk _ => h.block k hk⟩
/-- The name stands for this block. -/
def Res.is (n b : Nat) : Res where
  foot _ _ := False
  ok e _ := (e n).b = b
  sup := [n]
  wr := false
  ind e e' h := ⟨rfl, by rw [h n (by simp)]⟩
  loc _ _ _ _ h := h
  lt _ _ _ _ h := h.elim
/-- Handed back: a value; the object's cells are these now, and nothing else that lay there is changed. -/
def RetP (w : World) (b : Nat) (T : TypeId) (cells : Array Value) (v : Value) : Ending → World → Prop := fun r w' => r = .returned v ∧ Blk w' b cells T ∧ BelowX w w' [b]
/-! ### the walk of a method -/
theorem fin_obj {v : Value} {V : SV} {w0 : World} {n b : Nat} {T : TypeId} {A : SA} {cells : Array Value} (hr : S.res 1000 = some (.blk 1000 T A)) (hi : S.res 1001 = some (.is 1000 b)) (hA : ∀ e, A.den e = cells) (h : ∀ e, V.den e = v) :
    ∀ e a w, Holds ⟨n, w0, [b]⟩ S e a w → RetP w0 b T cells v (.returned (V.den e)) w := fun e a w hS => by
  obtain ⟨fr, hb, hfr⟩ := res_blk hS hr
  have he : (e 1000).b = b := hS.res 1001 _ hi
  rw [hfr rfl, he, hA] at hb
  exact ⟨by rw [h e], hb, hS.frame.belowX⟩
/-! ### calls of methods -/
theorem Holds.writeX {e : Env} {a : Act} {w w' : World} (hS : Holds C S e a w) {n : Nat} {T : TypeId} {A A' : SA} (hr : S.res n = some (.blk n T A)) (hx : BelowX w w' [(e n).b]) (hn : Blk w' (e n).b (A'.den e) T) : Holds C ⟨S.t, (n, some (.blk n T A')) :: S.h⟩ e a w' := by
  have hm : ∀ b, b = (e n).b → C.mine b := fun b hb => hS.mine n _ hr rfl b hb
  refine ⟨hS.defers, hS.size, hS.tmp, fun m r h => ?_, fun m r h hw b hb => ?_, fun m k r r' h h' hne hw b hb => ?_, ⟨hx.os.trans hS.frame.os, hx.tape.trans hS.frame.tape, hx.output.trans hS.frame.output, Nat.le_trans hS.frame.size hx.size, fun k hk hkm => ?_⟩⟩
  · rw [St.res_cons] at h
    split at h
    · cases h; exact ⟨(0, 0), hn, fun _ => rfl⟩
    · rename_i hne
      refine r.loc e w w' (fun b hb => hx.block b (r.lt e w b (hS.res m r h) hb) fun he => ?_) (hS.res m r h)
      have he : b = (e n).b := by simpa using he
      exact hS.sep n m _ r hr h hne rfl (e n).b rfl (he ▸ hb)
  · rw [St.res_cons] at h
    split at h
    · cases h; exact hm b hb
    · exact hS.mine m r h hw b hb
  · rw [St.res_cons] at h h'
    split at h
    · rename_i h1; cases h; subst h1
      split at h'
      · rename_i h2; exact absurd h2 hne
      · exact hS.sep n k _ r' hr h' hne rfl b hb
    · split at h'
      · rename_i h2; cases h'; subst h2
        exact hS.sep m n r _ h hr hne hw b hb
      · exact hS.sep m k r r' h h' hne hw b hb
  · rw [hx.block k (Nat.lt_of_lt_of_le hk hS.frame.size) ?_]
    · exact hS.frame.block k hk hkm
    · intro he
      have he : k = (e n).b := by simpa using he
      rcases hm k he with h | h
      · exact absurd hk (by omega)
      · exact hkm h
theorem Holds.newObj {e : Env} {a : Act} {w w' : World} (hS : Holds C S e a w) {n b : Nat} (hf : S.fresh n) (T : TypeId) (A : SA) {cells : Array Value} (hA : ∀ e, A.den e = cells) (hb : Below w.heap.size w w') (hsz : w.heap.size ≤ b) (hB : Blk w' b cells T) :
    Holds C ⟨S.t, (n, some (.blk n T A)) :: S.h⟩ (e.set n ⟨b, 0, undef⟩) a w' := by
  have h1 := (hS.world hb).rename hf ⟨b, 0, undef⟩
  have hfoot : ∀ m r, S.res m = some r → ¬ r.foot (e.set n ⟨b, 0, undef⟩) b := by
    intro m r hr hfo
    have h2 := r.ind e (e.set n ⟨b, 0, undef⟩) fun k hk => Env.set_ne e _ (fun he => hf.2 m r hr (he ▸ hk))
    rw [h2.1] at hfo
    have := r.lt e w _ (hS.res m r hr) hfo
    omega
  refine ⟨h1.defers, h1.size, h1.tmp, fun m r hr => ?_, fun m r hr hw x hx => ?_, fun m k r r' hr hr' hne hw x hx => ?_, h1.frame⟩
  · rw [St.res_cons] at hr
    split at hr
    · cases hr
      exact ⟨(0, 0), by rw [Env.set_self, hA]; exact hB, fun _ => rfl⟩
    · exact h1.res m r hr
  · rw [St.res_cons] at hr
    split at hr
    · cases hr
      have : x = b := by rw [show x = ((e.set n ⟨b, 0, undef⟩) n).b from hx, Env.set_self]
      exact .inl (by rw [this]; exact Nat.le_trans hS.frame.size hsz)
    · exact h1.mine m r hr hw x hx
  · rw [St.res_cons] at hr hr'
    split at hr
    · cases hr
      have hbb : x = b := by rw [show x = ((e.set n ⟨b, 0, undef⟩) n).b from hx, Env.set_self]
      split at hr'
      · rename_i h2 h3; exact absurd (h2.symm.trans h3) hne
      · rw [hbb]; exact hfoot k r' hr'
    · split at hr'
      · cases hr'
        intro hb2
        have hbb : x = b := by rw [show x = ((e.set n ⟨b, 0, undef⟩) n).b from hb2, Env.set_self]
        rw [hbb] at hx
        exact hfoot m r hr hx
      · exact h1.sep m k r r' hr hr' hne hw x hx
theorem call_hop {S' : St} {e : Env} {a : Act} {w : World} {f j : FuncId} {xs : Array Operand} {ats : Array TypeId} {vs : List SV} (ho : o.op = .call { callee := .value (.func f), args := xs, argTypes := ats }) (hxs : EvS S xs.toList vs) (hc' : tabLook calT f = some j)
    (h1 : ∀ i ∈ xs.toList.flatMap opT, S'.tmp i = S.tmp i) (hS : Holds C S' e a w) : (execOp a.eval o).run Try.prog w = .ok (.enter j (vs.map (·.den e)).toArray) w := by
  have hev : xs.toList.map S'.ev = vs.map some := by
    rw [← show xs.toList.map S.ev = vs.map some from hxs]
    exact List.map_congr_left fun x hx => ev_like h1 fun i hi => List.mem_flatMap.2 ⟨x, hx, hi⟩
  have hargs : xs.map a.eval = (vs.map (·.den e)).toArray := by
    rw [← evs_all hS _ _ hev, ← Array.toList_map, Array.toArray_toList]
  have hcall := tabAll_look calT_ok hc'
  obtain ⟨dst, op, ty, pos, after, guard⟩ := o
  change op = _ at ho
  subst ho
  rw [execOp_call_go]
  simp only [hargs, Array.empty_append, Array.append_empty]
  exact hcall _ w
section
variable {l : List Oper} {t : List (Nat × SV)} {h : List (Nat × Option Res)} {d : Nat} {f j : FuncId} {xs : Array Operand} {ats : Array TypeId} {vs : List SV}
end
theorem upd_cong {A B A' A'' : SA} {off m : Nat} (h : Upd A off m B A') (he : ∀ e, A'.den e = A''.den e) : Upd A off m B A'' := fun e => by
  obtain ⟨pre, old, post, h1, h2, h3, h4, h5⟩ := h e
  exact ⟨pre, old, post, h1, h2, h3, h4, by rw [← he e]; exact h5⟩
theorem upd_here2 {A R x y : SA} {off m : Nat} (h0 : off = 0) (h : Drop A m R) (hb : ∀ e, ((x.app y).den e).size = m) : Upd A off m (x.app y) (x.app (y.app R)) := upd_cong (upd_here' h0 h hb) fun e => by simp [SA.app, Array.append_assoc]
theorem upd_here3 {A R x y z : SA} {off m : Nat} (h0 : off = 0) (h : Drop A m R) (hb : ∀ e, ((x.app (y.app z)).den e).size = m) : Upd A off m (x.app (y.app z)) (x.app (y.app (z.app R))) := upd_cong (upd_here' h0 h hb) fun e => by simp [SA.app, Array.append_assoc]
theorem upd_here4 {A R x y z u : SA} {off m : Nat} (h0 : off = 0) (h : Drop A m R) (hb : ∀ e, ((x.app (y.app (z.app u))).den e).size = m) : Upd A off m (x.app (y.app (z.app u))) (x.app (y.app (z.app (u.app R)))) := upd_cong (upd_here' h0 h hb) fun e => by simp [SA.app, Array.append_assoc]
/-! ### pointers -/
section
variable {x y : Operand} {n off : Nat} {ty yt : TypeId}
end
theorem op_eqR {x y : Operand} {ty yt : TypeId} {X Y : SV} {xs ys : Array Value} {b : Bool} (hrun : ∀ w, (Op.equalIn 10000 ty (.agg xs) (.agg ys)).run Try.prog w = .ok b w) (ho : o.op = .binOp .eql ty x y yt) (hg : o.guard = none) (hd : dstB o.dst C.nt = true) (hx : S.ev x = some X) (hy : S.ev y = some Y)
    (hX : ∀ e, X.den e = .agg xs) (hY : ∀ e, Y.den e = .agg ys) (hm : Try.prog.eqGuardType Try.prog.depth ty = false) : OpG C Try.prog ops o S ⟨opT x ++ opT y, [], dw o.dst (.c (.bool b)), [], []⟩ :=
  op_two (v := .c (.bool b)) hg hd hx hy fun e ρ w h1 h2 => by
    have h1' : ρ x = .agg xs := h1.trans (hX e)
    have h2' : ρ y = .agg ys := h2.trans (hY e)
    simp only [execOp, ho, h1', h2', Sem.run_bind, run_eqGuard_agg w _ _ _ _ _ _ hm, Result.andThen_ok, run_eql_struct, hrun, Sem.run_pure]
    rfl
end Go.Proofs.Ytcgmapioelfneaa
