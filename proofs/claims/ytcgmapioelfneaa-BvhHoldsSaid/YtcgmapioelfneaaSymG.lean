/- Slices that lay there ahead of the run, bytes as text, cells of own slices written. No condition. -/
import Derived.Test.YtcgmapioelfneaaMgSymE
namespace Go.Proofs.Ytcgmapioelfneaa
open Go.RowKit

section
variable {C : Ctx} {ops : Array Oper} {S : St} {o : Oper}
/-! ### slices that lay there -/
/-- The value is a slice of n elements, which are read as these cells; it has room for them. -/
def FS (w : World) (size : Nat) (v : Value) (n : Nat) (xs : List Value) : Prop := RdV w size v n xs ∧ ∃ a c, v = .slice a n c ∧ n ≤ c
theorem FS.rd {w : World} {size : Nat} {v : Value} {n : Nat} {xs : List Value} (h : FS w size v n xs) : RdV w size v n xs := h.1
theorem FS.later {w w' : World} {size : Nat} {v : Value} {n : Nat} {xs : List Value} (h : FS w size v n xs) (hs : 0 < size) (hb : ∀ b, b < w.heap.size → w'.heap[b]? = w.heap[b]?) : FS w' size v n xs := ⟨h.1.later hs hb, h.2⟩
theorem cutV_slice {a : Option Addr} {n c lo len : Nat} : cutV (.slice a n c) lo len = .slice (if c = lo then a else a.map (·.add lo)) len (c - lo) := rfl
theorem FS.cut {w : World} {v : Value} {n : Nat} {xs : List Value} (h : FS w 1 v n xs) {lo len : Nat} (hl : lo + len ≤ n) : FS w 1 (cutV v lo len) len ((xs.drop lo).take len) := by
  obtain ⟨⟨hlen, a, c, hv, hr⟩, a', c', hv', hc⟩ := h
  rw [hv] at hv'
  cases hv'
  subst hv
  refine ⟨⟨by simp; omega, _, _, rfl, ?_⟩, _, _, rfl, by omega⟩
  rcases hr with h0 | ⟨b, off, rfl, hr⟩
  · exact .inl (by omega)
  · by_cases hcl : c = lo
    · left; omega
    · refine .inr ⟨b, off + lo, by rw [if_neg hcl]; simp [add_place], fun j u hu => ?_⟩
      rw [List.getElem?_take] at hu
      split at hu
      · rw [List.getElem?_drop] at hu
        rw [Nat.add_assoc]
        exact hr _ u hu
      · cases hu
theorem FS.cutB {w : World} {v : Value} {n : Nat} {k : IntKind} {m : Nat} {l : List (BitVec m)} (h : FS w 1 v n (valsL k l)) {lo len : Nat} (hl : lo + len ≤ n) : FS w 1 (cutV v lo len) len (valsL k ((l.drop lo).take len)) := by
  have := h.cut hl
  rwa [show ((valsL k l).drop lo).take len = valsL k ((l.drop lo).take len) by simp [valsL, List.map_take, List.map_drop]] at this
/-- The value is a slice of slices of bytes. -/
def SlcL (w : World) (v : Value) (ds : List (List (BitVec 8))) : Prop := ∃ ps, RdV w 1 v ds.length ps ∧ ∀ (i : Nat) d, ds[i]? = some d → ∃ p, ps[i]? = some p ∧ FS w 1 p d.length (valsL .u8 d)
/-- Where its j-th cell lies. -/
def ptrV (v : Value) (j : Nat) : Value := match v with | .slice (some ⟨b, off, _⟩) _ _ => .pointer (some ⟨b, off + j, none⟩) | _ => undef
section
variable {dst : Option Tmp} {x y : Operand} {t T ty : TypeId} {pos : String} {after : Array Edge} {v : Value} {n size : Nat} {xs : List Value} {ol oh : Option Operand}
theorem op_lenF (hd : dstB dst C.nt = true) (hx : S.ev x = some (.c v)) (hu' : tabLook undT t = some (.slice T)) (hf : RdV C.w0 size v n xs) :
    OpG C Try.prog ops ⟨dst, .call { callee := .builtin .len, args := #[x], argTypes := #[t] }, ty, pos, after, none⟩ S ⟨opT x, [], dw dst (.c (.int .i64 ((n : Nat) : Int))), [], []⟩ := by
  obtain ⟨_, a, c, rfl, _⟩ := hf
  exact op_lenC hd hx hu'
theorem op_cutF {lo hi : Nat} (ho : o.op = .slice t x ol oh none) (hg : o.guard = none) (hd : dstB o.dst C.nt = true) (hx : S.ev x = some (.c v)) (hu' : tabLook undT t = some (.slice T)) (hs' : tabLook sizT T = some 1) (hl : EvO S ol 0 lo := by first | exact evO_none | exact evO_some (by first | exact evK_const rfl | exact evK_tmp rfl)) (hf : FS C.w0 1 v n xs := by first | assumption | exact FSX.fs (by assumption) | (refine FS.cutB (by assumption) ?_; omega) | (refine FS.cut (by assumption) ?_; omega)) (hh : EvO S oh n hi := by first | exact evO_none | exact evO_some (by first | exact evK_const rfl | exact evK_tmp rfl)) (h1 : lo ≤ hi := by first | omega | decide) (h2 : hi ≤ n := by first | omega | decide) :
    OpG C Try.prog ops o S ⟨opT x ++ (opO ol ++ opO oh), [], dw o.dst (.c (cutV v lo (hi - lo))), [], []⟩ := by
  obtain ⟨_, a, c, rfl, hc⟩ := hf
  refine op_cut ho hg hd hx hu' hs' hl hh h1 (fun S' e a' w _ hS => ⟨a, c, rfl, by omega, ?_⟩) rfl
  show cutV (.slice a n c) lo (hi - lo) = _
  rw [cutV_slice, Nat.mul_one]
theorem op_idxF {sz j : Nat} (ho : o.op = .indexAddr t x y) (hg : o.guard = none) (hd : dstB o.dst C.nt = true) (hx : S.ev x = some (.c v)) (hy : EvK S y j) (hu' : tabLook undT t = some (.slice T)) (hs' : tabLook sizT T = some sz) (hf : RdV C.w0 sz v n xs) (hj : j < n) {off' : Nat} (hoff : 0 + j * sz = off') :
    OpG C Try.prog ops o S ⟨opT x ++ opT y, [], dw o.dst (.c (ptrV v off')), [], []⟩ := by
  obtain ⟨_, a, c, rfl, hr⟩ := hf
  rcases hr with h | ⟨b, off, rfl, hr⟩
  · omega
  · have := op_idxC (C := C) (ops := ops) ho hg hd hx hy hu' hs' hj rfl
    subst hoff
    show OpG C Try.prog ops o S ⟨_, [], dw o.dst (.c (.pointer (some ⟨b, off + (0 + j * sz), none⟩))), [], []⟩
    rw [Nat.zero_add]; exact this
theorem op_loadF {off : Nat} {u : Value} {d : TypeDesc} (ho : o.op = .load t x) (hg : o.guard = none) (hd : dstB o.dst C.nt = true) (hx : S.ev x = some (.c (ptrV v off))) (hu' : tabLook undT t = some d) (hda : d.isRow = false) (hm : C.m = []) (hf : RdV C.w0 size v n xs) (hn : 0 < size) (hv : xs[off]? = some u) :
    OpG C Try.prog ops o S ⟨opT x, [], dw o.dst (.c u), [], []⟩ := by
  obtain ⟨hl, a, c, rfl, hr⟩ := hf
  have hlt : off < xs.length := (List.getElem?_eq_some_iff.1 hv).1
  rcases hr with h | ⟨b, o2, rfl, hr⟩
  · subst h; omega
  · have hc := hr off u hv
    have hb := World.block_lt_of_cell? C.w0 ⟨b, o2 + off, none⟩ hc
    exact op_loado ho hg hd hx hu' hda hb (by rw [hm]; simp) hc
end
theorem op_fldT {ty f n off k sz : Nat} {x : Operand} (ho : o.op = .fieldAddr ty x f) (hg : o.guard = none) (hd : dstB o.dst C.nt = true) (hx : S.ev x = some (.p n off)) (hk : tabLook fldT (ty * 100 + f) = some (k, sz)) (hz : (decide (f < 100) && decide (sz ≠ 0)) = true) {off' : Nat} (hoff : off + k = off') :
    OpG C Try.prog ops o S ⟨opT x, [n], dw o.dst (.p n off'), [], []⟩ := by
  subst hoff
  simp only [Bool.and_eq_true, decide_eq_true_eq] at hz
  have hkk := tabAll_look fldT_ok hk
  obtain ⟨fs, fd, hu, hf, h1, h2⟩ := hkk
  rw [show (ty * 100 + f) / 100 = ty by omega] at hu
  rw [show (ty * 100 + f) % 100 = f by omega] at hf
  simp only at h1
  subst h1
  refine op_one (v := .p n (off + fd.offset)) hg hd hx fun e ρ w h1 => ?_
  have h1' : ρ x = .pointer (some ⟨(e n).b, off, none⟩) := h1
  have hs : (sizeOf fd.type).run Try.prog w = .ok sz w := by
    cases hq : Try.prog.info? fd.type with
    | none => simp [hq] at h2
    | some i =>
      have hi : i.size = sz := by simpa [hq] using h2
      simp [sizeOf, typeInfo, hq, hi]
  simp only [execOp, ho, h1', Instr.fieldAt, fieldPlace, Sem.run_bind, run_underlying hu w, Result.andThen_ok, hf, Sem.run_pure, Instr.sureAddr, Sem.run_ite, hs, if_neg hz.2, add_place]
  rfl
theorem off_zero {k : Nat} : 0 + k = k := by omega
/-! ### bytes as text -/
def strL (l : List (BitVec 8)) : ByteArray := ⟨(l.map fun b => UInt8.ofBitVec b).toArray⟩
/-! ### a cell of an own slice, written -/
theorem op_storeV {x y : Operand} {t : TypeId} {n off len : Nat} {T0 : TypeId} {xs ys : List Value} {v : SV} {u : Value} (ho : o.op = .store t x y) (hg : o.guard = none) (hdst : o.dst = none) (hx : S.ev x = some (.vp n off)) (hy : S.ev y = some v) (hr : S.res n = some (.own n T0 1 len xs)) (hi' : tabLook sizT t = some 1) (hv : v = .c u) (h1c : u.oneCell' = true) (hoff : off < len) (hys : xs.set off u = ys) :
    OpG C Try.prog ops o S ⟨opT x ++ opT y, [n], [], [(n, some (.own n T0 1 len ys))], []⟩ := by
  have hi := tabAll_look sizT_ok hi'
  subst hv hys
  refine opG_mk hg fun S' h1 h2 h3 e a w hS => ?_
  have hr' := (h2 n (by simp)).trans hr
  have hok : w.ownsRow 0 T0 1 (e n).v len xs := hS.res n _ hr'
  have hxl : xs.length = len := by have := hok.1; omega
  rcases hok.2 with ⟨_, h0⟩ | ⟨g, cap, cur, hev, _, hb, hnc, hcm, hcs, htk⟩
  · omega
  have hevx : a.eval x = .pointer (some ⟨g, off, none⟩) := by
    rw [hS.ev ((ev_like h1 fun _ h => List.mem_append_left _ h).trans hx)]
    show (match (e n).v with | .slice (some a) _ _ => Value.pointer (some ⟨a.block, off, none⟩) | _ => undef) = _
    rw [hev]
  have hevy : a.eval y = u := hS.ev ((ev_like h1 fun _ h => List.mem_append_right _ h).trans hy)
  have hok2 := hok
  rw [hev] at hok2
  obtain ⟨hst, hgr⟩ := hok2.stored off u
  have hc : w.cell? ⟨g, off, none⟩ = some (cur[off]'(by omega)) := (cell_of_row w _ off _ _ _ hb).trans (by simp)
  have hf : w.frozen? ⟨g, off, none⟩ = false := frozen_of_row w _ off _ _ hb
  have hcells : u.cells = #[u] := by cases hh : u <;> rw [hh] at h1c <;> first | rfl | (simp [Value.oneCell'] at h1c)
  have hmine : ∀ b, (e n).v.ownBlock = some b → C.mine b := fun b hb => hS.mine n _ hr' rfl b hb
  have hg0 : (e n).v.ownBlock = some g := by rw [hev]; rfl
  refine wp_skip' (w' := w.setCell ⟨g, off, none⟩ u) ?_ ⟨e, ?_⟩
  · cases hq : Try.prog.info? t with
    | none => simp [hq] at hi
    | some i =>
      have hs : i.size = 1 := by simpa [hq] using hi
      simp [execOp, ho, hevx, hevy, Instr.storeAt, Instr.sureAddr, storeVar, sizeOf, typeInfo, hq, hs, hcells, storeCells, run_store Try.prog _ _ _ _ h1c, hc, hf, Addr.add]
  · rw [hdst]
    refine ⟨hS.defers, hS.size, hS.tmp, fun m r h => ?_, fun m r h hw b hb => ?_, fun m k r r' h h' hne hw b hb => ?_, ⟨hS.frame.os, hS.frame.tape, hS.frame.output, by simpa [World.setCell] using hS.frame.size, fun k hk hkm => ?_⟩⟩
    · have h : (St.mk S'.t ((n, some (.own n T0 1 len (xs.set off u))) :: S'.h)).res m = some r := h
      rw [St.res_cons] at h
      split at h
      · cases h
        show (w.setCell ⟨g, off, none⟩ u).ownsRow 0 T0 1 (e n).v len (xs.set off u)
        rw [hev]; exact hst
      · rename_i hne
        refine r.loc e w _ (fun b hfb => Below.heap_setCell w _ _ b fun he => ?_) (hS.res m r h)
        have he : b = g := he
        subst he
        exact hS.sep n m _ r hr' h hne rfl b hg0 hfb
    · have h : (St.mk S'.t ((n, some (.own n T0 1 len (xs.set off u))) :: S'.h)).res m = some r := h
      rw [St.res_cons] at h
      split at h
      · cases h; exact hmine b hb
      · exact hS.mine m r h hw b hb
    · have h : (St.mk S'.t ((n, some (.own n T0 1 len (xs.set off u))) :: S'.h)).res m = some r := h
      have h' : (St.mk S'.t ((n, some (.own n T0 1 len (xs.set off u))) :: S'.h)).res k = some r' := h'
      rw [St.res_cons] at h h'
      split at h
      · rename_i h1; cases h; subst h1
        split at h'
        · rename_i h2; exact absurd h2 hne
        · exact hS.sep n k _ r' hr' h' hne rfl b hb
      · split at h'
        · rename_i h2; cases h'; subst h2
          exact hS.sep m n r _ h hr' hne hw b hb
        · exact hS.sep m k r r' h h' hne hw b hb
    · refine (Below.heap_setCell w ⟨g, off, none⟩ u k fun he => ?_).trans (hS.frame.block k hk hkm)
      have he : k = g := he
      subst he
      rcases hmine k hg0 with h | h
      · omega
      · exact hkm h
/-! ### one text behind several ends of a round -/
/-! ### slices of slices handed over -/
/-- One value in a block. -/
theorem rdn_l1 {n : Nat} {T : TypeId} {wr : Bool} {u : Value} {cap : Nat} (hr : S.res n = some (.blk n T (.l [SV.c u]) wr)) : RdN C S [n] 1 (.s n 0 1 cap) 1 [u] := by
  intro S' e a w h hS
  obtain ⟨fr, hb, _⟩ := res_blk hS ((h n (by simp)).trans hr)
  refine ⟨by simp, some ⟨(e n).b, 0, none⟩, cap, rfl, .inr ⟨(e n).b, 0, rfl, fun j u hu => ?_⟩⟩
  rw [cell_of_row w _ _ _ _ _ hb, Nat.zero_add]
  simpa [SA.l, SV.c] using hu
theorem one_cells {u : Value} (h : u.oneCell' = true) : ∀ x ∈ [u], x.oneCell' = true := fun x hx => by simp at hx; rw [hx]; exact h
end
end Go.Proofs.Ytcgmapioelfneaa
