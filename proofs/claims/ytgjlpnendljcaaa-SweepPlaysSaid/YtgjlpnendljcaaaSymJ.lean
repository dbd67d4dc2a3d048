/- Objects and slices that lie beside them; copies; slices built of many values. No condition. -/
import Derived.Test.YtgjlpnendljcaaaSymI
import Derived.Laws.CopyRow
import Derived.Laws.OwnMore
namespace Go.Proofs.Ytgjlpnendljcaaa
open Go.RowKit
set_option maxRecDepth 100000
/-! ### slices that stay, whatever is written into some blocks -/
theorem BelowX.refl (w : World) (m : List Nat) : BelowX w w m := ⟨rfl, rfl, rfl, Nat.le_refl _, fun _ _ _ => rfl⟩
theorem BelowX.trans' {w w' w'' : World} {m : List Nat} (h : BelowX w w' m) (h' : BelowX w' w'' m) : BelowX w w'' m := ⟨h'.os.trans h.os, h'.tape.trans h.tape, h'.output.trans h.output, Nat.le_trans h.size h'.size, fun k hk hm => (h'.block k (Nat.lt_of_lt_of_le hk h.size) hm).trans (h.block k hk hm)⟩
def RdX (w : World) (m : List Nat) (size : Nat) (v : Value) (n : Nat) (xs : List Value) : Prop := ∀ w', BelowX w w' m → RdV w' size v n xs
def FSX (w : World) (m : List Nat) (size : Nat) (v : Value) (n : Nat) (xs : List Value) : Prop := ∀ w', BelowX w w' m → FS w' size v n xs
theorem FSX.fs {w : World} {m : List Nat} {size : Nat} {v : Value} {n : Nat} {xs : List Value} (h : FSX w m size v n xs) : FS w size v n xs := h w (BelowX.refl w m)
theorem FSX.rdx {w : World} {m : List Nat} {size : Nat} {v : Value} {n : Nat} {xs : List Value} (h : FSX w m size v n xs) : RdX w m size v n xs := fun w' hw => (h w' hw).1
theorem RdX.rd {w : World} {m : List Nat} {size : Nat} {v : Value} {n : Nat} {xs : List Value} (h : RdX w m size v n xs) : RdV w size v n xs := h w (BelowX.refl w m)
theorem FSX.cutB {w : World} {m : List Nat} {v : Value} {n : Nat} {k : IntKind} {q : Nat} {l : List (BitVec q)} (h : FSX w m 1 v n (valsL k l)) {lo len : Nat} (hl : lo + len ≤ n) : FSX w m 1 (cutV v lo len) len (valsL k ((l.drop lo).take len)) := fun w' hw => (h w' hw).cutB hl
theorem fsx_of {w : World} {size : Nat} {v : Value} {n : Nat} {xs : List Value} (h : FS w size v n xs) (hs : 0 < size) : FSX w [] size v n xs := fun _ hw => h.later hs fun b hb => hw.block b hb (by simp)
theorem FSX.later {w w1 : World} {m : List Nat} {size : Nat} {v : Value} {n : Nat} {xs : List Value} (h : FSX w m size v n xs) (hw : BelowX w w1 m) : FSX w1 m size v n xs := fun _ h1 => h _ (hw.trans' h1)
/-- Slices of bytes in a slice. -/
def SlcX (w : World) (m : List Nat) (v : Value) (ds : List (List (BitVec 8))) : Prop := ∃ ps, RdX w m 1 v ds.length ps ∧ ∀ (i : Nat) d, ds[i]? = some d → ∃ p, ps[i]? = some p ∧ FSX w m 1 p d.length (valsL .u8 d)
theorem slcx_of {w : World} {v : Value} {ds : List (List (BitVec 8))} (h : SlcL w v ds) : SlcX w [] v ds := by
  obtain ⟨ps, h1, h2⟩ := h
  refine ⟨ps, fun w' hw => h1.later (by omega) fun b hb => hw.block b hb (by simp), fun i d hd => ?_⟩
  obtain ⟨p, h3, h4⟩ := h2 i d hd
  exact ⟨p, h3, fsx_of h4 (by omega)⟩
theorem SlcX.slcl {w : World} {m : List Nat} {v : Value} {ds : List (List (BitVec 8))} (h : SlcX w m v ds) : SlcL w v ds := by
  obtain ⟨ps, h1, h2⟩ := h
  refine ⟨ps, h1.rd, fun i d hd => ?_⟩
  obtain ⟨p, h3, h4⟩ := h2 i d hd
  exact ⟨p, h3, h4.fs⟩
variable {C : Ctx} {ops : Array Oper} {S : St} {o : Oper}
theorem rdn_oldX {v : Value} {size n : Nat} {xs : List Value} (h : FSX C.w0 C.m size v n xs) : RdN C S [] size (.c v) n xs := fun _ _ _ w _ hS => (h w hS.frame.belowX).1
theorem rdn_oldR {v : Value} {size n : Nat} {xs : List Value} (h : RdX C.w0 C.m size v n xs) : RdN C S [] size (.c v) n xs := fun _ _ _ w _ hS => h w hS.frame.belowX
theorem op_loadX {t : TypeId} {x : Operand} {v : Value} {n size : Nat} {xs : List Value} {off : Nat} {u : Value} {d : TypeDesc} (ho : o.op = .load t x) (hg : o.guard = none) (hd : dstB o.dst C.nt = true) (hx : S.ev x = some (.c (ptrV v off))) (hu' : tabLook undT t = some d) (hda : d.isRow = false) (hf : RdX C.w0 C.m size v n xs) (hn : 0 < size) (hv : xs[off]? = some u) :
    OpG C Try.prog ops o S ⟨opT x, [], dw o.dst (.c u), [], []⟩ := by
  obtain ⟨hl, a, c, rfl, hr⟩ := hf.rd
  have hlt : off < xs.length := (List.getElem?_eq_some_iff.1 hv).1
  rcases hr with h | ⟨b, o2, rfl, hr⟩
  · subst h; omega
  · have := op_value (C := C) (P := Try.prog) (ops := ops) (S := S) hg hd [x] [] (.c u) fun S' e a w hS h1 _ => by
      have hev : a.eval x = .pointer (some ⟨b, o2 + off, none⟩) := hS.ev ((h1 x (by simp)).trans hx)
      obtain ⟨_, a', c', hv', hr'⟩ := hf w hS.frame.belowX
      cases hv'
      have hc : w.cell? ⟨b, o2 + off, none⟩ = some u := by
        rcases hr' with h | ⟨b', o', h, hr'⟩
        · subst h; omega
        · cases h; exact hr' off u hv
      have hu := tabAll_look undT_ok hu'
      have hagg : (isAgg t).run Try.prog w = .ok false w := (run_isAgg hu w).trans (by rw [hda])
      simp [execOp, ho, hev, Instr.loadAt, Instr.sureAddr, loadVar, Sem.run_bind, hagg, hc]
      rfl
    simpa using this
/-! ### a copy into a block -/
theorem upd_vals {k : IntKind} {q : Nat} {X L : List (BitVec q)} {off m : Nat} (h : off + m ≤ X.length) (hl : L.length = m) : Upd (.c (vals k X)) off m (.c (vals k L)) (.c (vals k (X.take off ++ (L ++ X.drop (off + m))))) := fun e => by
  refine ⟨vals k (X.take off), vals k ((X.drop off).take m), vals k (X.drop (off + m)), ?_, ?_, ?_, ?_, ?_⟩
  · show vals k X = _
    have : X = X.take off ++ ((X.drop off).take m ++ X.drop (off + m)) := by rw [← List.drop_drop, List.take_append_drop, List.take_append_drop]
    conv => lhs; rw [this]
    simp [vals, valsL]
  · simp [vals, valsL]; omega
  · simp [vals, valsL]; omega
  · simp [SA.c, vals, valsL, hl]
  · simp [SA.c, vals, valsL]
theorem upd_inL {A R A' B : SA} {off m k : Nat} (hk : ∀ e, (A.den e).size = k) (hle : off + m ≤ k) (h : Upd A off m B A') : Upd (A.app R) off m B (A'.app R) := fun e => by
  obtain ⟨pre, old, post, h1, h2, h3, h4, h5⟩ := h e
  exact ⟨pre, old, post ++ R.den e, by simp [SA.app, h1], h2, h3, h4, by simp [SA.app, h5]⟩
theorem upd_skipO {A R R' B : SA} {off m k : Nat} (hk : ∀ e, (A.den e).size = k) (hle : k ≤ off) (h : Upd R (off - k) m B R') : Upd (A.app R) off m B (A.app R') := upd_skip hk (by simpa using hle) h
theorem upd_off {A B A' : SA} {off off' m : Nat} (h : off = off') (hu : Upd A off' m B A') : Upd A off m B A' := h ▸ hu
theorem op_copyB {dst : Option Tmp} {x y : Operand} {t sT T ty : TypeId} {pos : String} {after : Array Edge} {n off dl dc sl : Nat} {T0 : TypeId} {A A' : SA} {k : IntKind} {q : Nat} {l : List (BitVec q)} {v2 : SV} {ns : List Nat}
    (hd : dstB dst C.nt = true) (hx : S.ev x = some (.s n off dl dc)) (hr : S.res n = some (.blk n T0 A)) (hy : S.ev y = some v2) (hu' : tabLook undT t = some (.slice T)) (hs' : tabLook sizT T = some 1) (hrd : RdN C S ns 1 v2 sl (valsL k l) := by first | exact rdn_one rfl | exact rdn_ones rfl rfl | exact rdn_own rfl | exact rdn_osub rfl | exact rdn_whole rfl (by first | omega | (simp; omega) | (simp <;> fail) | omega) | exact rdn_sub rfl (by first | omega | decide) | exact rdn_blk rfl (by first | omega | (simp; omega) | (simp <;> fail) | omega) | exact rdn_nil | exact rdn_lit rfl (by repeat (first | exact litl_nil | apply litl_bv | refine litl_z rfl ?_)) rfl | exact rdn_oldX (by assumption) | exact rdn_oldR (by assumption) | exact rdn_oldX (FSX.cutB (by assumption) (by omega)) | exact rdn_old (by assumption) (by omega) rfl | exact rdn_old (FS.rd (by first | assumption | exact FSX.fs (by assumption) | (refine FS.cutB (by assumption) ?_; omega) | (refine FS.cut (by assumption) ?_; omega))) (by omega) rfl)
    (hup : Upd A off (min sl dl) (.c (vals k (l.take (min sl dl)))) A' := by (fail_if_success (with_reducible apply trap_upd)); repeat (first | ((with_reducible apply upd_vals); (· first | omega | (simp; omega)); (· (simp only [List.length_take]; omega))) | ((with_reducible apply upd_inL); (· exact (by (fail_if_success (with_reducible apply trap_sm)); first | ((with_reducible apply sm_vals); first | (with_reducible assumption) | (simp <;> fail) | rfl) | ((with_reducible apply sm_c); rfl) | ((with_reducible apply sm_l); rfl))); (· omega)) | ((with_reducible apply upd_skipO); (· exact (by (fail_if_success (with_reducible apply trap_sm)); first | ((with_reducible apply sm_vals); first | (with_reducible assumption) | (simp <;> fail) | rfl) | ((with_reducible apply sm_c); rfl) | ((with_reducible apply sm_l); rfl))); (· omega)))) :
    OpG C Try.prog ops ⟨dst, .call { callee := .builtin .copy, args := #[x, y], argTypes := #[t, sT] }, ty, pos, after, none⟩ S ⟨opT x ++ opT y, n :: (A'.sup ++ ns), dw dst (.c (.int .i64 ((min sl dl : Nat) : Int))), [(n, some (.blk n T0 A'))], []⟩ := by
  refine opG_mk rfl fun S' h1 h2 h3 e a w hS => ?_
  have hevx : a.eval x = .slice (some ⟨(e n).b, off, none⟩) dl dc := hS.ev ((ev_like h1 fun _ h => List.mem_append_left _ h).trans hx)
  have hevy : a.eval y = v2.den e := hS.ev ((ev_like h1 fun _ h => List.mem_append_right _ h).trans hy)
  have hr' := (h2 n (by simp)).trans hr
  obtain ⟨fr, hb, hfr⟩ := res_blk hS hr'
  rw [hfr rfl] at hb
  obtain ⟨hll, ad, c, hv, hrr⟩ := hrd S' e a w (fun q hq => h2 q (by simp [hq])) hS
  rw [valsL_length, Nat.mul_one] at hll
  obtain ⟨pre, old, post, g1, g2, g3, g4, g5⟩ := hup e
  have hu := tabAll_look undT_ok hu'
  have hs := tabAll_look sizT_ok hs'
  have hrun : (Builtin.copy_ #[t, sT] ty #[.slice (some ⟨(e n).b, off, none⟩) dl dc, .slice ad sl c]).run Try.prog w = .ok (goInt (min sl dl : Nat)) (w.setRow (e n).b (A'.den e)) := by
    have hA : ((A.den e).toList.take off ++ valsL k (l.take (min sl dl)) ++ (A.den e).toList.drop (off + (valsL k (l.take (min sl dl))).length)).toArray = A'.den e := by
      have l1 : pre.toList.length = off := by simpa using g2
      have l2 : old.toList.length = min sl dl := by simpa using g3
      have l3 : (valsL k (l.take (min sl dl))).length = min sl dl := by have : (valsL k (l.take (min sl dl))).toArray.size = min sl dl := g4; simpa using this
      apply Array.ext'
      rw [g1, g5]
      simp only [Array.toList_append, l3, List.append_assoc]
      rw [List.take_append_of_le_length (by omega), List.take_of_length_le (by omega), ← l1, ← l2, List.drop_append, List.drop_append]
      simp
      rw [List.drop_of_length_le (by simp), List.drop_of_length_le (by simp)]
      rfl
    have l3 : (valsL k (l.take (min sl dl))).length = min sl dl := by have : (valsL k (l.take (min sl dl))).toArray.size = min sl dl := g4; simpa using this
    cases ad with
    | some ad =>
      rw [run_copy_row Try.prog w t sT ty T (e n).b off dl dc ad sl c (A.den e) T0 (valsL k (l.take (min sl dl))) hu hs hb l3 ?_ ?_ (valsL_one _), hA, l3]
      · intro j u hu
        rcases hrr with h | ⟨b, o2, h, hrr⟩
        · subst h
          simp [valsL] at hu
        · cases h
          rw [Addr.add_mid]
          refine hrr j u ?_
          have hj : j < (valsL k (l.take (min sl dl))).length := (List.getElem?_eq_some_iff.1 hu).1
          rw [l3] at hj
          rw [← hu]
          simp only [valsL, List.map_take, List.getElem?_take, if_pos hj]
      · rw [l3, g1]
        simp only [Array.size_append]
        omega
    | none =>
      obtain rfl : sl = 0 := by
        rcases hrr with h | ⟨b, o2, h, _⟩
        · exact h
        · cases h
      have hself : A'.den e = A.den e := by
        rw [← hA]
        simp [valsL]
      rw [hself, Nat.zero_min, setRow_self w _ _ _ _ hb]
      cases hq : Try.prog.info? T with
      | none => simp [hq] at hs
      | some i =>
        have hi : i.size = 1 := by simpa [hq] using hs
        cases c <;> simp [Builtin.copy_, run_underlying hu, Builtin.lenOf, Builtin.firstCells, sizeOf, typeInfo, hq, storeCells]
  refine wp_value (v := .int .i64 ((min sl dl : Nat) : Int)) (w' := w.setRow (e n).b (A'.den e)) ?_ ⟨e, ?_⟩
  · rw [hv] at hevy
    simp only [execOp, resolve, invoke, builtin, Sem.run_bind, Sem.run_pure, Result.andThen_ok, List.map_toArray, List.map_cons, List.map_nil, hevx, hevy, hrun]
    rfl
  · refine (hS.write (w' := w.setRow (e n).b (A'.den e)) hr' rfl rfl rfl (by simp) ?_ (fun k hk => setRow_other w _ k _ hk)).put hd (.c _)
    exact setRow_heap w _ _ _ _ _ hb
end Go.Proofs.Ytgjlpnendljcaaa
