/- A string as new bytes. No condition. -/
import Derived.Test.YtgjlpnendljcaaaSymN
namespace Go.Proofs.Ytgjlpnendljcaaa
open Go.RowKit
set_option maxRecDepth 100000
variable {C : Ctx} {ops : Array Oper} {S : St} {o : Oper}
/-- What lies behind the bytes. -/
def SA.zt (n len : Nat) : SA := ⟨3, fun e => Array.replicate ((e n).c - len) (.int .u8 0), [n], fun e e' h => by simp only [h n (by simp)]⟩
/-- A slice of a block, whose room nobody knows. -/
def SV.sc (n len : Nat) : SV := ⟨9, fun e => .slice (some ⟨(e n).b, 0, none⟩) len (e n).c, [n], fun e e' h => by simp only [h n (by simp)]⟩
theorem Holds.newFz {e : Env} {a : Act} {w w' : World} (hS : Holds C S e a w) {n cap : Nat} (hf : S.fresh n) (T : TypeId) (A : SA) {cells : Array Value} {fr : Nat × Nat} (hA : A.den (e.set n ⟨w.heap.size, cap, undef⟩) = cells) (hb : Below w.heap.size w w') (hB : w'.heap[w.heap.size]? = some (.cells cells T fr)) :
    Holds C ⟨S.t, (n, some (.blk n T A false)) :: S.h⟩ (e.set n ⟨w.heap.size, cap, undef⟩) a w' := by
  have h1 := (hS.world hb).rename hf ⟨w.heap.size, cap, undef⟩
  have hfoot : ∀ m r, S.res m = some r → ¬ r.foot (e.set n ⟨w.heap.size, cap, undef⟩) w.heap.size := by
    intro m r hr hfo
    have h2 := r.ind e (e.set n ⟨w.heap.size, cap, undef⟩) fun k hk => Env.set_ne e _ (fun he => hf.2 m r hr (he ▸ hk))
    rw [h2.1] at hfo
    have := r.lt e w _ (hS.res m r hr) hfo
    omega
  refine ⟨h1.defers, h1.size, h1.tmp, fun m r hr => ?_, fun m r hr hw x hx => ?_, fun m k r r' hr hr' hne hw x hx => ?_, h1.frame⟩
  · rw [St.res_cons] at hr
    split at hr
    · cases hr
      refine ⟨fr, ?_, fun h => by cases h⟩
      rw [Env.set_self, hA]; exact hB
    · exact h1.res m r hr
  · rw [St.res_cons] at hr
    split at hr
    · cases hr; cases hw
    · exact h1.mine m r hr hw x hx
  · rw [St.res_cons] at hr hr'
    split at hr
    · cases hr; cases hw
    · split at hr'
      · cases hr'
        intro hb2
        have hbb : x = w.heap.size := by rw [show x = ((e.set n ⟨w.heap.size, cap, undef⟩) n).b from hb2, Env.set_self]
        rw [hbb] at hx
        exact hfoot m r hr hx
      · exact h1.sep m k r r' hr hr' hne hw x hx
theorem bytesRow_strL (l : List (BitVec 8)) (cap : Nat) : bytesRow (strL l) cap = vals .u8 l ++ Array.replicate (cap - l.length) (.int .u8 0) := by
  unfold bytesRow
  rw [strL_size]
  congr 1
  simp only [strL, vals, valsL, List.map_toArray, List.map_map]
  congr 1
theorem op_cvtSB {src dst e0 : TypeId} {x : Operand} {n : Nat} {s : ByteArray} {l : List (BitVec 8)} (ho : o.op = .convert src dst x) (hdn : o.dst = some n) (hg : o.guard = none) (hd : dstB o.dst C.nt = true) (hx : S.ev x = some (.c (.string s))) (hs' : tabLook undT src = some .string) (hd' : tabLook undT dst = some (.slice e0)) (he' : tabLook undT e0 = some (.int .u8)) (hs : s = strL l := by first | with_reducible rfl | assumption) :
    OpG C Try.prog ops o S ⟨opT x, [], [(n, .sc n l.length)], [(n, some (.blk n e0 ((SA.c (vals .u8 l)).app (SA.zt n l.length)) false))], [n]⟩ := by
  subst hs
  refine opG_mk hg fun S' h1 h2 h3 e a w hS => ?_
  have hev : a.eval x = .string (strL l) := hS.ev ((ev_like h1 fun _ h => h).trans hx)
  have us := tabAll_look undT_ok hs'
  have ud := tabAll_look undT_ok hd'
  have ue := tabAll_look undT_ok he'
  have hrun := run_bytes_of_string (P := Try.prog) w src dst e0 (strL l) us ud ue
  generalize hcap : grownCap w (strL l).size 0 e0 = cap at hrun
  rw [strL_size, bytesRow_strL] at hrun
  generalize hfr : ((vals .u8 l ++ Array.replicate (cap - l.length) (Value.int .u8 0)).size, (vals .u8 l ++ Array.replicate (cap - l.length) (Value.int .u8 0)).size + 1) = fr at hrun
  have hb : Below w.heap.size w (w.drew.alloc (.cells (vals .u8 l ++ Array.replicate (cap - l.length) (.int .u8 0)) e0 fr)) := ((Below.refl _ _).drew).alloc (Nat.le_refl _) _
  have hH := hS.newFz (n := n) (cap := cap) (fr := fr) (h3 n (by simp)) e0 ((SA.c (vals .u8 l)).app (SA.zt n l.length)) (by simp [SA.app, SA.c, SA.zt, Env.set_self]) hb (heap_alloc_new w.drew _)
  refine wp_value (v := .slice (some ⟨w.heap.size, 0, none⟩) l.length cap) (w' := w.drew.alloc (.cells (vals .u8 l ++ Array.replicate (cap - l.length) (.int .u8 0)) e0 fr)) ?_ ⟨e.set n ⟨w.heap.size, cap, undef⟩, ?_⟩
  · simp [execOp, ho, hev, hrun]
  · rw [hdn]
    have hd2 : dstB (some n) C.nt = true := by rw [← hdn]; exact hd
    have := hH.put hd2 (.sc n l.length)
    simp only [SV.sc, Env.set_self] at this
    exact this
theorem op_lenSc {dst : Option Tmp} {x : Operand} {t T ty : TypeId} {pos : String} {after : Array Edge} {n len : Nat} (hd : dstB dst C.nt = true) (hx : S.ev x = some (.sc n len)) (hu' : tabLook undT t = some (.slice T)) :
    OpG C Try.prog ops ⟨dst, .call { callee := .builtin .len, args := #[x], argTypes := #[t] }, ty, pos, after, none⟩ S ⟨opT x, [], dw dst (.c (.int .i64 ((len : Nat) : Int))), [], []⟩ := by
  have := op_value (C := C) (P := Try.prog) (ops := ops) (S := S) (o := ⟨dst, .call { callee := .builtin .len, args := #[x], argTypes := #[t] }, ty, pos, after, none⟩) rfl hd [x] [] (.c (.int .i64 ((len : Nat) : Int))) fun S' e a w hS h1 h2 => by
    have hev : a.eval x = .slice (some ⟨(e n).b, 0, none⟩) len (e n).c := hS.ev ((h1 x (by simp)).trans hx)
    exact run_builtin_len hev hu'
  simpa using this
theorem op_idxSc {x y : Operand} {t T : TypeId} {n len j : Nat} (ho : o.op = .indexAddr t x y) (hg : o.guard = none) (hd : dstB o.dst C.nt = true) (hx : S.ev x = some (.sc n len)) (hy : EvK S y j) (hu' : tabLook undT t = some (.slice T)) (hs' : tabLook sizT T = some 1) (hj : j < len) :
    OpG C Try.prog ops o S ⟨opT x ++ opT y, [n], dw o.dst (.p n j), [], []⟩ := by
  obtain ⟨k, hy⟩ := hy
  refine op_two (v := .p n j) hg hd hx hy fun e ρ w h1 h2 => ?_
  have h1' : ρ x = .slice (some ⟨(e n).b, 0, none⟩) len (e n).c := h1
  have h2' : ρ y = .int k ((j : Nat) : Int) := h2
  have hu := tabAll_look undT_ok hu'
  have h3 : (0 : Int) ≤ (j : Int) ∧ (j : Int) < (len : Int) := by omega
  simp only [execOp, ho, h1', h2', Instr.indexAt, asIntOf, Sem.run_bind, run_underlying hu w, Result.andThen_ok, Sem.run_pure, Sem.run_ite, if_pos h3, run_sizeT hs' w, add_place, Int.toNat_natCast, Nat.mul_one, Nat.zero_add]
  rfl
end Go.Proofs.Ytgjlpnendljcaaa
