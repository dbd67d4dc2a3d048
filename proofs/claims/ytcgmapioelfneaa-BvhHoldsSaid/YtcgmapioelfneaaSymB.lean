/- Steps of single operations, more: numbers, places, conversions, calls. No condition. -/
import Derived.Test.YtcgmapioelfneaaSymOp
import Derived.Laws.Shifts
import Derived.Laws.StructEq
namespace Go.Proofs.Ytcgmapioelfneaa
open Go.RowKit
theorem dec1 {a b : Bool} (h : a = b := by first | exact decide_eq_true (by omega) | exact decide_eq_false (by omega) | rfl | (show _ = true; with_reducible assumption) | (show _ = false; with_reducible assumption) | (simp <;> fail) | omega) : a = b := h

section
variable {C : Ctx} {ops : Array Oper} {S : St} {o : Oper}

/-! ### numbers -/
/-- What an operand is: a natural number as an int; a whole number; a bit vector; how far to shift. -/
def EvN (S : St) (x : Operand) (n : Nat) : Prop := S.ev x = some (.c (.int .i64 ((n : Nat) : Int)))
def EvI (S : St) (x : Operand) (z : Int) : Prop := S.ev x = some (.c (.int .i64 z))
def EvB (S : St) (x : Operand) (k : IntKind) {m : Nat} (b : BitVec m) : Prop := ∃ z : Int, S.ev x = some (.c (.int k z)) ∧ z = bvi b
def EvK (S : St) (x : Operand) (n : Nat) : Prop := ∃ k, S.ev x = some (.c (.int k ((n : Nat) : Int)))
theorem litb (n : Nat) (z : Int) (h : (decide (0 ≤ z) && decide (z < 2 ^ n)) = true) : z = bvi (BitVec.ofInt n z) := by
  simp only [Bool.and_eq_true, decide_eq_true_eq] at h
  rw [bvi_ofInt', Int.emod_eq_of_lt h.1 (by push_cast; exact h.2)]
theorem evB_tmp {x : Operand} {k : IntKind} {m : Nat} {b : BitVec m} (h : S.ev x = some (.c (.int k (bvi b)))) : EvB S x k b := ⟨_, h, rfl⟩
theorem evB_lit {x : Operand} {k : IntKind} {m : Nat} {z : Int} (h : S.ev x = some (.c (.int k z))) (hz : (decide (0 ≤ z) && decide (z < 2 ^ m)) = true) : EvB S x k (BitVec.ofInt m z) := ⟨_, h, litb m z hz⟩
theorem evN_const {x : Operand} {n : Nat} (h : x = .const (.int .i64 (@OfNat.ofNat Int n instOfNat))) : EvN S x (@OfNat.ofNat Nat n (instOfNatNat n)) := by subst h; rfl
theorem evK_const {x : Operand} {k : IntKind} {n : Nat} (h : x = .const (.int k (@OfNat.ofNat Int n instOfNat))) : EvK S x (@OfNat.ofNat Nat n (instOfNatNat n)) := by subst h; exact ⟨k, rfl⟩
theorem evK_tmp {x : Operand} {k : IntKind} {n : Nat} (h : S.ev x = some (.c (.int k ((n : Nat) : Int)))) : EvK S x n := ⟨k, h⟩
theorem op_moveN {x : Operand} {n : Nat} (ho : o.op = .move x) (hg : o.guard = none) (hd : dstB o.dst C.nt = true) (h : x = .const (.int .i64 (@OfNat.ofNat Int n instOfNat))) : OpG C Try.prog ops o S ⟨opT x, [], dw o.dst (.c (.int .i64 (((@OfNat.ofNat Nat n (instOfNatNat n)) : Nat) : Int))), [], []⟩ :=
  op_move ho hg hd (evN_const h)
theorem op_assignN {x : Operand} {n : Nat} (ho : o.op = .assign x) (hg : o.guard = none) (hd : dstB o.dst C.nt = true) (h : x = .const (.int .i64 (@OfNat.ofNat Int n instOfNat))) : OpG C Try.prog ops o S ⟨opT x, [], dw o.dst (.c (.int .i64 (((@OfNat.ofNat Nat n (instOfNatNat n)) : Nat) : Int))), [], []⟩ :=
  op_assign ho hg hd (evN_const h)
theorem EvB.ev {x : Operand} {k : IntKind} {m : Nat} {b : BitVec m} (h : EvB S x k b) : S.ev x = some (.c (.int k (bvi b))) := by obtain ⟨z, h1, rfl⟩ := h; exact h1

theorem op_int2 {op : BinOp} {ty yt : TypeId} {x y : Operand} {k k' : IntKind} {a b : Int} {v : Value} (ho : o.op = .binOp op ty x y yt) (hg : o.guard = none) (hd : dstB o.dst C.nt = true) (hx : S.ev x = some (.c (.int k a))) (hy : S.ev y = some (.c (.int k' b)))
    (hrun : ∀ w, (binOp op ty (.int k a) (.int k' b)).run Try.prog w = .ok v w) : OpG C Try.prog ops o S ⟨opT x ++ opT y, [], dw o.dst (.c v), [], []⟩ := by
  refine op_two (v := .c v) hg hd hx hy fun e ρ w h1 h2 => ?_
  have hgd : (eqGuard op ty x y (.int k a) (.int k' b)).run Try.prog w = .ok () w := by
    unfold eqGuard
    cases op <;> rfl
  have h1' : ρ x = .int k a := h1
  have h2' : ρ y = .int k' b := h2
  simp only [execOp, ho, h1', h2', Sem.run_bind, hgd, Result.andThen_ok, hrun w, Sem.run_pure]
  rfl
theorem run_arith {ty : TypeId} {k : IntKind} {a b : Int} {w : World} : (binOp .add ty (.int k a) (.int k b)).run Try.prog w = .ok (.int k (k.wrap (a + b))) w ∧ (binOp .sub ty (.int k a) (.int k b)).run Try.prog w = .ok (.int k (k.wrap (a - b))) w ∧
    (binOp .mul ty (.int k a) (.int k b)).run Try.prog w = .ok (.int k (k.wrap (a * b))) w := by simp [binOp, Op.intArith]
theorem run_div {ty : TypeId} {k : IntKind} {a b : Int} {w : World} (hb : b ≠ 0) : (binOp .quo ty (.int k a) (.int k b)).run Try.prog w = .ok (.int k (k.wrap (a.tdiv b))) w ∧ (binOp .rem ty (.int k a) (.int k b)).run Try.prog w = .ok (.int k (a.tmod b)) w := by
  simp [binOp, Op.intDiv, hb]
theorem run_cmp {ty : TypeId} {k : IntKind} {a b : Int} {w : World} : (binOp .eql ty (.int k a) (.int k b)).run Try.prog w = .ok (.bool (a == b)) w ∧ (binOp .neq ty (.int k a) (.int k b)).run Try.prog w = .ok (.bool (a != b)) w ∧
    (binOp .lss ty (.int k a) (.int k b)).run Try.prog w = .ok (.bool (decide (a < b))) w ∧ (binOp .leq ty (.int k a) (.int k b)).run Try.prog w = .ok (.bool (decide (a ≤ b))) w ∧
    (binOp .gtr ty (.int k a) (.int k b)).run Try.prog w = .ok (.bool (decide (b < a))) w ∧ (binOp .geq ty (.int k a) (.int k b)).run Try.prog w = .ok (.bool (decide (b ≤ a))) w := by
  simp [binOp, Op.intCmp]
theorem run_shift {ty : TypeId} {k ky : IntKind} {a : Int} {n : Nat} {w : World} : (binOp .shl ty (.int k a) (.int ky (n : Int))).run Try.prog w = .ok (.int k (k.wrap (a * 2 ^ min n k.bits))) w ∧ (binOp .shr ty (.int k a) (.int ky (n : Int))).run Try.prog w = .ok (.int k (a.fdiv (2 ^ min n k.bits))) w := by
  have : ¬ ((n : Int) < 0) := by omega
  simp [binOp, Op.shift, this]
theorem wrapN {a : Nat} (h : a < 9223372036854775808) : IntKind.i64.wrap (a : Int) = a := IntWalk.i64_in _ (by omega)
theorem wrapI {a : Int} (h : -9223372036854775808 ≤ a ∧ a < 9223372036854775808) : IntKind.i64.wrap a = a := IntWalk.i64_in _ (by omega)

section nat
variable {ty yt : TypeId} {x y : Operand} {a b : Nat}
theorem op_addN (ho : o.op = .binOp .add ty x y yt) (hg : o.guard = none) (hd : dstB o.dst C.nt = true) (hx : EvN S x a) (hy : EvN S y b) (h : a + b < 9223372036854775808) : OpG C Try.prog ops o S ⟨opT x ++ opT y, [], dw o.dst (.c (.int .i64 ((a + b : Nat) : Int))), [], []⟩ :=
  op_int2 ho hg hd hx hy fun w => by rw [run_arith.1, ← Int.natCast_add, wrapN h]
theorem op_subN (ho : o.op = .binOp .sub ty x y yt) (hg : o.guard = none) (hd : dstB o.dst C.nt = true) (hx : EvN S x a) (hy : EvN S y b) (h : b ≤ a ∧ a < 9223372036854775808) : OpG C Try.prog ops o S ⟨opT x ++ opT y, [], dw o.dst (.c (.int .i64 ((a - b : Nat) : Int))), [], []⟩ :=
  op_int2 ho hg hd hx hy fun w => by rw [run_arith.2.1, ← Int.natCast_sub h.1, wrapN (by omega)]
theorem op_mulN (ho : o.op = .binOp .mul ty x y yt) (hg : o.guard = none) (hd : dstB o.dst C.nt = true) (hx : EvN S x a) (hy : EvN S y b) (h : a * b < 9223372036854775808) : OpG C Try.prog ops o S ⟨opT x ++ opT y, [], dw o.dst (.c (.int .i64 ((a * b : Nat) : Int))), [], []⟩ :=
  op_int2 ho hg hd hx hy fun w => by rw [run_arith.2.2, ← Int.natCast_mul, wrapN h]
theorem op_divN (ho : o.op = .binOp .quo ty x y yt) (hg : o.guard = none) (hd : dstB o.dst C.nt = true) (hx : EvN S x a) (hy : EvN S y b) (h : 0 < b ∧ a < 9223372036854775808) : OpG C Try.prog ops o S ⟨opT x ++ opT y, [], dw o.dst (.c (.int .i64 ((a / b : Nat) : Int))), [], []⟩ :=
  op_int2 ho hg hd hx hy fun w => by
    rw [(run_div (by omega)).1, Int.tdiv_eq_ediv_of_nonneg (by omega), ← Int.natCast_ediv, wrapN (Nat.lt_of_le_of_lt (Nat.div_le_self _ _) h.2)]
theorem op_ltN (ho : o.op = .binOp .lss ty x y yt) (hg : o.guard = none) (hd : dstB o.dst C.nt = true) (hx : EvN S x a) (hy : EvN S y b) : OpG C Try.prog ops o S ⟨opT x ++ opT y, [], dw o.dst (.c (.bool (decide (a < b)))), [], []⟩ :=
  op_int2 ho hg hd hx hy fun w => by rw [run_cmp.2.2.1]; simp only [Int.ofNat_lt]
theorem op_leN (ho : o.op = .binOp .leq ty x y yt) (hg : o.guard = none) (hd : dstB o.dst C.nt = true) (hx : EvN S x a) (hy : EvN S y b) : OpG C Try.prog ops o S ⟨opT x ++ opT y, [], dw o.dst (.c (.bool (decide (a ≤ b)))), [], []⟩ :=
  op_int2 ho hg hd hx hy fun w => by rw [run_cmp.2.2.2.1]; simp only [Int.ofNat_le]
theorem op_gtN (ho : o.op = .binOp .gtr ty x y yt) (hg : o.guard = none) (hd : dstB o.dst C.nt = true) (hx : EvN S x a) (hy : EvN S y b) : OpG C Try.prog ops o S ⟨opT x ++ opT y, [], dw o.dst (.c (.bool (decide (b < a)))), [], []⟩ :=
  op_int2 ho hg hd hx hy fun w => by rw [run_cmp.2.2.2.2.1]; simp only [Int.ofNat_lt]
theorem op_geN (ho : o.op = .binOp .geq ty x y yt) (hg : o.guard = none) (hd : dstB o.dst C.nt = true) (hx : EvN S x a) (hy : EvN S y b) : OpG C Try.prog ops o S ⟨opT x ++ opT y, [], dw o.dst (.c (.bool (decide (b ≤ a)))), [], []⟩ :=
  op_int2 ho hg hd hx hy fun w => by rw [run_cmp.2.2.2.2.2]; simp only [Int.ofNat_le]
theorem op_eqN (ho : o.op = .binOp .eql ty x y yt) (hg : o.guard = none) (hd : dstB o.dst C.nt = true) (hx : EvN S x a) (hy : EvN S y b) : OpG C Try.prog ops o S ⟨opT x ++ opT y, [], dw o.dst (.c (.bool (decide (a = b)))), [], []⟩ :=
  op_int2 ho hg hd hx hy fun w => by rw [run_cmp.1]; congr 2; rw [Bool.eq_iff_iff]; simp; omega
theorem op_neN (ho : o.op = .binOp .neq ty x y yt) (hg : o.guard = none) (hd : dstB o.dst C.nt = true) (hx : EvN S x a) (hy : EvN S y b) : OpG C Try.prog ops o S ⟨opT x ++ opT y, [], dw o.dst (.c (.bool (decide (a ≠ b)))), [], []⟩ :=
  op_int2 ho hg hd hx hy fun w => by rw [run_cmp.2.1]; congr 2; rw [Bool.eq_iff_iff]; simp; omega
end nat
section int
variable {ty yt : TypeId} {x y : Operand} {a b : Int}
theorem op_addI (ho : o.op = .binOp .add ty x y yt) (hg : o.guard = none) (hd : dstB o.dst C.nt = true) (hx : EvI S x a) (hy : EvI S y b) (h : -9223372036854775808 ≤ a + b ∧ a + b < 9223372036854775808) : OpG C Try.prog ops o S ⟨opT x ++ opT y, [], dw o.dst (.c (.int .i64 (a + b))), [], []⟩ :=
  op_int2 ho hg hd hx hy fun w => by rw [run_arith.1, wrapI h]
theorem op_subI (ho : o.op = .binOp .sub ty x y yt) (hg : o.guard = none) (hd : dstB o.dst C.nt = true) (hx : EvI S x a) (hy : EvI S y b) (h : -9223372036854775808 ≤ a - b ∧ a - b < 9223372036854775808) : OpG C Try.prog ops o S ⟨opT x ++ opT y, [], dw o.dst (.c (.int .i64 (a - b))), [], []⟩ :=
  op_int2 ho hg hd hx hy fun w => by rw [run_arith.2.1, wrapI h]
theorem op_mulI (ho : o.op = .binOp .mul ty x y yt) (hg : o.guard = none) (hd : dstB o.dst C.nt = true) (hx : EvI S x a) (hy : EvI S y b) (h : -9223372036854775808 ≤ a * b ∧ a * b < 9223372036854775808) : OpG C Try.prog ops o S ⟨opT x ++ opT y, [], dw o.dst (.c (.int .i64 (a * b))), [], []⟩ :=
  op_int2 ho hg hd hx hy fun w => by rw [run_arith.2.2, wrapI h]
theorem op_ltI (ho : o.op = .binOp .lss ty x y yt) (hg : o.guard = none) (hd : dstB o.dst C.nt = true) (hx : EvI S x a) (hy : EvI S y b) : OpG C Try.prog ops o S ⟨opT x ++ opT y, [], dw o.dst (.c (.bool (decide (a < b)))), [], []⟩ :=
  op_int2 ho hg hd hx hy fun w => run_cmp.2.2.1
theorem op_gtI (ho : o.op = .binOp .gtr ty x y yt) (hg : o.guard = none) (hd : dstB o.dst C.nt = true) (hx : EvI S x a) (hy : EvI S y b) : OpG C Try.prog ops o S ⟨opT x ++ opT y, [], dw o.dst (.c (.bool (decide (b < a)))), [], []⟩ :=
  op_int2 ho hg hd hx hy fun w => run_cmp.2.2.2.2.1
theorem op_geI (ho : o.op = .binOp .geq ty x y yt) (hg : o.guard = none) (hd : dstB o.dst C.nt = true) (hx : EvI S x a) (hy : EvI S y b) : OpG C Try.prog ops o S ⟨opT x ++ opT y, [], dw o.dst (.c (.bool (decide (b ≤ a)))), [], []⟩ :=
  op_int2 ho hg hd hx hy fun w => run_cmp.2.2.2.2.2
theorem op_eqI (ho : o.op = .binOp .eql ty x y yt) (hg : o.guard = none) (hd : dstB o.dst C.nt = true) (hx : EvI S x a) (hy : EvI S y b) : OpG C Try.prog ops o S ⟨opT x ++ opT y, [], dw o.dst (.c (.bool (decide (a = b)))), [], []⟩ :=
  op_int2 ho hg hd hx hy fun w => by rw [run_cmp.1]; congr 2
end int

section cmp
variable {ty yt : TypeId} {x y : Operand} {k : IntKind} {m : Nat} {a b : BitVec m}
end cmp

/-- The kind of bit vectors of so many bits. -/
class Bits (k : IntKind) (m : outParam Nat) : Prop where
  bits : k.bits = m
  uns : k.signed = false
instance : Bits .u8 8 := ⟨rfl, rfl⟩
instance : Bits .u16 16 := ⟨rfl, rfl⟩
instance : Bits .u32 32 := ⟨rfl, rfl⟩
instance : Bits .u64 64 := ⟨rfl, rfl⟩
theorem wrap_bits (k : IntKind) (m : Nat) [h : Bits k m] (z : Int) : k.wrap z = z % 2 ^ m := by
  unfold IntKind.wrap
  rw [h.uns, h.bits]
  simp
section bv
variable {ty yt : TypeId} {x y : Operand} {k : IntKind} {m : Nat} [hk : Bits k m] {a b : BitVec m}
end bv

/-! ### conversions, signs -/
theorem op_conv {s d : TypeId} {x : Operand} {k k' : IntKind} {a : Int} {v : Int} {ds : TypeDesc} (ho : o.op = .convert s d x) (hg : o.guard = none) (hd : dstB o.dst C.nt = true) (hx : S.ev x = some (.c (.int k a))) (hs' : tabLook undT s = some ds) (hu' : tabLook undT d = some (.int k')) (hv : k'.wrap a = v) :
    OpG C Try.prog ops o S ⟨opT x, [], dw o.dst (.c (.int k' v)), [], []⟩ := by
  refine op_one (v := .c (.int k' v)) hg hd hx fun e ρ w h1 => ?_
  have h1' : ρ x = .int k a := h1
  have hu := tabAll_look undT_ok hu'
  have hs := tabAll_look undT_ok hs'
  simp only [execOp, ho, h1', convert, Sem.run_bind, run_underlying hs w, run_underlying hu w, Result.andThen_ok, Conv.intToInt, Sem.run_pure, hv]
  rfl
theorem op_not {ty : TypeId} {x : Operand} {b : Bool} (ho : o.op = .unOp .not ty x) (hg : o.guard = none) (hd : dstB o.dst C.nt = true) (hx : S.ev x = some (.c (.bool b))) : OpG C Try.prog ops o S ⟨opT x, [], dw o.dst (.c (.bool (!b))), [], []⟩ := by
  refine op_one (v := .c (.bool (!b))) hg hd hx fun e ρ w h1 => ?_
  have h1' : ρ x = .bool b := h1
  simp only [execOp, ho, h1', Sem.run_bind, Op.unary, Result.andThen_ok, Sem.run_pure]
  rfl

/-! ### places -/
theorem add_place (b off n : Nat) : (⟨b, off, none⟩ : Addr).add n = ⟨b, off + n, none⟩ := Addr.add_mid b off n
theorem run_sizeT {ty m : Nat} (h : tabLook sizT ty = some m) (w : World) : (sizeOf ty).run Try.prog w = .ok m w := by
  have := tabAll_look sizT_ok h
  cases hq : Try.prog.info? ty with
  | none => simp [hq] at this
  | some i => have hs : i.size = m := by simpa [hq] using this
              simp [sizeOf, typeInfo, hq, hs]
theorem run_isAgg {ty : TypeId} {d : TypeDesc} (hu : Try.prog.underlying ty = some d) (w : World) : (isAgg ty).run Try.prog w = .ok d.isRow w := by
  unfold isAgg
  rw [Sem.run_bind, run_underlying hu w]
  cases d <;> rfl
theorem off_one {j : Nat} : 0 + j * 1 = j := by omega
/-- The address of an array's element. -/
theorem op_idxP {ty : TypeId} {x y : Operand} {n off len sz j : Nat} {e0 : TypeId} (ho : o.op = .indexAddr ty x y) (hg : o.guard = none) (hd : dstB o.dst C.nt = true) (hx : S.ev x = some (.p n off)) (hy : EvK S y j) (hu' : tabLook undT ty = some (.array len e0)) (hs' : tabLook sizT e0 = some sz) (hj : j < len) {off' : Nat} (hoff : off + j * sz = off') :
    OpG C Try.prog ops o S ⟨opT x ++ opT y, [n], dw o.dst (.p n off'), [], []⟩ := by
  obtain ⟨k, hy⟩ := hy
  subst hoff
  refine op_two (v := .p n (off + j * sz)) hg hd hx hy fun e ρ w h1 h2 => ?_
  have h1' : ρ x = .pointer (some ⟨(e n).b, off, none⟩) := h1
  have h2' : ρ y = .int k (j : Int) := h2
  have hu := tabAll_look undT_ok hu'
  have h3 : (0 : Int) ≤ (j : Int) ∧ (j : Int) < (len : Int) := by omega
  simp only [execOp, ho, h1', h2', Instr.indexAt, asIntOf, Sem.run_bind, run_underlying hu w, Result.andThen_ok, Sem.run_pure, Instr.sureAddr, Sem.run_ite, if_pos h3, run_sizeT hs' w, add_place, Int.toNat_natCast]
  rfl
/-- The address of an element of a slice that came in. -/
theorem op_idxC {ty : TypeId} {x y : Operand} {b off len cap sz j : Nat} {e0 : TypeId} (ho : o.op = .indexAddr ty x y) (hg : o.guard = none) (hd : dstB o.dst C.nt = true) (hx : S.ev x = some (.c (.slice (some ⟨b, off, none⟩) len cap))) (hy : EvK S y j) (hu' : tabLook undT ty = some (.slice e0)) (hs' : tabLook sizT e0 = some sz) (hj : j < len) {off' : Nat} (hoff : off + j * sz = off') :
    OpG C Try.prog ops o S ⟨opT x ++ opT y, [], dw o.dst (.c (.pointer (some ⟨b, off', none⟩))), [], []⟩ := by
  obtain ⟨k, hy⟩ := hy
  subst hoff
  refine op_two (v := .c (.pointer (some ⟨b, off + j * sz, none⟩))) hg hd hx hy fun e ρ w h1 h2 => ?_
  have h1' : ρ x = .slice (some ⟨b, off, none⟩) len cap := h1
  have h2' : ρ y = .int k (j : Int) := h2
  have hu := tabAll_look undT_ok hu'
  have h3 : (0 : Int) ≤ (j : Int) ∧ (j : Int) < (len : Int) := by omega
  simp only [execOp, ho, h1', h2', Instr.indexAt, asIntOf, Sem.run_bind, run_underlying hu w, Result.andThen_ok, Sem.run_pure, Sem.run_ite, if_pos h3, run_sizeT hs' w, add_place, Int.toNat_natCast]
  rfl
/-- A cell of memory that came in, read. -/
theorem op_loado {ty : TypeId} {x : Operand} {b off : Nat} {v : Value} {d : TypeDesc} (ho : o.op = .load ty x) (hg : o.guard = none) (hd : dstB o.dst C.nt = true) (hx : S.ev x = some (.c (.pointer (some ⟨b, off, none⟩)))) (hu' : tabLook undT ty = some d) (hda : d.isRow = false)
    (hb : b < C.w0.heap.size) (hm : b ∉ C.m) (hv : C.w0.cell? ⟨b, off, none⟩ = some v) : OpG C Try.prog ops o S ⟨opT x, [], dw o.dst (.c v), [], []⟩ := by
  have := op_value (C := C) (P := Try.prog) (ops := ops) (S := S) hg hd [x] [] (.c v) fun S' e a w hS h1 h2 => by
    have hev : a.eval x = .pointer (some ⟨b, off, none⟩) := hS.ev ((h1 x (by simp)).trans hx)
    have hc : w.cell? ⟨b, off, none⟩ = some v := (World.cell?_of_block (hS.frame.block b hb hm)).trans hv
    have hu := tabAll_look undT_ok hu'
    have hagg : (isAgg ty).run Try.prog w = .ok false w := (run_isAgg hu w).trans (by rw [hda])
    simp [execOp, ho, hev, Instr.loadAt, Instr.sureAddr, loadVar, Sem.run_bind, hagg, hc]
    rfl
  simpa using this

/-! ### parts of values -/
theorem op_extract {x : Operand} {l : List SV} {i : Nat} {v : SV} (ho : o.op = .extract x i) (hg : o.guard = none) (hd : dstB o.dst C.nt = true) (hx : S.ev x = some (.tup l)) (hi : l[i]? = some v) : OpG C Try.prog ops o S ⟨opT x, v.sup, dw o.dst v, [], []⟩ := by
  refine op_one (v := v) hg hd hx fun e ρ w h1 => ?_
  have h1' : ρ x = .tuple (l.map (·.den e)).toArray := h1
  have : (l.map (·.den e)).toArray[i]? = some (v.den e) := by simp [hi]
  simp only [execOp, ho, h1', Instr.extract, this, Sem.run_bind, Sem.run_pure, Result.andThen_ok]
theorem op_extractC {x : Operand} {vs : Array Value} {i : Nat} {v : Value} (ho : o.op = .extract x i) (hg : o.guard = none) (hd : dstB o.dst C.nt = true) (hx : S.ev x = some (.c (.tuple vs))) (hi : vs[i]? = some v) : OpG C Try.prog ops o S ⟨opT x, [], dw o.dst (.c v), [], []⟩ := by
  refine op_one (v := .c v) hg hd hx fun e ρ w h1 => ?_
  have h1' : ρ x = .tuple vs := h1
  simp only [execOp, ho, h1', Instr.extract, hi, Sem.run_bind, Sem.run_pure, Result.andThen_ok]
  rfl
/-- An element of an array that is a value. -/
theorem op_index {ty : TypeId} {x y : Operand} {cs : Array Value} {len j : Nat} {e0 : TypeId} {d : TypeDesc} {v : Value} (ho : o.op = .index ty x y) (hg : o.guard = none) (hd : dstB o.dst C.nt = true) (hx : S.ev x = some (.c (.agg cs))) (hy : EvK S y j) (hu' : tabLook undT ty = some (.array len e0)) (hs' : tabLook sizT e0 = some 1) (he' : tabLook undT e0 = some d) (hda : d.isRow = false) (hj : j < len) (hv : cs[j]? = some v) :
    OpG C Try.prog ops o S ⟨opT x ++ opT y, [], dw o.dst (.c v), [], []⟩ := by
  obtain ⟨k, hy⟩ := hy
  refine op_two (v := .c v) hg hd hx hy fun e ρ w h1 h2 => ?_
  have h1' : ρ x = .agg cs := h1
  have h2' : ρ y = .int k (j : Int) := h2
  have hu := tabAll_look undT_ok hu'
  have he := tabAll_look undT_ok he'
  have h3 : (0 : Int) ≤ (j : Int) ∧ (j : Int) < (len : Int) := by omega
  have hagg : (isAgg e0).run Try.prog w = .ok false w := (run_isAgg he w).trans (by rw [hda])
  simp only [execOp, ho, h1', h2', Instr.index, asIntOf, Sem.run_bind, run_underlying hu w, Result.andThen_ok, Sem.run_pure, Sem.run_ite, if_pos h3, run_sizeT hs' w, part, hagg, Int.toNat_natCast, Nat.mul_one, Bool.false_eq_true, if_false, hv]
  rfl
/-! ### one of two; arrays held against each other -/
theorem op_pickY {c x y : Operand} {v : SV} {b : Bool} (ho : o.op = .pick c x y) (hg : o.guard = none) (hd : dstB o.dst C.nt = true) (hc : S.ev c = some (.c (.bool b))) (hb : b = true) (hx : S.ev x = some v) : OpG C Try.prog ops o S ⟨opT c ++ opT x, v.sup, dw o.dst v, [], []⟩ := by
  refine op_two hg hd hc hx fun e ρ w h1 h2 => ?_
  have h1' : ρ c = .bool b := h1
  simp only [execOp, ho, h1', hb, asBool, Sem.run_bind, Sem.run_pure, Result.andThen_ok, if_true, h2]
theorem op_pickN {c x y : Operand} {v : SV} {b : Bool} (ho : o.op = .pick c x y) (hg : o.guard = none) (hd : dstB o.dst C.nt = true) (hc : S.ev c = some (.c (.bool b))) (hb : b = false) (hy : S.ev y = some v) : OpG C Try.prog ops o S ⟨opT c ++ opT y, v.sup, dw o.dst v, [], []⟩ := by
  refine op_two hg hd hc hy fun e ρ w h1 h2 => ?_
  have h1' : ρ c = .bool b := h1
  simp only [execOp, ho, h1', hb, asBool, Sem.run_bind, Sem.run_pure, Result.andThen_ok, Bool.false_eq_true, if_false, h2]
/-! ### arrays built -/
/-! ### calls -/
def EvS (S : St) (xs : List Operand) (vs : List SV) : Prop := xs.map S.ev = vs.map some
theorem evs_nil : EvS S [] [] := rfl
theorem evs_cons {x : Operand} {v : SV} {xs : List Operand} {vs : List SV} (h : S.ev x = some v) (h2 : EvS S xs vs) : EvS S (x :: xs) (v :: vs) := by
  unfold EvS at *; rw [List.map_cons, List.map_cons, h, h2]
theorem evs_all {S' : St} {e : Env} {a : Act} {w : World} (hS : Holds C S' e a w) : ∀ (xs : List Operand) (vs : List SV), xs.map S'.ev = vs.map some → xs.map a.eval = vs.map (·.den e)
  | [], [], _ => rfl
  | x :: xs, v :: vs, h => by
    simp only [List.map_cons, List.cons.injEq] at h ⊢
    exact ⟨hS.ev h.1, evs_all hS xs vs h.2⟩
  | [], _ :: _, h => by simp at h
  | _ :: _, [], h => by simp at h
/-- A call of a named function whose contract leaves alone what lay there, and whose result hangs on no new name. -/
theorem op_call {f : FuncId} {xs : Array Operand} {ats : Array TypeId} {vs : List SV} (rb : List Nat) (v : SV) {j : FuncId} (ho : o.op = .call { callee := .value (.func f), args := xs, argTypes := ats }) (hg : o.guard = none) (hd : dstB o.dst C.nt = true) (hxs : EvS S xs.toList vs) (hc' : tabLook calT f = some j)
    (hcon : ∀ (S' : St) e a w, Holds C S' e a w → (∀ n ∈ rb, S'.res n = S.res n) → Calls Try.prog j (vs.map (·.den e)).toArray w fun r w' => r = .returned (v.den e) ∧ Below w.heap.size w w') :
    OpG C Try.prog ops o S ⟨xs.toList.flatMap opT, rb ++ v.sup, dw o.dst v, [], []⟩ := by
  refine opG_mk hg fun S' h1 h2 _ e a w hS => ?_
  have hev : xs.toList.map S'.ev = vs.map some := by
    rw [← show xs.toList.map S.ev = vs.map some from hxs]
    exact List.map_congr_left fun x hx => ev_like h1 fun i hi => List.mem_flatMap.2 ⟨x, hx, hi⟩
  have hargs : xs.map a.eval = (vs.map (·.den e)).toArray := by
    rw [← evs_all hS _ _ hev, ← Array.toList_map, Array.toArray_toList]
  have hcall := tabAll_look calT_ok hc'
  have hop : (execOp a.eval o).run Try.prog w = .ok (.enter j (vs.map (·.den e)).toArray) w := by
    obtain ⟨dst, op, ty, pos, after, guard⟩ := o
    change op = _ at ho
    subst ho
    rw [execOp_call_go]
    simp only [hargs, Array.empty_append, Array.append_empty]
    exact hcall _ w
  unfold Oper.wp
  rw [hop]
  refine Calls.mono (hcon S' e a w hS fun n hn => h2 n (List.mem_append_left _ hn)) ?_
  rintro r w' ⟨rfl, hb⟩
  exact ⟨e, (hS.world hb).put hd v⟩
theorem op_callC {f : FuncId} {xs : Array Operand} {ats : Array TypeId} {vs : List SV} (v : Value) {j : FuncId} (ho : o.op = .call { callee := .value (.func f), args := xs, argTypes := ats }) (hg : o.guard = none) (hd : dstB o.dst C.nt = true) (hxs : EvS S xs.toList vs) (hc' : tabLook calT f = some j)
    (hcon : ∀ (e : Env) w, Calls Try.prog j (vs.map (·.den e)).toArray w fun r w' => r = .returned v ∧ Below w.heap.size w w') :
    OpG C Try.prog ops o S ⟨xs.toList.flatMap opT, [], dw o.dst (.c v), [], []⟩ :=
  op_call [] (.c v) ho hg hd hxs hc' fun _ e _ w _ _ => hcon e w
/-! ### what cells hold, by their form -/
theorem ld_vals {k : IntKind} {m : Nat} {l : List (BitVec m)} {i : Nat} (h : i < l.length) : ∀ e, ((SA.c (vals k l)).den e)[i]? = some ((SV.c (.int k (bvi (gt l i)))).den e) := fun _ => vals_get h
theorem ld_l {l : List SV} {i : Nat} {v : SV} (h : l[i]? = some v) : ∀ e, ((SA.l l).den e)[i]? = some (v.den e) := fun e => by simp [SA.l, h]
theorem st_vals {k : IntKind} {m : Nat} {l : List (BitVec m)} {i : Nat} {x : BitVec m} : ∀ e, ((SA.c (vals k l)).den e).setIfInBounds i ((SV.c (.int k (bvi x))).den e) = (SA.c (vals k (l.set i x))).den e := fun _ => vals_set l i x
theorem st_valsz {k : IntKind} {m : Nat} {l : List (BitVec m)} {i : Nat} {z : Int} (h : (decide (0 ≤ z) && decide (z < 2 ^ m)) = true) : ∀ e, ((SA.c (vals k l)).den e).setIfInBounds i ((SV.c (.int k z)).den e) = (SA.c (vals k (l.set i (BitVec.ofInt m z)))).den e := fun _ => by
  rw [litb m z h]; rw [bvi_ofInt]; exact vals_set l i _
theorem st_l {l : List SV} {i : Nat} {v : SV} : ∀ e, ((SA.l l).den e).setIfInBounds i (v.den e) = (SA.l (l.set i v)).den e := fun e => by simp [SA.l, List.map_set]
theorem st_c {a : Array Value} {i : Nat} {v : Value} : ∀ e, ((SA.c a).den e).setIfInBounds i ((SV.c v).den e) = (SA.c (a.setIfInBounds i v)).den e := fun _ => rfl
theorem sz_vals {k : IntKind} {m : Nat} {l : List (BitVec m)} {i : Nat} (h : i < l.length) : ∀ e, i < ((SA.c (vals k l)).den e).size := fun _ => by rw [show (SA.c (vals k l)).den _ = vals k l from rfl, vals_size]; exact h
theorem sz_l {l : List SV} {i : Nat} (h : i < l.length) : ∀ e, i < ((SA.l l).den e).size := fun e => by simpa [SA.l] using h
theorem sz_c {a : Array Value} {i : Nat} (h : i < a.size) : ∀ e, i < ((SA.c a).den e).size := fun _ => h
theorem sm_vals {k : IntKind} {m : Nat} {l : List (BitVec m)} {n : Nat} (h : l.length = n) : ∀ e, ((SA.c (vals k l)).den e).size = n := fun _ => by rw [show (SA.c (vals k l)).den _ = vals k l from rfl, vals_size]; exact h
theorem sm_l {l : List SV} {n : Nat} (h : l.length = n) : ∀ e, ((SA.l l).den e).size = n := fun e => by simpa [SA.l] using h
theorem sm_c {a : Array Value} {n : Nat} (h : a.size = n) : ∀ e, ((SA.c a).den e).size = n := fun _ => h
theorem ag_c {a : Array Value} : ∀ e, Value.agg ((SA.c a).den e) = (SV.c (.agg a)).den e := fun _ => rfl
theorem ag_l {l : List SV} : ∀ e, Value.agg ((SA.l l).den e) = (SV.agg l).den e := fun _ => rfl
theorem ga_c {a : Array Value} : ∀ e, (SV.c (.agg a)).den e = Value.agg ((SA.c a).den e) := fun _ => rfl
theorem ga_l {l : List SV} : ∀ e, (SV.agg l).den e = Value.agg ((SA.l l).den e) := fun _ => rfl
theorem ce_c {a : Array Value} : ∀ e, ((SV.c (.agg a)).den e).cells = (SA.c a).den e := fun _ => rfl
theorem ce_l {l : List SV} : ∀ e, ((SV.agg l).den e).cells = (SA.l l).den e := fun _ => rfl
theorem ce_one {v : SV} (h : ∀ e, (v.den e).oneCell' = true) : ∀ e, (v.den e).cells = (SA.l [v]).den e := fun e => by
  have := h e
  show (v.den e).cells = #[v.den e]
  cases hh : v.den e <;> rw [hh] at this <;> first | rfl | (simp [Value.oneCell'] at this)
theorem oc_vals {k : IntKind} {m : Nat} {l : List (BitVec m)} : ∀ e, ((SA.c (vals k l)).den e).all (·.oneCell') = true := fun _ => Array.all_eq_true_iff_forall_mem.2 fun v hv => vals_one l v (by simpa [SA.c] using hv)
theorem oc_c {a : Array Value} (h : a.all (·.oneCell') = true) : ∀ e, ((SA.c a).den e).all (·.oneCell') = true := fun _ => h
end
end Go.Proofs.Ytcgmapioelfneaa
