/- More operations of the symbolic walk: bits of numbers that may lie below 0. -/
import Derived.Test.YtgjlpnendljcaaaSymG
namespace Go.Proofs.Ytgjlpnendljcaaa
open Go.RowKit
set_option maxRecDepth 100000
variable {C : Ctx} {ops : Array Oper} {S : St} {o : Oper}
theorem and_low (z : Int) (m : Nat) (hm : 2 ^ Nat.log2 (m + 1) = m + 1) (hm2 : m < 2 ^ 62) : bits .and .i64 z (m : Int) = ((z % ((m + 1 : Nat) : Int)).toNat : Int) := by
  have hk : Nat.log2 (m + 1) ≤ 62 := by
    refine Nat.le_of_not_lt fun h => ?_
    have := Nat.pow_le_pow_right (n := 2) (by decide) h
    have h63 : (2:Nat) ^ (62 + 1) = 9223372036854775808 := by decide
    have h62 : (2:Nat) ^ 62 = 4611686018427387904 := by decide
    omega
  generalize Nat.log2 (m + 1) = k at *
  have h1 : BitVec.ofInt 64 (m : Int) = BitVec.ofNat 64 (2 ^ k - 1) := by rw [hm]; simp
  have hlt : (BitVec.ofNat 64 (2 ^ k - 1)).toNat = 2 ^ k - 1 := by
    rw [BitVec.toNat_ofNat, Nat.mod_eq_of_lt]
    have h62 : (2:Nat) ^ 62 = 4611686018427387904 := by decide
    omega
  have hdvd : (2 ^ k : Nat) ∣ 2 ^ 64 := Nat.pow_dvd_pow 2 (by omega)
  show IntKind.i64.wrap ((BitVec.ofInt 64 z &&& BitVec.ofInt 64 (m : Int)).toNat : Int) = _
  rw [h1, BitVec.toNat_and, hlt, Nat.and_two_pow_sub_one_eq_mod, BitVec.toNat_ofInt]
  have h2 : (z % ((2 ^ 64 : Nat) : Int)).toNat % 2 ^ k = (z % ((2 ^ k : Nat) : Int)).toNat := by
    have ha : 0 ≤ z % ((2 ^ 64 : Nat) : Int) := Int.emod_nonneg _ (by decide)
    have hb : 0 ≤ z % ((2 ^ k : Nat) : Int) := Int.emod_nonneg _ (by have := Nat.two_pow_pos k; omega)
    have hc : ((2 ^ k : Nat) : Int) ∣ ((2 ^ 64 : Nat) : Int) := Int.ofNat_dvd.2 hdvd
    have hd : (z % ((2 ^ 64 : Nat) : Int)) % ((2 ^ k : Nat) : Int) = z % ((2 ^ k : Nat) : Int) := Int.emod_emod_of_dvd _ hc
    have : (((z % ((2 ^ 64 : Nat) : Int)).toNat % 2 ^ k : Nat) : Int) = ((z % ((2 ^ k : Nat) : Int)).toNat : Int) := by
      rw [Int.natCast_emod, Int.toNat_of_nonneg ha, Int.toNat_of_nonneg hb, hd]
    exact_mod_cast this
  rw [h2, hm]
  refine wrapN ?_
  have hpos : 0 < ((m + 1 : Nat) : Int) := by omega
  have := Int.emod_lt_of_pos z hpos
  have h62 : (2:Nat) ^ 62 = 4611686018427387904 := by decide
  omega
theorem op_andI {ty yt : TypeId} {x y : Operand} {z : Int} {m : Nat} (ho : o.op = .binOp .and ty x y yt) (hg : o.guard = none) (hd : dstB o.dst C.nt = true) (hx : EvI S x z) (hy : EvN S y m) (hm : 2 ^ Nat.log2 (m + 1) = m + 1) (hm2 : m < 2 ^ 62) :
    OpG C Try.prog ops o S ⟨opT x ++ opT y, [], dw o.dst (.c (.int .i64 ((z % ((m + 1 : Nat) : Int)).toNat : Int))), [], []⟩ :=
  op_int2 ho hg hd hx hy fun w => by rw [run_bits (.inl rfl), and_low z m hm hm2]
section
variable {ty yt : TypeId} {x y : Operand} {k : IntKind} {m : Nat} [hk : Bits k m] {a b : BitVec m}
theorem op_mulB2 (ho : o.op = .binOp .mul ty x y yt) (hg : o.guard = none) (hd : dstB o.dst C.nt = true) (hy : EvB S y k b) (hx : EvB S x k a) : OpG C Try.prog ops o S ⟨opT x ++ opT y, [], dw o.dst (.c (.int k (bvi (a * b)))), [], []⟩ := op_mulB ho hg hd hx hy
theorem op_addB2 (ho : o.op = .binOp .add ty x y yt) (hg : o.guard = none) (hd : dstB o.dst C.nt = true) (hy : EvB S y k b) (hx : EvB S x k a) : OpG C Try.prog ops o S ⟨opT x ++ opT y, [], dw o.dst (.c (.int k (bvi (a + b)))), [], []⟩ := op_addB ho hg hd hx hy
theorem op_subB2 (ho : o.op = .binOp .sub ty x y yt) (hg : o.guard = none) (hd : dstB o.dst C.nt = true) (hy : EvB S y k b) (hx : EvB S x k a) : OpG C Try.prog ops o S ⟨opT x ++ opT y, [], dw o.dst (.c (.int k (bvi (a - b)))), [], []⟩ := op_subB ho hg hd hx hy
end
end Go.Proofs.Ytgjlpnendljcaaa
