/- Numbers written in some bytes: in plain; whole numbers shifted. No condition. -/
import Derived.Test.YtlhedoodbadmgaaSymSX
namespace Go.Proofs.Ytlhedoodbadmgaa
open Go.RowKit
set_option maxRecDepth 100000
section
variable {C : Ctx} {ops : Array Oper} {S : St} {o : Oper}
theorem op_eqNilC {x y : Operand} {ty yt e0 : TypeId} {ad : Addr} {len cap : Nat} (hu' : tabLook undT ty = some (.slice e0)) (ho : o.op = .binOp .eql ty x y yt) (hg : o.guard = none) (hd : dstB o.dst C.nt = true) (hx : S.ev x = some (.c (.slice (some ad) len cap))) (hy : S.ev y = some (.c (.slice none 0 0))) : OpG C Try.prog ops o S ⟨opT x ++ opT y, [], dw o.dst (.c (.bool false)), [], []⟩ :=
  op_two (v := .c (.bool false)) hg hd hx hy fun e ρ w h1 h2 => by
    have h1' : ρ x = .slice (some ad) len cap := h1
    have h2' : ρ y = .slice none 0 0 := h2
    have hu := tabAll_look undT_ok hu'
    simp [execOp, ho, h1', h2', binOp, eqGuard, SV.c, run_equal_slice_nil w ty e0 _ _ _ hu]
theorem op_shlZ {ty yt : TypeId} {x y : Operand} {z : Int} {b : Nat} (ho : o.op = .binOp .shl ty x y yt) (hg : o.guard = none) (hd : dstB o.dst C.nt = true) (hx : S.ev x = some (.c (.int .i64 z))) (hy : EvK S y b) (hb : b = 32) (hz : -2147483648 ≤ z ∧ z < 2147483648) : OpG C Try.prog ops o S ⟨opT x ++ opT y, [], dw o.dst (.c (.int .i64 (z * 4294967296))), [], []⟩ := by
  subst hb
  obtain ⟨k, hy⟩ := hy
  refine op_int2 ho hg hd hx hy fun w => ?_
  rw [run_shift.1, show min 32 IntKind.i64.bits = 32 from rfl, show (2 : Int) ^ 32 = 4294967296 from rfl, wrapI (by omega)]
theorem op_shrZ {ty yt : TypeId} {x y : Operand} {z : Int} {b : Nat} (ho : o.op = .binOp .shr ty x y yt) (hg : o.guard = none) (hd : dstB o.dst C.nt = true) (hx : S.ev x = some (.c (.int .i64 (z * 4294967296)))) (hy : EvK S y b) (hb : b = 32) : OpG C Try.prog ops o S ⟨opT x ++ opT y, [], dw o.dst (.c (.int .i64 z)), [], []⟩ := by
  subst hb
  obtain ⟨k, hy⟩ := hy
  refine op_int2 ho hg hd hx hy fun w => ?_
  rw [run_shift.2, show min 32 IntKind.i64.bits = 32 from rfl, show (2 : Int) ^ 32 = 4294967296 from rfl, Int.fdiv_eq_ediv_of_nonneg _ (by omega), Int.mul_ediv_cancel _ (by omega)]
theorem fin_ownNil {nt T size : Nat} {w0 : World} : ∀ e a w, Holds ⟨nt, w0, []⟩ S e a w → RetOwn w0 T size 0 [] (.returned ((SV.c (.slice none 0 0)).den e)) w := fun e a w hS => ⟨_, rfl, ⟨by simp, .inl ⟨rfl, rfl⟩⟩, hS.frame.below rfl⟩
end
theorem take_gtQ {m : Nat} (l : List (BitVec m)) (i : Nat) (h : i < l.length) : l.take i ++ [gt l i] = l.take (i + 1) := by
  rw [List.take_add_one, List.getElem?_eq_getElem h, gt_lt l i h]
  rfl
def leW (k : Nat) (x : BitVec 64) : List (BitVec 8) := (List.range k).map fun i => (x >>> (8 * i)).setWidth 8
theorem leW_length (k : Nat) (x : BitVec 64) : (leW k x).length = k := by simp [leW]
theorem leW_gt (k : Nat) (x : BitVec 64) (i : Nat) (h : i < k) : gt (leW k x) i = (x >>> (8 * i)).setWidth 8 := by
  rw [gt_lt _ i (by rw [leW_length]; exact h)]
  simp [leW]
def putW (k : Nat) (l : List (BitVec 64)) : List (BitVec 8) := (l.map (leW k)).flatten
theorem putW_take (k : Nat) (l : List (BitVec 64)) (j : Nat) (h : j < l.length) : putW k (l.take (j + 1)) = putW k (l.take j) ++ leW k (gt l j) := by
  unfold putW
  rw [List.take_add_one, List.getElem?_eq_getElem h, gt_lt l j h, List.map_append, List.flatten_append]
  simp only [Option.toList_some, List.map_cons, List.map_nil, List.flatten_cons, List.flatten_nil, List.append_nil]
theorem putW_length (k : Nat) (l : List (BitVec 64)) : (putW k l).length = k * l.length := by
  unfold putW
  induction l with
  | nil => simp
  | cons x l ih => simp only [List.map_cons, List.flatten_cons, List.length_append, leW_length, ih, List.length_cons, Nat.mul_add, Nat.mul_one]; omega
theorem putW_app (k : Nat) (l l' : List (BitVec 64)) : putW k (l ++ l') = putW k l ++ putW k l' := by
  unfold putW
  rw [List.map_append, List.flatten_append]
/-- The numbers fit. -/
def fitW (k : Nat) (l : List (BitVec 64)) : Prop := ∀ x ∈ l, x.toNat < 2 ^ (8 * k)
theorem fit_shr {k : Nat} {x : BitVec 64} (h : x.toNat < 2 ^ (8 * k)) : x >>> (8 * k) = 0#64 := by
  apply BitVec.eq_of_toNat_eq
  rw [BitVec.toNat_ushiftRight, Nat.shiftRight_eq_div_pow, Nat.div_eq_of_lt h]
  rfl
/-- A whole number in four bytes. -/
def sg4 (z : Int) : BitVec 64 := (BitVec.ofInt 64 z <<< 32) >>> 32
def sg4L (zs : List Int) : List (BitVec 64) := zs.map sg4
theorem sg4L_take (zs : List Int) (j : Nat) (z : Int) (h : zs[j]? = some z) : sg4L (zs.take (j + 1)) = sg4L (zs.take j) ++ [sg4 z] := by
  unfold sg4L
  rw [List.take_add_one, h, List.map_append]
  rfl
theorem sg4_val (z : Int) (h : -2147483648 ≤ z ∧ z < 2147483648) : (sg4 z).toNat = (z % 4294967296).toNat := by
  unfold sg4
  rw [BitVec.toNat_ushiftRight, Nat.shiftRight_eq_div_pow, BitVec.toNat_shiftLeft, Nat.shiftLeft_eq, BitVec.toNat_ofInt]
  simp only [Nat.reducePow]
  omega
theorem sg4_fit (zs : List Int) (h : ∀ z ∈ zs, -2147483648 ≤ z ∧ z < 2147483648) : fitW 4 (sg4L zs) := fun x hx => by
  obtain ⟨z, hz, rfl⟩ := List.mem_map.1 hx
  rw [sg4_val z (h z hz)]
  show _ < 2 ^ 32
  omega
end Go.Proofs.Ytlhedoodbadmgaa
