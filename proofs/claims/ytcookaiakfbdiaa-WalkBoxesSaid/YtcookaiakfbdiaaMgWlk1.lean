/- Products of ints of either sign, as wide numbers, and which is less: walked. No condition. Which of two ratios is less; from where to where a ray is in a box: walked. No condition. -/
import Derived.Test.YtcookaiakfbdiaaMgSymAC
import Derived.Laws.Externs
namespace Go.Proofs.Ytcookaiakfbdiaa
open Go.RowKit
set_option maxRecDepth 100000
set_option maxHeartbeats 2000000
/-- An int as a wide number. -/
def wideZ (z : Int) : Array Value := #[.int .i64 (if z < 0 then -1 else 0), .int .u64 (bvi (BitVec.ofInt 64 z))]
def smI (z : Int) : Prop := -4611686018427387904 < z ∧ z < 4611686018427387904
def smH (z : Int) : Prop := -2147483648 < z ∧ z < 2147483648
theorem smH_mul {a b : Int} (ha : smH a) (hb : smH b) : smI (a * b) := by
  obtain ⟨a1, a2⟩ := ha
  obtain ⟨b1, b2⟩ := hb
  have h1 : (a * b).natAbs ≤ 2147483647 * 2147483647 := by
    rw [Int.natAbs_mul]
    exact Nat.mul_le_mul (by omega) (by omega)
  unfold smI
  omega
theorem ofInt_nat64 {z : Int} (h0 : 0 ≤ z) (h1 : z < 18446744073709551616) : (BitVec.ofInt 64 z).toNat = z.toNat := by
  rw [BitVec.toNat_ofInt]
  rw [show ((2 ^ 64 : Nat) : Int) = 18446744073709551616 from rfl, Int.emod_eq_of_lt h0 h1]
theorem ofInt_neg64 {z : Int} (h0 : z < 0) (h1 : -18446744073709551616 ≤ z) : (BitVec.ofInt 64 z).toNat = (z + 18446744073709551616).toNat := by
  rw [BitVec.toNat_ofInt]
  rw [show ((2 ^ 64 : Nat) : Int) = 18446744073709551616 from rfl]
  congr 1
  omega
theorem eqWideZ_run (x y : Int) (hx : smI x) (hy : smI y) (w : World) : (Op.equalIn 10000 89 (.agg (wideZ x)) (.agg (wideZ y))).run Try.prog w = .ok (decide (x = y)) w := by
  have hu := Try.underlying89
  have hfo : Try.prog.underlying 89 = some (.struct (Try.prog.fieldsOf 89)) := by rw [Program.fieldsOf, hu]
  rw [run_equalIn_struct w 9999 89 _ _ hfo (by kernel_rfl)]
  have hfs : ∃ f0 f1 : Field, (Try.prog.fieldsOf 89).toList = [f0, f1] ∧ f0.name ≠ "_" ∧ f1.name ≠ "_" ∧ f0.offset = 0 ∧ f1.offset = 1 ∧ Try.prog.underlying f0.type = some (.int .i64) ∧ Try.prog.underlying f1.type = some (.int .u64) := by
    rw [Program.fieldsOf, hu]
    exact ⟨_, _, rfl, by decide, by decide, rfl, rfl, Try.underlying2, Try.underlying87⟩
  obtain ⟨f0, f1, e, n0, n1, o0, o1, t0, t1⟩ := hfs
  rw [e]
  have := eqFields2 (w := w) (d := 9998) (a := if x < 0 then -1 else 0) (b := bvi (BitVec.ofInt 64 x)) (a' := if y < 0 then -1 else 0) (b' := bvi (BitVec.ofInt 64 y)) n0 n1 o0 o1 t0 t1
  have hb : ((if x < 0 then (-1 : Int) else 0) == (if y < 0 then -1 else 0) && bvi (BitVec.ofInt 64 x) == bvi (BitVec.ofInt 64 y)) = decide (x = y) := by
    rw [Bool.eq_iff_iff, Bool.and_eq_true, beq_iff_eq, beq_iff_eq, decide_eq_true_eq]
    constructor
    · rintro ⟨h1, h2⟩
      unfold bvi at h2
      obtain ⟨x1, x2⟩ := hx
      obtain ⟨y1, y2⟩ := hy
      by_cases p : x < 0
      · by_cases q : y < 0
        · rw [ofInt_neg64 p (by omega), ofInt_neg64 q (by omega)] at h2
          omega
        · simp [p, q] at h1
      · by_cases q : y < 0
        · simp [p, q] at h1
        · rw [ofInt_nat64 (by omega) (by omega), ofInt_nat64 (by omega) (by omega)] at h2
          omega
    · intro h
      rw [h]
      exact ⟨rfl, rfl⟩
  rw [hb] at this
  exact this
def sub64Entry : Array Value → Sem Value := fun args => do
  let (x, y, b) ← Extern.MathBitsCarry.three "Sub64" args
  pure (Extern.MathBitsCarry.pair ((x + Extern.MathBitsCarry.m64 - y - b) % Extern.MathBitsCarry.m64) (if x < y + b then 1 else 0))
theorem run_sub64 {P : Program} (x y c : Int) (_hx : 0 ≤ x) (_hy : 0 ≤ y) (hc0 : 0 ≤ c) (hc : c ≤ 1) (w : World) :
    (sub64Entry #[.int .u64 x, .int .u64 y, .int .u64 c]).run P w = .ok (.tuple #[.int .u64 (((x.toNat + 18446744073709551616 - y.toNat - c.toNat) % 18446744073709551616 : Nat) : Int), .int .u64 (((if x.toNat < y.toNat + c.toNat then 1 else 0 : Nat)) : Int)]) w := by
  have key : ∀ k : Nat, k ≤ 1 → (sub64Entry #[.int .u64 x, .int .u64 y, .int .u64 (k : Int)]).run P w =
      .ok (Extern.MathBitsCarry.pair ((x.toNat + Extern.MathBitsCarry.m64 - y.toNat - k) % Extern.MathBitsCarry.m64) (if x.toNat < y.toNat + k then 1 else 0)) w := by
    intro k hk
    have : k = 0 ∨ k = 1 := by omega
    rcases this with rfl | rfl <;> rfl
  obtain ⟨k, rfl⟩ := Int.eq_ofNat_of_zero_le hc0
  rw [key k (by omega)]
  rfl
def bor1 (x y z : BitVec 64) : BitVec 64 := if x.toNat < y.toNat + z.toNat then 1#64 else 0#64
section
variable {C : Ctx} {ops : Array Oper} {S : St} {o : Oper}
theorem run_sub64call (x y z : BitVec 64) (hz : z.toNat ≤ 1) (w : World) : (callFunc 75 #[.int .u64 (bvi x), .int .u64 (bvi y), .int .u64 (bvi z)]).run Try.prog w = .ok (.value (.tuple #[.int .u64 (bvi (x - y - z)), .int .u64 (bvi (bor1 x y z))])) w := by
  rw [run_callFunc_extern Try.func75 (by kernel_rfl) (by kernel_rfl) (by kernel_rfl) (e := sub64Entry) (by kernel_rfl), run_sub64 _ _ _ (bvi_nonneg x) (bvi_nonneg y) (bvi_nonneg z) (by unfold bvi; omega)]
  have hx := x.isLt
  have hy := y.isLt
  have e1 : (((bvi x).toNat + 18446744073709551616 - (bvi y).toNat - (bvi z).toNat) % 18446744073709551616 : Nat) = (x - y - z).toNat := by
    unfold bvi
    simp only [BitVec.toNat_sub, Int.toNat_natCast]
    omega
  have e2 : (if (bvi x).toNat < (bvi y).toNat + (bvi z).toNat then 1 else 0 : Nat) = (bor1 x y z).toNat := by
    unfold bvi bor1
    simp only [Int.toNat_natCast]
    split <;> rfl
  rw [e1, e2]
  rfl
theorem wrapU (b : BitVec 64) : IntKind.i64.wrap (bvi b) = b.toInt := by
  have h1 := b.isLt
  have h2 : (b.toNat : Int) % 18446744073709551616 = (b.toNat : Int) := Int.emod_eq_of_lt (by omega) (by omega)
  have h3 : IntKind.i64.wrap (bvi b) = if 9223372036854775808 ≤ (b.toNat : Int) % 18446744073709551616 then (b.toNat : Int) % 18446744073709551616 - 18446744073709551616 else (b.toNat : Int) % 18446744073709551616 := by
    simp [IntKind.wrap, bvi, IntKind.bits, IntKind.signed]
  rw [h3, h2, BitVec.toInt_eq_toNat_cond]
  split <;> split <;> omega
/-- An unsigned number of 64 bits as a signed one. -/
theorem op_cvtBW {s d : TypeId} {x : Operand} {b : BitVec 64} {ds : TypeDesc} (ho : o.op = .convert s d x) (hg : o.guard = none) (hd : dstB o.dst C.nt = true) (hx : EvB S x .u64 b) (hs' : tabLook undT s = some ds) (hu' : tabLook undT d = some (.int .i64)) :
    OpG C Try.prog ops o S ⟨opT x, [], dw o.dst (.c (.int .i64 b.toInt)), [], []⟩ :=
  op_conv ho hg hd hx.ev hs' hu' (wrapU b)
theorem op_negB {ty : TypeId} {x : Operand} {b : BitVec 64} (ho : o.op = .unOp .neg ty x) (hg : o.guard = none) (hd : dstB o.dst C.nt = true) (hx : EvB S x .u64 b) : OpG C Try.prog ops o S ⟨opT x, [], dw o.dst (.c (.int .u64 (bvi (-b)))), [], []⟩ := by
  refine op_one (v := .c (.int .u64 (bvi (-b)))) hg hd hx.ev fun e ρ w h1 => ?_
  have h1' : ρ x = .int .u64 (bvi b) := h1
  have hw : IntKind.u64.wrap (0 - bvi b) = bvi (-b) := bvi_wrap (k := .u64) _ _ (by
    have := b.isLt
    rw [BitVec.toNat_neg]
    unfold bvi
    omega)
  simp only [execOp, ho, h1', Sem.run_bind, Op.unary, Op.intArith, hw, Result.andThen_ok, Sem.run_pure]
  rfl
theorem op_sub64 {ox oy oz : Operand} {ats : Array TypeId} {x y z : BitVec 64} (ho : o.op = .call { callee := .value (.func 75), args := #[ox, oy, oz], argTypes := ats }) (hg : o.guard = none) (hd : dstB o.dst C.nt = true) (hx : EvB S ox .u64 x) (hy : EvB S oy .u64 y) (hz : EvB S oz .u64 z) (hc : z.toNat ≤ 1 := by decide) :
    OpG C Try.prog ops o S ⟨opT ox ++ (opT oy ++ opT oz), [], dw o.dst (.c (.tuple #[.int .u64 (bvi (x - y - z)), .int .u64 (bvi (bor1 x y z))])), [], []⟩ := by
  obtain ⟨zx, hx, rfl⟩ := hx
  obtain ⟨zy, hy, rfl⟩ := hy
  obtain ⟨zz, hz, rfl⟩ := hz
  have := op_value (C := C) (P := Try.prog) (ops := ops) (S := S) hg hd [ox, oy, oz] [] (.c (.tuple #[.int .u64 (bvi (x - y - z)), .int .u64 (bvi (bor1 x y z))])) fun S' e a w hS h1 _ => by
    have e1 : a.eval ox = .int .u64 (bvi x) := hS.ev ((h1 ox (by simp)).trans hx)
    have e2 : a.eval oy = .int .u64 (bvi y) := hS.ev ((h1 oy (by simp)).trans hy)
    have e3 : a.eval oz = .int .u64 (bvi z) := hS.ev ((h1 oz (by simp)).trans hz)
    obtain ⟨dst, op, ty, pos, after, guard⟩ := o
    change op = _ at ho
    subst ho
    rw [execOp_call_go]
    simp only [List.map_toArray, List.map_cons, List.map_nil, e1, e2, e3, Array.empty_append, Array.append_empty]
    exact run_sub64call x y z hc w
  simpa using this
end
theorem bor1_le (x y z : BitVec 64) : (bor1 x y z).toNat ≤ 1 := by
  unfold bor1
  split <;> decide
def cmpI (x y : Int) : Int := if x = y then 0 else if x < y then -1 else 1
attribute [local irreducible] Calls Walk1 WalkTo Tri EndA
theorem sizeS_any (a : Int) (ha : smH a) (w : World) : Calls Try.prog 57 #[.int .i64 a] w fun e w' => e = .returned (.tuple #[.int .u64 (bvi (BitVec.ofNat 64 a.natAbs)), .bool (decide (a < 0))]) ∧ Below w.heap.size w w' := by
  obtain ⟨a1, a2⟩ := ha
  by_cases h : a < 0
  · have e1 : BitVec.ofNat 64 a.natAbs = -BitVec.ofInt 64 a := by
      rw [← BitVec.ofInt_neg, ← BitVec.ofInt_natCast]
      congr 1
      omega
    rw [e1, decide_eq_true h]
    refine calls_tri Try.func57 rfl Try.ntmps57 rfl ?_
    repeat (first | (show Walk1 _ _ _ (_ :: _) _ _; first | (show HW1 (.move _); refine wz1 ?_) | (show HW1 (.assign _); refine wz2 ?_) | (show HW1 (.binOp .lss _ _ _ _); refine wz12 ?_) | (show HW1 (.unOp _ _ _); refine walk1_t (op_negB rfl rfl rfl evb) ?_) | (show HW1 (.convert _ _ _); refine wz117 ?_)) | refine go1 ?_ | refine end_block_other rfl ?_ | refine end_scope (fun _ h => by cases h) ?_ | (refine walk_endD ?_ ?_; (· kernel_rfl)) | refine tri_yesA rfl ?_ | refine tri_noA rfl ?_ | refine tri_trueA rfl ?_ | refine tri_falseA rfl ?_)
    refine end_ret _ (res_tmp2 rfl rfl rfl) ?_
    exact fin_below fun _ => rfl
  · have e1 : BitVec.ofNat 64 a.natAbs = BitVec.ofInt 64 a := by
      rw [← BitVec.ofInt_natCast]
      congr 1
      omega
    rw [e1, decide_eq_false h]
    refine calls_tri Try.func57 rfl Try.ntmps57 rfl ?_
    repeat (first | (show Walk1 _ _ _ (_ :: _) _ _; first | (show HW1 (.move _); refine wz1 ?_) | (show HW1 (.assign _); refine wz2 ?_) | (show HW1 (.binOp .lss _ _ _ _); refine wz12 ?_) | (show HW1 (.convert _ _ _); refine wz117 ?_)) | refine go1 ?_ | refine end_block_other rfl ?_ | refine end_scope (fun _ h => by cases h) ?_ | (refine walk_endD ?_ ?_; (· kernel_rfl)) | refine tri_yesA rfl ?_ | refine tri_noA rfl ?_ | refine tri_trueA rfl ?_ | refine tri_falseA rfl ?_)
    refine end_ret _ (res_tmp2 rfl rfl rfl) ?_
    exact fin_below fun _ => rfl
/-- Nothing less a number of 128 bits whose upper half is nothing. -/
theorem turned0_any (p : BitVec 64) (w : World) : Calls Try.prog 70 #[.int .u64 (bvi (0#64)), .int .u64 (bvi p)] w fun e w' => e = .returned (.tuple #[.int .u64 (bvi (0#64 - 0#64 - bor1 0#64 p 0#64)), .int .u64 (bvi (0#64 - p - 0#64))]) ∧ Below w.heap.size w w' := by
  refine calls_tri Try.func70 rfl Try.ntmps70 rfl ?_
  repeat (first | (show Walk1 _ _ _ (_ :: _) _ _; first | (show HW1 (.move _); refine wz1 ?_) | (show HW1 (.assign _); refine wz2 ?_) | (show HW1 (.extract _ _); first | refine wz16 ?_ | refine wz15 ?_) | (show HW1 (.call ⟨.value (.func 75), _, _⟩); refine walk1_t (op_sub64 rfl rfl rfl evb evb evb (by repeat (first | apply bor1_le | decide))) ?_)) | refine go1 ?_ | refine end_block_other rfl ?_ | refine end_scope (fun _ h => by cases h) ?_ | (refine walk_endD ?_ ?_; (· kernel_rfl)) | refine tri_yesA rfl ?_ | refine tri_noA rfl ?_ | refine tri_trueA rfl ?_ | refine tri_falseA rfl ?_)
  refine end_ret (.tup [.c (.int .u64 (bvi (BitVec.ofInt 64 0 - 0#64 - bor1 (BitVec.ofInt 64 0) p (BitVec.ofInt 64 0)))), .c (.int .u64 (bvi (BitVec.ofInt 64 0 - p - BitVec.ofInt 64 0)))]) (res_tmp2 rfl rfl rfl) ?_
  exact fin_below fun _ => rfl
def M1 : BitVec 64 := 18446744073709551615#64
theorem turnedP_any (p : BitVec 64) (hp : p ≠ 0#64) (w : World) : Calls Try.prog 70 #[.int .u64 (bvi (0#64)), .int .u64 (bvi p)] w fun e w' => e = .returned (.tuple #[.int .u64 (bvi M1), .int .u64 (bvi (-p))]) ∧ Below w.heap.size w w' := by
  have := turned0_any p w
  have h0 : 0 < p.toNat := by
    rcases Nat.eq_zero_or_pos p.toNat with h | h
    · exact absurd (BitVec.eq_of_toNat_eq (by rw [h]; rfl)) hp
    · exact h
  have e1 : bor1 0#64 p 0#64 = 1#64 := if_pos (by simpa using h0)
  rw [e1, show (0#64 - 0#64 - 1#64 : BitVec 64) = M1 by decide, show (0#64 - p - 0#64 : BitVec 64) = -p by simp] at this
  exact this
theorem turnedZ_any (w : World) : Calls Try.prog 70 #[.int .u64 (bvi (0#64)), .int .u64 (bvi (0#64))] w fun e w' => e = .returned (.tuple #[.int .u64 (bvi (0#64)), .int .u64 (bvi (0#64))]) ∧ Below w.heap.size w w' := turned0_any 0#64 w
theorem signedP_any (p : BitVec 64) (hp : p ≠ 0#64) (w : World) : Calls Try.prog 59 #[.int .u64 (bvi (0#64)), .int .u64 (bvi p), .bool true] w fun e w' => e = .returned (.tuple #[.agg #[.int .i64 (-1), .int .u64 (bvi (-p))], .bool true]) ∧ Below w.heap.size w w' := by
  have c1 := fun w => turnedP_any p hp w
  have hM : M1.toInt = -1 := by decide
  generalize M1 = M at *
  have hd : (decide (M.toInt < 0) == true) = true := by rw [hM]; decide
  refine calls_tri Try.func59 rfl Try.ntmps59 rfl ?_
  repeat (first | (show Walk1 _ _ _ (_ :: _) _ _; first | (show Walk1 _ _ _ (⟨_, _, _, _, _, some _⟩ :: _) _ _; refine zn1 ?_) | (show HW1 (.move _); refine wz1 ?_) | (show HW1 (.assign _); refine wz2 ?_) | (show HW1 (.binOp .lss _ _ _ _); refine wz12 ?_) | (show HW1 (.binOp .eql _ _ _ _); refine wz107 ?_) | (show HW1 (.pick _ _ _); refine wz8 ?_) | (show HW1 (.load _ _); first | refine wz3 ?_ | refine wz31 ?_) | (show HW1 (.store _ _ _); refine wz28 ?_) | (show HW1 (.alloc _); refine wz6 ?_) | (show HW1 (.fieldAddr _ _ _); refine wz4 ?_) | (show HW1 (.extract _ _); first | refine wz16 ?_ | refine wz15 ?_) | (show HW1 (.build _ _); refine wz25 ?_) | (show HW1 (.convert _ _ _); refine wz116 ?_) | (show HW1 (.call ⟨.value (.func 70), _, _⟩); ((first | refine cwalk11 70 ?_ | refine cwalk10 70 ?_); refine ⟨_, fun e w => c1 w, ?_⟩))) | refine go1 ?_ | refine end_block_other rfl ?_ | refine end_scope (fun _ h => by cases h) ?_ | (refine walk_endD ?_ ?_; (· kernel_rfl)) | refine tri_yesA rfl ?_ | refine tri_noA rfl ?_ | refine tri_trueA rfl ?_ | refine tri_falseA rfl ?_)
  refine end_ent (ent_blkA 6 (.c #[.int .i64 (-1), .int .u64 (bvi (-p))]) rfl (fun _ => by rw [← hM]; rfl)) ?_
  refine end_ret (.c (.tuple #[.agg #[.int .i64 (-1), .int .u64 (bvi (-p))], .bool true])) (res_cellT rfl rfl rfl rfl rfl rfl rfl rfl) ?_
  exact fin_below fun _ => rfl
theorem signedZ_any (w : World) : Calls Try.prog 59 #[.int .u64 (bvi (0#64)), .int .u64 (bvi (0#64)), .bool true] w fun e w' => e = .returned (.tuple #[.agg #[.int .i64 0, .int .u64 (bvi (0#64))], .bool true]) ∧ Below w.heap.size w w' := by
  have c1 := fun w => turnedZ_any w
  have hM : (0#64 : BitVec 64).toInt = 0 := by decide
  have hz : ((0#64 : BitVec 64) ||| 0#64) = 0#64 := by decide
  obtain ⟨M, hM0⟩ : ∃ M : BitVec 64, M = 0#64 := ⟨_, rfl⟩
  rw [← hM0] at c1 hM hz ⊢
  have hd : (decide (M.toInt < 0) == true) = false := by rw [hM]; decide
  have hz2 : ((M ||| M) == BitVec.ofInt 64 0) = true := by rw [hz, hM0]; rfl
  refine calls_tri Try.func59 rfl Try.ntmps59 rfl ?_
  repeat (first | (show Walk1 _ _ _ (_ :: _) _ _; first | (show Walk1 _ _ _ (⟨_, _, _, _, _, some _⟩ :: _) _ _; refine zy1 ?_) | (show HW1 (.move _); refine wz1 ?_) | (show HW1 (.assign _); refine wz2 ?_) | (show HW1 (.binOp .lss _ _ _ _); refine wz12 ?_) | (show HW1 (.binOp .eql _ _ _ _); first | refine wz34 ?_ | refine wz107 ?_) | (show HW1 (.binOp .or _ _ _ _); refine walk1_t (op_orB rfl rfl rfl evb evb) ?_) | (show HW1 (.pick _ _ _); refine wz7 ?_) | (show HW1 (.load _ _); first | refine wz3 ?_ | refine wz31 ?_) | (show HW1 (.store _ _ _); refine wz28 ?_) | (show HW1 (.alloc _); refine wz6 ?_) | (show HW1 (.fieldAddr _ _ _); refine wz4 ?_) | (show HW1 (.extract _ _); first | refine wz16 ?_ | refine wz15 ?_) | (show HW1 (.build _ _); refine wz25 ?_) | (show HW1 (.convert _ _ _); refine wz116 ?_) | (show HW1 (.call ⟨.value (.func 70), _, _⟩); ((first | refine cwalk11 70 ?_ | refine cwalk10 70 ?_); refine ⟨_, fun e w => c1 w, ?_⟩))) | refine go1 ?_ | refine end_block_other rfl ?_ | refine end_scope (fun _ h => by cases h) ?_ | (refine walk_endD ?_ ?_; (· kernel_rfl)) | refine tri_yesA rfl ?_ | refine tri_noA rfl ?_ | refine tri_trueA rfl ?_ | refine tri_falseA rfl ?_)
  refine end_ent (ent_blkA 6 (.c #[.int .i64 0, .int .u64 (bvi M)]) rfl (fun _ => by rw [← hM]; rfl)) ?_
  refine end_ret (.c (.tuple #[.agg #[.int .i64 0, .int .u64 (bvi M)], .bool ((M ||| M) == BitVec.ofInt 64 0)])) (res_cellT rfl rfl rfl rfl rfl rfl rfl rfl) ?_
  exact fin_below fun _ => by rw [hz2]; rfl
theorem mulHi_small {x y : BitVec 64} (hx : x.toNat < 2147483648) (hy : y.toNat < 2147483648) : mulHi x y = 0#64 ∧ (x * y).toNat = x.toNat * y.toNat := by
  have h := mul_nat x y
  have h2 : x.toNat * y.toNat < 2147483648 * 2147483648 := Nat.mul_lt_mul'' hx hy
  have h3 := (x * y).isLt
  have h4 : (mulHi x y).toNat = 0 := by omega
  exact ⟨BitVec.eq_of_toNat_eq (by rw [h4]; rfl), by omega⟩
theorem mulS_any (a b : Int) (ha : smH a) (hb : smH b) (w : World) : Calls Try.prog 40 #[.int .i64 a, .int .i64 b] w fun e w' => e = .returned (.agg (wideZ (a * b))) ∧ Below w.heap.size w w' := by
  have c1 := fun w => sizeS_any a ha w
  have c2 := fun w => sizeS_any b hb w
  have c3 := fun w => mul64_any (BitVec.ofNat 64 a.natAbs) (BitVec.ofNat 64 b.natAbs) w
  obtain ⟨a1, a2⟩ := ha
  obtain ⟨b1, b2⟩ := hb
  have na : (BitVec.ofNat 64 a.natAbs).toNat = a.natAbs := ofNat_small (by omega)
  have nb : (BitVec.ofNat 64 b.natAbs).toNat = b.natAbs := ofNat_small (by omega)
  obtain ⟨e1, e2⟩ := mulHi_small (x := BitVec.ofNat 64 a.natAbs) (y := BitVec.ofNat 64 b.natAbs) (by rw [na]; omega) (by rw [nb]; omega)
  rw [e1] at c3
  rw [na, nb, ← Int.natAbs_mul] at e2
  have hsm := smH_mul ⟨a1, a2⟩ ⟨b1, b2⟩
  generalize hL : BitVec.ofNat 64 a.natAbs * BitVec.ofNat 64 b.natAbs = L at *
  have c4 := fun w => signed_any 0#64 L (by decide) w
  have c5 := fun hp w => signedP_any L hp w
  have hW0 : 0 ≤ a * b → wideZ (a * b) = wideC (0#64 : BitVec 64).toNat L := fun h => by
    have : BitVec.ofInt 64 (a * b) = L := BitVec.eq_of_toNat_eq (by rw [ofInt_nat64 h (by unfold smI at hsm; omega), e2]; omega)
    unfold wideZ wideC
    rw [if_neg (by omega), this]
    rfl
  have hW1 : a * b < 0 → wideZ (a * b) = #[.int .i64 (-1), .int .u64 (bvi (-L))] := fun h => by
    have : BitVec.ofInt 64 (a * b) = -L := BitVec.eq_of_toNat_eq (by
      rw [ofInt_neg64 h (by unfold smI at hsm; omega), BitVec.toNat_neg, e2]
      unfold smI at hsm
      omega)
    unfold wideZ
    rw [if_pos h, this]
  have hL0 : L = 0#64 → a * b = 0 := fun h => by
    rw [h] at e2
    have : (a * b).natAbs = 0 := e2.symm
    omega
  have hsz : (wideZ (a * b)).size = 2 := rfl
  have hso : (wideZ (a * b)).all (·.oneCell') = true := by simp [wideZ]; exact ⟨rfl, rfl⟩
  by_cases p : a < 0 <;> by_cases q : b < 0
  · skip
    have hpa : decide (a < 0) = true := by simp [p]
    have hpb : decide (b < 0) = true := by simp [q]
    rw [hpa] at c1
    rw [hpb] at c2
    have h0 : 0 ≤ a * b := Int.mul_nonneg_of_nonpos_of_nonpos (by omega) (by omega)
    rw [hW0 h0] at hsz hso ⊢
    clear hW0 hW1 hL0 c5
    generalize wideC (0#64 : BitVec 64).toNat L = W at *
    refine calls_tri Try.func40 rfl Try.ntmps40 rfl ?_
    repeat (first | (show Walk1 _ _ _ (_ :: _) _ _; first | (show HW1 (.move _); refine wz1 ?_) | (show HW1 (.assign _); refine wz2 ?_) | (show HW1 (.binOp .neq _ _ _ _); refine wz69 ?_) | (show HW1 (.load _ _); refine wz9 ?_) | (show HW1 (.store _ _ _); refine wz23 ?_) | (show HW1 (.alloc _); refine wz6 ?_) | (show HW1 (.extract _ _); first | refine wz16 ?_ | refine wz15 ?_) | (show HW1 (.call ⟨.value (.func 57), _, _⟩); ((first | refine cwalk11 57 ?_ | refine cwalk10 57 ?_); refine ⟨_, fun e w => c1 w, ?_⟩)) | (show HW1 (.call ⟨.value (.func 57), _, _⟩); ((first | refine cwalk11 57 ?_ | refine cwalk10 57 ?_); refine ⟨_, fun e w => c2 w, ?_⟩)) | (show HW1 (.call ⟨.value (.func 58), _, _⟩); ((first | refine cwalk11 58 ?_ | refine cwalk10 58 ?_); refine ⟨_, fun e w => c3 w, ?_⟩)) | (show HW1 (.call ⟨.value (.func 59), _, _⟩); ((first | refine cwalk11 59 ?_ | refine cwalk10 59 ?_); refine ⟨_, fun e w => c4 w, ?_⟩))) | refine go1 ?_ | refine end_block_other rfl ?_ | refine end_scope (fun _ h => by cases h) ?_ | (refine walk_endD ?_ ?_; (· kernel_rfl)) | refine tri_yesA rfl ?_ | refine tri_noA rfl ?_ | refine tri_trueA rfl ?_ | refine tri_falseA rfl ?_)
    refine end_ret _ (res_cells rfl rfl rfl rfl rfl rfl (sm_c hsz) ag_c) ?_
    exact fin_below fun _ => rfl
  · skip
    have hpa : decide (a < 0) = true := by simp [p]
    have hpb : decide (b < 0) = false := by simp [q]
    rw [hpa] at c1
    rw [hpb] at c2
    have hle : a * b ≤ 0 := Int.mul_nonpos_of_nonpos_of_nonneg (by omega) (by omega)
    by_cases hz : L = 0#64
    · have h0 := hL0 hz
      have hW := hW0 (by omega)
      rw [hW] at hsz hso ⊢
      rw [hz] at c3
      have hWz : (#[.int .i64 0, .int .u64 (bvi (0#64))] : Array Value) = wideC (0#64 : BitVec 64).toNat L := by rw [hz]; rfl
      have c6 := fun w => signedZ_any w
      rw [hWz] at c6
      clear hW0 hW1 hL0 c5 c4 hW hWz
      generalize wideC (0#64 : BitVec 64).toNat L = W at *
      refine calls_tri Try.func40 rfl Try.ntmps40 rfl ?_
      repeat (first | (show Walk1 _ _ _ (_ :: _) _ _; first | (show HW1 (.move _); refine wz1 ?_) | (show HW1 (.assign _); refine wz2 ?_) | (show HW1 (.binOp .neq _ _ _ _); refine wz69 ?_) | (show HW1 (.load _ _); refine wz9 ?_) | (show HW1 (.store _ _ _); refine wz23 ?_) | (show HW1 (.alloc _); refine wz6 ?_) | (show HW1 (.extract _ _); first | refine wz16 ?_ | refine wz15 ?_) | (show HW1 (.call ⟨.value (.func 57), _, _⟩); ((first | refine cwalk11 57 ?_ | refine cwalk10 57 ?_); refine ⟨_, fun e w => c1 w, ?_⟩)) | (show HW1 (.call ⟨.value (.func 57), _, _⟩); ((first | refine cwalk11 57 ?_ | refine cwalk10 57 ?_); refine ⟨_, fun e w => c2 w, ?_⟩)) | (show HW1 (.call ⟨.value (.func 58), _, _⟩); ((first | refine cwalk11 58 ?_ | refine cwalk10 58 ?_); refine ⟨_, fun e w => c3 w, ?_⟩)) | (show HW1 (.call ⟨.value (.func 59), _, _⟩); ((first | refine cwalk11 59 ?_ | refine cwalk10 59 ?_); refine ⟨_, fun e w => c6 w, ?_⟩))) | refine go1 ?_ | refine end_block_other rfl ?_ | refine end_scope (fun _ h => by cases h) ?_ | (refine walk_endD ?_ ?_; (· kernel_rfl)) | refine tri_yesA rfl ?_ | refine tri_noA rfl ?_ | refine tri_trueA rfl ?_ | refine tri_falseA rfl ?_)
      refine end_ret _ (res_cells rfl rfl rfl rfl rfl rfl (sm_c hsz) ag_c) ?_
      exact fin_below fun _ => rfl
    · have hlt : a * b < 0 := by
        have : (a * b).natAbs ≠ 0 := fun h => hz (BitVec.eq_of_toNat_eq (by rw [e2, h]; rfl))
        omega
      rw [hW1 hlt] at hsz hso ⊢
      have c6 := fun w => c5 hz w
      clear hW0 hW1 hL0 c5 c4
      generalize (#[.int .i64 (-1), .int .u64 (bvi (-L))] : Array Value) = W at *
      refine calls_tri Try.func40 rfl Try.ntmps40 rfl ?_
      repeat (first | (show Walk1 _ _ _ (_ :: _) _ _; first | (show HW1 (.move _); refine wz1 ?_) | (show HW1 (.assign _); refine wz2 ?_) | (show HW1 (.binOp .neq _ _ _ _); refine wz69 ?_) | (show HW1 (.load _ _); refine wz9 ?_) | (show HW1 (.store _ _ _); refine wz23 ?_) | (show HW1 (.alloc _); refine wz6 ?_) | (show HW1 (.extract _ _); first | refine wz16 ?_ | refine wz15 ?_) | (show HW1 (.call ⟨.value (.func 57), _, _⟩); ((first | refine cwalk11 57 ?_ | refine cwalk10 57 ?_); refine ⟨_, fun e w => c1 w, ?_⟩)) | (show HW1 (.call ⟨.value (.func 57), _, _⟩); ((first | refine cwalk11 57 ?_ | refine cwalk10 57 ?_); refine ⟨_, fun e w => c2 w, ?_⟩)) | (show HW1 (.call ⟨.value (.func 58), _, _⟩); ((first | refine cwalk11 58 ?_ | refine cwalk10 58 ?_); refine ⟨_, fun e w => c3 w, ?_⟩)) | (show HW1 (.call ⟨.value (.func 59), _, _⟩); ((first | refine cwalk11 59 ?_ | refine cwalk10 59 ?_); refine ⟨_, fun e w => c6 w, ?_⟩))) | refine go1 ?_ | refine end_block_other rfl ?_ | refine end_scope (fun _ h => by cases h) ?_ | (refine walk_endD ?_ ?_; (· kernel_rfl)) | refine tri_yesA rfl ?_ | refine tri_noA rfl ?_ | refine tri_trueA rfl ?_ | refine tri_falseA rfl ?_)
      refine end_ret _ (res_cells rfl rfl rfl rfl rfl rfl (sm_c hsz) ag_c) ?_
      exact fin_below fun _ => rfl
  · skip
    have hpa : decide (a < 0) = false := by simp [p]
    have hpb : decide (b < 0) = true := by simp [q]
    rw [hpa] at c1
    rw [hpb] at c2
    have hle : a * b ≤ 0 := Int.mul_nonpos_of_nonneg_of_nonpos (by omega) (by omega)
    by_cases hz : L = 0#64
    · have h0 := hL0 hz
      have hW := hW0 (by omega)
      rw [hW] at hsz hso ⊢
      rw [hz] at c3
      have hWz : (#[.int .i64 0, .int .u64 (bvi (0#64))] : Array Value) = wideC (0#64 : BitVec 64).toNat L := by rw [hz]; rfl
      have c6 := fun w => signedZ_any w
      rw [hWz] at c6
      clear hW0 hW1 hL0 c5 c4 hW hWz
      generalize wideC (0#64 : BitVec 64).toNat L = W at *
      refine calls_tri Try.func40 rfl Try.ntmps40 rfl ?_
      repeat (first | (show Walk1 _ _ _ (_ :: _) _ _; first | (show HW1 (.move _); refine wz1 ?_) | (show HW1 (.assign _); refine wz2 ?_) | (show HW1 (.binOp .neq _ _ _ _); refine wz69 ?_) | (show HW1 (.load _ _); refine wz9 ?_) | (show HW1 (.store _ _ _); refine wz23 ?_) | (show HW1 (.alloc _); refine wz6 ?_) | (show HW1 (.extract _ _); first | refine wz16 ?_ | refine wz15 ?_) | (show HW1 (.call ⟨.value (.func 57), _, _⟩); ((first | refine cwalk11 57 ?_ | refine cwalk10 57 ?_); refine ⟨_, fun e w => c1 w, ?_⟩)) | (show HW1 (.call ⟨.value (.func 57), _, _⟩); ((first | refine cwalk11 57 ?_ | refine cwalk10 57 ?_); refine ⟨_, fun e w => c2 w, ?_⟩)) | (show HW1 (.call ⟨.value (.func 58), _, _⟩); ((first | refine cwalk11 58 ?_ | refine cwalk10 58 ?_); refine ⟨_, fun e w => c3 w, ?_⟩)) | (show HW1 (.call ⟨.value (.func 59), _, _⟩); ((first | refine cwalk11 59 ?_ | refine cwalk10 59 ?_); refine ⟨_, fun e w => c6 w, ?_⟩))) | refine go1 ?_ | refine end_block_other rfl ?_ | refine end_scope (fun _ h => by cases h) ?_ | (refine walk_endD ?_ ?_; (· kernel_rfl)) | refine tri_yesA rfl ?_ | refine tri_noA rfl ?_ | refine tri_trueA rfl ?_ | refine tri_falseA rfl ?_)
      refine end_ret _ (res_cells rfl rfl rfl rfl rfl rfl (sm_c hsz) ag_c) ?_
      exact fin_below fun _ => rfl
    · have hlt : a * b < 0 := by
        have : (a * b).natAbs ≠ 0 := fun h => hz (BitVec.eq_of_toNat_eq (by rw [e2, h]; rfl))
        omega
      rw [hW1 hlt] at hsz hso ⊢
      have c6 := fun w => c5 hz w
      clear hW0 hW1 hL0 c5 c4
      generalize (#[.int .i64 (-1), .int .u64 (bvi (-L))] : Array Value) = W at *
      refine calls_tri Try.func40 rfl Try.ntmps40 rfl ?_
      repeat (first | (show Walk1 _ _ _ (_ :: _) _ _; first | (show HW1 (.move _); refine wz1 ?_) | (show HW1 (.assign _); refine wz2 ?_) | (show HW1 (.binOp .neq _ _ _ _); refine wz69 ?_) | (show HW1 (.load _ _); refine wz9 ?_) | (show HW1 (.store _ _ _); refine wz23 ?_) | (show HW1 (.alloc _); refine wz6 ?_) | (show HW1 (.extract _ _); first | refine wz16 ?_ | refine wz15 ?_) | (show HW1 (.call ⟨.value (.func 57), _, _⟩); ((first | refine cwalk11 57 ?_ | refine cwalk10 57 ?_); refine ⟨_, fun e w => c1 w, ?_⟩)) | (show HW1 (.call ⟨.value (.func 57), _, _⟩); ((first | refine cwalk11 57 ?_ | refine cwalk10 57 ?_); refine ⟨_, fun e w => c2 w, ?_⟩)) | (show HW1 (.call ⟨.value (.func 58), _, _⟩); ((first | refine cwalk11 58 ?_ | refine cwalk10 58 ?_); refine ⟨_, fun e w => c3 w, ?_⟩)) | (show HW1 (.call ⟨.value (.func 59), _, _⟩); ((first | refine cwalk11 59 ?_ | refine cwalk10 59 ?_); refine ⟨_, fun e w => c6 w, ?_⟩))) | refine go1 ?_ | refine end_block_other rfl ?_ | refine end_scope (fun _ h => by cases h) ?_ | (refine walk_endD ?_ ?_; (· kernel_rfl)) | refine tri_yesA rfl ?_ | refine tri_noA rfl ?_ | refine tri_trueA rfl ?_ | refine tri_falseA rfl ?_)
      refine end_ret _ (res_cells rfl rfl rfl rfl rfl rfl (sm_c hsz) ag_c) ?_
      exact fin_below fun _ => rfl
  · skip
    have hpa : decide (a < 0) = false := by simp [p]
    have hpb : decide (b < 0) = false := by simp [q]
    rw [hpa] at c1
    rw [hpb] at c2
    have h0 : 0 ≤ a * b := Int.mul_nonneg (by omega) (by omega)
    rw [hW0 h0] at hsz hso ⊢
    clear hW0 hW1 hL0 c5
    generalize wideC (0#64 : BitVec 64).toNat L = W at *
    refine calls_tri Try.func40 rfl Try.ntmps40 rfl ?_
    repeat (first | (show Walk1 _ _ _ (_ :: _) _ _; first | (show HW1 (.move _); refine wz1 ?_) | (show HW1 (.assign _); refine wz2 ?_) | (show HW1 (.binOp .neq _ _ _ _); refine wz69 ?_) | (show HW1 (.load _ _); refine wz9 ?_) | (show HW1 (.store _ _ _); refine wz23 ?_) | (show HW1 (.alloc _); refine wz6 ?_) | (show HW1 (.extract _ _); first | refine wz16 ?_ | refine wz15 ?_) | (show HW1 (.call ⟨.value (.func 57), _, _⟩); ((first | refine cwalk11 57 ?_ | refine cwalk10 57 ?_); refine ⟨_, fun e w => c1 w, ?_⟩)) | (show HW1 (.call ⟨.value (.func 57), _, _⟩); ((first | refine cwalk11 57 ?_ | refine cwalk10 57 ?_); refine ⟨_, fun e w => c2 w, ?_⟩)) | (show HW1 (.call ⟨.value (.func 58), _, _⟩); ((first | refine cwalk11 58 ?_ | refine cwalk10 58 ?_); refine ⟨_, fun e w => c3 w, ?_⟩)) | (show HW1 (.call ⟨.value (.func 59), _, _⟩); ((first | refine cwalk11 59 ?_ | refine cwalk10 59 ?_); refine ⟨_, fun e w => c4 w, ?_⟩))) | refine go1 ?_ | refine end_block_other rfl ?_ | refine end_scope (fun _ h => by cases h) ?_ | (refine walk_endD ?_ ?_; (· kernel_rfl)) | refine tri_yesA rfl ?_ | refine tri_noA rfl ?_ | refine tri_trueA rfl ?_ | refine tri_falseA rfl ?_)
    refine end_ret _ (res_cells rfl rfl rfl rfl rfl rfl (sm_c hsz) ag_c) ?_
    exact fin_below fun _ => rfl
end Go.Proofs.Ytcookaiakfbdiaa
namespace Go.Proofs.Ytcookaiakfbdiaa
open Go.RowKit
set_option maxRecDepth 100000
set_option maxHeartbeats 2000000
attribute [local irreducible] Calls Walk1 WalkTo Tri EndA
theorem cmpS_any (x y : Int) (hx : smI x) (hy : smI y) (w : World) : Calls Try.prog 39 #[.agg (wideZ x), .agg (wideZ y)] w fun e w' => e = .returned (.int .i64 (cmpI x y)) ∧ Below w.heap.size w w' := by
  have hr := fun w => eqWideZ_run x y hx hy w
  obtain ⟨x1, x2⟩ := hx
  obtain ⟨y1, y2⟩ := hy
  by_cases he : x = y
  · rw [decide_eq_true he] at hr
    rw [cmpI, if_pos he]
    unfold wideZ at *
    generalize bvi (BitVec.ofInt 64 x) = X at *
    generalize bvi (BitVec.ofInt 64 y) = Y at *
    generalize (if x < 0 then (-1 : Int) else 0) = A at *
    generalize (if y < 0 then (-1 : Int) else 0) = B at *
    refine calls_tri Try.func39 rfl Try.ntmps39 rfl ?_
    repeat (first | (show Walk1 _ _ _ (_ :: _) _ _; first | (show HW1 (.assign _); first | refine wz13 ?_ | refine wz2 ?_) | (show HW1 (.binOp .eql _ _ _ _); refine wz47 ?_) | (show HW1 (.load _ _); refine wz9 ?_) | (show HW1 (.box _ _); refine wz11 ?_)) | refine go1 ?_ | refine end_block_other rfl ?_ | refine end_scope (fun _ h => by cases h) ?_ | (refine walk_endD ?_ ?_; (· kernel_rfl)) | refine tri_yesA rfl ?_ | refine tri_noA rfl ?_ | refine tri_trueA rfl ?_ | refine tri_falseA rfl ?_)
    refine end_ret (.c (.int .i64 0)) (res_tmp rfl rfl) ?_
    exact fin_below fun _ => rfl
  · rw [decide_eq_false he] at hr
    rw [cmpI, if_neg he]
    have hX : (BitVec.ofInt 64 x).toNat = if x < 0 then (x + 18446744073709551616).toNat else x.toNat := by
      split
      · exact ofInt_neg64 (by assumption) (by omega)
      · exact ofInt_nat64 (by omega) (by omega)
    have hY : (BitVec.ofInt 64 y).toNat = if y < 0 then (y + 18446744073709551616).toNat else y.toNat := by
      split
      · exact ofInt_neg64 (by assumption) (by omega)
      · exact ofInt_nat64 (by omega) (by omega)
    unfold wideZ at *
    generalize BitVec.ofInt 64 x = X at *
    generalize BitVec.ofInt 64 y = Y at *
    by_cases p : x < 0 <;> by_cases q : y < 0
    · rw [if_pos p] at hX
      rw [if_pos q] at hY
      simp only [if_pos p, if_pos q] at hr ⊢
      by_cases h : x < y
      · have hl : X.toNat < Y.toNat := by omega
        rw [if_pos h]
        refine calls_tri Try.func39 rfl Try.ntmps39 rfl ?_
        repeat (first | (show Walk1 _ _ _ (_ :: _) _ _; first | (show Walk1 _ _ _ (⟨_, _, _, _, _, some _⟩ :: _) _ _; refine zy1 ?_) | (show HW1 (.move _); refine wz1 ?_) | (show HW1 (.assign _); first | refine wz13 ?_ | refine wz2 ?_) | (show HW1 (.binOp .lss _ _ _ _); first | refine wz52 ?_ | refine wz12 ?_) | (show HW1 (.binOp .eql _ _ _ _); first | refine wz18 ?_ | refine wz47 ?_) | (show HW1 (.pick _ _ _); refine wz8 ?_) | (show HW1 (.load _ _); first | refine wz3 ?_ | refine wz9 ?_) | (show HW1 (.box _ _); refine wz11 ?_) | (show HW1 (.fieldAddr _ _ _); refine wz4 ?_)) | refine go1 ?_ | refine end_block_other rfl ?_ | refine end_scope (fun _ h => by cases h) ?_ | (refine walk_endD ?_ ?_; (· kernel_rfl)) | refine tri_yesA rfl ?_ | refine tri_noA rfl ?_ | refine tri_trueA rfl ?_ | refine tri_falseA rfl ?_)
        refine end_ret (.c (.int .i64 (-1))) (res_tmp rfl rfl) ?_
        exact fin_below fun _ => rfl
      · have hl : ¬ X.toNat < Y.toNat := by omega
        rw [if_neg h]
        refine calls_tri Try.func39 rfl Try.ntmps39 rfl ?_
        repeat (first | (show Walk1 _ _ _ (_ :: _) _ _; first | (show Walk1 _ _ _ (⟨_, _, _, _, _, some _⟩ :: _) _ _; refine zy1 ?_) | (show HW1 (.move _); refine wz1 ?_) | (show HW1 (.assign _); first | refine wz13 ?_ | refine wz2 ?_) | (show HW1 (.binOp .lss _ _ _ _); first | refine wz52 ?_ | refine wz12 ?_) | (show HW1 (.binOp .eql _ _ _ _); first | refine wz18 ?_ | refine wz47 ?_) | (show HW1 (.pick _ _ _); refine wz8 ?_) | (show HW1 (.load _ _); first | refine wz3 ?_ | refine wz9 ?_) | (show HW1 (.box _ _); refine wz11 ?_) | (show HW1 (.fieldAddr _ _ _); refine wz4 ?_)) | refine go1 ?_ | refine end_block_other rfl ?_ | refine end_scope (fun _ h => by cases h) ?_ | (refine walk_endD ?_ ?_; (· kernel_rfl)) | refine tri_yesA rfl ?_ | refine tri_noA rfl ?_ | refine tri_trueA rfl ?_ | refine tri_falseA rfl ?_)
        refine end_ret (.c (.int .i64 1)) (res_tmp rfl rfl) ?_
        exact fin_below fun _ => rfl
    · have h : x < y := by omega
      simp only [if_pos p, if_neg q] at hr ⊢
      rw [if_pos h]
      refine calls_tri Try.func39 rfl Try.ntmps39 rfl ?_
      repeat (first | (show Walk1 _ _ _ (_ :: _) _ _; first | (show HW1 (.assign _); first | refine wz13 ?_ | refine wz2 ?_) | (show HW1 (.binOp .lss _ _ _ _); refine wz12 ?_) | (show HW1 (.binOp .eql _ _ _ _); refine wz47 ?_) | (show HW1 (.load _ _); first | refine wz3 ?_ | refine wz9 ?_) | (show HW1 (.box _ _); refine wz11 ?_) | (show HW1 (.fieldAddr _ _ _); refine wz4 ?_)) | refine go1 ?_ | refine end_block_other rfl ?_ | refine end_scope (fun _ h => by cases h) ?_ | (refine walk_endD ?_ ?_; (· kernel_rfl)) | refine tri_yesA rfl ?_ | refine tri_noA rfl ?_ | refine tri_trueA rfl ?_ | refine tri_falseA rfl ?_)
      refine end_ret (.c (.int .i64 (-1))) (res_tmp rfl rfl) ?_
      exact fin_below fun _ => rfl
    · have h : ¬ x < y := by omega
      simp only [if_neg p, if_pos q] at hr ⊢
      rw [if_neg h]
      refine calls_tri Try.func39 rfl Try.ntmps39 rfl ?_
      repeat (first | (show Walk1 _ _ _ (_ :: _) _ _; first | (show Walk1 _ _ _ (⟨_, _, _, _, _, some _⟩ :: _) _ _; refine zn1 ?_) | (show HW1 (.move _); refine wz1 ?_) | (show HW1 (.assign _); first | refine wz13 ?_ | refine wz2 ?_) | (show HW1 (.binOp .lss _ _ _ _); refine wz12 ?_) | (show HW1 (.binOp .eql _ _ _ _); first | refine wz18 ?_ | refine wz47 ?_) | (show HW1 (.pick _ _ _); refine wz7 ?_) | (show HW1 (.load _ _); first | refine wz3 ?_ | refine wz9 ?_) | (show HW1 (.box _ _); refine wz11 ?_) | (show HW1 (.fieldAddr _ _ _); refine wz4 ?_)) | refine go1 ?_ | refine end_block_other rfl ?_ | refine end_scope (fun _ h => by cases h) ?_ | (refine walk_endD ?_ ?_; (· kernel_rfl)) | refine tri_yesA rfl ?_ | refine tri_noA rfl ?_ | refine tri_trueA rfl ?_ | refine tri_falseA rfl ?_)
      refine end_ret (.c (.int .i64 1)) (res_tmp rfl rfl) ?_
      exact fin_below fun _ => rfl
    · rw [if_neg p] at hX
      rw [if_neg q] at hY
      simp only [if_neg p, if_neg q] at hr ⊢
      by_cases h : x < y
      · have hl : X.toNat < Y.toNat := by omega
        rw [if_pos h]
        refine calls_tri Try.func39 rfl Try.ntmps39 rfl ?_
        repeat (first | (show Walk1 _ _ _ (_ :: _) _ _; first | (show Walk1 _ _ _ (⟨_, _, _, _, _, some _⟩ :: _) _ _; refine zy1 ?_) | (show HW1 (.move _); refine wz1 ?_) | (show HW1 (.assign _); first | refine wz13 ?_ | refine wz2 ?_) | (show HW1 (.binOp .lss _ _ _ _); first | refine wz5 ?_ | refine wz52 ?_) | (show HW1 (.binOp .eql _ _ _ _); first | refine wz30 ?_ | refine wz47 ?_) | (show HW1 (.pick _ _ _); refine wz8 ?_) | (show HW1 (.load _ _); first | refine wz3 ?_ | refine wz9 ?_) | (show HW1 (.box _ _); refine wz11 ?_) | (show HW1 (.fieldAddr _ _ _); refine wz4 ?_)) | refine go1 ?_ | refine end_block_other rfl ?_ | refine end_scope (fun _ h => by cases h) ?_ | (refine walk_endD ?_ ?_; (· kernel_rfl)) | refine tri_yesA rfl ?_ | refine tri_noA rfl ?_ | refine tri_trueA rfl ?_ | refine tri_falseA rfl ?_)
        refine end_ret (.c (.int .i64 (-1))) (res_tmp rfl rfl) ?_
        exact fin_below fun _ => rfl
      · have hl : ¬ X.toNat < Y.toNat := by omega
        rw [if_neg h]
        refine calls_tri Try.func39 rfl Try.ntmps39 rfl ?_
        repeat (first | (show Walk1 _ _ _ (_ :: _) _ _; first | (show Walk1 _ _ _ (⟨_, _, _, _, _, some _⟩ :: _) _ _; refine zy1 ?_) | (show HW1 (.move _); refine wz1 ?_) | (show HW1 (.assign _); first | refine wz13 ?_ | refine wz2 ?_) | (show HW1 (.binOp .lss _ _ _ _); first | refine wz5 ?_ | refine wz52 ?_) | (show HW1 (.binOp .eql _ _ _ _); first | refine wz30 ?_ | refine wz47 ?_) | (show HW1 (.pick _ _ _); refine wz8 ?_) | (show HW1 (.load _ _); first | refine wz3 ?_ | refine wz9 ?_) | (show HW1 (.box _ _); refine wz11 ?_) | (show HW1 (.fieldAddr _ _ _); refine wz4 ?_)) | refine go1 ?_ | refine end_block_other rfl ?_ | refine end_scope (fun _ h => by cases h) ?_ | (refine walk_endD ?_ ?_; (· kernel_rfl)) | refine tri_yesA rfl ?_ | refine tri_noA rfl ?_ | refine tri_trueA rfl ?_ | refine tri_falseA rfl ?_)
        refine end_ret (.c (.int .i64 1)) (res_tmp rfl rfl) ?_
        exact fin_below fun _ => rfl
/-- One ratio is less than another. -/
def rlt (a b : Int × Int) : Prop := a.1 * b.2 < b.1 * a.2
instance (a b : Int × Int) : Decidable (rlt a b) := inferInstanceAs (Decidable (_ < _))
def ratC (a : Int × Int) : Array Value := #[.int .i64 a.1, .int .i64 a.2]
theorem less22_any (a b : Int × Int) (h1 : smH a.1) (h2 : smH a.2) (h3 : smH b.1) (h4 : smH b.2) (w : World) : Calls Try.prog 37 #[.agg (ratC a), .agg (ratC b)] w fun e w' => e = .returned (.bool (decide (rlt a b))) ∧ Below w.heap.size w w' := by
  have c1 := fun w => mulS_any a.1 b.2 h1 h4 w
  have c2 := fun w => mulS_any b.1 a.2 h3 h2 w
  have c3 := fun w => cmpS_any (a.1 * b.2) (b.1 * a.2) (smH_mul h1 h4) (smH_mul h3 h2) w
  have hd : decide (cmpI (a.1 * b.2) (b.1 * a.2) < 0) = decide (rlt a b) := by
    refine decide_eq_decide.2 ?_
    unfold cmpI rlt
    generalize a.1 * b.2 = X
    generalize b.1 * a.2 = Y
    split
    · omega
    · split <;> omega
  rw [← hd]
  unfold ratC
  generalize a.1 * b.2 = X at *
  generalize b.1 * a.2 = Y at *
  generalize wideZ X = WX at *
  generalize wideZ Y = WY at *
  generalize cmpI X Y = Z at *
  refine calls_tri Try.func37 rfl Try.ntmps37 rfl ?_
  repeat (first | (show Walk1 _ _ _ (_ :: _) _ _; first | (show HW1 (.assign _); refine wz2 ?_) | (show HW1 (.box _ _); refine wz11 ?_)) | (show WalkTo _ _ _ _ (_ :: _) _ _ _; first | (show HW2 (.assign _); refine wz17 ?_) | (show HW2 (.binOp .lss _ _ _ _); refine wz56 ?_) | (show HW2 (.load _ _); refine wz24 ?_) | (show HW2 (.fieldAddr _ _ _); refine wz49 ?_) | (show HW2 (.call ⟨.value (.func 40), _, _⟩); ((first | refine cwalk1 40 ?_ | refine cwalk0 40 ?_); refine ⟨_, fun e w => c1 w, ?_⟩)) | (show HW2 (.call ⟨.value (.func 40), _, _⟩); ((first | refine cwalk1 40 ?_ | refine cwalk0 40 ?_); refine ⟨_, fun e w => c2 w, ?_⟩)) | (show HW2 (.call ⟨.value (.func 39), _, _⟩); ((first | refine cwalk1 39 ?_ | refine cwalk0 39 ?_); refine ⟨_, fun e w => c3 w, ?_⟩))) | refine go1 ?_ | refine end_block_other rfl ?_ | refine end_scope (fun _ h => by cases h) ?_ | (refine walk_endD ?_ ?_; (· kernel_rfl)) | refine tri_yesA rfl ?_ | refine tri_noA rfl ?_ | refine tri_trueA rfl ?_ | refine tri_falseA rfl ?_)
  refine end_ret _ (res_tmp rfl rfl) ?_
  exact fin_below fun _ => rfl
end Go.Proofs.Ytcookaiakfbdiaa
