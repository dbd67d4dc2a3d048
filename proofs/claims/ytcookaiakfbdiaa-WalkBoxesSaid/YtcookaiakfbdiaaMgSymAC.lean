/- A new object with a slice of its own and a value, handed back together: the call. No condition. Poly1305 in plain numbers. No condition. Which one comes first: products of 128 bits, compared: the program's and the document's: walked. No condition. -/
import Derived.Test.YtcookaiakfbdiaaMgSwp3
import Derived.Test.YtcookaiakfbdiaaSymC
import Derived.Test.YtcookaiakfbdiaaMgSymY
namespace Go.Proofs.Ytcookaiakfbdiaa
open Go.RowKit
set_option maxRecDepth 100000
set_option maxHeartbeats 1000000
section
variable {C : Ctx} {ops : Array Oper} {S : St} {o : Oper}
variable {l : List Oper} {t : List (Nat × SV)} {h : List (Nat × Option Res)} {d : Nat} {f j : FuncId} {xs : Array Operand} {ats : Array TypeId} {vs : List SV}
end
end Go.Proofs.Ytcookaiakfbdiaa
namespace Go.Proofs.Ytcookaiakfbdiaa
open Go.RowKit
set_option maxRecDepth 100000
/-! ### bytes as a number -/
/-! ### sums and products of 64 bits -/
def m32 : BitVec 64 := BitVec.ofInt 64 4294967295
def mulHi (x y : BitVec 64) : BitVec 64 :=
  (x >>> 32) * (y >>> 32) + ((x >>> 32) * (y &&& m32) + ((x &&& m32) * (y &&& m32)) >>> 32) >>> 32 + ((((x >>> 32) * (y &&& m32) + ((x &&& m32) * (y &&& m32)) >>> 32) &&& m32) + (x &&& m32) * (y >>> 32)) >>> 32
theorem and_m32 (x : BitVec 64) : (x &&& m32).toNat = x.toNat % 4294967296 := by
  rw [BitVec.toNat_and, show m32.toNat = 2 ^ 32 - 1 by decide, Nat.and_two_pow_sub_one_eq_mod]
theorem mul_lt32 {a b : Nat} (ha : a < 4294967296) (hb : b < 4294967296) : a * b ≤ 18446744065119617025 := by
  calc a * b ≤ 4294967295 * 4294967295 := Nat.mul_le_mul (by omega) (by omega)
    _ = _ := by decide
theorem mul_nat (x y : BitVec 64) : (x * y).toNat + 18446744073709551616 * (mulHi x y).toNat = x.toNat * y.toNat := by
  have hx := x.isLt
  have hy := y.isLt
  obtain ⟨x1, hx1⟩ : ∃ n, n = x.toNat / 4294967296 := ⟨_, rfl⟩
  obtain ⟨x0, hx0⟩ : ∃ n, n = x.toNat % 4294967296 := ⟨_, rfl⟩
  obtain ⟨y1, hy1⟩ : ∃ n, n = y.toNat / 4294967296 := ⟨_, rfl⟩
  obtain ⟨y0, hy0⟩ : ∃ n, n = y.toNat % 4294967296 := ⟨_, rfl⟩
  have b11 := mul_lt32 (show x1 < 4294967296 by omega) (show y1 < 4294967296 by omega)
  have b10 := mul_lt32 (show x1 < 4294967296 by omega) (show y0 < 4294967296 by omega)
  have b01 := mul_lt32 (show x0 < 4294967296 by omega) (show y1 < 4294967296 by omega)
  have b00 := mul_lt32 (show x0 < 4294967296 by omega) (show y0 < 4294967296 by omega)
  have hxy : x.toNat * y.toNat = 18446744073709551616 * (x1 * y1) + 4294967296 * (x1 * y0) + 4294967296 * (x0 * y1) + x0 * y0 := by
    have e1 : x.toNat = 4294967296 * x1 + x0 := by omega
    have e2 : y.toNat = 4294967296 * y1 + y0 := by omega
    rw [e1, e2, Nat.add_mul, Nat.mul_add, Nat.mul_add]
    have e3 : 4294967296 * x1 * (4294967296 * y1) = 18446744073709551616 * (x1 * y1) := by
      rw [Nat.mul_mul_mul_comm]
    have e4 : 4294967296 * x1 * y0 = 4294967296 * (x1 * y0) := Nat.mul_assoc _ _ _
    have e5 : x0 * (4294967296 * y1) = 4294967296 * (x0 * y1) := Nat.mul_left_comm _ _ _
    rw [e3, e4, e5]
    omega
  have h1 : (x >>> 32).toNat = x1 := by rw [BitVec.toNat_ushiftRight, Nat.shiftRight_eq_div_pow]; exact hx1.symm
  have h2 : (y >>> 32).toNat = y1 := by rw [BitVec.toNat_ushiftRight, Nat.shiftRight_eq_div_pow]; exact hy1.symm
  have h3 : (x &&& m32).toNat = x0 := (and_m32 x).trans hx0.symm
  have h4 : (y &&& m32).toNat = y0 := (and_m32 y).trans hy0.symm
  have hw0 : ((x &&& m32) * (y &&& m32)).toNat = x0 * y0 := by rw [BitVec.toNat_mul, h3, h4]; omega
  have ht : ((x >>> 32) * (y &&& m32) + ((x &&& m32) * (y &&& m32)) >>> 32).toNat = x1 * y0 + x0 * y0 / 4294967296 := by
    rw [BitVec.toNat_add, BitVec.toNat_mul, h1, h4, BitVec.toNat_ushiftRight, hw0, Nat.shiftRight_eq_div_pow]
    omega
  have hhi : (mulHi x y).toNat = x1 * y1 + (x1 * y0 + x0 * y0 / 4294967296) / 4294967296 + ((x1 * y0 + x0 * y0 / 4294967296) % 4294967296 + x0 * y1) / 4294967296 := by
    unfold mulHi
    generalize ((x >>> 32) * (y &&& m32) + ((x &&& m32) * (y &&& m32)) >>> 32) = t at ht ⊢
    simp only [BitVec.toNat_add, BitVec.toNat_mul, BitVec.toNat_ushiftRight, and_m32, ht, Nat.shiftRight_eq_div_pow]
    have e5 : x.toNat / 2 ^ 32 = x1 := hx1.symm
    have e6 : y.toNat / 2 ^ 32 = y1 := hy1.symm
    rw [e5, e6, ← hx0]
    generalize x1 * y1 = p11 at *
    generalize x1 * y0 = p10 at *
    generalize x0 * y1 = p01 at *
    generalize x0 * y0 = p00 at *
    omega
  rw [hhi, BitVec.toNat_mul, hxy]
  generalize x1 * y1 = p11 at *
  generalize x1 * y0 = p10 at *
  generalize x0 * y1 = p01 at *
  generalize x0 * y0 = p00 at *
  omega
/-! ### the state of three numbers -/
end Go.Proofs.Ytcookaiakfbdiaa
namespace Go.Proofs.Ytcookaiakfbdiaa
open Go.RowKit
set_option maxRecDepth 100000
set_option maxHeartbeats 2000000
theorem lex_lt {h1 l1 h2 l2 A B : Nat} (e1 : l1 + 18446744073709551616 * h1 = A) (e2 : l2 + 18446744073709551616 * h2 = B) (b1 : l1 < 18446744073709551616) (b2 : l2 < 18446744073709551616) : (h1 < h2 ∨ (h1 = h2 ∧ l1 < l2)) ↔ A < B := by omega
theorem hi_small {x y : BitVec 64} (hx : x.toNat < 9223372036854775808) (hy : y.toNat < 9223372036854775808) : (mulHi x y).toNat < 4611686018427387904 := by
  have h := mul_nat x y
  have h2 : x.toNat * y.toNat < 9223372036854775808 * 9223372036854775808 := Nat.mul_lt_mul'' hx hy
  have h3 : (9223372036854775808 : Nat) * 9223372036854775808 = 18446744073709551616 * 4611686018427387904 := by decide
  omega
theorem ofNat_small {a : Nat} (h : a < 9223372036854775808) : (BitVec.ofNat 64 a).toNat = a := by
  rw [BitVec.toNat_ofNat]; omega
/-- A wide number. -/
def wideC (h : Nat) (l : BitVec 64) : Array Value := #[.int .i64 (h : Int), .int .u64 (bvi l)]
theorem run_eqIntK {P : Program} {w : World} {d : Nat} {t : TypeId} {k : IntKind} {a b : Int} (ht : P.underlying t = some (.int k)) : (Op.equalIn (d + 1) t (.int k a) (.int k b)).run P w = .ok (a == b) w := by
  simp [Op.equalIn, run_underlying ht]
theorem eqFields2 {P : Program} {w : World} {d : Nat} {f0 f1 : Field} {k0 k1 : IntKind} {a b a' b' : Int} (n0 : f0.name ≠ "_") (n1 : f1.name ≠ "_") (o0 : f0.offset = 0) (o1 : f1.offset = 1) (t0 : P.underlying f0.type = some (.int k0)) (t1 : P.underlying f1.type = some (.int k1)) :
    (Op.eqFields (d + 1) #[.int k0 a, .int k1 b] #[.int k0 a', .int k1 b'] [f0, f1]).run P w = .ok (a == a' && b == b') w := by
  have p0 : ∀ x y : Int, (part f0.type #[.int k0 x, .int k1 y] f0.offset).run P w = .ok (.int k0 x) w := fun x y => by
    rw [o0]; simp [part, isAgg, run_underlying t0]
  have p1 : ∀ x y : Int, (part f1.type #[.int k0 x, .int k1 y] f1.offset).run P w = .ok (.int k1 y) w := fun x y => by
    rw [o1]; simp [part, isAgg, run_underlying t1]
  rw [Op.eqFields, if_pos n0]
  simp only [Sem.run_bind, p0, Result.andThen_ok, run_eqIntK t0]
  cases h : (a == a') with
  | false => simp
  | true =>
    simp only [Bool.not_true, Bool.false_eq_true, if_false, Bool.true_and]
    rw [Op.eqFields, if_pos n1]
    simp only [Sem.run_bind, p1, Result.andThen_ok, run_eqIntK t1]
    cases h : (b == b') <;> simp [Op.eqFields]
theorem eqWide_run (h h' : Nat) (l l' : BitVec 64) (w : World) : (Op.equalIn 10000 89 (.agg (wideC h l)) (.agg (wideC h' l'))).run Try.prog w = .ok (decide (h = h') && (l == l')) w := by
  have hu := Try.underlying89
  have hfo : Try.prog.underlying 89 = some (.struct (Try.prog.fieldsOf 89)) := by rw [Program.fieldsOf, hu]
  rw [run_equalIn_struct w 9999 89 _ _ hfo (by kernel_rfl)]
  have hb : (bvi l == bvi l') = (l == l') := by
    rw [Bool.eq_iff_iff, beq_iff_eq, beq_iff_eq]
    unfold bvi
    rw [Int.ofNat_inj]
    exact ⟨BitVec.eq_of_toNat_eq, fun h => by rw [h]⟩
  have hh : ((h : Int) == (h' : Int)) = decide (h = h') := by
    rw [Bool.eq_iff_iff, beq_iff_eq, decide_eq_true_eq, Int.ofNat_inj]
  have hfs : ∃ f0 f1 : Field, (Try.prog.fieldsOf 89).toList = [f0, f1] ∧ f0.name ≠ "_" ∧ f1.name ≠ "_" ∧ f0.offset = 0 ∧ f1.offset = 1 ∧ Try.prog.underlying f0.type = some (.int .i64) ∧ Try.prog.underlying f1.type = some (.int .u64) := by
    rw [Program.fieldsOf, hu]
    exact ⟨_, _, rfl, by decide, by decide, rfl, rfl, Try.underlying2, Try.underlying87⟩
  obtain ⟨f0, f1, e, n0, n1, o0, o1, t0, t1⟩ := hfs
  rw [e]
  have := eqFields2 (w := w) (d := 9998) (a := (h : Int)) (b := bvi l) (a' := (h' : Int)) (b' := bvi l') n0 n1 o0 o1 t0 t1
  rw [hb, hh] at this
  exact this
attribute [local irreducible] Calls Walk1 WalkTo Tri EndA
theorem mul64_any (x y : BitVec 64) (w : World) : Calls Try.prog 58 #[.int .u64 (bvi x), .int .u64 (bvi y)] w fun e w' => e = .returned (.tuple #[.int .u64 (bvi (mulHi x y)), .int .u64 (bvi (x * y))]) ∧ Below w.heap.size w w' := by
  unfold mulHi m32
  refine calls_tri Try.func58 rfl Try.ntmps58 rfl ?_
  repeat (first | (show Walk1 _ _ _ (_ :: _) _ _; first | (show HW1 (.move _); refine wz1 ?_) | (show HW1 (.assign _); refine wz2 ?_) | (show HW1 (.binOp .add _ _ _ _); refine walk1_t (op_addB rfl rfl rfl evb evb) ?_) | (show HW1 (.binOp .mul _ _ _ _); refine walk1_t (op_mulB rfl rfl rfl evb evb) ?_) | (show HW1 (.binOp .and _ _ _ _); refine wz41 ?_) | (show HW1 (.binOp .shr _ _ _ _); refine walk1_t (op_shrB rfl rfl rfl evb evk) ?_)) | refine go1 ?_ | refine end_block_other rfl ?_ | refine end_scope (fun _ h => by cases h) ?_ | (refine walk_endD ?_ ?_; (· kernel_rfl)) | refine tri_yesA rfl ?_ | refine tri_noA rfl ?_ | refine tri_trueA rfl ?_ | refine tri_falseA rfl ?_)
  refine end_ret _ (res_tmp2 rfl rfl rfl) ?_
  exact fin_below fun _ => rfl
theorem sizeW_any (a : Nat) (ha : a < 9223372036854775808) (w : World) : Calls Try.prog 57 #[.int .i64 (a : Int)] w fun e w' => e = .returned (.tuple #[.int .u64 (bvi (BitVec.ofNat 64 a)), .bool false]) ∧ Below w.heap.size w w' := by
  refine calls_tri Try.func57 rfl Try.ntmps57 rfl ?_
  repeat (first | (show Walk1 _ _ _ (_ :: _) _ _; first | (show HW1 (.move _); refine wz1 ?_) | (show HW1 (.assign _); refine wz2 ?_) | (show HW1 (.binOp .lss _ _ _ _); refine wz5 ?_) | (show HW1 (.convert _ _ _); refine wz67 ?_)) | refine go1 ?_ | refine end_block_other rfl ?_ | refine end_scope (fun _ h => by cases h) ?_ | (refine walk_endD ?_ ?_; (· kernel_rfl)) | refine tri_yesA rfl ?_ | refine tri_noA rfl ?_ | refine tri_trueA rfl ?_ | refine tri_falseA rfl ?_)
  refine end_ret _ (res_tmp2 rfl rfl rfl) ?_
  exact fin_below fun _ => rfl
theorem signed_any (hi lo : BitVec 64) (hh : hi.toNat < 4611686018427387904) (w : World) : Calls Try.prog 59 #[.int .u64 (bvi hi), .int .u64 (bvi lo), .bool false] w fun e w' => e = .returned (.tuple #[.agg (wideC hi.toNat lo), .bool true]) ∧ Below w.heap.size w w' := by
  have hd : (decide (hi.toNat < 0) == false) = true := by simp
  refine calls_tri Try.func59 rfl Try.ntmps59 rfl ?_
  repeat (first | (show Walk1 _ _ _ (_ :: _) _ _; first | (show Walk1 _ _ _ (⟨_, _, _, _, _, some _⟩ :: _) _ _; refine zn1 ?_) | (show HW1 (.move _); refine wz1 ?_) | (show HW1 (.assign _); refine wz2 ?_) | (show HW1 (.binOp .lss _ _ _ _); refine wz5 ?_) | (show HW1 (.binOp .eql _ _ _ _); refine wz107 ?_) | (show HW1 (.pick _ _ _); refine wz8 ?_) | (show HW1 (.load _ _); first | refine wz3 ?_ | refine wz31 ?_) | (show HW1 (.store _ _ _); refine wz28 ?_) | (show HW1 (.alloc _); refine wz6 ?_) | (show HW1 (.fieldAddr _ _ _); refine wz4 ?_) | (show HW1 (.build _ _); refine wz25 ?_) | (show HW1 (.convert _ _ _); refine walk1_t (op_convBN rfl rfl rfl evb rfl rfl (by omega)) ?_)) | refine go1 ?_ | refine end_block_other rfl ?_ | refine end_scope (fun _ h => by cases h) ?_ | (refine walk_endD ?_ ?_; (· kernel_rfl)) | refine tri_yesA rfl ?_ | refine tri_noA rfl ?_ | refine tri_trueA rfl ?_ | refine tri_falseA rfl ?_)
  refine end_ent (ent_blkA 6 (.c (wideC hi.toNat lo)) rfl (fun _ => rfl)) ?_
  refine end_ret (.c (.tuple #[.agg (wideC hi.toNat lo), .bool true])) (res_cellT rfl rfl rfl rfl rfl rfl rfl rfl) ?_
  exact fin_below fun _ => rfl
theorem mulW_any (a b : Nat) (ha : a < 9223372036854775808) (hb : b < 9223372036854775808) (w : World) : Calls Try.prog 40 #[.int .i64 (a : Int), .int .i64 (b : Int)] w fun e w' => e = .returned (.agg (wideC (mulHi (BitVec.ofNat 64 a) (BitVec.ofNat 64 b)).toNat (BitVec.ofNat 64 a * BitVec.ofNat 64 b))) ∧ Below w.heap.size w w' := by
  have c1 := fun w => sizeW_any a ha w
  have c2 := fun w => sizeW_any b hb w
  have c3 := fun w => mul64_any (BitVec.ofNat 64 a) (BitVec.ofNat 64 b) w
  have hs := hi_small (x := BitVec.ofNat 64 a) (y := BitVec.ofNat 64 b) (by rw [ofNat_small ha]; exact ha) (by rw [ofNat_small hb]; exact hb)
  have c4 := fun w => signed_any _ (BitVec.ofNat 64 a * BitVec.ofNat 64 b) hs w
  generalize mulHi (BitVec.ofNat 64 a) (BitVec.ofNat 64 b) = H at *
  generalize BitVec.ofNat 64 a * BitVec.ofNat 64 b = L at *
  generalize BitVec.ofNat 64 a = A at *
  generalize BitVec.ofNat 64 b = B at *
  have hws : (wideC H.toNat L).size = 2 := rfl
  have hwo : (wideC H.toNat L).all (·.oneCell') = true := by simp [wideC]; exact ⟨rfl, rfl⟩
  generalize wideC H.toNat L = W at *
  refine calls_tri Try.func40 rfl Try.ntmps40 rfl ?_
  repeat (first | (show Walk1 _ _ _ (_ :: _) _ _; first | (show HW1 (.move _); refine wz1 ?_) | (show HW1 (.assign _); refine wz2 ?_) | (show HW1 (.binOp .neq _ _ _ _); refine wz69 ?_) | (show HW1 (.load _ _); refine wz9 ?_) | (show HW1 (.store _ _ _); refine wz23 ?_) | (show HW1 (.alloc _); refine wz6 ?_) | (show HW1 (.extract _ _); first | refine wz16 ?_ | refine wz15 ?_) | (show HW1 (.call ⟨.value (.func 57), _, _⟩); ((first | refine cwalk11 57 ?_ | refine cwalk10 57 ?_); refine ⟨_, fun e w => c1 w, ?_⟩)) | (show HW1 (.call ⟨.value (.func 57), _, _⟩); ((first | refine cwalk11 57 ?_ | refine cwalk10 57 ?_); refine ⟨_, fun e w => c2 w, ?_⟩)) | (show HW1 (.call ⟨.value (.func 58), _, _⟩); ((first | refine cwalk11 58 ?_ | refine cwalk10 58 ?_); refine ⟨_, fun e w => c3 w, ?_⟩)) | (show HW1 (.call ⟨.value (.func 59), _, _⟩); ((first | refine cwalk11 59 ?_ | refine cwalk10 59 ?_); refine ⟨_, fun e w => c4 w, ?_⟩))) | refine go1 ?_ | refine end_block_other rfl ?_ | refine end_scope (fun _ h => by cases h) ?_ | (refine walk_endD ?_ ?_; (· kernel_rfl)) | refine tri_yesA rfl ?_ | refine tri_noA rfl ?_ | refine tri_trueA rfl ?_ | refine tri_falseA rfl ?_)
  refine end_ret _ (res_cells rfl rfl rfl rfl rfl rfl (sm_c hws) ag_c) ?_
  exact fin_below fun _ => rfl
def cmpZ (h1 : Nat) (l1 : BitVec 64) (h2 : Nat) (l2 : BitVec 64) : Int := if h1 = h2 ∧ l1 = l2 then 0 else if h1 < h2 ∨ (h1 = h2 ∧ l1.toNat < l2.toNat) then -1 else 1
theorem cmpW_any (h1 : Nat) (l1 : BitVec 64) (h2 : Nat) (l2 : BitVec 64) (w : World) : Calls Try.prog 39 #[.agg (wideC h1 l1), .agg (wideC h2 l2)] w fun e w' => e = .returned (.int .i64 (cmpZ h1 l1 h2 l2)) ∧ Below w.heap.size w w' := by
  have hr := fun w => eqWide_run h1 h2 l1 l2 w
  have z1 : (wideC h1 l1).size = 2 := rfl
  have z2 : (wideC h2 l2).size = 2 := rfl
  simp only [wideC] at *
  by_cases e : h1 = h2 ∧ l1 = l2
  · have he : (decide (h1 = h2) && (l1 == l2)) = true := by simp [e.1, e.2]
    rw [he] at hr
    rw [cmpZ, if_pos e]
    refine calls_tri Try.func39 rfl Try.ntmps39 rfl ?_
    repeat (first | (show Walk1 _ _ _ (_ :: _) _ _; first | (show HW1 (.assign _); first | refine wz13 ?_ | refine wz2 ?_) | (show HW1 (.binOp .eql _ _ _ _); refine wz47 ?_) | (show HW1 (.load _ _); refine wz9 ?_) | (show HW1 (.box _ _); refine wz11 ?_)) | refine go1 ?_ | refine end_block_other rfl ?_ | refine end_scope (fun _ h => by cases h) ?_ | (refine walk_endD ?_ ?_; (· kernel_rfl)) | refine tri_yesA rfl ?_ | refine tri_noA rfl ?_ | refine tri_trueA rfl ?_ | refine tri_falseA rfl ?_)
    refine end_ret (.c (.int .i64 0)) (res_tmp rfl rfl) ?_
    exact fin_below fun _ => rfl
  have he : (decide (h1 = h2) && (l1 == l2)) = false := by
    rw [Bool.eq_false_iff]
    simpa using e
  rw [he] at hr
  rw [cmpZ, if_neg e]
  clear he e
  by_cases e1 : h1 < h2
  · rw [if_pos (.inl e1)]
    refine calls_tri Try.func39 rfl Try.ntmps39 rfl ?_
    repeat (first | (show Walk1 _ _ _ (_ :: _) _ _; first | (show HW1 (.assign _); first | refine wz13 ?_ | refine wz2 ?_) | (show HW1 (.binOp .lss _ _ _ _); refine wz5 ?_) | (show HW1 (.binOp .eql _ _ _ _); refine wz47 ?_) | (show HW1 (.load _ _); first | refine wz3 ?_ | refine wz9 ?_) | (show HW1 (.box _ _); refine wz11 ?_) | (show HW1 (.fieldAddr _ _ _); refine wz4 ?_)) | refine go1 ?_ | refine end_block_other rfl ?_ | refine end_scope (fun _ h => by cases h) ?_ | (refine walk_endD ?_ ?_; (· kernel_rfl)) | refine tri_yesA rfl ?_ | refine tri_noA rfl ?_ | refine tri_trueA rfl ?_ | refine tri_falseA rfl ?_)
    refine end_ret (.c (.int .i64 (-1))) (res_tmp rfl rfl) ?_
    exact fin_below fun _ => rfl
  by_cases e2 : h1 = h2
  · by_cases e3 : l1.toNat < l2.toNat
    · rw [if_pos (.inr ⟨e2, e3⟩)]
      refine calls_tri Try.func39 rfl Try.ntmps39 rfl ?_
      repeat (first | (show Walk1 _ _ _ (_ :: _) _ _; first | (show Walk1 _ _ _ (⟨_, _, _, _, _, some _⟩ :: _) _ _; refine zy1 ?_) | (show HW1 (.move _); refine wz1 ?_) | (show HW1 (.assign _); first | refine wz13 ?_ | refine wz2 ?_) | (show HW1 (.binOp .lss _ _ _ _); first | refine wz5 ?_ | refine wz52 ?_) | (show HW1 (.binOp .eql _ _ _ _); first | refine wz30 ?_ | refine wz47 ?_) | (show HW1 (.pick _ _ _); refine wz8 ?_) | (show HW1 (.load _ _); first | refine wz3 ?_ | refine wz9 ?_) | (show HW1 (.box _ _); refine wz11 ?_) | (show HW1 (.fieldAddr _ _ _); refine wz4 ?_)) | refine go1 ?_ | refine end_block_other rfl ?_ | refine end_scope (fun _ h => by cases h) ?_ | (refine walk_endD ?_ ?_; (· kernel_rfl)) | refine tri_yesA rfl ?_ | refine tri_noA rfl ?_ | refine tri_trueA rfl ?_ | refine tri_falseA rfl ?_)
      refine end_ret (.c (.int .i64 (-1))) (res_tmp rfl rfl) ?_
      exact fin_below fun _ => rfl
    · rw [if_neg (by omega)]
      refine calls_tri Try.func39 rfl Try.ntmps39 rfl ?_
      repeat (first | (show Walk1 _ _ _ (_ :: _) _ _; first | (show Walk1 _ _ _ (⟨_, _, _, _, _, some _⟩ :: _) _ _; refine zy1 ?_) | (show HW1 (.move _); refine wz1 ?_) | (show HW1 (.assign _); first | refine wz13 ?_ | refine wz2 ?_) | (show HW1 (.binOp .lss _ _ _ _); first | refine wz5 ?_ | refine wz52 ?_) | (show HW1 (.binOp .eql _ _ _ _); first | refine wz30 ?_ | refine wz47 ?_) | (show HW1 (.pick _ _ _); refine wz8 ?_) | (show HW1 (.load _ _); first | refine wz3 ?_ | refine wz9 ?_) | (show HW1 (.box _ _); refine wz11 ?_) | (show HW1 (.fieldAddr _ _ _); refine wz4 ?_)) | refine go1 ?_ | refine end_block_other rfl ?_ | refine end_scope (fun _ h => by cases h) ?_ | (refine walk_endD ?_ ?_; (· kernel_rfl)) | refine tri_yesA rfl ?_ | refine tri_noA rfl ?_ | refine tri_trueA rfl ?_ | refine tri_falseA rfl ?_)
      refine end_ret (.c (.int .i64 1)) (res_tmp rfl rfl) ?_
      exact fin_below fun _ => rfl
  · rw [if_neg (by omega)]
    refine calls_tri Try.func39 rfl Try.ntmps39 rfl ?_
    repeat (first | (show Walk1 _ _ _ (_ :: _) _ _; first | (show Walk1 _ _ _ (⟨_, _, _, _, _, some _⟩ :: _) _ _; refine zn1 ?_) | (show HW1 (.move _); refine wz1 ?_) | (show HW1 (.assign _); first | refine wz13 ?_ | refine wz2 ?_) | (show HW1 (.binOp .lss _ _ _ _); refine wz5 ?_) | (show HW1 (.binOp .eql _ _ _ _); first | refine wz30 ?_ | refine wz47 ?_) | (show HW1 (.pick _ _ _); refine wz7 ?_) | (show HW1 (.load _ _); first | refine wz3 ?_ | refine wz9 ?_) | (show HW1 (.box _ _); refine wz11 ?_) | (show HW1 (.fieldAddr _ _ _); refine wz4 ?_)) | refine go1 ?_ | refine end_block_other rfl ?_ | refine end_scope (fun _ h => by cases h) ?_ | (refine walk_endD ?_ ?_; (· kernel_rfl)) | refine tri_yesA rfl ?_ | refine tri_noA rfl ?_ | refine tri_trueA rfl ?_ | refine tri_falseA rfl ?_)
    refine end_ret (.c (.int .i64 1)) (res_tmp rfl rfl) ?_
    exact fin_below fun _ => rfl
end Go.Proofs.Ytcookaiakfbdiaa
