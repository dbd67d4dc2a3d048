/- Which meeting comes first: the program's and the document's: walked. No condition. A sweep: the nearest one, any one: walked. No condition. A sweep: any one: walked. No condition. -/
import Derived.Test.YtcookaiakfbdiaaMgSymAC
import Derived.Test.YtcookaiakfbdiaaMgSwp3
namespace Go.Proofs.Ytcookaiakfbdiaa
open Go.RowKit
set_option maxRecDepth 100000
set_option maxHeartbeats 2000000
def lessM (a b : M4) : Bool := decide (0 < a.det) && (decide (0 < b.det) && decide (a.num * b.det < b.num * a.det))
theorem prod_nat {p q : Nat} (hp : p < 9223372036854775808) (hq : q < 9223372036854775808) : (BitVec.ofNat 64 p * BitVec.ofNat 64 q).toNat + 18446744073709551616 * (mulHi (BitVec.ofNat 64 p) (BitVec.ofNat 64 q)).toNat = p * q := by
  rw [mul_nat, ofNat_small hp, ofNat_small hq]
theorem cmpZ_lt {h1 h2 A B : Nat} {l1 l2 : BitVec 64} (e1 : l1.toNat + 18446744073709551616 * h1 = A) (e2 : l2.toNat + 18446744073709551616 * h2 = B) : decide (cmpZ h1 l1 h2 l2 < 0) = decide (A < B) := by
  have hl := lex_lt e1 e2 l1.isLt l2.isLt
  rw [Bool.eq_iff_iff, decide_eq_true_eq, decide_eq_true_eq, ← hl]
  unfold cmpZ
  split
  · rename_i h
    rw [h.1, h.2]
    simp
  · split
    · rename_i h
      simp [h]
    · rename_i h
      simp [h]
attribute [local irreducible] Calls Walk1 WalkTo Tri EndA
theorem lessT_any (a b : M4) (w : World) (h : a.det < 1 ∨ b.det < 1 ∨ (0 ≤ a.num ∧ 0 ≤ b.num)) (ha : a.num < 9223372036854775808) (hb : b.num < 9223372036854775808) (ha2 : a.det < 9223372036854775808) (hb2 : b.det < 9223372036854775808) :
    Calls Try.prog 16 #[.agg a.c, .agg b.c] w fun e w' => e = .returned (.bool (lessM a b)) ∧ Below w.heap.size w w' := by
  obtain ⟨n, det, u, v⟩ := a
  obtain ⟨n', det', u', v'⟩ := b
  simp only [M4.c, lessM] at *
  by_cases h1 : det < 1
  · rw [decide_eq_false (show ¬ 0 < det by omega), Bool.false_and]
    refine calls_tri Try.func16 rfl Try.ntmps16 rfl ?_
    repeat (first | (show Walk1 _ _ _ (_ :: _) _ _; first | (show Walk1 _ _ _ (⟨_, _, _, _, _, some _⟩ :: _) _ _; refine zn1 ?_) | (show HW1 (.move _); refine wz1 ?_) | (show HW1 (.assign _); refine wz2 ?_) | (show HW1 (.binOp .lss _ _ _ _); refine wz12 ?_) | (show HW1 (.pick _ _ _); refine wz8 ?_) | (show HW1 (.load _ _); refine wz3 ?_) | (show HW1 (.box _ _); refine wz11 ?_) | (show HW1 (.fieldAddr _ _ _); refine wz4 ?_)) | refine go1 ?_ | refine end_block_other rfl ?_ | refine end_scope (fun _ h => by cases h) ?_ | (refine walk_endD ?_ ?_; (· kernel_rfl)) | refine tri_yesA rfl ?_ | refine tri_noA rfl ?_ | refine tri_trueA rfl ?_ | refine tri_falseA rfl ?_)
    refine end_ret (.c (.bool false)) (res_tmp rfl rfl) ?_
    exact fin_below fun _ => rfl
  by_cases h2 : det' < 1
  · rw [decide_eq_false (show ¬ 0 < det' by omega), Bool.false_and, Bool.and_false]
    refine calls_tri Try.func16 rfl Try.ntmps16 rfl ?_
    repeat (first | (show Walk1 _ _ _ (_ :: _) _ _; first | (show Walk1 _ _ _ (⟨_, _, _, _, _, some _⟩ :: _) _ _; refine zy1 ?_) | (show HW1 (.move _); refine wz1 ?_) | (show HW1 (.assign _); refine wz2 ?_) | (show HW1 (.binOp .lss _ _ _ _); refine wz12 ?_) | (show HW1 (.pick _ _ _); refine wz7 ?_) | (show HW1 (.load _ _); refine wz3 ?_) | (show HW1 (.box _ _); refine wz11 ?_) | (show HW1 (.fieldAddr _ _ _); refine wz4 ?_)) | refine go1 ?_ | refine end_block_other rfl ?_ | refine end_scope (fun _ h => by cases h) ?_ | (refine walk_endD ?_ ?_; (· kernel_rfl)) | refine tri_yesA rfl ?_ | refine tri_noA rfl ?_ | refine tri_trueA rfl ?_ | refine tri_falseA rfl ?_)
    refine end_ret (.c (.bool false)) (res_tmp rfl rfl) ?_
    exact fin_below fun _ => rfl
  rw [decide_eq_true (show 0 < det by omega), decide_eq_true (show 0 < det' by omega), Bool.true_and, Bool.true_and]
  obtain ⟨p, rfl⟩ := Int.eq_ofNat_of_zero_le (show 0 ≤ n by omega)
  obtain ⟨q, rfl⟩ := Int.eq_ofNat_of_zero_le (show 0 ≤ det by omega)
  obtain ⟨p', rfl⟩ := Int.eq_ofNat_of_zero_le (show 0 ≤ n' by omega)
  obtain ⟨q', rfl⟩ := Int.eq_ofNat_of_zero_le (show 0 ≤ det' by omega)
  have c1 := fun w => mulW_any p q' (by omega) (by omega) w
  have c2 := fun w => mulW_any p' q (by omega) (by omega) w
  have e1 := prod_nat (p := p) (q := q') (by omega) (by omega)
  have e2 := prod_nat (p := p') (q := q) (by omega) (by omega)
  generalize BitVec.ofNat 64 p * BitVec.ofNat 64 q' = L1 at *
  generalize BitVec.ofNat 64 p' * BitVec.ofNat 64 q = L2 at *
  generalize (mulHi (BitVec.ofNat 64 p) (BitVec.ofNat 64 q')).toNat = H1 at *
  generalize (mulHi (BitVec.ofNat 64 p') (BitVec.ofNat 64 q)).toNat = H2 at *
  have c3 := fun w => cmpW_any H1 L1 H2 L2 w
  have hr : decide ((p : Int) * (q' : Int) < (p' : Int) * (q : Int)) = decide (cmpZ H1 L1 H2 L2 < 0) := by
    rw [cmpZ_lt e1 e2, Bool.eq_iff_iff, decide_eq_true_eq, decide_eq_true_eq, ← Int.natCast_mul, ← Int.natCast_mul, Int.ofNat_lt]
  rw [hr]
  clear e1 e2 hr
  generalize cmpZ H1 L1 H2 L2 = Z at *
  generalize wideC H1 L1 = W1 at *
  generalize wideC H2 L2 = W2 at *
  refine calls_tri Try.func16 rfl Try.ntmps16 rfl ?_
  repeat (first | (show Walk1 _ _ _ (_ :: _) _ _; first | (show Walk1 _ _ _ (⟨_, _, _, _, _, some _⟩ :: _) _ _; refine zy1 ?_) | (show HW1 (.move _); refine wz1 ?_) | (show HW1 (.assign _); refine wz2 ?_) | (show HW1 (.binOp .lss _ _ _ _); refine wz5 ?_) | (show HW1 (.pick _ _ _); refine wz7 ?_) | (show HW1 (.load _ _); refine wz3 ?_) | (show HW1 (.box _ _); refine wz11 ?_) | (show HW1 (.fieldAddr _ _ _); refine wz4 ?_)) | (show WalkTo _ _ _ _ (_ :: _) _ _ _; first | (show HW2 (.assign _); refine wz17 ?_) | (show HW2 (.binOp .lss _ _ _ _); refine wz56 ?_) | (show HW2 (.load _ _); refine wz24 ?_) | (show HW2 (.fieldAddr _ _ _); refine wz49 ?_) | (show HW2 (.call ⟨.value (.func 40), _, _⟩); ((first | refine cwalk1 40 ?_ | refine cwalk0 40 ?_); refine ⟨_, fun e w => c1 w, ?_⟩)) | (show HW2 (.call ⟨.value (.func 40), _, _⟩); ((first | refine cwalk1 40 ?_ | refine cwalk0 40 ?_); refine ⟨_, fun e w => c2 w, ?_⟩)) | (show HW2 (.call ⟨.value (.func 39), _, _⟩); ((first | refine cwalk1 39 ?_ | refine cwalk0 39 ?_); refine ⟨_, fun e w => c3 w, ?_⟩))) | refine go1 ?_ | refine end_block_other rfl ?_ | refine end_scope (fun _ h => by cases h) ?_ | (refine walk_endD ?_ ?_; (· kernel_rfl)) | refine tri_yesA rfl ?_ | refine tri_noA rfl ?_ | refine tri_trueA rfl ?_ | refine tri_falseA rfl ?_)
  refine end_ret (.c (.bool (decide (Z < 0)))) (res_tmp rfl rfl) ?_
  exact fin_below fun _ => rfl
end Go.Proofs.Ytcookaiakfbdiaa
namespace Go.Proofs.Ytcookaiakfbdiaa
open Go.RowKit
set_option maxRecDepth 100000
set_option maxHeartbeats 2000000
theorem wrap_lt (z : Int) : IntKind.i64.wrap z < 9223372036854775808 := by rw [IntKind.wrap_i64]; omega
/-- What a meeting's numbers are. -/
def okM (m : M4) : Prop := 0 ≤ m.num ∧ m.num < 9223372036854775808 ∧ m.det < 9223372036854775808
theorem okM_zero : okM zM := ⟨by decide, by decide, by decide⟩
theorem okM_hit (o d p0 p1 p2 : P3) : okM (hitM o d p0 p1 p2).1 := by
  unfold hitM
  split
  · unfold endM
    split
    · exact okM_zero
    · rename_i hb
      have hn : 0 ≤ (turnM (rawM o d p0 p1 p2)).num := by
        have : ¬ (turnM (rawM o d p0 p1 p2)).num ≤ 0 := fun h => hb (.inr (.inr (.inr (.inr h))))
        omega
      refine ⟨hn, ?_, ?_⟩
      · show (turnM (rawM o d p0 p1 p2)).num < _
        unfold turnM
        split
        · exact wrap_lt _
        · exact wrap_lt _
      · show (turnM (rawM o d p0 p1 p2)).det < _
        unfold turnM
        split
        · exact wrap_lt _
        · exact wrap_lt _
  · exact okM_zero
theorem less_any (a b : M4) (ha : okM a) (hb : okM b) (w : World) : Calls Try.prog 16 #[.agg a.c, .agg b.c] w fun e w' => e = .returned (.bool (lessM a b)) ∧ Below w.heap.size w w' :=
  lessT_any a b w (.inr (.inr ⟨ha.1, hb.1⟩)) ha.2.1 hb.2.1 ha.2.2 hb.2.2
def nearS (l : List TriS) (o d : P3) (mask : BitVec 8) (skip : Int) : Nat → Int × M4
  | 0 => (-1, zM)
  | j + 1 => match l[j]? with
    | some t => if ((meetM o d mask skip j t).2 && (decide ((nearS l o d mask skip j).1 < 0) || lessM (meetM o d mask skip j t).1 (nearS l o d mask skip j).2)) = true then ((j : Int), (meetM o d mask skip j t).1) else nearS l o d mask skip j
    | none => nearS l o d mask skip j
def anyS (l : List TriS) (o d : P3) (mask : BitVec 8) (skip : Int) (near : Bool) : Nat → Bool
  | 0 => false
  | j + 1 => match l[j]? with
    | some t => if ((meetM o d mask skip j t).2 && (!near || decide ((meetM o d mask skip j t).1.num < (meetM o d mask skip j t).1.det))) = true then true else anyS l o d mask skip near j
    | none => anyS l o d mask skip near j
/-- Handed back: a value, and a row of cells. -/
theorem res_tmpC {C : Ctx} {S : St} {fn : Func} {t1 t2 : Tmp} {ty1 : TypeId} {n1 m1 : Nat} {T1 : TypeId} {A1 : Array Value} {u : Value} {wr1 : Bool} {d1 : TypeDesc} (h : fn.results = #[.tmp t2, .cell t1 ty1]) (hv1 : S.tmp t1 = some (.p n1 0)) (hr1 : S.res n1 = some (.blk n1 T1 (.c A1) wr1)) (hv2 : S.tmp t2 = some (.c u))
    (hu1 : tabLook undT ty1 = some d1) (hda1 : d1.isRow = true) (hi1 : tabLook sizT ty1 = some m1) (hm1 : A1.size = m1) :
    ∀ e a w, Holds C S e a w → (results fn a.tmps).run Try.prog w = .ok ((SV.c (.tuple #[u, .agg A1])).den e) w := fun e a w hS => by
  have hu1 := tabAll_look undT_ok hu1
  have hi1 := tabAll_look sizT_ok hi1
  obtain ⟨fr1, hb1, _⟩ := res_blk hS hr1
  have hp1 : a.tmps.getD t1 undef = .pointer (some ⟨(e n1).b, 0, none⟩) := getD_of (hS.tmp t1 _ hv1)
  have hp2 : a.tmps.getD t2 undef = u := getD_of (hS.tmp t2 _ hv2)
  have hp1' : a.tmps[t1]?.getD undef = .pointer (some ⟨(e n1).b, 0, none⟩) := by simpa using hp1
  have hp2' : a.tmps[t2]?.getD undef = u := by simpa using hp2
  have k1 := run_loadVar_row (P := Try.prog) w (e n1).b T1 ty1 A1 fr1 d1 hb1 hu1 (by cases d1 <;> simp_all) (by rw [hi1, hm1])
  simp [results, h, hp1', hp2', asAddr, k1]
  rfl
attribute [local irreducible] Calls Walk1 WalkTo Tri EndA
end Go.Proofs.Ytcookaiakfbdiaa
namespace Go.Proofs.Ytcookaiakfbdiaa
open Go.RowKit
set_option maxRecDepth 100000
set_option maxHeartbeats 2000000
attribute [local irreducible] Calls Walk1 WalkTo Tri EndA
end Go.Proofs.Ytcookaiakfbdiaa
