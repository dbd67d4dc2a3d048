/- A sweep: what it looks at: walked. No condition. Which meeting comes first: the program's and the document's: walked. No condition. A sweep: the nearest one, any one: walked. No condition. -/
import Derived.Test.YtmpnkknocfaciaaSwp3
import Derived.Test.YtmpnkknocfaciaaSymSX
import Derived.Test.YtmpnkknocfaciaaSwpPE
namespace Go.Proofs.Ytmpnkknocfaciaa
open Go.RowKit
set_option maxRecDepth 100000
set_option maxHeartbeats 2000000
theorem op_loadsQ {C : Ctx} {ops : Array Oper} {S : St} {o : Oper} {ty : TypeId} {x : Operand} {n off len sz m : Nat} {T0 : TypeId} {xs B : List Value} {d : TypeDesc} (ho : o.op = .load ty x) (hg : o.guard = none) (hd : dstB o.dst C.nt = true) (hx : S.ev x = some (.vp n off)) (hr : S.res n = some (.own n T0 sz len xs)) (hu' : tabLook undT ty = some d) (hda : d.isRow = true) (hi' : tabLook sizT ty = some m) (hm : 0 < m) (hb : off + m ≤ xs.length) (hB : (xs.drop off).take m = B) :
    OpG C Try.prog ops o S ⟨opT x, [n], dw o.dst (.c (.agg B.toArray)), [], []⟩ :=
  op_loadsV ho hg hd hx hr hu' hda hi' hm hb (by rw [hB])
/-- A triangle. -/
structure TriS where
  p0 : P3
  p1 : P3
  p2 : P3
  rest : List Value
  mask : BitVec 8
def TriS.ok (t : TriS) : Prop := t.rest.length = 9 ∧ ∀ u ∈ t.rest, u.oneCell' = true
def triC (t : TriS) : List Value := (P9 t.p0 t.p1 t.p2).toList ++ (t.rest ++ [.int .u8 (bvi t.mask)])
def trisC (l : List TriS) : List Value := l.flatMap triC
theorem triC_length (t : TriS) (h : t.ok) : (triC t).length = 19 := by
  rw [triC, List.length_append, List.length_append, h.1]; rfl
theorem tris_len (l : List TriS) (h : ∀ t ∈ l, t.ok) : (trisC l).length = l.length * 19 := flat_length l fun t ht => triC_length t (h t ht)
theorem tris_P (l : List TriS) (h : ∀ t ∈ l, t.ok) (k : Nat) (t : TriS) (ht : l[k]? = some t) : ((trisC l).drop (k * 19)).take 9 = (P9 t.p0 t.p1 t.p2).toList := by
  have hr := flat_row l (fun t ht => triC_length t (h t ht)) k t ht
  have : ((trisC l).drop (k * 19)).take 9 = (((l.flatMap triC).drop (k * 19)).take 19).take 9 := by rw [List.take_take]; rfl
  rw [this, hr, triC, List.take_append_of_le_length (by show 9 ≤ 9; omega), List.take_of_length_le (by show 9 ≤ 9; omega)]
theorem tris_mask (l : List TriS) (h : ∀ t ∈ l, t.ok) (k : Nat) (t : TriS) (ht : l[k]? = some t) : (trisC l)[k * 19 + 18]? = some (.int .u8 (bvi t.mask)) := by
  have hg := flat_get l (fun t ht => triC_length t (h t ht)) k 18 t ht (by omega)
  have ho := (h t (List.mem_of_getElem? ht)).1
  rw [show trisC l = l.flatMap triC from rfl, hg, triC, List.getElem?_append_right (by show 9 ≤ 18; omega)]
  show (t.rest ++ _)[18 - 9]? = _
  rw [List.getElem?_append_right (by omega), ho]
  rfl
attribute [local irreducible] Calls Walk1 WalkTo Tri EndA
end Go.Proofs.Ytmpnkknocfaciaa
namespace Go.Proofs.Ytmpnkknocfaciaa
open Go.RowKit
set_option maxRecDepth 100000
set_option maxHeartbeats 2000000
def lessM (a b : M4) : Bool := decide (0 < a.det) && (decide (0 < b.det) && decide (a.num * b.det < b.num * a.det))
theorem prod_nat {p q : Nat} (hp : p < 9223372036854775808) (hq : q < 9223372036854775808) : (BitVec.ofNat 64 p * BitVec.ofNat 64 q).toNat + 18446744073709551616 * (mulHi (BitVec.ofNat 64 p) (BitVec.ofNat 64 q)).toNat = p * q := by
  rw [mul_nat, ofNat_small hp, ofNat_small hq]
theorem cmpZ_lt {h1 h2 A B : Nat} {l1 l2 : BitVec 64} (e1 : l1.toNat + 18446744073709551616 * h1 = A) (e2 : l2.toNat + 18446744073709551616 * h2 = B) : decide (cmpZ h1 l1 h2 l2 < 0) = decide (A < B) := by
  have hl := lex_lt e1 e2 l1.isLt l2.isLt
  rw [Bool.eq_iff_iff, decide_eq_true_eq, decide_eq_true_eq, ← hl]
  unfold cmpZ
  split
  · rename_i h
    rw [h.1, h.2]
    simp
  · split
    · rename_i h
      simp [h]
    · rename_i h
      simp [h]
attribute [local irreducible] Calls Walk1 WalkTo Tri EndA
theorem lessT_any (a b : M4) (w : World) (h : a.det < 1 ∨ b.det < 1 ∨ (0 ≤ a.num ∧ 0 ≤ b.num)) (ha : a.num < 9223372036854775808) (hb : b.num < 9223372036854775808) (ha2 : a.det < 9223372036854775808) (hb2 : b.det < 9223372036854775808) :
    Calls Try.prog 30 #[.agg a.c, .agg b.c] w fun e w' => e = .returned (.bool (lessM a b)) ∧ Below w.heap.size w w' := by
  obtain ⟨n, det, u, v⟩ := a
  obtain ⟨n', det', u', v'⟩ := b
  simp only [M4.c, lessM] at *
  by_cases h1 : det < 1
  · rw [decide_eq_false (show ¬ 0 < det by omega), Bool.false_and]
    refine calls_tri Try.func30 rfl Try.ntmps30 rfl ?_
    repeat (first | (show Walk1 _ _ _ (_ :: _) _ _; first | (show Walk1 _ _ _ (⟨_, _, _, _, _, some _⟩ :: _) _ _; refine walk1_no rfl rfl (by first | exact decide_eq_true (by omega) | exact decide_eq_false (by omega) | rfl | (show _ = true; with_reducible assumption) | (show _ = false; with_reducible assumption) | (simp <;> fail) | omega) rfl ?_) | (show Walk1 _ _ _ (⟨_, .move _, _, _, _, _⟩ :: _) _ _; refine walk1_t (op_move rfl rfl rfl rfl) ?_) | (show Walk1 _ _ _ (⟨_, .assign _, _, _, _, _⟩ :: _) _ _; refine walk1_t (op_assign rfl rfl rfl rfl) ?_) | (show Walk1 _ _ _ (⟨_, .binOp .lss _ _ _ _, _, _, _, _⟩ :: _) _ _; refine walk1_t (op_ltI rfl rfl rfl rfl rfl) ?_) | (show Walk1 _ _ _ (⟨_, .pick _ _ _, _, _, _, _⟩ :: _) _ _; refine walk1_t (op_pickY rfl rfl rfl rfl (by first | exact decide_eq_true (by omega) | exact decide_eq_false (by omega) | rfl | (show _ = true; with_reducible assumption) | (show _ = false; with_reducible assumption) | (simp <;> fail) | omega) rfl) ?_) | (show Walk1 _ _ _ (⟨_, .load _ _, _, _, _, _⟩ :: _) _ _; refine walk1_t (op_load rfl rfl rfl rfl rfl rfl rfl) ?_) | (show Walk1 _ _ _ (⟨_, .box _ _, _, _, _, _⟩ :: _) _ _; refine walk1_n (op_box rfl rfl rfl rfl rfl) (by kernel_rfl) ?_) | (show Walk1 _ _ _ (⟨_, .fieldAddr _ _ _, _, _, _, _⟩ :: _) _ _; refine walk1_t (op_fldT rfl rfl rfl rfl rfl rfl off_zero) ?_)) | refine go1 ?_ | refine end_block_other rfl ?_ | refine end_scope (fun _ h => by cases h) ?_ | (refine walk_endD ?_ ?_; (· kernel_rfl)) | refine tri_yesA rfl ?_ | refine tri_noA rfl ?_ | refine tri_trueA rfl ?_ | refine tri_falseA rfl ?_)
    refine end_ret (.c (.bool false)) (res_tmp rfl rfl) ?_
    exact fin_below fun _ => rfl
  by_cases h2 : det' < 1
  · rw [decide_eq_false (show ¬ 0 < det' by omega), Bool.false_and, Bool.and_false]
    refine calls_tri Try.func30 rfl Try.ntmps30 rfl ?_
    repeat (first | (show Walk1 _ _ _ (_ :: _) _ _; first | (show Walk1 _ _ _ (⟨_, _, _, _, _, some _⟩ :: _) _ _; refine walk1_yes rfl rfl (by first | exact decide_eq_true (by omega) | exact decide_eq_false (by omega) | rfl | (show _ = true; with_reducible assumption) | (show _ = false; with_reducible assumption) | (simp <;> fail) | omega) ?_) | (show Walk1 _ _ _ (⟨_, .move _, _, _, _, _⟩ :: _) _ _; refine walk1_t (op_move rfl rfl rfl rfl) ?_) | (show Walk1 _ _ _ (⟨_, .assign _, _, _, _, _⟩ :: _) _ _; refine walk1_t (op_assign rfl rfl rfl rfl) ?_) | (show Walk1 _ _ _ (⟨_, .binOp .lss _ _ _ _, _, _, _, _⟩ :: _) _ _; refine walk1_t (op_ltI rfl rfl rfl rfl rfl) ?_) | (show Walk1 _ _ _ (⟨_, .pick _ _ _, _, _, _, _⟩ :: _) _ _; refine walk1_t (op_pickN rfl rfl rfl rfl (by first | exact decide_eq_true (by omega) | exact decide_eq_false (by omega) | rfl | (show _ = true; with_reducible assumption) | (show _ = false; with_reducible assumption) | (simp <;> fail) | omega) rfl) ?_) | (show Walk1 _ _ _ (⟨_, .load _ _, _, _, _, _⟩ :: _) _ _; refine walk1_t (op_load rfl rfl rfl rfl rfl rfl rfl) ?_) | (show Walk1 _ _ _ (⟨_, .box _ _, _, _, _, _⟩ :: _) _ _; refine walk1_n (op_box rfl rfl rfl rfl rfl) (by kernel_rfl) ?_) | (show Walk1 _ _ _ (⟨_, .fieldAddr _ _ _, _, _, _, _⟩ :: _) _ _; refine walk1_t (op_fldT rfl rfl rfl rfl rfl rfl off_zero) ?_)) | refine go1 ?_ | refine end_block_other rfl ?_ | refine end_scope (fun _ h => by cases h) ?_ | (refine walk_endD ?_ ?_; (· kernel_rfl)) | refine tri_yesA rfl ?_ | refine tri_noA rfl ?_ | refine tri_trueA rfl ?_ | refine tri_falseA rfl ?_)
    refine end_ret (.c (.bool false)) (res_tmp rfl rfl) ?_
    exact fin_below fun _ => rfl
  rw [decide_eq_true (show 0 < det by omega), decide_eq_true (show 0 < det' by omega), Bool.true_and, Bool.true_and]
  obtain ⟨p, rfl⟩ := Int.eq_ofNat_of_zero_le (show 0 ≤ n by omega)
  obtain ⟨q, rfl⟩ := Int.eq_ofNat_of_zero_le (show 0 ≤ det by omega)
  obtain ⟨p', rfl⟩ := Int.eq_ofNat_of_zero_le (show 0 ≤ n' by omega)
  obtain ⟨q', rfl⟩ := Int.eq_ofNat_of_zero_le (show 0 ≤ det' by omega)
  have c1 := fun w => mulW_any p q' (by omega) (by omega) w
  have c2 := fun w => mulW_any p' q (by omega) (by omega) w
  have e1 := prod_nat (p := p) (q := q') (by omega) (by omega)
  have e2 := prod_nat (p := p') (q := q) (by omega) (by omega)
  generalize BitVec.ofNat 64 p * BitVec.ofNat 64 q' = L1 at *
  generalize BitVec.ofNat 64 p' * BitVec.ofNat 64 q = L2 at *
  generalize (mulHi (BitVec.ofNat 64 p) (BitVec.ofNat 64 q')).toNat = H1 at *
  generalize (mulHi (BitVec.ofNat 64 p') (BitVec.ofNat 64 q)).toNat = H2 at *
  have c3 := fun w => cmpW_any H1 L1 H2 L2 w
  have hr : decide ((p : Int) * (q' : Int) < (p' : Int) * (q : Int)) = decide (cmpZ H1 L1 H2 L2 < 0) := by
    rw [cmpZ_lt e1 e2, Bool.eq_iff_iff, decide_eq_true_eq, decide_eq_true_eq, ← Int.natCast_mul, ← Int.natCast_mul, Int.ofNat_lt]
  rw [hr]
  clear e1 e2 hr
  generalize cmpZ H1 L1 H2 L2 = Z at *
  generalize wideC H1 L1 = W1 at *
  generalize wideC H2 L2 = W2 at *
  refine calls_tri Try.func30 rfl Try.ntmps30 rfl ?_
  repeat (first | (show Walk1 _ _ _ (_ :: _) _ _; first | (show Walk1 _ _ _ (⟨_, _, _, _, _, some _⟩ :: _) _ _; refine walk1_yes rfl rfl (by first | exact decide_eq_true (by omega) | exact decide_eq_false (by omega) | rfl | (show _ = true; with_reducible assumption) | (show _ = false; with_reducible assumption) | (simp <;> fail) | omega) ?_) | (show Walk1 _ _ _ (⟨_, .move _, _, _, _, _⟩ :: _) _ _; refine walk1_t (op_move rfl rfl rfl rfl) ?_) | (show Walk1 _ _ _ (⟨_, .assign _, _, _, _, _⟩ :: _) _ _; refine walk1_t (op_assign rfl rfl rfl rfl) ?_) | (show Walk1 _ _ _ (⟨_, .binOp .lss _ _ _ _, _, _, _, _⟩ :: _) _ _; refine walk1_t (op_ltN rfl rfl rfl (by first | exact evN_const rfl | exact rfl) (by first | exact evN_const rfl | exact rfl)) ?_) | (show Walk1 _ _ _ (⟨_, .pick _ _ _, _, _, _, _⟩ :: _) _ _; refine walk1_t (op_pickN rfl rfl rfl rfl (by first | exact decide_eq_true (by omega) | exact decide_eq_false (by omega) | rfl | (show _ = true; with_reducible assumption) | (show _ = false; with_reducible assumption) | (simp <;> fail) | omega) rfl) ?_) | (show Walk1 _ _ _ (⟨_, .load _ _, _, _, _, _⟩ :: _) _ _; refine walk1_t (op_load rfl rfl rfl rfl rfl rfl rfl) ?_) | (show Walk1 _ _ _ (⟨_, .box _ _, _, _, _, _⟩ :: _) _ _; refine walk1_n (op_box rfl rfl rfl rfl rfl) (by kernel_rfl) ?_) | (show Walk1 _ _ _ (⟨_, .fieldAddr _ _ _, _, _, _, _⟩ :: _) _ _; refine walk1_t (op_fldT rfl rfl rfl rfl rfl rfl off_zero) ?_)) | (show WalkTo _ _ _ _ (_ :: _) _ _ _; first | (show WalkTo _ _ _ _ (⟨_, .assign _, _, _, _, _⟩ :: _) _ _ _; refine walk_t (op_assign rfl rfl rfl rfl) ?_) | (show WalkTo _ _ _ _ (⟨_, .binOp .lss _ _ _ _, _, _, _, _⟩ :: _) _ _ _; refine walk_t (op_ltI rfl rfl rfl rfl rfl) ?_) | (show WalkTo _ _ _ _ (⟨_, .load _ _, _, _, _, _⟩ :: _) _ _ _; refine walk_t (op_load rfl rfl rfl rfl rfl rfl rfl) ?_) | (show WalkTo _ _ _ _ (⟨_, .fieldAddr _ _ _, _, _, _, _⟩ :: _) _ _ _; refine walk_t (op_fldT rfl rfl rfl rfl rfl rfl off_zero) ?_) | (show WalkTo _ _ _ _ (⟨_, .call ⟨.value (.func 65), _, _⟩, _, _, _, _⟩ :: _) _ _ _; ((first | refine walk_call rfl rfl rfl rfl (by repeat (first | exact evs_nil | apply evs_cons rfl)) rfl ?_ | refine walk_call0 rfl rfl rfl (by repeat (first | exact evs_nil | apply evs_cons rfl)) rfl ?_); refine ⟨_, fun e w => c1 w, ?_⟩)) | (show WalkTo _ _ _ _ (⟨_, .call ⟨.value (.func 65), _, _⟩, _, _, _, _⟩ :: _) _ _ _; ((first | refine walk_call rfl rfl rfl rfl (by repeat (first | exact evs_nil | apply evs_cons rfl)) rfl ?_ | refine walk_call0 rfl rfl rfl (by repeat (first | exact evs_nil | apply evs_cons rfl)) rfl ?_); refine ⟨_, fun e w => c2 w, ?_⟩)) | (show WalkTo _ _ _ _ (⟨_, .call ⟨.value (.func 64), _, _⟩, _, _, _, _⟩ :: _) _ _ _; ((first | refine walk_call rfl rfl rfl rfl (by repeat (first | exact evs_nil | apply evs_cons rfl)) rfl ?_ | refine walk_call0 rfl rfl rfl (by repeat (first | exact evs_nil | apply evs_cons rfl)) rfl ?_); refine ⟨_, fun e w => c3 w, ?_⟩))) | refine go1 ?_ | refine end_block_other rfl ?_ | refine end_scope (fun _ h => by cases h) ?_ | (refine walk_endD ?_ ?_; (· kernel_rfl)) | refine tri_yesA rfl ?_ | refine tri_noA rfl ?_ | refine tri_trueA rfl ?_ | refine tri_falseA rfl ?_)
  refine end_ret (.c (.bool (decide (Z < 0)))) (res_tmp rfl rfl) ?_
  exact fin_below fun _ => rfl
end Go.Proofs.Ytmpnkknocfaciaa
namespace Go.Proofs.Ytmpnkknocfaciaa
open Go.RowKit
set_option maxRecDepth 100000
set_option maxHeartbeats 2000000
theorem wrap_lt (z : Int) : IntKind.i64.wrap z < 9223372036854775808 := by rw [IntKind.wrap_i64]; omega
/-- What a meeting's numbers are. -/
def okM (m : M4) : Prop := 0 ≤ m.num ∧ m.num < 9223372036854775808 ∧ m.det < 9223372036854775808
theorem okM_zero : okM zM := ⟨by decide, by decide, by decide⟩
theorem okM_hit (o d p0 p1 p2 : P3) : okM (hitM o d p0 p1 p2).1 := by
  unfold hitM
  split
  · unfold endM
    split
    · exact okM_zero
    · rename_i hb
      have hn : 0 ≤ (turnM (rawM o d p0 p1 p2)).num := by
        have : ¬ (turnM (rawM o d p0 p1 p2)).num ≤ 0 := fun h => hb (.inr (.inr (.inr (.inr h))))
        omega
      refine ⟨hn, ?_, ?_⟩
      · show (turnM (rawM o d p0 p1 p2)).num < _
        unfold turnM
        split
        · exact wrap_lt _
        · exact wrap_lt _
      · show (turnM (rawM o d p0 p1 p2)).det < _
        unfold turnM
        split
        · exact wrap_lt _
        · exact wrap_lt _
  · exact okM_zero
theorem less_any (a b : M4) (ha : okM a) (hb : okM b) (w : World) : Calls Try.prog 30 #[.agg a.c, .agg b.c] w fun e w' => e = .returned (.bool (lessM a b)) ∧ Below w.heap.size w w' :=
  lessT_any a b w (.inr (.inr ⟨ha.1, hb.1⟩)) ha.2.1 hb.2.1 ha.2.2 hb.2.2
/-- Handed back: a value, and a row of cells. -/
theorem res_tmpC {C : Ctx} {S : St} {fn : Func} {t1 t2 : Tmp} {ty1 : TypeId} {n1 m1 : Nat} {T1 : TypeId} {A1 : Array Value} {u : Value} {wr1 : Bool} {d1 : TypeDesc} (h : fn.results = #[.tmp t2, .cell t1 ty1]) (hv1 : S.tmp t1 = some (.p n1 0)) (hr1 : S.res n1 = some (.blk n1 T1 (.c A1) wr1)) (hv2 : S.tmp t2 = some (.c u))
    (hu1 : tabLook undT ty1 = some d1) (hda1 : d1.isRow = true) (hi1 : tabLook sizT ty1 = some m1) (hm1 : A1.size = m1) :
    ∀ e a w, Holds C S e a w → (results fn a.tmps).run Try.prog w = .ok ((SV.c (.tuple #[u, .agg A1])).den e) w := fun e a w hS => by
  have hu1 := tabAll_look undT_ok hu1
  have hi1 := tabAll_look sizT_ok hi1
  obtain ⟨fr1, hb1, _⟩ := res_blk hS hr1
  have hp1 : a.tmps.getD t1 undef = .pointer (some ⟨(e n1).b, 0, none⟩) := getD_of (hS.tmp t1 _ hv1)
  have hp2 : a.tmps.getD t2 undef = u := getD_of (hS.tmp t2 _ hv2)
  have hp1' : a.tmps[t1]?.getD undef = .pointer (some ⟨(e n1).b, 0, none⟩) := by simpa using hp1
  have hp2' : a.tmps[t2]?.getD undef = u := by simpa using hp2
  have k1 := run_loadVar_row (P := Try.prog) w (e n1).b T1 ty1 A1 fr1 d1 hb1 hu1 (by cases d1 <;> simp_all) (by rw [hi1, hm1])
  simp [results, h, hp1', hp2', asAddr, k1]
  rfl
attribute [local irreducible] Calls Walk1 WalkTo Tri EndA
end Go.Proofs.Ytmpnkknocfaciaa
