/- Sums read byte by byte and at once: in plain. No condition. Whether a record may be, by the document: walked. No condition. -/
import Derived.Test.YtlhedoodbadmgaaRecE0
import Derived.Test.YtlhedoodbadmgaaRecP
namespace Go.Proofs.Ytlhedoodbadmgaa
open Go.RowKit
set_option maxRecDepth 100000
set_option maxHeartbeats 1000000
/-- What is left behind so many bytes that are read one by one. -/
def bseq : Nat → RdS → RdS
  | 0, a => a
  | n + 1, a => nextR 1 (bseq n a)
def byteR (i : Nat) (a : RdS) : BitVec 8 := (numR 1 (bseq i a)).setWidth 8
/-- Bytes put one by one into a row. -/
def putB (a : RdS) : Nat → List (BitVec 8) → List (BitVec 8)
  | 0, l => l
  | n + 1, l => (putB a n l).set n (byteR n a)
theorem putB_length (a : RdS) (n : Nat) (l : List (BitVec 8)) : (putB a n l).length = l.length := by
  induction n with
  | zero => rfl
  | succ n ih => unfold putB; rw [List.length_set, ih]
theorem bseq_err (a : RdS) (h : a.e ≠ 0) (n : Nat) : bseq n a = a := by
  induction n with
  | zero => rfl
  | succ n ih => unfold bseq; rw [ih]; unfold nextR; exact if_neg h
theorem bseq_ok (a : RdS) (h : a.e = 0) (n : Nat) (hn : n ≤ a.rest.length) : bseq n a = ⟨a.rest.drop n, 0⟩ := by
  induction n with
  | zero => cases a; simp only at h; subst h; rfl
  | succ n ih =>
    unfold bseq
    rw [ih (by omega)]
    unfold nextR
    have : 1 ≤ (a.rest.drop n).length := by rw [List.length_drop]; omega
    dsimp only
    rw [if_pos rfl, if_pos this, List.drop_drop]
theorem bseq_short (a : RdS) (h : a.e = 0) (n : Nat) (hn : a.rest.length < n) : (bseq n a).e = 4 := by
  induction n with
  | zero => omega
  | succ n ih =>
    unfold bseq
    by_cases hl : a.rest.length < n
    · have h1 := ih hl
      unfold nextR
      rw [if_neg (by rw [h1]; decide)]
      exact h1
    · obtain rfl : n = a.rest.length := by omega
      rw [bseq_ok a h _ (Nat.le_refl _)]
      unfold nextR
      dsimp only
      rw [if_pos rfl, if_neg (by rw [List.length_drop]; omega)]
theorem bseq_add (a : RdS) (m n : Nat) : bseq n (bseq m a) = bseq (m + n) a := by
  induction n with
  | zero => rfl
  | succ n ih => show nextR 1 (bseq n (bseq m a)) = nextR 1 (bseq (m + n) a); rw [ih]
theorem take32 (a : RdS) : nextR 32 a = if a.e = 0 then (if 32 ≤ a.rest.length then bseq 32 a else ⟨a.rest, 4⟩) else a := by
  unfold nextR
  by_cases h : a.e = 0
  · rw [if_pos h, if_pos h]
    by_cases hl : 32 ≤ a.rest.length
    · rw [if_pos hl, if_pos hl, bseq_ok a h 32 hl]
    · rw [if_neg hl, if_neg hl]
  · rw [if_neg h, if_neg h]
/-- Both ways end alike. -/
theorem end64 (a : RdS) (he : a.e = 0 ∨ a.e = 4) : endR (nextR 32 (nextR 32 a)) = endR (bseq 64 a) := by
  have e4 : ∀ b : RdS, b.e = 4 → endR b = 4 := fun b h => by unfold endR; rw [if_neg (by rw [h]; decide), h]
  have n4 : ∀ b : RdS, b.e = 4 → (nextR 32 b).e = 4 := fun b h => by unfold nextR; rw [if_neg (by rw [h]; decide)]; exact h
  rcases he with h | h
  · by_cases h1 : 32 ≤ a.rest.length
    · have e1 : nextR 32 a = ⟨a.rest.drop 32, 0⟩ := by rw [take32, if_pos h, if_pos h1, bseq_ok a h 32 h1]
      by_cases h2 : 64 ≤ a.rest.length
      · have e2 : nextR 32 (⟨a.rest.drop 32, 0⟩ : RdS) = ⟨a.rest.drop 64, 0⟩ := by
          unfold nextR
          dsimp only
          rw [if_pos rfl, if_pos (by rw [List.length_drop]; omega), List.drop_drop]
        rw [e1, e2, bseq_ok a h 64 h2]
      · have e2 : (nextR 32 (⟨a.rest.drop 32, 0⟩ : RdS)).e = 4 := by
          unfold nextR
          dsimp only
          rw [if_pos rfl, if_neg (by rw [List.length_drop]; omega)]
        rw [e1, e4 _ e2, e4 _ (bseq_short a h 64 (by omega))]
    · have e1 : (nextR 32 a).e = 4 := by rw [take32, if_pos h, if_neg h1]
      rw [e4 _ (n4 _ e1), e4 _ (bseq_short a h 64 (by omega))]
  · rw [e4 _ (n4 _ (n4 _ h)), bseq_err a (by rw [h]; decide), e4 _ h]
/-- Where nothing is missing, the bytes are the same. -/
theorem byteR_eq (a : RdS) (h : a.e = 0) (i : Nat) (hi : i < a.rest.length) : byteR i a = gt a.rest i := by
  unfold byteR
  rw [bseq_ok a h i (by omega)]
  unfold numR
  have hl : 1 ≤ (a.rest.drop i).length := by rw [List.length_drop]; omega
  rw [if_pos ⟨rfl, hl⟩]
  unfold rdV
  rw [List.drop_eq_getElem_cons hi, List.take_succ_cons, List.take_zero, gt_lt _ i hi]
  apply BitVec.eq_of_toNat_eq
  have h8 := (a.rest[i]).isLt
  simp only [leN, BitVec.toNat_setWidth, BitVec.toNat_ofNat]
  omega
theorem putB_take (a : RdS) (h : a.e = 0) (n : Nat) (l : List (BitVec 8)) (hn : n ≤ a.rest.length) (hl : n ≤ l.length) : putB a n l = a.rest.take n ++ l.drop n := by
  induction n with
  | zero => simp [putB]
  | succ n ih =>
    unfold putB
    rw [ih (by omega) (by omega), byteR_eq a h n (by omega)]
    have h1 : (a.rest.take n).length = n := by rw [List.length_take]; omega
    rw [List.set_append_right _ _ (by omega), h1, Nat.sub_self, List.drop_eq_getElem_cons (show n < l.length by omega), List.set_cons_zero, ← take_gtQ a.rest n (by omega)]
    simp
theorem putB_pad (a : RdS) (h : a.e = 0) (hl : 32 ≤ a.rest.length) : putB a 32 (List.replicate 32 0#8) = padZ (takeR 32 a) := by
  rw [putB_take a h 32 _ hl (by simp)]
  unfold padZ takeR
  rw [if_pos ⟨h, hl⟩]
  have h1 : (a.rest.take 32).length = 32 := by rw [List.length_take]; omega
  have h2 : (a.rest.take 32).take 32 = a.rest.take 32 := by rw [List.take_take, Nat.min_self]
  rw [h1, Nat.min_self, h2]
/-- What the document reads, byte by byte. -/
def recRD (a : RdS) : RecS := { recR a with scene := putB (b3R a) 32 (List.replicate 32 0#8), planes := putB (bseq 32 (b3R a)) 32 (List.replicate 32 0#8) }
attribute [local irreducible] putB
theorem recRD_ok (a : RdS) : (recRD a).ok := by
  refine ⟨?_, ?_⟩ <;> simp only [recRD, putB_length, List.length_replicate]
theorem nextR_e (k : Nat) (a : RdS) (h : a.e = 0 ∨ a.e = 4) : (nextR k a).e = 0 ∨ (nextR k a).e = 4 := by
  unfold nextR
  split
  · split
    · exact .inl rfl
    · exact .inr rfl
  · exact h
theorem aAt_e (i : Nat) (a : RdS) (h : a.e = 0 ∨ a.e = 4) : (aAt i a).e = 0 ∨ (aAt i a).e = 4 := by
  unfold aAt
  generalize ksL.take i = l
  induction l generalizing a with
  | nil => exact h
  | cons k l ih => exact ih _ (nextR_e k a h)
theorem loopR_e : ∀ (n : Nat) (a : RdS) (acc : List (BitVec 64)), (a.e = 0 ∨ a.e = 4) → ((loopR n a acc).2.e = 0 ∨ (loopR n a acc).2.e = 4)
  | 0, a, acc, h => h
  | n + 1, a, acc, h => by
    unfold loopR
    split
    · exact loopR_e n _ _ (nextR_e 8 a h)
    · exact h
theorem b3R_e (a : RdS) (h : a.e = 0 ∨ a.e = 4) : (b3R a).e = 0 ∨ (b3R a).e = 4 := nextR_e 4 _ (nextR_e 4 _ (nextR_e 4 _ (loopR_e _ _ _ (aAt_e 26 a h))))
theorem recRD_eq (a : RdS) (he : a.e = 0 ∨ a.e = 4) (h : endR (bseq 64 (b3R a)) = 0) : recRD a = recR a := by
  have h3 := b3R_e a he
  have hb0 : (b3R a).e = 0 := by
    rcases h3 with h3 | h3
    · exact h3
    · rw [bseq_err _ (by rw [h3]; decide)] at h
      unfold endR at h
      rw [if_neg (by rw [h3]; decide), h3] at h
      cases h
  have hlen : 64 ≤ (b3R a).rest.length := by
    apply Classical.byContradiction
    intro hc
    have := bseq_short (b3R a) hb0 64 (by omega)
    unfold endR at h
    rw [if_neg (by rw [this]; decide), this] at h
    cases h
  have e1 : nextR 32 (b3R a) = bseq 32 (b3R a) := by rw [take32, if_pos hb0, if_pos (by omega)]
  have e2 : (bseq 32 (b3R a)).e = 0 ∧ 32 ≤ (bseq 32 (b3R a)).rest.length := by
    rw [bseq_ok _ hb0 32 (by omega)]
    exact ⟨rfl, by rw [List.length_drop]; omega⟩
  unfold recRD recR
  rw [putB_pad (b3R a) hb0 (by omega), putB_pad _ e2.1 e2.2, e1]
def q0A (a : RdS) : Array Value := #[.int .i64 (nI 0 a), .int .i64 (nI 1 a), .int .i64 (nI 2 a), .int .i64 (nI 3 a), .int .i64 (nI 4 a), .int .i64 (nI 5 a), .int .u64 (bvi (nAt 6 a)), .int .i64 (ptAt 7 a).x, .int .i64 (ptAt 7 a).y, .int .i64 (ptAt 7 a).z, .int .i64 (ptAt 10 a).x, .int .i64 (ptAt 10 a).y, .int .i64 (ptAt 10 a).z, .int .i64 (ptAt 13 a).x, .int .i64 (ptAt 13 a).y, .int .i64 (ptAt 13 a).z, .int .i64 (ptAt 16 a).x, .int .i64 (ptAt 16 a).y, .int .i64 (ptAt 16 a).z, .int .i64 (nI 19 a), .int .i64 (nI 20 a), .bool (decide (nI 21 a = 1)), .int .i64 (nI 22 a), .int .i64 (nI 23 a), .int .i64 (nI 24 a)]
theorem recRD_chain (a : RdS) (v : Value) : recA (recRD a) v = q0A a ++ (#[v] ++ (#[.int .u32 (bvi ((numR 4 (b0R a)).setWidth 32)), .int .u32 (bvi ((numR 4 (nextR 4 (b0R a))).setWidth 32)), .int .u32 (bvi ((numR 4 (nextR 4 (nextR 4 (b0R a)))).setWidth 32))] ++ (vals .u8 (putB (b3R a) 32 (List.replicate 32 0#8)) ++ vals .u8 (putB (bseq 32 (b3R a)) 32 (List.replicate 32 0#8))))) := by
  generalize hX : putB (b3R a) 32 (List.replicate 32 0#8) = X
  generalize hY : putB (bseq 32 (b3R a)) 32 (List.replicate 32 0#8) = Y
  have h1 : (recRD a).scene = X := by rw [← hX]; rfl
  have h2 : (recRD a).planes = Y := by rw [← hY]; rfl
  unfold recA
  rw [h1, h2]
  apply Array.ext'
  simp [recRD, recR, ViewS.c, StepS.c, q0A]
theorem recE_RD (a : RdS) : recE (recRD a) = recE (recR a) := by
  have h1 : (recRD a).layer = (recR a).layer := by simp only [recRD]
  have h2 : (recRD a).view = (recR a).view := by simp only [recRD]
  have h3 : (recRD a).steps = (recR a).steps := by simp only [recRD]
  unfold recE
  rw [h1, h2, h3]
end Go.Proofs.Ytlhedoodbadmgaa
namespace Go.Proofs.Ytlhedoodbadmgaa
open Go.RowKit
set_option maxRecDepth 100000
set_option maxHeartbeats 4000000
attribute [local irreducible] Calls Walk1 WalkTo Tri EndA
theorem refRecCheck_any (r : RecS) (v : Value) (A : Array Value) (n : Nat) (hv : ∃ a c, v = .slice a n c) (hn : n ≤ 4096) (hA : RecF A r v) (w : World) : Calls Try.prog 21 #[.agg A] w fun e w' => e = .returned (.int .i64 (recE r)) ∧ Below w.heap.size w w' := by
  obtain ⟨a, cp, rfl⟩ := hv
  obtain ⟨f0, f1, f2, f3, f4, f5, f6, f7, f8, f9, f10⟩ := hA
  have cm := fun w => refMay28_any r.view w
  have cc := fun w => refCost_any r.view w
  have hq := fun w => eqSt_run r.steps (wantS r.view) w
  have hws : (wantS r.view).c.size = 3 := rfl
  have hwo : (wantS r.view).c.all (·.oneCell') = true := by simp [StepS.c]; exact ⟨rfl, rfl, rfl⟩
  have hvs : r.view.c.size = 21 := rfl
  have hzc : zS.c = #[.int .i64 0, .int .i64 0, .int .i64 0] := rfl
  unfold recE
  have hwc : wantS r.view = if r.view.constant = true then costV r.view else zS := rfl
  generalize wantS r.view = W at *
  generalize (r.steps.l == W.l) = Q at *
  generalize viewE r.view = E at *
  generalize costV r.view = CV at *
  generalize r.steps.c = SC at *
  generalize r.layer = LY at *
  generalize r.view.constant = CN at *
  generalize r.view.c = VC at *
  by_cases h1 : LY < 0
  · rw [if_pos (.inl h1)]
    refine calls_tri Try.func21 rfl Try.ntmps21 rfl ?_
    repeat (first | (show Walk1 _ _ _ (_ :: _) _ _; first | (show Walk1 _ _ _ (⟨_, _, _, _, _, some _⟩ :: _) _ _; refine walk1_no rfl rfl (by first | exact decide_eq_true (by omega) | exact decide_eq_false (by omega) | rfl | (show _ = true; with_reducible assumption) | (show _ = false; with_reducible assumption) | (simp <;> fail) | omega) rfl ?_) | (show Walk1 _ _ _ (⟨_, .move _, _, _, _, _⟩ :: _) _ _; refine walk1_t (op_move rfl rfl rfl rfl) ?_) | (show Walk1 _ _ _ (⟨_, .assign _, _, _, _, _⟩ :: _) _ _; refine walk1_t (op_assignN rfl rfl rfl rfl) ?_) | (show Walk1 _ _ _ (⟨_, .binOp .lss _ _ _ _, _, _, _, _⟩ :: _) _ _; refine walk1_t (op_ltI rfl rfl rfl rfl rfl) ?_) | (show Walk1 _ _ _ (⟨_, .pick _ _ _, _, _, _, _⟩ :: _) _ _; refine walk1_t (op_pickY rfl rfl rfl rfl (by first | exact decide_eq_true (by omega) | exact decide_eq_false (by omega) | rfl | (show _ = true; with_reducible assumption) | (show _ = false; with_reducible assumption) | (simp <;> fail) | omega) rfl) ?_) | (show Walk1 _ _ _ (⟨_, .load _ _, _, _, _, _⟩ :: _) _ _; refine walk1_t (op_load rfl rfl rfl rfl rfl rfl rfl (ld_any (by with_reducible assumption))) ?_) | (show Walk1 _ _ _ (⟨_, .box _ _, _, _, _, _⟩ :: _) _ _; refine walk1_n (op_box rfl rfl rfl rfl rfl) (by kernel_rfl) ?_) | (show Walk1 _ _ _ (⟨_, .fieldAddr _ _ _, _, _, _, _⟩ :: _) _ _; refine walk1_t (op_fldT rfl rfl rfl rfl rfl rfl off_zero) ?_)) | refine go1 ?_ | refine end_block_other rfl ?_ | refine end_scope (fun _ h => by cases h) ?_ | (refine walk_endD ?_ ?_; (· kernel_rfl)) | refine tri_yesA rfl ?_ | refine tri_noA rfl ?_ | refine tri_trueA rfl ?_ | refine tri_falseA rfl ?_)
    refine end_ret _ (res_tmp rfl rfl) ?_
    exact fin_below fun _ => rfl
  by_cases h2 : 7 < LY
  · rw [if_pos (.inr h2)]
    have h3 : decide (8 ≤ LY) = true := by simp; omega
    refine calls_tri Try.func21 rfl Try.ntmps21 rfl ?_
    repeat (first | (show Walk1 _ _ _ (_ :: _) _ _; first | (show Walk1 _ _ _ (⟨_, _, _, _, _, some _⟩ :: _) _ _; refine walk1_yes rfl rfl (by first | exact decide_eq_true (by omega) | exact decide_eq_false (by omega) | rfl | (show _ = true; with_reducible assumption) | (show _ = false; with_reducible assumption) | (simp <;> fail) | omega) ?_) | (show Walk1 _ _ _ (⟨_, .move _, _, _, _, _⟩ :: _) _ _; refine walk1_t (op_move rfl rfl rfl rfl) ?_) | (show Walk1 _ _ _ (⟨_, .assign _, _, _, _, _⟩ :: _) _ _; refine walk1_t (op_assignN rfl rfl rfl rfl) ?_) | (show Walk1 _ _ _ (⟨_, .binOp .lss _ _ _ _, _, _, _, _⟩ :: _) _ _; refine walk1_t (op_ltI rfl rfl rfl rfl rfl) ?_) | (show Walk1 _ _ _ (⟨_, .binOp .gtr _ _ _ _, _, _, _, _⟩ :: _) _ _; refine walk1_t (op_gtI rfl rfl rfl rfl rfl) ?_) | (show Walk1 _ _ _ (⟨_, .pick _ _ _, _, _, _, _⟩ :: _) _ _; refine walk1_t (op_pickN rfl rfl rfl rfl (by first | exact decide_eq_true (by omega) | exact decide_eq_false (by omega) | rfl | (show _ = true; with_reducible assumption) | (show _ = false; with_reducible assumption) | (simp <;> fail) | omega) rfl) ?_) | (show Walk1 _ _ _ (⟨_, .load _ _, _, _, _, _⟩ :: _) _ _; refine walk1_t (op_load rfl rfl rfl rfl rfl rfl rfl (ld_any (by with_reducible assumption))) ?_) | (show Walk1 _ _ _ (⟨_, .box _ _, _, _, _, _⟩ :: _) _ _; refine walk1_n (op_box rfl rfl rfl rfl rfl) (by kernel_rfl) ?_) | (show Walk1 _ _ _ (⟨_, .fieldAddr _ _ _, _, _, _, _⟩ :: _) _ _; refine walk1_t (op_fldT rfl rfl rfl rfl rfl rfl off_zero) ?_)) | refine go1 ?_ | refine end_block_other rfl ?_ | refine end_scope (fun _ h => by cases h) ?_ | (refine walk_endD ?_ ?_; (· kernel_rfl)) | refine tri_yesA rfl ?_ | refine tri_noA rfl ?_ | refine tri_trueA rfl ?_ | refine tri_falseA rfl ?_)
    refine end_ret _ (res_tmp rfl rfl) ?_
    exact fin_below fun _ => rfl
  have h3 : decide (8 ≤ LY) = false := by simp; omega
  rw [if_neg (by omega)]
  by_cases hE : E = 0
  · subst hE
    rw [if_neg (by simp)]
    cases CN
    · simp only [Bool.false_eq_true, if_false] at hwc
      subst hwc
      simp only [hzc] at *
      cases Q
      · refine calls_tri Try.func21 rfl Try.ntmps21 rfl ?_
        repeat (first | (show Walk1 _ _ _ (_ :: _) _ _; first | (show Walk1 _ _ _ (⟨_, _, _, _, _, some _⟩ :: _) _ _; refine walk1_yes rfl rfl (by first | exact decide_eq_true (by omega) | exact decide_eq_false (by omega) | rfl | (show _ = true; with_reducible assumption) | (show _ = false; with_reducible assumption) | (simp <;> fail) | omega) ?_) | (show Walk1 _ _ _ (⟨_, .move _, _, _, _, _⟩ :: _) _ _; refine walk1_t (op_move rfl rfl rfl rfl) ?_) | (show Walk1 _ _ _ (⟨_, .assign _, _, _, _, _⟩ :: _) _ _; first | refine walk1_t (op_assignN rfl rfl rfl rfl) ?_ | refine walk1_t (op_assign rfl rfl rfl rfl) ?_) | (show Walk1 _ _ _ (⟨_, .binOp .lss _ _ _ _, _, _, _, _⟩ :: _) _ _; refine walk1_t (op_ltI rfl rfl rfl rfl rfl) ?_) | (show Walk1 _ _ _ (⟨_, .binOp .gtr _ _ _ _, _, _, _, _⟩ :: _) _ _; refine walk1_t (op_gtI rfl rfl rfl rfl rfl) ?_) | (show Walk1 _ _ _ (⟨_, .binOp .neq _ _ _ _, _, _, _, _⟩ :: _) _ _; first | refine walk1_t (op_neN rfl rfl rfl (by first | exact evN_const rfl | exact rfl) (by first | exact evN_const rfl | exact rfl)) ?_ | refine walk1_t (op_neR (by assumption) rfl rfl rfl rfl rfl (fun _ => rfl) (fun _ => rfl) (by kernel_rfl)) ?_) | (show Walk1 _ _ _ (⟨_, .pick _ _ _, _, _, _, _⟩ :: _) _ _; refine walk1_t (op_pickN rfl rfl rfl rfl (by first | exact decide_eq_true (by omega) | exact decide_eq_false (by omega) | rfl | (show _ = true; with_reducible assumption) | (show _ = false; with_reducible assumption) | (simp <;> fail) | omega) rfl) ?_) | (show Walk1 _ _ _ (⟨_, .load _ _, _, _, _, _⟩ :: _) _ _; first | refine walk1_t (op_loads rfl rfl rfl rfl rfl rfl rfl rfl) ?_ | refine walk1_t (op_load rfl rfl rfl rfl rfl rfl rfl (ld_any (by with_reducible assumption))) ?_ | refine walk1_t (op_loadsK rfl rfl rfl rfl rfl rfl rfl rfl (by with_reducible assumption)) ?_) | (show Walk1 _ _ _ (⟨_, .store _ _ _, _, _, _, _⟩ :: _) _ _; refine walk1_b (op_storesC rfl rfl rfl rfl rfl rfl rfl (by with_reducible assumption) (by with_reducible assumption)) ?_) | (show Walk1 _ _ _ (⟨_, .alloc _, _, _, _, _⟩ :: _) _ _; refine walk1_n (op_alloc rfl rfl rfl rfl rfl) (by kernel_rfl) ?_) | (show Walk1 _ _ _ (⟨_, .box _ _, _, _, _, _⟩ :: _) _ _; refine walk1_n (op_box rfl rfl rfl rfl rfl) (by kernel_rfl) ?_) | (show Walk1 _ _ _ (⟨_, .fieldAddr _ _ _, _, _, _, _⟩ :: _) _ _; first | refine walk1_t (op_fldT rfl rfl rfl rfl rfl rfl off_zero) ?_ | refine walk1_t (op_fldT rfl rfl rfl rfl rfl rfl rfl) ?_) | (show Walk1 _ _ _ (⟨_, .build _ _, _, _, _, _⟩ :: _) _ _; refine walk1_t (op_build0 rfl rfl rfl rfl rfl rfl) ?_) | (show Walk1 _ _ _ (⟨_, .call ⟨.value (.func 44), _, _⟩, _, _, _, _⟩ :: _) _ _; ((first | refine walk1_call rfl rfl rfl rfl (by repeat (first | exact evs_nil | apply evs_cons rfl)) rfl ?_ | refine walk1_call0 rfl rfl rfl (by repeat (first | exact evs_nil | apply evs_cons rfl)) rfl ?_); refine ⟨_, fun e w => cm w, ?_⟩))) | refine go1 ?_ | refine end_block_other rfl ?_ | refine end_scope (fun _ h => by cases h) ?_ | (refine walk_endD ?_ ?_; (· kernel_rfl)) | refine tri_yesA rfl ?_ | refine tri_noA rfl ?_ | refine tri_trueA rfl ?_ | refine tri_falseA rfl ?_)
        refine end_ret _ (res_tmp rfl rfl) ?_
        exact fin_below fun _ => rfl
      · refine calls_tri Try.func21 rfl Try.ntmps21 rfl ?_
        repeat (first | (show Walk1 _ _ _ (_ :: _) _ _; first | (show Walk1 _ _ _ (⟨_, _, _, _, _, some _⟩ :: _) _ _; refine walk1_yes rfl rfl (by first | exact decide_eq_true (by omega) | exact decide_eq_false (by omega) | rfl | (show _ = true; with_reducible assumption) | (show _ = false; with_reducible assumption) | (simp <;> fail) | omega) ?_) | (show Walk1 _ _ _ (⟨_, .move _, _, _, _, _⟩ :: _) _ _; refine walk1_t (op_move rfl rfl rfl rfl) ?_) | (show Walk1 _ _ _ (⟨_, .assign _, _, _, _, _⟩ :: _) _ _; first | refine walk1_t (op_assignN rfl rfl rfl rfl) ?_ | refine walk1_t (op_assign rfl rfl rfl rfl) ?_) | (show Walk1 _ _ _ (⟨_, .binOp .lss _ _ _ _, _, _, _, _⟩ :: _) _ _; refine walk1_t (op_ltI rfl rfl rfl rfl rfl) ?_) | (show Walk1 _ _ _ (⟨_, .binOp .gtr _ _ _ _, _, _, _, _⟩ :: _) _ _; first | refine walk1_t (op_gtN rfl rfl rfl (by first | exact evN_const rfl | exact rfl) (by first | exact evN_const rfl | exact rfl)) ?_ | refine walk1_t (op_gtI rfl rfl rfl rfl rfl) ?_) | (show Walk1 _ _ _ (⟨_, .binOp .neq _ _ _ _, _, _, _, _⟩ :: _) _ _; first | refine walk1_t (op_neN rfl rfl rfl (by first | exact evN_const rfl | exact rfl) (by first | exact evN_const rfl | exact rfl)) ?_ | refine walk1_t (op_neR (by assumption) rfl rfl rfl rfl rfl (fun _ => rfl) (fun _ => rfl) (by kernel_rfl)) ?_) | (show Walk1 _ _ _ (⟨_, .pick _ _ _, _, _, _, _⟩ :: _) _ _; refine walk1_t (op_pickN rfl rfl rfl rfl (by first | exact decide_eq_true (by omega) | exact decide_eq_false (by omega) | rfl | (show _ = true; with_reducible assumption) | (show _ = false; with_reducible assumption) | (simp <;> fail) | omega) rfl) ?_) | (show Walk1 _ _ _ (⟨_, .load _ _, _, _, _, _⟩ :: _) _ _; first | refine walk1_t (op_loads rfl rfl rfl rfl rfl rfl rfl rfl) ?_ | refine walk1_t (op_load rfl rfl rfl rfl rfl rfl rfl (ld_any (by with_reducible assumption))) ?_ | refine walk1_t (op_loadsK rfl rfl rfl rfl rfl rfl rfl rfl (by with_reducible assumption)) ?_) | (show Walk1 _ _ _ (⟨_, .store _ _ _, _, _, _, _⟩ :: _) _ _; refine walk1_b (op_storesC rfl rfl rfl rfl rfl rfl rfl (by with_reducible assumption) (by with_reducible assumption)) ?_) | (show Walk1 _ _ _ (⟨_, .alloc _, _, _, _, _⟩ :: _) _ _; refine walk1_n (op_alloc rfl rfl rfl rfl rfl) (by kernel_rfl) ?_) | (show Walk1 _ _ _ (⟨_, .box _ _, _, _, _, _⟩ :: _) _ _; refine walk1_n (op_box rfl rfl rfl rfl rfl) (by kernel_rfl) ?_) | (show Walk1 _ _ _ (⟨_, .fieldAddr _ _ _, _, _, _, _⟩ :: _) _ _; first | refine walk1_t (op_fldT rfl rfl rfl rfl rfl rfl off_zero) ?_ | refine walk1_t (op_fldT rfl rfl rfl rfl rfl rfl rfl) ?_) | (show Walk1 _ _ _ (⟨_, .build _ _, _, _, _, _⟩ :: _) _ _; refine walk1_t (op_build0 rfl rfl rfl rfl rfl rfl) ?_) | (show Walk1 _ _ _ (⟨_, .call ⟨.builtin .len, _, _⟩, _, _, _, _⟩ :: _) _ _; refine walk1_t (op_lenC rfl rfl rfl) ?_) | (show Walk1 _ _ _ (⟨_, .call ⟨.value (.func 44), _, _⟩, _, _, _, _⟩ :: _) _ _; ((first | refine walk1_call rfl rfl rfl rfl (by repeat (first | exact evs_nil | apply evs_cons rfl)) rfl ?_ | refine walk1_call0 rfl rfl rfl (by repeat (first | exact evs_nil | apply evs_cons rfl)) rfl ?_); refine ⟨_, fun e w => cm w, ?_⟩))) | refine go1 ?_ | refine end_block_other rfl ?_ | refine end_scope (fun _ h => by cases h) ?_ | (refine walk_endD ?_ ?_; (· kernel_rfl)) | refine tri_yesA rfl ?_ | refine tri_noA rfl ?_ | refine tri_trueA rfl ?_ | refine tri_falseA rfl ?_)
        refine end_ret _ (res_tmp rfl rfl) ?_
        exact fin_below fun _ => rfl
    · simp only [if_true] at hwc
      subst hwc
      generalize W.c = WC at *
      cases Q
      · refine calls_tri Try.func21 rfl Try.ntmps21 rfl ?_
        repeat (first | (show Walk1 _ _ _ (_ :: _) _ _; first | (show Walk1 _ _ _ (⟨_, _, _, _, _, some _⟩ :: _) _ _; refine walk1_yes rfl rfl (by first | exact decide_eq_true (by omega) | exact decide_eq_false (by omega) | rfl | (show _ = true; with_reducible assumption) | (show _ = false; with_reducible assumption) | (simp <;> fail) | omega) ?_) | (show Walk1 _ _ _ (⟨_, .move _, _, _, _, _⟩ :: _) _ _; refine walk1_t (op_move rfl rfl rfl rfl) ?_) | (show Walk1 _ _ _ (⟨_, .assign _, _, _, _, _⟩ :: _) _ _; first | refine walk1_t (op_assignN rfl rfl rfl rfl) ?_ | refine walk1_t (op_assign rfl rfl rfl rfl) ?_) | (show Walk1 _ _ _ (⟨_, .binOp .lss _ _ _ _, _, _, _, _⟩ :: _) _ _; refine walk1_t (op_ltI rfl rfl rfl rfl rfl) ?_) | (show Walk1 _ _ _ (⟨_, .binOp .gtr _ _ _ _, _, _, _, _⟩ :: _) _ _; refine walk1_t (op_gtI rfl rfl rfl rfl rfl) ?_) | (show Walk1 _ _ _ (⟨_, .binOp .neq _ _ _ _, _, _, _, _⟩ :: _) _ _; first | refine walk1_t (op_neN rfl rfl rfl (by first | exact evN_const rfl | exact rfl) (by first | exact evN_const rfl | exact rfl)) ?_ | refine walk1_t (op_neR (by assumption) rfl rfl rfl rfl rfl (fun _ => rfl) (fun _ => rfl) (by kernel_rfl)) ?_) | (show Walk1 _ _ _ (⟨_, .pick _ _ _, _, _, _, _⟩ :: _) _ _; refine walk1_t (op_pickN rfl rfl rfl rfl (by first | exact decide_eq_true (by omega) | exact decide_eq_false (by omega) | rfl | (show _ = true; with_reducible assumption) | (show _ = false; with_reducible assumption) | (simp <;> fail) | omega) rfl) ?_) | (show Walk1 _ _ _ (⟨_, .load _ _, _, _, _, _⟩ :: _) _ _; first | refine walk1_t (op_load rfl rfl rfl rfl rfl rfl rfl (ld_any (by with_reducible assumption))) ?_ | refine walk1_t (op_loadsC rfl rfl rfl rfl rfl rfl rfl rfl (sm_c (by assumption)) ag_c) ?_ | refine walk1_t (op_loadsK rfl rfl rfl rfl rfl rfl rfl rfl (by with_reducible assumption)) ?_) | (show Walk1 _ _ _ (⟨_, .store _ _ _, _, _, _, _⟩ :: _) _ _; first | refine walk1_b (op_storesC rfl rfl rfl rfl rfl rfl rfl (by with_reducible assumption) (by with_reducible assumption)) ?_ | refine walk1_b (op_stores rfl rfl rfl rfl rfl rfl rfl) ?_) | (show Walk1 _ _ _ (⟨_, .alloc _, _, _, _, _⟩ :: _) _ _; refine walk1_n (op_alloc rfl rfl rfl rfl rfl) (by kernel_rfl) ?_) | (show Walk1 _ _ _ (⟨_, .box _ _, _, _, _, _⟩ :: _) _ _; refine walk1_n (op_box rfl rfl rfl rfl rfl) (by kernel_rfl) ?_) | (show Walk1 _ _ _ (⟨_, .fieldAddr _ _ _, _, _, _, _⟩ :: _) _ _; first | refine walk1_t (op_fldT rfl rfl rfl rfl rfl rfl off_zero) ?_ | refine walk1_t (op_fldT rfl rfl rfl rfl rfl rfl rfl) ?_) | (show Walk1 _ _ _ (⟨_, .build _ _, _, _, _, _⟩ :: _) _ _; refine walk1_t (op_build0 rfl rfl rfl rfl rfl rfl) ?_) | (show Walk1 _ _ _ (⟨_, .call ⟨.value (.func 44), _, _⟩, _, _, _, _⟩ :: _) _ _; ((first | refine walk1_call rfl rfl rfl rfl (by repeat (first | exact evs_nil | apply evs_cons rfl)) rfl ?_ | refine walk1_call0 rfl rfl rfl (by repeat (first | exact evs_nil | apply evs_cons rfl)) rfl ?_); refine ⟨_, fun e w => cm w, ?_⟩)) | (show Walk1 _ _ _ (⟨_, .call ⟨.value (.func 45), _, _⟩, _, _, _, _⟩ :: _) _ _; ((first | refine walk1_call rfl rfl rfl rfl (by repeat (first | exact evs_nil | apply evs_cons rfl)) rfl ?_ | refine walk1_call0 rfl rfl rfl (by repeat (first | exact evs_nil | apply evs_cons rfl)) rfl ?_); refine ⟨_, fun e w => cc w, ?_⟩))) | refine go1 ?_ | refine end_block_other rfl ?_ | refine end_scope (fun _ h => by cases h) ?_ | (refine walk_endD ?_ ?_; (· kernel_rfl)) | refine tri_yesA rfl ?_ | refine tri_noA rfl ?_ | refine tri_trueA rfl ?_ | refine tri_falseA rfl ?_)
        refine end_ret _ (res_tmp rfl rfl) ?_
        exact fin_below fun _ => rfl
      · refine calls_tri Try.func21 rfl Try.ntmps21 rfl ?_
        repeat (first | (show Walk1 _ _ _ (_ :: _) _ _; first | (show Walk1 _ _ _ (⟨_, _, _, _, _, some _⟩ :: _) _ _; refine walk1_yes rfl rfl (by first | exact decide_eq_true (by omega) | exact decide_eq_false (by omega) | rfl | (show _ = true; with_reducible assumption) | (show _ = false; with_reducible assumption) | (simp <;> fail) | omega) ?_) | (show Walk1 _ _ _ (⟨_, .move _, _, _, _, _⟩ :: _) _ _; refine walk1_t (op_move rfl rfl rfl rfl) ?_) | (show Walk1 _ _ _ (⟨_, .assign _, _, _, _, _⟩ :: _) _ _; first | refine walk1_t (op_assignN rfl rfl rfl rfl) ?_ | refine walk1_t (op_assign rfl rfl rfl rfl) ?_) | (show Walk1 _ _ _ (⟨_, .binOp .lss _ _ _ _, _, _, _, _⟩ :: _) _ _; refine walk1_t (op_ltI rfl rfl rfl rfl rfl) ?_) | (show Walk1 _ _ _ (⟨_, .binOp .gtr _ _ _ _, _, _, _, _⟩ :: _) _ _; first | refine walk1_t (op_gtN rfl rfl rfl (by first | exact evN_const rfl | exact rfl) (by first | exact evN_const rfl | exact rfl)) ?_ | refine walk1_t (op_gtI rfl rfl rfl rfl rfl) ?_) | (show Walk1 _ _ _ (⟨_, .binOp .neq _ _ _ _, _, _, _, _⟩ :: _) _ _; first | refine walk1_t (op_neN rfl rfl rfl (by first | exact evN_const rfl | exact rfl) (by first | exact evN_const rfl | exact rfl)) ?_ | refine walk1_t (op_neR (by assumption) rfl rfl rfl rfl rfl (fun _ => rfl) (fun _ => rfl) (by kernel_rfl)) ?_) | (show Walk1 _ _ _ (⟨_, .pick _ _ _, _, _, _, _⟩ :: _) _ _; refine walk1_t (op_pickN rfl rfl rfl rfl (by first | exact decide_eq_true (by omega) | exact decide_eq_false (by omega) | rfl | (show _ = true; with_reducible assumption) | (show _ = false; with_reducible assumption) | (simp <;> fail) | omega) rfl) ?_) | (show Walk1 _ _ _ (⟨_, .load _ _, _, _, _, _⟩ :: _) _ _; first | refine walk1_t (op_load rfl rfl rfl rfl rfl rfl rfl (ld_any (by with_reducible assumption))) ?_ | refine walk1_t (op_loadsC rfl rfl rfl rfl rfl rfl rfl rfl (sm_c (by assumption)) ag_c) ?_ | refine walk1_t (op_loadsK rfl rfl rfl rfl rfl rfl rfl rfl (by with_reducible assumption)) ?_) | (show Walk1 _ _ _ (⟨_, .store _ _ _, _, _, _, _⟩ :: _) _ _; first | refine walk1_b (op_storesC rfl rfl rfl rfl rfl rfl rfl (by with_reducible assumption) (by with_reducible assumption)) ?_ | refine walk1_b (op_stores rfl rfl rfl rfl rfl rfl rfl) ?_) | (show Walk1 _ _ _ (⟨_, .alloc _, _, _, _, _⟩ :: _) _ _; refine walk1_n (op_alloc rfl rfl rfl rfl rfl) (by kernel_rfl) ?_) | (show Walk1 _ _ _ (⟨_, .box _ _, _, _, _, _⟩ :: _) _ _; refine walk1_n (op_box rfl rfl rfl rfl rfl) (by kernel_rfl) ?_) | (show Walk1 _ _ _ (⟨_, .fieldAddr _ _ _, _, _, _, _⟩ :: _) _ _; first | refine walk1_t (op_fldT rfl rfl rfl rfl rfl rfl off_zero) ?_ | refine walk1_t (op_fldT rfl rfl rfl rfl rfl rfl rfl) ?_) | (show Walk1 _ _ _ (⟨_, .build _ _, _, _, _, _⟩ :: _) _ _; refine walk1_t (op_build0 rfl rfl rfl rfl rfl rfl) ?_) | (show Walk1 _ _ _ (⟨_, .call ⟨.builtin .len, _, _⟩, _, _, _, _⟩ :: _) _ _; refine walk1_t (op_lenC rfl rfl rfl) ?_) | (show Walk1 _ _ _ (⟨_, .call ⟨.value (.func 44), _, _⟩, _, _, _, _⟩ :: _) _ _; ((first | refine walk1_call rfl rfl rfl rfl (by repeat (first | exact evs_nil | apply evs_cons rfl)) rfl ?_ | refine walk1_call0 rfl rfl rfl (by repeat (first | exact evs_nil | apply evs_cons rfl)) rfl ?_); refine ⟨_, fun e w => cm w, ?_⟩)) | (show Walk1 _ _ _ (⟨_, .call ⟨.value (.func 45), _, _⟩, _, _, _, _⟩ :: _) _ _; ((first | refine walk1_call rfl rfl rfl rfl (by repeat (first | exact evs_nil | apply evs_cons rfl)) rfl ?_ | refine walk1_call0 rfl rfl rfl (by repeat (first | exact evs_nil | apply evs_cons rfl)) rfl ?_); refine ⟨_, fun e w => cc w, ?_⟩))) | refine go1 ?_ | refine end_block_other rfl ?_ | refine end_scope (fun _ h => by cases h) ?_ | (refine walk_endD ?_ ?_; (· kernel_rfl)) | refine tri_yesA rfl ?_ | refine tri_noA rfl ?_ | refine tri_trueA rfl ?_ | refine tri_falseA rfl ?_)
        refine end_ret _ (res_tmp rfl rfl) ?_
        exact fin_below fun _ => rfl
  · rw [if_pos hE]
    refine calls_tri Try.func21 rfl Try.ntmps21 rfl ?_
    repeat (first | (show Walk1 _ _ _ (_ :: _) _ _; first | (show Walk1 _ _ _ (⟨_, _, _, _, _, some _⟩ :: _) _ _; refine walk1_yes rfl rfl (by first | exact decide_eq_true (by omega) | exact decide_eq_false (by omega) | rfl | (show _ = true; with_reducible assumption) | (show _ = false; with_reducible assumption) | (simp <;> fail) | omega) ?_) | (show Walk1 _ _ _ (⟨_, .move _, _, _, _, _⟩ :: _) _ _; refine walk1_t (op_move rfl rfl rfl rfl) ?_) | (show Walk1 _ _ _ (⟨_, .assign _, _, _, _, _⟩ :: _) _ _; first | refine walk1_t (op_assignN rfl rfl rfl rfl) ?_ | refine walk1_t (op_assign rfl rfl rfl rfl) ?_) | (show Walk1 _ _ _ (⟨_, .binOp .lss _ _ _ _, _, _, _, _⟩ :: _) _ _; refine walk1_t (op_ltI rfl rfl rfl rfl rfl) ?_) | (show Walk1 _ _ _ (⟨_, .binOp .gtr _ _ _ _, _, _, _, _⟩ :: _) _ _; refine walk1_t (op_gtI rfl rfl rfl rfl rfl) ?_) | (show Walk1 _ _ _ (⟨_, .binOp .neq _ _ _ _, _, _, _, _⟩ :: _) _ _; refine walk1_t (op_neI rfl rfl rfl rfl rfl) ?_) | (show Walk1 _ _ _ (⟨_, .pick _ _ _, _, _, _, _⟩ :: _) _ _; refine walk1_t (op_pickN rfl rfl rfl rfl (by first | exact decide_eq_true (by omega) | exact decide_eq_false (by omega) | rfl | (show _ = true; with_reducible assumption) | (show _ = false; with_reducible assumption) | (simp <;> fail) | omega) rfl) ?_) | (show Walk1 _ _ _ (⟨_, .load _ _, _, _, _, _⟩ :: _) _ _; first | refine walk1_t (op_load rfl rfl rfl rfl rfl rfl rfl (ld_any (by with_reducible assumption))) ?_ | refine walk1_t (op_loadsK rfl rfl rfl rfl rfl rfl rfl rfl (by with_reducible assumption)) ?_) | (show Walk1 _ _ _ (⟨_, .box _ _, _, _, _, _⟩ :: _) _ _; refine walk1_n (op_box rfl rfl rfl rfl rfl) (by kernel_rfl) ?_) | (show Walk1 _ _ _ (⟨_, .fieldAddr _ _ _, _, _, _, _⟩ :: _) _ _; refine walk1_t (op_fldT rfl rfl rfl rfl rfl rfl off_zero) ?_) | (show Walk1 _ _ _ (⟨_, .call ⟨.value (.func 44), _, _⟩, _, _, _, _⟩ :: _) _ _; ((first | refine walk1_call rfl rfl rfl rfl (by repeat (first | exact evs_nil | apply evs_cons rfl)) rfl ?_ | refine walk1_call0 rfl rfl rfl (by repeat (first | exact evs_nil | apply evs_cons rfl)) rfl ?_); refine ⟨_, fun e w => cm w, ?_⟩))) | refine go1 ?_ | refine end_block_other rfl ?_ | refine end_scope (fun _ h => by cases h) ?_ | (refine walk_endD ?_ ?_; (· kernel_rfl)) | refine tri_yesA rfl ?_ | refine tri_noA rfl ?_ | refine tri_trueA rfl ?_ | refine tri_falseA rfl ?_)
    refine end_ret _ (res_tmp rfl rfl) ?_
    exact fin_below fun _ => rfl
end Go.Proofs.Ytlhedoodbadmgaa
