/- The document's under: walked. No condition. The document's Box: walked. No condition. The document's Sound: plain. No condition. The document's Sound over no triangles: walked. No condition. -/
import Derived.Test.YtcgmapioelfneaaMgBvq6
import Derived.Test.YtcgmapioelfneaaMgSrt7
namespace Go.Proofs.Ytcgmapioelfneaa
open Go.RowKit
set_option maxRecDepth 100000
set_option maxHeartbeats 2000000
/-- What under hands back: a part of the order, or a new slice. -/
def UnderC (M : Nat → List Nat) (v1 v2 : Value) (w0 : World) (i : Nat) : Prop :=
  (∃ u, (∀ w, Below w0.heap.size w0 w → FS w 1 u (M i).length (ordC (M i))) ∧ ∀ w, Below w0.heap.size w0 w → Calls Try.prog 21 #[.agg #[v1, v2], .int .i64 ((i : Nat) : Int)] w fun e w' => e = .returned u ∧ Below w.heap.size w w') ∨
  ∀ w, Below w0.heap.size w0 w → Calls Try.prog 21 #[.agg #[v1, v2], .int .i64 ((i : Nat) : Int)] w (RetOwn w 3 1 (M i).length (ordC (M i)))
attribute [local irreducible] Calls Walk1 WalkTo Tri EndA
theorem under_of {l : List TriS} {N : List NodeS} {K : List Nat} {M : Nat → List Nat} {D : Nat → Nat} (hS : SoundF l N K M D) (hN : N.length ≤ 1000000) (hK : K.length ≤ 1000000) (v1 v2 : Value) (w0 : World) (hv1 : FS w0 10 v1 N.length (nodesC N)) (hv2 : FS w0 1 v2 K.length (ordC K)) : ∀ (n i : Nat), N.length - i ≤ n → i < N.length → UnderC M v1 v2 w0 i := by
  intro n
  induction n with
  | zero => intro i h1 h2; omega
  | succ n ih =>
    intro i h1 h2
    have hlen := nodes_len N
    obtain ⟨nd, hnd⟩ : ∃ nd, N[i]? = some nd := ⟨_, List.getElem?_eq_getElem h2⟩
    have hrow := node_row hnd
    have hk := hS.nodes i nd hnd
    have hMl : ∀ q, (M q).length ≤ 1000000 := fun q => Nat.le_trans (hS.sub q).length_le hK
    have hKl : K.length = l.length := by rw [hS.perm.length_eq, List.length_range]
    obtain ⟨⟨lx, ly, lz⟩, ⟨hx, hy, hz⟩, le, ri, fi, co⟩ := nd
    rw [nodeC_row] at hrow
    have hrl : 0 + i * 10 + 10 ≤ (nodesC N).length := by omega
    generalize nodesC N = NC at *
    rcases hk with ⟨f, c, ⟨e1, e2, e3, e4, e5, e6, _⟩, eM, _⟩ | ⟨L, R, ⟨e1, e2, e3, e4, c1, c2, c3, c4⟩, eM, _⟩
    · dsimp only at e1 e2 e3 e4
      subst e1 e2 e3 e4
      have hML : (M i).length = c := by rw [eM, List.length_take, List.length_drop]; omega
      have hcut : ∀ w', Below w0.heap.size w0 w' → FS w' 1 (cutV v2 f (f + c - f)) (M i).length (ordC (M i)) := fun w' hb => by
        have h1 := (hv2.anew (by omega) hb).cut (lo := f) (len := (M i).length) (by omega)
        rw [show f + c - f = (M i).length by omega]
        rw [hML] at h1 ⊢
        rw [eM, ordC_cut]
        exact h1
      refine .inl ⟨_, hcut, fun w hb => ?_⟩
      have hv1 := hv1.anew (by omega) hb
      have hv2 := hv2.anew (by omega) hb
      clear hcut ih hMl
      refine calls_tri Try.func21 rfl Try.ntmps21 rfl ?_
      repeat (first | (show Walk1 _ _ _ (_ :: _) _ _; first | (show HW1 (.move _); refine wz1 ?_) | (show HW1 (.assign _); refine wz2 ?_) | (show HW1 (.binOp .add _ _ _ _); refine wz10 ?_) | (show HW1 (.binOp .eql _ _ _ _); refine wz18 ?_) | (show HW1 (.indexAddr _ _ _); refine wz26 ?_) | (show HW1 (.load _ _); first | refine wz3 ?_ | refine wz51 ?_) | (show HW1 (.store _ _ _); refine wz14 ?_) | (show HW1 (.alloc _); refine wz6 ?_) | (show HW1 (.box _ _); refine wz11 ?_) | (show HW1 (.fieldAddr _ _ _); refine wz4 ?_) | (show HW1 (.slice _ _ _ _ _); refine walk1_t (op_cutF rfl rfl rfl rfl rfl rfl) ?_)) | refine go1 ?_ | refine end_block_other rfl ?_ | refine end_scope (fun _ h => by cases h) ?_ | (refine walk_endD ?_ ?_; (· kernel_rfl)) | refine tri_yesA rfl ?_ | refine tri_noA rfl ?_ | refine tri_trueA rfl ?_ | refine tri_falseA rfl ?_)
      refine end_ret (.c (cutV v2 f (f + c - f))) (res_tmp rfl rfl) ?_
      exact fin_below fun _ => rfl
    · dsimp only at e1 e2 e3 e4
      subst e1 e2 e3 e4
      have uL := ih L (by omega) c3
      have uR := ih R (by omega) c4
      refine .inr fun w hb => ?_
      have hv1 := hv1.anew (by omega) hb
      have m1 := hMl L
      have m2 := hMl R
      rw [eM, ordC_app, List.length_append, show (M L).length + (M R).length = 0 + (M L).length + (M R).length by omega]
      have oL := ordC_one (M L)
      have oR := ordC_one (M R)
      clear ih hMl eM hv2
      unfold UnderC at uL uR
      generalize M L = ML at *
      generalize M R = MR at *
      rcases uL with ⟨vL, fL, cL⟩ | cL <;> rcases uR with ⟨vR, fR, cR⟩ | cR
      · have fL := (fL w hb).rd
        have fR := (fR w hb).rd
        refine calls_tri Try.func21 rfl Try.ntmps21 rfl ?_
        repeat (first | (show Walk1 _ _ _ (_ :: _) _ _; first | (show HW1 (.move _); refine wz1 ?_) | (show HW1 (.assign _); refine wz2 ?_) | (show HW1 (.binOp .eql _ _ _ _); refine wz18 ?_) | (show HW1 (.indexAddr _ _ _); refine wz26 ?_) | (show HW1 (.load _ _); first | refine wz3 ?_ | refine wz51 ?_) | (show HW1 (.store _ _ _); refine wz14 ?_) | (show HW1 (.alloc _); refine wz6 ?_) | (show HW1 (.box _ _); refine wz11 ?_) | (show HW1 (.fieldAddr _ _ _); refine wz4 ?_)) | (show WalkTo _ _ _ _ (_ :: _) _ _ _; first | (show HW2 (.load _ _); first | refine wz24 ?_ | refine wz22 ?_) | (show HW2 (.fieldAddr _ _ _); refine wz49 ?_) | (show HW2 (.buildSlice _ _ _); refine walk_n (op_bslice0 (k := .u8) (m := 8) rfl rfl rfl rfl rfl rfl rfl) (by kernel_rfl) ?_) | (show HW2 (.call ⟨.value (.func 21), _, _⟩); (refine cwalkM 21 ?_; refine ⟨[], _, (fun S2 e a w hS hq => cL w (below_andThen hb (hS.frame.below rfl))), ?_⟩))) | refine go1 ?_ | refine end_block_other rfl ?_ | refine end_scope (fun _ h => by cases h) ?_ | (refine walk_endD ?_ ?_; (· kernel_rfl)) | refine tri_yesA rfl ?_ | refine tri_noA rfl ?_ | refine tri_trueA rfl ?_ | refine tri_falseA rfl ?_)
        refine walk_g (op_append rfl rfl rfl rfl rfl rfl rfl rfl rfl (by omega) (rdn_old fL (by omega) rfl) oL (by omega) rfl) (by kernel_rfl) ?_
        repeat (first | (show WalkTo _ _ _ _ (_ :: _) _ _ _; first | (show HW2 (.load _ _); first | refine wz24 ?_ | refine wz22 ?_) | (show HW2 (.fieldAddr _ _ _); refine wz49 ?_) | (show HW2 (.call ⟨.value (.func 21), _, _⟩); (refine cwalkM 21 ?_; refine ⟨[], _, (fun S2 e a w hS hq => cR w (below_andThen hb (hS.frame.below rfl))), ?_⟩))) | refine go1 ?_ | refine end_block_other rfl ?_ | refine end_scope (fun _ h => by cases h) ?_ | (refine walk_endD ?_ ?_; (· kernel_rfl)) | refine tri_yesA rfl ?_ | refine tri_noA rfl ?_ | refine tri_trueA rfl ?_ | refine tri_falseA rfl ?_)
        refine walk_g (op_append rfl rfl rfl rfl rfl rfl rfl rfl rfl (by omega) (rdn_old fR (by omega) rfl) oR (by omega) rfl) (by kernel_rfl) ?_
        repeat (first | (show WalkTo _ _ _ _ (_ :: _) _ _ _; (show HW2 (.assign _); refine wz17 ?_)) | refine go1 ?_ | refine end_block_other rfl ?_ | refine end_scope (fun _ h => by cases h) ?_ | (refine walk_endD ?_ ?_; (· kernel_rfl)) | refine tri_yesA rfl ?_ | refine tri_noA rfl ?_ | refine tri_trueA rfl ?_ | refine tri_falseA rfl ?_)
        refine end_ret (.v 34) (res_tmp rfl rfl) ?_
        exact fin_own rfl
      · have fL := (fL w hb).rd
        refine calls_tri Try.func21 rfl Try.ntmps21 rfl ?_
        repeat (first | (show Walk1 _ _ _ (_ :: _) _ _; first | (show HW1 (.move _); refine wz1 ?_) | (show HW1 (.assign _); refine wz2 ?_) | (show HW1 (.binOp .eql _ _ _ _); refine wz18 ?_) | (show HW1 (.indexAddr _ _ _); refine wz26 ?_) | (show HW1 (.load _ _); first | refine wz3 ?_ | refine wz51 ?_) | (show HW1 (.store _ _ _); refine wz14 ?_) | (show HW1 (.alloc _); refine wz6 ?_) | (show HW1 (.box _ _); refine wz11 ?_) | (show HW1 (.fieldAddr _ _ _); refine wz4 ?_)) | (show WalkTo _ _ _ _ (_ :: _) _ _ _; first | (show HW2 (.load _ _); first | refine wz24 ?_ | refine wz22 ?_) | (show HW2 (.fieldAddr _ _ _); refine wz49 ?_) | (show HW2 (.buildSlice _ _ _); refine walk_n (op_bslice0 (k := .u8) (m := 8) rfl rfl rfl rfl rfl rfl rfl) (by kernel_rfl) ?_) | (show HW2 (.call ⟨.value (.func 21), _, _⟩); (refine cwalkM 21 ?_; refine ⟨[], _, (fun S2 e a w hS hq => cL w (below_andThen hb (hS.frame.below rfl))), ?_⟩))) | refine go1 ?_ | refine end_block_other rfl ?_ | refine end_scope (fun _ h => by cases h) ?_ | (refine walk_endD ?_ ?_; (· kernel_rfl)) | refine tri_yesA rfl ?_ | refine tri_noA rfl ?_ | refine tri_trueA rfl ?_ | refine tri_falseA rfl ?_)
        refine walk_g (op_append rfl rfl rfl rfl rfl rfl rfl rfl rfl (by omega) (rdn_old fL (by omega) rfl) oL (by omega) rfl) (by kernel_rfl) ?_
        repeat (first | (show WalkTo _ _ _ _ (_ :: _) _ _ _; first | (show HW2 (.load _ _); first | refine wz24 ?_ | refine wz22 ?_) | (show HW2 (.fieldAddr _ _ _); refine wz49 ?_) | (show HW2 (.call ⟨.value (.func 21), _, _⟩); (refine walk_callO rfl rfl rfl rfl (by kernel_rfl) evq rfl ?_; refine ⟨[], _, _, _, _, (fun S2 e a w hS hq => cR w (below_andThen hb (hS.frame.below rfl))), ?_⟩))) | refine go1 ?_ | refine end_block_other rfl ?_ | refine end_scope (fun _ h => by cases h) ?_ | (refine walk_endD ?_ ?_; (· kernel_rfl)) | refine tri_yesA rfl ?_ | refine tri_noA rfl ?_ | refine tri_trueA rfl ?_ | refine tri_falseA rfl ?_)
        refine walk_g (op_append rfl rfl rfl rfl rfl rfl rfl rfl rfl (by omega) (rdn_own (n := 33) rfl) oR (by omega) rfl) (by kernel_rfl) ?_
        repeat (first | (show WalkTo _ _ _ _ (_ :: _) _ _ _; (show HW2 (.assign _); refine wz17 ?_)) | refine go1 ?_ | refine end_block_other rfl ?_ | refine end_scope (fun _ h => by cases h) ?_ | (refine walk_endD ?_ ?_; (· kernel_rfl)) | refine tri_yesA rfl ?_ | refine tri_noA rfl ?_ | refine tri_trueA rfl ?_ | refine tri_falseA rfl ?_)
        refine end_ret (.v 34) (res_tmp rfl rfl) ?_
        exact fin_own rfl
      · have fR := (fR w hb).rd
        refine calls_tri Try.func21 rfl Try.ntmps21 rfl ?_
        repeat (first | (show Walk1 _ _ _ (_ :: _) _ _; first | (show HW1 (.move _); refine wz1 ?_) | (show HW1 (.assign _); refine wz2 ?_) | (show HW1 (.binOp .eql _ _ _ _); refine wz18 ?_) | (show HW1 (.indexAddr _ _ _); refine wz26 ?_) | (show HW1 (.load _ _); first | refine wz3 ?_ | refine wz51 ?_) | (show HW1 (.store _ _ _); refine wz14 ?_) | (show HW1 (.alloc _); refine wz6 ?_) | (show HW1 (.box _ _); refine wz11 ?_) | (show HW1 (.fieldAddr _ _ _); refine wz4 ?_)) | (show WalkTo _ _ _ _ (_ :: _) _ _ _; first | (show HW2 (.load _ _); first | refine wz24 ?_ | refine wz22 ?_) | (show HW2 (.fieldAddr _ _ _); refine wz49 ?_) | (show HW2 (.buildSlice _ _ _); refine walk_n (op_bslice0 (k := .u8) (m := 8) rfl rfl rfl rfl rfl rfl rfl) (by kernel_rfl) ?_) | (show HW2 (.call ⟨.value (.func 21), _, _⟩); (refine walk_callO rfl rfl rfl rfl (by kernel_rfl) evq rfl ?_; refine ⟨[], _, _, _, _, (fun S2 e a w hS hq => cL w (below_andThen hb (hS.frame.below rfl))), ?_⟩))) | refine go1 ?_ | refine end_block_other rfl ?_ | refine end_scope (fun _ h => by cases h) ?_ | (refine walk_endD ?_ ?_; (· kernel_rfl)) | refine tri_yesA rfl ?_ | refine tri_noA rfl ?_ | refine tri_trueA rfl ?_ | refine tri_falseA rfl ?_)
        refine walk_g (op_append rfl rfl rfl rfl rfl rfl rfl rfl rfl (by omega) (rdn_own (n := 28) rfl) oL (by omega) rfl) (by kernel_rfl) ?_
        repeat (first | (show WalkTo _ _ _ _ (_ :: _) _ _ _; first | (show HW2 (.load _ _); first | refine wz24 ?_ | refine wz22 ?_) | (show HW2 (.fieldAddr _ _ _); refine wz49 ?_) | (show HW2 (.call ⟨.value (.func 21), _, _⟩); (refine cwalkM 21 ?_; refine ⟨[], _, (fun S2 e a w hS hq => cR w (below_andThen hb (hS.frame.below rfl))), ?_⟩))) | refine go1 ?_ | refine end_block_other rfl ?_ | refine end_scope (fun _ h => by cases h) ?_ | (refine walk_endD ?_ ?_; (· kernel_rfl)) | refine tri_yesA rfl ?_ | refine tri_noA rfl ?_ | refine tri_trueA rfl ?_ | refine tri_falseA rfl ?_)
        refine walk_g (op_append rfl rfl rfl rfl rfl rfl rfl rfl rfl (by omega) (rdn_old fR (by omega) rfl) oR (by omega) rfl) (by kernel_rfl) ?_
        repeat (first | (show WalkTo _ _ _ _ (_ :: _) _ _ _; (show HW2 (.assign _); refine wz17 ?_)) | refine go1 ?_ | refine end_block_other rfl ?_ | refine end_scope (fun _ h => by cases h) ?_ | (refine walk_endD ?_ ?_; (· kernel_rfl)) | refine tri_yesA rfl ?_ | refine tri_noA rfl ?_ | refine tri_trueA rfl ?_ | refine tri_falseA rfl ?_)
        refine end_ret (.v 34) (res_tmp rfl rfl) ?_
        exact fin_own rfl
      · refine calls_tri Try.func21 rfl Try.ntmps21 rfl ?_
        repeat (first | (show Walk1 _ _ _ (_ :: _) _ _; first | (show HW1 (.move _); refine wz1 ?_) | (show HW1 (.assign _); refine wz2 ?_) | (show HW1 (.binOp .eql _ _ _ _); refine wz18 ?_) | (show HW1 (.indexAddr _ _ _); refine wz26 ?_) | (show HW1 (.load _ _); first | refine wz3 ?_ | refine wz51 ?_) | (show HW1 (.store _ _ _); refine wz14 ?_) | (show HW1 (.alloc _); refine wz6 ?_) | (show HW1 (.box _ _); refine wz11 ?_) | (show HW1 (.fieldAddr _ _ _); refine wz4 ?_)) | (show WalkTo _ _ _ _ (_ :: _) _ _ _; first | (show HW2 (.load _ _); first | refine wz24 ?_ | refine wz22 ?_) | (show HW2 (.fieldAddr _ _ _); refine wz49 ?_) | (show HW2 (.buildSlice _ _ _); refine walk_n (op_bslice0 (k := .u8) (m := 8) rfl rfl rfl rfl rfl rfl rfl) (by kernel_rfl) ?_) | (show HW2 (.call ⟨.value (.func 21), _, _⟩); (refine walk_callO rfl rfl rfl rfl (by kernel_rfl) evq rfl ?_; refine ⟨[], _, _, _, _, (fun S2 e a w hS hq => cL w (below_andThen hb (hS.frame.below rfl))), ?_⟩))) | refine go1 ?_ | refine end_block_other rfl ?_ | refine end_scope (fun _ h => by cases h) ?_ | (refine walk_endD ?_ ?_; (· kernel_rfl)) | refine tri_yesA rfl ?_ | refine tri_noA rfl ?_ | refine tri_trueA rfl ?_ | refine tri_falseA rfl ?_)
        refine walk_g (op_append rfl rfl rfl rfl rfl rfl rfl rfl rfl (by omega) (rdn_own (n := 28) rfl) oL (by omega) rfl) (by kernel_rfl) ?_
        repeat (first | (show WalkTo _ _ _ _ (_ :: _) _ _ _; first | (show HW2 (.load _ _); first | refine wz24 ?_ | refine wz22 ?_) | (show HW2 (.fieldAddr _ _ _); refine wz49 ?_) | (show HW2 (.call ⟨.value (.func 21), _, _⟩); (refine walk_callO rfl rfl rfl rfl (by kernel_rfl) evq rfl ?_; refine ⟨[], _, _, _, _, (fun S2 e a w hS hq => cR w (below_andThen hb (hS.frame.below rfl))), ?_⟩))) | refine go1 ?_ | refine end_block_other rfl ?_ | refine end_scope (fun _ h => by cases h) ?_ | (refine walk_endD ?_ ?_; (· kernel_rfl)) | refine tri_yesA rfl ?_ | refine tri_noA rfl ?_ | refine tri_trueA rfl ?_ | refine tri_falseA rfl ?_)
        refine walk_g (op_append rfl rfl rfl rfl rfl rfl rfl rfl rfl (by omega) (rdn_own (n := 33) rfl) oR (by omega) rfl) (by kernel_rfl) ?_
        repeat (first | (show WalkTo _ _ _ _ (_ :: _) _ _ _; (show HW2 (.assign _); refine wz17 ?_)) | refine go1 ?_ | refine end_block_other rfl ?_ | refine end_scope (fun _ h => by cases h) ?_ | (refine walk_endD ?_ ?_; (· kernel_rfl)) | refine tri_yesA rfl ?_ | refine tri_noA rfl ?_ | refine tri_trueA rfl ?_ | refine tri_falseA rfl ?_)
        refine end_ret (.v 34) (res_tmp rfl rfl) ?_
        exact fin_own rfl
end Go.Proofs.Ytcgmapioelfneaa
namespace Go.Proofs.Ytcgmapioelfneaa
open Go.RowKit
set_option maxRecDepth 100000
set_option maxHeartbeats 4000000
attribute [local irreducible] Calls Walk1 WalkTo Tri EndA
theorem boxR_any (v : Value) (l : List P3) (w : World) (hv : RdV w 3 v l.length (ptsC l)) (hl : l.length ≤ 100000) : Calls Try.prog 22 #[v] w fun e w' => e = .returned (.tuple #[.agg (boxP l).1.c, .agg (boxP l).2.c]) ∧ Below w.heap.size w w' := by
  have hrow : ∀ j p, l[j]? = some p → ((ptsC l).drop (0 + j * 3)).take 3 = p.c.toList := fun j p h => by
    rw [Nat.zero_add]
    exact flat_row (sz := 3) (f := fun p : P3 => p.c.toList) l (fun _ _ => rfl) j p h
  have hget : ∀ j s p, l[j]? = some p → s < 3 → (ptsC l)[0 + j * 3 + s]? = p.c.toList[s]? := fun j s p h hs => by
    rw [Nat.zero_add]
    exact flat_get (sz := 3) (f := fun p : P3 => p.c.toList) l (fun _ _ => rfl) j s p h hs
  have hpl : (ptsC l).length = l.length * 3 := flat_length (sz := 3) (f := fun p : P3 => p.c.toList) l fun _ _ => rfl
  have hz : boxN l 0 = (zP, zP) := rfl
  have hs : ∀ j, boxN l (j + 1) = if j = 0 then (minP (l.getD 0 zP) (l.getD 0 zP), maxP (l.getD 0 zP) (l.getD 0 zP)) else (minP (boxN l j).1 (l.getD j zP), maxP (boxN l j).2 (l.getD j zP)) := fun _ => rfl
  unfold boxP
  generalize boxN l = B at *
  generalize ptsC l = XS at *
  refine calls_tri Try.func22 rfl Try.ntmps22 rfl ?_
  by_cases h0 : l.length = 0
  · rw [h0, hz]
    simp only [zP, P3.c]
    repeat (first | (show Walk1 _ _ _ (_ :: _) _ _; first | (show HW1 (.move _); refine wz1 ?_) | (show HW1 (.binOp .eql _ _ _ _); refine wz30 ?_) | (show HW1 (.store _ _ _); refine wz14 ?_) | (show HW1 (.alloc _); refine wz6 ?_) | (show HW1 (.build _ _); refine wz32 ?_) | (show HW1 (.call ⟨.builtin .len, _, _⟩); refine wz27 ?_)) | refine go1 ?_ | refine end_block_other rfl ?_ | refine end_scope (fun _ h => by cases h) ?_ | (refine walk_endD ?_ ?_; (· kernel_rfl)) | refine tri_yesA rfl ?_ | refine tri_noA rfl ?_ | refine tri_trueA rfl ?_ | refine tri_falseA rfl ?_)
    refine end_ret _ (res_cells2 rfl rfl rfl rfl rfl rfl rfl rfl rfl rfl rfl rfl rfl) ?_
    exact fin_below fun _ => rfl
  obtain ⟨p0, hp0⟩ : ∃ p, l[0]? = some p := ⟨_, List.getElem?_eq_getElem (by omega)⟩
  have hg0 : l.getD 0 zP = p0 := by rw [List.getD_eq_getElem?_getD, hp0]; rfl
  have hB1 : B 1 = (p0, p0) := by
    rw [hs 0, if_pos rfl, hg0]
    simp [minP, maxP]
  have hr0 : (XS.drop (0 + 0 * 3)).take 3 = [.int .i64 p0.x, .int .i64 p0.y, .int .i64 p0.z] := hrow 0 p0 hp0
  have hlt0 : 0 + 0 * 3 + 3 ≤ XS.length := by omega
  repeat (first | (show Walk1 _ _ _ (_ :: _) _ _; first | (show HW1 (.move _); refine wz1 ?_) | (show HW1 (.assign _); refine wz13 ?_) | (show HW1 (.binOp .eql _ _ _ _); refine wz30 ?_) | (show HW1 (.alloc _); refine wz6 ?_) | (show HW1 (.call ⟨.builtin .len, _, _⟩); refine wz27 ?_)) | (show WalkTo _ _ _ _ (_ :: _) _ _ _; first | (show HW2 (.move _); refine wz20 ?_) | (show HW2 (.indexAddr _ _ _); refine wz45 ?_) | (show HW2 (.load _ _); refine wz58 ?_) | (show HW2 (.store _ _ _); refine wz48 ?_) | (show HW2 (.alloc _); refine wz43 ?_)) | refine go1 ?_ | refine end_block_other rfl ?_ | refine end_scope (fun _ h => by cases h) ?_ | (refine walk_endD ?_ ?_; (· kernel_rfl)) | refine tri_yesA rfl ?_ | refine tri_noA rfl ?_ | refine tri_trueA rfl ?_ | refine tri_falseA rfl ?_)
  refine tri_ent (ent_blkA 4 (.l [.c (.int .i64 p0.x), .c (.int .i64 p0.y), .c (.int .i64 p0.z)]) rfl (fun _ => rfl)) (tri_ent (ent_blkA 5 (.l [.c (.int .i64 p0.x), .c (.int .i64 p0.y), .c (.int .i64 p0.z)]) rfl (fun _ => rfl)) ?_)
  refine tri_loop (X := Nat) (fun j => ⟨[(6, SV.c (.int .i64 ((j : Nat) : Int))), (0, .c v), (2, .p 2 0), (3, .p 3 0), (4, .p 4 0), (5, .p 5 0)], [(2, some (.blk 2 32 (.c #[.int .i64 0, .int .i64 0, .int .i64 0]))), (3, some (.blk 3 32 (.c #[.int .i64 0, .int .i64 0, .int .i64 0]))), (4, some (.blk 4 32 (.l [.c (.int .i64 (B j).1.x), .c (.int .i64 (B j).1.y), .c (.int .i64 (B j).1.z)]))), (5, some (.blk 5 32 (.l [.c (.int .i64 (B j).2.x), .c (.int .i64 (B j).2.y), .c (.int .i64 (B j).2.z)])))]⟩)
    (fun j => 1 ≤ j ∧ j ≤ l.length) (fun j => l.length - j) 1 (by omega) (by rw [hB1]; exact ent_keep (by repeat (first | exact hasT_nil | refine hasT_cons rfl ?_ | refine hasT_eq rfl (svi (by omega)) ?_)) (by repeat (first | exact hasR_nil | refine hasR_cons rfl ?_))) ?_
  rintro j ⟨hj1, hj⟩ K next
  by_cases h : j < l.length
  · obtain ⟨p, hpj⟩ : ∃ p, l[j]? = some p := ⟨_, List.getElem?_eq_getElem h⟩
    have q0 := hget j 0 p hpj (by omega)
    have q1 := hget j 1 p hpj (by omega)
    have q2 := hget j 2 p hpj (by omega)
    have hgd : l.getD j zP = p := by rw [List.getD_eq_getElem?_getD, hpj]; rfl
    have hsj := hs j
    have nx := fun S' => next S' (j + 1)
    rw [hsj, if_neg (by omega), hgd] at nx
    clear next hs hrow hsj hget
    obtain ⟨x, y, z⟩ := p
    have q0 : XS[0 + j * 3]? = some (.int .i64 x) := q0
    have q1 : XS[0 + j * 3 + 1]? = some (.int .i64 y) := q1
    have q2 : XS[0 + j * 3 + 2]? = some (.int .i64 z) := q2
    generalize B j = Bj at *
    obtain ⟨⟨a, b, c⟩, ⟨a', b', c'⟩⟩ := Bj
    simp only [minP, maxP, P3.c] at nx ⊢
    repeat (first | (show Walk1 _ _ _ (_ :: _) _ _; first | (show HW1 (.move _); refine wz1 ?_) | (show HW1 (.assign _); refine wz2 ?_) | (show HW1 (.binOp .add _ _ _ _); refine wz10 ?_) | (show HW1 (.binOp .lss _ _ _ _); refine wz5 ?_) | (show HW1 (.call ⟨.builtin .len, _, _⟩); refine wz27 ?_)) | (show WalkTo _ _ _ _ (_ :: _) _ _ _; first | (show HW2 (.move _); refine wz20 ?_) | (show HW2 (.indexAddr _ _ _); refine wz45 ?_) | (show HW2 (.load _ _); first | refine wz24 ?_ | refine walk_t (op_loadF rfl rfl rfl rfl rfl rfl rfl rva (by omega) (by assumption)) ?_) | (show HW2 (.store _ _ _); refine wz108 ?_) | (show HW2 (.fieldAddr _ _ _); first | refine wz49 ?_ | refine wz62 ?_) | (show HW2 (.call ⟨.builtin .min, _, _⟩); refine wz95 ?_) | (show HW2 (.call ⟨.builtin .max, _, _⟩); refine walk_t (op_maxI rfl rfl rfl) ?_)) | refine go1 ?_ | refine end_block_other rfl ?_ | refine end_scope (fun _ h => by cases h) ?_ | (refine walk_endD ?_ ?_; (· kernel_rfl)) | refine tri_yesA rfl ?_ | refine tri_noA rfl ?_ | refine tri_trueA rfl ?_ | refine tri_falseA rfl ?_)
    exact nx _ (by omega) (by omega) (by exact ent_kp)
  · obtain rfl : j = l.length := by omega
    clear next hs hrow hget
    generalize B l.length = F at *
    obtain ⟨⟨a, b, c⟩, ⟨a', b', c'⟩⟩ := F
    simp only [P3.c] at *
    refine tri_ent (ent_blkA 4 (.c #[.int .i64 a, .int .i64 b, .int .i64 c]) rfl (fun _ => rfl)) (tri_ent (ent_blkA 5 (.c #[.int .i64 a', .int .i64 b', .int .i64 c']) rfl (fun _ => rfl)) ?_)
    repeat (first | (show Walk1 _ _ _ (_ :: _) _ _; first | (show HW1 (.move _); refine wz1 ?_) | (show HW1 (.binOp .lss _ _ _ _); refine wz5 ?_) | (show HW1 (.call ⟨.builtin .len, _, _⟩); refine wz27 ?_)) | (show WalkTo _ _ _ _ (_ :: _) _ _ _; first | (show HW2 (.load _ _); refine wz22 ?_) | (show HW2 (.store _ _ _); refine wz48 ?_)) | refine go1 ?_ | refine end_block_other rfl ?_ | refine end_scope (fun _ h => by cases h) ?_ | (refine walk_endD ?_ ?_; (· kernel_rfl)) | refine tri_yesA rfl ?_ | refine tri_noA rfl ?_ | refine tri_trueA rfl ?_ | refine tri_falseA rfl ?_)
    refine end_ret _ (res_cells2 rfl rfl rfl rfl rfl rfl rfl rfl rfl rfl rfl rfl rfl) ?_
    exact fin_below fun _ => rfl
end Go.Proofs.Ytcgmapioelfneaa
namespace Go.Proofs.Ytcgmapioelfneaa
open Go.RowKit
set_option maxRecDepth 100000
set_option maxHeartbeats 1000000
/-! ### which were met, counted -/
def onceI (K : List Nat) (n j : Nat) : List Nat := (List.range n).map fun q => if q ∈ K.take j then 1 else 0
theorem onceI_zero (K : List Nat) (n : Nat) : onceI K n 0 = List.replicate n 0 := by
  unfold onceI
  apply List.ext_getElem
  · simp
  · intro i h1 h2
    simp
theorem onceI_all {K : List Nat} {n : Nat} (hp : K.Perm (List.range n)) : onceI K n K.length = List.replicate n 1 := by
  unfold onceI
  rw [List.take_of_length_le (Nat.le_refl _)]
  apply List.ext_getElem
  · simp
  · intro i h1 h2
    simp only [List.length_map, List.length_range] at h1
    simp only [List.getElem_map, List.getElem_range, List.getElem_replicate]
    rw [if_pos ((hp.mem_iff (a := i)).2 (List.mem_range.2 h1))]
theorem onceI_get {K : List Nat} {n j k : Nat} (hp : K.Perm (List.range n)) (hk : K[j]? = some k) : k < n ∧ (onceI K n j)[k]? = some 0 ∧ (onceI K n j).set k 1 = onceI K n (j + 1) := by
  have hkn : k < n := List.mem_range.1 ((hp.mem_iff (a := k)).1 (List.mem_of_getElem? hk))
  have hnd : K.Nodup := hp.nodup_iff.2 List.nodup_range
  have htk : K.take (j + 1) = K.take j ++ [k] := by rw [List.take_add_one, hk]; rfl
  have hnot : k ∉ K.take j := fun h => by
    have h1 : (K.take (j + 1)).Nodup := hnd.sublist (List.take_sublist _ _)
    rw [htk, List.nodup_append] at h1
    exact h1.2.2 _ h _ (by simp) rfl
  refine ⟨hkn, ?_, ?_⟩
  · unfold onceI
    rw [List.getElem?_map, List.getElem?_range hkn, Option.map_some, if_neg hnot]
  · unfold onceI
    apply List.ext_getElem?
    intro q
    rw [List.getElem?_set]
    by_cases hq : q < n
    · rw [List.getElem?_map, List.getElem?_map, List.getElem?_range hq, Option.map_some, Option.map_some, htk]
      by_cases h1 : k = q
      · subst h1
        rw [if_pos rfl, if_pos (by simpa using hq), if_pos (by simp)]
      · rw [if_neg h1]
        congr 1
        simp only [List.mem_append, List.mem_singleton, Ne.symm h1, or_false]
    · rw [if_neg (by omega), List.getElem?_eq_none (by simp; omega), List.getElem?_eq_none (by simp; omega)]
/-! ### the leaves, from the first node on -/
def leafU (N : List NodeS) (n k : Nat) : List Nat := (List.range n).map fun q => sumF (covF N q) (List.range k)
theorem leafU_len (N : List NodeS) (n k : Nat) : (leafU N n k).length = n := by simp [leafU]
theorem leafU_zero (N : List NodeS) (n : Nat) : leafU N n 0 = List.replicate n 0 := by
  unfold leafU
  apply List.ext_getElem
  · simp
  · intro i h1 h2
    simp [sumF]
theorem leafU_le (N : List NodeS) (n k q : Nat) : (leafU N n k).getD q 0 ≤ k := by
  by_cases hq : q < n
  · unfold leafU
    rw [List.getD_eq_getElem?_getD, List.getElem?_map, List.getElem?_range hq, Option.map_some, Option.getD_some]
    induction k with
    | zero => simp [sumF]
    | succ k ih =>
      rw [sumF_range]
      have : covF N q k ≤ 1 := by unfold covF; split <;> omega
      omega
  · rw [List.getD_eq_getElem?_getD, List.getElem?_eq_none (by rw [leafU_len]; omega)]
    exact Nat.zero_le _
theorem leafU_leaf {N : List NodeS} {n k f c : Nat} (h1 : (nodeAt N k).left = -1) (h2 : (nodeAt N k).first = (f : Int)) (h3 : (nodeAt N k).count = (c : Int)) : leafU N n (k + 1) = addR (leafU N n k) f c := by
  apply List.ext_getElem?
  intro q
  by_cases hq : q < n
  · rw [addR_at _ _ _ q (by rw [leafU_len]; exact hq), List.getD_eq_getElem?_getD]
    unfold leafU
    rw [List.getElem?_map, List.getElem?_map, List.getElem?_range hq, Option.map_some, Option.map_some, sumF_range, Option.getD_some]
    congr 1
    congr 1
    unfold covF
    rw [h1, h2, h3]
    by_cases h : f ≤ q ∧ q < f + c
    · rw [if_pos h, if_pos ⟨rfl, by omega, by omega⟩]
    · rw [if_neg h, if_neg (by omega)]
  · rw [List.getElem?_eq_none (by rw [leafU_len]; omega), List.getElem?_eq_none (by rw [addR_len, leafU_len]; omega)]
theorem leafU_fork {N : List NodeS} {n k L : Nat} (h1 : (nodeAt N k).left = (L : Int)) : leafU N n (k + 1) = leafU N n k := by
  unfold leafU
  apply List.map_congr_left
  intro q _
  rw [sumF_range, covF, h1, if_neg (by omega)]
  rfl
theorem leafU_all {l : List TriS} {N : List NodeS} {K : List Nat} {M : Nat → List Nat} {D : Nat → Nat} (hS : SoundF l N K M D) : leafU N l.length N.length = List.replicate l.length 1 := by
  unfold leafU
  apply List.ext_getElem
  · simp
  · intro q q1 q2
    simp only [List.length_map, List.length_range] at q1
    simp only [List.getElem_map, List.getElem_range, List.getElem_replicate]
    rw [hS.cov q, if_pos q1]
/-! ### how often a node is led on to, ahead of it -/
theorem up_one {l : List TriS} {N : List NodeS} {K : List Nat} {M : Nat → List Nat} {D : Nat → Nat} (hS : SoundF l N K M D) {i : Nat} (hi : i < N.length) (h0 : 0 < i) : sumF (parF N i) (List.range i) = 1 := by
  have hz : ∀ k, i ≤ k → k < N.length → parF N i k = 0 := fun k h1 h2 => by
    obtain ⟨nd, hnd⟩ : ∃ nd, N[k]? = some nd := ⟨_, List.getElem?_eq_getElem h2⟩
    unfold parF
    rw [nodeAt_of hnd]
    rcases hS.nodes k nd hnd with ⟨f, c, ⟨e1, e2, _⟩, _⟩ | ⟨L, R, ⟨e1, e2, _, _, c1, c2, _⟩, _⟩
    · rw [e1, e2, if_neg (by omega)]
    · rw [e1, e2, if_neg (by omega), if_neg (by omega)]
  have hall : ∀ m, i + m ≤ N.length → sumF (parF N i) (List.range (i + m)) = sumF (parF N i) (List.range i) := by
    intro m
    induction m with
    | zero => intro _; rfl
    | succ m ih =>
      intro h
      rw [show i + (m + 1) = (i + m) + 1 by omega, sumF_range, ih (by omega), hz (i + m) (by omega) (by omega)]
      rfl
  have h1 := hall (N.length - i) (by omega)
  rw [show i + (N.length - i) = N.length by omega, hS.par i, if_pos ⟨hi, by omega⟩] at h1
  exact h1.symm
theorem up_le (N : List NodeS) (i : Nat) : ∀ k, sumF (parF N i) (List.range k) ≤ 2 * k
  | 0 => by simp [sumF]
  | k + 1 => by
    have := up_le N i k
    have : parF N i k ≤ 2 := by unfold parF; split <;> split <;> omega
    rw [sumF_range]
    omega
/-! ### the box of all corners -/
def plcL (l : List TriS) (ks : List Nat) : List P3 := ks.flatMap fun k => cornersT (l.getD k zT)
theorem plcL_snoc (l : List TriS) (ks : List Nat) (j k : Nat) (h : ks[j]? = some k) : plcL l (ks.take (j + 1)) = plcL l (ks.take j) ++ cornersT (l.getD k zT) := by
  unfold plcL
  rw [List.take_add_one, h, List.flatMap_append]
  simp
theorem plcL_len (l : List TriS) (ks : List Nat) : (plcL l ks).length = ks.length * 3 := by
  induction ks with
  | nil => rfl
  | cons k ks ih =>
    show (cornersT _ ++ plcL l ks).length = _
    rw [List.length_append, ih]
    simp [cornersT]
    omega
theorem box_places (l : List TriS) (ks : List Nat) (h : 1 ≤ ks.length) : BBx l ks (boxP (plcL l ks)) := by
  have hne : plcL l ks ≠ [] := fun h0 => by
    have := plcL_len l ks
    rw [h0] at this
    simp at this
    omega
  have hin : ∀ k ∈ ks, ∀ p ∈ cornersT (l.getD k zT), p ∈ plcL l ks := fun k hk p hp => List.mem_flatMap.2 ⟨k, hk, hp⟩
  have hc : ∀ t : TriS, cornersT t ≠ [] := fun t => by simp [cornersT]
  have h1 : ∀ k ∈ ks, ∀ a, axP (boxP (plcL l ks)).1 a ≤ axP (tbox (l.getD k zT)).1 a ∧ axP (tbox (l.getD k zT)).2 a ≤ axP (boxP (plcL l ks)).2 a := fun k hk a => by
    obtain ⟨⟨p, hp, e⟩, q, hq, e'⟩ := boxP_at (hc (l.getD k zT)) a
    have b1 := boxP_le (hin k hk p hp) a
    have b2 := boxP_le (hin k hk q hq) a
    exact ⟨by rw [tbox, ← e]; exact b1.1, by rw [tbox, ← e']; exact b2.2⟩
  refine ⟨h1, fun a => ?_⟩
  obtain ⟨⟨p, hp, e⟩, q, hq, e'⟩ := boxP_at hne a
  obtain ⟨k, hk, hpk⟩ := List.mem_flatMap.1 hp
  obtain ⟨k', hk', hqk⟩ := List.mem_flatMap.1 hq
  refine ⟨⟨k, hk, ?_⟩, k', hk', ?_⟩
  · have := (h1 k hk a).1
    have h3 := (boxP_le hpk a).1
    rw [tbox] at this ⊢
    omega
  · have := (h1 k' hk' a).2
    have h3 := (boxP_le hqk a).2
    rw [tbox] at this ⊢
    omega
/-! ### a slice of three rows -/
section
variable {C : Ctx} {ops : Array Oper} {S : St} {o : Oper}
theorem op_bsliceP3 {t T n : Nat} {parts : Array (Nat × Operand)} {x0 x1 x2 : Operand} {A0 A1 A2 : Array Value} {Z : Array Value} (ho : o.op = .buildSlice t 3 parts) (hp : parts = #[(0, x0), (1, x1), (2, x2)]) (hdn : o.dst = some n) (hg : o.guard = none) (hd : dstB o.dst C.nt = true)
    (h0 : S.ev x0 = some (.c (.agg A0))) (h1 : S.ev x1 = some (.c (.agg A1))) (h2 : S.ev x2 = some (.c (.agg A2))) (hu' : tabLook undT t = some (.slice T)) (hs' : tabLook sizT T = some 3) (hz' : tabLook zerT T = some Z) (hZ : Z.size = 3) (s0 : A0.size = 3) (s1 : A1.size = 3) (s2 : A2.size = 3) :
    OpG C Try.prog ops o S ⟨[x0, x1, x2].flatMap opT, [], [(n, .s n 0 3 3)], [(n, some (.blk n T (.c (A0 ++ A1 ++ A2))))], [n]⟩ := by
  refine opG_mk hg fun S' g1 g2 g3 e a w hS => ?_
  have hN := hS.newBlk (g3 n (by simp)) T (.c (A0 ++ A1 ++ A2)) (by simp [SA.c])
  have e0 : a.eval x0 = .agg A0 := hS.ev ((ev_like g1 fun _ h => List.mem_flatMap.2 ⟨x0, by simp, h⟩).trans h0)
  have e1 : a.eval x1 = .agg A1 := hS.ev ((ev_like g1 fun _ h => List.mem_flatMap.2 ⟨x1, by simp, h⟩).trans h1)
  have e2 : a.eval x2 = .agg A2 := hS.ev ((ev_like g1 fun _ h => List.mem_flatMap.2 ⟨x2, by simp, h⟩).trans h2)
  have hu := tabAll_look undT_ok hu'
  have hz := tabAll_look zerT_ok hz'
  obtain ⟨zv, hz3, hzc⟩ : ∃ zv, (zeroValue T).run Try.prog w = .ok zv w ∧ zv.cells = Z := by
    cases hb : (Try.prog.info? T) with
    | none => simp [hb] at hz
    | some i =>
      cases hc : i.zero with
      | none => simp [hb, hc] at hz
      | some zz => exact ⟨zz, by simp [zeroValue, typeInfo, hb, hc], by simpa [hb, hc] using hz⟩
  refine wp_value (v := .slice (some ⟨w.heap.size, 0, none⟩) 3 3) (w' := w.alloc (.cells (A0 ++ A1 ++ A2) T)) ?_ ⟨e.set n ⟨w.heap.size, 0, undef⟩, ?_⟩
  · simp only [execOp, ho, hp, Instr.buildSlice, Sem.run_bind, run_underlying hu w, Result.andThen_ok, run_sizeT hs' w, Sem.run_ite]
    simp only [show ¬ (3 * 3 > 2 ^ 24) from by omega, if_false, show ¬ (3 = 0) from by omega, Sem.run_bind, hz3, Result.andThen_ok, Sem.run_pure, hzc, List.map_toArray, List.map_cons, List.map_nil, e0, e1, e2]
    obtain ⟨z0, z1, z2, rfl⟩ := arr3p Z hZ
    obtain ⟨a0, a1, a2, rfl⟩ := arr3p A0 s0
    obtain ⟨b0, b1, b2, rfl⟩ := arr3p A1 s1
    obtain ⟨c0, c1, c2, rfl⟩ := arr3p A2 s2
    rw [show Instr.fill (fun i => some (i * 3, 3)) ((Array.range (3 * 3)).map fun x => (#[z0, z1, z2] : Array Value)[x % (#[z0, z1, z2] : Array Value).size]!) [(0, .agg #[a0, a1, a2]), (1, .agg #[b0, b1, b2]), (2, .agg #[c0, c1, c2])] = some (#[a0, a1, a2] ++ #[b0, b1, b2] ++ #[c0, c1, c2]) from by kernel_rfl]
    simp [newRow]
  · rw [hdn]
    have hd' : dstB (some n) C.nt = true := by rw [← hdn]; exact hd
    have := hN.put hd' (.s n 0 3 3)
    simp only [SV.s, Env.set_self] at this
    exact this
end
/-! ### a loop whose world is told anew at each round -/
theorem tri_loopC {C : Ctx} {P : Program} {S : St} {Q : Exit → Act → World → Prop} {X : Type} (CI : X → Ctx) (Inv : X → St) (I : X → Prop) (μ : X → Nat) (hS0 : ∀ e a w, Holds C S e a w → ∃ x e', I x ∧ Holds (CI x) (Inv x) e' a w) {body : Code}
    (round : ∀ x, I x → ∀ K : Act → World → Prop, (∀ e a w x', I x' → μ x' < μ x → Holds (CI x') (Inv x') e a w → K a w) → Tri (CI x) P (Inv x) body (Exit.then K Q)) : Tri C P S (.loop body) Q := by
  intro e a w hS
  obtain ⟨x0, e0, h0, h1⟩ := hS0 e a w hS
  refine wp_loop_ghost (fun n a w => ∃ x e, μ x = n ∧ I x ∧ Holds (CI x) (Inv x) e a w) (μ x0) ⟨x0, e0, rfl, h0, h1⟩ ?_
  rintro n a w ⟨x, e, rfl, hI, hx⟩
  exact round x hI _ (fun e a w x' hI' hlt h' => ⟨μ x', hlt, x', e, rfl, hI', h'⟩) e a w hx
end Go.Proofs.Ytcgmapioelfneaa
namespace Go.Proofs.Ytcgmapioelfneaa
open Go.RowKit
set_option maxRecDepth 100000
set_option maxHeartbeats 4000000
attribute [local irreducible] Calls Walk1 WalkTo Tri EndA
theorem soundR_nil (v1 v2 vl : Value) (w : World) (hv1 : FS w 10 v1 0 []) (hv2 : FS w 1 v2 0 []) (hvl : FS w 19 vl 0 []) :
    Calls Try.prog 10 #[.agg #[v1, v2], vl] w fun e w' => e = .returned (.bool true) ∧ Below w.heap.size w w' := by
  obtain ⟨M, D, hS⟩ := sound_of [] (fun t h => by cases h) (by decide)
  have cS := fun w h => shapedR_any hS (by decide) v1 v2 w h
  have hq : (treeL []).1 = [] := rfl
  rw [hq] at cS
  have cS : ∀ w, FS w 10 v1 0 [] → Calls Try.prog 20 #[.agg #[v1, v2]] w fun e w' => e = .returned (.bool true) ∧ Below w.heap.size w w' := cS
  obtain ⟨Z, hZ⟩ : ∃ Z, Z = (madeCells #[Value.int .i64 0] (0 * 1)).toList := ⟨_, rfl⟩
  clear hS hq
  refine calls_tri Try.func10 rfl Try.ntmps10 rfl ?_
  repeat (first | (show Walk1 _ _ _ (_ :: _) _ _; first | (show Walk1 _ _ _ (⟨_, _, _, _, _, some _⟩ :: _) _ _; first | refine zy1 ?_ | refine zn1 ?_) | (show HW1 (.move _); refine wz1 ?_) | (show HW1 (.assign _); first | refine wz13 ?_ | refine wz2 ?_) | (show HW1 (.binOp .gtr _ _ _ _); refine wz33 ?_) | (show HW1 (.binOp .eql _ _ _ _); refine wz30 ?_) | (show HW1 (.binOp .neq _ _ _ _); refine wz61 ?_) | (show HW1 (.pick _ _ _); first | refine wz8 ?_ | refine wz7 ?_) | (show HW1 (.unOp _ _ _); refine wz19 ?_) | (show HW1 (.load _ _); first | refine wz3 ?_ | refine wz9 ?_) | (show HW1 (.box _ _); refine wz11 ?_) | (show HW1 (.fieldAddr _ _ _); refine wz4 ?_) | (show HW1 (.makeSlice _ _ _); refine wz114 ?_) | (show HW1 (.call ⟨.builtin .len, _, _⟩); refine wz27 ?_) | (show HW1 (.call ⟨.value (.func 20), _, _⟩); (refine cwalk1M 20 ?_; refine ⟨_, _, callM_1 (rdn_old hv1.rd (by omega) rfl) (fun e w h1 => cS w ⟨h1, hv1.2⟩), ?_⟩))) | refine go1 ?_ | refine end_block_other rfl ?_ | refine end_scope (fun _ h => by cases h) ?_ | (refine walk_endD ?_ ?_; (· kernel_rfl)) | refine tri_yesA rfl ?_ | refine tri_noA rfl ?_ | refine tri_trueA rfl ?_ | refine tri_falseA rfl ?_)
  rw [← hZ]
  refine tri_loop (X := Nat) (fun j => ⟨[(7, SV.c (.int .i64 ((j : Nat) : Int))), (1, .c vl), (2, .p 2 0), (5, .v 56), (6, .v 59)], [(2, some (.blk 2 27 (.c #[v1, v2]))), (56, some (.own 56 3 1 0 Z)), (59, some (.own 59 3 1 0 Z))]⟩)
    (fun j => j = 0) (fun j => 0 - j) 0 rfl (by exact ent_kp) ?_
  rintro j rfl K next
  clear next
  repeat (first | (show Walk1 _ _ _ (_ :: _) _ _; first | (show HW1 (.move _); refine wz1 ?_) | (show HW1 (.assign _); refine wz13 ?_) | (show HW1 (.binOp .lss _ _ _ _); refine wz5 ?_) | (show HW1 (.load _ _); refine wz3 ?_) | (show HW1 (.fieldAddr _ _ _); refine wz4 ?_) | (show HW1 (.call ⟨.builtin .len, _, _⟩); refine wz27 ?_)) | refine go1 ?_ | refine end_block_other rfl ?_ | refine end_scope (fun _ h => by cases h) ?_ | (refine walk_endD ?_ ?_; (· kernel_rfl)) | refine tri_yesA rfl ?_ | refine tri_noA rfl ?_ | refine tri_trueA rfl ?_ | refine tri_falseA rfl ?_)
  refine tri_loop (X := Nat) (fun j => ⟨[(8, SV.c (.int .i64 ((j : Nat) : Int))), (1, .c vl), (2, .p 2 0), (5, .v 56), (6, .v 59)], [(2, some (.blk 2 27 (.c #[v1, v2]))), (56, some (.own 56 3 1 0 Z)), (59, some (.own 59 3 1 0 Z))]⟩)
    (fun j => j = 0) (fun j => 0 - j) 0 rfl (by exact ent_kp) ?_
  rintro j rfl K2 next
  clear next
  repeat (first | (show Walk1 _ _ _ (_ :: _) _ _; first | (show HW1 (.move _); refine wz1 ?_) | (show HW1 (.assign _); refine wz13 ?_) | (show HW1 (.binOp .lss _ _ _ _); refine wz5 ?_) | (show HW1 (.load _ _); refine wz3 ?_) | (show HW1 (.fieldAddr _ _ _); refine wz4 ?_) | (show HW1 (.call ⟨.builtin .len, _, _⟩); refine wz27 ?_)) | refine go1 ?_ | refine end_block_other rfl ?_ | refine end_scope (fun _ h => by cases h) ?_ | (refine walk_endD ?_ ?_; (· kernel_rfl)) | refine tri_yesA rfl ?_ | refine tri_noA rfl ?_ | refine tri_trueA rfl ?_ | refine tri_falseA rfl ?_)
  refine tri_loop (X := Nat) (fun j => ⟨[(13, SV.c (.int .i64 ((j : Nat) : Int))), (1, .c vl), (2, .p 2 0)], [(2, some (.blk 2 27 (.c #[v1, v2])))]⟩)
    (fun j => j = 0) (fun j => 0 - j) 0 rfl (by exact ent_kp) ?_
  rintro j rfl K3 next
  clear next
  repeat (first | (show Walk1 _ _ _ (_ :: _) _ _; first | (show HW1 (.move _); refine wz1 ?_) | (show HW1 (.assign _); refine wz13 ?_) | (show HW1 (.binOp .lss _ _ _ _); refine wz5 ?_) | (show HW1 (.call ⟨.builtin .len, _, _⟩); refine wz27 ?_)) | refine go1 ?_ | refine end_block_other rfl ?_ | refine end_scope (fun _ h => by cases h) ?_ | (refine walk_endD ?_ ?_; (· kernel_rfl)) | refine tri_yesA rfl ?_ | refine tri_noA rfl ?_ | refine tri_trueA rfl ?_ | refine tri_falseA rfl ?_)
  refine tri_loop (X := Nat) (fun j => ⟨[(14, SV.c (.int .i64 ((j : Nat) : Int))), (1, .c vl), (2, .p 2 0)], [(2, some (.blk 2 27 (.c #[v1, v2])))]⟩)
    (fun j => j = 0) (fun j => 0 - j) 0 rfl (by exact ent_kp) ?_
  rintro j rfl K4 next
  clear next
  repeat (first | (show Walk1 _ _ _ (_ :: _) _ _; first | (show HW1 (.move _); refine wz1 ?_) | (show HW1 (.assign _); refine wz2 ?_) | (show HW1 (.binOp .lss _ _ _ _); refine wz5 ?_) | (show HW1 (.load _ _); refine wz3 ?_) | (show HW1 (.fieldAddr _ _ _); refine wz4 ?_) | (show HW1 (.call ⟨.builtin .len, _, _⟩); refine wz27 ?_)) | refine go1 ?_ | refine end_block_other rfl ?_ | refine end_scope (fun _ h => by cases h) ?_ | (refine walk_endD ?_ ?_; (· kernel_rfl)) | refine tri_yesA rfl ?_ | refine tri_noA rfl ?_ | refine tri_trueA rfl ?_ | refine tri_falseA rfl ?_)
  refine end_ret (.c (.bool true)) (res_tmp rfl rfl) ?_
  exact fin_below fun _ => rfl
end Go.Proofs.Ytcgmapioelfneaa
