/- The first that answers yes; the part of an axis; a coordinate; the middle of a triangle: walked. No condition. A coordinate; the middle of a triangle: walked. No condition. How a part of a tree's order is sorted: the ways to compare, walked. No condition. -/
import Derived.Test.YtmpnkknocfaciaaSrtHI
import Derived.Test.YtmpnkknocfaciaaTre4
import Derived.Test.YtmpnkknocfaciaaWlk3
namespace Go.Proofs.Ytmpnkknocfaciaa
open Go.RowKit
set_option maxRecDepth 100000
set_option maxHeartbeats 1000000
/-- Where the first number that answers yes is, from i on. -/
def idxL (c : Nat → Bool) : List Nat → Nat → Int
  | [], _ => -1
  | x :: l, i => if c x then ((i : Nat) : Int) else idxL c l (i + 1)
attribute [local irreducible] Calls Walk1 WalkTo Tri EndA
theorem indexF_any (pre post : List Value) (ks : List Nat) (N cap b : Nat) (cv : Value) (w : World) (c : Nat → Bool) (M : Nat) (hM : 0 < M) (hd : ∀ x ∈ ks, x < M) (hN : N = ks.length) (hs : N ≤ 1099511627776) (hC : AskOK w [b] cv M c)
    (hB : Blk w b (segA pre post ks) 3) :
    Calls Try.prog 80 #[.slice (some ⟨b, pre.length, none⟩) N cap, cv] w (RetP w b 3 (segA pre post ks) (.int .i64 (idxL c ks 0))) := by
  have hdg : ∀ j, gtN ks j < M := fun j => gtN_lt hM hd j
  have hstep : ∀ j, j < ks.length → idxL c (ks.drop j) j = if c (gtN ks j) then ((j : Nat) : Int) else idxL c (ks.drop (j + 1)) (j + 1) := fun j hj => by
    obtain ⟨A1, x, A2, rfl, hA⟩ := split_at ks j hj
    subst hA
    rw [gtN_at _ _ _ _ rfl, List.drop_left, List.drop_length_add_append]
    rfl
  have hend : idxL c (ks.drop N) N = -1 := by rw [List.drop_of_length_le (by omega)]; rfl
  refine calls_triI hB Try.func80 rfl Try.ntmps80 rfl ?_
  repeat (first | (show Walk1 _ _ _ (_ :: _) _ _; first | (show Walk1 _ _ _ (⟨_, .move _, _, _, _, _⟩ :: _) _ _; first | refine walk1_t (op_moveN rfl rfl rfl rfl) ?_ | refine walk1_t (op_move rfl rfl rfl rfl) ?_) | (show Walk1 _ _ _ (⟨_, .assign _, _, _, _, _⟩ :: _) _ _; refine walk1_t (op_assignN rfl rfl rfl rfl) ?_) | (show Walk1 _ _ _ (⟨_, .call ⟨.builtin .len, _, _⟩, _, _, _, _⟩ :: _) _ _; refine walk1_t (op_lenC rfl rfl rfl) ?_)) | refine go1 ?_ | refine end_block_other rfl ?_ | refine end_scope (fun _ h => by cases h) ?_ | (refine walk_endD ?_ ?_; (· kernel_rfl)) | refine tri_yesA rfl ?_ | refine tri_noA rfl ?_ | refine tri_trueA rfl ?_ | refine tri_falseA rfl ?_)
  refine tri_loop (X := Nat) (fun j => ⟨[(8, SV.c (.int .i64 ((j : Nat) : Int))), (7, SV.c (.int .i64 ((N : Nat) : Int))), (0, .c (.slice (some ⟨b, pre.length, none⟩) N cap)), (1, .c cv)], [(1000, some (.blk 1000 3 (.c (segA pre post ks)))), (1001, some (.is 1000 b))]⟩)
    (fun j => j ≤ N ∧ idxL c (ks.drop j) j = idxL c ks 0) (fun j => N - j) 0 ⟨by omega, rfl⟩ (by exact ent_keep (by repeat (first | exact hasT_nil | refine hasT_cons rfl ?_ | refine hasT_eq rfl (svi (by omega)) ?_)) (by repeat (first | exact hasR_nil | refine hasR_cons rfl ?_))) ?_
  rintro j ⟨h1, h2⟩ K next
  by_cases h : j < N
  · have d1 := hdg j
    have hj := hstep j (by omega)
    have hlen : j < ks.length := by omega
    have nx := fun S' => next S' (j + 1)
    cases hcj : c (gtN ks j) with
    | true =>
      rw [hcj, if_pos rfl] at hj
      rw [← h2, hj]
      clear next nx hstep hend hd
      repeat (first | (show Walk1 _ _ _ (_ :: _) _ _; first | (show Walk1 _ _ _ (⟨_, .move _, _, _, _, _⟩ :: _) _ _; refine walk1_t (op_move rfl rfl rfl rfl) ?_) | (show Walk1 _ _ _ (⟨_, .assign _, _, _, _, _⟩ :: _) _ _; refine walk1_t (op_assign rfl rfl rfl rfl) ?_) | (show Walk1 _ _ _ (⟨_, .binOp .lss _ _ _ _, _, _, _, _⟩ :: _) _ _; refine walk1_t (op_ltN rfl rfl rfl (by first | exact evN_const rfl | exact rfl) (by first | exact evN_const rfl | exact rfl)) ?_) | (show Walk1 _ _ _ (⟨_, .indexAddr _ _ _, _, _, _, _⟩ :: _) _ _; refine walk1_t (op_idxC rfl rfl rfl rfl (by first | exact evK_const rfl | exact evK_tmp rfl) rfl rfl (by first | omega | decide) rfl) ?_) | (show Walk1 _ _ _ (⟨_, .load _ _, _, _, _, _⟩ :: _) _ _; refine walk1_t (op_loadW rfl rfl rfl rfl rfl rfl rfl rfl (by first | omega | (simp; omega) | (simp <;> fail) | omega)) ?_) | (show Walk1 _ _ _ (⟨_, .call ⟨.value (.tmp _), _, _⟩, _, _, _, _⟩ :: _) _ _; refine walk1_t (op_callAsk hC rfl rfl rfl rfl rfl d1) ?_)) | refine go1 ?_ | refine end_block_other rfl ?_ | refine end_scope (fun _ h => by cases h) ?_ | (refine walk_endD ?_ ?_; (· kernel_rfl)) | refine tri_yesA rfl ?_ | refine tri_noA rfl ?_ | refine tri_trueA rfl ?_ | refine tri_falseA rfl ?_)
      refine end_ret _ (res_tmp rfl rfl) ?_
      exact fin_obj rfl rfl (fun _ => rfl) (fun _ => rfl)
    | false =>
      rw [hcj, if_neg (by decide)] at hj
      clear next hstep hend hd
      repeat (first | (show Walk1 _ _ _ (_ :: _) _ _; first | (show Walk1 _ _ _ (⟨_, .move _, _, _, _, _⟩ :: _) _ _; refine walk1_t (op_move rfl rfl rfl rfl) ?_) | (show Walk1 _ _ _ (⟨_, .assign _, _, _, _, _⟩ :: _) _ _; refine walk1_t (op_assign rfl rfl rfl rfl) ?_) | (show Walk1 _ _ _ (⟨_, .binOp .add _ _ _ _, _, _, _, _⟩ :: _) _ _; refine walk1_t (op_addN rfl rfl rfl (by first | exact evN_const rfl | exact rfl) (by first | exact evN_const rfl | exact rfl) (by omega)) ?_) | (show Walk1 _ _ _ (⟨_, .binOp .lss _ _ _ _, _, _, _, _⟩ :: _) _ _; refine walk1_t (op_ltN rfl rfl rfl (by first | exact evN_const rfl | exact rfl) (by first | exact evN_const rfl | exact rfl)) ?_) | (show Walk1 _ _ _ (⟨_, .indexAddr _ _ _, _, _, _, _⟩ :: _) _ _; refine walk1_t (op_idxC rfl rfl rfl rfl (by first | exact evK_const rfl | exact evK_tmp rfl) rfl rfl (by first | omega | decide) rfl) ?_) | (show Walk1 _ _ _ (⟨_, .load _ _, _, _, _, _⟩ :: _) _ _; refine walk1_t (op_loadW rfl rfl rfl rfl rfl rfl rfl rfl (by first | omega | (simp; omega) | (simp <;> fail) | omega)) ?_) | (show Walk1 _ _ _ (⟨_, .call ⟨.value (.tmp _), _, _⟩, _, _, _, _⟩ :: _) _ _; refine walk1_t (op_callAsk hC rfl rfl rfl rfl rfl d1) ?_)) | refine go1 ?_ | refine end_block_other rfl ?_ | refine end_scope (fun _ h => by cases h) ?_ | (refine walk_endD ?_ ?_; (· kernel_rfl)) | refine tri_yesA rfl ?_ | refine tri_noA rfl ?_ | refine tri_trueA rfl ?_ | refine tri_falseA rfl ?_)
      exact nx _ ⟨by omega, by rw [← hj, h2]⟩ (by omega) (by exact ent_keep (by repeat (first | exact hasT_nil | refine hasT_cons rfl ?_ | refine hasT_eq rfl (svi (by omega)) ?_)) (by repeat (first | exact hasR_nil | refine hasR_cons rfl ?_)))
  · obtain rfl : j = N := by omega
    rw [← h2, hend]
    clear next hstep hend hd
    repeat (first | (show Walk1 _ _ _ (_ :: _) _ _; first | (show Walk1 _ _ _ (⟨_, .assign _, _, _, _, _⟩ :: _) _ _; refine walk1_t (op_assign rfl rfl rfl rfl) ?_) | (show Walk1 _ _ _ (⟨_, .binOp .lss _ _ _ _, _, _, _, _⟩ :: _) _ _; refine walk1_t (op_ltN rfl rfl rfl (by first | exact evN_const rfl | exact rfl) (by first | exact evN_const rfl | exact rfl)) ?_)) | refine go1 ?_ | refine end_block_other rfl ?_ | refine end_scope (fun _ h => by cases h) ?_ | (refine walk_endD ?_ ?_; (· kernel_rfl)) | refine tri_yesA rfl ?_ | refine tri_noA rfl ?_ | refine tri_trueA rfl ?_ | refine tri_falseA rfl ?_)
    refine end_ret _ (res_tmp rfl rfl) ?_
    exact fin_obj rfl rfl (fun _ => rfl) (fun _ => rfl)
def binI (n lo hi : Int) : Int := min (((n - lo) * 8).tdiv (hi - lo)) 7
theorem op_divI {C : Ctx} {ops : Array Oper} {S : St} {o : Oper} {ty yt : TypeId} {x y : Operand} {a b : Int} (ho : o.op = .binOp .quo ty x y yt) (hg : o.guard = none) (hd : dstB o.dst C.nt = true) (hx : EvI S x a) (hy : EvI S y b) (h : b ≠ 0) (hb : -1000000000 ≤ a ∧ a ≤ 1000000000) : OpG C Try.prog ops o S ⟨opT x ++ opT y, [], dw o.dst (.c (.int .i64 (a.tdiv b))), [], []⟩ :=
  op_int2 ho hg hd hx hy fun w => by
    rw [(run_div h).1, wrapI]
    have h1 := Int.natAbs_tdiv_le_natAbs a b
    omega
theorem bin_any (n lo hi : Int) (hn : -2097152 ≤ n ∧ n ≤ 2097152) (hl : -2097152 ≤ lo ∧ lo ≤ 2097152) (hh : -2097152 ≤ hi ∧ hi ≤ 2097152) (hne : hi - lo ≠ 0) (w : World) : Calls Try.prog 78 #[.int .i64 n, .int .i64 lo, .int .i64 hi] w fun e w' => e = .returned (.int .i64 (binI n lo hi)) ∧ Below w.heap.size w w' := by
  unfold binI
  refine calls_tri Try.func78 rfl Try.ntmps78 rfl ?_
  repeat (first | (show Walk1 _ _ _ (_ :: _) _ _; first | (show Walk1 _ _ _ (⟨_, .move _, _, _, _, _⟩ :: _) _ _; refine walk1_t (op_move rfl rfl rfl rfl) ?_) | (show Walk1 _ _ _ (⟨_, .assign _, _, _, _, _⟩ :: _) _ _; refine walk1_t (op_assignN rfl rfl rfl rfl) ?_) | (show Walk1 _ _ _ (⟨_, .binOp .sub _ _ _ _, _, _, _, _⟩ :: _) _ _; refine walk1_t (op_subI rfl rfl rfl rfl rfl (by omega)) ?_) | (show Walk1 _ _ _ (⟨_, .binOp .mul _ _ _ _, _, _, _, _⟩ :: _) _ _; refine walk1_t (op_mulI rfl rfl rfl rfl rfl (by omega)) ?_)) | refine go1 ?_ | refine end_block_other rfl ?_ | refine end_scope (fun _ h => by cases h) ?_ | (refine walk_endD ?_ ?_; (· kernel_rfl)) | refine tri_yesA rfl ?_ | refine tri_noA rfl ?_ | refine tri_trueA rfl ?_ | refine tri_falseA rfl ?_)
  refine walk1_t (op_divI rfl rfl rfl rfl rfl hne (by omega)) ?_
  repeat (first | (show Walk1 _ _ _ (_ :: _) _ _; first | (show Walk1 _ _ _ (⟨_, .assign _, _, _, _, _⟩ :: _) _ _; refine walk1_t (op_assign rfl rfl rfl rfl) ?_) | (show Walk1 _ _ _ (⟨_, .call ⟨.builtin .min, _, _⟩, _, _, _, _⟩ :: _) _ _; refine walk1_t (op_minI rfl rfl rfl) ?_)) | refine go1 ?_ | refine end_block_other rfl ?_ | refine end_scope (fun _ h => by cases h) ?_ | (refine walk_endD ?_ ?_; (· kernel_rfl)) | refine tri_yesA rfl ?_ | refine tri_noA rfl ?_ | refine tri_trueA rfl ?_ | refine tri_falseA rfl ?_)
  refine end_ret _ (res_tmp rfl rfl) ?_
  exact fin_below fun _ => rfl
end Go.Proofs.Ytmpnkknocfaciaa
namespace Go.Proofs.Ytmpnkknocfaciaa
open Go.RowKit
set_option maxRecDepth 100000
set_option maxHeartbeats 1000000
def axP (p : P3) (i : Nat) : Int := if i = 0 then p.x else if i = 1 then p.y else p.z
def midT (t : TriS) : P3 := ⟨(tbox t).1.x + (tbox t).2.x, (tbox t).1.y + (tbox t).2.y, (tbox t).1.z + (tbox t).2.z⟩
/-- No part of a place has a size above m. -/
def smB (m : Int) (p : P3) : Prop := (-m ≤ p.x ∧ p.x ≤ m) ∧ (-m ≤ p.y ∧ p.y ≤ m) ∧ (-m ≤ p.z ∧ p.z ≤ m)
def nearT (t : TriS) : Prop := smB 1048576 (tbox t).1 ∧ smB 1048576 (tbox t).2
theorem midT_sm {t : TriS} (h : nearT t) : smB 2097152 (midT t) := by
  unfold nearT smB midT at *
  dsimp only at *
  omega
theorem axP_sm {m : Int} {p : P3} (h : smB m p) (i : Nat) : -m ≤ axP p i ∧ axP p i ≤ m := by
  unfold smB at h
  unfold axP
  split
  · exact h.1
  · split
    · exact h.2.1
    · exact h.2.2
attribute [local irreducible] Calls Walk1 WalkTo Tri EndA
theorem axis_any (p : P3) (i : Nat) (hi : i < 3) (w : World) : Calls Try.prog 73 #[.agg p.c, .int .i64 ((i : Nat) : Int)] w fun e w' => e = .returned (.int .i64 (axP p i)) ∧ Below w.heap.size w w' := by
  obtain ⟨x, y, z⟩ := p
  obtain rfl | rfl | rfl : i = 0 ∨ i = 1 ∨ i = 2 := by omega
  all_goals
    simp only [axP, P3.c]
    refine calls_tri Try.func73 rfl Try.ntmps73 rfl ?_
    repeat (first | (show Walk1 _ _ _ (_ :: _) _ _; first | (show Walk1 _ _ _ (⟨_, .assign _, _, _, _, _⟩ :: _) _ _; refine walk1_t (op_assignN rfl rfl rfl rfl) ?_) | (show Walk1 _ _ _ (⟨_, .load _ _, _, _, _, _⟩ :: _) _ _; refine walk1_t (op_load rfl rfl rfl rfl rfl rfl rfl) ?_) | (show Walk1 _ _ _ (⟨_, .box _ _, _, _, _, _⟩ :: _) _ _; refine walk1_n (op_box rfl rfl rfl rfl rfl) (by kernel_rfl) ?_) | (show Walk1 _ _ _ (⟨_, .fieldAddr _ _ _, _, _, _, _⟩ :: _) _ _; refine walk1_t (op_fldT rfl rfl rfl rfl rfl rfl off_zero) ?_)) | refine go1 ?_ | refine end_block_other rfl ?_ | refine end_scope (fun _ h => by cases h) ?_ | (refine walk_endD ?_ ?_; (· kernel_rfl)) | refine tri_yesA rfl ?_ | refine tri_noA rfl ?_ | refine tri_trueA rfl ?_ | refine tri_falseA rfl ?_)
    refine walk1_t (op_buildA (parts := [(0, .tmp 6), (1, .tmp 8), (2, .tmp 10)]) (vs := [.int .i64 x, .int .i64 y, .int .i64 z]) #[.int .i64 x, .int .i64 y, .int .i64 z] rfl rfl rfl rfl rfl rfl rfl (by kernel_rfl)) ?_
    repeat (first | (show Walk1 _ _ _ (_ :: _) _ _; first | (show Walk1 _ _ _ (⟨_, .move _, _, _, _, _⟩ :: _) _ _; refine walk1_t (op_move rfl rfl rfl rfl) ?_) | (show Walk1 _ _ _ (⟨_, .assign _, _, _, _, _⟩ :: _) _ _; refine walk1_t (op_assign rfl rfl rfl rfl) ?_) | (show Walk1 _ _ _ (⟨_, .index _ _ _, _, _, _, _⟩ :: _) _ _; refine walk1_t (op_index rfl rfl rfl rfl (by first | exact evK_const rfl | exact evK_tmp rfl) rfl rfl rfl rfl (by first | omega | decide) rfl) ?_)) | refine go1 ?_ | refine end_block_other rfl ?_ | refine end_scope (fun _ h => by cases h) ?_ | (refine walk_endD ?_ ?_; (· kernel_rfl)) | refine tri_yesA rfl ?_ | refine tri_noA rfl ?_ | refine tri_trueA rfl ?_ | refine tri_falseA rfl ?_)
    refine end_ret _ (res_tmp rfl rfl) ?_
    exact fin_below fun _ => rfl
theorem middle_any (t : TriS) (ht : t.ok) (hn : nearT t) (w : World) : Calls Try.prog 72 #[.agg (triC t).toArray] w fun e w' => e = .returned (.agg (midT t).c) ∧ Below w.heap.size w w' := by
  have c1 := fun (v : Value) (w : World) h => boxT_any v [t.p0, t.p1, t.p2] w h (by simp)
  have ht9 : ((triC t).toArray.toList.drop 0).take (ptsC [t.p0, t.p1, t.p2]).length = ptsC [t.p0, t.p1, t.p2] := by
    rw [triC]
    rfl
  have hts : (triC t).toArray.size = 19 := by rw [List.size_toArray]; exact triC_length t ht
  unfold nearT smB midT tbox cornersT at *
  generalize boxP [t.p0, t.p1, t.p2] = F at *
  obtain ⟨⟨a, b, c⟩, ⟨a', b', c'⟩⟩ := F
  simp only [P3.c] at hn c1 ⊢
  generalize triC t = TC at *
  refine calls_tri Try.func72 rfl Try.ntmps72 rfl ?_
  repeat (first | (show Walk1 _ _ _ (_ :: _) _ _; first | (show Walk1 _ _ _ (⟨_, .move _, _, _, _, _⟩ :: _) _ _; refine walk1_t (op_move rfl rfl rfl rfl) ?_) | (show Walk1 _ _ _ (⟨_, .binOp .add _ _ _ _, _, _, _, _⟩ :: _) _ _; refine walk1_t (op_addI rfl rfl rfl rfl rfl (by omega)) ?_) | (show Walk1 _ _ _ (⟨_, .load _ _, _, _, _, _⟩ :: _) _ _; refine walk1_t (op_load rfl rfl rfl rfl rfl rfl rfl) ?_) | (show Walk1 _ _ _ (⟨_, .store _ _ _, _, _, _, _⟩ :: _) _ _; first | refine walk1_b (op_stores rfl rfl rfl rfl rfl rfl rfl) ?_ | refine walk1_b (op_storesM rfl rfl rfl rfl rfl rfl rfl) ?_) | (show Walk1 _ _ _ (⟨_, .alloc _, _, _, _, _⟩ :: _) _ _; refine walk1_n (op_alloc rfl rfl rfl rfl rfl) (by kernel_rfl) ?_) | (show Walk1 _ _ _ (⟨_, .box _ _, _, _, _, _⟩ :: _) _ _; refine walk1_n (op_box rfl rfl rfl rfl rfl) (by kernel_rfl) ?_) | (show Walk1 _ _ _ (⟨_, .fieldAddr _ _ _, _, _, _, _⟩ :: _) _ _; refine walk1_t (op_fldT rfl rfl rfl rfl rfl rfl off_zero) ?_) | (show Walk1 _ _ _ (⟨_, .extract _ _, _, _, _, _⟩ :: _) _ _; first | refine walk1_t (op_ext0 rfl rfl rfl rfl) ?_ | refine walk1_t (op_ext1 rfl rfl rfl rfl) ?_) | (show Walk1 _ _ _ (⟨_, .build _ _, _, _, _, _⟩ :: _) _ _; refine walk1_t (op_buildS rfl rfl rfl rfl) ?_) | (show Walk1 _ _ _ (⟨_, .slice _ _ _ _ _, _, _, _, _⟩ :: _) _ _; refine walk1_t (op_cutP0 rfl rfl rfl rfl rfl rfl (by first | exact evO_none | exact evO_some (by first | exact evK_const rfl | exact evK_tmp rfl)) (by first | omega | decide)) ?_) | (show Walk1 _ _ _ (⟨_, .call ⟨.value (.func 19), _, _⟩, _, _, _, _⟩ :: _) _ _; (refine walk1_callM rfl rfl rfl rfl (by repeat (first | exact evs_nil | apply evs_cons rfl)) rfl ?_; refine ⟨_, _, callM_1 (rdn_part (n := 1) _ rfl ht9 rfl) (fun e w h1 => c1 _ w h1), ?_⟩))) | refine go1 ?_ | refine end_block_other rfl ?_ | refine end_scope (fun _ h => by cases h) ?_ | (refine walk_endD ?_ ?_; (· kernel_rfl)) | refine tri_yesA rfl ?_ | refine tri_noA rfl ?_ | refine tri_trueA rfl ?_ | refine tri_falseA rfl ?_)
  refine end_ret (.c (.agg #[.int .i64 (a + a'), .int .i64 (b + b'), .int .i64 (c + c')])) (res_cells rfl rfl rfl rfl rfl rfl (fun _ => rfl) (fun _ => rfl)) ?_
  exact fin_below fun _ => rfl
end Go.Proofs.Ytmpnkknocfaciaa
namespace Go.Proofs.Ytmpnkknocfaciaa
open Go.RowKit
set_option maxRecDepth 100000
set_option maxHeartbeats 1000000
section
variable {C : Ctx} {ops : Array Oper} {S : St} {o : Oper}
theorem op_ldC {ty : TypeId} {x : Operand} {b off : Nat} {xs : Array Value} {T : TypeId} {u : Value} {d : TypeDesc} (ho : o.op = .load ty x) (hg : o.guard = none) (hd : dstB o.dst C.nt = true) (hx : S.ev x = some (.c (.pointer (some ⟨b, off, none⟩)))) (hm : C.m = []) (hB : Blk C.w0 b xs T) (hu' : tabLook undT ty = some d) (hda : d.isRow = false) (hv : xs[off]? = some u) :
    OpG C Try.prog ops o S ⟨opT x, [], dw o.dst (.c u), [], []⟩ := by
  have hc : C.w0.cell? ⟨b, off, none⟩ = some u := (cell_of_row C.w0 b off xs T (0, 0) hB).trans hv
  have hlt := World.block_lt_of_cell? C.w0 ⟨b, off, none⟩ hc
  exact op_loado ho hg hd hx hu' hda hlt (by rw [hm]; simp) hc
theorem op_callAskV {c : Nat → Bool} {p : Nat} {v : Bool} {cv : Value} {N t0 : Nat} {x : Operand} {ats : Array TypeId} (hv : c p = v) (H : AskOK C.w0 C.m cv N c) (ho : o.op = .call { callee := .value (.tmp t0), args := #[x], argTypes := ats }) (hcal : S.ev (.tmp t0) = some (.c cv)) (hg : o.guard = none) (hd : dstB o.dst C.nt = true) (hx : S.ev x = some (.c (.int .i64 ((p : Nat) : Int)))) (hp : p < N) :
    OpG C Try.prog ops o S ⟨[t0] ++ opT x, [], dw o.dst (.c (.bool v)), [], []⟩ := by subst hv; exact op_callAsk H ho hcal hg hd hx hp
end
theorem Blk.laterX {w w' : World} {b : Nat} {xs : Array Value} {T : TypeId} {m : List Nat} (h : Blk w b xs T) (hw : BelowX w w' m) (hb : b ∉ m) : Blk w' b xs T := (hw.block b h.lt hb).trans h
theorem RdX.later {w w1 : World} {m : List Nat} {size : Nat} {v : Value} {n : Nat} {xs : List Value} (h : RdX w m size v n xs) (hw : BelowX w w1 m) : RdX w1 m size v n xs := fun _ h1 => h _ (hw.trans h1)
theorem AskOK.later {w0 w1 : World} {m : List Nat} {cv : Value} {N : Nat} {c : Nat → Bool} (h : AskOK w0 m cv N c) (hw : BelowX w0 w1 m) : AskOK w1 m cv N c := by
  obtain ⟨j, caps, h1, h2⟩ := h.ex
  exact ⟨j, caps, h1, fun w' h3 => h2 w' (hw.trans h3)⟩
/-- Where a triangle's middle is on an axis. -/
def kyL (l : List TriS) (k i : Nat) : Int := axP (midT (l.getD i zT)) k
def rgL (l : List TriS) (k : Nat) (fr to c : Int) (i : Nat) : Bool := decide (c ≤ binI (kyL l k i) fr to)
theorem getD_of_tri {l : List TriS} {i : Nat} {t : TriS} (h : l[i]? = some t) : l.getD i zT = t := by rw [List.getD_eq_getElem?_getD, h]; rfl
theorem tri_row {l : List TriS} (hok : ∀ t ∈ l, t.ok) {j : Nat} {t : TriS} (h : l[j]? = some t) : ((trisC l).drop (0 + j * 19)).take 19 = triC t := by
  rw [Nat.zero_add]
  exact flat_row (sz := 19) (f := triC) l (fun t ht => triC_length t (hok t ht)) j t h
attribute [local irreducible] Calls Walk1 WalkTo Tri EndA
theorem cmpA_any (l : List TriS) (hok : ∀ t ∈ l, t.ok) (hnr : ∀ t ∈ l, nearT t) (vl : Value) (k : Nat) (hk : k < 3) (b1 b2 : Nat) (w : World) (hB1 : Blk w b1 #[vl] 22) (hB2 : Blk w b2 #[.int .i64 ((k : Nat) : Int)] 3) (hvl : RdV w 19 vl l.length (trisC l)) (x y : Nat) (hx : x < l.length) (hy : y < l.length) :
    Calls Try.prog 75 #[.int .i64 ((x : Nat) : Int), .int .i64 ((y : Nat) : Int), .pointer (some ⟨b1, 0, none⟩), .pointer (some ⟨b2, 0, none⟩)] w fun e w' => e = .returned (.int .i64 (kyL l k x - kyL l k y)) ∧ Below w.heap.size w w' := by
  obtain ⟨t, ht⟩ : ∃ t, l[x]? = some t := ⟨_, List.getElem?_eq_getElem hx⟩
  obtain ⟨u, hu⟩ : ∃ t, l[y]? = some t := ⟨_, List.getElem?_eq_getElem hy⟩
  have htm := List.mem_of_getElem? ht
  have hum := List.mem_of_getElem? hu
  have r1 := tri_row hok ht
  have r2 := tri_row hok hu
  have hlen := tris_len l hok
  unfold kyL
  rw [getD_of_tri ht, getD_of_tri hu]
  have c1 := fun w => middle_any t (hok t htm) (hnr t htm) w
  have c2 := fun w => middle_any u (hok u hum) (hnr u hum) w
  have c3 := fun w => axis_any (midT t) k hk w
  have c4 := fun w => axis_any (midT u) k hk w
  have b3 := axP_sm (midT_sm (hnr t htm)) k
  have b4 := axP_sm (midT_sm (hnr u hum)) k
  generalize axP (midT t) k = A at *
  generalize axP (midT u) k = B at *
  generalize (midT t).c = MT at *
  generalize (midT u).c = MU at *
  generalize triC t = TC at *
  generalize triC u = UC at *
  generalize trisC l = XS at *
  have hv1 : (#[vl] : Array Value)[0]? = some vl := rfl
  have hv2 : (#[.int .i64 ((k : Nat) : Int)] : Array Value)[0]? = some (.int .i64 ((k : Nat) : Int)) := rfl
  have i1 : x * 19 + 19 ≤ XS.length := by omega
  have i2 : y * 19 + 19 ≤ XS.length := by omega
  clear htm hum ht hu hok hnr hlen
  refine calls_tri Try.func75 rfl Try.ntmps75 rfl ?_
  repeat (first | (show Walk1 _ _ _ (_ :: _) _ _; (show Walk1 _ _ _ (⟨_, .assign _, _, _, _, _⟩ :: _) _ _; refine walk1_t (op_assignN rfl rfl rfl rfl) ?_)) | (show WalkTo _ _ _ _ (_ :: _) _ _ _; first | (show WalkTo _ _ _ _ (⟨_, .move _, _, _, _, _⟩ :: _) _ _ _; refine walk_t (op_move rfl rfl rfl rfl) ?_) | (show WalkTo _ _ _ _ (⟨_, .assign _, _, _, _, _⟩ :: _) _ _ _; refine walk_t (op_assign rfl rfl rfl rfl) ?_) | (show WalkTo _ _ _ _ (⟨_, .binOp .sub _ _ _ _, _, _, _, _⟩ :: _) _ _ _; refine walk_t (op_subI rfl rfl rfl rfl rfl (by omega)) ?_) | (show WalkTo _ _ _ _ (⟨_, .indexAddr _ _ _, _, _, _, _⟩ :: _) _ _ _; refine walk_t (op_idxF rfl rfl rfl rfl (by first | exact evK_const rfl | exact evK_tmp rfl) rfl rfl (by first | assumption | exact FS.rd (by first | assumption | exact FSX.fs (by assumption) | (refine FS.cutB (by assumption) ?_; omega) | (refine FS.cut (by assumption) ?_; omega))) (by first | omega | decide) rfl) ?_) | (show WalkTo _ _ _ _ (⟨_, .load _ _, _, _, _, _⟩ :: _) _ _ _; first | refine walk_t (op_loadsF rfl rfl rfl rfl rfl (by first | assumption | exact FS.rd (by first | assumption | exact FSX.fs (by assumption) | (refine FS.cutB (by assumption) ?_; omega) | (refine FS.cut (by assumption) ?_; omega))) rfl rfl rfl (by decide) (by first | omega | decide) (by first | (with_reducible assumption) | rfl)) ?_ | refine walk_t (op_ldC rfl rfl rfl rfl rfl (by assumption) rfl rfl (by with_reducible assumption)) ?_) | (show WalkTo _ _ _ _ (⟨_, .call ⟨.value (.func 72), _, _⟩, _, _, _, _⟩ :: _) _ _ _; ((first | refine walk_call rfl rfl rfl rfl (by repeat (first | exact evs_nil | apply evs_cons rfl)) rfl ?_ | refine walk_call0 rfl rfl rfl (by repeat (first | exact evs_nil | apply evs_cons rfl)) rfl ?_); refine ⟨_, fun e w => c1 w, ?_⟩)) | (show WalkTo _ _ _ _ (⟨_, .call ⟨.value (.func 72), _, _⟩, _, _, _, _⟩ :: _) _ _ _; ((first | refine walk_call rfl rfl rfl rfl (by repeat (first | exact evs_nil | apply evs_cons rfl)) rfl ?_ | refine walk_call0 rfl rfl rfl (by repeat (first | exact evs_nil | apply evs_cons rfl)) rfl ?_); refine ⟨_, fun e w => c2 w, ?_⟩)) | (show WalkTo _ _ _ _ (⟨_, .call ⟨.value (.func 73), _, _⟩, _, _, _, _⟩ :: _) _ _ _; ((first | refine walk_call rfl rfl rfl rfl (by repeat (first | exact evs_nil | apply evs_cons rfl)) rfl ?_ | refine walk_call0 rfl rfl rfl (by repeat (first | exact evs_nil | apply evs_cons rfl)) rfl ?_); refine ⟨_, fun e w => c3 w, ?_⟩)) | (show WalkTo _ _ _ _ (⟨_, .call ⟨.value (.func 73), _, _⟩, _, _, _, _⟩ :: _) _ _ _; ((first | refine walk_call rfl rfl rfl rfl (by repeat (first | exact evs_nil | apply evs_cons rfl)) rfl ?_ | refine walk_call0 rfl rfl rfl (by repeat (first | exact evs_nil | apply evs_cons rfl)) rfl ?_); refine ⟨_, fun e w => c4 w, ?_⟩))) | refine go1 ?_ | refine end_block_other rfl ?_ | refine end_scope (fun _ h => by cases h) ?_ | (refine walk_endD ?_ ?_; (· kernel_rfl)) | refine tri_yesA rfl ?_ | refine tri_noA rfl ?_ | refine tri_trueA rfl ?_ | refine tri_falseA rfl ?_)
  refine end_ret _ (res_tmp rfl rfl) ?_
  exact fin_below fun _ => rfl
theorem askB_any (l : List TriS) (hok : ∀ t ∈ l, t.ok) (hnr : ∀ t ∈ l, nearT t) (vl : Value) (k : Nat) (hk : k < 3) (fr to c : Int) (hfr : -2097152 ≤ fr ∧ fr ≤ 2097152) (hto : -2097152 ≤ to ∧ to ≤ 2097152) (hne : to - fr ≠ 0) (b1 b2 b3 b4 b5 : Nat) (w : World) (hB1 : Blk w b1 #[vl] 22) (hB2 : Blk w b2 #[.int .i64 ((k : Nat) : Int)] 3) (hB3 : Blk w b3 #[.int .i64 fr] 3) (hB4 : Blk w b4 #[.int .i64 to] 3) (hB5 : Blk w b5 #[.int .i64 c] 3) (hvl : RdV w 19 vl l.length (trisC l)) (x : Nat) (hx : x < l.length) :
    Calls Try.prog 77 #[.int .i64 ((x : Nat) : Int), .pointer (some ⟨b1, 0, none⟩), .pointer (some ⟨b2, 0, none⟩), .pointer (some ⟨b3, 0, none⟩), .pointer (some ⟨b4, 0, none⟩), .pointer (some ⟨b5, 0, none⟩)] w fun e w' => e = .returned (.bool (rgL l k fr to c x)) ∧ Below w.heap.size w w' := by
  obtain ⟨t, ht⟩ : ∃ t, l[x]? = some t := ⟨_, List.getElem?_eq_getElem hx⟩
  have htm := List.mem_of_getElem? ht
  have r1 := tri_row hok ht
  have hlen := tris_len l hok
  unfold rgL kyL
  rw [getD_of_tri ht]
  have c1 := fun w => middle_any t (hok t htm) (hnr t htm) w
  have c3 := fun w => axis_any (midT t) k hk w
  have q3 := axP_sm (midT_sm (hnr t htm)) k
  have c4 := fun w => bin_any (axP (midT t) k) fr to q3 hfr hto hne w
  generalize binI (axP (midT t) k) fr to = D at *
  generalize axP (midT t) k = A at *
  generalize (midT t).c = MT at *
  generalize triC t = TC at *
  generalize trisC l = XS at *
  have hv1 : (#[vl] : Array Value)[0]? = some vl := rfl
  have hv2 : (#[.int .i64 ((k : Nat) : Int)] : Array Value)[0]? = some (.int .i64 ((k : Nat) : Int)) := rfl
  have hv3 : (#[.int .i64 fr] : Array Value)[0]? = some (.int .i64 fr) := rfl
  have hv4 : (#[.int .i64 to] : Array Value)[0]? = some (.int .i64 to) := rfl
  have hv5 : (#[.int .i64 c] : Array Value)[0]? = some (.int .i64 c) := rfl
  have i1 : x * 19 + 19 ≤ XS.length := by omega
  clear htm ht hok hnr hlen q3
  refine calls_tri Try.func77 rfl Try.ntmps77 rfl ?_
  repeat (first | (show Walk1 _ _ _ (_ :: _) _ _; (show Walk1 _ _ _ (⟨_, .assign _, _, _, _, _⟩ :: _) _ _; refine walk1_t (op_assign rfl rfl rfl rfl) ?_)) | (show WalkTo _ _ _ _ (_ :: _) _ _ _; first | (show WalkTo _ _ _ _ (⟨_, .move _, _, _, _, _⟩ :: _) _ _ _; refine walk_t (op_move rfl rfl rfl rfl) ?_) | (show WalkTo _ _ _ _ (⟨_, .assign _, _, _, _, _⟩ :: _) _ _ _; refine walk_t (op_assign rfl rfl rfl rfl) ?_) | (show WalkTo _ _ _ _ (⟨_, .binOp .geq _ _ _ _, _, _, _, _⟩ :: _) _ _ _; refine walk_t (op_geI rfl rfl rfl rfl rfl) ?_) | (show WalkTo _ _ _ _ (⟨_, .indexAddr _ _ _, _, _, _, _⟩ :: _) _ _ _; refine walk_t (op_idxF rfl rfl rfl rfl (by first | exact evK_const rfl | exact evK_tmp rfl) rfl rfl (by first | assumption | exact FS.rd (by first | assumption | exact FSX.fs (by assumption) | (refine FS.cutB (by assumption) ?_; omega) | (refine FS.cut (by assumption) ?_; omega))) (by first | omega | decide) rfl) ?_) | (show WalkTo _ _ _ _ (⟨_, .load _ _, _, _, _, _⟩ :: _) _ _ _; first | refine walk_t (op_loadsF rfl rfl rfl rfl rfl (by first | assumption | exact FS.rd (by first | assumption | exact FSX.fs (by assumption) | (refine FS.cutB (by assumption) ?_; omega) | (refine FS.cut (by assumption) ?_; omega))) rfl rfl rfl (by decide) (by first | omega | decide) (by first | (with_reducible assumption) | rfl)) ?_ | refine walk_t (op_ldC rfl rfl rfl rfl rfl (by assumption) rfl rfl (by with_reducible assumption)) ?_) | (show WalkTo _ _ _ _ (⟨_, .call ⟨.value (.func 72), _, _⟩, _, _, _, _⟩ :: _) _ _ _; ((first | refine walk_call rfl rfl rfl rfl (by repeat (first | exact evs_nil | apply evs_cons rfl)) rfl ?_ | refine walk_call0 rfl rfl rfl (by repeat (first | exact evs_nil | apply evs_cons rfl)) rfl ?_); refine ⟨_, fun e w => c1 w, ?_⟩)) | (show WalkTo _ _ _ _ (⟨_, .call ⟨.value (.func 73), _, _⟩, _, _, _, _⟩ :: _) _ _ _; ((first | refine walk_call rfl rfl rfl rfl (by repeat (first | exact evs_nil | apply evs_cons rfl)) rfl ?_ | refine walk_call0 rfl rfl rfl (by repeat (first | exact evs_nil | apply evs_cons rfl)) rfl ?_); refine ⟨_, fun e w => c3 w, ?_⟩)) | (show WalkTo _ _ _ _ (⟨_, .call ⟨.value (.func 78), _, _⟩, _, _, _, _⟩ :: _) _ _ _; ((first | refine walk_call rfl rfl rfl rfl (by repeat (first | exact evs_nil | apply evs_cons rfl)) rfl ?_ | refine walk_call0 rfl rfl rfl (by repeat (first | exact evs_nil | apply evs_cons rfl)) rfl ?_); refine ⟨_, fun e w => c4 w, ?_⟩))) | refine go1 ?_ | refine end_block_other rfl ?_ | refine end_scope (fun _ h => by cases h) ?_ | (refine walk_endD ?_ ?_; (· kernel_rfl)) | refine tri_yesA rfl ?_ | refine tri_noA rfl ?_ | refine tri_trueA rfl ?_ | refine tri_falseA rfl ?_)
  refine end_ret _ (res_tmp rfl rfl) ?_
  exact fin_below fun _ => rfl
def cmB (r : Nat → Bool) (x y : Nat) : Int := if r x = r y then 0 else if r y then -1 else 1
theorem cmpB_any (r : Nat → Bool) (N : Nat) (cv : Value) (b : Nat) (w : World) (hB1 : Blk w b #[cv] 97) (H : AskOK w [] cv N r) (x y : Nat) (hx : x < N) (hy : y < N) :
    Calls Try.prog 79 #[.int .i64 ((x : Nat) : Int), .int .i64 ((y : Nat) : Int), .pointer (some ⟨b, 0, none⟩)] w fun e w' => e = .returned (.int .i64 (cmB r x y)) ∧ Below w.heap.size w w' := by
  unfold cmB
  have hv1 : (#[cv] : Array Value)[0]? = some cv := rfl
  cases h1 : r x <;> cases h2 : r y
  all_goals
    refine calls_tri Try.func79 rfl Try.ntmps79 rfl ?_
    repeat (first | (show Walk1 _ _ _ (_ :: _) _ _; first | (show Walk1 _ _ _ (⟨_, .move _, _, _, _, _⟩ :: _) _ _; refine walk1_t (op_move rfl rfl rfl rfl) ?_) | (show Walk1 _ _ _ (⟨_, .assign _, _, _, _, _⟩ :: _) _ _; first | refine walk1_t (op_assignN rfl rfl rfl rfl) ?_ | refine walk1_t (op_assign rfl rfl rfl rfl) ?_) | (show Walk1 _ _ _ (⟨_, .load _ _, _, _, _, _⟩ :: _) _ _; refine walk1_t (op_ldC rfl rfl rfl rfl rfl (by assumption) rfl rfl (by with_reducible assumption)) ?_) | (show Walk1 _ _ _ (⟨_, .call ⟨.value (.tmp _), _, _⟩, _, _, _, _⟩ :: _) _ _; refine walk1_t (op_callAskV h1 H rfl rfl rfl rfl rfl hx) ?_) | (show Walk1 _ _ _ (⟨_, .call ⟨.value (.tmp _), _, _⟩, _, _, _, _⟩ :: _) _ _; refine walk1_t (op_callAskV h2 H rfl rfl rfl rfl rfl hy) ?_)) | (show WalkTo _ _ _ _ (_ :: _) _ _ _; first | (show WalkTo _ _ _ _ (⟨_, .move _, _, _, _, _⟩ :: _) _ _ _; refine walk_t (op_move rfl rfl rfl rfl) ?_) | (show WalkTo _ _ _ _ (⟨_, .assign _, _, _, _, _⟩ :: _) _ _ _; refine walk_t (op_assign rfl rfl rfl rfl) ?_) | (show WalkTo _ _ _ _ (⟨_, .binOp .eql _ _ _ _, _, _, _, _⟩ :: _) _ _ _; refine walk_t (op_eqT rfl rfl rfl rfl rfl rfl) ?_) | (show WalkTo _ _ _ _ (⟨_, .load _ _, _, _, _, _⟩ :: _) _ _ _; refine walk_t (op_ldC rfl rfl rfl rfl rfl (by assumption) rfl rfl (by with_reducible assumption)) ?_) | (show WalkTo _ _ _ _ (⟨_, .call ⟨.value (.tmp _), _, _⟩, _, _, _, _⟩ :: _) _ _ _; refine walk_t (op_callAskV h1 H rfl rfl rfl rfl rfl hx) ?_) | (show WalkTo _ _ _ _ (⟨_, .call ⟨.value (.tmp _), _, _⟩, _, _, _, _⟩ :: _) _ _ _; refine walk_t (op_callAskV h2 H rfl rfl rfl rfl rfl hy) ?_)) | refine go1 ?_ | refine end_block_other rfl ?_ | refine end_scope (fun _ h => by cases h) ?_ | (refine walk_endD ?_ ?_; (· kernel_rfl)) | refine tri_yesA rfl ?_ | refine tri_noA rfl ?_ | refine tri_trueA rfl ?_ | refine tri_falseA rfl ?_)
  all_goals
    refine end_ret _ (res_tmp rfl rfl) ?_
    exact fin_below fun _ => rfl
end Go.Proofs.Ytmpnkknocfaciaa
