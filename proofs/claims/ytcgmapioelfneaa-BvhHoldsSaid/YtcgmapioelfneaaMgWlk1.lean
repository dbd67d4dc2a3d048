/- Products of ints of either sign, as wide numbers, and which is less: walked. No condition. Which of two ratios is less; from where to where a ray is in a box: walked. No condition. From where to where a ray is in a box: walked. No condition. A coordinate; the middle of a triangle: walked. No condition. -/
import Derived.Test.YtcgmapioelfneaaMgPoly1
import Derived.Laws.Externs
import Derived.Test.YtcgmapioelfneaaMgTre4
namespace Go.Proofs.Ytcgmapioelfneaa
open Go.RowKit
set_option maxRecDepth 100000
set_option maxHeartbeats 2000000
section
variable {C : Ctx} {ops : Array Oper} {S : St} {o : Oper}
end
attribute [local irreducible] Calls Walk1 WalkTo Tri EndA
def M1 : BitVec 64 := 18446744073709551615#64
end Go.Proofs.Ytcgmapioelfneaa
namespace Go.Proofs.Ytcgmapioelfneaa
open Go.RowKit
set_option maxRecDepth 100000
set_option maxHeartbeats 2000000
attribute [local irreducible] Calls Walk1 WalkTo Tri EndA
/-- One ratio is less than another. -/
def rlt (a b : Int × Int) : Prop := a.1 * b.2 < b.1 * a.2
instance (a b : Int × Int) : Decidable (rlt a b) := inferInstanceAs (Decidable (_ < _))
end Go.Proofs.Ytcgmapioelfneaa
namespace Go.Proofs.Ytcgmapioelfneaa
open Go.RowKit
set_option maxRecDepth 100000
set_option maxHeartbeats 4000000
def spanL : List (Int × Int × Int) → (Int × Int) → (Int × Int) → Bool → (Int × Int) × Bool
  | [], f, t, b => (f, !b || !decide (rlt t f))
  | (n, r, w) :: l, f, t, b =>
    if n > r then (f, false)
    else if w = 0 then (if n > 0 ∨ r < 0 then (f, false) else spanL l f t b)
    else
      let n' := if w < 0 then -r else n
      let r' := if w < 0 then -n else r
      let w' := if w < 0 then -w else w
      spanL l (if rlt f (n', w') then (n', w') else f) (if b = false ∨ rlt (r', w') t then (r', w') else t) true
def axesP (lo hi o d : P3) : List (Int × Int × Int) := [(lo.x - o.x, hi.x - o.x, d.x), (lo.y - o.y, hi.y - o.y, d.y), (lo.z - o.z, hi.z - o.z, d.z)]
def spanP (lo hi o d : P3) : (Int × Int) × Bool := spanL (axesP lo hi o d) (0, 1) (0, 0) false
def smP (p : P3) : Prop := ∀ z ∈ p.l, -536870912 ≤ z ∧ z ≤ 536870912
section
variable {C : Ctx} {ops : Array Oper} {S : St} {o : Oper}
/-- An array built of closed parts. -/
theorem op_buildA {ty : TypeId} {parts : List (Nat × Operand)} {vs : List Value} {len m : Nat} {e0 : TypeId} {Z : Array Value} (R : Array Value) (ho : o.op = .build ty parts.toArray) (hg : o.guard = none) (hd : dstB o.dst C.nt = true) (hx : (parts.map (·.2)).map S.ev = vs.map fun v => some (SV.c v)) (hu' : tabLook undT ty = some (.array len e0)) (hs' : tabLook sizT e0 = some m) (hz' : tabLook zerT ty = some Z)
    (hf : Instr.fill (fun i => some (i * m, m)) Z ((parts.map (·.1)).zip vs) = some R) :
    OpG C Try.prog ops o S ⟨(parts.map (·.2)).flatMap opT, [], dw o.dst (.c (.agg R)), [], []⟩ := by
  have := op_value (C := C) (P := Try.prog) (ops := ops) (S := S) hg hd (parts.map (·.2)) [] (.c (.agg R)) fun S' e a w hS h1 h2 => by
    have hu := tabAll_look undT_ok hu'
    have hz := tabAll_look zerT_ok hz'
    have hev : ∀ (ps : List (Nat × Operand)) (us : List Value), (ps.map (·.2)).map S.ev = us.map (fun v => some (SV.c v)) → (∀ x ∈ ps.map (·.2), S'.ev x = S.ev x) → ps.map (fun p => (p.1, a.eval p.2)) = (ps.map (·.1)).zip us := by
      intro ps
      induction ps with
      | nil => intro us h _; cases us with
        | nil => rfl
        | cons u us => simp at h
      | cons p ps ih =>
        intro us h h3
        cases us with
        | nil => simp at h
        | cons u us =>
          simp only [List.map_cons, List.cons.injEq] at h
          have e1 : a.eval p.2 = u := hS.ev ((h3 p.2 (by simp)).trans h.1)
          simp only [List.map_cons, List.zip_cons_cons, e1]
          rw [ih us h.2 fun x hx => h3 x (by simp only [List.map_cons, List.mem_cons]; exact .inr hx)]
    have hev := hev parts vs hx h1
    obtain ⟨zv, hz3, hzc⟩ : ∃ zv, (zeroValue ty).run Try.prog w = .ok zv w ∧ zv.cells = Z := by
      cases hb : (Try.prog.info? ty) with
      | none => simp [hb] at hz
      | some i =>
        cases hc : i.zero with
        | none => simp [hb, hc] at hz
        | some zz => exact ⟨zz, by simp [zeroValue, typeInfo, hb, hc], by simpa [hb, hc] using hz⟩
    simp only [execOp, ho, Instr.build, Sem.run_bind, hz3, Result.andThen_ok, run_underlying hu w, run_sizeT hs' w, hzc, List.map_toArray, hev, hf, Sem.run_pure]
    rfl
  simpa using this
/-- An element of more than one cell of an array that is a value. -/
theorem op_indexA {ty : TypeId} {x y : Operand} {cs A : Array Value} {len j m : Nat} {e0 : TypeId} {d : TypeDesc} (ho : o.op = .index ty x y) (hg : o.guard = none) (hd : dstB o.dst C.nt = true) (hx : S.ev x = some (.c (.agg cs))) (hy : EvK S y j) (hu' : tabLook undT ty = some (.array len e0)) (hs' : tabLook sizT e0 = some m) (he' : tabLook undT e0 = some d) (hda : d.isRow = true) (hj : j < len) (hv : cs.extract (j * m) (j * m + m) = A) :
    OpG C Try.prog ops o S ⟨opT x ++ opT y, [], dw o.dst (.c (.agg A)), [], []⟩ := by
  obtain ⟨k, hy⟩ := hy
  refine op_two (v := .c (.agg A)) hg hd hx hy fun e ρ w h1 h2 => ?_
  have h1' : ρ x = .agg cs := h1
  have h2' : ρ y = .int k (j : Int) := h2
  have hu := tabAll_look undT_ok hu'
  have he := tabAll_look undT_ok he'
  have h3 : (0 : Int) ≤ (j : Int) ∧ (j : Int) < (len : Int) := by omega
  have hagg : (isAgg e0).run Try.prog w = .ok true w := (run_isAgg he w).trans (by rw [hda])
  simp only [execOp, ho, h1', Instr.index, asIntOf, Sem.run_bind, run_underlying hu w, Result.andThen_ok, Sem.run_pure, Sem.run_ite, if_pos h3, run_sizeT hs' w, part, hagg, Int.toNat_natCast, if_true, hv, h2']
  rfl
end
attribute [local irreducible] Calls Walk1 WalkTo Tri EndA
end Go.Proofs.Ytcgmapioelfneaa
namespace Go.Proofs.Ytcgmapioelfneaa
open Go.RowKit
set_option maxRecDepth 100000
set_option maxHeartbeats 1000000
def axP (p : P3) (i : Nat) : Int := if i = 0 then p.x else if i = 1 then p.y else p.z
def midT (t : TriS) : P3 := ⟨(tbox t).1.x + (tbox t).2.x, (tbox t).1.y + (tbox t).2.y, (tbox t).1.z + (tbox t).2.z⟩
/-- No part of a place has a size above m. -/
def smB (m : Int) (p : P3) : Prop := (-m ≤ p.x ∧ p.x ≤ m) ∧ (-m ≤ p.y ∧ p.y ≤ m) ∧ (-m ≤ p.z ∧ p.z ≤ m)
def nearT (t : TriS) : Prop := smB 1048576 (tbox t).1 ∧ smB 1048576 (tbox t).2
theorem midT_sm {t : TriS} (h : nearT t) : smB 2097152 (midT t) := by
  unfold nearT smB midT at *
  dsimp only at *
  omega
theorem axP_sm {m : Int} {p : P3} (h : smB m p) (i : Nat) : -m ≤ axP p i ∧ axP p i ≤ m := by
  unfold smB at h
  unfold axP
  split
  · exact h.1
  · split
    · exact h.2.1
    · exact h.2.2
attribute [local irreducible] Calls Walk1 WalkTo Tri EndA
theorem axis_any (p : P3) (i : Nat) (hi : i < 3) (w : World) : Calls Try.prog 31 #[.agg p.c, .int .i64 ((i : Nat) : Int)] w fun e w' => e = .returned (.int .i64 (axP p i)) ∧ Below w.heap.size w w' := by
  obtain ⟨x, y, z⟩ := p
  obtain rfl | rfl | rfl : i = 0 ∨ i = 1 ∨ i = 2 := by omega
  all_goals
    simp only [axP, P3.c]
    refine calls_tri Try.func31 rfl Try.ntmps31 rfl ?_
    repeat (first | (show Walk1 _ _ _ (_ :: _) _ _; first | (show HW1 (.assign _); refine wz13 ?_) | (show HW1 (.load _ _); refine wz3 ?_) | (show HW1 (.box _ _); refine wz11 ?_) | (show HW1 (.fieldAddr _ _ _); refine wz4 ?_)) | refine go1 ?_ | refine end_block_other rfl ?_ | refine end_scope (fun _ h => by cases h) ?_ | (refine walk_endD ?_ ?_; (· kernel_rfl)) | refine tri_yesA rfl ?_ | refine tri_noA rfl ?_ | refine tri_trueA rfl ?_ | refine tri_falseA rfl ?_)
    refine walk1_t (op_buildA (parts := [(0, .tmp 6), (1, .tmp 8), (2, .tmp 10)]) (vs := [.int .i64 x, .int .i64 y, .int .i64 z]) #[.int .i64 x, .int .i64 y, .int .i64 z] rfl rfl rfl rfl rfl rfl rfl (by kernel_rfl)) ?_
    repeat (first | (show Walk1 _ _ _ (_ :: _) _ _; first | (show HW1 (.move _); refine wz1 ?_) | (show HW1 (.assign _); refine wz2 ?_) | (show HW1 (.index _ _ _); refine walk1_t (op_index rfl rfl rfl rfl evk rfl rfl rfl rfl (by first | omega | decide) rfl) ?_)) | refine go1 ?_ | refine end_block_other rfl ?_ | refine end_scope (fun _ h => by cases h) ?_ | (refine walk_endD ?_ ?_; (· kernel_rfl)) | refine tri_yesA rfl ?_ | refine tri_noA rfl ?_ | refine tri_trueA rfl ?_ | refine tri_falseA rfl ?_)
    refine end_ret _ (res_tmp rfl rfl) ?_
    exact fin_below fun _ => rfl
theorem middle_any (t : TriS) (ht : t.ok) (hn : nearT t) (w : World) : Calls Try.prog 30 #[.agg (triC t).toArray] w fun e w' => e = .returned (.agg (midT t).c) ∧ Below w.heap.size w w' := by
  have c1 := fun (v : Value) (w : World) h => boxT_any v [t.p0, t.p1, t.p2] w h (by simp)
  have ht9 : ((triC t).toArray.toList.drop 0).take (ptsC [t.p0, t.p1, t.p2]).length = ptsC [t.p0, t.p1, t.p2] := by
    rw [triC]
    rfl
  have hts : (triC t).toArray.size = 19 := by rw [List.size_toArray]; exact triC_length t ht
  unfold nearT smB midT tbox cornersT at *
  generalize boxP [t.p0, t.p1, t.p2] = F at *
  obtain ⟨⟨a, b, c⟩, ⟨a', b', c'⟩⟩ := F
  simp only [P3.c] at hn c1 ⊢
  generalize triC t = TC at *
  refine calls_tri Try.func30 rfl Try.ntmps30 rfl ?_
  repeat (first | (show Walk1 _ _ _ (_ :: _) _ _; first | (show HW1 (.move _); refine wz1 ?_) | (show HW1 (.binOp .add _ _ _ _); refine wz127 ?_) | (show HW1 (.load _ _); refine wz3 ?_) | (show HW1 (.store _ _ _); first | refine wz14 ?_ | refine wz28 ?_) | (show HW1 (.alloc _); refine wz6 ?_) | (show HW1 (.box _ _); refine wz11 ?_) | (show HW1 (.fieldAddr _ _ _); refine wz4 ?_) | (show HW1 (.extract _ _); first | refine wz16 ?_ | refine wz15 ?_) | (show HW1 (.build _ _); refine wz25 ?_) | (show HW1 (.slice _ _ _ _ _); refine wz63 ?_) | (show HW1 (.call ⟨.value (.func 13), _, _⟩); (refine cwalk1M 13 ?_; refine ⟨_, _, callM_1 (rdn_part (n := 1) _ rfl ht9 rfl) (fun e w h1 => c1 _ w h1), ?_⟩))) | refine go1 ?_ | refine end_block_other rfl ?_ | refine end_scope (fun _ h => by cases h) ?_ | (refine walk_endD ?_ ?_; (· kernel_rfl)) | refine tri_yesA rfl ?_ | refine tri_noA rfl ?_ | refine tri_trueA rfl ?_ | refine tri_falseA rfl ?_)
  refine end_ret (.c (.agg #[.int .i64 (a + a'), .int .i64 (b + b'), .int .i64 (c + c')])) (res_cells rfl rfl rfl rfl rfl rfl (fun _ => rfl) (fun _ => rfl)) ?_
  exact fin_below fun _ => rfl
end Go.Proofs.Ytcgmapioelfneaa
