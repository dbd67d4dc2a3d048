/- From where to where a ray is in a box: walked. No condition. A coordinate; the middle of a triangle: walked. No condition. -/
import Derived.Test.YtcookaiakfbdiaaMgWlk1
import Derived.Test.YtcookaiakfbdiaaMgTre4
namespace Go.Proofs.Ytcookaiakfbdiaa
open Go.RowKit
set_option maxRecDepth 100000
set_option maxHeartbeats 4000000
def spanL : List (Int × Int × Int) → (Int × Int) → (Int × Int) → Bool → (Int × Int) × Bool
  | [], f, t, b => (f, !b || !decide (rlt t f))
  | (n, r, w) :: l, f, t, b =>
    if n > r then (f, false)
    else if w = 0 then (if n > 0 ∨ r < 0 then (f, false) else spanL l f t b)
    else
      let n' := if w < 0 then -r else n
      let r' := if w < 0 then -n else r
      let w' := if w < 0 then -w else w
      spanL l (if rlt f (n', w') then (n', w') else f) (if b = false ∨ rlt (r', w') t then (r', w') else t) true
theorem spanL_neg {n r w : Int} {l : List (Int × Int × Int)} {f t : Int × Int} {b : Bool} (h1 : ¬ n > r) (h5 : w < 0) : spanL ((n, r, w) :: l) f t b = spanL l (if rlt f (-r, -w) then (-r, -w) else f) (if b = false ∨ rlt (-n, -w) t then (-n, -w) else t) true := by
  rw [spanL, if_neg h1, if_neg (by omega)]
  simp only [h5, if_true]
theorem spanL_pos {n r w : Int} {l : List (Int × Int × Int)} {f t : Int × Int} {b : Bool} (h1 : ¬ n > r) (h2 : w ≠ 0) (h5 : ¬ w < 0) : spanL ((n, r, w) :: l) f t b = spanL l (if rlt f (n, w) then (n, w) else f) (if b = false ∨ rlt (r, w) t then (r, w) else t) true := by
  rw [spanL, if_neg h1, if_neg h2]
  simp only [h5, if_false]
theorem spanL_bad {n r w : Int} {l : List (Int × Int × Int)} {f t : Int × Int} {b : Bool} (h1 : n > r) : spanL ((n, r, w) :: l) f t b = (f, false) := by
  rw [spanL, if_pos h1]
theorem spanL_out {n r w : Int} {l : List (Int × Int × Int)} {f t : Int × Int} {b : Bool} (h1 : ¬ n > r) (h2 : w = 0) (h3 : n > 0 ∨ r < 0) : spanL ((n, r, w) :: l) f t b = (f, false) := by
  rw [spanL, if_neg h1, if_pos h2, if_pos h3]
theorem spanL_in {n r w : Int} {l : List (Int × Int × Int)} {f t : Int × Int} {b : Bool} (h1 : ¬ n > r) (h2 : w = 0) (h3 : ¬ (n > 0 ∨ r < 0)) : spanL ((n, r, w) :: l) f t b = spanL l f t b := by
  rw [spanL, if_neg h1, if_pos h2, if_neg h3]
def axesP (lo hi o d : P3) : List (Int × Int × Int) := [(lo.x - o.x, hi.x - o.x, d.x), (lo.y - o.y, hi.y - o.y, d.y), (lo.z - o.z, hi.z - o.z, d.z)]
def spanP (lo hi o d : P3) : (Int × Int) × Bool := spanL (axesP lo hi o d) (0, 1) (0, 0) false
def smP (p : P3) : Prop := ∀ z ∈ p.l, -536870912 ≤ z ∧ z ≤ 536870912
section
variable {C : Ctx} {ops : Array Oper} {S : St} {o : Oper}
/-- An array built of closed parts. -/
theorem op_buildA {ty : TypeId} {parts : List (Nat × Operand)} {vs : List Value} {len m : Nat} {e0 : TypeId} {Z : Array Value} (R : Array Value) (ho : o.op = .build ty parts.toArray) (hg : o.guard = none) (hd : dstB o.dst C.nt = true) (hx : (parts.map (·.2)).map S.ev = vs.map fun v => some (SV.c v)) (hu' : tabLook undT ty = some (.array len e0)) (hs' : tabLook sizT e0 = some m) (hz' : tabLook zerT ty = some Z)
    (hf : Instr.fill (fun i => some (i * m, m)) Z ((parts.map (·.1)).zip vs) = some R) :
    OpG C Try.prog ops o S ⟨(parts.map (·.2)).flatMap opT, [], dw o.dst (.c (.agg R)), [], []⟩ := by
  have := op_value (C := C) (P := Try.prog) (ops := ops) (S := S) hg hd (parts.map (·.2)) [] (.c (.agg R)) fun S' e a w hS h1 h2 => by
    have hu := tabAll_look undT_ok hu'
    have hz := tabAll_look zerT_ok hz'
    have hev : ∀ (ps : List (Nat × Operand)) (us : List Value), (ps.map (·.2)).map S.ev = us.map (fun v => some (SV.c v)) → (∀ x ∈ ps.map (·.2), S'.ev x = S.ev x) → ps.map (fun p => (p.1, a.eval p.2)) = (ps.map (·.1)).zip us := by
      intro ps
      induction ps with
      | nil => intro us h _; cases us with
        | nil => rfl
        | cons u us => simp at h
      | cons p ps ih =>
        intro us h h3
        cases us with
        | nil => simp at h
        | cons u us =>
          simp only [List.map_cons, List.cons.injEq] at h
          have e1 : a.eval p.2 = u := hS.ev ((h3 p.2 (by simp)).trans h.1)
          simp only [List.map_cons, List.zip_cons_cons, e1]
          rw [ih us h.2 fun x hx => h3 x (by simp only [List.map_cons, List.mem_cons]; exact .inr hx)]
    have hev := hev parts vs hx h1
    obtain ⟨zv, hz3, hzc⟩ : ∃ zv, (zeroValue ty).run Try.prog w = .ok zv w ∧ zv.cells = Z := by
      cases hb : (Try.prog.info? ty) with
      | none => simp [hb] at hz
      | some i =>
        cases hc : i.zero with
        | none => simp [hb, hc] at hz
        | some zz => exact ⟨zz, by simp [zeroValue, typeInfo, hb, hc], by simpa [hb, hc] using hz⟩
    simp only [execOp, ho, Instr.build, Sem.run_bind, hz3, Result.andThen_ok, run_underlying hu w, run_sizeT hs' w, hzc, List.map_toArray, hev, hf, Sem.run_pure]
    rfl
  simpa using this
/-- An element of more than one cell of an array that is a value. -/
theorem op_indexA {ty : TypeId} {x y : Operand} {cs A : Array Value} {len j m : Nat} {e0 : TypeId} {d : TypeDesc} (ho : o.op = .index ty x y) (hg : o.guard = none) (hd : dstB o.dst C.nt = true) (hx : S.ev x = some (.c (.agg cs))) (hy : EvK S y j) (hu' : tabLook undT ty = some (.array len e0)) (hs' : tabLook sizT e0 = some m) (he' : tabLook undT e0 = some d) (hda : d.isRow = true) (hj : j < len) (hv : cs.extract (j * m) (j * m + m) = A) :
    OpG C Try.prog ops o S ⟨opT x ++ opT y, [], dw o.dst (.c (.agg A)), [], []⟩ := by
  obtain ⟨k, hy⟩ := hy
  refine op_two (v := .c (.agg A)) hg hd hx hy fun e ρ w h1 h2 => ?_
  have h1' : ρ x = .agg cs := h1
  have h2' : ρ y = .int k (j : Int) := h2
  have hu := tabAll_look undT_ok hu'
  have he := tabAll_look undT_ok he'
  have h3 : (0 : Int) ≤ (j : Int) ∧ (j : Int) < (len : Int) := by omega
  have hagg : (isAgg e0).run Try.prog w = .ok true w := (run_isAgg he w).trans (by rw [hda])
  simp only [execOp, ho, h1', Instr.index, asIntOf, Sem.run_bind, run_underlying hu w, Result.andThen_ok, Sem.run_pure, Sem.run_ite, if_pos h3, run_sizeT hs' w, part, hagg, Int.toNat_natCast, if_true, hv, h2']
  rfl
end
attribute [local irreducible] Calls Walk1 WalkTo Tri EndA
theorem span22_any (lo hi o d : P3) (h1 : smP lo) (h2 : smP hi) (h3 : smP o) (h4 : smP d) (w : World) : Calls Try.prog 28 #[.agg lo.c, .agg hi.c, .agg o.c, .agg d.c] w fun e w' => e = .returned (.tuple #[.agg (ratC (spanP lo hi o d).1), .bool (spanP lo hi o d).2]) ∧ Below w.heap.size w w' := by
  obtain ⟨lx, ly, lz⟩ := lo
  obtain ⟨hx, hy, hz⟩ := hi
  obtain ⟨ox, oy, oz⟩ := o
  obtain ⟨dx, dy, dz⟩ := d
  simp only [P3.c] at *
  have b1 := h1 lx (by simp [P3.l])
  have b2 := h1 ly (by simp [P3.l])
  have b3 := h1 lz (by simp [P3.l])
  have b4 := h2 hx (by simp [P3.l])
  have b5 := h2 hy (by simp [P3.l])
  have b6 := h2 hz (by simp [P3.l])
  have b7 := h3 ox (by simp [P3.l])
  have b8 := h3 oy (by simp [P3.l])
  have b9 := h3 oz (by simp [P3.l])
  have ba := h4 dx (by simp [P3.l])
  have bb := h4 dy (by simp [P3.l])
  have bc := h4 dz (by simp [P3.l])
  clear h1 h2 h3 h4
  obtain ⟨F, hF⟩ : ∃ F, F = spanP ⟨lx, ly, lz⟩ ⟨hx, hy, hz⟩ ⟨ox, oy, oz⟩ ⟨dx, dy, dz⟩ := ⟨_, rfl⟩
  rw [← hF]
  have hax : ∀ k, k < 3 → ∃ a b c e : Int, (#[.int .i64 lx, .int .i64 hx, .int .i64 ox, .int .i64 dx, .int .i64 ly, .int .i64 hy, .int .i64 oy, .int .i64 dy, .int .i64 lz, .int .i64 hz, .int .i64 oz, .int .i64 dz] : Array Value).extract (k * 4) (k * 4 + 4) = #[.int .i64 a, .int .i64 b, .int .i64 c, .int .i64 e] ∧
      (axesP ⟨lx, ly, lz⟩ ⟨hx, hy, hz⟩ ⟨ox, oy, oz⟩ ⟨dx, dy, dz⟩).drop k = (a - c, b - c, e) :: (axesP ⟨lx, ly, lz⟩ ⟨hx, hy, hz⟩ ⟨ox, oy, oz⟩ ⟨dx, dy, dz⟩).drop (k + 1) ∧ smH (a - c) ∧ smH (b - c) ∧ smH e ∧ -1000000000 ≤ a ∧ a ≤ 1000000000 ∧ -1000000000 ≤ b ∧ b ≤ 1000000000 ∧ -1000000000 ≤ c ∧ c ≤ 1000000000 := fun k hk => by
    have : k = 0 ∨ k = 1 ∨ k = 2 := by omega
    rcases this with rfl | rfl | rfl
    · exact ⟨lx, hx, ox, dx, by kernel_rfl, rfl, ⟨by omega, by omega⟩, ⟨by omega, by omega⟩, ⟨by omega, by omega⟩, by omega, by omega, by omega, by omega, by omega, by omega⟩
    · exact ⟨ly, hy, oy, dy, by kernel_rfl, rfl, ⟨by omega, by omega⟩, ⟨by omega, by omega⟩, ⟨by omega, by omega⟩, by omega, by omega, by omega, by omega, by omega, by omega⟩
    · exact ⟨lz, hz, oz, dz, by kernel_rfl, rfl, ⟨by omega, by omega⟩, ⟨by omega, by omega⟩, ⟨by omega, by omega⟩, by omega, by omega, by omega, by omega, by omega, by omega⟩
  have hd3 : (axesP ⟨lx, ly, lz⟩ ⟨hx, hy, hz⟩ ⟨ox, oy, oz⟩ ⟨dx, dy, dz⟩).drop 3 = [] := rfl
  have hF0 : spanL ((axesP ⟨lx, ly, lz⟩ ⟨hx, hy, hz⟩ ⟨ox, oy, oz⟩ ⟨dx, dy, dz⟩).drop 0) (0, 1) (0, 0) false = F := hF.symm
  clear hF
  refine calls_tri Try.func28 rfl Try.ntmps28 rfl ?_
  repeat (first | (show Walk1 _ _ _ (_ :: _) _ _; first | (show HW1 (.assign _); refine wz2 ?_) | (show HW1 (.load _ _); refine wz3 ?_) | (show HW1 (.store _ _ _); first | refine wz14 ?_ | refine wz28 ?_) | (show HW1 (.alloc _); refine wz6 ?_) | (show HW1 (.box _ _); refine wz11 ?_) | (show HW1 (.fieldAddr _ _ _); refine wz4 ?_) | (show HW1 (.build _ _); first | refine wz32 ?_ | refine wz25 ?_)) | refine go1 ?_ | refine end_block_other rfl ?_ | refine end_scope (fun _ h => by cases h) ?_ | (refine walk_endD ?_ ?_; (· kernel_rfl)) | refine tri_yesA rfl ?_ | refine tri_noA rfl ?_ | refine tri_trueA rfl ?_ | refine tri_falseA rfl ?_)
  refine walk1_t (op_buildA (parts := [(0, .tmp 22), (1, .tmp 24), (2, .tmp 26), (3, .tmp 28)]) (vs := [.int .i64 lx, .int .i64 hx, .int .i64 ox, .int .i64 dx]) #[.int .i64 lx, .int .i64 hx, .int .i64 ox, .int .i64 dx] rfl rfl rfl rfl rfl rfl rfl (by kernel_rfl)) ?_
  repeat (first | (show Walk1 _ _ _ (_ :: _) _ _; first | (show HW1 (.load _ _); refine wz3 ?_) | (show HW1 (.fieldAddr _ _ _); refine wz4 ?_)) | refine go1 ?_ | refine end_block_other rfl ?_ | refine end_scope (fun _ h => by cases h) ?_ | (refine walk_endD ?_ ?_; (· kernel_rfl)) | refine tri_yesA rfl ?_ | refine tri_noA rfl ?_ | refine tri_trueA rfl ?_ | refine tri_falseA rfl ?_)
  refine walk1_t (op_buildA (parts := [(0, .tmp 31), (1, .tmp 33), (2, .tmp 35), (3, .tmp 37)]) (vs := [.int .i64 ly, .int .i64 hy, .int .i64 oy, .int .i64 dy]) #[.int .i64 ly, .int .i64 hy, .int .i64 oy, .int .i64 dy] rfl rfl rfl rfl rfl rfl rfl (by kernel_rfl)) ?_
  repeat (first | (show Walk1 _ _ _ (_ :: _) _ _; first | (show HW1 (.load _ _); refine wz3 ?_) | (show HW1 (.fieldAddr _ _ _); refine wz4 ?_)) | refine go1 ?_ | refine end_block_other rfl ?_ | refine end_scope (fun _ h => by cases h) ?_ | (refine walk_endD ?_ ?_; (· kernel_rfl)) | refine tri_yesA rfl ?_ | refine tri_noA rfl ?_ | refine tri_trueA rfl ?_ | refine tri_falseA rfl ?_)
  refine walk1_t (op_buildA (parts := [(0, .tmp 40), (1, .tmp 42), (2, .tmp 44), (3, .tmp 46)]) (vs := [.int .i64 lz, .int .i64 hz, .int .i64 oz, .int .i64 dz]) #[.int .i64 lz, .int .i64 hz, .int .i64 oz, .int .i64 dz] rfl rfl rfl rfl rfl rfl rfl (by kernel_rfl)) ?_
  refine walk1_t (op_buildA (parts := [(0, .tmp 29), (1, .tmp 38), (2, .tmp 47)]) (vs := [.agg #[.int .i64 lx, .int .i64 hx, .int .i64 ox, .int .i64 dx], .agg #[.int .i64 ly, .int .i64 hy, .int .i64 oy, .int .i64 dy], .agg #[.int .i64 lz, .int .i64 hz, .int .i64 oz, .int .i64 dz]]) #[.int .i64 lx, .int .i64 hx, .int .i64 ox, .int .i64 dx, .int .i64 ly, .int .i64 hy, .int .i64 oy, .int .i64 dy, .int .i64 lz, .int .i64 hz, .int .i64 oz, .int .i64 dz] rfl rfl rfl rfl rfl rfl rfl (by kernel_rfl)) ?_
  generalize hAR : (#[.int .i64 lx, .int .i64 hx, .int .i64 ox, .int .i64 dx, .int .i64 ly, .int .i64 hy, .int .i64 oy, .int .i64 dy, .int .i64 lz, .int .i64 hz, .int .i64 oz, .int .i64 dz] : Array Value) = AR at *
  generalize hAX : axesP ⟨lx, ly, lz⟩ ⟨hx, hy, hz⟩ ⟨ox, oy, oz⟩ ⟨dx, dy, dz⟩ = AX at *
  repeat (first | (show Walk1 _ _ _ (_ :: _) _ _; (show HW1 (.move _); refine wz40 ?_)) | refine go1 ?_ | refine end_block_other rfl ?_ | refine end_scope (fun _ h => by cases h) ?_ | (refine walk_endD ?_ ?_; (· kernel_rfl)) | refine tri_yesA rfl ?_ | refine tri_noA rfl ?_ | refine tri_trueA rfl ?_ | refine tri_falseA rfl ?_)
  refine tri_loop (X := Nat × (Int × Int) × (Int × Int) × Bool) (fun x => ⟨[(49, SV.c (.int .i64 ((x.1 : Nat) : Int))), (48, .c (.agg AR)), (8, .p 8 0), (10, .p 10 0), (11, .c (.bool x.2.2.2)), (9, .c (.bool false))], [(8, some (.blk 8 76 (.c #[.int .i64 x.2.1.1, .int .i64 x.2.1.2]))), (10, some (.blk 10 76 (.c #[.int .i64 x.2.2.1.1, .int .i64 x.2.2.1.2])))]⟩)
    (fun x => x.1 ≤ 3 ∧ spanL (AX.drop x.1) x.2.1 x.2.2.1 x.2.2.2 = F ∧ smH x.2.1.1 ∧ smH x.2.1.2 ∧ smH x.2.2.1.1 ∧ smH x.2.2.1.2) (fun x => 3 - x.1) (0, (0, 1), (0, 0), false) ⟨by omega, hF0, ⟨by decide, by decide⟩, ⟨by decide, by decide⟩, ⟨by decide, by decide⟩, ⟨by decide, by decide⟩⟩ (by exact ent_kp) ?_
  rintro ⟨k, ⟨fn, fd⟩, ⟨tn, td⟩, b⟩ ⟨hk, hs, g1, g2, g3, g4⟩ K next
  dsimp only at *
  clear hF0 b1 b2 b3 b4 b5 b6 b7 b8 b9 ba bb bc hAR hAX
  by_cases hk3 : k < 3
  · obtain ⟨a, bb, c, e, hx, hd, ⟨m1, m2⟩, ⟨m3, m4⟩, ⟨m5, m6⟩, r1, r2, r3, r4, r5, r6⟩ := hax k hk3
    rw [hd] at hs
    clear hax hd hd3
    have hAs : AR.size = AR.size := rfl
    repeat (first | (show Walk1 _ _ _ (_ :: _) _ _; (show HW1 (.binOp .lss _ _ _ _); refine wz5 ?_)) | refine go1 ?_ | refine end_block_other rfl ?_ | refine end_scope (fun _ h => by cases h) ?_ | (refine walk_endD ?_ ?_; (· kernel_rfl)) | refine tri_yesA rfl ?_ | refine tri_noA rfl ?_ | refine tri_trueA rfl ?_ | refine tri_falseA rfl ?_)
    refine walk1_t (op_indexA rfl rfl rfl rfl evk rfl rfl rfl rfl hk3 hx) ?_
    by_cases h1 : a - c > bb - c
    · skip
      rw [spanL_bad h1] at hs
      subst hs
      repeat (first | (show Walk1 _ _ _ (_ :: _) _ _; first | (show HW1 (.move _); refine wz1 ?_) | (show HW1 (.assign _); refine wz2 ?_) | (show HW1 (.binOp .gtr _ _ _ _); refine wz21 ?_) | (show HW1 (.load _ _); refine wz9 ?_) | (show HW1 (.store _ _ _); refine wz14 ?_) | (show HW1 (.alloc _); refine wz6 ?_)) | (show WalkTo _ _ _ _ (_ :: _) _ _ _; first | (show HW2 (.assign _); refine wz17 ?_) | (show HW2 (.binOp .sub _ _ _ _); refine wz37 ?_) | (show HW2 (.indexAddr _ _ _); refine wz42 ?_) | (show HW2 (.load _ _); refine wz24 ?_)) | refine go1 ?_ | refine end_block_other rfl ?_ | refine end_scope (fun _ h => by cases h) ?_ | (refine walk_endD ?_ ?_; (· kernel_rfl)) | refine tri_yesA rfl ?_ | refine tri_noA rfl ?_ | refine tri_trueA rfl ?_ | refine tri_falseA rfl ?_)
      refine end_ret _ (res_cellT rfl rfl rfl rfl rfl rfl rfl rfl) ?_
      exact fin_below fun _ => rfl
    · by_cases h2 : e = 0
      · by_cases h3 : a - c > 0
        · skip
          rw [spanL_out h1 h2 (.inl h3)] at hs
          subst hs
          repeat (first | (show Walk1 _ _ _ (_ :: _) _ _; first | (show Walk1 _ _ _ (⟨_, _, _, _, _, some _⟩ :: _) _ _; first | refine zy1 ?_ | refine zn1 ?_) | (show HW1 (.move _); refine wz1 ?_) | (show HW1 (.assign _); refine wz2 ?_) | (show HW1 (.binOp .gtr _ _ _ _); refine wz21 ?_) | (show HW1 (.binOp .eql _ _ _ _); refine wz18 ?_) | (show HW1 (.pick _ _ _); refine wz8 ?_) | (show HW1 (.load _ _); refine wz9 ?_) | (show HW1 (.store _ _ _); refine wz14 ?_) | (show HW1 (.alloc _); refine wz6 ?_)) | (show WalkTo _ _ _ _ (_ :: _) _ _ _; first | (show HW2 (.assign _); refine wz17 ?_) | (show HW2 (.binOp .sub _ _ _ _); refine wz37 ?_) | (show HW2 (.indexAddr _ _ _); refine wz42 ?_) | (show HW2 (.load _ _); refine wz24 ?_)) | refine go1 ?_ | refine end_block_other rfl ?_ | refine end_scope (fun _ h => by cases h) ?_ | (refine walk_endD ?_ ?_; (· kernel_rfl)) | refine tri_yesA rfl ?_ | refine tri_noA rfl ?_ | refine tri_trueA rfl ?_ | refine tri_falseA rfl ?_)
          refine end_ret _ (res_cellT rfl rfl rfl rfl rfl rfl rfl rfl) ?_
          exact fin_below fun _ => rfl
        · by_cases h4 : bb - c < 0
          · skip
            rw [spanL_out h1 h2 (.inr h4)] at hs
            subst hs
            repeat (first | (show Walk1 _ _ _ (_ :: _) _ _; first | (show Walk1 _ _ _ (⟨_, _, _, _, _, some _⟩ :: _) _ _; refine zy1 ?_) | (show HW1 (.move _); refine wz1 ?_) | (show HW1 (.assign _); refine wz2 ?_) | (show HW1 (.binOp .lss _ _ _ _); refine wz12 ?_) | (show HW1 (.binOp .gtr _ _ _ _); refine wz21 ?_) | (show HW1 (.binOp .eql _ _ _ _); refine wz18 ?_) | (show HW1 (.pick _ _ _); first | refine wz8 ?_ | refine wz7 ?_) | (show HW1 (.load _ _); refine wz9 ?_) | (show HW1 (.store _ _ _); refine wz14 ?_) | (show HW1 (.alloc _); refine wz6 ?_)) | (show WalkTo _ _ _ _ (_ :: _) _ _ _; first | (show HW2 (.assign _); refine wz17 ?_) | (show HW2 (.binOp .sub _ _ _ _); refine wz37 ?_) | (show HW2 (.indexAddr _ _ _); refine wz42 ?_) | (show HW2 (.load _ _); refine wz24 ?_)) | refine go1 ?_ | refine end_block_other rfl ?_ | refine end_scope (fun _ h => by cases h) ?_ | (refine walk_endD ?_ ?_; (· kernel_rfl)) | refine tri_yesA rfl ?_ | refine tri_noA rfl ?_ | refine tri_trueA rfl ?_ | refine tri_falseA rfl ?_)
            refine end_ret _ (res_cellT rfl rfl rfl rfl rfl rfl rfl rfl) ?_
            exact fin_below fun _ => rfl
          · rw [spanL_in h1 h2 (by omega)] at hs
            repeat (first | (show Walk1 _ _ _ (_ :: _) _ _; first | (show Walk1 _ _ _ (⟨_, _, _, _, _, some _⟩ :: _) _ _; refine zy1 ?_) | (show HW1 (.move _); refine wz1 ?_) | (show HW1 (.assign _); refine wz2 ?_) | (show HW1 (.binOp .add _ _ _ _); refine wz10 ?_) | (show HW1 (.binOp .lss _ _ _ _); refine wz12 ?_) | (show HW1 (.binOp .gtr _ _ _ _); refine wz21 ?_) | (show HW1 (.binOp .eql _ _ _ _); refine wz18 ?_) | (show HW1 (.pick _ _ _); first | refine wz8 ?_ | refine wz7 ?_) | (show HW1 (.store _ _ _); refine wz14 ?_) | (show HW1 (.alloc _); refine wz6 ?_)) | (show WalkTo _ _ _ _ (_ :: _) _ _ _; first | (show HW2 (.assign _); refine wz17 ?_) | (show HW2 (.binOp .sub _ _ _ _); refine wz37 ?_) | (show HW2 (.indexAddr _ _ _); refine wz42 ?_) | (show HW2 (.load _ _); refine wz24 ?_)) | refine go1 ?_ | refine end_block_other rfl ?_ | refine end_scope (fun _ h => by cases h) ?_ | (refine walk_endD ?_ ?_; (· kernel_rfl)) | refine tri_yesA rfl ?_ | refine tri_noA rfl ?_ | refine tri_trueA rfl ?_ | refine tri_falseA rfl ?_)
            exact next _ (k + 1, (fn, fd), (tn, td), b) ⟨by omega, hs, g1, g2, g3, g4⟩ (by show 3 - (k + 1) < 3 - k; omega) (by exact ent_kp)
      · by_cases h5 : e < 0
        · skip
          have s1 : smH (-(bb - c)) := ⟨by omega, by omega⟩
          have s2 : smH (-(a - c)) := ⟨by omega, by omega⟩
          have s3 : smH (-e) := ⟨by omega, by omega⟩
          rw [spanL_neg h1 h5] at hs
          have c1 := fun w2 => less22_any (fn, fd) ((-(bb - c)), (-e)) g1 g2 s1 s3 w2
          have c2 := fun w2 => less22_any ((-(a - c)), (-e)) (tn, td) s2 s3 g3 g4 w2
          simp only [ratC] at c1 c2
          by_cases h6 : rlt (fn, fd) ((-(bb - c)), (-e))
          · skip
            rw [decide_eq_true h6] at c1
            rw [if_pos h6] at hs
            cases b with
            | false =>
              rw [if_pos (.inl rfl)] at hs
              repeat (first | (show Walk1 _ _ _ (_ :: _) _ _; first | (show Walk1 _ _ _ (⟨_, _, _, _, _, some _⟩ :: _) _ _; first | refine zn1 ?_ | refine zu1 ?_) | (show HW1 (.move _); refine wz1 ?_) | (show HW1 (.assign _); refine wz2 ?_) | (show HW1 (.binOp .add _ _ _ _); refine wz10 ?_) | (show HW1 (.binOp .lss _ _ _ _); refine wz12 ?_) | (show HW1 (.binOp .gtr _ _ _ _); refine wz21 ?_) | (show HW1 (.binOp .eql _ _ _ _); refine wz18 ?_) | (show HW1 (.pick _ _ _); first | refine wz8 ?_ | refine wz7 ?_) | (show HW1 (.unOp _ _ _); first | refine wz19 ?_ | refine wz46 ?_) | (show HW1 (.load _ _); first | refine wz9 ?_ | refine wz31 ?_) | (show HW1 (.store _ _ _); first | refine wz14 ?_ | refine wz28 ?_) | (show HW1 (.alloc _); refine wz6 ?_) | (show HW1 (.build _ _); refine wz25 ?_) | (show HW1 (.call ⟨.value (.func 37), _, _⟩); ((first | refine cwalk11 37 ?_ | refine cwalk10 37 ?_); refine ⟨_, fun e w => c1 w, ?_⟩)) | (show HW1 (.call ⟨.value (.func 37), _, _⟩); ((first | refine cwalk11 37 ?_ | refine cwalk10 37 ?_); refine ⟨_, fun e w => c2 w, ?_⟩))) | (show WalkTo _ _ _ _ (_ :: _) _ _ _; first | (show HW2 (.assign _); refine wz17 ?_) | (show HW2 (.binOp .sub _ _ _ _); refine wz37 ?_) | (show HW2 (.indexAddr _ _ _); refine wz42 ?_) | (show HW2 (.load _ _); refine wz24 ?_)) | refine go1 ?_ | refine end_block_other rfl ?_ | refine end_scope (fun _ h => by cases h) ?_ | (refine walk_endD ?_ ?_; (· kernel_rfl)) | refine tri_yesA rfl ?_ | refine tri_noA rfl ?_ | refine tri_trueA rfl ?_ | refine tri_falseA rfl ?_)
              exact next _ (k + 1, ((-(bb - c)), (-e)), ((-(a - c)), (-e)), true) ⟨by omega, hs, s1, s3, s2, s3⟩ (by show 3 - (k + 1) < 3 - k; omega) (by exact ent_kp)
            | true =>
              by_cases h8 : rlt ((-(a - c)), (-e)) (tn, td)
              · rw [decide_eq_true h8] at c2
                rw [if_pos (.inr h8)] at hs
                repeat (first | (show Walk1 _ _ _ (_ :: _) _ _; first | (show Walk1 _ _ _ (⟨_, _, _, _, _, some _⟩ :: _) _ _; first | refine zy1 ?_ | refine zn1 ?_ | refine zu1 ?_) | (show HW1 (.move _); refine wz1 ?_) | (show HW1 (.assign _); refine wz2 ?_) | (show HW1 (.binOp .add _ _ _ _); refine wz10 ?_) | (show HW1 (.binOp .lss _ _ _ _); refine wz12 ?_) | (show HW1 (.binOp .gtr _ _ _ _); refine wz21 ?_) | (show HW1 (.binOp .eql _ _ _ _); refine wz18 ?_) | (show HW1 (.pick _ _ _); refine wz7 ?_) | (show HW1 (.unOp _ _ _); first | refine wz19 ?_ | refine wz46 ?_) | (show HW1 (.load _ _); first | refine wz9 ?_ | refine wz31 ?_) | (show HW1 (.store _ _ _); first | refine wz14 ?_ | refine wz28 ?_) | (show HW1 (.alloc _); refine wz6 ?_) | (show HW1 (.build _ _); refine wz25 ?_) | (show HW1 (.call ⟨.value (.func 37), _, _⟩); ((first | refine cwalk11 37 ?_ | refine cwalk10 37 ?_); refine ⟨_, fun e w => c1 w, ?_⟩)) | (show HW1 (.call ⟨.value (.func 37), _, _⟩); ((first | refine cwalk11 37 ?_ | refine cwalk10 37 ?_); refine ⟨_, fun e w => c2 w, ?_⟩))) | (show WalkTo _ _ _ _ (_ :: _) _ _ _; first | (show HW2 (.assign _); refine wz17 ?_) | (show HW2 (.binOp .sub _ _ _ _); refine wz37 ?_) | (show HW2 (.indexAddr _ _ _); refine wz42 ?_) | (show HW2 (.load _ _); refine wz24 ?_)) | refine go1 ?_ | refine end_block_other rfl ?_ | refine end_scope (fun _ h => by cases h) ?_ | (refine walk_endD ?_ ?_; (· kernel_rfl)) | refine tri_yesA rfl ?_ | refine tri_noA rfl ?_ | refine tri_trueA rfl ?_ | refine tri_falseA rfl ?_)
                exact next _ (k + 1, ((-(bb - c)), (-e)), ((-(a - c)), (-e)), true) ⟨by omega, hs, s1, s3, s2, s3⟩ (by show 3 - (k + 1) < 3 - k; omega) (by exact ent_kp)
              · rw [decide_eq_false h8] at c2
                rw [if_neg (fun h => h.elim (fun h => by cases h) h8)] at hs
                repeat (first | (show Walk1 _ _ _ (_ :: _) _ _; first | (show Walk1 _ _ _ (⟨_, _, _, _, _, some _⟩ :: _) _ _; first | refine zy1 ?_ | refine zn1 ?_ | refine zu1 ?_) | (show HW1 (.move _); refine wz1 ?_) | (show HW1 (.assign _); refine wz2 ?_) | (show HW1 (.binOp .add _ _ _ _); refine wz10 ?_) | (show HW1 (.binOp .lss _ _ _ _); refine wz12 ?_) | (show HW1 (.binOp .gtr _ _ _ _); refine wz21 ?_) | (show HW1 (.binOp .eql _ _ _ _); refine wz18 ?_) | (show HW1 (.pick _ _ _); refine wz7 ?_) | (show HW1 (.unOp _ _ _); first | refine wz19 ?_ | refine wz46 ?_) | (show HW1 (.load _ _); first | refine wz9 ?_ | refine wz31 ?_) | (show HW1 (.store _ _ _); first | refine wz14 ?_ | refine wz28 ?_) | (show HW1 (.alloc _); refine wz6 ?_) | (show HW1 (.build _ _); refine wz25 ?_) | (show HW1 (.call ⟨.value (.func 37), _, _⟩); ((first | refine cwalk11 37 ?_ | refine cwalk10 37 ?_); refine ⟨_, fun e w => c1 w, ?_⟩)) | (show HW1 (.call ⟨.value (.func 37), _, _⟩); ((first | refine cwalk11 37 ?_ | refine cwalk10 37 ?_); refine ⟨_, fun e w => c2 w, ?_⟩))) | (show WalkTo _ _ _ _ (_ :: _) _ _ _; first | (show HW2 (.assign _); refine wz17 ?_) | (show HW2 (.binOp .sub _ _ _ _); refine wz37 ?_) | (show HW2 (.indexAddr _ _ _); refine wz42 ?_) | (show HW2 (.load _ _); refine wz24 ?_)) | refine go1 ?_ | refine end_block_other rfl ?_ | refine end_scope (fun _ h => by cases h) ?_ | (refine walk_endD ?_ ?_; (· kernel_rfl)) | refine tri_yesA rfl ?_ | refine tri_noA rfl ?_ | refine tri_trueA rfl ?_ | refine tri_falseA rfl ?_)
                exact next _ (k + 1, ((-(bb - c)), (-e)), (tn, td), true) ⟨by omega, hs, s1, s3, g3, g4⟩ (by show 3 - (k + 1) < 3 - k; omega) (by exact ent_kp)
          · skip
            rw [decide_eq_false h6] at c1
            rw [if_neg h6] at hs
            cases b with
            | false =>
              rw [if_pos (.inl rfl)] at hs
              repeat (first | (show Walk1 _ _ _ (_ :: _) _ _; first | (show Walk1 _ _ _ (⟨_, _, _, _, _, some _⟩ :: _) _ _; first | refine zn1 ?_ | refine zu1 ?_) | (show HW1 (.move _); refine wz1 ?_) | (show HW1 (.assign _); refine wz2 ?_) | (show HW1 (.binOp .add _ _ _ _); refine wz10 ?_) | (show HW1 (.binOp .lss _ _ _ _); refine wz12 ?_) | (show HW1 (.binOp .gtr _ _ _ _); refine wz21 ?_) | (show HW1 (.binOp .eql _ _ _ _); refine wz18 ?_) | (show HW1 (.pick _ _ _); first | refine wz8 ?_ | refine wz7 ?_) | (show HW1 (.unOp _ _ _); first | refine wz19 ?_ | refine wz46 ?_) | (show HW1 (.load _ _); first | refine wz9 ?_ | refine wz31 ?_) | (show HW1 (.store _ _ _); first | refine wz14 ?_ | refine wz28 ?_) | (show HW1 (.alloc _); refine wz6 ?_) | (show HW1 (.build _ _); refine wz25 ?_) | (show HW1 (.call ⟨.value (.func 37), _, _⟩); ((first | refine cwalk11 37 ?_ | refine cwalk10 37 ?_); refine ⟨_, fun e w => c1 w, ?_⟩)) | (show HW1 (.call ⟨.value (.func 37), _, _⟩); ((first | refine cwalk11 37 ?_ | refine cwalk10 37 ?_); refine ⟨_, fun e w => c2 w, ?_⟩))) | (show WalkTo _ _ _ _ (_ :: _) _ _ _; first | (show HW2 (.assign _); refine wz17 ?_) | (show HW2 (.binOp .sub _ _ _ _); refine wz37 ?_) | (show HW2 (.indexAddr _ _ _); refine wz42 ?_) | (show HW2 (.load _ _); refine wz24 ?_)) | refine go1 ?_ | refine end_block_other rfl ?_ | refine end_scope (fun _ h => by cases h) ?_ | (refine walk_endD ?_ ?_; (· kernel_rfl)) | refine tri_yesA rfl ?_ | refine tri_noA rfl ?_ | refine tri_trueA rfl ?_ | refine tri_falseA rfl ?_)
              exact next _ (k + 1, (fn, fd), ((-(a - c)), (-e)), true) ⟨by omega, hs, g1, g2, s2, s3⟩ (by show 3 - (k + 1) < 3 - k; omega) (by exact ent_kp)
            | true =>
              by_cases h8 : rlt ((-(a - c)), (-e)) (tn, td)
              · rw [decide_eq_true h8] at c2
                rw [if_pos (.inr h8)] at hs
                repeat (first | (show Walk1 _ _ _ (_ :: _) _ _; first | (show Walk1 _ _ _ (⟨_, _, _, _, _, some _⟩ :: _) _ _; first | refine zy1 ?_ | refine zn1 ?_ | refine zu1 ?_) | (show HW1 (.move _); refine wz1 ?_) | (show HW1 (.assign _); refine wz2 ?_) | (show HW1 (.binOp .add _ _ _ _); refine wz10 ?_) | (show HW1 (.binOp .lss _ _ _ _); refine wz12 ?_) | (show HW1 (.binOp .gtr _ _ _ _); refine wz21 ?_) | (show HW1 (.binOp .eql _ _ _ _); refine wz18 ?_) | (show HW1 (.pick _ _ _); refine wz7 ?_) | (show HW1 (.unOp _ _ _); first | refine wz19 ?_ | refine wz46 ?_) | (show HW1 (.load _ _); first | refine wz9 ?_ | refine wz31 ?_) | (show HW1 (.store _ _ _); first | refine wz14 ?_ | refine wz28 ?_) | (show HW1 (.alloc _); refine wz6 ?_) | (show HW1 (.build _ _); refine wz25 ?_) | (show HW1 (.call ⟨.value (.func 37), _, _⟩); ((first | refine cwalk11 37 ?_ | refine cwalk10 37 ?_); refine ⟨_, fun e w => c1 w, ?_⟩)) | (show HW1 (.call ⟨.value (.func 37), _, _⟩); ((first | refine cwalk11 37 ?_ | refine cwalk10 37 ?_); refine ⟨_, fun e w => c2 w, ?_⟩))) | (show WalkTo _ _ _ _ (_ :: _) _ _ _; first | (show HW2 (.assign _); refine wz17 ?_) | (show HW2 (.binOp .sub _ _ _ _); refine wz37 ?_) | (show HW2 (.indexAddr _ _ _); refine wz42 ?_) | (show HW2 (.load _ _); refine wz24 ?_)) | refine go1 ?_ | refine end_block_other rfl ?_ | refine end_scope (fun _ h => by cases h) ?_ | (refine walk_endD ?_ ?_; (· kernel_rfl)) | refine tri_yesA rfl ?_ | refine tri_noA rfl ?_ | refine tri_trueA rfl ?_ | refine tri_falseA rfl ?_)
                exact next _ (k + 1, (fn, fd), ((-(a - c)), (-e)), true) ⟨by omega, hs, g1, g2, s2, s3⟩ (by show 3 - (k + 1) < 3 - k; omega) (by exact ent_kp)
              · rw [decide_eq_false h8] at c2
                rw [if_neg (fun h => h.elim (fun h => by cases h) h8)] at hs
                repeat (first | (show Walk1 _ _ _ (_ :: _) _ _; first | (show Walk1 _ _ _ (⟨_, _, _, _, _, some _⟩ :: _) _ _; first | refine zy1 ?_ | refine zn1 ?_ | refine zu1 ?_) | (show HW1 (.move _); refine wz1 ?_) | (show HW1 (.assign _); refine wz2 ?_) | (show HW1 (.binOp .add _ _ _ _); refine wz10 ?_) | (show HW1 (.binOp .lss _ _ _ _); refine wz12 ?_) | (show HW1 (.binOp .gtr _ _ _ _); refine wz21 ?_) | (show HW1 (.binOp .eql _ _ _ _); refine wz18 ?_) | (show HW1 (.pick _ _ _); refine wz7 ?_) | (show HW1 (.unOp _ _ _); first | refine wz19 ?_ | refine wz46 ?_) | (show HW1 (.load _ _); first | refine wz9 ?_ | refine wz31 ?_) | (show HW1 (.store _ _ _); first | refine wz14 ?_ | refine wz28 ?_) | (show HW1 (.alloc _); refine wz6 ?_) | (show HW1 (.build _ _); refine wz25 ?_) | (show HW1 (.call ⟨.value (.func 37), _, _⟩); ((first | refine cwalk11 37 ?_ | refine cwalk10 37 ?_); refine ⟨_, fun e w => c1 w, ?_⟩)) | (show HW1 (.call ⟨.value (.func 37), _, _⟩); ((first | refine cwalk11 37 ?_ | refine cwalk10 37 ?_); refine ⟨_, fun e w => c2 w, ?_⟩))) | (show WalkTo _ _ _ _ (_ :: _) _ _ _; first | (show HW2 (.assign _); refine wz17 ?_) | (show HW2 (.binOp .sub _ _ _ _); refine wz37 ?_) | (show HW2 (.indexAddr _ _ _); refine wz42 ?_) | (show HW2 (.load _ _); refine wz24 ?_)) | refine go1 ?_ | refine end_block_other rfl ?_ | refine end_scope (fun _ h => by cases h) ?_ | (refine walk_endD ?_ ?_; (· kernel_rfl)) | refine tri_yesA rfl ?_ | refine tri_noA rfl ?_ | refine tri_trueA rfl ?_ | refine tri_falseA rfl ?_)
                exact next _ (k + 1, (fn, fd), (tn, td), true) ⟨by omega, hs, g1, g2, g3, g4⟩ (by show 3 - (k + 1) < 3 - k; omega) (by exact ent_kp)
        · skip
          have s1 : smH (a - c) := ⟨by omega, by omega⟩
          have s2 : smH (bb - c) := ⟨by omega, by omega⟩
          have s3 : smH e := ⟨by omega, by omega⟩
          rw [spanL_pos h1 h2 h5] at hs
          have c1 := fun w2 => less22_any (fn, fd) ((a - c), e) g1 g2 s1 s3 w2
          have c2 := fun w2 => less22_any ((bb - c), e) (tn, td) s2 s3 g3 g4 w2
          simp only [ratC] at c1 c2
          by_cases h6 : rlt (fn, fd) ((a - c), e)
          · skip
            rw [decide_eq_true h6] at c1
            rw [if_pos h6] at hs
            cases b with
            | false =>
              rw [if_pos (.inl rfl)] at hs
              repeat (first | (show Walk1 _ _ _ (_ :: _) _ _; first | (show Walk1 _ _ _ (⟨_, _, _, _, _, some _⟩ :: _) _ _; first | refine zn1 ?_ | refine zu1 ?_) | (show HW1 (.move _); refine wz1 ?_) | (show HW1 (.assign _); refine wz2 ?_) | (show HW1 (.binOp .add _ _ _ _); refine wz10 ?_) | (show HW1 (.binOp .lss _ _ _ _); refine wz12 ?_) | (show HW1 (.binOp .gtr _ _ _ _); refine wz21 ?_) | (show HW1 (.binOp .eql _ _ _ _); refine wz18 ?_) | (show HW1 (.pick _ _ _); first | refine wz8 ?_ | refine wz7 ?_) | (show HW1 (.unOp _ _ _); refine wz19 ?_) | (show HW1 (.load _ _); first | refine wz9 ?_ | refine wz31 ?_) | (show HW1 (.store _ _ _); first | refine wz14 ?_ | refine wz28 ?_) | (show HW1 (.alloc _); refine wz6 ?_) | (show HW1 (.build _ _); refine wz25 ?_) | (show HW1 (.call ⟨.value (.func 37), _, _⟩); ((first | refine cwalk11 37 ?_ | refine cwalk10 37 ?_); refine ⟨_, fun e w => c1 w, ?_⟩)) | (show HW1 (.call ⟨.value (.func 37), _, _⟩); ((first | refine cwalk11 37 ?_ | refine cwalk10 37 ?_); refine ⟨_, fun e w => c2 w, ?_⟩))) | (show WalkTo _ _ _ _ (_ :: _) _ _ _; first | (show HW2 (.assign _); refine wz17 ?_) | (show HW2 (.binOp .sub _ _ _ _); refine wz37 ?_) | (show HW2 (.indexAddr _ _ _); refine wz42 ?_) | (show HW2 (.load _ _); refine wz24 ?_)) | refine go1 ?_ | refine end_block_other rfl ?_ | refine end_scope (fun _ h => by cases h) ?_ | (refine walk_endD ?_ ?_; (· kernel_rfl)) | refine tri_yesA rfl ?_ | refine tri_noA rfl ?_ | refine tri_trueA rfl ?_ | refine tri_falseA rfl ?_)
              exact next _ (k + 1, ((a - c), e), ((bb - c), e), true) ⟨by omega, hs, s1, s3, s2, s3⟩ (by show 3 - (k + 1) < 3 - k; omega) (by exact ent_kp)
            | true =>
              by_cases h8 : rlt ((bb - c), e) (tn, td)
              · rw [decide_eq_true h8] at c2
                rw [if_pos (.inr h8)] at hs
                repeat (first | (show Walk1 _ _ _ (_ :: _) _ _; first | (show Walk1 _ _ _ (⟨_, _, _, _, _, some _⟩ :: _) _ _; first | refine zy1 ?_ | refine zn1 ?_ | refine zu1 ?_) | (show HW1 (.move _); refine wz1 ?_) | (show HW1 (.assign _); refine wz2 ?_) | (show HW1 (.binOp .add _ _ _ _); refine wz10 ?_) | (show HW1 (.binOp .lss _ _ _ _); refine wz12 ?_) | (show HW1 (.binOp .gtr _ _ _ _); refine wz21 ?_) | (show HW1 (.binOp .eql _ _ _ _); refine wz18 ?_) | (show HW1 (.pick _ _ _); refine wz7 ?_) | (show HW1 (.unOp _ _ _); refine wz19 ?_) | (show HW1 (.load _ _); first | refine wz9 ?_ | refine wz31 ?_) | (show HW1 (.store _ _ _); first | refine wz14 ?_ | refine wz28 ?_) | (show HW1 (.alloc _); refine wz6 ?_) | (show HW1 (.build _ _); refine wz25 ?_) | (show HW1 (.call ⟨.value (.func 37), _, _⟩); ((first | refine cwalk11 37 ?_ | refine cwalk10 37 ?_); refine ⟨_, fun e w => c1 w, ?_⟩)) | (show HW1 (.call ⟨.value (.func 37), _, _⟩); ((first | refine cwalk11 37 ?_ | refine cwalk10 37 ?_); refine ⟨_, fun e w => c2 w, ?_⟩))) | (show WalkTo _ _ _ _ (_ :: _) _ _ _; first | (show HW2 (.assign _); refine wz17 ?_) | (show HW2 (.binOp .sub _ _ _ _); refine wz37 ?_) | (show HW2 (.indexAddr _ _ _); refine wz42 ?_) | (show HW2 (.load _ _); refine wz24 ?_)) | refine go1 ?_ | refine end_block_other rfl ?_ | refine end_scope (fun _ h => by cases h) ?_ | (refine walk_endD ?_ ?_; (· kernel_rfl)) | refine tri_yesA rfl ?_ | refine tri_noA rfl ?_ | refine tri_trueA rfl ?_ | refine tri_falseA rfl ?_)
                exact next _ (k + 1, ((a - c), e), ((bb - c), e), true) ⟨by omega, hs, s1, s3, s2, s3⟩ (by show 3 - (k + 1) < 3 - k; omega) (by exact ent_kp)
              · rw [decide_eq_false h8] at c2
                rw [if_neg (fun h => h.elim (fun h => by cases h) h8)] at hs
                repeat (first | (show Walk1 _ _ _ (_ :: _) _ _; first | (show Walk1 _ _ _ (⟨_, _, _, _, _, some _⟩ :: _) _ _; first | refine zy1 ?_ | refine zn1 ?_ | refine zu1 ?_) | (show HW1 (.move _); refine wz1 ?_) | (show HW1 (.assign _); refine wz2 ?_) | (show HW1 (.binOp .add _ _ _ _); refine wz10 ?_) | (show HW1 (.binOp .lss _ _ _ _); refine wz12 ?_) | (show HW1 (.binOp .gtr _ _ _ _); refine wz21 ?_) | (show HW1 (.binOp .eql _ _ _ _); refine wz18 ?_) | (show HW1 (.pick _ _ _); refine wz7 ?_) | (show HW1 (.unOp _ _ _); refine wz19 ?_) | (show HW1 (.load _ _); first | refine wz9 ?_ | refine wz31 ?_) | (show HW1 (.store _ _ _); first | refine wz14 ?_ | refine wz28 ?_) | (show HW1 (.alloc _); refine wz6 ?_) | (show HW1 (.build _ _); refine wz25 ?_) | (show HW1 (.call ⟨.value (.func 37), _, _⟩); ((first | refine cwalk11 37 ?_ | refine cwalk10 37 ?_); refine ⟨_, fun e w => c1 w, ?_⟩)) | (show HW1 (.call ⟨.value (.func 37), _, _⟩); ((first | refine cwalk11 37 ?_ | refine cwalk10 37 ?_); refine ⟨_, fun e w => c2 w, ?_⟩))) | (show WalkTo _ _ _ _ (_ :: _) _ _ _; first | (show HW2 (.assign _); refine wz17 ?_) | (show HW2 (.binOp .sub _ _ _ _); refine wz37 ?_) | (show HW2 (.indexAddr _ _ _); refine wz42 ?_) | (show HW2 (.load _ _); refine wz24 ?_)) | refine go1 ?_ | refine end_block_other rfl ?_ | refine end_scope (fun _ h => by cases h) ?_ | (refine walk_endD ?_ ?_; (· kernel_rfl)) | refine tri_yesA rfl ?_ | refine tri_noA rfl ?_ | refine tri_trueA rfl ?_ | refine tri_falseA rfl ?_)
                exact next _ (k + 1, ((a - c), e), (tn, td), true) ⟨by omega, hs, s1, s3, g3, g4⟩ (by show 3 - (k + 1) < 3 - k; omega) (by exact ent_kp)
          · skip
            rw [decide_eq_false h6] at c1
            rw [if_neg h6] at hs
            cases b with
            | false =>
              rw [if_pos (.inl rfl)] at hs
              repeat (first | (show Walk1 _ _ _ (_ :: _) _ _; first | (show Walk1 _ _ _ (⟨_, _, _, _, _, some _⟩ :: _) _ _; first | refine zn1 ?_ | refine zu1 ?_) | (show HW1 (.move _); refine wz1 ?_) | (show HW1 (.assign _); refine wz2 ?_) | (show HW1 (.binOp .add _ _ _ _); refine wz10 ?_) | (show HW1 (.binOp .lss _ _ _ _); refine wz12 ?_) | (show HW1 (.binOp .gtr _ _ _ _); refine wz21 ?_) | (show HW1 (.binOp .eql _ _ _ _); refine wz18 ?_) | (show HW1 (.pick _ _ _); first | refine wz8 ?_ | refine wz7 ?_) | (show HW1 (.unOp _ _ _); refine wz19 ?_) | (show HW1 (.load _ _); first | refine wz9 ?_ | refine wz31 ?_) | (show HW1 (.store _ _ _); first | refine wz14 ?_ | refine wz28 ?_) | (show HW1 (.alloc _); refine wz6 ?_) | (show HW1 (.build _ _); refine wz25 ?_) | (show HW1 (.call ⟨.value (.func 37), _, _⟩); ((first | refine cwalk11 37 ?_ | refine cwalk10 37 ?_); refine ⟨_, fun e w => c1 w, ?_⟩)) | (show HW1 (.call ⟨.value (.func 37), _, _⟩); ((first | refine cwalk11 37 ?_ | refine cwalk10 37 ?_); refine ⟨_, fun e w => c2 w, ?_⟩))) | (show WalkTo _ _ _ _ (_ :: _) _ _ _; first | (show HW2 (.assign _); refine wz17 ?_) | (show HW2 (.binOp .sub _ _ _ _); refine wz37 ?_) | (show HW2 (.indexAddr _ _ _); refine wz42 ?_) | (show HW2 (.load _ _); refine wz24 ?_)) | refine go1 ?_ | refine end_block_other rfl ?_ | refine end_scope (fun _ h => by cases h) ?_ | (refine walk_endD ?_ ?_; (· kernel_rfl)) | refine tri_yesA rfl ?_ | refine tri_noA rfl ?_ | refine tri_trueA rfl ?_ | refine tri_falseA rfl ?_)
              exact next _ (k + 1, (fn, fd), ((bb - c), e), true) ⟨by omega, hs, g1, g2, s2, s3⟩ (by show 3 - (k + 1) < 3 - k; omega) (by exact ent_kp)
            | true =>
              by_cases h8 : rlt ((bb - c), e) (tn, td)
              · rw [decide_eq_true h8] at c2
                rw [if_pos (.inr h8)] at hs
                repeat (first | (show Walk1 _ _ _ (_ :: _) _ _; first | (show Walk1 _ _ _ (⟨_, _, _, _, _, some _⟩ :: _) _ _; first | refine zy1 ?_ | refine zn1 ?_ | refine zu1 ?_) | (show HW1 (.move _); refine wz1 ?_) | (show HW1 (.assign _); refine wz2 ?_) | (show HW1 (.binOp .add _ _ _ _); refine wz10 ?_) | (show HW1 (.binOp .lss _ _ _ _); refine wz12 ?_) | (show HW1 (.binOp .gtr _ _ _ _); refine wz21 ?_) | (show HW1 (.binOp .eql _ _ _ _); refine wz18 ?_) | (show HW1 (.pick _ _ _); refine wz7 ?_) | (show HW1 (.unOp _ _ _); refine wz19 ?_) | (show HW1 (.load _ _); first | refine wz9 ?_ | refine wz31 ?_) | (show HW1 (.store _ _ _); first | refine wz14 ?_ | refine wz28 ?_) | (show HW1 (.alloc _); refine wz6 ?_) | (show HW1 (.build _ _); refine wz25 ?_) | (show HW1 (.call ⟨.value (.func 37), _, _⟩); ((first | refine cwalk11 37 ?_ | refine cwalk10 37 ?_); refine ⟨_, fun e w => c1 w, ?_⟩)) | (show HW1 (.call ⟨.value (.func 37), _, _⟩); ((first | refine cwalk11 37 ?_ | refine cwalk10 37 ?_); refine ⟨_, fun e w => c2 w, ?_⟩))) | (show WalkTo _ _ _ _ (_ :: _) _ _ _; first | (show HW2 (.assign _); refine wz17 ?_) | (show HW2 (.binOp .sub _ _ _ _); refine wz37 ?_) | (show HW2 (.indexAddr _ _ _); refine wz42 ?_) | (show HW2 (.load _ _); refine wz24 ?_)) | refine go1 ?_ | refine end_block_other rfl ?_ | refine end_scope (fun _ h => by cases h) ?_ | (refine walk_endD ?_ ?_; (· kernel_rfl)) | refine tri_yesA rfl ?_ | refine tri_noA rfl ?_ | refine tri_trueA rfl ?_ | refine tri_falseA rfl ?_)
                exact next _ (k + 1, (fn, fd), ((bb - c), e), true) ⟨by omega, hs, g1, g2, s2, s3⟩ (by show 3 - (k + 1) < 3 - k; omega) (by exact ent_kp)
              · rw [decide_eq_false h8] at c2
                rw [if_neg (fun h => h.elim (fun h => by cases h) h8)] at hs
                repeat (first | (show Walk1 _ _ _ (_ :: _) _ _; first | (show Walk1 _ _ _ (⟨_, _, _, _, _, some _⟩ :: _) _ _; first | refine zy1 ?_ | refine zn1 ?_ | refine zu1 ?_) | (show HW1 (.move _); refine wz1 ?_) | (show HW1 (.assign _); refine wz2 ?_) | (show HW1 (.binOp .add _ _ _ _); refine wz10 ?_) | (show HW1 (.binOp .lss _ _ _ _); refine wz12 ?_) | (show HW1 (.binOp .gtr _ _ _ _); refine wz21 ?_) | (show HW1 (.binOp .eql _ _ _ _); refine wz18 ?_) | (show HW1 (.pick _ _ _); refine wz7 ?_) | (show HW1 (.unOp _ _ _); refine wz19 ?_) | (show HW1 (.load _ _); first | refine wz9 ?_ | refine wz31 ?_) | (show HW1 (.store _ _ _); first | refine wz14 ?_ | refine wz28 ?_) | (show HW1 (.alloc _); refine wz6 ?_) | (show HW1 (.build _ _); refine wz25 ?_) | (show HW1 (.call ⟨.value (.func 37), _, _⟩); ((first | refine cwalk11 37 ?_ | refine cwalk10 37 ?_); refine ⟨_, fun e w => c1 w, ?_⟩)) | (show HW1 (.call ⟨.value (.func 37), _, _⟩); ((first | refine cwalk11 37 ?_ | refine cwalk10 37 ?_); refine ⟨_, fun e w => c2 w, ?_⟩))) | (show WalkTo _ _ _ _ (_ :: _) _ _ _; first | (show HW2 (.assign _); refine wz17 ?_) | (show HW2 (.binOp .sub _ _ _ _); refine wz37 ?_) | (show HW2 (.indexAddr _ _ _); refine wz42 ?_) | (show HW2 (.load _ _); refine wz24 ?_)) | refine go1 ?_ | refine end_block_other rfl ?_ | refine end_scope (fun _ h => by cases h) ?_ | (refine walk_endD ?_ ?_; (· kernel_rfl)) | refine tri_yesA rfl ?_ | refine tri_noA rfl ?_ | refine tri_trueA rfl ?_ | refine tri_falseA rfl ?_)
                exact next _ (k + 1, (fn, fd), (tn, td), true) ⟨by omega, hs, g1, g2, g3, g4⟩ (by show 3 - (k + 1) < 3 - k; omega) (by exact ent_kp)
  · obtain rfl : k = 3 := by omega
    rw [hd3] at hs
    have c2 := fun w2 => less22_any (tn, td) (fn, fd) g3 g4 g1 g2 w2
    simp only [ratC] at c2
    rw [spanL] at hs
    subst hs
    cases b with
    | false =>
      repeat (first | (show Walk1 _ _ _ (_ :: _) _ _; (show HW1 (.binOp .lss _ _ _ _); refine wz5 ?_)) | (show WalkTo _ _ _ _ (_ :: _) _ _ _; first | (show WalkTo _ _ _ _ (⟨_, _, _, _, _, some _⟩ :: _) _ _ _; refine zn2 ?_) | (show HW2 (.move _); refine wz20 ?_) | (show HW2 (.assign _); refine wz17 ?_) | (show HW2 (.pick _ _ _); refine wz90 ?_) | (show HW2 (.unOp _ _ _); refine wz77 ?_) | (show HW2 (.load _ _); refine wz22 ?_) | (show HW2 (.store _ _ _); refine wz48 ?_)) | refine go1 ?_ | refine end_block_other rfl ?_ | refine end_scope (fun _ h => by cases h) ?_ | (refine walk_endD ?_ ?_; (· kernel_rfl)) | refine tri_yesA rfl ?_ | refine tri_noA rfl ?_ | refine tri_trueA rfl ?_ | refine tri_falseA rfl ?_)
      refine end_ret _ (res_cellT rfl rfl rfl rfl rfl rfl rfl rfl) ?_
      exact fin_below fun _ => rfl
    | true =>
      repeat (first | (show Walk1 _ _ _ (_ :: _) _ _; (show HW1 (.binOp .lss _ _ _ _); refine wz5 ?_)) | (show WalkTo _ _ _ _ (_ :: _) _ _ _; first | (show WalkTo _ _ _ _ (⟨_, _, _, _, _, some _⟩ :: _) _ _ _; refine zy2 ?_) | (show HW2 (.move _); refine wz20 ?_) | (show HW2 (.assign _); refine wz17 ?_) | (show HW2 (.pick _ _ _); refine wz91 ?_) | (show HW2 (.unOp _ _ _); refine wz77 ?_) | (show HW2 (.load _ _); refine wz22 ?_) | (show HW2 (.store _ _ _); refine wz48 ?_) | (show HW2 (.call ⟨.value (.func 37), _, _⟩); ((first | refine cwalk1 37 ?_ | refine cwalk0 37 ?_); refine ⟨_, fun e w => c2 w, ?_⟩))) | refine go1 ?_ | refine end_block_other rfl ?_ | refine end_scope (fun _ h => by cases h) ?_ | (refine walk_endD ?_ ?_; (· kernel_rfl)) | refine tri_yesA rfl ?_ | refine tri_noA rfl ?_ | refine tri_trueA rfl ?_ | refine tri_falseA rfl ?_)
      refine end_ret _ (res_cellT rfl rfl rfl rfl rfl rfl rfl rfl) ?_
      exact fin_below fun _ => rfl
end Go.Proofs.Ytcookaiakfbdiaa
namespace Go.Proofs.Ytcookaiakfbdiaa
open Go.RowKit
set_option maxRecDepth 100000
set_option maxHeartbeats 1000000
def axP (p : P3) (i : Nat) : Int := if i = 0 then p.x else if i = 1 then p.y else p.z
def midT (t : TriS) : P3 := ⟨(tbox t).1.x + (tbox t).2.x, (tbox t).1.y + (tbox t).2.y, (tbox t).1.z + (tbox t).2.z⟩
/-- No part of a place has a size above m. -/
def smB (m : Int) (p : P3) : Prop := (-m ≤ p.x ∧ p.x ≤ m) ∧ (-m ≤ p.y ∧ p.y ≤ m) ∧ (-m ≤ p.z ∧ p.z ≤ m)
def nearT (t : TriS) : Prop := smB 1048576 (tbox t).1 ∧ smB 1048576 (tbox t).2
theorem midT_sm {t : TriS} (h : nearT t) : smB 2097152 (midT t) := by
  unfold nearT smB midT at *
  dsimp only at *
  omega
theorem axP_sm {m : Int} {p : P3} (h : smB m p) (i : Nat) : -m ≤ axP p i ∧ axP p i ≤ m := by
  unfold smB at h
  unfold axP
  split
  · exact h.1
  · split
    · exact h.2.1
    · exact h.2.2
attribute [local irreducible] Calls Walk1 WalkTo Tri EndA
theorem axis_any (p : P3) (i : Nat) (hi : i < 3) (w : World) : Calls Try.prog 48 #[.agg p.c, .int .i64 ((i : Nat) : Int)] w fun e w' => e = .returned (.int .i64 (axP p i)) ∧ Below w.heap.size w w' := by
  obtain ⟨x, y, z⟩ := p
  obtain rfl | rfl | rfl : i = 0 ∨ i = 1 ∨ i = 2 := by omega
  all_goals
    simp only [axP, P3.c]
    refine calls_tri Try.func48 rfl Try.ntmps48 rfl ?_
    repeat (first | (show Walk1 _ _ _ (_ :: _) _ _; first | (show HW1 (.assign _); refine wz13 ?_) | (show HW1 (.load _ _); refine wz3 ?_) | (show HW1 (.box _ _); refine wz11 ?_) | (show HW1 (.fieldAddr _ _ _); refine wz4 ?_)) | refine go1 ?_ | refine end_block_other rfl ?_ | refine end_scope (fun _ h => by cases h) ?_ | (refine walk_endD ?_ ?_; (· kernel_rfl)) | refine tri_yesA rfl ?_ | refine tri_noA rfl ?_ | refine tri_trueA rfl ?_ | refine tri_falseA rfl ?_)
    refine walk1_t (op_buildA (parts := [(0, .tmp 6), (1, .tmp 8), (2, .tmp 10)]) (vs := [.int .i64 x, .int .i64 y, .int .i64 z]) #[.int .i64 x, .int .i64 y, .int .i64 z] rfl rfl rfl rfl rfl rfl rfl (by kernel_rfl)) ?_
    repeat (first | (show Walk1 _ _ _ (_ :: _) _ _; first | (show HW1 (.move _); refine wz1 ?_) | (show HW1 (.assign _); refine wz2 ?_) | (show HW1 (.index _ _ _); refine walk1_t (op_index rfl rfl rfl rfl evk rfl rfl rfl rfl (by first | omega | decide) rfl) ?_)) | refine go1 ?_ | refine end_block_other rfl ?_ | refine end_scope (fun _ h => by cases h) ?_ | (refine walk_endD ?_ ?_; (· kernel_rfl)) | refine tri_yesA rfl ?_ | refine tri_noA rfl ?_ | refine tri_trueA rfl ?_ | refine tri_falseA rfl ?_)
    refine end_ret _ (res_tmp rfl rfl) ?_
    exact fin_below fun _ => rfl
theorem middle_any (t : TriS) (ht : t.ok) (hn : nearT t) (w : World) : Calls Try.prog 47 #[.agg (triC t).toArray] w fun e w' => e = .returned (.agg (midT t).c) ∧ Below w.heap.size w w' := by
  have c1 := fun (v : Value) (w : World) h => boxT_any v [t.p0, t.p1, t.p2] w h (by simp)
  have ht9 : ((triC t).toArray.toList.drop 0).take (ptsC [t.p0, t.p1, t.p2]).length = ptsC [t.p0, t.p1, t.p2] := by
    rw [triC]
    rfl
  have hts : (triC t).toArray.size = 19 := by rw [List.size_toArray]; exact triC_length t ht
  unfold nearT smB midT tbox cornersT at *
  generalize boxP [t.p0, t.p1, t.p2] = F at *
  obtain ⟨⟨a, b, c⟩, ⟨a', b', c'⟩⟩ := F
  simp only [P3.c] at hn c1 ⊢
  generalize triC t = TC at *
  refine calls_tri Try.func47 rfl Try.ntmps47 rfl ?_
  repeat (first | (show Walk1 _ _ _ (_ :: _) _ _; first | (show HW1 (.move _); refine wz1 ?_) | (show HW1 (.binOp .add _ _ _ _); refine wz127 ?_) | (show HW1 (.load _ _); refine wz3 ?_) | (show HW1 (.store _ _ _); first | refine wz14 ?_ | refine wz28 ?_) | (show HW1 (.alloc _); refine wz6 ?_) | (show HW1 (.box _ _); refine wz11 ?_) | (show HW1 (.fieldAddr _ _ _); refine wz4 ?_) | (show HW1 (.extract _ _); first | refine wz16 ?_ | refine wz15 ?_) | (show HW1 (.build _ _); refine wz25 ?_) | (show HW1 (.slice _ _ _ _ _); refine wz63 ?_) | (show HW1 (.call ⟨.value (.func 25), _, _⟩); (refine cwalk1M 25 ?_; refine ⟨_, _, callM_1 (rdn_part (n := 1) _ rfl ht9 rfl) (fun e w h1 => c1 _ w h1), ?_⟩))) | refine go1 ?_ | refine end_block_other rfl ?_ | refine end_scope (fun _ h => by cases h) ?_ | (refine walk_endD ?_ ?_; (· kernel_rfl)) | refine tri_yesA rfl ?_ | refine tri_noA rfl ?_ | refine tri_trueA rfl ?_ | refine tri_falseA rfl ?_)
  refine end_ret (.c (.agg #[.int .i64 (a + a'), .int .i64 (b + b'), .int .i64 (c + c')])) (res_cells rfl rfl rfl rfl rfl rfl (fun _ => rfl) (fun _ => rfl)) ?_
  exact fin_below fun _ => rfl
end Go.Proofs.Ytcookaiakfbdiaa
