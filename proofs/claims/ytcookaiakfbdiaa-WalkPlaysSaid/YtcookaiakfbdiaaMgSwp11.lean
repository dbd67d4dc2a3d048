/- The example: a sweep over two triangles; the triangles that a law looks at. No condition. Of sweeps, what laws of walks need, too: triangles cut to sixty, questions. No condition. A law's triangles and questions, from their cells. No condition. A law's questions. No condition. A law's questions, from their cells. No condition. Where a ray meets a triangle: the document's: walked. No condition. Arrays of whole numbers, none of them below 0. No condition. -/
import Derived.Test.YtcookaiakfbdiaaMgSymAC
import Derived.Test.YtcookaiakfbdiaaMgSwp6
import Derived.Test.YtcookaiakfbdiaaFrameK
import Derived.Test.YtcookaiakfbdiaaFrame
import Derived.Test.YtcookaiakfbdiaaMgSwp3
import Derived.Test.YtcookaiakfbdiaaMgSymT
namespace Go.Proofs.Ytcookaiakfbdiaa
open Go.RowKit
set_option maxRecDepth 100000
set_option maxHeartbeats 2000000
attribute [local irreducible] Calls Walk1 WalkTo Tri EndA
theorem few21_any (n : Nat) (xs : List Value) (v : Value) (w : World) (hf : FS w 19 v n xs) : Calls Try.prog 8 #[v] w fun e w' => e = .returned (cutZ 19 v 0 (min n 60)) ∧ Below w.heap.size w w' := by
  have hf0 := hf
  obtain ⟨_, a, c, hv, hc⟩ := hf
  subst hv
  have hm : min n 60 ≤ n := Nat.min_le_left ..
  refine calls_tri Try.func8 rfl Try.ntmps8 rfl ?_
  repeat (first | (show Walk1 _ _ _ (_ :: _) _ _; first | (show HW1 (.move _); refine wz1 ?_) | (show HW1 (.assign _); refine wz2 ?_) | (show HW1 (.call ⟨.builtin .len, _, _⟩); refine wz39 ?_) | (show HW1 (.call ⟨.builtin .min, _, _⟩); refine walk1_t (op_minN rfl evn evn) ?_) | (show HW1 (.slice _ _ _ _ _); refine walk1_t (op_cutZ rfl rfl rfl rfl rfl rfl (by first | assumption | exact FSX.fs (by assumption))) ?_)) | refine go1 ?_ | refine end_block_other rfl ?_ | refine end_scope (fun _ h => by cases h) ?_ | (refine walk_endD ?_ ?_; (· kernel_rfl)) | refine tri_yesA rfl ?_ | refine tri_noA rfl ?_ | refine tri_trueA rfl ?_ | refine tri_falseA rfl ?_)
  refine end_ret (.c (cutZ 19 (.slice a n c) 0 (min n 60 - 0))) (res_tmp rfl rfl) ?_
  exact fin_below fun _ => rfl
end Go.Proofs.Ytcookaiakfbdiaa
namespace Go.Proofs.Ytcookaiakfbdiaa
open Go.RowKit
set_option maxRecDepth 100000
set_option maxHeartbeats 2000000
def M4.l (m : M4) : List Int := [m.num, m.det, m.u, m.v]
theorem M4.cells (m : M4) : m.c = intsC m.l := rfl
theorem eqMt_run (a b : M4) (w : World) : (Op.equalIn 10000 41 (.agg a.c) (.agg b.c)).run Try.prog w = .ok (a.l == b.l) w := by
  have hu := Try.underlying41
  have hfo : Try.prog.underlying 41 = some (.struct (Try.prog.fieldsOf 41)) := by simp [Program.fieldsOf, hu]
  rw [run_equalIn_struct w 9999 41 _ _ hfo (by kernel_rfl), a.cells, b.cells]
  have := eqFields_ints (P := Try.prog) (w := w) 9998 a.l b.l (Try.prog.fieldsOf 41).toList 0 (fun i f hf => by
    simp only [Program.fieldsOf, hu] at hf
    match i, hf with
    | 0, hf => simp at hf; subst hf; exact ⟨by decide, rfl, Try.underlying3⟩
    | 1, hf => simp at hf; subst hf; exact ⟨by decide, rfl, Try.underlying3⟩
    | 2, hf => simp at hf; subst hf; exact ⟨by decide, rfl, Try.underlying3⟩
    | 3, hf => simp at hf; subst hf; exact ⟨by decide, rfl, Try.underlying3⟩
    | j + 4, hf => simp at hf) (by simp only [Program.fieldsOf, hu]; rfl) (by simp only [Program.fieldsOf, hu]; rfl)
  simpa using this
theorem eqMt_refl (a : M4) (w : World) : (Op.equalIn 10000 41 (.agg a.c) (.agg a.c)).run Try.prog w = .ok true w := by
  rw [eqMt_run]; simp
theorem few21_cut {w : World} {v : Value} {es : List TriS} (hv : FS w 19 v es.length (trisC es)) (hok : ∀ e ∈ es, e.ok) : ∃ D u, D.length ≤ 60 ∧ (∀ e ∈ D, e.ok) ∧ FS w 19 u D.length (trisC D) ∧ cutZ 19 v 0 (min es.length 60) = u := by
  have h := hv.cutZ (lo := 0) (len := min es.length 60) (by omega)
  rw [Nat.zero_mul, List.drop_zero] at h
  have hl : (es.take (min es.length 60)).length = min es.length 60 := by rw [List.length_take]; omega
  refine ⟨es.take (min es.length 60), cutZ 19 v 0 (min es.length 60), by omega, fun e he => hok e (List.mem_of_mem_take he), ?_, rfl⟩
  rw [hl, trisC, (flat_cut es (fun t ht => triC_length t (hok t ht)) _).1]
  exact h
def askC (o d : P3) (mask : BitVec 8) (skip : Int) (near : Bool) : Array Value := #[.int .i64 o.x, .int .i64 o.y, .int .i64 o.z, .int .i64 d.x, .int .i64 d.y, .int .i64 d.z, .int .u8 (bvi mask), .int .i64 skip, .bool near]
end Go.Proofs.Ytcookaiakfbdiaa
namespace Go.Proofs.Ytcookaiakfbdiaa
open Go.RowKit
set_option maxRecDepth 100000
def triKs : List Kd := List.replicate 18 (.int .i64) ++ [.int .u8]
def askKs : List Kd := List.replicate 6 (.int .i64) ++ [.int .u8, .int .i64, .bool]
theorem tri_of_flat (r : List Value) (h : Flat triKs r) : ∃ t : TriS, triC t = r ∧ t.ok := by
  have hl : r.length = 19 := h.len
  match r, hl with
  | [a0, a1, a2, a3, a4, a5, a6, a7, a8, a9, a10, a11, a12, a13, a14, a15, a16, a17, a18], _ =>
    obtain ⟨⟨x0, rfl, _⟩, ⟨x1, rfl, _⟩, ⟨x2, rfl, _⟩, ⟨x3, rfl, _⟩, ⟨x4, rfl, _⟩, ⟨x5, rfl, _⟩, ⟨x6, rfl, _⟩, ⟨x7, rfl, _⟩, ⟨x8, rfl, _⟩, ⟨x9, rfl, _⟩, ⟨x10, rfl, _⟩, ⟨x11, rfl, _⟩, ⟨x12, rfl, _⟩, ⟨x13, rfl, _⟩, ⟨x14, rfl, _⟩, ⟨x15, rfl, _⟩, ⟨x16, rfl, _⟩, ⟨x17, rfl, _⟩, ⟨z, rfl, hz⟩, _⟩ := h
    obtain ⟨m, rfl⟩ := bv8_of z hz
    refine ⟨⟨⟨x0, x1, x2⟩, ⟨x3, x4, x5⟩, ⟨x6, x7, x8⟩, [.int .i64 x9, .int .i64 x10, .int .i64 x11, .int .i64 x12, .int .i64 x13, .int .i64 x14, .int .i64 x15, .int .i64 x16, .int .i64 x17], m⟩, rfl, rfl, fun u hu => ?_⟩
    simp only [List.mem_cons, List.not_mem_nil, or_false] at hu
    rcases hu with rfl | rfl | rfl | rfl | rfl | rfl | rfl | rfl | rfl <;> rfl
theorem tris_of_flats {w : World} {v : Value} {rs : List (List Value)} (hf : FS w 19 v rs.length (rs.flatMap id)) (h : ∀ r ∈ rs, Flat triKs r) : ∃ es : List TriS, FS w 19 v es.length (trisC es) ∧ ∀ e ∈ es, e.ok := by
  have key : ∀ rs : List (List Value), (∀ r ∈ rs, Flat triKs r) → ∃ es : List TriS, es.length = rs.length ∧ trisC es = rs.flatMap id ∧ ∀ e ∈ es, e.ok := by
    intro rs
    induction rs with
    | nil => intro _; exact ⟨[], rfl, rfl, fun e he => by cases he⟩
    | cons r rs ih =>
      intro h
      obtain ⟨t, ht, hok⟩ := tri_of_flat r (h r List.mem_cons_self)
      obtain ⟨es, h1, h2, h3⟩ := ih fun r hr => h r (List.mem_cons_of_mem _ hr)
      refine ⟨t :: es, by simp [h1], ?_, fun e he => ?_⟩
      · rw [List.flatMap_cons, ← h2, trisC, List.flatMap_cons, ht]; rfl
      · rcases List.mem_cons.1 he with rfl | he
        · exact hok
        · exact h3 e he
  obtain ⟨es, h1, h2, h3⟩ := key rs h
  exact ⟨es, by rw [h1, h2]; exact hf, h3⟩
theorem ask_of_flat {r : List Value} (h : Flat askKs r) : ∃ (o d : P3) (mask : BitVec 8) (skip : Int) (near : Bool), r.toArray = askC o d mask skip near := by
  have hl : r.length = 9 := h.len
  match r, hl with
  | [a0, a1, a2, a3, a4, a5, a6, a7, a8], _ =>
    obtain ⟨⟨x0, rfl, _⟩, ⟨x1, rfl, _⟩, ⟨x2, rfl, _⟩, ⟨x3, rfl, _⟩, ⟨x4, rfl, _⟩, ⟨x5, rfl, _⟩, ⟨z, rfl, hz⟩, ⟨sk, rfl, _⟩, ⟨b, rfl⟩, _⟩ := h
    obtain ⟨m, rfl⟩ := bv8_of z hz
    exact ⟨⟨x0, x1, x2⟩, ⟨x3, x4, x5⟩, m, sk, b, rfl⟩
end Go.Proofs.Ytcookaiakfbdiaa
namespace Go.Proofs.Ytcookaiakfbdiaa
open Go.RowKit
set_option maxRecDepth 100000
/-- A question. -/
structure AskS where
  o : P3
  d : P3
  mask : BitVec 8
  skip : Int
  near : Bool
def AskS.c (a : AskS) : Array Value := askC a.o a.d a.mask a.skip a.near
def asksC (l : List AskS) : List Value := l.flatMap fun a => a.c.toList
theorem asks_row (l : List AskS) (k : Nat) (a : AskS) (h : l[k]? = some a) : ((asksC l).drop (0 + k * 9)).take 9 = a.c.toList := by
  rw [Nat.zero_add]
  exact flat_row (sz := 9) (f := fun a : AskS => a.c.toList) l (fun _ _ => rfl) k a h
theorem asks_len (l : List AskS) : (asksC l).length = l.length * 9 := flat_length (sz := 9) (f := fun a : AskS => a.c.toList) l fun _ _ => rfl
end Go.Proofs.Ytcookaiakfbdiaa
namespace Go.Proofs.Ytcookaiakfbdiaa
open Go.RowKit
set_option maxRecDepth 100000
theorem asks_of_flats {w : World} {v : Value} {rs : List (List Value)} (hf : FS w 9 v rs.length (rs.flatMap id)) (h : ∀ r ∈ rs, Flat askKs r) : ∃ qs : List AskS, FS w 9 v qs.length (asksC qs) := by
  have key : ∀ rs : List (List Value), (∀ r ∈ rs, Flat askKs r) → ∃ qs : List AskS, qs.length = rs.length ∧ asksC qs = rs.flatMap id := by
    intro rs
    induction rs with
    | nil => intro _; exact ⟨[], rfl, rfl⟩
    | cons r rs ih =>
      intro h
      obtain ⟨o, d, mask, skip, near, hr⟩ := ask_of_flat (h r List.mem_cons_self)
      obtain ⟨qs, h1, h2⟩ := ih fun r hr => h r (List.mem_cons_of_mem _ hr)
      refine ⟨⟨o, d, mask, skip, near⟩ :: qs, by simp [h1], ?_⟩
      rw [List.flatMap_cons, ← h2, asksC, List.flatMap_cons]
      show (askC o d mask skip near).toList ++ _ = _
      rw [← hr]
      rfl
  obtain ⟨qs, h1, h2⟩ := key rs h
  exact ⟨qs, by rw [h1, h2]; exact hf⟩
end Go.Proofs.Ytcookaiakfbdiaa
namespace Go.Proofs.Ytcookaiakfbdiaa
open Go.RowKit
set_option maxRecDepth 100000
set_option maxHeartbeats 2000000
attribute [local irreducible] Calls Walk1 WalkTo Tri EndA
theorem farR_any (p : P3) (m : Int) (hm : 0 ≤ m ∧ m ≤ 1000000) (w : World) : Calls Try.prog 61 #[.agg p.c, .int .i64 m] w fun e w' => e = .returned (.bool (!(inP p m))) ∧ Below w.heap.size w w' := by
  obtain ⟨x, y, z⟩ := p
  have hout : ∀ h : (m < x ∨ x < -m ∨ m < y ∨ y < -m ∨ m < z ∨ z < -m), inP ⟨x, y, z⟩ m = false := fun h => by
    unfold inP max3 min3
    simp only [Bool.and_eq_false_iff, decide_eq_false_iff_not]
    omega
  simp only [P3.c]
  by_cases h1 : m < x
  · rw [hout (by omega)]
    refine calls_tri Try.func61 rfl Try.ntmps61 rfl ?_
    repeat (first | (show Walk1 _ _ _ (_ :: _) _ _; first | (show Walk1 _ _ _ (⟨_, _, _, _, _, some _⟩ :: _) _ _; refine zn1 ?_) | (show HW1 (.move _); refine wz1 ?_) | (show HW1 (.assign _); refine wz2 ?_) | (show HW1 (.binOp .gtr _ _ _ _); refine wz21 ?_) | (show HW1 (.pick _ _ _); refine wz8 ?_) | (show HW1 (.load _ _); refine wz3 ?_) | (show HW1 (.box _ _); refine wz11 ?_) | (show HW1 (.fieldAddr _ _ _); refine wz4 ?_)) | refine go1 ?_ | refine end_block_other rfl ?_ | refine end_scope (fun _ h => by cases h) ?_ | (refine walk_endD ?_ ?_; (· kernel_rfl)) | refine tri_yesA rfl ?_ | refine tri_noA rfl ?_ | refine tri_trueA rfl ?_ | refine tri_falseA rfl ?_)
    refine end_ret (.c (.bool (!false))) (res_tmp rfl (by first | rfl | simp)) ?_
    exact fin_below fun _ => rfl
  by_cases h2 : x < -m
  · rw [hout (by omega)]
    refine calls_tri Try.func61 rfl Try.ntmps61 rfl ?_
    repeat (first | (show Walk1 _ _ _ (_ :: _) _ _; first | (show Walk1 _ _ _ (⟨_, _, _, _, _, some _⟩ :: _) _ _; first | refine zy1 ?_ | refine zn1 ?_) | (show HW1 (.move _); refine wz1 ?_) | (show HW1 (.assign _); refine wz2 ?_) | (show HW1 (.binOp .lss _ _ _ _); refine wz12 ?_) | (show HW1 (.binOp .gtr _ _ _ _); refine wz21 ?_) | (show HW1 (.pick _ _ _); first | refine wz8 ?_ | refine wz7 ?_) | (show HW1 (.unOp _ _ _); refine wz46 ?_) | (show HW1 (.load _ _); refine wz3 ?_) | (show HW1 (.box _ _); refine wz11 ?_) | (show HW1 (.fieldAddr _ _ _); refine wz4 ?_)) | refine go1 ?_ | refine end_block_other rfl ?_ | refine end_scope (fun _ h => by cases h) ?_ | (refine walk_endD ?_ ?_; (· kernel_rfl)) | refine tri_yesA rfl ?_ | refine tri_noA rfl ?_ | refine tri_trueA rfl ?_ | refine tri_falseA rfl ?_)
    refine end_ret (.c (.bool (!false))) (res_tmp rfl (by first | rfl | simp)) ?_
    exact fin_below fun _ => rfl
  by_cases h3 : m < y
  · rw [hout (by omega)]
    refine calls_tri Try.func61 rfl Try.ntmps61 rfl ?_
    repeat (first | (show Walk1 _ _ _ (_ :: _) _ _; first | (show Walk1 _ _ _ (⟨_, _, _, _, _, some _⟩ :: _) _ _; first | refine zy1 ?_ | refine zn1 ?_) | (show HW1 (.move _); refine wz1 ?_) | (show HW1 (.assign _); refine wz2 ?_) | (show HW1 (.binOp .lss _ _ _ _); refine wz12 ?_) | (show HW1 (.binOp .gtr _ _ _ _); refine wz21 ?_) | (show HW1 (.pick _ _ _); first | refine wz8 ?_ | refine wz7 ?_) | (show HW1 (.unOp _ _ _); refine wz46 ?_) | (show HW1 (.load _ _); refine wz3 ?_) | (show HW1 (.box _ _); refine wz11 ?_) | (show HW1 (.fieldAddr _ _ _); refine wz4 ?_)) | refine go1 ?_ | refine end_block_other rfl ?_ | refine end_scope (fun _ h => by cases h) ?_ | (refine walk_endD ?_ ?_; (· kernel_rfl)) | refine tri_yesA rfl ?_ | refine tri_noA rfl ?_ | refine tri_trueA rfl ?_ | refine tri_falseA rfl ?_)
    refine end_ret (.c (.bool (!false))) (res_tmp rfl (by first | rfl | simp)) ?_
    exact fin_below fun _ => rfl
  by_cases h4 : y < -m
  · rw [hout (by omega)]
    refine calls_tri Try.func61 rfl Try.ntmps61 rfl ?_
    repeat (first | (show Walk1 _ _ _ (_ :: _) _ _; first | (show Walk1 _ _ _ (⟨_, _, _, _, _, some _⟩ :: _) _ _; first | refine zy1 ?_ | refine zn1 ?_) | (show HW1 (.move _); refine wz1 ?_) | (show HW1 (.assign _); refine wz2 ?_) | (show HW1 (.binOp .lss _ _ _ _); refine wz12 ?_) | (show HW1 (.binOp .gtr _ _ _ _); refine wz21 ?_) | (show HW1 (.pick _ _ _); first | refine wz8 ?_ | refine wz7 ?_) | (show HW1 (.unOp _ _ _); refine wz46 ?_) | (show HW1 (.load _ _); refine wz3 ?_) | (show HW1 (.box _ _); refine wz11 ?_) | (show HW1 (.fieldAddr _ _ _); refine wz4 ?_)) | refine go1 ?_ | refine end_block_other rfl ?_ | refine end_scope (fun _ h => by cases h) ?_ | (refine walk_endD ?_ ?_; (· kernel_rfl)) | refine tri_yesA rfl ?_ | refine tri_noA rfl ?_ | refine tri_trueA rfl ?_ | refine tri_falseA rfl ?_)
    refine end_ret (.c (.bool (!false))) (res_tmp rfl (by first | rfl | simp)) ?_
    exact fin_below fun _ => rfl
  by_cases h5 : m < z
  · rw [hout (by omega)]
    refine calls_tri Try.func61 rfl Try.ntmps61 rfl ?_
    repeat (first | (show Walk1 _ _ _ (_ :: _) _ _; first | (show Walk1 _ _ _ (⟨_, _, _, _, _, some _⟩ :: _) _ _; first | refine zy1 ?_ | refine zn1 ?_) | (show HW1 (.move _); refine wz1 ?_) | (show HW1 (.assign _); refine wz2 ?_) | (show HW1 (.binOp .lss _ _ _ _); refine wz12 ?_) | (show HW1 (.binOp .gtr _ _ _ _); refine wz21 ?_) | (show HW1 (.pick _ _ _); first | refine wz8 ?_ | refine wz7 ?_) | (show HW1 (.unOp _ _ _); refine wz46 ?_) | (show HW1 (.load _ _); refine wz3 ?_) | (show HW1 (.box _ _); refine wz11 ?_) | (show HW1 (.fieldAddr _ _ _); refine wz4 ?_)) | refine go1 ?_ | refine end_block_other rfl ?_ | refine end_scope (fun _ h => by cases h) ?_ | (refine walk_endD ?_ ?_; (· kernel_rfl)) | refine tri_yesA rfl ?_ | refine tri_noA rfl ?_ | refine tri_trueA rfl ?_ | refine tri_falseA rfl ?_)
    refine end_ret (.c (.bool (!false))) (res_tmp rfl (by first | rfl | simp)) ?_
    exact fin_below fun _ => rfl
  have he : (!(inP ⟨x, y, z⟩ m)) = decide (z < -m) := by
    by_cases h6 : z < -m
    · rw [hout (by omega), decide_eq_true h6]; rfl
    · rw [decide_eq_false h6]
      have : inP ⟨x, y, z⟩ m = true := by
        unfold inP max3 min3
        simp only [Bool.and_eq_true, decide_eq_true_eq]
        omega
      rw [this]; rfl
  rw [he]
  clear hout he
  refine calls_tri Try.func61 rfl Try.ntmps61 rfl ?_
  repeat (first | (show Walk1 _ _ _ (_ :: _) _ _; first | (show Walk1 _ _ _ (⟨_, _, _, _, _, some _⟩ :: _) _ _; refine zy1 ?_) | (show HW1 (.move _); refine wz1 ?_) | (show HW1 (.assign _); refine wz2 ?_) | (show HW1 (.binOp .lss _ _ _ _); refine wz12 ?_) | (show HW1 (.binOp .gtr _ _ _ _); refine wz21 ?_) | (show HW1 (.pick _ _ _); refine wz7 ?_) | (show HW1 (.unOp _ _ _); refine wz46 ?_) | (show HW1 (.load _ _); refine wz3 ?_) | (show HW1 (.box _ _); refine wz11 ?_) | (show HW1 (.fieldAddr _ _ _); refine wz4 ?_)) | refine go1 ?_ | refine end_block_other rfl ?_ | refine end_scope (fun _ h => by cases h) ?_ | (refine walk_endD ?_ ?_; (· kernel_rfl)) | refine tri_yesA rfl ?_ | refine tri_noA rfl ?_ | refine tri_trueA rfl ?_ | refine tri_falseA rfl ?_)
  refine end_ret (.c (.bool (decide (z < -m)))) (res_tmp rfl rfl) ?_
  exact fin_below fun _ => rfl
theorem mayR_any (o d : P3) (w : World) : Calls Try.prog 60 #[.agg o.c, .agg d.c] w fun e w' => e = .returned (.bool (mayP o d)) ∧ Below w.heap.size w w' := by
  have c1 := fun w => farR_any o 65536 (by omega) w
  have c2 := fun w => farR_any d 131072 (by omega) w
  have hso : o.c.size = 3 := rfl
  unfold mayP
  generalize inP o 65536 = A at *
  generalize inP d 131072 = B at *
  generalize o.c = O at *
  obtain ⟨x, y, z⟩ := d
  have hsd : (P3.c ⟨x, y, z⟩).size = 3 := rfl
  simp only [P3.c, P3.l] at *
  cases A
  · refine calls_tri Try.func60 rfl Try.ntmps60 rfl ?_
    repeat (first | (show Walk1 _ _ _ (_ :: _) _ _; first | (show Walk1 _ _ _ (⟨_, _, _, _, _, some _⟩ :: _) _ _; first | refine zn1 ?_ | refine zu1 ?_) | (show HW1 (.move _); refine wz1 ?_) | (show HW1 (.assign _); refine wz2 ?_) | (show HW1 (.pick _ _ _); refine wz7 ?_) | (show HW1 (.unOp _ _ _); refine wz19 ?_) | (show HW1 (.load _ _); refine wz9 ?_) | (show HW1 (.box _ _); refine wz11 ?_) | (show HW1 (.call ⟨.value (.func 61), _, _⟩); ((first | refine cwalk11 61 ?_ | refine cwalk10 61 ?_); refine ⟨_, fun e w => c1 w, ?_⟩)) | (show HW1 (.call ⟨.value (.func 61), _, _⟩); ((first | refine cwalk11 61 ?_ | refine cwalk10 61 ?_); refine ⟨_, fun e w => c2 w, ?_⟩))) | refine go1 ?_ | refine end_block_other rfl ?_ | refine end_scope (fun _ h => by cases h) ?_ | (refine walk_endD ?_ ?_; (· kernel_rfl)) | refine tri_yesA rfl ?_ | refine tri_noA rfl ?_ | refine tri_trueA rfl ?_ | refine tri_falseA rfl ?_)
    refine end_ret (.c (.bool false)) (res_tmp rfl rfl) ?_
    exact fin_below fun _ => rfl
  cases B
  · refine calls_tri Try.func60 rfl Try.ntmps60 rfl ?_
    repeat (first | (show Walk1 _ _ _ (_ :: _) _ _; first | (show Walk1 _ _ _ (⟨_, _, _, _, _, some _⟩ :: _) _ _; first | refine zy1 ?_ | refine zn1 ?_ | refine zu1 ?_) | (show HW1 (.move _); refine wz1 ?_) | (show HW1 (.assign _); refine wz2 ?_) | (show HW1 (.pick _ _ _); first | refine wz8 ?_ | refine wz7 ?_) | (show HW1 (.unOp _ _ _); refine wz19 ?_) | (show HW1 (.load _ _); refine wz9 ?_) | (show HW1 (.box _ _); refine wz11 ?_) | (show HW1 (.call ⟨.value (.func 61), _, _⟩); ((first | refine cwalk11 61 ?_ | refine cwalk10 61 ?_); refine ⟨_, fun e w => c1 w, ?_⟩)) | (show HW1 (.call ⟨.value (.func 61), _, _⟩); ((first | refine cwalk11 61 ?_ | refine cwalk10 61 ?_); refine ⟨_, fun e w => c2 w, ?_⟩))) | refine go1 ?_ | refine end_block_other rfl ?_ | refine end_scope (fun _ h => by cases h) ?_ | (refine walk_endD ?_ ?_; (· kernel_rfl)) | refine tri_yesA rfl ?_ | refine tri_noA rfl ?_ | refine tri_trueA rfl ?_ | refine tri_falseA rfl ?_)
    refine end_ret (.c (.bool false)) (res_tmp rfl rfl) ?_
    exact fin_below fun _ => rfl
  by_cases hx : x = 0
  · by_cases hy : y = 0
    · have he : (true && (true && !([x, y, z] == [0, 0, 0]))) = decide (z ≠ 0) := by
        by_cases hz : z = 0
        · simp [hx, hy, hz]
        · simp [hx, hy, hz]
      rw [he]
      refine calls_tri Try.func60 rfl Try.ntmps60 rfl ?_
      repeat (first | (show Walk1 _ _ _ (_ :: _) _ _; first | (show Walk1 _ _ _ (⟨_, _, _, _, _, some _⟩ :: _) _ _; refine zy1 ?_) | (show HW1 (.move _); refine wz1 ?_) | (show HW1 (.assign _); refine wz2 ?_) | (show HW1 (.binOp .neq _ _ _ _); refine wz87 ?_) | (show HW1 (.pick _ _ _); first | refine wz8 ?_ | refine wz7 ?_) | (show HW1 (.unOp _ _ _); refine wz19 ?_) | (show HW1 (.load _ _); first | refine wz3 ?_ | refine wz9 ?_) | (show HW1 (.box _ _); refine wz11 ?_) | (show HW1 (.fieldAddr _ _ _); refine wz4 ?_) | (show HW1 (.call ⟨.value (.func 61), _, _⟩); ((first | refine cwalk11 61 ?_ | refine cwalk10 61 ?_); refine ⟨_, fun e w => c1 w, ?_⟩)) | (show HW1 (.call ⟨.value (.func 61), _, _⟩); ((first | refine cwalk11 61 ?_ | refine cwalk10 61 ?_); refine ⟨_, fun e w => c2 w, ?_⟩))) | refine go1 ?_ | refine end_block_other rfl ?_ | refine end_scope (fun _ h => by cases h) ?_ | (refine walk_endD ?_ ?_; (· kernel_rfl)) | refine tri_yesA rfl ?_ | refine tri_noA rfl ?_ | refine tri_trueA rfl ?_ | refine tri_falseA rfl ?_)
      refine end_ret (.c (.bool (decide (z ≠ 0)))) (res_tmp rfl rfl) ?_
      exact fin_below fun _ => rfl
    · have he : (true && (true && !([x, y, z] == [0, 0, 0]))) = true := by simp [hy]
      rw [he]
      refine calls_tri Try.func60 rfl Try.ntmps60 rfl ?_
      repeat (first | (show Walk1 _ _ _ (_ :: _) _ _; first | (show Walk1 _ _ _ (⟨_, _, _, _, _, some _⟩ :: _) _ _; first | refine zy1 ?_ | refine zn1 ?_) | (show HW1 (.move _); refine wz1 ?_) | (show HW1 (.assign _); refine wz2 ?_) | (show HW1 (.binOp .neq _ _ _ _); refine wz87 ?_) | (show HW1 (.pick _ _ _); first | refine wz8 ?_ | refine wz7 ?_) | (show HW1 (.unOp _ _ _); refine wz19 ?_) | (show HW1 (.load _ _); first | refine wz3 ?_ | refine wz9 ?_) | (show HW1 (.box _ _); refine wz11 ?_) | (show HW1 (.fieldAddr _ _ _); refine wz4 ?_) | (show HW1 (.call ⟨.value (.func 61), _, _⟩); ((first | refine cwalk11 61 ?_ | refine cwalk10 61 ?_); refine ⟨_, fun e w => c1 w, ?_⟩)) | (show HW1 (.call ⟨.value (.func 61), _, _⟩); ((first | refine cwalk11 61 ?_ | refine cwalk10 61 ?_); refine ⟨_, fun e w => c2 w, ?_⟩))) | refine go1 ?_ | refine end_block_other rfl ?_ | refine end_scope (fun _ h => by cases h) ?_ | (refine walk_endD ?_ ?_; (· kernel_rfl)) | refine tri_yesA rfl ?_ | refine tri_noA rfl ?_ | refine tri_trueA rfl ?_ | refine tri_falseA rfl ?_)
      refine end_ret (.c (.bool true)) (res_tmp rfl (by first | rfl | simp)) ?_
      exact fin_below fun _ => rfl
  · have he : (true && (true && !([x, y, z] == [0, 0, 0]))) = true := by simp [hx]
    rw [he]
    refine calls_tri Try.func60 rfl Try.ntmps60 rfl ?_
    repeat (first | (show Walk1 _ _ _ (_ :: _) _ _; first | (show Walk1 _ _ _ (⟨_, _, _, _, _, some _⟩ :: _) _ _; first | refine zy1 ?_ | refine zn1 ?_) | (show HW1 (.move _); refine wz1 ?_) | (show HW1 (.assign _); refine wz2 ?_) | (show HW1 (.binOp .neq _ _ _ _); refine wz87 ?_) | (show HW1 (.pick _ _ _); refine wz8 ?_) | (show HW1 (.unOp _ _ _); refine wz19 ?_) | (show HW1 (.load _ _); first | refine wz3 ?_ | refine wz9 ?_) | (show HW1 (.box _ _); refine wz11 ?_) | (show HW1 (.fieldAddr _ _ _); refine wz4 ?_) | (show HW1 (.call ⟨.value (.func 61), _, _⟩); ((first | refine cwalk11 61 ?_ | refine cwalk10 61 ?_); refine ⟨_, fun e w => c1 w, ?_⟩)) | (show HW1 (.call ⟨.value (.func 61), _, _⟩); ((first | refine cwalk11 61 ?_ | refine cwalk10 61 ?_); refine ⟨_, fun e w => c2 w, ?_⟩))) | refine go1 ?_ | refine end_block_other rfl ?_ | refine end_scope (fun _ h => by cases h) ?_ | (refine walk_endD ?_ ?_; (· kernel_rfl)) | refine tri_yesA rfl ?_ | refine tri_noA rfl ?_ | refine tri_trueA rfl ?_ | refine tri_falseA rfl ?_)
    refine end_ret (.c (.bool true)) (res_tmp rfl (by first | rfl | simp)) ?_
    exact fin_below fun _ => rfl
theorem hitR_any (o d p0 p1 p2 : P3) (w : World) : Calls Try.prog 41 #[.agg o.c, .agg d.c, .agg (P9 p0 p1 p2)] w fun e w' => e = .returned (.tuple #[.agg (hitM o d p0 p1 p2).1.c, .bool (hitM o d p0 p1 p2).2]) ∧ Below w.heap.size w w' := by
  have cM := fun w => mayR_any o d w
  have cf0 := fun w => farR_any p0 65536 (by omega) w
  have cf1 := fun w => farR_any p1 65536 (by omega) w
  have cf2 := fun w => farR_any p2 65536 (by omega) w
  have cE := fun w => subR_any p1 p0 w
  have cF := fun w => subR_any p2 p0 w
  have cA := fun w => crossR_any d (subP p2 p0) w
  have cS := fun w => subR_any o p0 w
  have cB := fun w => crossR_any (subP o p0) (subP p1 p0) w
  have d1 := fun w => dotR_any (subP p2 p0) (crossP (subP o p0) (subP p1 p0)) w
  have d2 := fun w => dotR_any (subP p1 p0) (crossP d (subP p2 p0)) w
  have d3 := fun w => dotR_any (subP o p0) (crossP d (subP p2 p0)) w
  have d4 := fun w => dotR_any d (crossP (subP o p0) (subP p1 p0)) w
  obtain ⟨s0, s1, s2⟩ := p9_sub p0 p1 p2
  have hany : [p0, p1, p2].any outF = (!(inP p0 65536) || (!(inP p1 65536) || !(inP p2 65536))) := by simp [outF]
  unfold hitM rawM
  rw [hany]
  clear hany
  generalize mayP o d = MY at *
  generalize inP p0 65536 = I0 at *
  generalize inP p1 65536 = I1 at *
  generalize inP p2 65536 = I2 at *
  generalize dotP (subP p2 p0) (crossP (subP o p0) (subP p1 p0)) = n1 at *
  generalize dotP (subP p1 p0) (crossP d (subP p2 p0)) = n2 at *
  generalize dotP (subP o p0) (crossP d (subP p2 p0)) = n3 at *
  generalize dotP d (crossP (subP o p0) (subP p1 p0)) = n4 at *
  have z1 := (show ∀ p : P3, p.c.size = 3 from fun _ => rfl)
  have y1 := p3_one
  have a1 := z1 o; have a2 := z1 d; have a3 := z1 p0; have a4 := z1 p1; have a5 := z1 p2
  have a6 := z1 (subP p1 p0); have a7 := z1 (subP p2 p0); have a8 := z1 (subP o p0); have a9 := z1 (crossP d (subP p2 p0)); have a10 := z1 (crossP (subP o p0) (subP p1 p0))
  have b6 := y1 (subP p1 p0); have b7 := y1 (subP p2 p0); have b8 := y1 (subP o p0); have b9 := y1 (crossP d (subP p2 p0)); have b10 := y1 (crossP (subP o p0) (subP p1 p0))
  clear z1 y1
  generalize (crossP (subP o p0) (subP p1 p0)).c = XB at *
  generalize (crossP d (subP p2 p0)).c = XA at *
  generalize (subP p1 p0).c = XE at *
  generalize (subP p2 p0).c = XF at *
  generalize (subP o p0).c = XS at *
  generalize P9 p0 p1 p2 = PP at *
  generalize o.c = XO at *
  generalize d.c = XD at *
  generalize p0.c = X0 at *
  generalize p1.c = X1 at *
  generalize p2.c = X2 at *
  by_cases hgo : (MY && !(!I0 || (!I1 || !I2))) = true
  · have hgo2 : MY = true ∧ I0 = true ∧ I1 = true ∧ I2 = true := by
      cases MY <;> cases I0 <;> cases I1 <;> cases I2 <;> simp at hgo ⊢
    obtain ⟨rfl, rfl, rfl, rfl⟩ := hgo2
    rw [if_pos (by rfl)]
    refine calls_tri Try.func41 rfl Try.ntmps41 rfl ?_
    repeat (first | (show Walk1 _ _ _ (_ :: _) _ _; first | (show Walk1 _ _ _ (⟨_, _, _, _, _, some _⟩ :: _) _ _; refine zy1 ?_) | (show HW1 (.move _); refine wz1 ?_) | (show HW1 (.assign _); refine wz2 ?_) | (show HW1 (.binOp .lss _ _ _ _); refine wz12 ?_) | (show HW1 (.pick _ _ _); refine wz7 ?_) | (show HW1 (.unOp _ _ _); refine wz19 ?_) | (show HW1 (.indexAddr _ _ _); refine wz103 ?_) | (show HW1 (.load _ _); first | refine wz9 ?_ | refine wz100 ?_) | (show HW1 (.store _ _ _); refine wz23 ?_) | (show HW1 (.alloc _); refine wz6 ?_) | (show HW1 (.box _ _); refine wz11 ?_) | (show HW1 (.call ⟨.value (.func 60), _, _⟩); ((first | refine cwalk11 60 ?_ | refine cwalk10 60 ?_); refine ⟨_, fun e w => cM w, ?_⟩)) | (show HW1 (.call ⟨.value (.func 61), _, _⟩); ((first | refine cwalk11 61 ?_ | refine cwalk10 61 ?_); refine ⟨_, fun e w => cf0 w, ?_⟩)) | (show HW1 (.call ⟨.value (.func 61), _, _⟩); ((first | refine cwalk11 61 ?_ | refine cwalk10 61 ?_); refine ⟨_, fun e w => cf1 w, ?_⟩)) | (show HW1 (.call ⟨.value (.func 61), _, _⟩); ((first | refine cwalk11 61 ?_ | refine cwalk10 61 ?_); refine ⟨_, fun e w => cf2 w, ?_⟩)) | (show HW1 (.call ⟨.value (.func 62), _, _⟩); ((first | refine cwalk11 62 ?_ | refine cwalk10 62 ?_); refine ⟨_, fun e w => cE w, ?_⟩)) | (show HW1 (.call ⟨.value (.func 62), _, _⟩); ((first | refine cwalk11 62 ?_ | refine cwalk10 62 ?_); refine ⟨_, fun e w => cF w, ?_⟩)) | (show HW1 (.call ⟨.value (.func 62), _, _⟩); ((first | refine cwalk11 62 ?_ | refine cwalk10 62 ?_); refine ⟨_, fun e w => cS w, ?_⟩)) | (show HW1 (.call ⟨.value (.func 63), _, _⟩); ((first | refine cwalk11 63 ?_ | refine cwalk10 63 ?_); refine ⟨_, fun e w => cA w, ?_⟩)) | (show HW1 (.call ⟨.value (.func 63), _, _⟩); ((first | refine cwalk11 63 ?_ | refine cwalk10 63 ?_); refine ⟨_, fun e w => cB w, ?_⟩)) | (show HW1 (.call ⟨.value (.func 64), _, _⟩); ((first | refine cwalk11 64 ?_ | refine cwalk10 64 ?_); refine ⟨_, fun e w => d1 w, ?_⟩)) | (show HW1 (.call ⟨.value (.func 64), _, _⟩); ((first | refine cwalk11 64 ?_ | refine cwalk10 64 ?_); refine ⟨_, fun e w => d2 w, ?_⟩)) | (show HW1 (.call ⟨.value (.func 64), _, _⟩); ((first | refine cwalk11 64 ?_ | refine cwalk10 64 ?_); refine ⟨_, fun e w => d3 w, ?_⟩)) | (show HW1 (.call ⟨.value (.func 64), _, _⟩); ((first | refine cwalk11 64 ?_ | refine cwalk10 64 ?_); refine ⟨_, fun e w => d4 w, ?_⟩))) | (show WalkTo _ _ _ _ (_ :: _) _ _ _; first | (show HW2 (.indexAddr _ _ _); refine wz92 ?_) | (show HW2 (.load _ _); refine wz131 ?_) | (show HW2 (.store _ _ _); refine wz36 ?_) | (show HW2 (.alloc _); refine wz43 ?_) | (show HW2 (.call ⟨.value (.func 62), _, _⟩); ((first | refine cwalk1 62 ?_ | refine cwalk0 62 ?_); refine ⟨_, fun e w => cE w, ?_⟩)) | (show HW2 (.call ⟨.value (.func 62), _, _⟩); ((first | refine cwalk1 62 ?_ | refine cwalk0 62 ?_); refine ⟨_, fun e w => cF w, ?_⟩)) | (show HW2 (.call ⟨.value (.func 62), _, _⟩); ((first | refine cwalk1 62 ?_ | refine cwalk0 62 ?_); refine ⟨_, fun e w => cS w, ?_⟩))) | refine go1 ?_ | refine end_block_other rfl ?_ | refine end_scope (fun _ h => by cases h) ?_ | (refine walk_endD ?_ ?_; (· kernel_rfl)) | refine tri_yesA rfl ?_ | refine tri_noA rfl ?_ | refine tri_trueA rfl ?_ | refine tri_falseA rfl ?_)
    refine tri_normK ⟨[(6, .p 6 0), (16, .c (.int .i64 (turnM ⟨n1, n2, n3, n4⟩).num)), (11, .c (.int .i64 (turnM ⟨n1, n2, n3, n4⟩).det)), (13, .c (.int .i64 (turnM ⟨n1, n2, n3, n4⟩).u)), (15, .c (.int .i64 (turnM ⟨n1, n2, n3, n4⟩).v))], [(6, some (.blk 6 41 (.c #[.int .i64 0, .int .i64 0, .int .i64 0, .int .i64 0])))]⟩ ?_ fun Q' hex _ => ?_
    rotate_left
    · refine tri_dec rfl (fun hneg => ?_) (fun hneg => ?_)
      · have ht : turnM ⟨n1, n2, n3, n4⟩ = ⟨nW n1, nW n2, nW n3, nW n4⟩ := by rw [turnM, if_pos (by simpa using hneg)]
        rw [ht] at hex
        repeat (first | (show Walk1 _ _ _ (_ :: _) _ _; first | (show HW1 (.move _); refine wz1 ?_) | (show HW1 (.assign _); refine wz2 ?_) | (show HW1 (.unOp _ _ _); refine wz113 ?_)) | refine go1 ?_ | refine end_block_other rfl ?_ | refine end_scope (fun _ h => by cases h) ?_ | (refine walk_endD ?_ ?_; (· kernel_rfl)) | refine tri_yesA rfl ?_ | refine tri_noA rfl ?_ | refine tri_trueA rfl ?_ | refine tri_falseA rfl ?_)
        exact hex _ (ent_keep (by repeat (first | exact hasT_nil | refine hasT_cons rfl ?_ | refine hasT_eq rfl (svi (by omega)) ?_)) (by repeat (first | exact hasR_nil | refine hasR_cons rfl ?_)))
      · have ht : turnM ⟨n1, n2, n3, n4⟩ = ⟨n1, n2, n3, n4⟩ := by rw [turnM, if_neg (by simpa using hneg)]
        rw [ht] at hex
        repeat (first | refine go1 ?_ | refine end_block_other rfl ?_ | refine end_scope (fun _ h => by cases h) ?_ | (refine walk_endD ?_ ?_; (· kernel_rfl)) | refine tri_yesA rfl ?_ | refine tri_noA rfl ?_ | refine tri_trueA rfl ?_ | refine tri_falseA rfl ?_)
        exact hex _ (ent_keep (by repeat (first | exact hasT_nil | refine hasT_cons rfl ?_ | refine hasT_eq rfl (svi (by omega)) ?_)) (by repeat (first | exact hasR_nil | refine hasR_cons rfl ?_)))
    generalize turnM ⟨n1, n2, n3, n4⟩ = m
    obtain ⟨n, det, u, v⟩ := m
    have hsm : (M4.c ⟨n, det, u, v⟩).size = 4 := rfl
    simp only [M4.c] at hsm ⊢
    clear cM cf0 cf1 cf2 cE cF cA cS cB d1 d2 d3 d4 s0 s1 s2 a1 a2 a3 a4 a5 a6 a7 a8 a9 a10 b6 b7 b8 b9 b10
    have hbad : ∀ hb : badM ⟨n, det, u, v⟩, endM ⟨n, det, u, v⟩ = (zM, false) := fun hb => by rw [endM, if_pos hb]
    by_cases h1 : det = 0
    · rw [hbad (.inl h1)]
      repeat (first | (show Walk1 _ _ _ (_ :: _) _ _; first | (show Walk1 _ _ _ (⟨_, _, _, _, _, some _⟩ :: _) _ _; refine zn1 ?_) | (show HW1 (.move _); refine wz1 ?_) | (show HW1 (.assign _); refine wz2 ?_) | (show HW1 (.binOp .eql _ _ _ _); refine wz18 ?_) | (show HW1 (.pick _ _ _); refine wz8 ?_) | (show HW1 (.store _ _ _); refine wz14 ?_) | (show HW1 (.build _ _); refine wz32 ?_)) | refine go1 ?_ | refine end_block_other rfl ?_ | refine end_scope (fun _ h => by cases h) ?_ | (refine walk_endD ?_ ?_; (· kernel_rfl)) | refine tri_yesA rfl ?_ | refine tri_noA rfl ?_ | refine tri_trueA rfl ?_ | refine tri_falseA rfl ?_)
      refine end_ret (.c (.tuple #[.agg zM.c, .bool false])) (res_cellT rfl rfl rfl rfl rfl rfl rfl rfl) ?_
      exact fin_below fun _ => rfl
    by_cases h2 : u < 0
    · rw [hbad (.inr (.inl h2))]
      repeat (first | (show Walk1 _ _ _ (_ :: _) _ _; first | (show Walk1 _ _ _ (⟨_, _, _, _, _, some _⟩ :: _) _ _; first | refine zy1 ?_ | refine zn1 ?_) | (show HW1 (.move _); refine wz1 ?_) | (show HW1 (.assign _); refine wz2 ?_) | (show HW1 (.binOp .lss _ _ _ _); refine wz12 ?_) | (show HW1 (.binOp .eql _ _ _ _); refine wz18 ?_) | (show HW1 (.pick _ _ _); first | refine wz8 ?_ | refine wz7 ?_) | (show HW1 (.store _ _ _); refine wz14 ?_) | (show HW1 (.build _ _); refine wz32 ?_)) | refine go1 ?_ | refine end_block_other rfl ?_ | refine end_scope (fun _ h => by cases h) ?_ | (refine walk_endD ?_ ?_; (· kernel_rfl)) | refine tri_yesA rfl ?_ | refine tri_noA rfl ?_ | refine tri_trueA rfl ?_ | refine tri_falseA rfl ?_)
      refine end_ret (.c (.tuple #[.agg zM.c, .bool false])) (res_cellT rfl rfl rfl rfl rfl rfl rfl rfl) ?_
      exact fin_below fun _ => rfl
    by_cases h3 : v < 0
    · rw [hbad (.inr (.inr (.inl h3)))]
      repeat (first | (show Walk1 _ _ _ (_ :: _) _ _; first | (show Walk1 _ _ _ (⟨_, _, _, _, _, some _⟩ :: _) _ _; first | refine zy1 ?_ | refine zn1 ?_) | (show HW1 (.move _); refine wz1 ?_) | (show HW1 (.assign _); refine wz2 ?_) | (show HW1 (.binOp .lss _ _ _ _); refine wz12 ?_) | (show HW1 (.binOp .eql _ _ _ _); refine wz18 ?_) | (show HW1 (.pick _ _ _); first | refine wz8 ?_ | refine wz7 ?_) | (show HW1 (.store _ _ _); refine wz14 ?_) | (show HW1 (.build _ _); refine wz32 ?_)) | refine go1 ?_ | refine end_block_other rfl ?_ | refine end_scope (fun _ h => by cases h) ?_ | (refine walk_endD ?_ ?_; (· kernel_rfl)) | refine tri_yesA rfl ?_ | refine tri_noA rfl ?_ | refine tri_trueA rfl ?_ | refine tri_falseA rfl ?_)
      refine end_ret (.c (.tuple #[.agg zM.c, .bool false])) (res_cellT rfl rfl rfl rfl rfl rfl rfl rfl) ?_
      exact fin_below fun _ => rfl
    by_cases h4 : det < aW u v
    · rw [hbad (.inr (.inr (.inr (.inl h4))))]
      repeat (first | (show Walk1 _ _ _ (_ :: _) _ _; first | (show Walk1 _ _ _ (⟨_, _, _, _, _, some _⟩ :: _) _ _; first | refine zy1 ?_ | refine zn1 ?_) | (show HW1 (.move _); refine wz1 ?_) | (show HW1 (.assign _); refine wz2 ?_) | (show HW1 (.binOp .add _ _ _ _); refine wz53 ?_) | (show HW1 (.binOp .lss _ _ _ _); refine wz12 ?_) | (show HW1 (.binOp .gtr _ _ _ _); refine wz21 ?_) | (show HW1 (.binOp .eql _ _ _ _); refine wz18 ?_) | (show HW1 (.pick _ _ _); first | refine wz8 ?_ | refine wz7 ?_) | (show HW1 (.store _ _ _); refine wz14 ?_) | (show HW1 (.build _ _); refine wz32 ?_)) | refine go1 ?_ | refine end_block_other rfl ?_ | refine end_scope (fun _ h => by cases h) ?_ | (refine walk_endD ?_ ?_; (· kernel_rfl)) | refine tri_yesA rfl ?_ | refine tri_noA rfl ?_ | refine tri_trueA rfl ?_ | refine tri_falseA rfl ?_)
      refine end_ret (.c (.tuple #[.agg zM.c, .bool false])) (res_cellT rfl rfl rfl rfl rfl rfl rfl rfl) ?_
      exact fin_below fun _ => rfl
    by_cases h5 : n ≤ 0
    · rw [hbad (.inr (.inr (.inr (.inr h5))))]
      repeat (first | (show Walk1 _ _ _ (_ :: _) _ _; first | (show Walk1 _ _ _ (⟨_, _, _, _, _, some _⟩ :: _) _ _; refine zy1 ?_) | (show HW1 (.move _); refine wz1 ?_) | (show HW1 (.assign _); refine wz2 ?_) | (show HW1 (.binOp .add _ _ _ _); refine wz53 ?_) | (show HW1 (.binOp .lss _ _ _ _); refine wz12 ?_) | (show HW1 (.binOp .leq _ _ _ _); refine wz75 ?_) | (show HW1 (.binOp .gtr _ _ _ _); refine wz21 ?_) | (show HW1 (.binOp .eql _ _ _ _); refine wz18 ?_) | (show HW1 (.pick _ _ _); refine wz7 ?_) | (show HW1 (.store _ _ _); refine wz14 ?_) | (show HW1 (.build _ _); refine wz32 ?_)) | refine go1 ?_ | refine end_block_other rfl ?_ | refine end_scope (fun _ h => by cases h) ?_ | (refine walk_endD ?_ ?_; (· kernel_rfl)) | refine tri_yesA rfl ?_ | refine tri_noA rfl ?_ | refine tri_trueA rfl ?_ | refine tri_falseA rfl ?_)
      refine end_ret (.c (.tuple #[.agg zM.c, .bool false])) (res_cellT rfl rfl rfl rfl rfl rfl rfl rfl) ?_
      exact fin_below fun _ => rfl
    have hgood : endM ⟨n, det, u, v⟩ = (⟨n, det, u, v⟩, true) := by
      rw [endM, if_neg]
      rintro (h | h | h | h | h) <;> contradiction
    rw [hgood]
    repeat (first | (show Walk1 _ _ _ (_ :: _) _ _; first | (show Walk1 _ _ _ (⟨_, _, _, _, _, some _⟩ :: _) _ _; refine zy1 ?_) | (show HW1 (.move _); refine wz1 ?_) | (show HW1 (.assign _); refine wz2 ?_) | (show HW1 (.binOp .add _ _ _ _); refine wz53 ?_) | (show HW1 (.binOp .lss _ _ _ _); refine wz12 ?_) | (show HW1 (.binOp .leq _ _ _ _); refine wz75 ?_) | (show HW1 (.binOp .gtr _ _ _ _); refine wz21 ?_) | (show HW1 (.binOp .eql _ _ _ _); refine wz18 ?_) | (show HW1 (.pick _ _ _); refine wz7 ?_) | (show HW1 (.store _ _ _); refine wz28 ?_) | (show HW1 (.build _ _); refine wz25 ?_)) | refine go1 ?_ | refine end_block_other rfl ?_ | refine end_scope (fun _ h => by cases h) ?_ | (refine walk_endD ?_ ?_; (· kernel_rfl)) | refine tri_yesA rfl ?_ | refine tri_noA rfl ?_ | refine tri_trueA rfl ?_ | refine tri_falseA rfl ?_)
    refine end_ent (ent_blkA 6 (.c (M4.c ⟨n, det, u, v⟩)) rfl (fun _ => rfl)) ?_
    refine end_ret (.c (.tuple #[.agg (M4.c ⟨n, det, u, v⟩), .bool true])) (res_cellT rfl rfl rfl rfl rfl rfl rfl rfl) ?_
    exact fin_below fun _ => rfl
  · rw [if_neg hgo]
    cases MY <;> cases I0 <;> cases I1 <;> cases I2
    all_goals first | exact absurd rfl hgo | skip
    all_goals
      refine calls_tri Try.func41 rfl Try.ntmps41 rfl ?_
      repeat (first | (show Walk1 _ _ _ (_ :: _) _ _; first | (show Walk1 _ _ _ (⟨_, _, _, _, _, some _⟩ :: _) _ _; first | refine zy1 ?_ | refine zn1 ?_) | (show HW1 (.move _); refine wz1 ?_) | (show HW1 (.assign _); refine wz2 ?_) | (show HW1 (.pick _ _ _); first | refine wz8 ?_ | refine wz7 ?_) | (show HW1 (.unOp _ _ _); refine wz19 ?_) | (show HW1 (.indexAddr _ _ _); refine wz103 ?_) | (show HW1 (.load _ _); first | refine wz9 ?_ | refine wz100 ?_) | (show HW1 (.store _ _ _); refine wz14 ?_) | (show HW1 (.alloc _); refine wz6 ?_) | (show HW1 (.box _ _); refine wz11 ?_) | (show HW1 (.build _ _); refine wz32 ?_) | (show HW1 (.call ⟨.value (.func 60), _, _⟩); ((first | refine cwalk11 60 ?_ | refine cwalk10 60 ?_); refine ⟨_, fun e w => cM w, ?_⟩)) | (show HW1 (.call ⟨.value (.func 61), _, _⟩); ((first | refine cwalk11 61 ?_ | refine cwalk10 61 ?_); refine ⟨_, fun e w => cf0 w, ?_⟩)) | (show HW1 (.call ⟨.value (.func 61), _, _⟩); ((first | refine cwalk11 61 ?_ | refine cwalk10 61 ?_); refine ⟨_, fun e w => cf1 w, ?_⟩)) | (show HW1 (.call ⟨.value (.func 61), _, _⟩); ((first | refine cwalk11 61 ?_ | refine cwalk10 61 ?_); refine ⟨_, fun e w => cf2 w, ?_⟩))) | refine go1 ?_ | refine end_block_other rfl ?_ | refine end_scope (fun _ h => by cases h) ?_ | (refine walk_endD ?_ ?_; (· kernel_rfl)) | refine tri_yesA rfl ?_ | refine tri_noA rfl ?_ | refine tri_trueA rfl ?_ | refine tri_falseA rfl ?_)
      refine end_ret (.c (.tuple #[.agg zM.c, .bool false])) (res_cellT rfl rfl rfl rfl rfl rfl rfl rfl) ?_
      exact fin_below fun _ => rfl
end Go.Proofs.Ytcookaiakfbdiaa
namespace Go.Proofs.Ytcookaiakfbdiaa
open Go.RowKit
set_option maxRecDepth 100000
variable {C : Ctx} {ops : Array Oper} {S : St} {o : Oper}
def gtN (l : List Nat) (i : Nat) : Nat := l.getD i 0
end Go.Proofs.Ytcookaiakfbdiaa
