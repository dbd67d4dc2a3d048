/- A record and its cells. No condition. -/
import Derived.Test.YtihbiejgebmeaaaRecAB
namespace Go.Proofs.Ytihbiejgebmeaaa
open Go.RowKit
set_option maxRecDepth 100000
set_option maxHeartbeats 4000000
/-- A record, but for the numbers of its assets. -/
structure RecS where
  layer : Int
  view : ViewS
  steps : StepS
  label : BitVec 32
  frm : BitVec 32
  til : BitVec 32
  scene : List (BitVec 8)
  planes : List (BitVec 8)
def RecS.ok (r : RecS) : Prop := r.scene.length = 32 ∧ r.planes.length = 32
def recA (r : RecS) (v : Value) : Array Value := #[.int .i64 r.layer] ++ r.view.c ++ r.steps.c ++ #[v, .int .u32 (bvi r.label), .int .u32 (bvi r.frm), .int .u32 (bvi r.til)] ++ vals .u8 r.scene ++ vals .u8 r.planes
/-- What is read of a record's cells. -/
structure RecF (A : Array Value) (r : RecS) (v : Value) : Prop where
  size : A.size = 93
  layer : A[0]? = some (.int .i64 r.layer)
  view : Sub (.c A) 1 21 (.c r.view.c)
  constant : A[21]? = some (.bool r.view.constant)
  steps : Sub (.c A) 22 3 (.c r.steps.c)
  ids : A[25]? = some v
  label : A[26]? = some (.int .u32 (bvi r.label))
  frm : A[27]? = some (.int .u32 (bvi r.frm))
  til : A[28]? = some (.int .u32 (bvi r.til))
  scene : Sub (.c A) 29 32 (.c (vals .u8 r.scene))
  planes : Sub (.c A) 61 32 (.c (vals .u8 r.planes))
theorem vals_len8 (l : List (BitVec 8)) : (vals .u8 l).size = l.length := by simp [vals, valsL]
theorem sub_parts {X Y Z A : Array Value} {off m : Nat} (hA : A = X ++ Y ++ Z) (hX : X.size = off) (hY : Y.size = m) : Sub (.c A) off m (.c Y) := fun e => ⟨X, Z, hA, hX, hY⟩
theorem get_parts {X Y Z A : Array Value} {k : Nat} (i : Nat) (hA : A = X ++ Y ++ Z) (hk : i = X.size + k) (h : k < Y.size) : A[i]? = Y[k]? := by
  subst hA hk
  rw [Array.getElem?_append_left (by rw [Array.size_append]; omega), Array.getElem?_append_right (by omega)]
  congr 1
  omega
theorem recF (r : RecS) (h : r.ok) (v : Value) : RecF (recA r v) r v := by
  obtain ⟨h1, h2⟩ := h
  have s4 := vals_len8 r.scene
  have s5 := vals_len8 r.planes
  rw [h1] at s4
  rw [h2] at s5
  have s1 : r.view.c.size = 21 := rfl
  have s2 : r.steps.c.size = 3 := rfl
  have hcn : r.view.c[20]? = some (.bool r.view.constant) := rfl
  generalize hP0 : (#[Value.int .i64 r.layer] : Array Value) = P0
  generalize hP3 : (#[v, .int .u32 (bvi r.label), .int .u32 (bvi r.frm), .int .u32 (bvi r.til)] : Array Value) = P3
  have s0 : P0.size = 1 := by rw [← hP0]; rfl
  have s3 : P3.size = 4 := by rw [← hP3]; rfl
  have g0 : P0[0]? = some (.int .i64 r.layer) := by rw [← hP0]; rfl
  have g30 : P3[0]? = some v := by rw [← hP3]; rfl
  have g31 : P3[1]? = some (.int .u32 (bvi r.label)) := by rw [← hP3]; rfl
  have g32 : P3[2]? = some (.int .u32 (bvi r.frm)) := by rw [← hP3]; rfl
  have g33 : P3[3]? = some (.int .u32 (bvi r.til)) := by rw [← hP3]; rfl
  have hA : recA r v = P0 ++ r.view.c ++ r.steps.c ++ P3 ++ vals .u8 r.scene ++ vals .u8 r.planes := by rw [← hP0, ← hP3]; rfl
  generalize recA r v = A at *
  generalize hP4 : vals .u8 r.scene = P4 at *
  generalize hP5 : vals .u8 r.planes = P5 at *
  clear hP0 hP3 h1 h2
  generalize hP1 : r.view.c = P1 at *
  generalize hP2 : r.steps.c = P2 at *
  have e0 : A = #[] ++ P0 ++ (P1 ++ P2 ++ P3 ++ P4 ++ P5) := by rw [hA]; simp only [Array.append_assoc, Array.empty_append]
  have e1 : A = P0 ++ P1 ++ (P2 ++ P3 ++ P4 ++ P5) := by rw [hA]; simp only [Array.append_assoc]
  have e2 : A = (P0 ++ P1) ++ P2 ++ (P3 ++ P4 ++ P5) := by rw [hA]; simp only [Array.append_assoc]
  have e3 : A = (P0 ++ P1 ++ P2) ++ P3 ++ (P4 ++ P5) := by rw [hA]; simp only [Array.append_assoc]
  have e4 : A = (P0 ++ P1 ++ P2 ++ P3) ++ P4 ++ P5 := hA
  have e5 : A = (P0 ++ P1 ++ P2 ++ P3 ++ P4) ++ P5 ++ #[] := by rw [hA, Array.append_empty]
  have z2 : (P0 ++ P1).size = 22 := by rw [Array.size_append, s0, s1]
  have z3 : (P0 ++ P1 ++ P2).size = 25 := by rw [Array.size_append, z2, s2]
  have z4 : (P0 ++ P1 ++ P2 ++ P3).size = 29 := by rw [Array.size_append, z3, s3]
  have z5 : (P0 ++ P1 ++ P2 ++ P3 ++ P4).size = 61 := by rw [Array.size_append, z4, s4]
  refine ⟨?_, ?_, ?_, ?_, ?_, ?_, ?_, ?_, ?_, ?_, ?_⟩
  · rw [hA, Array.size_append, z5, s5]
  · rw [get_parts (k := 0) 0 e0 rfl (by rw [s0]; decide), g0]
  · rw [hP1]; exact sub_parts e1 s0 s1
  · rw [get_parts (k := 20) 21 e1 (by rw [s0]) (by rw [s1]; decide), hcn]
  · rw [hP2]; exact sub_parts e2 z2 s2
  · rw [get_parts (k := 0) 25 e3 (by rw [z3]) (by rw [s3]; decide), g30]
  · rw [get_parts (k := 1) 26 e3 (by rw [z3]) (by rw [s3]; decide), g31]
  · rw [get_parts (k := 2) 27 e3 (by rw [z3]) (by rw [s3]; decide), g32]
  · rw [get_parts (k := 3) 28 e3 (by rw [z3]) (by rw [s3]; decide), g33]
  · rw [hP4]; exact sub_parts e4 z4 s4
  · rw [hP5]; exact sub_parts e5 z5 s5
def wantS (v : ViewS) : StepS := if v.constant = true then costV v else zS
def recE (r : RecS) : Int := if r.layer < 0 ∨ 7 < r.layer then 13 else if viewE r.view ≠ 0 then viewE r.view else if (r.steps.l == (wantS r.view).l) = false then 5 else 0
end Go.Proofs.Ytihbiejgebmeaaa
