/- Cameras, views, steps and records: in plain numbers. No condition. -/
import Derived.Test.YtlhedoodbadmgaaSymYD
namespace Go.Proofs.Ytlhedoodbadmgaa
open Go.RowKit
set_option maxRecDepth 100000
def dirP (p : P3) : Bool := !(p.l == [0, 0, 0]) && inP p 16384
structure CamS where
  eye : P3
  right : P3
  up : P3
  ahead : P3
  lens : Int
  focus : Int
def CamS.c (c : CamS) : Array Value := #[.int .i64 c.eye.x, .int .i64 c.eye.y, .int .i64 c.eye.z, .int .i64 c.right.x, .int .i64 c.right.y, .int .i64 c.right.z, .int .i64 c.up.x, .int .i64 c.up.y, .int .i64 c.up.z, .int .i64 c.ahead.x, .int .i64 c.ahead.y, .int .i64 c.ahead.z, .int .i64 c.lens, .int .i64 c.focus]
def sizesOk (c : CamS) (w h : Int) : Prop := 0 ≤ c.lens ∧ c.lens ≤ 1024 ∧ 1 ≤ c.focus ∧ c.focus ≤ 32768 ∧ 1 ≤ w ∧ w ≤ 64 ∧ 1 ≤ h ∧ h ≤ 64
instance (c : CamS) (w h : Int) : Decidable (sizesOk c w h) := by unfold sizesOk; infer_instance
def lensE (c : CamS) (w h : Int) : Int :=
  if inP c.eye 32768 = false then 8 else if (dirP c.right && (dirP c.up && dirP c.ahead)) = false then 2 else if sizesOk c w h then 0 else 2
structure ViewS where
  w : Int
  h : Int
  samples : Int
  depth : Int
  cls : Int
  seed : BitVec 64
  cam : CamS
  constant : Bool
def ViewS.c (v : ViewS) : Array Value := #[.int .i64 v.w, .int .i64 v.h, .int .i64 v.samples, .int .i64 v.depth, .int .i64 v.cls, .int .u64 (bvi v.seed), .int .i64 v.cam.eye.x, .int .i64 v.cam.eye.y, .int .i64 v.cam.eye.z, .int .i64 v.cam.right.x, .int .i64 v.cam.right.y, .int .i64 v.cam.right.z, .int .i64 v.cam.up.x, .int .i64 v.cam.up.y, .int .i64 v.cam.up.z, .int .i64 v.cam.ahead.x, .int .i64 v.cam.ahead.y, .int .i64 v.cam.ahead.z, .int .i64 v.cam.lens, .int .i64 v.cam.focus, .bool v.constant]
def viewOk (v : ViewS) : Prop := 1 ≤ v.samples ∧ v.samples ≤ 16 ∧ 0 ≤ v.depth ∧ v.depth ≤ 8 ∧ 0 ≤ v.cls ∧ v.cls ≤ 2
instance (v : ViewS) : Decidable (viewOk v) := by unfold viewOk; infer_instance
def viewE (v : ViewS) : Int := if lensE v.cam v.w v.h ≠ 0 then lensE v.cam v.w v.h else if viewOk v then 0 else 2
structure StepS where
  walk : Int
  texel : Int
  bounce : Int
def StepS.l (s : StepS) : List Int := [s.walk, s.texel, s.bounce]
def StepS.c (s : StepS) : Array Value := #[.int .i64 s.walk, .int .i64 s.texel, .int .i64 s.bounce]
def zS : StepS := ⟨0, 0, 0⟩
def roomV (c : Int) : Int := if c = 0 then 80 else if c = 1 then 320 else 2304
def nV (v : ViewS) : Int := v.w * v.h * v.samples * (v.depth + 1)
def costV (v : ViewS) : StepS := if viewE v ≠ 0 then zS else ⟨nV v * roomV v.cls, 4 * nV v, nV v⟩
theorem view_bounds (v : ViewS) (h : viewE v = 0) : inP v.cam.eye 32768 = true ∧ dirP v.cam.right = true ∧ dirP v.cam.up = true ∧ dirP v.cam.ahead = true ∧ sizesOk v.cam v.w v.h ∧ viewOk v := by
  unfold viewE at h
  by_cases hl : lensE v.cam v.w v.h ≠ 0
  · rw [if_pos hl] at h; exact absurd h hl
  · rw [if_neg hl] at h
    have hl2 : lensE v.cam v.w v.h = 0 := by simpa using hl
    by_cases hv : viewOk v
    · unfold lensE at hl2
      by_cases h1 : inP v.cam.eye 32768 = false
      · rw [if_pos h1] at hl2; cases hl2
      · rw [if_neg h1] at hl2
        by_cases h2 : (dirP v.cam.right && (dirP v.cam.up && dirP v.cam.ahead)) = false
        · rw [if_pos h2] at hl2; cases hl2
        · rw [if_neg h2] at hl2
          by_cases h3 : sizesOk v.cam v.w v.h
          · simp at h1 h2
            exact ⟨h1, h2.1, h2.2.1, h2.2.2, h3, hv⟩
          · rw [if_neg h3] at hl2; cases hl2
    · rw [if_neg hv] at h; cases h
theorem in_bounds {p : P3} {m : Int} (h : inP p m = true) : -m ≤ p.x ∧ p.x ≤ m ∧ -m ≤ p.y ∧ p.y ≤ m ∧ -m ≤ p.z ∧ p.z ≤ m := by
  unfold inP max3 min3 at h
  simp only [Bool.and_eq_true, decide_eq_true_eq] at h
  omega
theorem dir_bounds {p : P3} (h : dirP p = true) : -16384 ≤ p.x ∧ p.x ≤ 16384 ∧ -16384 ≤ p.y ∧ p.y ≤ 16384 ∧ -16384 ≤ p.z ∧ p.z ≤ 16384 := by
  unfold dirP at h
  rw [Bool.and_eq_true] at h
  exact in_bounds h.2
theorem nV_bounds (v : ViewS) (h : viewE v = 0) : 0 ≤ v.w * v.h ∧ v.w * v.h ≤ 4096 ∧ 0 ≤ v.w * v.h * v.samples ∧ v.w * v.h * v.samples ≤ 65536 ∧ 0 ≤ nV v ∧ nV v ≤ 589824 := by
  obtain ⟨_, _, _, _, ⟨_, _, _, _, hw1, hw2, hh1, hh2⟩, ⟨hs1, hs2, hd1, hd2, _, _⟩⟩ := view_bounds v h
  have a1 : v.w * v.h ≤ 64 * 64 := Int.mul_le_mul hw2 hh2 (by omega) (by omega)
  have a0 : 0 ≤ v.w * v.h := Int.mul_nonneg (by omega) (by omega)
  have b1 : v.w * v.h * v.samples ≤ 4096 * 16 := Int.mul_le_mul (by omega) hs2 (by omega) (by omega)
  have b0 : 0 ≤ v.w * v.h * v.samples := Int.mul_nonneg a0 (by omega)
  have c1 : v.w * v.h * v.samples * (v.depth + 1) ≤ 65536 * 9 := Int.mul_le_mul (by omega) (by omega) (by omega) (by omega)
  have c0 : 0 ≤ v.w * v.h * v.samples * (v.depth + 1) := Int.mul_nonneg b0 (by omega)
  unfold nV
  omega
end Go.Proofs.Ytlhedoodbadmgaa
