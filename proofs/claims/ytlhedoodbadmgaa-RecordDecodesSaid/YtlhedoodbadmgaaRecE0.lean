/- A record decoded: in plain. No condition. -/
import Derived.Test.YtlhedoodbadmgaaRecP
import Derived.Test.YtlhedoodbadmgaaRecD8
namespace Go.Proofs.Ytlhedoodbadmgaa
open Go.RowKit
set_option maxRecDepth 100000
set_option maxHeartbeats 1000000
def ksL : List Nat := [1, 1, 1, 1, 1, 1, 8, 4, 4, 4, 4, 4, 4, 4, 4, 4, 4, 4, 4, 4, 4, 1, 8, 8, 8, 2]
/-- What is left ahead of the number i. -/
def aAt (i : Nat) (a : RdS) : RdS := (ksL.take i).foldl (fun a k => nextR k a) a
/-- The number i. -/
def nAt (i : Nat) (a : RdS) : BitVec 64 := numR (ksL.getD i 0) (aAt i a)
theorem aAt_step {i k : Nat} (a : RdS) (h : ksL[i]? = some k) : aAt (i + 1) a = nextR k (aAt i a) := by
  unfold aAt
  rw [List.take_add_one, h, Option.toList_some, List.foldl_append]
  rfl
theorem nAt_eq {i k : Nat} (a : RdS) (h : ksL[i]? = some k) : nAt i a = numR k (aAt i a) := by
  unfold nAt
  rw [List.getD_eq_getElem?_getD, h]
  rfl
def nI (i : Nat) (a : RdS) : Int := (nAt i a).toInt
def ptAt (i : Nat) (a : RdS) : P3 := ⟨sxI (nI i a), sxI (nI (i + 1) a), sxI (nI (i + 2) a)⟩
/-- The numbers of the assets, and what is left. -/
def loopR : Nat → RdS → List (BitVec 64) → List (BitVec 64) × RdS
  | 0, a, acc => (acc, a)
  | n + 1, a, acc => if a.e = 0 then loopR n (nextR 8 a) (acc ++ [numR 8 a]) else (acc, a)
def idsR (a : RdS) : List (BitVec 64) × RdS := loopR (nAt 25 a).toNat (aAt 26 a) []
/-- Bytes put into a row of zeros. -/
def padZ (l : List (BitVec 8)) : List (BitVec 8) := l.take (min l.length 32) ++ (List.replicate 32 (0#8)).drop (min l.length 32)
def b0R (a : RdS) : RdS := (idsR a).2
def b3R (a : RdS) : RdS := nextR 4 (nextR 4 (nextR 4 (b0R a)))
def b5R (a : RdS) : RdS := nextR 32 (nextR 32 (b3R a))
def recR (a : RdS) : RecS where
  layer := nI 0 a
  view := { w := nI 1 a, h := nI 2 a, samples := nI 3 a, depth := nI 4 a, cls := nI 5 a, seed := nAt 6 a,
            cam := { eye := ptAt 7 a, right := ptAt 10 a, up := ptAt 13 a, ahead := ptAt 16 a, lens := nI 19 a, focus := nI 20 a }, constant := decide (nI 21 a = 1) }
  steps := ⟨nI 22 a, nI 23 a, nI 24 a⟩
  label := (numR 4 (b0R a)).setWidth 32
  frm := (numR 4 (nextR 4 (b0R a))).setWidth 32
  til := (numR 4 (nextR 4 (nextR 4 (b0R a)))).setWidth 32
  scene := padZ (takeR 32 (b3R a))
  planes := padZ (takeR 32 (nextR 32 (b3R a)))
def zeroRec : RecS := ⟨0, ⟨0, 0, 0, 0, 0, 0, ⟨⟨0, 0, 0⟩, ⟨0, 0, 0⟩, ⟨0, 0, 0⟩, ⟨0, 0, 0⟩, 0, 0⟩, false⟩, ⟨0, 0, 0⟩, 0, 0, 0, List.replicate 32 0, List.replicate 32 0⟩
def errR (a : RdS) : Int := if endR (b5R a) ≠ 0 then endR (b5R a) else if 1 < nI 21 a then 5 else recE (recR a)
def decR (a : RdS) : RecS := if errR a = 0 then recR a else zeroRec
def decI (a : RdS) : List (BitVec 64) := if errR a = 0 then (idsR a).1 else []
theorem padZ_length (l : List (BitVec 8)) : (padZ l).length = 32 := by unfold padZ; rw [List.length_append, List.length_take, List.length_drop, List.length_replicate]; omega
theorem recR_ok (a : RdS) : (recR a).ok := ⟨padZ_length _, padZ_length _⟩
theorem zeroRec_ok : zeroRec.ok := ⟨rfl, rfl⟩
theorem decR_ok (a : RdS) : (decR a).ok := by
  unfold decR
  split
  · exact recR_ok a
  · exact zeroRec_ok
theorem recA_size (r : RecS) (h : r.ok) (v : Value) : (recA r v).size = 93 := (recF r h v).size
theorem nextR_len (k : Nat) (a : RdS) : (nextR k a).rest.length ≤ a.rest.length := by
  unfold nextR
  split
  · split
    · simp
    · exact Nat.le_refl _
  · exact Nat.le_refl _
theorem aAt_len (i : Nat) (a : RdS) : (aAt i a).rest.length ≤ a.rest.length := by
  unfold aAt
  generalize ksL.take i = l
  induction l generalizing a with
  | nil => exact Nat.le_refl _
  | cons k l ih => exact Nat.le_trans (ih _) (nextR_len k a)
theorem loopR_len : ∀ (n : Nat) (a : RdS) (acc : List (BitVec 64)), 8 * (loopR n a acc).1.length ≤ 8 * acc.length + a.rest.length + 8
  | 0, a, acc => by show 8 * acc.length ≤ _; omega
  | n + 1, a, acc => by
    unfold loopR
    split
    · rename_i he
      have h1 := loopR_len n (nextR 8 a) (acc ++ [numR 8 a])
      rw [List.length_append, List.length_singleton] at h1
      by_cases hk : 8 ≤ a.rest.length
      · have h2 : (nextR 8 a).rest.length = a.rest.length - 8 := by unfold nextR; rw [if_pos he, if_pos hk]; exact List.length_drop
        omega
      · have h2 : nextR 8 a = ⟨a.rest, 4⟩ := by unfold nextR; rw [if_pos he, if_neg hk]
        have h3 : ∀ (m : Nat) (ac : List (BitVec 64)), (loopR m ⟨a.rest, 4⟩ ac).1 = ac := fun m ac => by
          cases m with
          | zero => rfl
          | succ m => show (if (4 : Int) = 0 then _ else _ : List (BitVec 64) × RdS).1 = ac; rw [if_neg (show ¬ ((4 : Int) = 0) by decide)]
        rw [h2, h3]
        rw [List.length_append, List.length_singleton]
        omega
    · show 8 * acc.length ≤ _; omega
theorem idsR_len (a : RdS) : 8 * (idsR a).1.length ≤ a.rest.length + 8 := by
  have h1 := loopR_len (nAt 25 a).toNat (aAt 26 a) []
  have h2 := aAt_len 26 a
  simp only [List.length_nil] at h1
  unfold idsR
  omega
theorem decI_len (a : RdS) : 8 * (decI a).length ≤ a.rest.length + 8 := by
  unfold decI
  split
  · exact idsR_len a
  · simp
theorem recA_chain (a : RdS) (v : Value) : recA (recR a) v = (#[.int .i64 (nI 0 a), .int .i64 (nI 1 a), .int .i64 (nI 2 a), .int .i64 (nI 3 a), .int .i64 (nI 4 a), .int .i64 (nI 5 a), .int .u64 (bvi (nAt 6 a)), .int .i64 (ptAt 7 a).x, .int .i64 (ptAt 7 a).y, .int .i64 (ptAt 7 a).z, .int .i64 (ptAt 10 a).x, .int .i64 (ptAt 10 a).y, .int .i64 (ptAt 10 a).z, .int .i64 (ptAt 13 a).x, .int .i64 (ptAt 13 a).y, .int .i64 (ptAt 13 a).z, .int .i64 (ptAt 16 a).x, .int .i64 (ptAt 16 a).y, .int .i64 (ptAt 16 a).z, .int .i64 (nI 19 a), .int .i64 (nI 20 a), .bool (decide (nI 21 a = 1)), .int .i64 (nI 22 a), .int .i64 (nI 23 a), .int .i64 (nI 24 a)] : Array Value) ++ (#[v] ++ (#[.int .u32 (bvi ((numR 4 (b0R a)).setWidth 32)), .int .u32 (bvi ((numR 4 (nextR 4 (b0R a))).setWidth 32)), .int .u32 (bvi ((numR 4 (nextR 4 (nextR 4 (b0R a)))).setWidth 32))] ++ (vals .u8 (padZ (takeR 32 (b3R a))) ++ vals .u8 (padZ (takeR 32 (nextR 32 (b3R a))))))) := by
  apply Array.ext'
  simp [recA, recR, ViewS.c, StepS.c]
theorem recA_all (r : RecS) (v : Value) (hv : v.oneCell' = true) : (recA r v).all (·.oneCell') = true := by
  have hvl : ∀ l : List (BitVec 8), (vals .u8 l).all (·.oneCell') = true := fun l => by
    simp only [vals, valsL, List.all_toArray, List.all_map, List.all_eq_true]
    exact fun _ _ => rfl
  have h1 : (#[.int .i64 r.layer] ++ r.view.c ++ r.steps.c : Array Value).all (·.oneCell') = true := by kernel_rfl
  unfold recA
  rw [Array.all_append, Array.all_append, Array.all_append, hvl, hvl, h1]
  have h2 : (#[v, .int .u32 (bvi r.label), .int .u32 (bvi r.frm), .int .u32 (bvi r.til)] : Array Value).all (·.oneCell') = true := by
    simp only [List.all_toArray, List.all_cons, hv]
    rfl
  rw [h2]
  rfl
end Go.Proofs.Ytlhedoodbadmgaa
