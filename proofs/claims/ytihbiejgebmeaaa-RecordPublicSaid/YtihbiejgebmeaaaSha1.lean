/- The sums of chapter 9, plain. No condition. -/
import Derived.Test.YtihbiejgebmeaaaSymLR
namespace Go.Proofs.Ytihbiejgebmeaaa
open Go.RowKit
set_option maxRecDepth 100000
/-! ### lists -/
theorem gt_app_lt {m : Nat} {l r : List (BitVec m)} {j : Nat} (h : j < l.length) : gt (l ++ r) j = gt l j := by
  unfold gt; simp only [List.getD, List.getElem?_append_left h]
theorem app_zset {m : Nat} {l : List (BitVec m)} {n i : Nat} {x : BitVec m} (hl : l.length = i) (h : i < n) : (l ++ List.replicate (n - i) 0#m).set i x = (l ++ [x]) ++ List.replicate (n - (i + 1)) 0#m := by
  rw [List.set_append_right _ _ (by omega), hl, Nat.sub_self, show n - i = (n - (i + 1)) + 1 by omega, List.replicate_succ, List.set_cons_zero, List.append_assoc]
  rfl
theorem take_gtS {m : Nat} (l : List (BitVec m)) (i : Nat) (h : i < l.length) : l.take i ++ [gt l i] = l.take (i + 1) := by
  rw [List.take_add_one, List.getElem?_eq_getElem h, gt_lt l i h]; rfl
theorem mid_getS {m : Nat} {D X : List (BitVec m)} {j : Nat} (hl : X.length = D.length) (h : j < D.length) : gt (X.take j ++ D.drop j) j = gt D j := by
  have h1 : (X.take j).length = j := by rw [List.length_take]; omega
  have h2 : (X.take j ++ D.drop j)[j]? = D[j]? := by
    rw [List.getElem?_append_right (by omega), h1, Nat.sub_self, List.getElem?_drop, Nat.add_zero]
  unfold gt
  simp only [List.getD, h2]
theorem mid_setS {m : Nat} {D X : List (BitVec m)} {j : Nat} (hl : X.length = D.length) (h : j < D.length) : (X.take j ++ D.drop j).set j (gt X j) = X.take (j + 1) ++ D.drop (j + 1) := by
  rw [← take_gtS X j (by omega), List.set_append_right _ _ (by rw [List.length_take]; exact Nat.min_le_left _ _), List.append_assoc]
  congr 1
  rw [List.length_take, Nat.min_eq_left (by omega), Nat.sub_self, List.drop_eq_getElem_cons h]
  rfl
/-! ### words -/
/-- The number of four bytes, the first one the highest. -/
def be4 (a b c d : BitVec 8) : BitVec 32 := a.setWidth 32 <<< 24 ||| b.setWidth 32 <<< 16 ||| c.setWidth 32 <<< 8 ||| d.setWidth 32
def be4at (l : List (BitVec 8)) (i : Nat) : BitVec 32 := be4 (gt l i) (gt l (i + 1)) (gt l (i + 2)) (gt l (i + 3))
def rotr (x : BitVec 32) (n : Nat) : BitVec 32 := x >>> n ||| x <<< (32 - n)
theorem rot_amount : ∀ n : Fin 32, 0 < n.val → (BitVec.ofInt 64 (-(n.val : Int)) &&& 31#64).toNat = 32 - n.val ∧ (32#64 - (BitVec.ofInt 64 (-(n.val : Int)) &&& 31#64)).toNat = n.val := by decide
theorem rotl_rotr (x : BitVec 32) (n : Nat) (h0 : 0 < n) (h1 : n < 32) : x <<< (BitVec.ofInt 64 (-(n : Int)) &&& 31#64).toNat ||| x >>> (32#64 - (BitVec.ofInt 64 (-(n : Int)) &&& 31#64)).toNat = rotr x n := by
  obtain ⟨e1, e2⟩ := rot_amount ⟨n, h1⟩ h0
  simp only at e1 e2
  rw [e1, e2, rotr, BitVec.or_comm]
/-! ### a block taken in -/
def sg0 (x : BitVec 32) : BitVec 32 := rotr x 7 ^^^ rotr x 18 ^^^ x >>> 3
def sg1 (x : BitVec 32) : BitVec 32 := rotr x 17 ^^^ rotr x 19 ^^^ x >>> 10
def wWord (B : List (BitVec 8)) (l : List (BitVec 32)) (i : Nat) : BitVec 32 := if i < 16 then be4at B (4 * i) else gt l (i - 16) + sg0 (gt l (i - 15)) + gt l (i - 7) + sg1 (gt l (i - 2))
/-- The first numbers of a block. -/
def wL (B : List (BitVec 8)) : Nat → List (BitVec 32)
  | 0 => []
  | i + 1 => wL B i ++ [wWord B (wL B i) i]
theorem wL_length (B : List (BitVec 8)) (i : Nat) : (wL B i).length = i := by
  induction i with
  | zero => rfl
  | succ i ih => simp [wL, ih]
theorem wWord_lo (B : List (BitVec 8)) (i : Nat) (h : i < 16) : wWord B (wL B i) i = be4at B (4 * i) := by simp [wWord, h]
theorem wWord_hi (B : List (BitVec 8)) (i : Nat) (h : ¬ i < 16) : wWord B (wL B i) i = gt (wL B i) (i - 16) + sg0 (gt (wL B i) (i - 15)) + gt (wL B i) (i - 7) + sg1 (gt (wL B i) (i - 2)) := by simp [wWord, h]
def t1L (s : List (BitVec 32)) (k w : BitVec 32) : BitVec 32 := gt s 7 + (rotr (gt s 4) 6 ^^^ rotr (gt s 4) 11 ^^^ rotr (gt s 4) 25) + (gt s 4 &&& gt s 5 ^^^ ~~~gt s 4 &&& gt s 6) + k + w
def t2L (s : List (BitVec 32)) : BitVec 32 := (rotr (gt s 0) 2 ^^^ rotr (gt s 0) 13 ^^^ rotr (gt s 0) 22) + (gt s 0 &&& gt s 1 ^^^ gt s 0 &&& gt s 2 ^^^ gt s 1 &&& gt s 2)
def rnd (s : List (BitVec 32)) (k w : BitVec 32) : List (BitVec 32) := [t1L s k w + t2L s, gt s 0, gt s 1, gt s 2, gt s 3 + t1L s k w, gt s 4, gt s 5, gt s 6]
def rndsK (K W h : List (BitVec 32)) : Nat → List (BitVec 32)
  | 0 => h
  | i + 1 => rnd (rndsK K W h i) (gt K i) (gt W i)
theorem rndsK_length (K W h : List (BitVec 32)) (hh : h.length = 8) (i : Nat) : (rndsK K W h i).length = 8 := by
  cases i with
  | zero => exact hh
  | succ i => rfl
def addL (s h : List (BitVec 32)) : List (BitVec 32) := List.zipWith (· + ·) s h
theorem addL_length (s h : List (BitVec 32)) (hs : s.length = 8) (hh : h.length = 8) : (addL s h).length = 8 := by simp [addL, hs, hh]
theorem addL_gt (s h : List (BitVec 32)) (i : Nat) (hs : i < s.length) (hh : i < h.length) : gt (addL s h) i = gt s i + gt h i := by
  have : i < (addL s h).length := by simp [addL]; omega
  rw [gt_lt _ i this, gt_lt _ i hs, gt_lt _ i hh]; simp [addL]
def compK (K h : List (BitVec 32)) (B : List (BitVec 8)) : List (BitVec 32) := addL (rndsK K (wL B 64) h 64) h
theorem compK_length (K h : List (BitVec 32)) (B : List (BitVec 8)) (hh : h.length = 8) : (compK K h B).length = 8 := addL_length _ _ (rndsK_length _ _ _ hh _) hh
/-- The 64 numbers. -/
def kS : List (BitVec 32) := [0x428a2f98#32, 0x71374491#32, 0xb5c0fbcf#32, 0xe9b5dba5#32, 0x3956c25b#32, 0x59f111f1#32, 0x923f82a4#32, 0xab1c5ed5#32, 0xd807aa98#32, 0x12835b01#32, 0x243185be#32, 0x550c7dc3#32, 0x72be5d74#32, 0x80deb1fe#32, 0x9bdc06a7#32, 0xc19bf174#32, 0xe49b69c1#32, 0xefbe4786#32, 0x0fc19dc6#32, 0x240ca1cc#32, 0x2de92c6f#32, 0x4a7484aa#32, 0x5cb0a9dc#32, 0x76f988da#32, 0x983e5152#32, 0xa831c66d#32, 0xb00327c8#32, 0xbf597fc7#32, 0xc6e00bf3#32, 0xd5a79147#32, 0x06ca6351#32, 0x14292967#32, 0x27b70a85#32, 0x2e1b2138#32, 0x4d2c6dfc#32, 0x53380d13#32, 0x650a7354#32, 0x766a0abb#32, 0x81c2c92e#32, 0x92722c85#32, 0xa2bfe8a1#32, 0xa81a664b#32, 0xc24b8b70#32, 0xc76c51a3#32, 0xd192e819#32, 0xd6990624#32, 0xf40e3585#32, 0x106aa070#32, 0x19a4c116#32, 0x1e376c08#32, 0x2748774c#32, 0x34b0bcb5#32, 0x391c0cb3#32, 0x4ed8aa4a#32, 0x5b9cca4f#32, 0x682e6ff3#32, 0x748f82ee#32, 0x78a5636f#32, 0x84c87814#32, 0x8cc70208#32, 0x90befffa#32, 0xa4506ceb#32, 0xbef9a3f7#32, 0xc67178f2#32]
def compL (h : List (BitVec 32)) (B : List (BitVec 8)) : List (BitVec 32) := compK kS h B
end Go.Proofs.Ytihbiejgebmeaaa
