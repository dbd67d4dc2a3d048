/- Poly1305: blocks, plain. No condition. -/
import Derived.Test.YtikopoimoaddhaaPoly4
namespace Go.Proofs.Ytikopoimoaddhaa
open Go.RowKit
set_option maxRecDepth 100000
theorem app_zsetP {m : Nat} {l : List (BitVec m)} {n i : Nat} {x : BitVec m} (hl : l.length = i) (hi : i < n) : (l ++ List.replicate (n - i) 0#m).set i x = (l ++ [x]) ++ List.replicate (n - (i + 1)) 0#m := by
  rw [List.set_append_right _ _ (by omega), hl, Nat.sub_self, show n - i = (n - (i + 1)) + 1 by omega, List.replicate_succ, List.set_cons_zero, List.append_assoc]
  rfl
theorem take_gtP {m : Nat} (l : List (BitVec m)) (i : Nat) (h : i < l.length) : l.take i ++ [gt l i] = l.take (i + 1) := by
  rw [List.take_succ_eq_append_getElem h, gt_lt l i h]
theorem blkK_at (D : List (BitVec 8)) : ∀ n i, i < n → ((blkK D n).drop (0 + i * 17)).take 17 = blk17 (D.drop (16 * i))
  | 0, i, h => by omega
  | n + 1, i, h => by
    have hl := blkK_length D n
    rw [blkK]
    rcases Nat.lt_or_ge i n with h1 | h1
    · rw [← blkK_at D n i h1, List.drop_append_of_le_length (by omega), List.take_append_of_le_length (by rw [List.length_drop]; omega)]
    · obtain rfl : i = n := by omega
      rw [List.drop_append, List.drop_of_length_le (by omega), List.nil_append, hl, show 0 + i * 17 - 17 * i = 0 by omega, List.drop_zero, List.take_of_length_le (by rw [blk17_length]; omega)]
theorem blk17_gt (M : List (BitVec 8)) (m : Nat) (hm : m = min M.length 16) : gt (blk17 M) m = BitVec.ofInt 8 1 ∧ (∀ j, m < j → gt (blk17 M) j = BitVec.ofInt 8 0) ∧ (blk17 M).take m = M.take 16 := by
  have hl : (M.take 16).length = m := by rw [List.length_take, hm, Nat.min_comm]
  refine ⟨?_, fun j hj => ?_, ?_⟩
  · unfold blk17 gt
    rw [List.getD_eq_getElem?_getD, List.append_assoc, List.getElem?_append_right (by omega), hl, Nat.sub_self]
    rfl
  · unfold blk17 gt
    rw [List.getD_eq_getElem?_getD, List.getElem?_append_right (by rw [List.length_append, hl]; simp; omega)]
    rw [List.getElem?_replicate]
    split <;> rfl
  · unfold blk17
    rw [List.append_assoc, List.take_append_of_le_length (by omega), List.take_of_length_le (by omega)]
theorem take_more (D : List (BitVec 8)) (k : Nat) : D.take (16 * k) ++ (D.drop (16 * k)).take 16 = D.take (16 * (k + 1)) := by
  rw [show 16 * (k + 1) = 16 * k + 16 by omega, List.take_add]
end Go.Proofs.Ytikopoimoaddhaa
