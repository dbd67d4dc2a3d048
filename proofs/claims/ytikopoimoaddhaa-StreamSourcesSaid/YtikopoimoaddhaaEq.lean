/- Arrays of this program held against each other by '=='. No condition. -/
import Derived.Test.YtikopoimoaddhaaBase
namespace Go.Proofs.Ytikopoimoaddhaa
open Go.RowKit
theorem eq_b32 (x y : List (BitVec 8)) (hx : x.length = 32) (hy : y.length = 32) (W : World) : (Op.equalIn 10000 29 (.agg (vals .u8 x)) (.agg (vals .u8 y))).run Try.prog W = .ok (x == y) W :=
  run_equalIn_arr W 9998 29 5 32 8 .u8 .u8 Try.underlying29 Try.underlying5 (by kernel_rfl) x y hx hy
theorem eq_b64 (x y : List (BitVec 8)) (hx : x.length = 64) (hy : y.length = 64) (W : World) : (Op.equalIn 10000 39 (.agg (vals .u8 x)) (.agg (vals .u8 y))).run Try.prog W = .ok (x == y) W :=
  run_equalIn_arr W 9998 39 5 64 8 .u8 .u8 Try.underlying39 Try.underlying5 (by kernel_rfl) x y hx hy
theorem eq_b16 (x y : List (BitVec 8)) (hx : x.length = 16) (hy : y.length = 16) (W : World) : (Op.equalIn 10000 71 (.agg (vals .u8 x)) (.agg (vals .u8 y))).run Try.prog W = .ok (x == y) W :=
  run_equalIn_arr W 9998 71 5 16 8 .u8 .u8 Try.underlying71 Try.underlying5 (by kernel_rfl) x y hx hy
theorem eq_b17 (x y : List (BitVec 8)) (hx : x.length = 17) (hy : y.length = 17) (W : World) : (Op.equalIn 10000 75 (.agg (vals .u8 x)) (.agg (vals .u8 y))).run Try.prog W = .ok (x == y) W :=
  run_equalIn_arr W 9998 75 5 17 8 .u8 .u8 Try.underlying75 Try.underlying5 (by kernel_rfl) x y hx hy
theorem eq_w4 (x y : List (BitVec 32)) (hx : x.length = 4) (hy : y.length = 4) (W : World) : (Op.equalIn 10000 32 (.agg (vals .u32 x)) (.agg (vals .u32 y))).run Try.prog W = .ok (x == y) W :=
  run_equalIn_arr W 9998 32 22 4 32 .u32 .u32 Try.underlying32 Try.underlying22 (by kernel_rfl) x y hx hy
theorem eq_w16 (x y : List (BitVec 32)) (hx : x.length = 16) (hy : y.length = 16) (W : World) : (Op.equalIn 10000 37 (.agg (vals .u32 x)) (.agg (vals .u32 y))).run Try.prog W = .ok (x == y) W :=
  run_equalIn_arr W 9998 37 22 16 32 .u32 .u32 Try.underlying37 Try.underlying22 (by kernel_rfl) x y hx hy
end Go.Proofs.Ytikopoimoaddhaa
