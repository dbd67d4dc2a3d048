/- Walks of chacha's Quarter and of the reference's: both give the quarter of a round. No condition. -/
import Derived.Test.YtikopoimoaddhaaBase
import Derived.Test.YtikopoimoaddhaaEq
namespace Go.Proofs.Ytikopoimoaddhaa
open Go.RowKit
set_option maxRecDepth 100000
theorem and31 : ∀ k : Fin 32, bits .and .u64 (k.val : Int) 31 = k.val := by decide +kernel

/-- x turned to the left by k places. -/
def rol (x : BitVec 32) (k : Nat) : BitVec 32 := x <<< k ||| x >>> (32 - k)

theorem rot_any (x : BitVec 32) (k : Int) (hk0 : 0 ≤ k) (hk : k < 32) (w : World) :
    Calls Try.prog 73 #[.int .u32 (bvi x), .int .i64 k] w fun e w' => e = .returned (.int .u32 (bvi (rol x k.toNat))) ∧ w = w' := by
  obtain ⟨k, rfl⟩ := Int.eq_ofNat_of_zero_le hk0
  have h31 : bits .and .u64 (k : Int) 31 = k := and31 ⟨k, by omega⟩
  have hh1 : (((32 : Int) - (k : Int)).toNat) = 32 - k := by omega
  go_enter Try.func73, Try.ntmps73
  go_wp2
  go_ret
  exact ⟨rfl, rfl⟩

theorem turn_any (x : BitVec 32) (k : Int) (hk0 : 0 ≤ k) (hk : k < 32) (w : World) :
    Calls Try.prog 74 #[.int .u32 (bvi x), .int .i64 k] w fun e w' => e = .returned (.int .u32 (bvi (rol x k.toNat))) ∧ ∃ n, w' = w.drewN n := by
  obtain ⟨k, rfl⟩ := Int.eq_ofNat_of_zero_le hk0
  have h3 : (0 : Int) ≤ 32 - (k : Int) := by omega
  have hh1 : (((32 : Int) - (k : Int)).toNat) = 32 - k := by omega
  have hh2 : IntKind.i64.wrap ((32 : Int) - (k : Int)) = 32 - (k : Int) := IntWalk.i64_in _ (by omega)
  go_enter Try.func74, Try.ntmps74
  go_wp2
  go_quiet (fail)
  go_wp2
  go_ret
  exact ⟨rfl, _, rfl⟩

/-- A quarter of a round. -/
def qrL (a b c d : BitVec 32) : List (BitVec 32) :=
  let a := a + b
  let d := rol (d ^^^ a) 16
  let c := c + d
  let b := rol (b ^^^ c) 12
  let a := a + b
  let d := rol (d ^^^ a) 8
  let c := c + d
  let b := rol (b ^^^ c) 7
  [a, b, c, d]
theorem qrL_length (a b c d : BitVec 32) : (qrL a b c d).length = 4 := rfl

theorem below2 {w : World} {o1 o2 : Obj} {n : Nat} : Below w.heap.size w (((w.alloc o1).alloc o2).drewN n) := below_drewN (((Below.refl _ _).alloc (Nat.le_refl _) _).alloc (by simp) _) n

theorem quarter_any (a b c d : BitVec 32) (w : World) :
    Calls Try.prog 34 #[.agg #[.int .u32 (bvi a), .int .u32 (bvi b), .int .u32 (bvi c), .int .u32 (bvi d)]] w fun e w' =>
      e = .returned (.agg (vals .u32 (qrL a b c d))) ∧ Below w.heap.size w w' := by
  go_enter Try.func34, Try.ntmps34
  go_wp2
  go_quiet (fail)
  go_wp2_with (go_at_call 73; refine (rot_any _ _ (by omega) (by omega) _).mono ?_; rintro e w' ⟨rfl, rfl⟩)
  refine bodyPost_ret (v := .agg (vals .u32 (qrL a b c d))) (by simp [results, Try.results34, go_sem, qrL, vals, valsL]) rfl ⟨rfl, ?_⟩
  exact (((below2.setCell (by simp) _).setCell (by simp) _).setCell (by simp) _).setCell (by simp) _

theorem turn_some (x : BitVec 32) (k : Int) (hk0 : 0 ≤ k) (hk : k < 32) (w : World) :
    Calls Try.prog 74 #[.int .u32 (bvi x), .int .i64 k] w fun e w' => ∃ r, Hid (r = rol x k.toNat) ∧ e = .returned (.int .u32 (bvi r)) ∧ ∃ n, w' = w.drewN n :=
  (turn_any x k hk0 hk w).mono fun _ _ h => ⟨_, rfl, h⟩

theorem refQuarter_any (a b c d : BitVec 32) (w : World) :
    Calls Try.prog 35 #[.agg #[.int .u32 (bvi a), .int .u32 (bvi b), .int .u32 (bvi c), .int .u32 (bvi d)]] w fun e w' =>
      e = .returned (.agg (vals .u32 (qrL a b c d))) ∧ Below w.heap.size w w' := by
  go_enter Try.func35, Try.ntmps35
  go_upto_region 1 with (fail)
  refine wp_forget (fun W => Below w.heap.size w W ∧ Blk W w.heap.size (vals .u32 [a, b, c, d]) 32 ∧ Blk W (w.heap.size + 1) (vals .u32 (List.replicate 4 0#32)) 32) ⟨((Below.refl _ _).alloc (Nat.le_refl _) _).alloc (by simp) _, (Blk.new _ _ _ rfl).alloc _, Blk.new _ _ _ (by simp)⟩ ?_
  rintro w1 ⟨hb, K1, K2⟩
  have c0 := K1.cellv 0 (by simp)
  have c1 := K1.cellv 1 (by simp)
  have c2 := K1.cellv 2 (by simp)
  have c3 := K1.cellv 3 (by simp)
  simp only [gt, List.getD_cons_zero, List.getD_cons_succ] at c0 c1 c2 c3
  have f0 := K1.frozen 0
  have f1 := K1.frozen 1
  have f2 := K1.frozen 2
  have f3 := K1.frozen 3
  go_upto_region 3 with (go_at_call 74; refine (turn_some _ _ (by omega) (by omega) _).mono ?_; rintro e w' ⟨r1, H1, rfl, n1, rfl⟩)
  refine wp_forget (fun W => Below w.heap.size w W ∧ Blk W w.heap.size (vals .u32 [a + b, b, c, r1]) 32 ∧ Blk W (w.heap.size + 1) (vals .u32 (List.replicate 4 0#32)) 32) ⟨(below_drewN (hb.setCell (by simp) _) n1).setCell (by simp) _, ((K1.setv 0 _).drewN n1).setv 3 _, ((K2.other _ _ (by simp)).drewN n1).other _ _ (by simp)⟩ ?_
  clear hb K1 K2 c0 c1 c2 c3 f0 f1 f2 f3
  rintro w2 ⟨hb, K1, K2⟩
  have c0 := K1.cellv 0 (by simp)
  have c1 := K1.cellv 1 (by simp)
  have c2 := K1.cellv 2 (by simp)
  have c3 := K1.cellv 3 (by simp)
  simp only [gt, List.getD_cons_zero, List.getD_cons_succ] at c0 c1 c2 c3
  have f0 := K1.frozen 0
  have f1 := K1.frozen 1
  have f2 := K1.frozen 2
  have f3 := K1.frozen 3
  go_upto_region 5 with (go_at_call 74; refine (turn_some _ _ (by omega) (by omega) _).mono ?_; rintro e w' ⟨r2, H2, rfl, n2, rfl⟩)
  refine wp_forget (fun W => Below w.heap.size w W ∧ Blk W w.heap.size (vals .u32 [a + b, r2, c + r1, r1]) 32 ∧ Blk W (w.heap.size + 1) (vals .u32 (List.replicate 4 0#32)) 32) ⟨(below_drewN (hb.setCell (by simp) _) n2).setCell (by simp) _, ((K1.setv 2 _).drewN n2).setv 1 _, ((K2.other _ _ (by simp)).drewN n2).other _ _ (by simp)⟩ ?_
  clear hb K1 K2 c0 c1 c2 c3 f0 f1 f2 f3
  rintro w3 ⟨hb, K1, K2⟩
  have c0 := K1.cellv 0 (by simp)
  have c1 := K1.cellv 1 (by simp)
  have c2 := K1.cellv 2 (by simp)
  have c3 := K1.cellv 3 (by simp)
  simp only [gt, List.getD_cons_zero, List.getD_cons_succ] at c0 c1 c2 c3
  have f0 := K1.frozen 0
  have f1 := K1.frozen 1
  have f2 := K1.frozen 2
  have f3 := K1.frozen 3
  go_upto_region 7 with (go_at_call 74; refine (turn_some _ _ (by omega) (by omega) _).mono ?_; rintro e w' ⟨r3, H3, rfl, n3, rfl⟩)
  refine wp_forget (fun W => Below w.heap.size w W ∧ Blk W w.heap.size (vals .u32 [a + b + r2, r2, c + r1, r3]) 32 ∧ Blk W (w.heap.size + 1) (vals .u32 (List.replicate 4 0#32)) 32) ⟨(below_drewN (hb.setCell (by simp) _) n3).setCell (by simp) _, ((K1.setv 0 _).drewN n3).setv 3 _, ((K2.other _ _ (by simp)).drewN n3).other _ _ (by simp)⟩ ?_
  clear hb K1 K2 c0 c1 c2 c3 f0 f1 f2 f3
  rintro w4 ⟨hb, K1, K2⟩
  have c0 := K1.cellv 0 (by simp)
  have c1 := K1.cellv 1 (by simp)
  have c2 := K1.cellv 2 (by simp)
  have c3 := K1.cellv 3 (by simp)
  simp only [gt, List.getD_cons_zero, List.getD_cons_succ] at c0 c1 c2 c3
  have f0 := K1.frozen 0
  have f1 := K1.frozen 1
  have f2 := K1.frozen 2
  have f3 := K1.frozen 3
  go_upto_region 9 with (go_at_call 74; refine (turn_some _ _ (by omega) (by omega) _).mono ?_; rintro e w' ⟨r4, H4, rfl, n4, rfl⟩)
  refine wp_forget (fun W => Below w.heap.size w W ∧ Blk W w.heap.size (vals .u32 [a + b + r2, r4, c + r1 + r3, r3]) 32 ∧ Blk W (w.heap.size + 1) (vals .u32 (List.replicate 4 0#32)) 32) ⟨(below_drewN (hb.setCell (by simp) _) n4).setCell (by simp) _, ((K1.setv 2 _).drewN n4).setv 1 _, ((K2.other _ _ (by simp)).drewN n4).other _ _ (by simp)⟩ ?_
  clear hb K1 K2 c0 c1 c2 c3 f0 f1 f2 f3
  rintro w5 ⟨hb, K1, K2⟩
  have hq : Hid ([a + b + r2, r4, c + r1 + r3, r3] = qrL a b c d) := by
    have : [a + b + r2, r4, c + r1 + r3, r3] = qrL a b c d := by rw [H4.out, H3.out, H2.out, H1.out]; rfl
    exact this
  go_wp2_with (first | (refine wpList_load_vals rfl _ _ rfl _ rfl K1 Try.underlying32 (by kernel_rfl) rfl ?_) | (refine wpList_store_vals rfl _ _ _ rfl _ rfl rfl K2 (by kernel_rfl) rfl ?_))
  rw [← hq.out]
  exact bodyPost_vals rfl rfl (K2.row _) Try.underlying32 (by kernel_rfl) rfl rfl ⟨rfl, below_setRow' hb (by simp) _⟩
end Go.Proofs.Ytikopoimoaddhaa
