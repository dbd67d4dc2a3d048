/- Walks of chacha's State and of the reference's: both give the state that a block begins with. No condition. -/
import Derived.Test.YtikopoimoaddhaaRow
import Derived.Test.YtikopoimoaddhaaChachaA
namespace Go.Proofs.Ytikopoimoaddhaa
open Go.RowKit
set_option maxRecDepth 100000

/-- The number of four bytes. -/
def le4 (a b c d : BitVec 8) : BitVec 32 := a.setWidth 32 ||| b.setWidth 32 <<< 8 ||| c.setWidth 32 <<< 16 ||| d.setWidth 32 <<< 24
theorem le4_toNat (a b c d : BitVec 8) : (le4 a b c d).toNat = a.toNat + 256 * b.toNat + 65536 * c.toNat + 16777216 * d.toNat := by
  have ha := a.isLt
  have hb := b.isLt
  have hc := c.isLt
  have hd := d.isLt
  have e1 : (b.setWidth 32 <<< 8).toNat = b.toNat <<< 8 := by simp [BitVec.toNat_shiftLeft, Nat.shiftLeft_eq]; omega
  have e2 : (c.setWidth 32 <<< 16).toNat = c.toNat <<< 16 := by simp [BitVec.toNat_shiftLeft, Nat.shiftLeft_eq]; omega
  have e3 : (d.setWidth 32 <<< 24).toNat = d.toNat <<< 24 := by simp [BitVec.toNat_shiftLeft, Nat.shiftLeft_eq]; omega
  have e0 : (a.setWidth 32).toNat = a.toNat := by simp; omega
  unfold le4
  rw [BitVec.toNat_or, BitVec.toNat_or, BitVec.toNat_or, e0, e1, e2, e3]
  rw [Nat.or_comm a.toNat, ← Nat.shiftLeft_add_eq_or_of_lt (by omega), Nat.or_comm _ (c.toNat <<< 16), ← Nat.shiftLeft_add_eq_or_of_lt (by rw [Nat.shiftLeft_eq]; omega),
    Nat.or_comm _ (d.toNat <<< 24), ← Nat.shiftLeft_add_eq_or_of_lt (by rw [Nat.shiftLeft_eq, Nat.shiftLeft_eq]; omega)]
  simp only [Nat.shiftLeft_eq]
  omega
def le4at (l : List (BitVec 8)) (i : Nat) : BitVec 32 := le4 (gt l i) (gt l (i + 1)) (gt l (i + 2)) (gt l (i + 3))

theorem number_any (b off len cap : Nat) (x0 x1 x2 x3 : BitVec 8) (w : World) (hlen : 4 ≤ len) (h0 : w.cell? ⟨b, off, none⟩ = some (.int .u8 (bvi x0)))
    (h1 : w.cell? ⟨b, off + 1, none⟩ = some (.int .u8 (bvi x1))) (h2 : w.cell? ⟨b, off + 2, none⟩ = some (.int .u8 (bvi x2))) (h3 : w.cell? ⟨b, off + 3, none⟩ = some (.int .u8 (bvi x3))) :
    Calls Try.prog 75 #[.slice (some ⟨b, off, none⟩) len cap] w fun e w' => e = .returned (.int .u32 (bvi (le4 x0 x1 x2 x3))) ∧ ∃ n, w' = w.drewN n := by
  have g0 : (0 : Int) < len := by omega
  have g1 : (1 : Int) < len := by omega
  have g2 : (2 : Int) < len := by omega
  have g3 : (3 : Int) < len := by omega
  go_enter Try.func75, Try.ntmps75
  go_wp2
  go_quiet (fail)
  go_wp2
  go_ret
  exact ⟨rfl, _, rfl⟩

/-- What a state begins with. -/
def state0 (counter : BitVec 32) : List (BitVec 32) := [0x61707865#32, 0x3320646e#32, 0x79622d32#32, 0x6b206574#32, 0, 0, 0, 0, 0, 0, 0, 0, counter, 0, 0, 0]
def stateK (key : List (BitVec 8)) (counter : BitVec 32) : Nat → List (BitVec 32) := fillL (fun i => le4at key (4 * i)) 4 (state0 counter)
def stateN (key : List (BitVec 8)) (counter : BitVec 32) (nonce : List (BitVec 8)) : Nat → List (BitVec 32) := fillL (fun i => le4at nonce (4 * i)) 13 (stateK key counter 8)
/-- The state that a block begins with. -/
def stateL (key : List (BitVec 8)) (counter : BitVec 32) (nonce : List (BitVec 8)) : List (BitVec 32) := stateN key counter nonce 3
theorem stateK_length (key : List (BitVec 8)) (counter : BitVec 32) (k : Nat) : (stateK key counter k).length = 16 := by rw [stateK, fillL_length]; rfl
theorem stateN_length (key : List (BitVec 8)) (counter : BitVec 32) (nonce : List (BitVec 8)) (k : Nat) : (stateN key counter nonce k).length = 16 := by rw [stateN, fillL_length, stateK_length]

theorem state_any (key nonce : List (BitVec 8)) (counter : BitVec 32) (w : World) (hk : key.length = 32) (hn : nonce.length = 12) :
    Calls Try.prog 37 #[.agg (vals .u8 key), .int .u32 (bvi counter), .agg (vals .u8 nonce)] w fun e w' => e = .returned (.agg (vals .u32 (stateL key counter nonce))) ∧ Below w.heap.size w w' := by
  have HK := Lib.hid hk
  have HN := Lib.hid hn
  clear hk hn
  go_enter Try.func37, Try.ntmps37
  go_upto_region 1 with (fail)
  refine wp_forget (fun W => Below w.heap.size w W ∧ Blk W w.heap.size (vals .u8 key) 29 ∧ Blk W (w.heap.size + 1) (vals .u8 nonce) 36 ∧ Blk W (w.heap.size + 1 + 1) (vals .u32 (List.replicate 16 0#32)) 37 ∧ W.heap.size = w.heap.size + 1 + 1 + 1)
    ⟨(((Below.refl _ _).alloc (Nat.le_refl _) _).alloc (by simp) _).alloc (by simp; omega) _, ((Blk.new _ _ _ rfl).alloc _).alloc _, (Blk.new _ _ _ (by simp)).alloc _, Blk.new _ _ _ (by simp), by simp⟩ ?_
  rintro w1 ⟨hb, K1, K2, K3, hs⟩
  have hb0 := hb
  have S0 := hs
  go_wp2_with fail
  refine wp_forget (fun W => Below w.heap.size w W ∧ Blk W w.heap.size (vals .u8 key) 29 ∧ Blk W (w.heap.size + 1) (vals .u8 nonce) 36 ∧ Blk W (w.heap.size + 1 + 1) (vals .u32 (List.replicate 16 0#32)) 37 ∧ Blk W (w.heap.size + 1 + 1 + 1) (vals .u32 (stateK key counter 0)) 37)
    ⟨hb0.alloc (by omega) _, K1.alloc _, K2.alloc _, K3.alloc _, Blk.new _ _ _ S0.symm⟩ ?_
  clear hb hb0 K1 K2 K3 hs S0
  rintro w2 ⟨hb, K1, K2, K3, K4⟩
  go_loopw [8, 12] (fun _ i wr => ∃ k : Nat, k ≤ 8 ∧ i = .int .i64 k ∧ Below w.heap.size w wr ∧ Blk wr w.heap.size (vals .u8 key) 29 ∧ Blk wr (w.heap.size + 1) (vals .u8 nonce) 36 ∧ Blk wr (w.heap.size + 1 + 1) (vals .u32 (List.replicate 16 0#32)) 37 ∧ Blk wr (w.heap.size + 1 + 1 + 1) (vals .u32 (stateK key counter k)) 37)
    (fun _ i _ => 8 - (intOf i).toNat)
  case atStart => exact ⟨0, by omega, rfl, hb, K1, K2, K3, K4⟩
  case round =>
    clear hb K1 K2 K3 K4
    obtain ⟨k, hk, rfl, hb, K1, K2, K3, K4⟩ := hrel
    by_cases hlt : k < 8
    · have c0 := K1.cellv (4 * k) (by rw [HK.out]; omega)
      have c1 := K1.cellv (4 * k + 1) (by rw [HK.out]; omega)
      have c2 := K1.cellv (4 * k + 2) (by rw [HK.out]; omega)
      have c3 := K1.cellv (4 * k + 3) (by rw [HK.out]; omega)
      have d0 := K4.cellv (4 + k) (by rw [stateK_length]; omega)
      have f0 := K4.frozen (4 + k)
      have g1 : (0 : Int) ≤ 4 * (k : Int) := by omega
      have g2 : 4 * (k : Int) ≤ 32 := by omega
      have g3 : (4 * (k : Int)).toNat = 4 * k := by omega
      have g4 : ¬ (32 = 4 * k) := by omega
      go_wp2_with (go_at_call 75; refine (number_any _ _ _ _ _ _ _ _ _ (by omega) c0 c1 c2 c3).mono ?_; rintro e w' ⟨rfl, nq, rfl⟩)
      go_roundw
      case rel => exact ⟨k + 1, by omega, by go_num, (below_drewN hb nq).setCell (by simp; omega) _, (K1.drewN nq).other _ _ (by simp; omega), (K2.drewN nq).other _ _ (by simp), (K3.drewN nq).other _ _ (by simp), (K4.drewN nq).setv (4 + k) _⟩
      case measure => simp [intOf]; omega
    · obtain rfl : k = 8 := by omega
      clear hlt hk
      rw [show ((8 : Nat) : Int) = 8 from rfl]
      go_wp2_with fail
      go_loopw [9, 23] (fun _ i wr => ∃ k : Nat, k ≤ 3 ∧ i = .int .i64 k ∧ Below w.heap.size w wr ∧ Blk wr w.heap.size (vals .u8 key) 29 ∧ Blk wr (w.heap.size + 1) (vals .u8 nonce) 36 ∧ Blk wr (w.heap.size + 1 + 1) (vals .u32 (List.replicate 16 0#32)) 37 ∧ Blk wr (w.heap.size + 1 + 1 + 1) (vals .u32 (stateN key counter nonce k)) 37)
        (fun _ i _ => 3 - (intOf i).toNat)
      case atStart => exact ⟨0, by omega, rfl, hb, K1, K2, K3, K4⟩
      case round =>
        clear hb K1 K2 K3 K4
        obtain ⟨k, hk, rfl, hb, K1, K2, K3, K4⟩ := hrel
        by_cases hlt : k < 3
        · have c0 := K2.cellv (4 * k) (by rw [HN.out]; omega)
          have c1 := K2.cellv (4 * k + 1) (by rw [HN.out]; omega)
          have c2 := K2.cellv (4 * k + 2) (by rw [HN.out]; omega)
          have c3 := K2.cellv (4 * k + 3) (by rw [HN.out]; omega)
          have d0 := K4.cellv (13 + k) (by rw [stateN_length]; omega)
          have f0 := K4.frozen (13 + k)
          have g1 : (0 : Int) ≤ 4 * (k : Int) := by omega
          have g2 : 4 * (k : Int) ≤ 12 := by omega
          have g3 : (4 * (k : Int)).toNat = 4 * k := by omega
          have g4 : ¬ (12 = 4 * k) := by omega
          go_wp2_with (go_at_call 75; refine (number_any _ _ _ _ _ _ _ _ _ (by omega) c0 c1 c2 c3).mono ?_; rintro e w' ⟨rfl, nq, rfl⟩)
          go_roundw
          case rel => exact ⟨k + 1, by omega, by go_num, (below_drewN hb nq).setCell (by simp; omega) _, (K1.drewN nq).other _ _ (by simp; omega), (K2.drewN nq).other _ _ (by simp), (K3.drewN nq).other _ _ (by simp), (K4.drewN nq).setv (13 + k) _⟩
          case measure => simp [intOf]; omega
        · obtain rfl : k = 3 := by omega
          clear hlt hk
          change Blk wr (w.heap.size + 1 + 1 + 1) (vals .u32 (stateL key counter nonce)) _ at K4
          have hl : (stateL key counter nonce).length = 16 := stateN_length _ _ _ _
          have HL := Lib.hid hl
          clear hl
          go_wp2_with (first | (refine wpList_load_vals rfl _ _ rfl _ rfl K4 Try.underlying37 (by kernel_rfl) HL.out ?_) | (refine wpList_store_vals rfl _ _ _ rfl _ rfl rfl K3 (by rw [HL.out]; kernel_rfl) (by rw [HL.out, vals_size]; simp) ?_))
          refine bodyPost_vals rfl rfl (K3.row _) Try.underlying37 (by kernel_rfl) HL.out rfl ⟨rfl, below_setRow' hb (by omega) _⟩
end Go.Proofs.Ytikopoimoaddhaa
