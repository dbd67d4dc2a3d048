/- Walks of stream's Key and of the reference's: both give the same list of bytes. No condition. -/
import Derived.Test.YtikopoimoaddhaaStreamA
import Derived.Laws.CopyRow
namespace Go.Proofs.Ytikopoimoaddhaa
open Go.RowKit
set_option maxRecDepth 100000

/-- The text of a seed's key. -/
def keyText : List (BitVec 8) := [117, 109, 98, 114, 97, 32, 115, 97, 109, 112, 108, 101, 32, 115, 116, 114, 101, 97, 109, 32, 118, 49]
def seedByte (s : BitVec 64) (i : Nat) : BitVec 8 := (s >>> (8 * i)).setWidth 8
/-- A seed's key. -/
def keyL (s : BitVec 64) : List (BitVec 8) := fillL (seedByte s) 24 (fillL (gt keyText) 0 (List.replicate 32 0#8) 22) 8

def textBytes : ByteArray := ⟨#[117, 109, 98, 114, 97, 32, 115, 97, 109, 112, 108, 101, 32, 115, 116, 114, 101, 97, 109, 32, 118, 49]⟩

theorem txt : ∀ (k : Nat) (h : k < 22), ((textBytes[k]'h).toNat : Int) = bvi (gt keyText k) := by decide +kernel

theorem refKey_any (s : BitVec 64) (w : World) :
    Calls Try.prog 31 #[.int .u64 (bvi s)] w fun e w' => e = .returned (.agg (vals .u8 (keyL s))) ∧ Below w.heap.size w w' := by
  go_enter Try.func31, Try.ntmps31
  go_wp2
  refine wp_forget (fun W => Below w.heap.size w W ∧ Blk W w.heap.size (vals .u8 (List.replicate 32 0#8)) 29 ∧ Blk W (w.heap.size + 1) (vals .u8 (List.replicate 32 0#8)) 29)
    ⟨((Below.refl _ _).alloc (Nat.le_refl _) _).alloc (by simp) _, (Blk.new _ _ _ rfl).alloc _, Blk.new _ _ _ (by simp)⟩ ?_
  rintro w1 ⟨hb, K1, K2⟩
  go_loopw [5] (fun i wr => ∃ k : Nat, k ≤ 22 ∧ i = .int .i64 k ∧ Below w.heap.size w wr ∧ Blk wr w.heap.size (vals .u8 (List.replicate 32 0#8)) 29 ∧ Blk wr (w.heap.size + 1) (vals .u8 (fillL (gt keyText) 0 (List.replicate 32 0#8) k)) 29)
    (fun i _ => 22 - (intOf i).toNat)
  case atStart => exact ⟨0, by omega, rfl, hb, K1, K2⟩
  case round =>
    clear hb K1 K2
    obtain ⟨k, hk, rfl, hb, K1, K2⟩ := hrel
    by_cases hlt : k < 22
    · have hl : (fillL (gt keyText) 0 (List.replicate 32 0#8) k).length = 32 := by rw [fillL_length]; simp
      have c0 := K2.cellv k (by omega)
      have f0 := K2.frozen k
      have HL := Lib.hid hl
      clear hl
      go_wp2
      go_roundw
      case rel => exact ⟨k + 1, by omega, by go_num, hb.setCell (by simp) _, K1.other _ _ (by simp), by have := K2.setz k (txt k hlt); rw [fillL, Nat.zero_add]; exact this⟩
      case measure => simp [intOf]; omega
    · obtain rfl : k = 22 := by omega
      go_wp2
      clear hlt
      go_loopw [6] (fun i wr => ∃ k : Nat, k ≤ 8 ∧ i = .int .i64 k ∧ Below w.heap.size w wr ∧ Blk wr w.heap.size (vals .u8 (List.replicate 32 0#8)) 29 ∧ Blk wr (w.heap.size + 1) (vals .u8 (fillL (seedByte s) 24 (fillL (gt keyText) 0 (List.replicate 32 0#8) 22) k)) 29)
        (fun i _ => 8 - (intOf i).toNat)
      case atStart => exact ⟨0, by omega, rfl, hb, K1, K2⟩
      case round =>
        clear hb K1 K2
        obtain ⟨k, hk, rfl, hb, K1, K2⟩ := hrel
        by_cases hlt : k < 8
        · have hl : (fillL (seedByte s) 24 (fillL (gt keyText) 0 (List.replicate 32 0#8) 22) k).length = 32 := by rw [fillL_length, fillL_length]; simp
          have c0 := K2.cellv (24 + k) (by omega)
          have f0 := K2.frozen (24 + k)
          have HL := Lib.hid hl
          clear hl
          have t0 : (8 * (k : Int)).toNat = 8 * k := by omega
          go_wp2
          go_roundw
          case rel => exact ⟨k + 1, by omega, by go_num, hb.setCell (by simp) _, K1.other _ _ (by simp), K2.setv (24 + k) _⟩
          case measure => simp [intOf]; omega
        · obtain rfl : k = 8 := by omega
          have hl : (keyL s).length = 32 := by rw [keyL, fillL_length, fillL_length]; simp
          have HL := Lib.hid hl
          change Blk wr (w.heap.size + 1) (vals .u8 (keyL s)) _ at K2
          clear hl hlt
          go_wp2_with (first | (refine wpList_load_vals rfl _ _ rfl _ rfl K2 Try.underlying29 (by kernel_rfl) HL.out ?_) | (refine wpList_store_vals rfl _ _ _ rfl _ rfl rfl K1 (by rw [HL.out]; kernel_rfl) (by rw [HL.out, vals_size]; simp) ?_))
          refine bodyPost_vals rfl rfl (K1.row _) Try.underlying29 (by kernel_rfl) HL.out rfl ⟨rfl, below_setRow' hb (Nat.le_refl _) _⟩

theorem keyText_fill : vals .u8 (keyText ++ List.replicate 10 0#8) = vals .u8 (fillL (gt keyText) 0 (List.replicate 32 0#8) 22) := congrArg _ (by decide +kernel)
/-- The text, laid over an array of zeros. -/
theorem copy_text (w : World) (g : Nat) (T : TypeId) (K : Blk w g (vals .u8 (List.replicate 32 0#8)) T) :
    (Builtin.copy_ #[44, 9] 3 #[.slice (some ⟨g, 0, none⟩) 32 32, .string textBytes]).run Try.prog w = .ok (.int .i64 22) (w.setRow g (vals .u8 (fillL (gt keyText) 0 (List.replicate 32 0#8) 22))) := by
  have h := run_copy_string (P := Try.prog) w 44 9 3 5 g 0 32 32 textBytes (vals .u8 (List.replicate 32 0#8)) T (keyText.map fun x => Value.int .u8 (bvi x)) Try.underlying44 (by kernel_rfl) K (by decide) (by kernel_rfl) (by decide) (by intro v hv; exact vals_one keyText v (by simpa [vals, valsL] using hv))
  rw [h, ← keyText_fill]
  rfl

theorem key_any (s : BitVec 64) (w : World) :
    Calls Try.prog 30 #[.int .u64 (bvi s)] w fun e w' => e = .returned (.agg (vals .u8 (keyL s))) ∧ Below w.heap.size w w' := by
  go_enter Try.func30, Try.ntmps30
  go_upto_region 2 with (fail)
  refine wp_forget (fun W => Below w.heap.size w W ∧ Blk W w.heap.size (vals .u8 (List.replicate 32 0#8)) 29 ∧ Blk W (w.heap.size + 1) (vals .u8 (List.replicate 32 0#8)) 29)
    ⟨((Below.refl _ _).alloc (Nat.le_refl _) _).alloc (by simp) _, (Blk.new _ _ _ rfl).alloc _, Blk.new _ _ _ (by simp)⟩ ?_
  rintro w1 ⟨hb, K1, K2⟩
  have hcopy := copy_text w1 _ _ K2
  unfold textBytes at hcopy
  go_wp2
  go_loopw [4, 7] (fun _ i wr => ∃ k : Nat, k ≤ 8 ∧ i = .int .i64 k ∧ Below w.heap.size w wr ∧ Blk wr w.heap.size (vals .u8 (List.replicate 32 0#8)) 29 ∧ Blk wr (w.heap.size + 1) (vals .u8 (fillL (seedByte s) 24 (fillL (gt keyText) 0 (List.replicate 32 0#8) 22) k)) 29)
    (fun _ i _ => 8 - (intOf i).toNat)
  case atStart => exact ⟨0, by omega, rfl, below_setRow' hb (by simp) _, K1.rowOther _ _ (by simp), K2.row _⟩
  case round =>
    clear hb K1 K2 hcopy
    obtain ⟨k, hk, rfl, hb, K1, K2⟩ := hrel
    by_cases hlt : k < 8
    · have hl : (fillL (seedByte s) 24 (fillL (gt keyText) 0 (List.replicate 32 0#8) 22) k).length = 32 := by rw [fillL_length, fillL_length]; simp
      have c0 := K2.cellv (24 + k) (by omega)
      have f0 := K2.frozen (24 + k)
      have HL := Lib.hid hl
      clear hl
      have t0 : (8 * (k : Int)).toNat = 8 * k := by omega
      go_wp2
      go_roundw
      case rel => exact ⟨k + 1, by omega, by go_num, hb.setCell (by simp) _, K1.other _ _ (by simp), K2.setv (24 + k) _⟩
      case measure => simp [intOf]; omega
    · obtain rfl : k = 8 := by omega
      have hl : (keyL s).length = 32 := by rw [keyL, fillL_length, fillL_length]; simp
      have HL := Lib.hid hl
      change Blk wr (w.heap.size + 1) (vals .u8 (keyL s)) _ at K2
      clear hl hlt
      go_wp2_with (first | (refine wpList_load_vals rfl _ _ rfl _ rfl K2 Try.underlying29 (by kernel_rfl) HL.out ?_) | (refine wpList_store_vals rfl _ _ _ rfl _ rfl rfl K1 (by rw [HL.out]; kernel_rfl) (by rw [HL.out, vals_size]; simp) ?_))
      refine bodyPost_vals rfl rfl (K1.row _) Try.underlying29 (by kernel_rfl) HL.out rfl ⟨rfl, below_setRow' hb (Nat.le_refl _) _⟩
end Go.Proofs.Ytikopoimoaddhaa
