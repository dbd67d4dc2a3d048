/- Walk of chacha's Block. No condition. -/
import Derived.Test.YtikopoimoaddhaaChaM1
import Derived.Test.YtikopoimoaddhaaMix
import Derived.Deep.CutRange
namespace Go.Proofs.Ytikopoimoaddhaa
open Go.RowKit
set_option maxRecDepth 100000
set_option maxHeartbeats 8000000

theorem wp_store_vals {P : Program} {K0 : Act → World → Prop} {B : Exit → Act → World → Prop} {w : World} {a : Act} {o : Oper} (ty : TypeId) (x y : Operand) (ho : o.op = .store ty x y) (g : Nat) (hx : a.eval x = .pointer (some ⟨g, 0, none⟩))
    {k : IntKind} {n : Nat} {l : List (BitVec n)} (hy : a.eval y = .agg (vals k l)) {ys : Array Value} {T : TypeId} (K : Blk w g ys T) (hi : (P.info? ty).map (·.size) = some l.length) (hl : ys.size = l.length) (hd : o.dst = none)
    (h : K0 a (w.setRow g (vals k l))) : o.wp P a w K0 B :=
  wp_store_row ty x y ho g (vals k l) hx hy T ys K (by rw [hi, vals_size]) (by rw [hl, vals_size]) (Array.all_eq_true_iff_forall_mem.2 fun v hv => vals_one l v (by simpa using hv)) (by rw [hd]; exact h)
theorem wpMix_forget {P : Program} {ops : Array Oper} {C : World → Prop} {Q : Exit → Act → World → Prop} {o : Ord} {a : Act} {w : World} (R : World → Prop) (h0 : R w) (h : ∀ w, R w → wpMix P ops C Q o a w) : wpMix P ops C Q o a w := h w h0
/-- A quarter of a round, at four places of a state. -/
def qat (s : List (BitVec 32)) (a b c d : Nat) : List (BitVec 32) :=
  (((s.set a (gt (qrL (gt s a) (gt s b) (gt s c) (gt s d)) 0)).set b (gt (qrL (gt s a) (gt s b) (gt s c) (gt s d)) 1)).set c (gt (qrL (gt s a) (gt s b) (gt s c) (gt s d)) 2)).set d (gt (qrL (gt s a) (gt s b) (gt s c) (gt s d)) 3)
theorem qat_length (s : List (BitVec 32)) (a b c d : Nat) : (qat s a b c d).length = s.length := by simp [qat]
def pa (j : Nat) : Nat := [0, 1, 2, 3, 0, 1, 2, 3].getD j 0
def pb (j : Nat) : Nat := [4, 5, 6, 7, 5, 6, 7, 4].getD j 0
def pc (j : Nat) : Nat := [8, 9, 10, 11, 10, 11, 8, 9].getD j 0
def pd (j : Nat) : Nat := [12, 13, 14, 15, 15, 12, 13, 14].getD j 0
theorem p_bd : ∀ j, j < 8 → pa j < 16 ∧ pb j < 16 ∧ pc j < 16 ∧ pd j < 16 := by decide
/-- A state behind j quarters of a double round. -/
def dsteps (s : List (BitVec 32)) : Nat → List (BitVec 32)
  | 0 => s
  | j + 1 => qat (dsteps s j) (pa j) (pb j) (pc j) (pd j)
theorem dsteps_length (s : List (BitVec 32)) (j : Nat) : (dsteps s j).length = s.length := by
  induction j with
  | zero => rfl
  | succ j ih => rw [dsteps, qat_length, ih]
/-- A state behind i double rounds. -/
def rnds (s : List (BitVec 32)) : Nat → List (BitVec 32)
  | 0 => s
  | i + 1 => dsteps (rnds s i) 8
theorem rnds_length (s : List (BitVec 32)) (i : Nat) : (rnds s i).length = s.length := by
  induction i with
  | zero => rfl
  | succ i ih => rw [rnds, dsteps_length, ih]
/-- The i-th byte of a block. -/
def blockByte (s : List (BitVec 32)) (i : Nat) : BitVec 8 := ((gt (rnds s 10) (i / 4) + gt s (i / 4)) >>> (8 * (i % 4))).setWidth 8
/-- A block of the stream. -/
def blockL (key : List (BitVec 8)) (counter : BitVec 32) (nonce : List (BitVec 8)) : List (BitVec 8) := fillL (blockByte (stateL key counter nonce)) 0 (List.replicate 64 0#8) 64
theorem blockL_length (key : List (BitVec 8)) (counter : BitVec 32) (nonce : List (BitVec 8)) : (blockL key counter nonce).length = 64 := by rw [blockL, fillL_length]; simp
theorem stateL_length (key : List (BitVec 8)) (counter : BitVec 32) (nonce : List (BitVec 8)) : (stateL key counter nonce).length = 16 := stateN_length _ _ _ _

theorem block_fill (S R z) (k : Nat) (hR : R = rnds S 10) : ((((fillL (blockByte S) 0 z (4 * k)).set (4 * k) ((gt R k + gt S k).setWidth 8)).set (4 * k + 1) (((gt R k + gt S k) >>> 8).setWidth 8)).set (4 * k + 2) (((gt R k + gt S k) >>> 16).setWidth 8)).set (4 * k + 3) (((gt R k + gt S k) >>> 24).setWidth 8) = fillL (blockByte S) 0 z (4 * (k + 1)) := by
  have b0 : blockByte S (4 * k) = (gt R k + gt S k).setWidth 8 := by unfold blockByte; rw [← hR, show 4 * k / 4 = k by omega, show 4 * k % 4 = 0 by omega]; rfl
  have b1 : blockByte S (4 * k + 1) = ((gt R k + gt S k) >>> 8).setWidth 8 := by unfold blockByte; rw [← hR, show (4 * k + 1) / 4 = k by omega, show (4 * k + 1) % 4 = 1 by omega]
  have b2 : blockByte S (4 * k + 2) = ((gt R k + gt S k) >>> 16).setWidth 8 := by unfold blockByte; rw [← hR, show (4 * k + 2) / 4 = k by omega, show (4 * k + 2) % 4 = 2 by omega]
  have b3 : blockByte S (4 * k + 3) = ((gt R k + gt S k) >>> 24).setWidth 8 := by unfold blockByte; rw [← hR, show (4 * k + 3) / 4 = k by omega, show (4 * k + 3) % 4 = 3 by omega]
  clear hR
  generalize gt R k + gt S k = X at *
  rw [show 4 * (k + 1) = 4 * k + 1 + 1 + 1 + 1 by omega]
  generalize blockByte S = f at *
  simp only [fillL, Nat.zero_add, b0, b1, b2, b3]
theorem bvi_b1 (x : BitVec 32) : bvi x / 256 % 256 = bvi ((x >>> 8).setWidth 8) := by
  simp only [bvi, BitVec.toNat_setWidth, BitVec.toNat_ushiftRight, Nat.shiftRight_eq_div_pow]; omega
theorem bvi_b2 (x : BitVec 32) : bvi x / 65536 % 256 = bvi ((x >>> 16).setWidth 8) := by
  simp only [bvi, BitVec.toNat_setWidth, BitVec.toNat_ushiftRight, Nat.shiftRight_eq_div_pow]; omega
theorem bvi_b3 (x : BitVec 32) : bvi x / 16777216 % 256 = bvi ((x >>> 24).setWidth 8) := by
  simp only [bvi, BitVec.toNat_setWidth, BitVec.toNat_ushiftRight, Nat.shiftRight_eq_div_pow]; omega
theorem run_index_vals {P : Program} (w : World) {t e : TypeId} {m n : Nat} {k k' : IntKind} (hu : P.underlying t = some (.array m e)) (hs : (P.info? e).map (·.size) = some 1) (he : P.underlying e = some (.int k')) (l : List (BitVec n)) (i : Nat) (hi : i < m) (hl : l.length = m) :
    (Instr.index t (.agg (vals k l)) (.int .i64 (i : Int))).run P w = .ok (.int k (bvi (gt l i))) w := by
  have h2 : (i : Int) < (m : Int) := by omega
  cases hq : P.info? e with
  | none => simp [hq] at hs
  | some d =>
    have hd : d.size = 1 := by simpa [hq] using hs
    have h3 : ¬ m ≤ i := by omega
    simp [Instr.index, asIntOf, Sem.run_bind, run_underlying hu, h3, sizeOf, typeInfo, hq, hd, run_part_int w he l i (by omega)]

def placesV : Array Value := #[.int .i64 0, .int .i64 4, .int .i64 8, .int .i64 12, .int .i64 1, .int .i64 5, .int .i64 9, .int .i64 13, .int .i64 2, .int .i64 6, .int .i64 10, .int .i64 14, .int .i64 3, .int .i64 7, .int .i64 11, .int .i64 15,
  .int .i64 0, .int .i64 5, .int .i64 10, .int .i64 15, .int .i64 1, .int .i64 6, .int .i64 11, .int .i64 12, .int .i64 2, .int .i64 7, .int .i64 8, .int .i64 13, .int .i64 3, .int .i64 4, .int .i64 9, .int .i64 14]
theorem places_at (j : Nat) (hj : j < 8) (W : World) : (Instr.index 109 (.agg placesV) (.int .i64 (j : Int))).run Try.prog W = .ok (.agg #[.int .i64 (pa j), .int .i64 (pb j), .int .i64 (pc j), .int .i64 (pd j)]) W := by
  obtain rfl | rfl | rfl | rfl | rfl | rfl | rfl | rfl : j = 0 ∨ j = 1 ∨ j = 2 ∨ j = 3 ∨ j = 4 ∨ j = 5 ∨ j = 6 ∨ j = 7 := by omega
  all_goals kernel_rfl

theorem block_any (key nonce : List (BitVec 8)) (counter : BitVec 32) (w : World) (hk : key.length = 32) (hn : nonce.length = 12) :
    Calls Try.prog 39 #[.agg (vals .u8 key), .int .u32 (bvi counter), .agg (vals .u8 nonce)] w fun e w' => e = .returned (.agg (vals .u8 (blockL key counter nonce))) ∧ Below w.heap.size w w' := by
  have HK := Lib.hid hk
  have HN := Lib.hid hn
  clear hk hn
  have HS := Lib.hid (stateL_length key counter nonce)
  go_enter Try.func39, Try.ntmps39
  go_upto_region 1 with (fail)
  refine wp_forget (fun W => Below w.heap.size w W ∧ Blk W w.heap.size (vals .u8 key) 29 ∧ Blk W (w.heap.size + 1) (vals .u8 nonce) 36 ∧ Blk W (w.heap.size + 1 + 1) (vals .u8 (List.replicate 64 0#8)) 39)
    ⟨(by have hsz := (Below.refl w.heap.size w).size; repeat (first | exact Below.refl w.heap.size w | refine Below.drew ?_ | refine below_drewN ?_ _ | refine Below.alloc ?_ (by first | (simp <;> fail) | (simp; omega) | omega) _ | refine Below.setCell ?_ (by first | (simp <;> fail) | (simp; omega) | omega) _ | refine below_setRow' ?_ (by first | (simp <;> fail) | (simp; omega) | omega) _)), (Blk.new _ _ _ rfl).alloc _ |>.alloc _, (Blk.new _ _ _ (by simp)).alloc _, Blk.new _ _ _ (by simp)⟩ ?_
  rintro w1 ⟨hb, K1, K2, K3⟩
  go_upto_region 2 with (first | (refine wpList_load_vals rfl _ _ rfl _ rfl K1 Try.underlying29 (by kernel_rfl) HK.out ?_) | (refine wpList_load_vals rfl _ _ rfl _ rfl K2 Try.underlying36 (by kernel_rfl) HN.out ?_) | (go_at_call 37; refine (state_any _ _ _ _ HK.out HN.out).mono ?_; rintro e w2 ⟨rfl, hb2⟩) | (refine wpList_store_vals rfl _ _ _ rfl _ rfl rfl (Blk.new w2 _ _ rfl) (by rw [HS.out]; kernel_rfl) (by rw [HS.out]; rfl) ?_))
  have hs1 := K3.lt
  have hs2 := hb2.size
  refine wp_forget (fun W => Below w.heap.size w W ∧ Blk W (w.heap.size + 1 + 1) (vals .u8 (List.replicate 64 0#8)) 39 ∧ Blk W (w2.heap.size) (vals .u32 (stateL key counter nonce)) 37 ∧ w.heap.size + 1 + 1 < w2.heap.size ∧ W.heap.size = w2.heap.size + 1)
    ⟨(by have hsz := ((hb.trans (hb2.mono hb.size))).size; repeat (first | exact (hb.trans (hb2.mono hb.size)) | refine Below.drew ?_ | refine below_drewN ?_ _ | refine Below.alloc ?_ (by first | (simp <;> fail) | (simp; omega) | omega) _ | refine Below.setCell ?_ (by first | (simp <;> fail) | (simp; omega) | omega) _ | refine below_setRow' ?_ (by first | (simp <;> fail) | (simp; omega) | omega) _)), (by repeat (first | exact (K3.later hb2) | refine Blk.drew ?_ | refine Blk.drewN ?_ _ | refine Blk.alloc ?_ _ | refine Blk.other ?_ _ _ (by first | (simp <;> fail) | (simp; omega) | omega) | refine Blk.rowOther ?_ _ _ (by first | (simp <;> fail) | (simp; omega) | omega))), (Blk.new w2 _ _ rfl).row _, by omega, by simp⟩ ?_
  clear hb K1 K2 K3 hs1 hs2
  rintro w3 ⟨hb, K3, K4, hB, hs0⟩
  have hs := Lib.hid hs0
  have hB0 := Lib.hid hB
  clear hs0 hB
  clear hb2 w1
  go_upto_region 3 with (first | (refine wpList_load_vals rfl _ _ rfl _ rfl K4 Try.underlying37 (by kernel_rfl) HS.out ?_) | (refine wpList_store_vals rfl _ _ _ rfl _ rfl rfl (Blk.new w3 _ _ rfl) (by rw [HS.out]; kernel_rfl) (by rw [HS.out]; rfl) ?_))
  have q1 := hB0.out
  have q2 := hs.out
  refine wp_forget (fun W => Below w.heap.size w W ∧ Blk W (w.heap.size + 1 + 1) (vals .u8 (List.replicate 64 0#8)) 39 ∧ Blk W w2.heap.size (vals .u32 (stateL key counter nonce)) 37 ∧ Blk W w3.heap.size (vals .u32 (stateL key counter nonce)) 37 ∧ w2.heap.size < w3.heap.size ∧ W.heap.size = w3.heap.size + 1)
    ⟨(by have hsz := (hb).size; repeat (first | exact hb | refine Below.drew ?_ | refine below_drewN ?_ _ | refine Below.alloc ?_ (by first | (simp <;> fail) | (simp; omega) | omega) _ | refine Below.setCell ?_ (by first | (simp <;> fail) | (simp; omega) | omega) _ | refine below_setRow' ?_ (by first | (simp <;> fail) | (simp; omega) | omega) _)), (by repeat (first | exact K3 | refine Blk.drew ?_ | refine Blk.drewN ?_ _ | refine Blk.alloc ?_ _ | refine Blk.other ?_ _ _ (by first | (simp <;> fail) | (simp; omega) | omega) | refine Blk.rowOther ?_ _ _ (by first | (simp <;> fail) | (simp; omega) | omega))), (by repeat (first | exact K4 | refine Blk.drew ?_ | refine Blk.drewN ?_ _ | refine Blk.alloc ?_ _ | refine Blk.other ?_ _ _ (by first | (simp <;> fail) | (simp; omega) | omega) | refine Blk.rowOther ?_ _ _ (by first | (simp <;> fail) | (simp; omega) | omega))), (Blk.new w3 _ _ rfl).row _, by omega, by simp⟩ ?_
  clear hb K3 K4 hs q1 q2
  rintro w4 ⟨hb, K3, K4, K5, hB3, hs0⟩
  have hs := Lib.hid hs0
  have hB1 := Lib.hid hB3
  clear hs0 hB3
  go_upto_region 4 with (refine wpList_store_row rfl _ _ _ rfl _ placesV rfl rfl _ _ (Blk.new w4 _ _ rfl) (by kernel_rfl) rfl (by kernel_rfl) ?_)
  have q1 := hB0.out
  have q2 := hs.out
  have q3 := hB1.out
  refine wp_forget (fun W => Below w.heap.size w W ∧ Blk W (w.heap.size + 1 + 1) (vals .u8 (List.replicate 64 0#8)) 39 ∧ Blk W w2.heap.size (vals .u32 (stateL key counter nonce)) 37 ∧ Blk W w3.heap.size (vals .u32 (stateL key counter nonce)) 37 ∧ Blk W w4.heap.size placesV 109 ∧ w3.heap.size < w4.heap.size)
    ⟨(by have hsz := (hb).size; repeat (first | exact hb | refine Below.drew ?_ | refine below_drewN ?_ _ | refine Below.alloc ?_ (by first | (simp <;> fail) | (simp; omega) | omega) _ | refine Below.setCell ?_ (by first | (simp <;> fail) | (simp; omega) | omega) _ | refine below_setRow' ?_ (by first | (simp <;> fail) | (simp; omega) | omega) _)), (by repeat (first | exact K3 | refine Blk.drew ?_ | refine Blk.drewN ?_ _ | refine Blk.alloc ?_ _ | refine Blk.other ?_ _ _ (by first | (simp <;> fail) | (simp; omega) | omega) | refine Blk.rowOther ?_ _ _ (by first | (simp <;> fail) | (simp; omega) | omega))), (by repeat (first | exact K4 | refine Blk.drew ?_ | refine Blk.drewN ?_ _ | refine Blk.alloc ?_ _ | refine Blk.other ?_ _ _ (by first | (simp <;> fail) | (simp; omega) | omega) | refine Blk.rowOther ?_ _ _ (by first | (simp <;> fail) | (simp; omega) | omega))), (by repeat (first | exact K5 | refine Blk.drew ?_ | refine Blk.drewN ?_ _ | refine Blk.alloc ?_ _ | refine Blk.other ?_ _ _ (by first | (simp <;> fail) | (simp; omega) | omega) | refine Blk.rowOther ?_ _ _ (by first | (simp <;> fail) | (simp; omega) | omega))), (Blk.new w4 _ _ rfl).row _, by omega⟩ ?_
  clear hb K3 K4 K5 hs q1 q2 q3
  rintro w5 ⟨hb, K3, K4, K5, K6, hB5⟩
  have hB2 := Lib.hid hB5
  clear hB5
  go_wp2_with fail
  go_loopw [30] (fun i wr => ∃ k : Nat, k ≤ 10 ∧ i = .int .i64 k ∧ Below w.heap.size w wr ∧ Blk wr (w.heap.size + 1 + 1) (vals .u8 (List.replicate 64 0#8)) 39 ∧ Blk wr w2.heap.size (vals .u32 (stateL key counter nonce)) 37 ∧ Blk wr w3.heap.size (vals .u32 (rnds (stateL key counter nonce) k)) 37 ∧ Blk wr w4.heap.size placesV 109)
    (fun i _ => 10 - (intOf i).toNat)
  case atStart => exact ⟨0, by omega, rfl, hb, K3, K4, K5, K6⟩
  case round =>
    clear hb K3 K4 K5 K6
    obtain ⟨k, hk, rfl, hb, K3, K4, K5, K6⟩ := hrel
    by_cases hlt : k < 10
    · go_wp2_with (refine wpList_load_row rfl _ _ rfl _ rfl _ placesV _ _ K6 Try.underlying109 rfl (by kernel_rfl) ?_)
      obtain ⟨wo, rfl⟩ : ∃ wo : World, wo = wr := ⟨_, rfl⟩
      have HR := Lib.hid (show (rnds (stateL key counter nonce) k).length = 16 from (rnds_length _ _).trans HS.out)
      go_loopw [33] (fun j wr => ∃ m : Nat, m ≤ 8 ∧ j = .int .i64 m ∧ Below w.heap.size w wr ∧ Blk wr (w.heap.size + 1 + 1) (vals .u8 (List.replicate 64 0#8)) 39 ∧ Blk wr w2.heap.size (vals .u32 (stateL key counter nonce)) 37 ∧ Blk wr w3.heap.size (vals .u32 (dsteps (rnds (stateL key counter nonce) k) m)) 37 ∧ Blk wr w4.heap.size placesV 109)
        (fun j _ => 8 - (intOf j).toNat)
      case atStart => exact ⟨0, by omega, rfl, hb, K3, K4, K5, K6⟩
      case round =>
        clear hb K3 K4 K5 K6
        obtain ⟨m, hm, rfl, hb, K3, K4, K5, K6⟩ := hrel
        by_cases hlm : m < 8
        · have hpl := places_at m hlm
          have hbd := p_bd m hlm
          obtain ⟨a, ha⟩ : ∃ a, Hid (a = pa m) := ⟨_, rfl⟩
          obtain ⟨b, hb'⟩ : ∃ a, Hid (a = pb m) := ⟨_, rfl⟩
          obtain ⟨c, hc⟩ : ∃ a, Hid (a = pc m) := ⟨_, rfl⟩
          obtain ⟨d, hd⟩ : ∃ a, Hid (a = pd m) := ⟨_, rfl⟩
          rw [← ha.out, ← hb'.out, ← hc.out, ← hd.out] at hpl hbd
          have HB := Lib.hid hbd
          have HL := Lib.hid (show (dsteps (rnds (stateL key counter nonce) k) m).length = 16 from (dsteps_length _ _).trans HR.out)
          clear hbd
          go_upto_region 9 with (fail)
          refine wp_forget (fun W => Below w.heap.size w W ∧ Blk W (w.heap.size + 1 + 1) (vals .u8 (List.replicate 64 0#8)) 39 ∧ Blk W w2.heap.size (vals .u32 (stateL key counter nonce)) 37 ∧ Blk W w3.heap.size (vals .u32 (dsteps (rnds (stateL key counter nonce) k) m)) 37 ∧ Blk W w4.heap.size placesV 109 ∧ Blk W wr.heap.size #[.int .i64 (a : Int), .int .i64 (b : Int), .int .i64 (c : Int), .int .i64 (d : Int)] 53)
            ⟨(by have hsz := (hb).size; repeat (first | exact hb | refine Below.drew ?_ | refine below_drewN ?_ _ | refine Below.alloc ?_ (by first | (simp <;> fail) | (simp; omega) | omega) _ | refine Below.setCell ?_ (by first | (simp <;> fail) | (simp; omega) | omega) _ | refine below_setRow' ?_ (by first | (simp <;> fail) | (simp; omega) | omega) _)), (by repeat (first | exact K3 | refine Blk.drew ?_ | refine Blk.drewN ?_ _ | refine Blk.alloc ?_ _ | refine Blk.other ?_ _ _ (by first | (simp <;> fail) | (simp; omega) | omega) | refine Blk.rowOther ?_ _ _ (by first | (simp <;> fail) | (simp; omega) | omega))), (by repeat (first | exact K4 | refine Blk.drew ?_ | refine Blk.drewN ?_ _ | refine Blk.alloc ?_ _ | refine Blk.other ?_ _ _ (by first | (simp <;> fail) | (simp; omega) | omega) | refine Blk.rowOther ?_ _ _ (by first | (simp <;> fail) | (simp; omega) | omega))), (by repeat (first | exact K5 | refine Blk.drew ?_ | refine Blk.drewN ?_ _ | refine Blk.alloc ?_ _ | refine Blk.other ?_ _ _ (by first | (simp <;> fail) | (simp; omega) | omega) | refine Blk.rowOther ?_ _ _ (by first | (simp <;> fail) | (simp; omega) | omega))), (by repeat (first | exact K6 | refine Blk.drew ?_ | refine Blk.drewN ?_ _ | refine Blk.alloc ?_ _ | refine Blk.other ?_ _ _ (by first | (simp <;> fail) | (simp; omega) | omega) | refine Blk.rowOther ?_ _ _ (by first | (simp <;> fail) | (simp; omega) | omega))), Blk.new _ _ _ rfl⟩ ?_
          have K6lt := K6.lt
          clear hb K3 K4 K5 K6 hpl
          rintro w6 ⟨hb, K3, K4, K5, K6, K7⟩
          have l7 := K7.lt
          have b7 := hb.size
          have r7 : w4.heap.size < wr.heap.size := K6lt
          have p0 : ∀ x : HeldW (fun W => Below w6.heap.size w6 W), x.w.cell? ⟨wr.heap.size, 0, none⟩ = some (.int .i64 (a : Int)) := fun x => (K7.later x.out).cell 0
          have p1 : ∀ x : HeldW (fun W => Below w6.heap.size w6 W), x.w.cell? ⟨wr.heap.size, 1, none⟩ = some (.int .i64 (b : Int)) := fun x => (K7.later x.out).cell 1
          have p2 : ∀ x : HeldW (fun W => Below w6.heap.size w6 W), x.w.cell? ⟨wr.heap.size, 2, none⟩ = some (.int .i64 (c : Int)) := fun x => (K7.later x.out).cell 2
          have p3 : ∀ x : HeldW (fun W => Below w6.heap.size w6 W), x.w.cell? ⟨wr.heap.size, 3, none⟩ = some (.int .i64 (d : Int)) := fun x => (K7.later x.out).cell 3
          have s0 : ∀ x : HeldW (fun W => Below w6.heap.size w6 W), x.w.cell? ⟨w3.heap.size, a, none⟩ = some (.int .u32 (bvi (gt (dsteps (rnds (stateL key counter nonce) k) m) a))) := fun x => (K5.later x.out).cellv a (by rw [HL.out]; exact HB.out.1)
          have s1 : ∀ x : HeldW (fun W => Below w6.heap.size w6 W), x.w.cell? ⟨w3.heap.size, b, none⟩ = some (.int .u32 (bvi (gt (dsteps (rnds (stateL key counter nonce) k) m) b))) := fun x => (K5.later x.out).cellv b (by rw [HL.out]; exact HB.out.2.1)
          have s2 : ∀ x : HeldW (fun W => Below w6.heap.size w6 W), x.w.cell? ⟨w3.heap.size, c, none⟩ = some (.int .u32 (bvi (gt (dsteps (rnds (stateL key counter nonce) k) m) c))) := fun x => (K5.later x.out).cellv c (by rw [HL.out]; exact HB.out.2.2.1)
          have s3 : ∀ x : HeldW (fun W => Below w6.heap.size w6 W), x.w.cell? ⟨w3.heap.size, d, none⟩ = some (.int .u32 (bvi (gt (dsteps (rnds (stateL key counter nonce) k) m) d))) := fun x => (K5.later x.out).cellv d (by rw [HL.out]; exact HB.out.2.2.2)
          have ia : (a : Int) < 16 := by have := HB.out.1; omega
          have ib : (b : Int) < 16 := by have := HB.out.2.1; omega
          have ic : (c : Int) < 16 := by have := HB.out.2.2.1; omega
          have id : (d : Int) < 16 := by have := HB.out.2.2.2; omega
          go_cut [12] from 34 to 53 (fun q W => ∃ g, q = .pointer (some ⟨g, 0, none⟩) ∧ w6.heap.size ≤ g ∧ Below w6.heap.size w6 W ∧ Blk W g (vals .u32 (qrL (gt (dsteps (rnds (stateL key counter nonce) k) m) a) (gt (dsteps (rnds (stateL key counter nonce) k) m) b) (gt (dsteps (rnds (stateL key counter nonce) k) m) c) (gt (dsteps (rnds (stateL key counter nonce) k) m) d))) 32)
          case first =>
            refine wp_region_mix (calms 0 17 (.two 17 (.one 18 (.one 19 .done)) 18 (.one 17 (.one 19 .done)))) (fun W => Below w6.heap.size w6 W) (by kernel_rfl) (by kernel_rfl) (Below.refl _ _).drew ?_
            intro hne
            iterate 17 (refine wpMix_pure (by simp only [List.getElem?_toArray, List.getElem?_cons_succ, List.getElem?_cons_zero]; rfl) ?_; intro K hK; go_big_quiet_op; go_big_quiet_on)
            refine wpMix_two ?_ ?_
            · refine wpMix_eff (by simp only [List.getElem?_toArray, List.getElem?_cons_succ, List.getElem?_cons_zero]; rfl) ?_; intro K hK
              go_wp2_with (go_at_call 34; refine (quarter_any _ _ _ _ _).mono ?_; rintro e w7 ⟨rfl, hq⟩)
              replace hq : Below w6.heap.size w6 w7 := (Below.refl _ _).drew.trans hq
              refine ⟨hq, ?_⟩
              refine wpMix_eff (by simp only [List.getElem?_toArray, List.getElem?_cons_succ, List.getElem?_cons_zero]; rfl) ?_; intro K hK
              go_wp2_with fail
              have hqs := hq.size
              refine ⟨(by have hsz := (hq).size; repeat (first | exact hq | refine Below.drew ?_ | refine below_drewN ?_ _ | refine Below.alloc ?_ (by first | (simp <;> fail) | (simp; omega) | omega) _ | refine Below.setCell ?_ (by first | (simp <;> fail) | (simp; omega) | omega) _ | refine below_setRow' ?_ (by first | (simp <;> fail) | (simp; omega) | omega) _)), ?_⟩
              refine wpMix_eff (by simp only [List.getElem?_toArray, List.getElem?_cons_succ, List.getElem?_cons_zero]; rfl) ?_; intro K hK
              refine wp_store_vals (k := .u32) _ _ _ rfl w7.heap.size (by simp [Act.eval]) (l := (qrL (gt (dsteps (rnds (stateL key counter nonce) k) m) a) (gt (dsteps (rnds (stateL key counter nonce) k) m) b) (gt (dsteps (rnds (stateL key counter nonce) k) m) c) (gt (dsteps (rnds (stateL key counter nonce) k) m) d))) (by simp [Act.eval]) (Blk.new w7 _ _ rfl) (by kernel_rfl) rfl rfl ?_
              refine hK _ _ ⟨below_setRow' ((by have hsz := (hq).size; repeat (first | exact hq | refine Below.drew ?_ | refine below_drewN ?_ _ | refine Below.alloc ?_ (by first | (simp <;> fail) | (simp; omega) | omega) _ | refine Below.setCell ?_ (by first | (simp <;> fail) | (simp; omega) | omega) _ | refine below_setRow' ?_ (by first | (simp <;> fail) | (simp; omega) | omega) _))) hqs _, ?_⟩
              refine wpMix_done ?_
              go_wp2_with fail
              go_meet
              exact ⟨_, rfl, hqs, below_setRow' ((by have hsz := (hq).size; repeat (first | exact hq | refine Below.drew ?_ | refine below_drewN ?_ _ | refine Below.alloc ?_ (by first | (simp <;> fail) | (simp; omega) | omega) _ | refine Below.setCell ?_ (by first | (simp <;> fail) | (simp; omega) | omega) _ | refine below_setRow' ?_ (by first | (simp <;> fail) | (simp; omega) | omega) _))) hqs _, (Blk.new w7 _ _ rfl).row _⟩
            · refine wpMix_eff (by simp only [List.getElem?_toArray, List.getElem?_cons_succ, List.getElem?_cons_zero]; rfl) ?_; intro K hK
              go_wp2_with fail
              refine ⟨(by have hsz := ((Below.refl w6.heap.size w6)).size; repeat (first | exact (Below.refl w6.heap.size w6) | refine Below.drew ?_ | refine below_drewN ?_ _ | refine Below.alloc ?_ (by first | (simp <;> fail) | (simp; omega) | omega) _ | refine Below.setCell ?_ (by first | (simp <;> fail) | (simp; omega) | omega) _ | refine below_setRow' ?_ (by first | (simp <;> fail) | (simp; omega) | omega) _)), ?_⟩
              refine wpMix_eff (by simp only [List.getElem?_toArray, List.getElem?_cons_succ, List.getElem?_cons_zero]; rfl) ?_; intro K hK
              go_wp2_with (go_at_call 34; refine (quarter_any _ _ _ _ _).mono ?_; rintro e w7 ⟨rfl, hq⟩)
              refine ⟨(((Below.refl w6.heap.size w6).alloc (Nat.le_refl _) _).drew).trans (hq.mono (by simp)), ?_⟩
              have hqs := hq.size
              have hqn := (Blk.new w6 #[Value.int IntKind.u32 0, Value.int IntKind.u32 0, Value.int IntKind.u32 0, Value.int IntKind.u32 0] 32 rfl).drew.later hq
              have hqb := (show Below w6.heap.size w6 w7 from (((Below.refl w6.heap.size w6).alloc (Nat.le_refl _) _).drew).trans (hq.mono (by simp)))
              refine wpMix_eff (by simp only [List.getElem?_toArray, List.getElem?_cons_succ, List.getElem?_cons_zero]; rfl) ?_; intro K hK
              refine wp_store_vals (k := .u32) _ _ _ rfl w6.heap.size (by simp [Act.eval]) (l := (qrL (gt (dsteps (rnds (stateL key counter nonce) k) m) a) (gt (dsteps (rnds (stateL key counter nonce) k) m) b) (gt (dsteps (rnds (stateL key counter nonce) k) m) c) (gt (dsteps (rnds (stateL key counter nonce) k) m) d))) (by simp [Act.eval]) hqn (by kernel_rfl) rfl rfl ?_
              refine hK _ _ ⟨below_setRow' hqb (Nat.le_refl _) _, ?_⟩
              refine wpMix_done ?_
              go_wp2_with fail
              go_meet
              exact ⟨_, rfl, Nat.le_refl _, below_setRow' hqb (Nat.le_refl _) _, hqn.row _⟩
          case rest =>
            obtain ⟨g, rfl, hg, hb6, K8⟩ := hcut
            clear p0 p1 p2 p3 s0 s1 s2 s3
            replace hb := hb.trans (hb6.mono hb.size)
            replace K3 := K3.later hb6
            replace K4 := K4.later hb6
            replace K6 := K6.later hb6
            replace K7 := K7.later hb6
            obtain ⟨QL, hQL⟩ : ∃ QL, Hid (QL = (qrL (gt (dsteps (rnds (stateL key counter nonce) k) m) a) (gt (dsteps (rnds (stateL key counter nonce) k) m) b) (gt (dsteps (rnds (stateL key counter nonce) k) m) c) (gt (dsteps (rnds (stateL key counter nonce) k) m) d))) := ⟨_, rfl⟩
            have HQ := Lib.hid (show QL.length = 4 by rw [hQL.out]; rfl)
            rw [← hQL.out] at K8
            have hgs := Lib.hid (show wr.heap.size < g from Nat.lt_of_lt_of_le l7 hg)
            have K5lt := K5.lt
            have K5ne : w3.heap.size ≠ g := by omega
            have K5ne2 : w3.heap.size ≠ wr.heap.size := by have := hB2.out; omega
            have K5ne3 : w3.heap.size ≠ w4.heap.size := by have := hB2.out; omega
            replace K5 := K5.later hb6
            clear hb6 hg l7 b7 K5lt
            go_upto_region 10 with (fail)
            have p0 : ∀ x : HeldW (fun W => Blk W wr.heap.size #[.int .i64 (a : Int), .int .i64 (b : Int), .int .i64 (c : Int), .int .i64 (d : Int)] 53 ∧ Blk W g (vals .u32 QL) 32), x.w.cell? ⟨wr.heap.size, 0, none⟩ = some (.int .i64 (a : Int)) := fun x => x.out.1.cell 0
            have p1 : ∀ x : HeldW (fun W => Blk W wr.heap.size #[.int .i64 (a : Int), .int .i64 (b : Int), .int .i64 (c : Int), .int .i64 (d : Int)] 53 ∧ Blk W g (vals .u32 QL) 32), x.w.cell? ⟨wr.heap.size, 1, none⟩ = some (.int .i64 (b : Int)) := fun x => x.out.1.cell 1
            have p2 : ∀ x : HeldW (fun W => Blk W wr.heap.size #[.int .i64 (a : Int), .int .i64 (b : Int), .int .i64 (c : Int), .int .i64 (d : Int)] 53 ∧ Blk W g (vals .u32 QL) 32), x.w.cell? ⟨wr.heap.size, 2, none⟩ = some (.int .i64 (c : Int)) := fun x => x.out.1.cell 2
            have p3 : ∀ x : HeldW (fun W => Blk W wr.heap.size #[.int .i64 (a : Int), .int .i64 (b : Int), .int .i64 (c : Int), .int .i64 (d : Int)] 53 ∧ Blk W g (vals .u32 QL) 32), x.w.cell? ⟨wr.heap.size, 3, none⟩ = some (.int .i64 (d : Int)) := fun x => x.out.1.cell 3
            have s0 : ∀ x : HeldW (fun W => Blk W wr.heap.size #[.int .i64 (a : Int), .int .i64 (b : Int), .int .i64 (c : Int), .int .i64 (d : Int)] 53 ∧ Blk W g (vals .u32 QL) 32), x.w.cell? ⟨g, 0, none⟩ = some (.int .u32 (bvi (gt QL 0))) := fun x => x.out.2.cellv 0 (by rw [HQ.out]; omega)
            have s1 : ∀ x : HeldW (fun W => Blk W wr.heap.size #[.int .i64 (a : Int), .int .i64 (b : Int), .int .i64 (c : Int), .int .i64 (d : Int)] 53 ∧ Blk W g (vals .u32 QL) 32), x.w.cell? ⟨g, 1, none⟩ = some (.int .u32 (bvi (gt QL 1))) := fun x => x.out.2.cellv 1 (by rw [HQ.out]; omega)
            have s2 : ∀ x : HeldW (fun W => Blk W wr.heap.size #[.int .i64 (a : Int), .int .i64 (b : Int), .int .i64 (c : Int), .int .i64 (d : Int)] 53 ∧ Blk W g (vals .u32 QL) 32), x.w.cell? ⟨g, 2, none⟩ = some (.int .u32 (bvi (gt QL 2))) := fun x => x.out.2.cellv 2 (by rw [HQ.out]; omega)
            have s3 : ∀ x : HeldW (fun W => Blk W wr.heap.size #[.int .i64 (a : Int), .int .i64 (b : Int), .int .i64 (c : Int), .int .i64 (d : Int)] 53 ∧ Blk W g (vals .u32 QL) 32), x.w.cell? ⟨g, 3, none⟩ = some (.int .u32 (bvi (gt QL 3))) := fun x => x.out.2.cellv 3 (by rw [HQ.out]; omega)
            refine wp_region_mix (calms 0 17 (.one 17 (.calm 18 (.one 19 (.calm 20 (.one 21 (.calm 22 (.one 23 .done)))))))) (fun W => Blk W wr.heap.size #[.int .i64 (a : Int), .int .i64 (b : Int), .int .i64 (c : Int), .int .i64 (d : Int)] 53 ∧ Blk W g (vals .u32 QL) 32) (by kernel_rfl) (by kernel_rfl) ⟨K7.drew, K8.drew⟩ ?_
            intro hne
            iterate 17 (refine wpMix_pure (by simp only [List.getElem?_toArray, List.getElem?_cons_succ, List.getElem?_cons_zero]; rfl) ?_; intro K hK; go_big_quiet_op; go_big_quiet_on)
            have d0 := K5.cellv a (by rw [HL.out]; have := HB.out; omega)
            have f0 := K5.frozen a
            refine wpMix_eff (by simp only [List.getElem?_toArray, List.getElem?_cons_succ, List.getElem?_cons_zero]; rfl) ?_; intro K hK
            go_wp2_with fail
            clear d0 f0
            refine ⟨⟨(by repeat (first | exact K7 | refine Blk.drew ?_ | refine Blk.drewN ?_ _ | refine Blk.alloc ?_ _ | refine Blk.other ?_ _ _ (by first | (simp <;> fail) | (simp; omega) | omega) | refine Blk.rowOther ?_ _ _ (by first | (simp <;> fail) | (simp; omega) | omega))), (by repeat (first | exact K8 | refine Blk.drew ?_ | refine Blk.drewN ?_ _ | refine Blk.alloc ?_ _ | refine Blk.other ?_ _ _ (by first | (simp <;> fail) | (simp; omega) | omega) | refine Blk.rowOther ?_ _ _ (by first | (simp <;> fail) | (simp; omega) | omega)))⟩, ?_⟩
            have qa := hB0.out
            have qb := hB1.out
            have qc := hB2.out
            refine wpMix_forget (fun W => Below w.heap.size w W ∧ Blk W (w.heap.size + 1 + 1) (vals .u8 (List.replicate 64 0#8)) 39 ∧ Blk W w2.heap.size (vals .u32 (stateL key counter nonce)) 37 ∧ Blk W w4.heap.size placesV 109 ∧ Blk W wr.heap.size #[.int .i64 (a : Int), .int .i64 (b : Int), .int .i64 (c : Int), .int .i64 (d : Int)] 53 ∧ Blk W g (vals .u32 QL) 32 ∧ Blk W w3.heap.size (vals .u32 (((dsteps (rnds (stateL key counter nonce) k) m)).set a (gt QL 0))) 37) ⟨(by have hsz := (hb).size; repeat (first | exact hb | refine Below.drew ?_ | refine below_drewN ?_ _ | refine Below.alloc ?_ (by first | (simp <;> fail) | (simp; omega) | omega) _ | refine Below.setCell ?_ (by first | (simp <;> fail) | (simp; omega) | omega) _ | refine below_setRow' ?_ (by first | (simp <;> fail) | (simp; omega) | omega) _)), (by repeat (first | exact K3 | refine Blk.drew ?_ | refine Blk.drewN ?_ _ | refine Blk.alloc ?_ _ | refine Blk.other ?_ _ _ (by first | (simp <;> fail) | (simp; omega) | omega) | refine Blk.rowOther ?_ _ _ (by first | (simp <;> fail) | (simp; omega) | omega))), (by repeat (first | exact K4 | refine Blk.drew ?_ | refine Blk.drewN ?_ _ | refine Blk.alloc ?_ _ | refine Blk.other ?_ _ _ (by first | (simp <;> fail) | (simp; omega) | omega) | refine Blk.rowOther ?_ _ _ (by first | (simp <;> fail) | (simp; omega) | omega))), (by repeat (first | exact K6 | refine Blk.drew ?_ | refine Blk.drewN ?_ _ | refine Blk.alloc ?_ _ | refine Blk.other ?_ _ _ (by first | (simp <;> fail) | (simp; omega) | omega) | refine Blk.rowOther ?_ _ _ (by first | (simp <;> fail) | (simp; omega) | omega))), (by repeat (first | exact K7 | refine Blk.drew ?_ | refine Blk.drewN ?_ _ | refine Blk.alloc ?_ _ | refine Blk.other ?_ _ _ (by first | (simp <;> fail) | (simp; omega) | omega) | refine Blk.rowOther ?_ _ _ (by first | (simp <;> fail) | (simp; omega) | omega))), (by repeat (first | exact K8 | refine Blk.drew ?_ | refine Blk.drewN ?_ _ | refine Blk.alloc ?_ _ | refine Blk.other ?_ _ _ (by first | (simp <;> fail) | (simp; omega) | omega) | refine Blk.rowOther ?_ _ _ (by first | (simp <;> fail) | (simp; omega) | omega))), (by repeat (first | exact K5 | refine Blk.drew ?_ | refine Blk.drewN ?_ _ | refine Blk.alloc ?_ _ | refine Blk.setv ?_ _ _ | refine Blk.other ?_ _ _ (by first | (simp <;> fail) | (simp; omega) | omega) | refine Blk.rowOther ?_ _ _ (by first | (simp <;> fail) | (simp; omega) | omega)))⟩ ?_
            clear hb K3 K4 K5 K6 K7 K8 qa qb qc
            rintro wz ⟨hb, K3, K4, K6, K7, K8, K5⟩
            iterate 1 (refine wpMix_pure (by simp only [List.getElem?_toArray, List.getElem?_cons_succ, List.getElem?_cons_zero]; rfl) ?_; intro K hK; go_big_quiet_op; go_big_quiet_on)
            have d0 := K5.cellv b (by simp only [List.length_set, HL.out]; have := HB.out; omega)
            have f0 := K5.frozen b
            refine wpMix_eff (by simp only [List.getElem?_toArray, List.getElem?_cons_succ, List.getElem?_cons_zero]; rfl) ?_; intro K hK
            go_wp2_with fail
            clear d0 f0
            refine ⟨⟨(by repeat (first | exact K7 | refine Blk.drew ?_ | refine Blk.drewN ?_ _ | refine Blk.alloc ?_ _ | refine Blk.other ?_ _ _ (by first | (simp <;> fail) | (simp; omega) | omega) | refine Blk.rowOther ?_ _ _ (by first | (simp <;> fail) | (simp; omega) | omega))), (by repeat (first | exact K8 | refine Blk.drew ?_ | refine Blk.drewN ?_ _ | refine Blk.alloc ?_ _ | refine Blk.other ?_ _ _ (by first | (simp <;> fail) | (simp; omega) | omega) | refine Blk.rowOther ?_ _ _ (by first | (simp <;> fail) | (simp; omega) | omega)))⟩, ?_⟩
            have qa := hB0.out
            have qb := hB1.out
            have qc := hB2.out
            refine wpMix_forget (fun W => Below w.heap.size w W ∧ Blk W (w.heap.size + 1 + 1) (vals .u8 (List.replicate 64 0#8)) 39 ∧ Blk W w2.heap.size (vals .u32 (stateL key counter nonce)) 37 ∧ Blk W w4.heap.size placesV 109 ∧ Blk W wr.heap.size #[.int .i64 (a : Int), .int .i64 (b : Int), .int .i64 (c : Int), .int .i64 (d : Int)] 53 ∧ Blk W g (vals .u32 QL) 32 ∧ Blk W w3.heap.size (vals .u32 ((((dsteps (rnds (stateL key counter nonce) k) m)).set a (gt QL 0)).set b (gt QL 1))) 37) ⟨(by have hsz := (hb).size; repeat (first | exact hb | refine Below.drew ?_ | refine below_drewN ?_ _ | refine Below.alloc ?_ (by first | (simp <;> fail) | (simp; omega) | omega) _ | refine Below.setCell ?_ (by first | (simp <;> fail) | (simp; omega) | omega) _ | refine below_setRow' ?_ (by first | (simp <;> fail) | (simp; omega) | omega) _)), (by repeat (first | exact K3 | refine Blk.drew ?_ | refine Blk.drewN ?_ _ | refine Blk.alloc ?_ _ | refine Blk.other ?_ _ _ (by first | (simp <;> fail) | (simp; omega) | omega) | refine Blk.rowOther ?_ _ _ (by first | (simp <;> fail) | (simp; omega) | omega))), (by repeat (first | exact K4 | refine Blk.drew ?_ | refine Blk.drewN ?_ _ | refine Blk.alloc ?_ _ | refine Blk.other ?_ _ _ (by first | (simp <;> fail) | (simp; omega) | omega) | refine Blk.rowOther ?_ _ _ (by first | (simp <;> fail) | (simp; omega) | omega))), (by repeat (first | exact K6 | refine Blk.drew ?_ | refine Blk.drewN ?_ _ | refine Blk.alloc ?_ _ | refine Blk.other ?_ _ _ (by first | (simp <;> fail) | (simp; omega) | omega) | refine Blk.rowOther ?_ _ _ (by first | (simp <;> fail) | (simp; omega) | omega))), (by repeat (first | exact K7 | refine Blk.drew ?_ | refine Blk.drewN ?_ _ | refine Blk.alloc ?_ _ | refine Blk.other ?_ _ _ (by first | (simp <;> fail) | (simp; omega) | omega) | refine Blk.rowOther ?_ _ _ (by first | (simp <;> fail) | (simp; omega) | omega))), (by repeat (first | exact K8 | refine Blk.drew ?_ | refine Blk.drewN ?_ _ | refine Blk.alloc ?_ _ | refine Blk.other ?_ _ _ (by first | (simp <;> fail) | (simp; omega) | omega) | refine Blk.rowOther ?_ _ _ (by first | (simp <;> fail) | (simp; omega) | omega))), (by repeat (first | exact K5 | refine Blk.drew ?_ | refine Blk.drewN ?_ _ | refine Blk.alloc ?_ _ | refine Blk.setv ?_ _ _ | refine Blk.other ?_ _ _ (by first | (simp <;> fail) | (simp; omega) | omega) | refine Blk.rowOther ?_ _ _ (by first | (simp <;> fail) | (simp; omega) | omega)))⟩ ?_
            clear hb K3 K4 K5 K6 K7 K8 qa qb qc
            rintro wz ⟨hb, K3, K4, K6, K7, K8, K5⟩
            iterate 1 (refine wpMix_pure (by simp only [List.getElem?_toArray, List.getElem?_cons_succ, List.getElem?_cons_zero]; rfl) ?_; intro K hK; go_big_quiet_op; go_big_quiet_on)
            have d0 := K5.cellv c (by simp only [List.length_set, HL.out]; have := HB.out; omega)
            have f0 := K5.frozen c
            refine wpMix_eff (by simp only [List.getElem?_toArray, List.getElem?_cons_succ, List.getElem?_cons_zero]; rfl) ?_; intro K hK
            go_wp2_with fail
            clear d0 f0
            refine ⟨⟨(by repeat (first | exact K7 | refine Blk.drew ?_ | refine Blk.drewN ?_ _ | refine Blk.alloc ?_ _ | refine Blk.other ?_ _ _ (by first | (simp <;> fail) | (simp; omega) | omega) | refine Blk.rowOther ?_ _ _ (by first | (simp <;> fail) | (simp; omega) | omega))), (by repeat (first | exact K8 | refine Blk.drew ?_ | refine Blk.drewN ?_ _ | refine Blk.alloc ?_ _ | refine Blk.other ?_ _ _ (by first | (simp <;> fail) | (simp; omega) | omega) | refine Blk.rowOther ?_ _ _ (by first | (simp <;> fail) | (simp; omega) | omega)))⟩, ?_⟩
            have qa := hB0.out
            have qb := hB1.out
            have qc := hB2.out
            refine wpMix_forget (fun W => Below w.heap.size w W ∧ Blk W (w.heap.size + 1 + 1) (vals .u8 (List.replicate 64 0#8)) 39 ∧ Blk W w2.heap.size (vals .u32 (stateL key counter nonce)) 37 ∧ Blk W w4.heap.size placesV 109 ∧ Blk W wr.heap.size #[.int .i64 (a : Int), .int .i64 (b : Int), .int .i64 (c : Int), .int .i64 (d : Int)] 53 ∧ Blk W g (vals .u32 QL) 32 ∧ Blk W w3.heap.size (vals .u32 (((((dsteps (rnds (stateL key counter nonce) k) m)).set a (gt QL 0)).set b (gt QL 1)).set c (gt QL 2))) 37) ⟨(by have hsz := (hb).size; repeat (first | exact hb | refine Below.drew ?_ | refine below_drewN ?_ _ | refine Below.alloc ?_ (by first | (simp <;> fail) | (simp; omega) | omega) _ | refine Below.setCell ?_ (by first | (simp <;> fail) | (simp; omega) | omega) _ | refine below_setRow' ?_ (by first | (simp <;> fail) | (simp; omega) | omega) _)), (by repeat (first | exact K3 | refine Blk.drew ?_ | refine Blk.drewN ?_ _ | refine Blk.alloc ?_ _ | refine Blk.other ?_ _ _ (by first | (simp <;> fail) | (simp; omega) | omega) | refine Blk.rowOther ?_ _ _ (by first | (simp <;> fail) | (simp; omega) | omega))), (by repeat (first | exact K4 | refine Blk.drew ?_ | refine Blk.drewN ?_ _ | refine Blk.alloc ?_ _ | refine Blk.other ?_ _ _ (by first | (simp <;> fail) | (simp; omega) | omega) | refine Blk.rowOther ?_ _ _ (by first | (simp <;> fail) | (simp; omega) | omega))), (by repeat (first | exact K6 | refine Blk.drew ?_ | refine Blk.drewN ?_ _ | refine Blk.alloc ?_ _ | refine Blk.other ?_ _ _ (by first | (simp <;> fail) | (simp; omega) | omega) | refine Blk.rowOther ?_ _ _ (by first | (simp <;> fail) | (simp; omega) | omega))), (by repeat (first | exact K7 | refine Blk.drew ?_ | refine Blk.drewN ?_ _ | refine Blk.alloc ?_ _ | refine Blk.other ?_ _ _ (by first | (simp <;> fail) | (simp; omega) | omega) | refine Blk.rowOther ?_ _ _ (by first | (simp <;> fail) | (simp; omega) | omega))), (by repeat (first | exact K8 | refine Blk.drew ?_ | refine Blk.drewN ?_ _ | refine Blk.alloc ?_ _ | refine Blk.other ?_ _ _ (by first | (simp <;> fail) | (simp; omega) | omega) | refine Blk.rowOther ?_ _ _ (by first | (simp <;> fail) | (simp; omega) | omega))), (by repeat (first | exact K5 | refine Blk.drew ?_ | refine Blk.drewN ?_ _ | refine Blk.alloc ?_ _ | refine Blk.setv ?_ _ _ | refine Blk.other ?_ _ _ (by first | (simp <;> fail) | (simp; omega) | omega) | refine Blk.rowOther ?_ _ _ (by first | (simp <;> fail) | (simp; omega) | omega)))⟩ ?_
            clear hb K3 K4 K5 K6 K7 K8 qa qb qc
            rintro wz ⟨hb, K3, K4, K6, K7, K8, K5⟩
            iterate 1 (refine wpMix_pure (by simp only [List.getElem?_toArray, List.getElem?_cons_succ, List.getElem?_cons_zero]; rfl) ?_; intro K hK; go_big_quiet_op; go_big_quiet_on)
            have d0 := K5.cellv d (by simp only [List.length_set, HL.out]; have := HB.out; omega)
            have f0 := K5.frozen d
            refine wpMix_eff (by simp only [List.getElem?_toArray, List.getElem?_cons_succ, List.getElem?_cons_zero]; rfl) ?_; intro K hK
            go_wp2_with fail
            clear d0 f0
            refine ⟨⟨(by repeat (first | exact K7 | refine Blk.drew ?_ | refine Blk.drewN ?_ _ | refine Blk.alloc ?_ _ | refine Blk.other ?_ _ _ (by first | (simp <;> fail) | (simp; omega) | omega) | refine Blk.rowOther ?_ _ _ (by first | (simp <;> fail) | (simp; omega) | omega))), (by repeat (first | exact K8 | refine Blk.drew ?_ | refine Blk.drewN ?_ _ | refine Blk.alloc ?_ _ | refine Blk.other ?_ _ _ (by first | (simp <;> fail) | (simp; omega) | omega) | refine Blk.rowOther ?_ _ _ (by first | (simp <;> fail) | (simp; omega) | omega)))⟩, ?_⟩
            have qa := hB0.out
            have qb := hB1.out
            have qc := hB2.out
            refine wpMix_forget (fun W => Below w.heap.size w W ∧ Blk W (w.heap.size + 1 + 1) (vals .u8 (List.replicate 64 0#8)) 39 ∧ Blk W w2.heap.size (vals .u32 (stateL key counter nonce)) 37 ∧ Blk W w4.heap.size placesV 109 ∧ Blk W wr.heap.size #[.int .i64 (a : Int), .int .i64 (b : Int), .int .i64 (c : Int), .int .i64 (d : Int)] 53 ∧ Blk W g (vals .u32 QL) 32 ∧ Blk W w3.heap.size (vals .u32 ((((((dsteps (rnds (stateL key counter nonce) k) m)).set a (gt QL 0)).set b (gt QL 1)).set c (gt QL 2)).set d (gt QL 3))) 37) ⟨(by have hsz := (hb).size; repeat (first | exact hb | refine Below.drew ?_ | refine below_drewN ?_ _ | refine Below.alloc ?_ (by first | (simp <;> fail) | (simp; omega) | omega) _ | refine Below.setCell ?_ (by first | (simp <;> fail) | (simp; omega) | omega) _ | refine below_setRow' ?_ (by first | (simp <;> fail) | (simp; omega) | omega) _)), (by repeat (first | exact K3 | refine Blk.drew ?_ | refine Blk.drewN ?_ _ | refine Blk.alloc ?_ _ | refine Blk.other ?_ _ _ (by first | (simp <;> fail) | (simp; omega) | omega) | refine Blk.rowOther ?_ _ _ (by first | (simp <;> fail) | (simp; omega) | omega))), (by repeat (first | exact K4 | refine Blk.drew ?_ | refine Blk.drewN ?_ _ | refine Blk.alloc ?_ _ | refine Blk.other ?_ _ _ (by first | (simp <;> fail) | (simp; omega) | omega) | refine Blk.rowOther ?_ _ _ (by first | (simp <;> fail) | (simp; omega) | omega))), (by repeat (first | exact K6 | refine Blk.drew ?_ | refine Blk.drewN ?_ _ | refine Blk.alloc ?_ _ | refine Blk.other ?_ _ _ (by first | (simp <;> fail) | (simp; omega) | omega) | refine Blk.rowOther ?_ _ _ (by first | (simp <;> fail) | (simp; omega) | omega))), (by repeat (first | exact K7 | refine Blk.drew ?_ | refine Blk.drewN ?_ _ | refine Blk.alloc ?_ _ | refine Blk.other ?_ _ _ (by first | (simp <;> fail) | (simp; omega) | omega) | refine Blk.rowOther ?_ _ _ (by first | (simp <;> fail) | (simp; omega) | omega))), (by repeat (first | exact K8 | refine Blk.drew ?_ | refine Blk.drewN ?_ _ | refine Blk.alloc ?_ _ | refine Blk.other ?_ _ _ (by first | (simp <;> fail) | (simp; omega) | omega) | refine Blk.rowOther ?_ _ _ (by first | (simp <;> fail) | (simp; omega) | omega))), (by repeat (first | exact K5 | refine Blk.drew ?_ | refine Blk.drewN ?_ _ | refine Blk.alloc ?_ _ | refine Blk.setv ?_ _ _ | refine Blk.other ?_ _ _ (by first | (simp <;> fail) | (simp; omega) | omega) | refine Blk.rowOther ?_ _ _ (by first | (simp <;> fail) | (simp; omega) | omega)))⟩ ?_
            clear hb K3 K4 K5 K6 K7 K8 qa qb qc
            rintro wz ⟨hb, K3, K4, K6, K7, K8, K5⟩
            refine wpMix_done ?_
            clear p0 p1 p2 p3 s0 s1 s2 s3
            go_wp2_with fail
            go_roundw
            case rel =>
              have K9 : Blk wz w3.heap.size (vals .u32 (dsteps (rnds (stateL key counter nonce) k) (m + 1))) 37 := by
                rw [dsteps, ← ha.out, ← hb'.out, ← hc.out, ← hd.out]; unfold qat; rw [← hQL.out]; exact K5
              exact ⟨m + 1, by omega, by go_num, hb, K3, K4, K9, K6⟩
            case measure => simp [intOf]; omega
        · obtain rfl : m = 8 := by omega
          clear hlm hm
          rw [show ((8 : Nat) : Int) = 8 from rfl]
          go_wp2_with fail
          go_roundw
          case rel => exact ⟨k + 1, by omega, by go_num, hb, K3, K4, K5, K6⟩
          case measure => simp [intOf]; omega
    · obtain rfl : k = 10 := by omega
      clear hlt hk
      rw [show ((10 : Nat) : Int) = 10 from rfl]
      obtain ⟨S0, hS0⟩ : ∃ S0, Hid (S0 = stateL key counter nonce) := ⟨_, rfl⟩
      have HR := Lib.hid (show (rnds (stateL key counter nonce) 10).length = 16 from (rnds_length _ _).trans HS.out)
      rw [← hS0.out] at HS HR K4 K5
      obtain ⟨R0, hR0⟩ : ∃ R0, Hid (R0 = rnds S0 10) := ⟨_, rfl⟩
      rw [← hR0.out] at HR K5
      go_upto_region 15 with (refine wpList_load_vals rfl _ _ rfl _ rfl (K5.alloc _) Try.underlying37 (by kernel_rfl) HR.out ?_)
      obtain ⟨wo, rfl⟩ : ∃ wo : World, wo = wr := ⟨_, rfl⟩
      have HD := Lib.hid (show w.heap.size + 1 + 1 < w2.heap.size ∧ w2.heap.size < wo.heap.size from ⟨hB0.out, K4.lt⟩)
      refine wp_forget (fun W => Below w.heap.size w W ∧ Blk W (w.heap.size + 1 + 1) (vals .u8 (List.replicate 64 0#8)) 39 ∧ Blk W w2.heap.size (vals .u32 S0) 37 ∧ Blk W wo.heap.size (vals .u8 (fillL (blockByte S0) 0 (List.replicate 64 0#8) (4 * 0))) 39)
        ⟨(by have hsz := (hb).size; repeat (first | exact hb | refine Below.drew ?_ | refine below_drewN ?_ _ | refine Below.alloc ?_ (by first | (simp <;> fail) | (simp; omega) | omega) _ | refine Below.setCell ?_ (by first | (simp <;> fail) | (simp; omega) | omega) _ | refine below_setRow' ?_ (by first | (simp <;> fail) | (simp; omega) | omega) _)), (by repeat (first | exact K3 | refine Blk.drew ?_ | refine Blk.drewN ?_ _ | refine Blk.alloc ?_ _ | refine Blk.other ?_ _ _ (by first | (simp <;> fail) | (simp; omega) | omega) | refine Blk.rowOther ?_ _ _ (by first | (simp <;> fail) | (simp; omega) | omega))), (by repeat (first | exact K4 | refine Blk.drew ?_ | refine Blk.drewN ?_ _ | refine Blk.alloc ?_ _ | refine Blk.other ?_ _ _ (by first | (simp <;> fail) | (simp; omega) | omega) | refine Blk.rowOther ?_ _ _ (by first | (simp <;> fail) | (simp; omega) | omega))), Blk.new _ _ _ (by simp)⟩ ?_
      clear hb K3 K4 K5 K6
      rintro w6 ⟨hb, K3, K4, K7⟩
      go_loopw [77, 14, 15] (fun i _ _ wr => ∃ k : Nat, k ≤ 16 ∧ i = .int .i64 k ∧ Below w.heap.size w wr ∧ Blk wr (w.heap.size + 1 + 1) (vals .u8 (List.replicate 64 0#8)) 39 ∧ Blk wr w2.heap.size (vals .u32 S0) 37 ∧ Blk wr wo.heap.size (vals .u8 (fillL (blockByte S0) 0 (List.replicate 64 0#8) (4 * k))) 39)
        (fun i _ _ _ => 16 - (intOf i).toNat)
      case atStart => exact ⟨0, by omega, rfl, hb, K3, K4, K7⟩
      case round =>
        clear hb K3 K4 K7
        obtain ⟨k, hk, rfl, hb, K3, K4, K7⟩ := hrel
        by_cases hlt : k < 16
        · have hx : ∀ W, (Instr.index 37 (.agg (vals .u32 R0)) (.int .i64 (k : Int))).run Try.prog W = .ok (.int .u32 (bvi (gt R0 k))) W := fun W => run_index_vals W Try.underlying37 (by kernel_rfl) Try.underlying22 R0 k hlt HR.out
          have c0 := K4.cellv k (by rw [HS.out]; exact hlt)
          have hl : (fillL (blockByte S0) 0 (List.replicate 64 0#8) (4 * k)).length = 64 := by rw [fillL_length]; simp
          have d0 := K7.cellv (4 * k) (by rw [hl]; omega)
          have d1 := K7.cellv (4 * k + 1) (by rw [hl]; omega)
          have d2 := K7.cellv (4 * k + 2) (by rw [hl]; omega)
          have d3 := K7.cellv (4 * k + 3) (by rw [hl]; omega)
          have f0 := K7.frozen (4 * k)
          have f1 := K7.frozen (4 * k + 1)
          have f2 := K7.frozen (4 * k + 2)
          have f3 := K7.frozen (4 * k + 3)
          have z0 : 0 ≤ 4 * (k : Int) := by omega
          have z1 : 0 ≤ 4 * (k : Int) + 1 := by omega
          have z2 : 0 ≤ 4 * (k : Int) + 2 := by omega
          have z3 : 0 ≤ 4 * (k : Int) + 3 := by omega
          have n0 : 4 * (k : Int) < 64 := by omega
          have n1 : 4 * (k : Int) + 1 < 64 := by omega
          have n2 : 4 * (k : Int) + 2 < 64 := by omega
          have n3 : 4 * (k : Int) + 3 < 64 := by omega
          have y0 : (4 * (k : Int)).toNat = 4 * k := by omega
          have y1 : (4 * (k : Int) + 1).toNat = 4 * k + 1 := by omega
          have y2 : (4 * (k : Int) + 2).toNat = 4 * k + 2 := by omega
          have y3 : (4 * (k : Int) + 3).toNat = 4 * k + 3 := by omega
          clear hl
          go_wp2_with fail
          go_roundw
          case rel =>
            have q1 : w.heap.size ≤ wo.heap.size := by have := HD.out; omega
            have q2 : w.heap.size + 1 + 1 ≠ wo.heap.size := by have := HD.out; omega
            have q3 : w2.heap.size ≠ wo.heap.size := by have := HD.out; omega
            clear d0 d1 d2 d3 f0 f1 f2 f3 hx c0
            refine ⟨k + 1, by omega, by go_num, (((hb.setCell q1 _).setCell q1 _).setCell q1 _).setCell q1 _, (((K3.other _ _ q2).other _ _ q2).other _ _ q2).other _ _ q2, (((K4.other _ _ q3).other _ _ q3).other _ _ q3).other _ _ q3, ?_⟩
            rw [← block_fill S0 R0 _ k hR0.out]
            exact (((K7.setv _ _).setz _ (bvi_b1 _)).setz _ (bvi_b2 _)).setz _ (bvi_b3 _)
          case measure => simp [intOf]; omega
        · obtain rfl : k = 16 := by omega
          clear hlt hk
          rw [show ((16 : Nat) : Int) = 16 from rfl]
          have HF := Lib.hid (show (fillL (blockByte S0) 0 (List.replicate 64 0#8) (4 * 16)).length = 64 by rw [fillL_length]; simp)
          go_wp2_with (first | (refine wpList_load_vals rfl _ _ rfl _ rfl K7 Try.underlying39 (by kernel_rfl) HF.out ?_) | (refine wpList_store_vals rfl _ _ _ rfl _ rfl rfl K3 (by rw [HF.out]; kernel_rfl) (by rw [HF.out, vals_size]; simp) ?_))
          have hE : fillL (blockByte S0) 0 (List.replicate 64 0#8) (4 * 16) = blockL key counter nonce := by rw [hS0.out]; rfl
          rw [hE] at K7 ⊢
          refine bodyPost_vals rfl rfl (K3.row _) Try.underlying39 (by kernel_rfl) (blockL_length _ _ _) rfl ⟨rfl, below_setRow' hb (by omega) _⟩
end Go.Proofs.Ytikopoimoaddhaa
