/- Walks of the reference's number and State. No condition. -/
import Derived.Test.YtikopoimoaddhaaChaM1
import Derived.LoopN
import Derived.Test.YtikopoimoaddhaaMix
namespace Go.Proofs.Ytikopoimoaddhaa
open Go.RowKit
set_option maxRecDepth 100000

theorem num_le4 (x0 x1 x2 x3 : BitVec 8) : x3.setWidth 32 <<< 24 + x2.setWidth 32 <<< 16 + x1.setWidth 32 <<< 8 + x0.setWidth 32 = le4 x0 x1 x2 x3 := by
  apply BitVec.eq_of_toNat_eq
  rw [le4_toNat]
  have h0 := x0.isLt
  have h1 := x1.isLt
  have h2 := x2.isLt
  have h3 := x3.isLt
  simp only [BitVec.toNat_add, BitVec.toNat_shiftLeft, BitVec.toNat_setWidth, Nat.shiftLeft_eq]
  omega

theorem refNumber_any (b off len cap : Nat) (x0 x1 x2 x3 : BitVec 8) (w : World) (hlen : 4 ≤ len) (h0 : w.cell? ⟨b, off, none⟩ = some (.int .u8 (bvi x0)))
    (h1 : w.cell? ⟨b, off + 1, none⟩ = some (.int .u8 (bvi x1))) (h2 : w.cell? ⟨b, off + 2, none⟩ = some (.int .u8 (bvi x2))) (h3 : w.cell? ⟨b, off + 3, none⟩ = some (.int .u8 (bvi x3))) :
    Calls Try.prog 76 #[.slice (some ⟨b, off, none⟩) len cap] w fun e w' => e = .returned (.int .u32 (bvi (le4 x0 x1 x2 x3))) ∧ w = w' := by
  have g0 : (0 : Int) < len := by omega
  have g1 : (1 : Int) < len := by omega
  have g2 : (2 : Int) < len := by omega
  have g3 : (3 : Int) < len := by omega
  have hn := Lib.hid (num_le4 x0 x1 x2 x3)
  go_enter Try.func76, Try.ntmps76
  go_wp2
  refine wp_loop_rounds 5 ?_
  iterate 5 (rw [rounds_succ]; go_wp2)
  go_ret
  refine ⟨ret_eq (congrArg (Value.int .u32) ?_), rfl⟩
  rw [← hn.out]

def expand : List (BitVec 8) := [101, 120, 112, 97, 110, 100, 32, 51, 50, 45, 98, 121, 116, 101, 32, 107]
def rstate1 : Nat → List (BitVec 32) := fillL (fun i => le4at expand (4 * i)) 0 (List.replicate 16 0#32)
def rstate2 (key : List (BitVec 8)) : Nat → List (BitVec 32) := fillL (fun i => le4at key (4 * i)) 4 (rstate1 4)
def rstate3 (key : List (BitVec 8)) (counter : BitVec 32) (nonce : List (BitVec 8)) : Nat → List (BitVec 32) := fillL (fun i => le4at nonce (4 * i)) 13 ((rstate2 key 8).set 12 counter)
theorem rstate1_length (k : Nat) : (rstate1 k).length = 16 := by rw [rstate1, fillL_length]; simp
theorem rstate2_length (key : List (BitVec 8)) (k : Nat) : (rstate2 key k).length = 16 := by rw [rstate2, fillL_length, rstate1_length]
theorem rstate3_length (key : List (BitVec 8)) (counter : BitVec 32) (nonce : List (BitVec 8)) (k : Nat) : (rstate3 key counter nonce k).length = 16 := by rw [rstate3, fillL_length, List.length_set, rstate2_length]
theorem rstate1_all : rstate1 4 = [0x61707865#32, 0x3320646e#32, 0x79622d32#32, 0x6b206574#32, 0, 0, 0, 0, 0, 0, 0, 0, 0, 0, 0, 0] := by decide +kernel
/-- The reference comes to the same state. -/
theorem rstate_eq (key : List (BitVec 8)) (counter : BitVec 32) (nonce : List (BitVec 8)) : rstate3 key counter nonce 3 = stateL key counter nonce := by
  refine list_ext_gt (by rw [rstate3_length, stateL, stateN_length]) fun i hi => ?_
  rw [rstate3_length] at hi
  rw [rstate3, stateL, stateN, gt_fillL _ _ _ _ (by rw [List.length_set, rstate2_length]; omega), gt_fillL _ _ _ _ (by rw [stateK_length]; omega)]
  by_cases h1 : 13 ≤ i ∧ i < 13 + 3
  · rw [if_pos h1, if_pos h1]
  rw [if_neg h1, if_neg h1]
  by_cases h2 : i = 12
  · subst h2
    rw [gt_set_self _ _ _ (by rw [rstate2_length]; omega), stateK, gt_fillL _ _ _ _ (by simp [state0]), if_neg (by omega)]
    rfl
  rw [gt_set_ne _ _ _ _ (fun e => h2 e.symm), rstate2, stateK, gt_fillL _ _ _ _ (by rw [rstate1_length]; omega), gt_fillL _ _ _ _ (by simp [state0])]
  by_cases h3 : 4 ≤ i ∧ i < 4 + 8
  · rw [if_pos h3, if_pos h3]
  rw [if_neg h3, if_neg h3, rstate1_all]
  have : i < 4 := by omega
  match i, this with
  | 0, _ => rfl
  | 1, _ => rfl
  | 2, _ => rfl
  | 3, _ => rfl

def expandBytes : ByteArray := ⟨#[101, 120, 112, 97, 110, 100, 32, 51, 50, 45, 98, 121, 116, 101, 32, 107]⟩
theorem expand_txt : ∀ (k : Nat) (h : k < 16), ((expandBytes[k]'h).toNat : Int) = bvi (gt expand k) := by decide +kernel

theorem refState_any (key nonce : List (BitVec 8)) (counter : BitVec 32) (w : World) (hk : key.length = 32) (hn : nonce.length = 12) :
    Calls Try.prog 38 #[.agg (vals .u8 key), .int .u32 (bvi counter), .agg (vals .u8 nonce)] w fun e w' => e = .returned (.agg (vals .u32 (stateL key counter nonce))) ∧ Below w.heap.size w w' := by
  have HK := Lib.hid hk
  have HN := Lib.hid hn
  clear hk hn
  go_enter Try.func38, Try.ntmps38
  go_upto_region 2 with (fail)
  refine wp_forget (fun W => Below w.heap.size w W ∧ Blk W w.heap.size (vals .u8 key) 29 ∧ Blk W (w.heap.size + 1) (vals .u8 nonce) 36 ∧ Blk W (w.heap.size + 1 + 1) (vals .u32 (List.replicate 16 0#32)) 37 ∧ Blk W (w.heap.size + 1 + 1 + 1) (vals .u32 (rstate1 0)) 37)
    ⟨((((Below.refl _ _).alloc (Nat.le_refl _) _).alloc (by simp) _).alloc (by simp; omega) _).alloc (by simp; omega) _, (((Blk.new _ _ _ rfl).alloc _).alloc _).alloc _, ((Blk.new _ _ _ (by simp)).alloc _).alloc _, (Blk.new _ _ _ (by simp)).alloc _, Blk.new _ _ _ (by simp)⟩ ?_
  rintro w2 ⟨hb, K1, K2, K3, K4⟩
  go_wp2_with fail
  go_loopw [9] (fun i wr => ∃ k : Nat, k ≤ 4 ∧ i = .int .i64 k ∧ Below w.heap.size w wr ∧ Blk wr w.heap.size (vals .u8 key) 29 ∧ Blk wr (w.heap.size + 1) (vals .u8 nonce) 36 ∧ Blk wr (w.heap.size + 1 + 1) (vals .u32 (List.replicate 16 0#32)) 37 ∧ Blk wr (w.heap.size + 1 + 1 + 1) (vals .u32 (rstate1 k)) 37)
    (fun i _ => 4 - (intOf i).toNat)
  case atStart => exact ⟨0, by omega, rfl, hb, K1, K2, K3, K4⟩
  case round =>
    clear hb K1 K2 K3 K4
    obtain ⟨k, hk, rfl, hb, K1, K2, K3, K4⟩ := hrel
    by_cases hlt : k < 4
    · have d0 := K4.cellv k (by rw [rstate1_length]; omega)
      have f0 := K4.frozen k
      have g1 : (0 : Int) ≤ 4 * (k : Int) := by omega
      have g2 : 4 * (k : Int) + 3 < 16 := by omega
      have g3 : IntKind.i64.wrap (4 * (k : Int)) = 4 * k := IntWalk.i64_in _ (by omega)
      have g4 : IntKind.i64.wrap (4 * (k : Int) + 1) = 4 * k + 1 := IntWalk.i64_in _ (by omega)
      have g5 : IntKind.i64.wrap (4 * (k : Int) + 2) = 4 * k + 2 := IntWalk.i64_in _ (by omega)
      have g6 : IntKind.i64.wrap (4 * (k : Int) + 3) = 4 * k + 3 := IntWalk.i64_in _ (by omega)
      go_wp2_with fail
      have t0 := expand_txt (4 * k) (by omega)
      have t1 := expand_txt (4 * k + 1) (by omega)
      have t2 := expand_txt (4 * k + 2) (by omega)
      have t3 := expand_txt (4 * k + 3) (by omega)
      unfold expandBytes at t0 t1 t2 t3
      have n0 : 4 * (k : Int) < 16 := by omega
      have z0 : 0 ≤ 4 * (k : Int) := by omega
      have y0 : (4 * (k : Int)).toNat = 4 * k := by omega
      have n1 : 4 * (k : Int) + 1 < 16 := by omega
      have z1 : 0 ≤ 4 * (k : Int) + 1 := by omega
      have y1 : (4 * (k : Int) + 1).toNat = 4 * k + 1 := by omega
      have n2 : 4 * (k : Int) + 2 < 16 := by omega
      have z2 : 0 ≤ 4 * (k : Int) + 2 := by omega
      have y2 : (4 * (k : Int) + 2).toNat = 4 * k + 2 := by omega
      have n3 : 4 * (k : Int) + 3 < 16 := by omega
      have z3 : 0 ≤ 4 * (k : Int) + 3 := by omega
      have y3 : (4 * (k : Int) + 3).toNat = 4 * k + 3 := by omega
      have hlt4 := K4.lt
      refine wp_region_mix (calms 0 20 (.one 20 (.one 21 (.calm 22 (.one 23 .done))))) (fun _ => True) (by kernel_rfl) (by kernel_rfl) trivial ?_
      intro hne
      iterate 20 (refine wpMix_pure (by simp only [List.getElem?_toArray, List.getElem?_cons_succ, List.getElem?_cons_zero]; rfl) ?_; intro K hK; go_big_quiet_op; go_big_quiet_on)
      refine wpMix_eff (by simp only [List.getElem?_toArray, List.getElem?_cons_succ, List.getElem?_cons_zero]; rfl) ?_; intro K hK
      go_wp2_with fail
      refine ⟨trivial, ?_⟩
      refine wpMix_eff (by simp only [List.getElem?_toArray, List.getElem?_cons_succ, List.getElem?_cons_zero]; rfl) ?_; intro K hK
      go_wp2_with (go_at_call 76; refine (refNumber_any _ _ _ _ (gt expand (4 * k)) (gt expand (4 * k + 1)) (gt expand (4 * k + 2)) (gt expand (4 * k + 3)) _ (by omega) (by simp [go_sem]) (by simp [go_sem]) (by simp [go_sem]) (by simp [go_sem])).mono ?_; rintro e w' ⟨rfl, rfl⟩)
      refine ⟨trivial, ?_⟩
      iterate 1 (refine wpMix_pure (by simp only [List.getElem?_toArray, List.getElem?_cons_succ, List.getElem?_cons_zero]; rfl) ?_; intro K hK; go_big_quiet_op; go_big_quiet_on)
      refine wpMix_eff (by simp only [List.getElem?_toArray, List.getElem?_cons_succ, List.getElem?_cons_zero]; rfl) ?_; intro K hK
      go_wp2_with fail
      refine ⟨trivial, ?_⟩
      refine wpMix_done ?_
      go_wp2
      go_roundw
      case rel =>
        refine ⟨k + 1, by omega, by go_num, (by have hsz := (hb).size; repeat (first | exact hb | refine Below.drew ?_ | refine below_drewN ?_ _ | refine Below.alloc ?_ (by first | (simp <;> fail) | (simp; omega) | omega) _ | refine Below.setCell ?_ (by first | (simp <;> fail) | (simp; omega) | omega) _ | refine below_setRow' ?_ (by first | (simp <;> fail) | (simp; omega) | omega) _)), (by repeat (first | exact K1 | refine Blk.drew ?_ | refine Blk.drewN ?_ _ | refine Blk.alloc ?_ _ | refine Blk.other ?_ _ _ (by first | (simp <;> fail) | (simp; omega) | omega) | refine Blk.rowOther ?_ _ _ (by first | (simp <;> fail) | (simp; omega) | omega))), (by repeat (first | exact K2 | refine Blk.drew ?_ | refine Blk.drewN ?_ _ | refine Blk.alloc ?_ _ | refine Blk.other ?_ _ _ (by first | (simp <;> fail) | (simp; omega) | omega) | refine Blk.rowOther ?_ _ _ (by first | (simp <;> fail) | (simp; omega) | omega))), (by repeat (first | exact K3 | refine Blk.drew ?_ | refine Blk.drewN ?_ _ | refine Blk.alloc ?_ _ | refine Blk.other ?_ _ _ (by first | (simp <;> fail) | (simp; omega) | omega) | refine Blk.rowOther ?_ _ _ (by first | (simp <;> fail) | (simp; omega) | omega))), ?_⟩
        rw [rstate1, fillL, Nat.zero_add]
        exact (by repeat (first | exact K4 | refine Blk.drew ?_ | refine Blk.drewN ?_ _ | refine Blk.alloc ?_ _ | refine Blk.setv ?_ _ _ | refine Blk.other ?_ _ _ (by first | (simp <;> fail) | (simp; omega) | omega) | refine Blk.rowOther ?_ _ _ (by first | (simp <;> fail) | (simp; omega) | omega)))
      case measure => simp [intOf]; omega
    · obtain rfl : k = 4 := by omega
      clear hlt hk
      rw [show ((4 : Nat) : Int) = 4 from rfl]
      go_wp2_with fail
      go_loopw [10] (fun i wr => ∃ k : Nat, k ≤ 8 ∧ i = .int .i64 k ∧ Below w.heap.size w wr ∧ Blk wr w.heap.size (vals .u8 key) 29 ∧ Blk wr (w.heap.size + 1) (vals .u8 nonce) 36 ∧ Blk wr (w.heap.size + 1 + 1) (vals .u32 (List.replicate 16 0#32)) 37 ∧ Blk wr (w.heap.size + 1 + 1 + 1) (vals .u32 (rstate2 key k)) 37)
        (fun i _ => 8 - (intOf i).toNat)
      case atStart => exact ⟨0, by omega, rfl, hb, K1, K2, K3, K4⟩
      case round =>
        clear hb K1 K2 K3 K4
        obtain ⟨k, hk, rfl, hb, K1, K2, K3, K4⟩ := hrel
        by_cases hlt : k < 8
        · have c0 := K1.cellv (4 * k) (by rw [HK.out]; omega)
          have c1 := K1.cellv (4 * k + 1) (by rw [HK.out]; omega)
          have c2 := K1.cellv (4 * k + 2) (by rw [HK.out]; omega)
          have c3 := K1.cellv (4 * k + 3) (by rw [HK.out]; omega)
          have d0 := K4.cellv (4 + k) (by rw [rstate2_length]; omega)
          have f0 := K4.frozen (4 + k)
          have g1 : (0 : Int) ≤ 4 * (k : Int) := by omega
          have g2 : 4 * (k : Int) + 4 ≤ 32 := by omega
          have g3 : (4 * (k : Int)).toNat = 4 * k := by omega
          have g4 : ¬ (32 = 4 * k) := by omega
          have g5 : (4 * (k : Int) + 4).toNat = 4 * k + 4 := by omega
          have g6 : 4 * (k : Int) ≤ 4 * (k : Int) + 4 := by omega
          go_wp2_with (go_at_call 76; refine (refNumber_any _ _ _ _ _ _ _ _ _ (by omega) c0 c1 c2 c3).mono ?_; rintro e w' ⟨rfl, rfl⟩)
          go_roundw
          case rel => exact ⟨k + 1, by omega, by go_num, (by have hsz := (hb).size; repeat (first | exact hb | refine Below.drew ?_ | refine below_drewN ?_ _ | refine Below.alloc ?_ (by first | (simp <;> fail) | (simp; omega) | omega) _ | refine Below.setCell ?_ (by first | (simp <;> fail) | (simp; omega) | omega) _ | refine below_setRow' ?_ (by first | (simp <;> fail) | (simp; omega) | omega) _)), (by repeat (first | exact K1 | refine Blk.drew ?_ | refine Blk.drewN ?_ _ | refine Blk.alloc ?_ _ | refine Blk.other ?_ _ _ (by first | (simp <;> fail) | (simp; omega) | omega) | refine Blk.rowOther ?_ _ _ (by first | (simp <;> fail) | (simp; omega) | omega))), (by repeat (first | exact K2 | refine Blk.drew ?_ | refine Blk.drewN ?_ _ | refine Blk.alloc ?_ _ | refine Blk.other ?_ _ _ (by first | (simp <;> fail) | (simp; omega) | omega) | refine Blk.rowOther ?_ _ _ (by first | (simp <;> fail) | (simp; omega) | omega))), (by repeat (first | exact K3 | refine Blk.drew ?_ | refine Blk.drewN ?_ _ | refine Blk.alloc ?_ _ | refine Blk.other ?_ _ _ (by first | (simp <;> fail) | (simp; omega) | omega) | refine Blk.rowOther ?_ _ _ (by first | (simp <;> fail) | (simp; omega) | omega))), K4.setv (4 + k) _⟩
          case measure => simp [intOf]; omega
        · obtain rfl : k = 8 := by omega
          clear hlt hk
          rw [show ((8 : Nat) : Int) = 8 from rfl]
          have d0 := K4.cellv 12 (by rw [rstate2_length]; omega)
          have f0 := K4.frozen 12
          go_wp2_with fail
          clear d0 f0
          go_loopw [11] (fun i wr => ∃ k : Nat, k ≤ 3 ∧ i = .int .i64 k ∧ Below w.heap.size w wr ∧ Blk wr w.heap.size (vals .u8 key) 29 ∧ Blk wr (w.heap.size + 1) (vals .u8 nonce) 36 ∧ Blk wr (w.heap.size + 1 + 1) (vals .u32 (List.replicate 16 0#32)) 37 ∧ Blk wr (w.heap.size + 1 + 1 + 1) (vals .u32 (rstate3 key counter nonce k)) 37)
            (fun i _ => 3 - (intOf i).toNat)
          case atStart => exact ⟨0, by omega, rfl, (by have hsz := (hb).size; repeat (first | exact hb | refine Below.drew ?_ | refine below_drewN ?_ _ | refine Below.alloc ?_ (by first | (simp <;> fail) | (simp; omega) | omega) _ | refine Below.setCell ?_ (by first | (simp <;> fail) | (simp; omega) | omega) _ | refine below_setRow' ?_ (by first | (simp <;> fail) | (simp; omega) | omega) _)), (by repeat (first | exact K1 | refine Blk.drew ?_ | refine Blk.drewN ?_ _ | refine Blk.alloc ?_ _ | refine Blk.other ?_ _ _ (by first | (simp <;> fail) | (simp; omega) | omega) | refine Blk.rowOther ?_ _ _ (by first | (simp <;> fail) | (simp; omega) | omega))), (by repeat (first | exact K2 | refine Blk.drew ?_ | refine Blk.drewN ?_ _ | refine Blk.alloc ?_ _ | refine Blk.other ?_ _ _ (by first | (simp <;> fail) | (simp; omega) | omega) | refine Blk.rowOther ?_ _ _ (by first | (simp <;> fail) | (simp; omega) | omega))), (by repeat (first | exact K3 | refine Blk.drew ?_ | refine Blk.drewN ?_ _ | refine Blk.alloc ?_ _ | refine Blk.other ?_ _ _ (by first | (simp <;> fail) | (simp; omega) | omega) | refine Blk.rowOther ?_ _ _ (by first | (simp <;> fail) | (simp; omega) | omega))), K4.setv 12 _⟩
          case round =>
            clear hb K1 K2 K3 K4
            obtain ⟨k, hk, rfl, hb, K1, K2, K3, K4⟩ := hrel
            by_cases hlt : k < 3
            · have c0 := K2.cellv (4 * k) (by rw [HN.out]; omega)
              have c1 := K2.cellv (4 * k + 1) (by rw [HN.out]; omega)
              have c2 := K2.cellv (4 * k + 2) (by rw [HN.out]; omega)
              have c3 := K2.cellv (4 * k + 3) (by rw [HN.out]; omega)
              have d0 := K4.cellv (13 + k) (by rw [rstate3_length]; omega)
              have f0 := K4.frozen (13 + k)
              have g1 : (0 : Int) ≤ 4 * (k : Int) := by omega
              have g2 : 4 * (k : Int) + 4 ≤ 12 := by omega
              have g3 : (4 * (k : Int)).toNat = 4 * k := by omega
              have g4 : ¬ (12 = 4 * k) := by omega
              have g5 : (4 * (k : Int) + 4).toNat = 4 * k + 4 := by omega
              have g6 : 4 * (k : Int) ≤ 4 * (k : Int) + 4 := by omega
              go_wp2_with (go_at_call 76; refine (refNumber_any _ _ _ _ _ _ _ _ _ (by omega) c0 c1 c2 c3).mono ?_; rintro e w' ⟨rfl, rfl⟩)
              go_roundw
              case rel => exact ⟨k + 1, by omega, by go_num, (by have hsz := (hb).size; repeat (first | exact hb | refine Below.drew ?_ | refine below_drewN ?_ _ | refine Below.alloc ?_ (by first | (simp <;> fail) | (simp; omega) | omega) _ | refine Below.setCell ?_ (by first | (simp <;> fail) | (simp; omega) | omega) _ | refine below_setRow' ?_ (by first | (simp <;> fail) | (simp; omega) | omega) _)), (by repeat (first | exact K1 | refine Blk.drew ?_ | refine Blk.drewN ?_ _ | refine Blk.alloc ?_ _ | refine Blk.other ?_ _ _ (by first | (simp <;> fail) | (simp; omega) | omega) | refine Blk.rowOther ?_ _ _ (by first | (simp <;> fail) | (simp; omega) | omega))), (by repeat (first | exact K2 | refine Blk.drew ?_ | refine Blk.drewN ?_ _ | refine Blk.alloc ?_ _ | refine Blk.other ?_ _ _ (by first | (simp <;> fail) | (simp; omega) | omega) | refine Blk.rowOther ?_ _ _ (by first | (simp <;> fail) | (simp; omega) | omega))), (by repeat (first | exact K3 | refine Blk.drew ?_ | refine Blk.drewN ?_ _ | refine Blk.alloc ?_ _ | refine Blk.other ?_ _ _ (by first | (simp <;> fail) | (simp; omega) | omega) | refine Blk.rowOther ?_ _ _ (by first | (simp <;> fail) | (simp; omega) | omega))), K4.setv (13 + k) _⟩
              case measure => simp [intOf]; omega
            · obtain rfl : k = 3 := by omega
              clear hlt hk
              rw [rstate_eq] at K4
              have HL := Lib.hid (show (stateL key counter nonce).length = 16 from stateN_length _ _ _ _)
              go_wp2_with (first | (refine wpList_load_vals rfl _ _ rfl _ rfl K4 Try.underlying37 (by kernel_rfl) HL.out ?_) | (refine wpList_store_vals rfl _ _ _ rfl _ rfl rfl K3 (by rw [HL.out]; kernel_rfl) (by rw [HL.out, vals_size]; simp) ?_))
              refine bodyPost_vals rfl rfl (K3.row _) Try.underlying37 (by kernel_rfl) HL.out rfl ⟨rfl, below_setRow' hb (by omega) _⟩
end Go.Proofs.Ytikopoimoaddhaa
