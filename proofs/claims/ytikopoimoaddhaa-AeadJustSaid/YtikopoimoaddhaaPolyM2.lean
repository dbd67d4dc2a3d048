/- Poly1305: differences of tags; the law PolyShifts: walked. No condition. Poly1305: the reference's tag: walked; it is the program's. No condition. Poly1305: the reference's tag: walked. No condition. -/
import Derived.Test.YtikopoimoaddhaaPolyM1
import Derived.Test.YtikopoimoaddhaaPoly7
import Derived.Test.YtikopoimoaddhaaPoly15
import Derived.Test.YtikopoimoaddhaaPoly8
namespace Go.Proofs.Ytikopoimoaddhaa
open Go.RowKit
set_option maxRecDepth 100000
set_option maxHeartbeats 8000000
/-! ### plain -/
def brK (a b : List (BitVec 8)) : Nat → Nat
  | 0 => 0
  | k + 1 => if (gt a k).toNat < (gt b k).toNat + brK a b k then 1 else 0
def lsP (a b : List (BitVec 8)) : Nat → List (BitVec 8)
  | 0 => []
  | k + 1 => lsP a b k ++ [BitVec.ofNat 8 ((gt a k).toNat + 256 - (gt b k).toNat - brK a b k)]
theorem lsP_length (a b : List (BitVec 8)) : ∀ k, (lsP a b k).length = k
  | 0 => rfl
  | k + 1 => by rw [lsP, List.length_append, lsP_length a b k]; rfl
theorem brK_le (a b : List (BitVec 8)) : ∀ k, brK a b k ≤ 1
  | 0 => by simp [brK]
  | k + 1 => by rw [brK]; split <;> omega
theorem lsP_val (a b : List (BitVec 8)) (ha : a.length = 16) (hb : b.length = 16) : ∀ k, k ≤ 16 → leN (a.take k) + 256 ^ k * brK a b k = leN (b.take k) + leN (lsP a b k)
  | 0, _ => by simp [lsP, brK, leN]
  | k + 1, h => by
    have ih := lsP_val a b ha hb k (by omega)
    have hbr := brK_le a b k
    have hx := (gt a k).isLt
    have hy := (gt b k).isLt
    rw [leN_take (by omega), leN_take (by omega), lsP, leN_append, lsP_length, brK]
    simp only [leN, Nat.mul_zero, Nat.add_zero, BitVec.toNat_ofNat]
    generalize brK a b k = r at *
    generalize (gt a k).toNat = x at *
    generalize (gt b k).toNat = y at *
    have e : (256 : Nat) ^ (k + 1) = 256 * 256 ^ k := by rw [Nat.pow_succ, Nat.mul_comm]
    rw [e]
    generalize 256 ^ k = p at *
    have hd : x + 256 * (if x < y + r then 1 else 0) = y + r + (x + 256 - y - r) % 256 := by
      split <;> omega
    generalize (x + 256 - y - r) % 256 = z at *
    generalize (if x < y + r then 1 else 0) = q at *
    have h2 := congrArg (fun t => p * t) hd
    simp only [Nat.mul_add] at h2
    have e3 : p * (256 * q) = 256 * p * q := by rw [Nat.mul_left_comm, Nat.mul_assoc]
    rw [e3] at h2
    omega
def lessL (a b : List (BitVec 8)) : List (BitVec 8) := lsP a b 16
theorem lessL_eq {a b s : List (BitVec 8)} (ha : a.length = 16) (hb : b.length = 16) (hs : s.length = 16) (A : Nat) (h1 : leN b = A % 340282366920938463463374607431768211456) (h2 : leN a = (A + leN s) % 340282366920938463463374607431768211456) : lessL a b = s := by
  refine leN_inj ((lsP_length a b 16).trans hs.symm) ?_
  have hv := lsP_val a b ha hb 16 (Nat.le_refl _)
  have hbr := brK_le a b 16
  rw [List.take_of_length_le (by omega), List.take_of_length_le (by omega), show (256 : Nat) ^ 16 = 340282366920938463463374607431768211456 by decide] at hv
  have l1 := leN_lt s
  rw [hs, show (256 : Nat) ^ 16 = 340282366920938463463374607431768211456 by decide] at l1
  have l2 := leN_lt (lsP a b 16)
  rw [lsP_length, show (256 : Nat) ^ 16 = 340282366920938463463374607431768211456 by decide] at l2
  show leN (lsP a b 16) = leN s
  omega
def accK (k msg : List (BitVec 8)) : Nat := accN ((num8 (clampL k) 8).toNat + 18446744073709551616 * (num8 (((clampL k).drop 8).take 8) 8).toNat) msg (nbl msg.length)
theorem tag2_val (k s msg : List (BitVec 8)) (hk : k.length = 16) (hs : s.length = 16) : leN (tagL (k ++ s) msg) = (accK k msg + leN s) % 340282366920938463463374607431768211456 := by
  have e0 : ((k ++ s).drop 0).take 16 = k := by rw [List.drop_zero, List.take_append_of_le_length (by omega), List.take_of_length_le (by omega)]
  have e1 : (k ++ s).drop 16 = s := by rw [List.drop_append, List.drop_of_length_le (by omega), hk]; rfl
  have e2 : (k ++ s).drop 24 = s.drop 8 := by rw [List.drop_append, List.drop_of_length_le (by omega), hk]; rfl
  obtain ⟨c1, c2⟩ := clamp_lt k hk
  have hv := tagL_val (k ++ s) msg
  unfold newM at hv
  simp only [e0, e1, e2] at hv
  rw [hv c1 c2]
  have n0 : (num8 (s.take 16) 8).toNat = leN (s.take 8) := by
    rw [num8_nat _ 8 (by omega) (by rw [List.length_take]; omega), List.take_take]; rfl
  have n1 : (num8 ((s.drop 8).take 8) 8).toNat = leN (s.drop 8) := by
    rw [num8_nat _ 8 (by omega) (by rw [List.length_take, List.length_drop]; omega), List.take_take, Nat.min_self, List.take_of_length_le (by rw [List.length_drop]; omega)]
  have hsp : leN s = leN (s.take 8) + 18446744073709551616 * leN (s.drop 8) := by
    conv => lhs; rw [← List.take_append_drop 8 s, leN_append, List.length_take, show min 8 s.length = 8 by omega]
  rw [n0, n1, hsp]
  unfold accK
  congr 1
  omega
theorem tag_clamped (k s msg : List (BitVec 8)) (hk : k.length = 16) : tagL (clampL k ++ s) msg = tagL (k ++ s) msg := by
  have hc := (clampL_length k).trans hk
  have e : newM (clampL k ++ s) = newM (k ++ s) := by
    unfold newM
    have e0 : ∀ x : List (BitVec 8), x.length = 16 → ((x ++ s).drop 0).take 16 = x := fun x hx => by rw [List.drop_zero, List.take_append_of_le_length (by omega), List.take_of_length_le (by omega)]
    have e1 : ∀ (x : List (BitVec 8)) (j : Nat), x.length = 16 → (x ++ s).drop (16 + j) = s.drop j := fun x j hx => by rw [List.drop_append, List.drop_of_length_le (by omega), hx, List.nil_append]; congr 1; omega
    rw [e0 _ hc, e0 _ hk, clampL_idem k hk, e1 _ 0 hc, e1 _ 0 hk, e1 _ 8 hc, e1 _ 8 hk]
  unfold tagL
  rw [e]
end Go.Proofs.Ytikopoimoaddhaa
namespace Go.Proofs.Ytikopoimoaddhaa
open Go.RowKit
set_option maxRecDepth 100000
set_option maxHeartbeats 8000000
/-! ### plain -/
def addD (d h : List Nat) : Nat → List Nat
  | 0 => d
  | k + 1 => (addD d h k).set k (gtN (addD d h k) k + gtN h k)
theorem addD_length (d h : List Nat) : ∀ k, (addD d h k).length = d.length
  | 0 => rfl
  | k + 1 => by rw [addD, List.length_set, addD_length d h k]
theorem addD_five (a b c e f x0 x1 x2 x3 x4 : Nat) : addD [a, b, c, e, f] [x0, x1, x2, x3, x4] 5 = [a + x0, b + x1, c + x2, e + x3, f + x4] := rfl
theorem addD_val {d h : List Nat} (hd : dig5 d) (hh : dig5 h) : v5 (addD d h 5) = v5 d + v5 h ∧ s5 (addD d h 5) < 576460752303423488 := by
  have h1 := s5_dig hd
  have h2 := s5_dig hh
  obtain ⟨a, b, c, e, f, rfl⟩ := list5 hd.1
  obtain ⟨x0, x1, x2, x3, x4, rfl⟩ := list5 hh.1
  rw [addD_five, v5_five, v5_five, v5_five]
  have h1 : a + b + c + e + f < 335544320 := h1
  have h2 : x0 + x1 + x2 + x3 + x4 < 335544320 := h2
  clear hd hh
  refine ⟨by clear h1 h2; omega, ?_⟩
  show a + x0 + (b + x1) + (c + x2) + (e + x3) + (f + x4) < 576460752303423488
  omega
def rhK (r : List Nat) (msg : List (BitVec 8)) : Nat → List Nat
  | 0 => [0, 0, 0, 0, 0]
  | k + 1 => carR (2 ^ 26) (timO (carR (2 ^ 26) (addD (digK (blk17 (msg.drop (16 * k))) 136) (rhK r msg k) 5) 3) r 5) 3
theorem blk_lt (M : List (BitVec 8)) : leN (blk17 M) < 1361129467683753853853498429727072845824 := by
  have h1 := leN_split (blk17 M) (blk17_length M)
  have h2 := blk17_16 M
  have l1 := leN_lt (((blk17 M).drop 0).take 8)
  have l2 := leN_lt (((blk17 M).drop 8).take 8)
  have hl := blk17_length M
  have e1 : (((blk17 M).drop 0).take 8).length = 8 := by rw [List.length_take, List.length_drop]; omega
  have e2 : (((blk17 M).drop 8).take 8).length = 8 := by rw [List.length_take, List.length_drop]; omega
  rw [e1, show (256 : Nat) ^ 8 = 18446744073709551616 by decide] at l1
  rw [e2, show (256 : Nat) ^ 8 = 18446744073709551616 by decide] at l2
  omega
theorem dig0 : dig5 [0, 0, 0, 0, 0] := by
  refine ⟨rfl, ?_, ?_, ?_, ?_, ?_⟩ <;> decide
theorem dig_mid {r d : List Nat} {msg : List (BitVec 8)} (k : Nat) (hd : dig5 d) : dig5 (digK (blk17 (msg.drop (16 * k))) 136) ∧ (addD (digK (blk17 (msg.drop (16 * k))) 136) d 5).length = 5 ∧ s5 (addD (digK (blk17 (msg.drop (16 * k))) 136) d 5) < 576460752303423488 ∧ dig5 (carR (2 ^ 26) (addD (digK (blk17 (msg.drop (16 * k))) 136) d 5) 3) := by
  obtain ⟨_, h2⟩ := digK_val _ (blk_lt (msg.drop (16 * k)))
  have hal := (addD_length (digK (blk17 (msg.drop (16 * k))) 136) d 5).trans h2.1
  have ha := (addD_val h2 hd).2
  exact ⟨h2, hal, ha, (carR_val (by decide) hal ha).1⟩
theorem rhK_val {r : List Nat} (hr : dig5 r) (msg : List (BitVec 8)) : ∀ k, dig5 (rhK r msg k) ∧ v5 (rhK r msg k) % PP = accN (v5 r) msg k
  | 0 => ⟨dig0, by show v5 [0, 0, 0, 0, 0] % PP = 0; decide⟩
  | k + 1 => by
    obtain ⟨i1, i2⟩ := rhK_val hr msg k
    obtain ⟨m1, m2, m3, m4⟩ := dig_mid (r := r) (msg := msg) k i1
    have hX : ∀ i k', i < 5 → k' < 5 → gtN (carR (2 ^ 26) (addD (digK (blk17 (msg.drop (16 * k))) 136) (rhK r msg k) 5) 3) i * gtN r k' ≤ 4503599627370496 := fun i k' hi hk => prod_le (m4.small.2 i hi) (hr.small.2 k' hk)
    have hs := timO_s5 _ hX 5 (Nat.le_refl _)
    obtain ⟨c1, c2⟩ := carR_val (M := 2 ^ 26) (by decide) (timO_length (carR (2 ^ 26) (addD (digK (blk17 (msg.drop (16 * k))) 136) (rhK r msg k) 5) 3) r 5) (Nat.lt_of_le_of_lt hs (by decide))
    rw [rhK, accN]
    refine ⟨c1, ?_⟩
    rw [c2, timO_val m4.1 hr.1, Nat.mul_mod, (carR_val (by decide) m2 m3).2, (addD_val m1 i1).1, (digK_val _ (blk_lt (msg.drop (16 * k)))).1, ← i2]
    rw [Nat.mul_mod (v5 (rhK r msg k) % PP + leN (blk17 (msg.drop (16 * k)))), Nat.mod_add_mod, Nat.add_comm]
def rTag (key msg : List (BitVec 8)) : List (BitVec 8) := toP (key.drop 16) (lstK (2 ^ 26) (rhK (digK (clampL ((key.drop 0).take 16) ++ [0#8]) 136) msg (nbl msg.length)) 2) 16
theorem rTag_eq (key msg : List (BitVec 8)) (hk : key.length = 32) : rTag key msg = tagL key msg := by
  have hk16 : ((key.drop 0).take 16).length = 16 := by rw [List.length_take, List.length_drop]; omega
  have hs16 : (key.drop 16).length = 16 := by rw [List.length_drop]; omega
  have hkk : (key.drop 0).take 16 ++ key.drop 16 = key := by rw [List.drop_zero, List.take_append_drop]
  have hcl := (clampL_length ((key.drop 0).take 16)).trans hk16
  have ht := tag2_val ((key.drop 0).take 16) (key.drop 16) msg hk16 hs16
  rw [hkk] at ht
  -- the clamped half, as a number
  have hrv : leN (clampL ((key.drop 0).take 16) ++ [0#8]) = (num8 (clampL ((key.drop 0).take 16)) 8).toNat + 18446744073709551616 * (num8 (((clampL ((key.drop 0).take 16)).drop 8).take 8) 8).toNat := by
    rw [leN_append, num8_nat _ 8 (by omega) (by omega), num8_nat _ 8 (by omega) (by rw [List.length_take, List.length_drop]; omega), List.take_take, Nat.min_self, List.take_of_length_le (l := (clampL ((key.drop 0).take 16)).drop 8) (by rw [List.length_drop]; omega)]
    conv => lhs; rw [← List.take_append_drop 8 (clampL ((key.drop 0).take 16)), leN_append, List.length_take, show min 8 (clampL ((key.drop 0).take 16)).length = 8 by omega]
    simp [leN]
  have hlt : leN (clampL ((key.drop 0).take 16) ++ [0#8]) < 1361129467683753853853498429727072845824 := by
    rw [hrv]
    obtain ⟨q1, q2⟩ := clamp_lt _ hk16
    omega
  obtain ⟨r1, r2⟩ := digK_val _ hlt
  obtain ⟨w1, w2⟩ := rhK_val r2 msg (nbl msg.length)
  have hl := lst2_val (M := 2 ^ 26) (by decide) w1
  have hld := lstK_dig (M := 2 ^ 26) (by decide) w1 2
  rw [w2, r1, hrv] at hl
  refine leN_inj ((toP_length _ _ 16).trans (sumM_length _).symm) ?_
  unfold rTag
  rw [toP_tag hs16 hld, hl, ht]
  rfl
end Go.Proofs.Ytikopoimoaddhaa
namespace Go.Proofs.Ytikopoimoaddhaa
open Go.RowKit
set_option maxRecDepth 100000
set_option maxHeartbeats 8000000
attribute [local irreducible] Calls Walk1 WalkTo Tri EndA
theorem refTag_any (key : List (BitVec 8)) (hk : key.length = 32) (v : Value) (n : Nat) (msg : List (BitVec 8)) (w : World) (hv : FS w 1 v n (valsL .u8 msg)) (hm : msg.length ≤ 65536) :
    Calls Try.prog 57 #[.agg (vals .u8 key), v] w fun e w' => e = .returned (.agg (vals .u8 (tagL key msg))) ∧ Below w.heap.size w w' := by
  have hmn : msg.length = n := by have := hv.1.1; rw [valsL_length] at this; omega
  subst hmn
  have hvx := fsx_of hv (by omega)
  rw [← rTag_eq key msg hk]
  have hk16 : ((key.drop 0).take 16).length = 16 := by rw [List.length_take, List.length_drop]; omega
  have hkt : (key.drop 0).take 16 = key.take 16 := by rw [List.drop_zero]
  have hs16 : (key.drop 16).length = 16 := by rw [List.length_drop]; omega
  have hsg : ∀ i, gt (key.drop 16) i = gt key (16 + i) := fun i => by
    unfold gt
    simp only [List.getD, List.getElem?_drop]
  have hcl := (clampL_length ((key.drop 0).take 16)).trans hk16
  have cc := fun w => refClamp_any _ hk16 w
  have hrd : dig5 (digK (clampL ((key.drop 0).take 16) ++ [0#8]) 136) := by
    have hrv := leN_lt (clampL ((key.drop 0).take 16) ++ [0#8])
    refine (digK_val _ ?_).2
    rw [leN_append]
    have h1 := leN_lt (clampL ((key.drop 0).take 16))
    rw [hcl, show (256 : Nat) ^ 16 = 340282366920938463463374607431768211456 by decide] at h1
    rw [show leN [0#8] = 0 from rfl, Nat.mul_zero]
    omega
  have cd := fun w => digits_any (clampL ((key.drop 0).take 16) ++ [0#8]) (by rw [List.length_append, hcl]; rfl) w
  unfold rTag
  generalize clampL ((key.drop 0).take 16) = R at *
  generalize digK (R ++ [0#8]) 136 = r at *
  have cb := fun w h => refBlocks_any v msg.length msg w h hm
  have hbl := blkK_length msg (nbl msg.length)
  have hat := blkK_at msg (nbl msg.length)
  have hnb : nbl msg.length ≤ 65536 := by unfold nbl; omega
  have hrh := rhK_val hrd msg
  have ct := fun a b ha hb w => times_any a b ha hb w
  have cca := fun d hd hs w => carried_any d hd hs w
  have cdg := fun B hB w => digits_any B hB w
  have cl := fun w => least_any (rhK r msg (nbl msg.length)) (hrh _).1 w
  have hLd := lstK_dig (M := 2 ^ 26) (by decide) (hrh (nbl msg.length)).1 2
  have hrl := hrd.1
  have hrhl := fun k => (hrh k).1.1
  have hr0 : rhK r msg 0 = [0, 0, 0, 0, 0] := rfl
  have hrS : ∀ k, rhK r msg (k + 1) = carR (2 ^ 26) (timO (carR (2 ^ 26) (addD (digK (blk17 (msg.drop (16 * k))) 136) (rhK r msg k) 5) 3) r 5) 3 := fun _ => rfl
  generalize lstK (2 ^ 26) (rhK r msg (nbl msg.length)) 2 = H at *
  generalize nbl msg.length = nb at *
  generalize blkK msg nb = L at *
  refine calls_tri Try.func57 rfl Try.ntmps57 rfl ?_
  repeat (first | (show Walk1 _ _ _ (_ :: _) _ _; first | (show Walk1 _ _ _ (⟨_, .assign _, _, _, _, _⟩ :: _) _ _; first | refine walk1_t (op_assignN rfl rfl rfl rfl) ?_) | (show Walk1 _ _ _ (⟨_, .alloc _, _, _, _, _⟩ :: _) _ _; first | refine walk1_n (op_allocV rfl rfl rfl rfl rfl rfl rfl) (by kernel_rfl) ?_) | (show Walk1 _ _ _ (⟨_, .box _ _, _, _, _, _⟩ :: _) _ _; first | refine walk1_n (op_box rfl rfl rfl rfl rfl) (by kernel_rfl) ?_)) | refine tri_seq ?_ | refine tri_block ?_ | refine tri_scope ?_ | refine tri_skip ?_ | refine tri_label ?_ | refine tri_ret ?_ | refine tri_exit ?_ | refine end_seq ?_ | refine end_block_exit ?_ | refine end_block_other rfl ?_ | refine end_block ?_ | refine end_block_ret ?_ | refine end_then_exit ?_ | refine end_then_ret ?_ | refine end_then ?_ | refine end_scope (fun _ h => by cases h) ?_ | refine tri_reg ?_ | refine tri_draw ?_ | refine walk1_end ?_ | (refine walk_endD ?_ ?_; (· kernel_rfl)) | refine tri_yes rfl (by first | omega | (simp <;> fail) | assumption) ?_ | refine tri_no rfl (by first | omega | (simp <;> fail) | assumption) ?_ | refine tri_true rfl (by first | with_reducible rfl | with_reducible exact Bool.not_false | with_reducible assumption) ?_ | refine tri_false rfl (by first | with_reducible rfl | with_reducible exact Bool.not_true | with_reducible assumption) ?_)
  refine tri_loop (X := Nat) (fun i => ⟨[(6, SV.c (.int .i64 ((i : Nat) : Int))), (1, .c v), (2, .p 2 0), (4, .p 4 0), (5, .p 5 0)], [(2, some (.blk 2 29 (.c (vals .u8 (key))))), (4, some (.blk 4 71 (.c (vals .u8 (List.replicate 16 0#8))))), (5, some (.blk 5 71 (.c (vals .u8 (key.take i ++ List.replicate (16 - i) 0#8)))))]⟩)
    (fun i => i ≤ 16) (fun i => 16 - i) 0 (by omega) (ent_keep (by repeat (first | exact hasT_nil | refine hasT_cons rfl ?_ | refine hasT_eq rfl (svi (by omega)) ?_)) (by repeat (first | exact hasR_nil | refine hasR_cons rfl ?_))) ?_
  intro i hi K next
  have hXl : (key.take i ++ List.replicate (16 - i) 0#8).length = 16 := by rw [List.length_append, List.length_take, List.length_replicate]; omega
  by_cases h : i < 16
  · have hset := app_zsetP (l := key.take i) (n := 16) (i := i) (x := gt key i) (by rw [List.length_take]; omega) h
    rw [take_gtP key i (by omega)] at hset
    generalize key.take i ++ List.replicate (16 - i) 0#8 = X at *
    repeat (first | (show Walk1 _ _ _ (_ :: _) _ _; first | (show Walk1 _ _ _ (⟨_, .move _, _, _, _, _⟩ :: _) _ _; first | refine walk1_t (op_move rfl rfl rfl rfl) ?_) | (show Walk1 _ _ _ (⟨_, .assign _, _, _, _, _⟩ :: _) _ _; first | refine walk1_t (op_assign rfl rfl rfl rfl) ?_) | (show Walk1 _ _ _ (⟨_, .binOp .add _ _ _ _, _, _, _, _⟩ :: _) _ _; first | refine walk1_t (op_addN rfl rfl rfl (by first | exact evN_const rfl | exact rfl) (by first | exact evN_const rfl | exact rfl) (by omega)) ?_) | (show Walk1 _ _ _ (⟨_, .binOp .lss _ _ _ _, _, _, _, _⟩ :: _) _ _; first | refine walk1_t (op_ltN rfl rfl rfl (by first | exact evN_const rfl | exact rfl) (by first | exact evN_const rfl | exact rfl)) ?_) | (show Walk1 _ _ _ (⟨_, .indexAddr _ _ _, _, _, _, _⟩ :: _) _ _; first | refine walk1_t (op_idxP rfl rfl rfl rfl (by first | exact evK_const rfl | exact evK_tmp rfl) rfl rfl (by first | omega | decide) off_one) ?_) | (show Walk1 _ _ _ (⟨_, .load _ _, _, _, _, _⟩ :: _) _ _; first | refine walk1_t (op_load rfl rfl rfl rfl rfl rfl rfl) ?_) | (show Walk1 _ _ _ (⟨_, .store _ _ _, _, _, _, _⟩ :: _) _ _; first | refine walk1_b (op_store rfl rfl rfl rfl rfl rfl rfl) ?_)) | refine tri_seq ?_ | refine tri_block ?_ | refine tri_scope ?_ | refine tri_skip ?_ | refine tri_label ?_ | refine tri_ret ?_ | refine tri_exit ?_ | refine end_seq ?_ | refine end_block_exit ?_ | refine end_block_other rfl ?_ | refine end_block ?_ | refine end_block_ret ?_ | refine end_then_exit ?_ | refine end_then_ret ?_ | refine end_then ?_ | refine end_scope (fun _ h => by cases h) ?_ | refine tri_reg ?_ | refine tri_draw ?_ | refine walk1_end ?_ | (refine walk_endD ?_ ?_; (· kernel_rfl)) | refine tri_yes rfl (by first | omega | (simp <;> fail) | assumption) ?_ | refine tri_no rfl (by first | omega | (simp <;> fail) | assumption) ?_ | refine tri_true rfl (by first | with_reducible rfl | with_reducible exact Bool.not_false | with_reducible assumption) ?_ | refine tri_false rfl (by first | with_reducible rfl | with_reducible exact Bool.not_true | with_reducible assumption) ?_)
    rw [hset]
    exact next _ (i + 1) (by omega) (by omega) (ent_keep (by repeat (first | exact hasT_nil | refine hasT_cons rfl ?_ | refine hasT_eq rfl (svi (by omega)) ?_)) (by repeat (first | exact hasR_nil | refine hasR_cons rfl ?_)))
  obtain rfl : i = 16 := by omega
  clear next hXl
  rw [Nat.sub_self, List.replicate_zero, List.append_nil, ← hkt]
  repeat (first | (show Walk1 _ _ _ (_ :: _) _ _; first | (show Walk1 _ _ _ (⟨_, .move _, _, _, _, _⟩ :: _) _ _; first | refine walk1_t (op_move rfl rfl rfl rfl) ?_) | (show Walk1 _ _ _ (⟨_, .assign _, _, _, _, _⟩ :: _) _ _; first | refine walk1_t (op_assignN rfl rfl rfl rfl) ?_) | (show Walk1 _ _ _ (⟨_, .binOp .lss _ _ _ _, _, _, _, _⟩ :: _) _ _; first | refine walk1_t (op_ltN rfl rfl rfl (by first | exact evN_const rfl | exact rfl) (by first | exact evN_const rfl | exact rfl)) ?_) | (show Walk1 _ _ _ (⟨_, .load _ _, _, _, _, _⟩ :: _) _ _; first | refine walk1_t (op_loads rfl rfl rfl rfl rfl rfl rfl rfl) ?_) | (show Walk1 _ _ _ (⟨_, .store _ _ _, _, _, _, _⟩ :: _) _ _; first | refine walk1_b (op_stores rfl rfl rfl rfl rfl rfl rfl) ?_) | (show Walk1 _ _ _ (⟨_, .alloc _, _, _, _, _⟩ :: _) _ _; first | refine walk1_n (op_allocV rfl rfl rfl rfl rfl rfl rfl) (by kernel_rfl) ?_) | (show Walk1 _ _ _ (⟨_, .call ⟨.value (.func 54), _, _⟩, _, _, _, _⟩ :: _) _ _; first | ((first | refine walk1_call rfl rfl rfl rfl (by repeat (first | exact evs_nil | apply evs_cons rfl)) rfl ?_ | refine walk1_call0 rfl rfl rfl (by repeat (first | exact evs_nil | apply evs_cons rfl)) rfl ?_); refine ⟨_, fun e w => cc w, ?_⟩))) | refine tri_seq ?_ | refine tri_block ?_ | refine tri_scope ?_ | refine tri_skip ?_ | refine tri_label ?_ | refine tri_ret ?_ | refine tri_exit ?_ | refine end_seq ?_ | refine end_block_exit ?_ | refine end_block_other rfl ?_ | refine end_block ?_ | refine end_block_ret ?_ | refine end_then_exit ?_ | refine end_then_ret ?_ | refine end_then ?_ | refine end_scope (fun _ h => by cases h) ?_ | refine tri_reg ?_ | refine tri_draw ?_ | refine walk1_end ?_ | (refine walk_endD ?_ ?_; (· kernel_rfl)) | refine tri_yes rfl (by first | omega | (simp <;> fail) | assumption) ?_ | refine tri_no rfl (by first | omega | (simp <;> fail) | assumption) ?_ | refine tri_true rfl (by first | with_reducible rfl | with_reducible exact Bool.not_false | with_reducible assumption) ?_ | refine tri_false rfl (by first | with_reducible rfl | with_reducible exact Bool.not_true | with_reducible assumption) ?_)
  refine tri_loop (X := Nat) (fun i => ⟨[(8, SV.c (.int .i64 ((i : Nat) : Int))), (1, .c v), (2, .p 2 0), (4, .p 4 0), (5, .p 5 0), (7, .p 7 0)], [(2, some (.blk 2 29 (.c (vals .u8 (key))))), (4, some (.blk 4 71 (.c (vals .u8 (List.replicate 16 0#8))))), (5, some (.blk 5 71 (.c (vals .u8 (R))))), (7, some (.blk 7 75 (.c (vals .u8 (R.take i ++ List.replicate (17 - i) 0#8)))))]⟩)
    (fun i => i ≤ 16) (fun i => 16 - i) 0 (by omega) (ent_keep (by repeat (first | exact hasT_nil | refine hasT_cons rfl ?_ | refine hasT_eq rfl (svi (by omega)) ?_)) (by repeat (first | exact hasR_nil | refine hasR_cons rfl ?_))) ?_
  intro i hi K next
  have hXl : (R.take i ++ List.replicate (17 - i) 0#8).length = 17 := by rw [List.length_append, List.length_take, List.length_replicate]; omega
  by_cases h : i < 16
  · have hset := app_zsetP (l := R.take i) (n := 17) (i := i) (x := gt R i) (by rw [List.length_take]; omega) (by omega)
    rw [take_gtP R i (by omega)] at hset
    generalize R.take i ++ List.replicate (17 - i) 0#8 = X at *
    repeat (first | (show Walk1 _ _ _ (_ :: _) _ _; first | (show Walk1 _ _ _ (⟨_, .move _, _, _, _, _⟩ :: _) _ _; first | refine walk1_t (op_move rfl rfl rfl rfl) ?_) | (show Walk1 _ _ _ (⟨_, .assign _, _, _, _, _⟩ :: _) _ _; first | refine walk1_t (op_assign rfl rfl rfl rfl) ?_) | (show Walk1 _ _ _ (⟨_, .binOp .add _ _ _ _, _, _, _, _⟩ :: _) _ _; first | refine walk1_t (op_addN rfl rfl rfl (by first | exact evN_const rfl | exact rfl) (by first | exact evN_const rfl | exact rfl) (by omega)) ?_) | (show Walk1 _ _ _ (⟨_, .binOp .lss _ _ _ _, _, _, _, _⟩ :: _) _ _; first | refine walk1_t (op_ltN rfl rfl rfl (by first | exact evN_const rfl | exact rfl) (by first | exact evN_const rfl | exact rfl)) ?_) | (show Walk1 _ _ _ (⟨_, .indexAddr _ _ _, _, _, _, _⟩ :: _) _ _; first | refine walk1_t (op_idxP rfl rfl rfl rfl (by first | exact evK_const rfl | exact evK_tmp rfl) rfl rfl (by first | omega | decide) off_one) ?_) | (show Walk1 _ _ _ (⟨_, .load _ _, _, _, _, _⟩ :: _) _ _; first | refine walk1_t (op_load rfl rfl rfl rfl rfl rfl rfl) ?_) | (show Walk1 _ _ _ (⟨_, .store _ _ _, _, _, _, _⟩ :: _) _ _; first | refine walk1_b (op_store rfl rfl rfl rfl rfl rfl rfl) ?_)) | refine tri_seq ?_ | refine tri_block ?_ | refine tri_scope ?_ | refine tri_skip ?_ | refine tri_label ?_ | refine tri_ret ?_ | refine tri_exit ?_ | refine end_seq ?_ | refine end_block_exit ?_ | refine end_block_other rfl ?_ | refine end_block ?_ | refine end_block_ret ?_ | refine end_then_exit ?_ | refine end_then_ret ?_ | refine end_then ?_ | refine end_scope (fun _ h => by cases h) ?_ | refine tri_reg ?_ | refine tri_draw ?_ | refine walk1_end ?_ | (refine walk_endD ?_ ?_; (· kernel_rfl)) | refine tri_yes rfl (by first | omega | (simp <;> fail) | assumption) ?_ | refine tri_no rfl (by first | omega | (simp <;> fail) | assumption) ?_ | refine tri_true rfl (by first | with_reducible rfl | with_reducible exact Bool.not_false | with_reducible assumption) ?_ | refine tri_false rfl (by first | with_reducible rfl | with_reducible exact Bool.not_true | with_reducible assumption) ?_)
    rw [hset]
    exact next _ (i + 1) (by omega) (by omega) (ent_keep (by repeat (first | exact hasT_nil | refine hasT_cons rfl ?_ | refine hasT_eq rfl (svi (by omega)) ?_)) (by repeat (first | exact hasR_nil | refine hasR_cons rfl ?_)))
  obtain rfl : i = 16 := by omega
  clear next
  have e17 : R.take 16 ++ List.replicate (17 - 16) 0#8 = R ++ [0#8] := by rw [List.take_of_length_le (by omega)]; rfl
  rw [e17] at hXl ⊢
  repeat (first | (show Walk1 _ _ _ (_ :: _) _ _; first | (show Walk1 _ _ _ (⟨_, .move _, _, _, _, _⟩ :: _) _ _; first | refine walk1_t (op_move rfl rfl rfl rfl) ?_) | (show Walk1 _ _ _ (⟨_, .assign _, _, _, _, _⟩ :: _) _ _; first | refine walk1_t (op_assignN rfl rfl rfl rfl) ?_ | refine walk1_t (op_assign rfl rfl rfl rfl) ?_) | (show Walk1 _ _ _ (⟨_, .binOp .lss _ _ _ _, _, _, _, _⟩ :: _) _ _; first | refine walk1_t (op_ltN rfl rfl rfl (by first | exact evN_const rfl | exact rfl) (by first | exact evN_const rfl | exact rfl)) ?_) | (show Walk1 _ _ _ (⟨_, .load _ _, _, _, _, _⟩ :: _) _ _; first | refine walk1_t (op_loads rfl rfl rfl rfl rfl rfl rfl rfl) ?_) | (show Walk1 _ _ _ (⟨_, .store _ _ _, _, _, _, _⟩ :: _) _ _; first | refine walk1_b (op_storesN rfl rfl rfl rfl rfl rfl rfl (by first | exact (valsN_size _).trans (by first | rfl | omega) | rfl) (by first | rfl | omega)) ?_) | (show Walk1 _ _ _ (⟨_, .alloc _, _, _, _, _⟩ :: _) _ _; first | refine walk1_n (op_allocN rfl rfl rfl rfl rfl rfl) (by kernel_rfl) ?_) | (show Walk1 _ _ _ (⟨_, .call ⟨.value (.func 82), _, _⟩, _, _, _, _⟩ :: _) _ _; first | ((first | refine walk1_call rfl rfl rfl rfl (by repeat (first | exact evs_nil | apply evs_cons rfl)) rfl ?_ | refine walk1_call0 rfl rfl rfl (by repeat (first | exact evs_nil | apply evs_cons rfl)) rfl ?_); refine ⟨_, fun e w => cd w, ?_⟩)) | (show Walk1 _ _ _ (⟨_, .call ⟨.value (.func 52), _, _⟩, _, _, _, _⟩ :: _) _ _; first | (refine walk1_callO rfl rfl rfl rfl (by kernel_rfl) (by repeat (first | exact evs_nil | apply evs_cons rfl)) rfl ?_; refine ⟨_, _, _, _, _, callO_f ((fsq_old hvx)) (fun e w h1 => cb w h1), ?_⟩))) | refine tri_seq ?_ | refine tri_block ?_ | refine tri_scope ?_ | refine tri_skip ?_ | refine tri_label ?_ | refine tri_ret ?_ | refine tri_exit ?_ | refine end_seq ?_ | refine end_block_exit ?_ | refine end_block_other rfl ?_ | refine end_block ?_ | refine end_block_ret ?_ | refine end_then_exit ?_ | refine end_then_ret ?_ | refine end_then ?_ | refine end_scope (fun _ h => by cases h) ?_ | refine tri_reg ?_ | refine tri_draw ?_ | refine walk1_end ?_ | (refine walk_endD ?_ ?_; (· kernel_rfl)) | refine tri_yes rfl (by first | omega | (simp <;> fail) | assumption) ?_ | refine tri_no rfl (by first | omega | (simp <;> fail) | assumption) ?_ | refine tri_true rfl (by first | with_reducible rfl | with_reducible exact Bool.not_false | with_reducible assumption) ?_ | refine tri_false rfl (by first | with_reducible rfl | with_reducible exact Bool.not_true | with_reducible assumption) ?_)
  refine tri_loop (X := Nat) (fun k => ⟨[(12, SV.c (.int .i64 ((k : Nat) : Int))), (11, .v 44), (2, .p 2 0), (4, .p 4 0), (9, .p 9 0), (10, .p 10 0)], [(2, some (.blk 2 29 (.c (vals .u8 (key))))), (4, some (.blk 4 71 (.c (vals .u8 (List.replicate 16 0#8))))), (9, some (.blk 9 114 (.c (valsN r)))), (10, some (.blk 10 114 (.c (valsN (rhK r msg k))))), (44, some (.own 44 75 17 nb (valsL .u8 L)))]⟩)
    (fun k => k ≤ nb) (fun k => nb - k) 0 (by omega) (by rw [hr0]; exact ent_keep (by repeat (first | exact hasT_nil | refine hasT_cons rfl ?_ | refine hasT_eq rfl (svi (by omega)) ?_)) (by repeat (first | exact hasR_nil | refine hasR_cons rfl ?_))) ?_
  intro k hk K next
  by_cases h : k < nb
  · have hXl : ((L.drop (0 + k * 17)).take 17).length = 17 := by rw [List.length_take, List.length_drop, hbl]; omega
    have hak := hat k h
    obtain ⟨m1, m2, m3, m4⟩ := dig_mid (r := r) (msg := msg) k (hrh k).1
    have hdk := (hrh k).1
    have hSk := hrS k
    rw [← hak] at m1 m2 m3 m4 hSk
    have cdk := fun w => cdg _ hXl w
    have cck := fun w => cca _ m2 m3 w
    have ctk := fun w => ct _ r m4.small hrd.small w
    have hyl := m4.1
    have hnx := next
    clear next hrS hat hrh cl hLd
    have hhl := hdk.1
    have b2 := s5_dig hdk
    repeat (first | (show Walk1 _ _ _ (_ :: _) _ _; first | (show Walk1 _ _ _ (⟨_, .move _, _, _, _, _⟩ :: _) _ _; first | refine walk1_t (op_move rfl rfl rfl rfl) ?_) | (show Walk1 _ _ _ (⟨_, .binOp .lss _ _ _ _, _, _, _, _⟩ :: _) _ _; first | refine walk1_t (op_ltN rfl rfl rfl (by first | exact evN_const rfl | exact rfl) (by first | exact evN_const rfl | exact rfl)) ?_) | (show Walk1 _ _ _ (⟨_, .indexAddr _ _ _, _, _, _, _⟩ :: _) _ _; first | refine walk1_t (op_idxV rfl rfl rfl rfl rfl (by first | exact evK_const rfl | exact evK_tmp rfl) rfl rfl (by first | omega | decide) rfl) ?_) | (show Walk1 _ _ _ (⟨_, .load _ _, _, _, _, _⟩ :: _) _ _; first | refine walk1_t (op_loadsR rfl rfl rfl rfl rfl rfl rfl rfl (by decide) (by first | omega | (simp; omega))) ?_) | (show Walk1 _ _ _ (⟨_, .call ⟨.builtin .len, _, _⟩, _, _, _, _⟩ :: _) _ _; first | refine walk1_t (op_lenV rfl rfl rfl rfl) ?_)) | refine tri_seq ?_ | refine tri_block ?_ | refine tri_scope ?_ | refine tri_skip ?_ | refine tri_label ?_ | refine tri_ret ?_ | refine tri_exit ?_ | refine end_seq ?_ | refine end_block_exit ?_ | refine end_block_other rfl ?_ | refine end_block ?_ | refine end_block_ret ?_ | refine end_then_exit ?_ | refine end_then_ret ?_ | refine end_then ?_ | refine end_scope (fun _ h => by cases h) ?_ | refine tri_reg ?_ | refine tri_draw ?_ | refine walk1_end ?_ | (refine walk_endD ?_ ?_; (· kernel_rfl)) | refine tri_yes rfl (by first | omega | (simp <;> fail) | assumption) ?_ | refine tri_no rfl (by first | omega | (simp <;> fail) | assumption) ?_ | refine tri_true rfl (by first | with_reducible rfl | with_reducible exact Bool.not_false | with_reducible assumption) ?_ | refine tri_false rfl (by first | with_reducible rfl | with_reducible exact Bool.not_true | with_reducible assumption) ?_)
    generalize (L.drop (0 + k * 17)).take 17 = B at *
    generalize hDD : digK B 136 = D at *
    generalize rhK r msg k = g at *
    have b1 := s5_dig m1
    have hDl := m1.1
    have hal := fun j => (addD_length D g j).trans m1.1
    have hts : ∀ j, j < 5 → gtN (addD D g j) j = gtN D j := by
      obtain ⟨a, b, c, e, f, rfl⟩ := list5 m1.1
      intro j hj
      match j, hj with
      | 0, _ => rfl
      | 1, _ => rfl
      | 2, _ => rfl
      | 3, _ => rfl
      | 4, _ => rfl
    repeat (first | (show Walk1 _ _ _ (_ :: _) _ _; first | (show Walk1 _ _ _ (⟨_, .assign _, _, _, _, _⟩ :: _) _ _; first | refine walk1_t (op_assignN rfl rfl rfl rfl) ?_) | (show Walk1 _ _ _ (⟨_, .store _ _ _, _, _, _, _⟩ :: _) _ _; first | refine walk1_b (op_storesN rfl rfl rfl rfl rfl rfl rfl (by first | exact (valsN_size _).trans (by first | rfl | omega) | rfl) (by first | rfl | omega)) ?_) | (show Walk1 _ _ _ (⟨_, .alloc _, _, _, _, _⟩ :: _) _ _; first | refine walk1_n (op_allocN rfl rfl rfl rfl rfl rfl) (by kernel_rfl) ?_) | (show Walk1 _ _ _ (⟨_, .call ⟨.value (.func 82), _, _⟩, _, _, _, _⟩ :: _) _ _; first | ((first | refine walk1_call rfl rfl rfl rfl (by repeat (first | exact evs_nil | apply evs_cons rfl)) rfl ?_ | refine walk1_call0 rfl rfl rfl (by repeat (first | exact evs_nil | apply evs_cons rfl)) rfl ?_); refine ⟨_, fun e w => cdk w, ?_⟩))) | refine tri_seq ?_ | refine tri_block ?_ | refine tri_scope ?_ | refine tri_skip ?_ | refine tri_label ?_ | refine tri_ret ?_ | refine tri_exit ?_ | refine end_seq ?_ | refine end_block_exit ?_ | refine end_block_other rfl ?_ | refine end_block ?_ | refine end_block_ret ?_ | refine end_then_exit ?_ | refine end_then_ret ?_ | refine end_then ?_ | refine end_scope (fun _ h => by cases h) ?_ | refine tri_reg ?_ | refine tri_draw ?_ | refine walk1_end ?_ | (refine walk_endD ?_ ?_; (· kernel_rfl)) | refine tri_yes rfl (by first | omega | (simp <;> fail) | assumption) ?_ | refine tri_no rfl (by first | omega | (simp <;> fail) | assumption) ?_ | refine tri_true rfl (by first | with_reducible rfl | with_reducible exact Bool.not_false | with_reducible assumption) ?_ | refine tri_false rfl (by first | with_reducible rfl | with_reducible exact Bool.not_true | with_reducible assumption) ?_)
    refine tri_loop (X := Nat) (fun j => ⟨[(14, SV.c (.int .i64 ((j : Nat) : Int))), (12, SV.c (.int .i64 ((k : Nat) : Int))), (11, .v 44), (2, .p 2 0), (4, .p 4 0), (9, .p 9 0), (10, .p 10 0), (13, .p 13 0)], [(2, some (.blk 2 29 (.c (vals .u8 (key))))), (4, some (.blk 4 71 (.c (vals .u8 (List.replicate 16 0#8))))), (9, some (.blk 9 114 (.c (valsN r)))), (10, some (.blk 10 114 (.c (valsN g)))), (13, some (.blk 13 114 (.c (valsN (addD D g j))))), (44, some (.own 44 75 17 nb (valsL .u8 L)))]⟩)
      (fun j => j ≤ 5) (fun j => 5 - j) 0 (by omega) (ent_keep (by repeat (first | exact hasT_nil | refine hasT_cons rfl ?_ | refine hasT_eq rfl (svi (by omega)) ?_)) (by repeat (first | exact hasR_nil | refine hasR_cons rfl ?_))) ?_
    intro j hj K1 next1
    have hEl := hal j
    by_cases h5 : j < 5
    · have hEj := hts j h5
      have hcj : addD D g (j + 1) = (addD D g j).set j (gtN (addD D g j) j + gtN g j) := rfl
      have c1 := s5_le (d := D) h5
      have c2 := s5_le (d := g) h5
      generalize addD D g j = E at *
      repeat (first | (show Walk1 _ _ _ (_ :: _) _ _; first | (show Walk1 _ _ _ (⟨_, .move _, _, _, _, _⟩ :: _) _ _; first | refine walk1_t (op_move rfl rfl rfl rfl) ?_) | (show Walk1 _ _ _ (⟨_, .assign _, _, _, _, _⟩ :: _) _ _; first | refine walk1_t (op_assign rfl rfl rfl rfl) ?_) | (show Walk1 _ _ _ (⟨_, .binOp .add _ _ _ _, _, _, _, _⟩ :: _) _ _; first | refine walk1_t (op_addN rfl rfl rfl (by first | exact evN_const rfl | exact rfl) (by first | exact evN_const rfl | exact rfl) (by omega)) ?_) | (show Walk1 _ _ _ (⟨_, .binOp .lss _ _ _ _, _, _, _, _⟩ :: _) _ _; first | refine walk1_t (op_ltN rfl rfl rfl (by first | exact evN_const rfl | exact rfl) (by first | exact evN_const rfl | exact rfl)) ?_)) | (show WalkTo _ _ _ _ (_ :: _) _ _ _; first | (show WalkTo _ _ _ _ (⟨_, .move _, _, _, _, _⟩ :: _) _ _ _; first | refine walk_t (op_move rfl rfl rfl rfl) ?_) | (show WalkTo _ _ _ _ (⟨_, .binOp .add _ _ _ _, _, _, _, _⟩ :: _) _ _ _; first | refine walk_t (op_addN rfl rfl rfl (by first | exact evN_const rfl | exact rfl) (by first | exact evN_const rfl | exact rfl) (by omega)) ?_) | (show WalkTo _ _ _ _ (⟨_, .indexAddr _ _ _, _, _, _, _⟩ :: _) _ _ _; first | refine walk_t (op_idxP rfl rfl rfl rfl (by first | exact evK_const rfl | exact evK_tmp rfl) rfl rfl (by first | omega | decide) off_one) ?_) | (show WalkTo _ _ _ _ (⟨_, .load _ _, _, _, _, _⟩ :: _) _ _ _; first | refine walk_t (op_loadN rfl rfl rfl rfl rfl rfl rfl (by first | omega | decide)) ?_) | (show WalkTo _ _ _ _ (⟨_, .store _ _ _, _, _, _, _⟩ :: _) _ _ _; first | refine walk_b (op_storeN rfl rfl rfl rfl rfl rfl rfl (by first | omega | decide)) ?_)) | refine tri_seq ?_ | refine tri_block ?_ | refine tri_scope ?_ | refine tri_skip ?_ | refine tri_label ?_ | refine tri_ret ?_ | refine tri_exit ?_ | refine end_seq ?_ | refine end_block_exit ?_ | refine end_block_other rfl ?_ | refine end_block ?_ | refine end_block_ret ?_ | refine end_then_exit ?_ | refine end_then_ret ?_ | refine end_then ?_ | refine end_scope (fun _ h => by cases h) ?_ | refine tri_reg ?_ | refine tri_draw ?_ | refine walk1_end ?_ | (refine walk_endD ?_ ?_; (· kernel_rfl)) | refine tri_yes rfl (by first | omega | (simp <;> fail) | assumption) ?_ | refine tri_no rfl (by first | omega | (simp <;> fail) | assumption) ?_ | refine tri_true rfl (by first | with_reducible rfl | with_reducible exact Bool.not_false | with_reducible assumption) ?_ | refine tri_false rfl (by first | with_reducible rfl | with_reducible exact Bool.not_true | with_reducible assumption) ?_)
      rw [← hcj]
      exact next1 _ (j + 1) (by omega) (by omega) (ent_keep (by repeat (first | exact hasT_nil | refine hasT_cons rfl ?_ | refine hasT_eq rfl (svi (by omega)) ?_)) (by repeat (first | exact hasR_nil | refine hasR_cons rfl ?_)))
    · obtain rfl : j = 5 := by omega
      clear hal hts next1
      generalize addD D g 5 = E at *
      generalize carR (2 ^ 26) E 3 = F at *
      generalize timO F r 5 = G at *
      generalize hGG : carR (2 ^ 26) G 3 = Y at *
      have hYl : Y.length = 5 := by
        have := hrhl (k + 1)
        rw [hSk] at this
        exact this
      repeat (first | (show Walk1 _ _ _ (_ :: _) _ _; first | (show Walk1 _ _ _ (⟨_, .move _, _, _, _, _⟩ :: _) _ _; first | refine walk1_t (op_move rfl rfl rfl rfl) ?_) | (show Walk1 _ _ _ (⟨_, .assign _, _, _, _, _⟩ :: _) _ _; first | refine walk1_t (op_assign rfl rfl rfl rfl) ?_) | (show Walk1 _ _ _ (⟨_, .binOp .add _ _ _ _, _, _, _, _⟩ :: _) _ _; first | refine walk1_t (op_addN rfl rfl rfl (by first | exact evN_const rfl | exact rfl) (by first | exact evN_const rfl | exact rfl) (by omega)) ?_) | (show Walk1 _ _ _ (⟨_, .binOp .lss _ _ _ _, _, _, _, _⟩ :: _) _ _; first | refine walk1_t (op_ltN rfl rfl rfl (by first | exact evN_const rfl | exact rfl) (by first | exact evN_const rfl | exact rfl)) ?_)) | (show WalkTo _ _ _ _ (_ :: _) _ _ _; first | (show WalkTo _ _ _ _ (⟨_, .load _ _, _, _, _, _⟩ :: _) _ _ _; first | refine walk_t (op_loadsN rfl rfl rfl rfl rfl rfl rfl rfl (by first | rfl | omega)) ?_) | (show WalkTo _ _ _ _ (⟨_, .store _ _ _, _, _, _, _⟩ :: _) _ _ _; first | refine walk_b (op_storesN rfl rfl rfl rfl rfl rfl rfl (by first | exact (valsN_size _).trans (by first | rfl | omega) | rfl) (by first | rfl | omega)) ?_) | (show WalkTo _ _ _ _ (⟨_, .call ⟨.value (.func 84), _, _⟩, _, _, _, _⟩ :: _) _ _ _; first | ((first | refine walk_call rfl rfl rfl rfl (by repeat (first | exact evs_nil | apply evs_cons rfl)) rfl ?_ | refine walk_call0 rfl rfl rfl (by repeat (first | exact evs_nil | apply evs_cons rfl)) rfl ?_); refine ⟨_, fun e w => cck w, ?_⟩)) | (show WalkTo _ _ _ _ (⟨_, .call ⟨.value (.func 83), _, _⟩, _, _, _, _⟩ :: _) _ _ _; first | ((first | refine walk_call rfl rfl rfl rfl (by repeat (first | exact evs_nil | apply evs_cons rfl)) rfl ?_ | refine walk_call0 rfl rfl rfl (by repeat (first | exact evs_nil | apply evs_cons rfl)) rfl ?_); refine ⟨_, fun e w => ctk w, ?_⟩))) | refine tri_seq ?_ | refine tri_block ?_ | refine tri_scope ?_ | refine tri_skip ?_ | refine tri_label ?_ | refine tri_ret ?_ | refine tri_exit ?_ | refine end_seq ?_ | refine end_block_exit ?_ | refine end_block_other rfl ?_ | refine end_block ?_ | refine end_block_ret ?_ | refine end_then_exit ?_ | refine end_then_ret ?_ | refine end_then ?_ | refine end_scope (fun _ h => by cases h) ?_ | refine tri_reg ?_ | refine tri_draw ?_ | refine walk1_end ?_ | (refine walk_endD ?_ ?_; (· kernel_rfl)) | refine tri_yes rfl (by first | omega | (simp <;> fail) | assumption) ?_ | refine tri_no rfl (by first | omega | (simp <;> fail) | assumption) ?_ | refine tri_true rfl (by first | with_reducible rfl | with_reducible exact Bool.not_false | with_reducible assumption) ?_ | refine tri_false rfl (by first | with_reducible rfl | with_reducible exact Bool.not_true | with_reducible assumption) ?_)
      rw [← hSk]
      refine hnx _ (k + 1) (by omega) (by omega) ?_
      exact ent_keep (by repeat (first | exact hasT_nil | refine hasT_cons rfl ?_ | refine hasT_eq rfl (svi (by omega)) ?_)) (by repeat (first | exact hasR_nil | refine hasR_cons rfl ?_))
  · obtain rfl : k = nb := by omega
    have hgl := (hrh k).1.1
    clear next hrS hat hrh hrhl hr0
    have hHl := hLd.1
    generalize rhK r msg k = g at *
    repeat (first | (show Walk1 _ _ _ (_ :: _) _ _; first | (show Walk1 _ _ _ (⟨_, .move _, _, _, _, _⟩ :: _) _ _; first | refine walk1_t (op_move rfl rfl rfl rfl) ?_) | (show Walk1 _ _ _ (⟨_, .assign _, _, _, _, _⟩ :: _) _ _; first | refine walk1_t (op_assignN rfl rfl rfl rfl) ?_) | (show Walk1 _ _ _ (⟨_, .binOp .lss _ _ _ _, _, _, _, _⟩ :: _) _ _; first | refine walk1_t (op_ltN rfl rfl rfl (by first | exact evN_const rfl | exact rfl) (by first | exact evN_const rfl | exact rfl)) ?_) | (show Walk1 _ _ _ (⟨_, .load _ _, _, _, _, _⟩ :: _) _ _; first | refine walk1_t (op_loadsN rfl rfl rfl rfl rfl rfl rfl rfl (by first | rfl | omega)) ?_) | (show Walk1 _ _ _ (⟨_, .store _ _ _, _, _, _, _⟩ :: _) _ _; first | refine walk1_b (op_storesN rfl rfl rfl rfl rfl rfl rfl (by first | exact (valsN_size _).trans (by first | rfl | omega) | rfl) (by first | rfl | omega)) ?_) | (show Walk1 _ _ _ (⟨_, .alloc _, _, _, _, _⟩ :: _) _ _; first | refine walk1_n (op_allocV rfl rfl rfl rfl rfl rfl rfl) (by kernel_rfl) ?_) | (show Walk1 _ _ _ (⟨_, .call ⟨.builtin .len, _, _⟩, _, _, _, _⟩ :: _) _ _; first | refine walk1_t (op_lenV rfl rfl rfl rfl) ?_) | (show Walk1 _ _ _ (⟨_, .call ⟨.value (.func 85), _, _⟩, _, _, _, _⟩ :: _) _ _; first | ((first | refine walk1_call rfl rfl rfl rfl (by repeat (first | exact evs_nil | apply evs_cons rfl)) rfl ?_ | refine walk1_call0 rfl rfl rfl (by repeat (first | exact evs_nil | apply evs_cons rfl)) rfl ?_); refine ⟨_, fun e w => cl w, ?_⟩))) | refine tri_seq ?_ | refine tri_block ?_ | refine tri_scope ?_ | refine tri_skip ?_ | refine tri_label ?_ | refine tri_ret ?_ | refine tri_exit ?_ | refine end_seq ?_ | refine end_block_exit ?_ | refine end_block_other rfl ?_ | refine end_block ?_ | refine end_block_ret ?_ | refine end_then_exit ?_ | refine end_then_ret ?_ | refine end_then ?_ | refine end_scope (fun _ h => by cases h) ?_ | refine tri_reg ?_ | refine tri_draw ?_ | refine walk1_end ?_ | (refine walk_endD ?_ ?_; (· kernel_rfl)) | refine tri_yes rfl (by first | omega | (simp <;> fail) | assumption) ?_ | refine tri_no rfl (by first | omega | (simp <;> fail) | assumption) ?_ | refine tri_true rfl (by first | with_reducible rfl | with_reducible exact Bool.not_false | with_reducible assumption) ?_ | refine tri_false rfl (by first | with_reducible rfl | with_reducible exact Bool.not_true | with_reducible assumption) ?_)
    clear cb ct cca cdg cl cd cc hrd
    generalize hss : key.drop 16 = s at *
    have hz16 : (List.replicate 16 0#8).length = 16 := by simp
    have htl := toP_length s H
    have htc := fun i hi => tcK_le (s := s) hLd i hi
    have htl16 := htl 16
    refine tri_loop (X := Nat) (fun i => ⟨[(17, SV.c (.int .i64 ((i : Nat) : Int))), (16, SV.c (.int .i64 ((tcK s H i : Nat) : Int))), (15, .p 15 0), (2, .p 2 0), (4, .p 4 0), (10, .p 10 0)], [(2, some (.blk 2 29 (.c (vals .u8 (key))))), (4, some (.blk 4 71 (.c (vals .u8 (List.replicate 16 0#8))))), (10, some (.blk 10 114 (.c (valsN H)))), (15, some (.blk 15 71 (.c (vals .u8 (toP s H i ++ List.replicate (16 - i) 0#8)))))]⟩)
      (fun i => i ≤ 16) (fun i => 16 - i) 0 (by omega) (ent_keep (by repeat (first | exact hasT_nil | refine hasT_cons rfl ?_ | refine hasT_eq rfl (svi (by omega)) ?_)) (by repeat (first | exact hasR_nil | refine hasR_cons rfl ?_))) ?_
    intro i hi K2 next2
    have hll := htl i
    by_cases hi16 : i < 16
    · have hci : tcK s H (i + 1) = xK H i ((gt s i).toNat + tcK s H i) 8 / 2 ^ 8 := rfl
      have hpi : toP s H (i + 1) = toP s H i ++ [BitVec.ofNat 8 (xK H i ((gt s i).toNat + tcK s H i) 8)] := rfl
      have hset := app_zsetP (n := 16) (x := BitVec.ofNat 8 (xK H i ((gt s i).toNat + tcK s H i) 8)) hll hi16
      rw [← hpi] at hset
      have hXl : (toP s H i ++ List.replicate (16 - i) 0#8).length = 16 := by rw [List.length_append, hll, List.length_replicate]; omega
      have htci := htc i hi
      have hsi := hsg i
      have hgs := (gt s i).isLt
      clear hpi
      generalize toP s H i ++ List.replicate (16 - i) 0#8 = X at *
      generalize tcK s H i = t at *
      have hnx := next2
      clear next2 htl htc
      rw [hsi] at hci hset hgs
      have hxv := fun k hk => xK_val hLd hi16 ((gt key (16 + i)).toNat + t) k hk
      have hbit := fun k => (show xK H i ((gt key (16 + i)).toNat + t) (k + 1) = xK H i ((gt key (16 + i)).toNat + t) k + (gtN H ((8 * i + k) / 26) / 2 ^ ((8 * i + k) % 26) &&& 1) * 2 ^ k from rfl)
      repeat (first | (show Walk1 _ _ _ (_ :: _) _ _; first | (show Walk1 _ _ _ (⟨_, .move _, _, _, _, _⟩ :: _) _ _; first | refine walk1_t (op_move rfl rfl rfl rfl) ?_) | (show Walk1 _ _ _ (⟨_, .assign _, _, _, _, _⟩ :: _) _ _; first | refine walk1_t (op_assignN rfl rfl rfl rfl) ?_ | refine walk1_t (op_assign rfl rfl rfl rfl) ?_) | (show Walk1 _ _ _ (⟨_, .binOp .add _ _ _ _, _, _, _, _⟩ :: _) _ _; first | refine walk1_t (op_addN rfl rfl rfl (by first | exact evN_const rfl | exact rfl) (by first | exact evN_const rfl | exact rfl) (by omega)) ?_) | (show Walk1 _ _ _ (⟨_, .binOp .lss _ _ _ _, _, _, _, _⟩ :: _) _ _; first | refine walk1_t (op_ltN rfl rfl rfl (by first | exact evN_const rfl | exact rfl) (by first | exact evN_const rfl | exact rfl)) ?_) | (show Walk1 _ _ _ (⟨_, .indexAddr _ _ _, _, _, _, _⟩ :: _) _ _; first | refine walk1_t (op_idxP rfl rfl rfl rfl (by first | exact evK_const rfl | exact evK_tmp rfl) rfl rfl (by first | omega | decide) off_one) ?_) | (show Walk1 _ _ _ (⟨_, .load _ _, _, _, _, _⟩ :: _) _ _; first | refine walk1_t (op_load rfl rfl rfl rfl rfl rfl rfl) ?_) | (show Walk1 _ _ _ (⟨_, .convert _ _ _, _, _, _, _⟩ :: _) _ _; first | refine walk1_t (op_convBN rfl rfl rfl (by (first | exact evB_tmp rfl | exact evB_lit rfl rfl)) rfl rfl (by omega)) ?_)) | refine tri_seq ?_ | refine tri_block ?_ | refine tri_scope ?_ | refine tri_skip ?_ | refine tri_label ?_ | refine tri_ret ?_ | refine tri_exit ?_ | refine end_seq ?_ | refine end_block_exit ?_ | refine end_block_other rfl ?_ | refine end_block ?_ | refine end_block_ret ?_ | refine end_then_exit ?_ | refine end_then_ret ?_ | refine end_then ?_ | refine end_scope (fun _ h => by cases h) ?_ | refine tri_reg ?_ | refine tri_draw ?_ | refine walk1_end ?_ | (refine walk_endD ?_ ?_; (· kernel_rfl)) | refine tri_yes rfl (by first | omega | (simp <;> fail) | assumption) ?_ | refine tri_no rfl (by first | omega | (simp <;> fail) | assumption) ?_ | refine tri_true rfl (by first | with_reducible rfl | with_reducible exact Bool.not_false | with_reducible assumption) ?_ | refine tri_false rfl (by first | with_reducible rfl | with_reducible exact Bool.not_true | with_reducible assumption) ?_)
      refine tri_loop (X := Nat) (fun k => ⟨[(19, SV.c (.int .i64 ((k : Nat) : Int))), (18, SV.c (.int .i64 ((xK H i ((gt key (16 + i)).toNat + t) k : Nat) : Int))), (17, SV.c (.int .i64 ((i : Nat) : Int))), (15, .p 15 0), (2, .p 2 0), (4, .p 4 0), (10, .p 10 0)], [(2, some (.blk 2 29 (.c (vals .u8 (key))))), (4, some (.blk 4 71 (.c (vals .u8 (List.replicate 16 0#8))))), (10, some (.blk 10 114 (.c (valsN H)))), (15, some (.blk 15 71 (.c (vals .u8 (X)))))]⟩)
        (fun k => k ≤ 8) (fun k => 8 - k) 0 (by omega) (ent_keep (by repeat (first | exact hasT_nil | refine hasT_cons rfl ?_ | refine hasT_eq rfl (svi (by omega)) ?_)) (by repeat (first | exact hasR_nil | refine hasR_cons rfl ?_))) ?_
      intro k hk K3 next3
      have hx1 := hxv k hk
      have hx2 := Nat.mod_lt (v5 H / 2 ^ (8 * i)) (Nat.two_pow_pos k)
      have hx3 : 2 ^ k ≤ 256 := Nat.le_trans (Nat.pow_le_pow_right (by omega) hk) (by decide)
      have hx4 : xK H i ((gt key (16 + i)).toNat + t) k < 1000 := by omega
      clear hx1 hx2
      by_cases h8 : k < 8
      · have hq : gtN H ((8 * i + k) / 26) / 2 ^ ((8 * i + k) % 26) < 67108864 := by
          refine Nat.lt_of_le_of_lt (Nat.div_le_self _ _) ?_
          rw [← v5_digit hLd (show (8 * i + k) / 26 < 5 by omega)]
          exact Nat.mod_lt _ (by decide)
        have hz : (gtN H ((8 * i + k) / 26) / 2 ^ ((8 * i + k) % 26) &&& 1) * 2 ^ k ≤ 256 := by
          rw [Nat.and_one_is_mod]
          have : gtN H ((8 * i + k) / 26) / 2 ^ ((8 * i + k) % 26) % 2 ≤ 1 := by omega
          exact Nat.le_trans (Nat.mul_le_mul_right _ this) (by rw [Nat.one_mul]; exact hx3)
        clear hset hci hsi hXl hgs hx3 htl16 hz16 hll hgl hnb hbl hxv
        generalize hx0 : xK H i ((gt key (16 + i)).toNat + t) k = x at *
        have n1 : gtN H ((8 * i + k) / 26) / 2 ^ ((8 * i + k) % 26) < 9223372036854775808 ∧ 1 < 9223372036854775808 := ⟨Nat.lt_trans hq (by decide), by decide⟩
        have n2 : (gtN H ((8 * i + k) / 26) / 2 ^ ((8 * i + k) % 26) &&& 1) * 2 ^ k < 9223372036854775808 := Nat.lt_of_le_of_lt hz (by decide)
        have n3 : x + (gtN H ((8 * i + k) / 26) / 2 ^ ((8 * i + k) % 26) &&& 1) * 2 ^ k < 9223372036854775808 := Nat.lt_of_lt_of_le (Nat.add_lt_add_of_lt_of_le hx4 hz) (by decide)
        clear hq hz
        repeat (first | (show Walk1 _ _ _ (_ :: _) _ _; first | (show Walk1 _ _ _ (⟨_, .move _, _, _, _, _⟩ :: _) _ _; first | refine walk1_t (op_move rfl rfl rfl rfl) ?_) | (show Walk1 _ _ _ (⟨_, .assign _, _, _, _, _⟩ :: _) _ _; first | refine walk1_t (op_assign rfl rfl rfl rfl) ?_) | (show Walk1 _ _ _ (⟨_, .binOp .add _ _ _ _, _, _, _, _⟩ :: _) _ _; first | refine walk1_t (op_addN rfl rfl rfl (by first | exact evN_const rfl | exact rfl) (by first | exact evN_const rfl | exact rfl) (by first | assumption | omega)) ?_) | (show Walk1 _ _ _ (⟨_, .binOp .mul _ _ _ _, _, _, _, _⟩ :: _) _ _; first | refine walk1_t (op_mulN rfl rfl rfl (by first | exact evN_const rfl | exact rfl) (by first | exact evN_const rfl | exact rfl) (by first | assumption | omega)) ?_) | (show Walk1 _ _ _ (⟨_, .binOp .quo _ _ _ _, _, _, _, _⟩ :: _) _ _; first | refine walk1_t (op_divN rfl rfl rfl (by first | exact evN_const rfl | exact rfl) (by first | exact evN_const rfl | exact rfl) (by first | assumption | omega)) ?_) | (show Walk1 _ _ _ (⟨_, .binOp .rem _ _ _ _, _, _, _, _⟩ :: _) _ _; first | refine walk1_t (op_remN rfl rfl rfl (by first | exact evN_const rfl | exact rfl) (by first | exact evN_const rfl | exact rfl) (by first | assumption | omega)) ?_) | (show Walk1 _ _ _ (⟨_, .binOp .lss _ _ _ _, _, _, _, _⟩ :: _) _ _; first | refine walk1_t (op_ltN rfl rfl rfl (by first | exact evN_const rfl | exact rfl) (by first | exact evN_const rfl | exact rfl)) ?_) | (show Walk1 _ _ _ (⟨_, .binOp .and _ _ _ _, _, _, _, _⟩ :: _) _ _; first | refine walk1_t (op_andN rfl rfl rfl (by first | exact evN_const rfl | exact rfl) (by first | exact evN_const rfl | exact rfl) (by first | assumption | omega)) ?_) | (show Walk1 _ _ _ (⟨_, .binOp .shr _ _ _ _, _, _, _, _⟩ :: _) _ _; first | refine walk1_t (op_shrN rfl rfl rfl (by first | exact evN_const rfl | exact rfl) (by first | exact evK_const rfl | exact evK_tmp rfl) (by first | assumption | omega)) ?_) | (show Walk1 _ _ _ (⟨_, .binOp .shl _ _ _ _, _, _, _, _⟩ :: _) _ _; first | refine walk1_t (op_shlN rfl rfl rfl (by first | exact evN_const rfl | exact rfl) (by first | exact evK_const rfl | exact evK_tmp rfl) (by first | assumption | omega) (by first | assumption | omega)) ?_) | (show Walk1 _ _ _ (⟨_, .indexAddr _ _ _, _, _, _, _⟩ :: _) _ _; first | refine walk1_t (op_idxP rfl rfl rfl rfl (by first | exact evK_const rfl | exact evK_tmp rfl) rfl rfl (by first | omega | decide) off_one) ?_) | (show Walk1 _ _ _ (⟨_, .load _ _, _, _, _, _⟩ :: _) _ _; first | refine walk1_t (op_loadN rfl rfl rfl rfl rfl rfl rfl (by first | omega | decide)) ?_)) | refine tri_seq ?_ | refine tri_block ?_ | refine tri_scope ?_ | refine tri_skip ?_ | refine tri_label ?_ | refine tri_ret ?_ | refine tri_exit ?_ | refine end_seq ?_ | refine end_block_exit ?_ | refine end_block_other rfl ?_ | refine end_block ?_ | refine end_block_ret ?_ | refine end_then_exit ?_ | refine end_then_ret ?_ | refine end_then ?_ | refine end_scope (fun _ h => by cases h) ?_ | refine tri_reg ?_ | refine tri_draw ?_ | refine walk1_end ?_ | (refine walk_endD ?_ ?_; (· kernel_rfl)) | refine tri_yes rfl (by first | omega | (simp <;> fail) | assumption) ?_ | refine tri_no rfl (by first | omega | (simp <;> fail) | assumption) ?_ | refine tri_true rfl (by first | with_reducible rfl | with_reducible exact Bool.not_false | with_reducible assumption) ?_ | refine tri_false rfl (by first | with_reducible rfl | with_reducible exact Bool.not_true | with_reducible assumption) ?_)
        rw [← hx0, ← hbit k]
        exact next3 _ (k + 1) (by omega) (by omega) (ent_keep (by repeat (first | exact hasT_nil | refine hasT_cons rfl ?_ | refine hasT_eq rfl (svi (by omega)) ?_)) (by repeat (first | exact hasR_nil | refine hasR_cons rfl ?_)))
      · obtain rfl : k = 8 := by omega
        clear hxv hbit next3
        generalize xK H i ((gt key (16 + i)).toNat + t) 8 = x at *
        repeat (first | (show Walk1 _ _ _ (_ :: _) _ _; first | (show Walk1 _ _ _ (⟨_, .move _, _, _, _, _⟩ :: _) _ _; first | refine walk1_t (op_move rfl rfl rfl rfl) ?_) | (show Walk1 _ _ _ (⟨_, .assign _, _, _, _, _⟩ :: _) _ _; first | refine walk1_t (op_assign rfl rfl rfl rfl) ?_) | (show Walk1 _ _ _ (⟨_, .binOp .add _ _ _ _, _, _, _, _⟩ :: _) _ _; first | refine walk1_t (op_addN rfl rfl rfl (by first | exact evN_const rfl | exact rfl) (by first | exact evN_const rfl | exact rfl) (by omega)) ?_) | (show Walk1 _ _ _ (⟨_, .binOp .lss _ _ _ _, _, _, _, _⟩ :: _) _ _; first | refine walk1_t (op_ltN rfl rfl rfl (by first | exact evN_const rfl | exact rfl) (by first | exact evN_const rfl | exact rfl)) ?_) | (show Walk1 _ _ _ (⟨_, .binOp .shr _ _ _ _, _, _, _, _⟩ :: _) _ _; first | refine walk1_t (op_shrN rfl rfl rfl (by first | exact evN_const rfl | exact rfl) (by first | exact evK_const rfl | exact evK_tmp rfl) (by omega)) ?_) | (show Walk1 _ _ _ (⟨_, .indexAddr _ _ _, _, _, _, _⟩ :: _) _ _; first | refine walk1_t (op_idxP rfl rfl rfl rfl (by first | exact evK_const rfl | exact evK_tmp rfl) rfl rfl (by first | omega | decide) off_one) ?_) | (show Walk1 _ _ _ (⟨_, .store _ _ _, _, _, _, _⟩ :: _) _ _; first | refine walk1_b (op_store rfl rfl rfl rfl rfl rfl rfl) ?_) | (show Walk1 _ _ _ (⟨_, .convert _ _ _, _, _, _, _⟩ :: _) _ _; first | refine walk1_t (op_convNB rfl rfl rfl (by first | exact evN_const rfl | exact rfl) rfl rfl) ?_)) | refine tri_seq ?_ | refine tri_block ?_ | refine tri_scope ?_ | refine tri_skip ?_ | refine tri_label ?_ | refine tri_ret ?_ | refine tri_exit ?_ | refine end_seq ?_ | refine end_block_exit ?_ | refine end_block_other rfl ?_ | refine end_block ?_ | refine end_block_ret ?_ | refine end_then_exit ?_ | refine end_then_ret ?_ | refine end_then ?_ | refine end_scope (fun _ h => by cases h) ?_ | refine tri_reg ?_ | refine tri_draw ?_ | refine walk1_end ?_ | (refine walk_endD ?_ ?_; (· kernel_rfl)) | refine tri_yes rfl (by first | omega | (simp <;> fail) | assumption) ?_ | refine tri_no rfl (by first | omega | (simp <;> fail) | assumption) ?_ | refine tri_true rfl (by first | with_reducible rfl | with_reducible exact Bool.not_false | with_reducible assumption) ?_ | refine tri_false rfl (by first | with_reducible rfl | with_reducible exact Bool.not_true | with_reducible assumption) ?_)
        rw [hset]
        refine hnx _ (i + 1) (by omega) (by omega) ?_
        rw [hci]
        exact ent_keep (by repeat (first | exact hasT_nil | refine hasT_cons rfl ?_ | refine hasT_eq rfl (svi (by omega)) ?_)) (by repeat (first | exact hasR_nil | refine hasR_cons rfl ?_))
    · obtain rfl : i = 16 := by omega
      rw [Nat.sub_self, List.replicate_zero, List.append_nil]
      clear htl htc next2 hll
      generalize toP s H 16 = O at *
      generalize tcK s H 16 = q at *
      repeat (first | (show Walk1 _ _ _ (_ :: _) _ _; first | (show Walk1 _ _ _ (⟨_, .move _, _, _, _, _⟩ :: _) _ _; first | refine walk1_t (op_move rfl rfl rfl rfl) ?_) | (show Walk1 _ _ _ (⟨_, .binOp .lss _ _ _ _, _, _, _, _⟩ :: _) _ _; first | refine walk1_t (op_ltN rfl rfl rfl (by first | exact evN_const rfl | exact rfl) (by first | exact evN_const rfl | exact rfl)) ?_) | (show Walk1 _ _ _ (⟨_, .load _ _, _, _, _, _⟩ :: _) _ _; first | refine walk1_t (op_loads rfl rfl rfl rfl rfl rfl rfl rfl) ?_) | (show Walk1 _ _ _ (⟨_, .store _ _ _, _, _, _, _⟩ :: _) _ _; first | refine walk1_b (op_stores rfl rfl rfl rfl rfl rfl rfl) ?_)) | refine tri_seq ?_ | refine tri_block ?_ | refine tri_scope ?_ | refine tri_skip ?_ | refine tri_label ?_ | refine tri_ret ?_ | refine tri_exit ?_ | refine end_seq ?_ | refine end_block_exit ?_ | refine end_block_other rfl ?_ | refine end_block ?_ | refine end_block_ret ?_ | refine end_then_exit ?_ | refine end_then_ret ?_ | refine end_then ?_ | refine end_scope (fun _ h => by cases h) ?_ | refine tri_reg ?_ | refine tri_draw ?_ | refine walk1_end ?_ | (refine walk_endD ?_ ?_; (· kernel_rfl)) | refine tri_yes rfl (by first | omega | (simp <;> fail) | assumption) ?_ | refine tri_no rfl (by first | omega | (simp <;> fail) | assumption) ?_ | refine tri_true rfl (by first | with_reducible rfl | with_reducible exact Bool.not_false | with_reducible assumption) ?_ | refine tri_false rfl (by first | with_reducible rfl | with_reducible exact Bool.not_true | with_reducible assumption) ?_)
      refine end_ret _ (res_cells rfl rfl rfl rfl rfl rfl (sm_vals (by omega)) ag_c) ?_
      exact fin_below fun _ => rfl
end Go.Proofs.Ytikopoimoaddhaa
