/- What is encoded is decoded as it was: in plain. No condition. What is encoded is decoded as it was. No condition. What is decoded is encoded to the same bytes. No condition. -/
import Derived.Test.YtlhedoodbadmgaaRecF1
import Derived.Test.YtlhedoodbadmgaaRecW3
namespace Go.Proofs.Ytlhedoodbadmgaa
open Go.RowKit
set_option maxRecDepth 100000
set_option maxHeartbeats 1000000
theorem leW_leN (k : Nat) (x : BitVec 64) : leN (leW k x) = x.toNat % 2 ^ (8 * k) := bytesN x k
theorem rdV_leW (k : Nat) (x : BitVec 64) (h : x.toNat < 2 ^ (8 * k)) (L : List (BitVec 8)) : rdV k (leW k x ++ L) = x := by
  unfold rdV
  rw [List.take_append_of_le_length (by rw [leW_length]; exact Nat.le_refl _), List.take_of_length_le (by rw [leW_length]; exact Nat.le_refl _), leW_leN, Nat.mod_eq_of_lt h]
  apply BitVec.eq_of_toNat_eq
  rw [BitVec.toNat_ofNat]
  exact Nat.mod_eq_of_lt x.isLt
theorem leW_rdV (k : Nat) (hk : k ≤ 8) (L : List (BitVec 8)) (h : k ≤ L.length) : leW k (rdV k L) = L.take k := by
  have h1 := rdV_lt k L hk
  have hl : (L.take k).length = k := by rw [List.length_take]; omega
  refine leN_inj (by rw [leW_length, hl]) ?_
  rw [leW_leN, h1.1]
  refine Nat.mod_eq_of_lt ?_
  rw [Nat.pow_mul]
  exact h1.2
/-- Numbers written, each in so many bytes. -/
def Fb (l : List (Nat × BitVec 64)) : List (BitVec 8) := l.flatMap fun p => leW p.1 p.2
theorem next_leW (k : Nat) (x : BitVec 64) (L : List (BitVec 8)) : nextR k ⟨leW k x ++ L, 0⟩ = ⟨L, 0⟩ := by
  unfold nextR
  have hl : k ≤ (leW k x ++ L).length := by rw [List.length_append, leW_length]; omega
  rw [if_pos rfl, if_pos hl, List.drop_left' (leW_length k x)]
theorem num_leW (k : Nat) (x : BitVec 64) (h : x.toNat < 2 ^ (8 * k)) (L : List (BitVec 8)) : numR k ⟨leW k x ++ L, 0⟩ = x := by
  unfold numR
  have hl : k ≤ (leW k x ++ L).length := by rw [List.length_append, leW_length]; omega
  rw [if_pos ⟨rfl, hl⟩]
  exact rdV_leW k x h L
theorem foldl_Fb (R : List (BitVec 8)) : ∀ l : List (Nat × BitVec 64), (l.map (·.1)).foldl (fun a k => nextR k a) ⟨Fb l ++ R, 0⟩ = ⟨R, 0⟩
  | [] => rfl
  | p :: l => by
    rw [List.map_cons, List.foldl_cons]
    have : Fb (p :: l) ++ R = leW p.1 p.2 ++ (Fb l ++ R) := by simp [Fb]
    rw [this, next_leW, foldl_Fb R l]
theorem aAt_Fb (l : List (Nat × BitVec 64)) (hk : l.map (·.1) = ksL) (R : List (BitVec 8)) (i : Nat) : aAt i ⟨Fb l ++ R, 0⟩ = ⟨Fb (l.drop i) ++ R, 0⟩ := by
  unfold aAt
  have h1 : Fb l ++ R = Fb (l.take i) ++ (Fb (l.drop i) ++ R) := by
    rw [← List.append_assoc]
    congr 1
    unfold Fb
    rw [← List.flatMap_append, List.take_append_drop]
  rw [← hk, ← List.map_take, h1, foldl_Fb]
theorem nAt_Fb (l : List (Nat × BitVec 64)) (hk : l.map (·.1) = ksL) (R : List (BitVec 8)) (i k : Nat) (x : BitVec 64) (hi : l[i]? = some (k, x)) (h : x.toNat < 2 ^ (8 * k)) : nAt i ⟨Fb l ++ R, 0⟩ = x := by
  have h1 : ksL[i]? = some k := by rw [← hk, List.getElem?_map, hi]; rfl
  rw [nAt_eq _ h1, aAt_Fb l hk]
  have h2 : l.drop i = (k, x) :: l.drop (i + 1) := by
    have hlt : i < l.length := (List.getElem?_eq_some_iff.1 hi).1
    rw [List.drop_eq_getElem_cons hlt]
    congr 1
    rw [List.getElem?_eq_getElem hlt] at hi
    exact Option.some.inj hi
  have h3 : Fb (l.drop i) ++ R = leW k x ++ (Fb (l.drop (i + 1)) ++ R) := by rw [h2]; simp [Fb]
  rw [h3]
  exact num_leW k x h _
theorem loop_put (R : List (BitVec 8)) : ∀ (ids acc : List (BitVec 64)), loopR ids.length ⟨putW 8 ids ++ R, 0⟩ acc = (acc ++ ids, ⟨R, 0⟩)
  | [], acc => by simp [loopR, putW]
  | x :: ids, acc => by
    have h1 : putW 8 (x :: ids) ++ R = leW 8 x ++ (putW 8 ids ++ R) := by simp [putW]
    rw [List.length_cons, h1]
    unfold loopR
    rw [if_pos rfl, next_leW, num_leW 8 x x.isLt, loop_put R ids]
    simp
theorem next_app (k : Nat) (A L : List (BitVec 8)) (h : A.length = k) : nextR k ⟨A ++ L, 0⟩ = ⟨L, 0⟩ := by
  unfold nextR
  rw [if_pos rfl, if_pos (by rw [List.length_append]; omega), List.drop_left' h]
theorem take_app (k : Nat) (A L : List (BitVec 8)) (h : A.length = k) : takeR k ⟨A ++ L, 0⟩ = A := by
  unfold takeR
  rw [if_pos ⟨rfl, by rw [List.length_append]; omega⟩]
  exact List.take_left' h
theorem padZ_full (l : List (BitVec 8)) (h : l.length = 32) : padZ l = l := by
  unfold padZ
  rw [h, Nat.min_self, List.take_of_length_le (by omega)]
  simp
theorem toInt_small (z : Int) (h0 : 0 ≤ z) (h1 : z < 9223372036854775808) : (BitVec.ofInt 64 z).toInt = z := by
  rw [BitVec.toInt_eq_toNat_cond, BitVec.toNat_ofInt]
  simp only [Nat.reducePow]
  split <;> omega
theorem sx_sg4 (z : Int) (h : -2147483648 ≤ z ∧ z < 2147483648) : sxI (sg4 z).toInt = z := by
  have h1 := sg4_val z h
  have h2 : (sg4 z).toInt = ((sg4 z).toNat : Int) := by rw [BitVec.toInt_eq_toNat_cond, if_pos (by omega)]
  rw [h2, h1]
  unfold sxI
  split <;> omega
/-- A record's numbers ahead of its assets'. -/
def fl (r : RecS) (n : Nat) : List (Nat × BitVec 64) :=
  [(1, BitVec.ofInt 64 r.layer), (1, BitVec.ofInt 64 r.view.w), (1, BitVec.ofInt 64 r.view.h), (1, BitVec.ofInt 64 r.view.samples), (1, BitVec.ofInt 64 r.view.depth), (1, BitVec.ofInt 64 r.view.cls), (8, r.view.seed),
   (4, sg4 r.view.cam.eye.x), (4, sg4 r.view.cam.eye.y), (4, sg4 r.view.cam.eye.z), (4, sg4 r.view.cam.right.x), (4, sg4 r.view.cam.right.y), (4, sg4 r.view.cam.right.z), (4, sg4 r.view.cam.up.x), (4, sg4 r.view.cam.up.y), (4, sg4 r.view.cam.up.z), (4, sg4 r.view.cam.ahead.x), (4, sg4 r.view.cam.ahead.y), (4, sg4 r.view.cam.ahead.z),
   (4, BitVec.ofInt 64 r.view.cam.lens), (4, BitVec.ofInt 64 r.view.cam.focus), (1, BitVec.ofInt 64 (b2i r.view.constant)), (8, BitVec.ofInt 64 r.steps.walk), (8, BitVec.ofInt 64 r.steps.texel), (8, BitVec.ofInt 64 r.steps.bounce), (2, BitVec.ofInt 64 (n : Int))]
theorem fl_ks (r : RecS) (n : Nat) : (fl r n).map (·.1) = ksL := rfl
def labL (r : RecS) : List (BitVec 8) := leW 4 (BitVec.ofInt 64 (r.label.toNat : Int)) ++ (leW 4 (BitVec.ofInt 64 (r.frm.toNat : Int)) ++ leW 4 (BitVec.ofInt 64 (r.til.toNat : Int)))
theorem encB_flat (r : RecS) (ids : List (BitVec 64)) : encB r ids = Fb (fl r ids.length) ++ (putW 8 ids ++ (labL r ++ (r.scene ++ r.planes))) := by
  unfold encB enc9 enc8 enc7 enc6 enc5 enc4 enc3 enc2 enc1
  generalize putW 8 ids = PI
  simp [putW, putP, sgW, sg4L, encZ1, encZ4, encZ6, encZ9, encPs, P3.l, Fb, fl, labL]
end Go.Proofs.Ytlhedoodbadmgaa
namespace Go.Proofs.Ytlhedoodbadmgaa
open Go.RowKit
set_option maxRecDepth 100000
set_option maxHeartbeats 2000000
theorem st_bounds (r : RecS) (h : recE r = 0) : (0 ≤ r.steps.walk ∧ r.steps.walk < 1358954497) ∧ (0 ≤ r.steps.texel ∧ r.steps.texel < 2359297) ∧ (0 ≤ r.steps.bounce ∧ r.steps.bounce < 589825) := by
  obtain ⟨_, _, hv, hs⟩ := rec_bounds r h
  obtain ⟨_, _, _, _, n0, n1⟩ := nV_bounds r.view hv
  have hl : r.steps.l = (wantS r.view).l := by simpa using hs
  have hw : r.steps.walk = (wantS r.view).walk ∧ r.steps.texel = (wantS r.view).texel ∧ r.steps.bounce = (wantS r.view).bounce := by
    unfold StepS.l at hl
    simpa using hl
  obtain ⟨w1, w2, w3⟩ := hw
  rw [w1, w2, w3]
  unfold wantS
  split
  · unfold costV
    rw [if_neg (by rw [hv]; simp)]
    dsimp only
    have hr : 0 ≤ roomV r.view.cls ∧ roomV r.view.cls ≤ 2304 := by
      unfold roomV
      split
      · omega
      · split <;> omega
    have m1 : nV r.view * roomV r.view.cls ≤ 589824 * 2304 := Int.mul_le_mul n1 hr.2 hr.1 (by omega)
    have m0 : 0 ≤ nV r.view * roomV r.view.cls := Int.mul_nonneg n0 hr.1
    omega
  · show (0 ≤ (0 : Int) ∧ (0 : Int) < _) ∧ (0 ≤ (0 : Int) ∧ (0 : Int) < _) ∧ (0 ≤ (0 : Int) ∧ (0 : Int) < _)
    decide
theorem ofI_fit (z : Int) (k : Nat) (hk : k = 1 ∨ k = 2 ∨ k = 4 ∨ k = 8) (h0 : 0 ≤ z) (h1 : z < 2 ^ (8 * k)) : (BitVec.ofInt 64 z).toNat < 2 ^ (8 * k) := by
  rw [BitVec.toNat_ofInt]
  simp only [Nat.reducePow]
  rcases hk with rfl | rfl | rfl | rfl <;> (simp only [Nat.reduceMul, Int.reducePow, Nat.reducePow] at h1 ⊢; omega)
theorem sg4_fit1 (z : Int) (h : -2147483648 ≤ z ∧ z < 2147483648) : (sg4 z).toNat < 2 ^ (8 * 4) := by
  rw [sg4_val z h]
  simp only [Nat.reduceMul, Nat.reducePow]
  omega
theorem num32 (x : BitVec 32) : ((BitVec.ofInt 64 (x.toNat : Int)).setWidth 32) = x ∧ (BitVec.ofInt 64 (x.toNat : Int)).toNat < 2 ^ (8 * 4) := by
  have hx := x.isLt
  have h1 : (BitVec.ofInt 64 (x.toNat : Int)).toNat = x.toNat := by
    rw [BitVec.toNat_ofInt]
    simp only [Nat.reducePow]
    omega
  refine ⟨?_, by rw [h1]; exact hx⟩
  apply BitVec.eq_of_toNat_eq
  rw [BitVec.toNat_setWidth, h1]
  exact Nat.mod_eq_of_lt hx
theorem p3_eta (p : P3) (x y z : Int) (hx : x = p.x) (hy : y = p.y) (hz : z = p.z) : (⟨x, y, z⟩ : P3) = p := by subst hx hy hz; rfl
theorem enc_dec (r : RecS) (hok : r.ok) (ids : List (BitVec 64)) (hl : ids.length ≤ 200) (h : recE r = 0) : errR ⟨encB r ids, 0⟩ = 0 ∧ recR ⟨encB r ids, 0⟩ = r ∧ (idsR ⟨encB r ids, 0⟩).1 = ids := by
  obtain ⟨l0, l7, hv, _⟩ := rec_bounds r h
  obtain ⟨he, hr, hu, ha, ⟨s1, s2, s3, s4, s5, s6, s7, s8⟩, ⟨v1, v2, v3, v4, v5, v6⟩⟩ := view_bounds r.view hv
  obtain ⟨e1, e2, e3, e4, e5, e6⟩ := in_bounds he
  obtain ⟨a1, a2, a3, a4, a5, a6⟩ := dir_bounds hr
  obtain ⟨b1, b2, b3, b4, b5, b6⟩ := dir_bounds hu
  obtain ⟨c1, c2, c3, c4, c5, c6⟩ := dir_bounds ha
  obtain ⟨⟨t1, t2⟩, ⟨t3, t4⟩, ⟨t5, t6⟩⟩ := st_bounds r h
  obtain ⟨k1, k2⟩ := hok
  rw [encB_flat]
  generalize hR : putW 8 ids ++ (labL r ++ (r.scene ++ r.planes)) = R
  have N := nAt_Fb (fl r ids.length) (fl_ks r ids.length) R
  have hcb : 0 ≤ b2i r.view.constant ∧ b2i r.view.constant < 2 := by unfold b2i; split <;> decide
  have n0 := N 0 1 _ rfl (ofI_fit r.layer 1 (by omega) (by omega) (by omega))
  have n1 := N 1 1 _ rfl (ofI_fit r.view.w 1 (by omega) (by omega) (by omega))
  have n2 := N 2 1 _ rfl (ofI_fit r.view.h 1 (by omega) (by omega) (by omega))
  have n3 := N 3 1 _ rfl (ofI_fit r.view.samples 1 (by omega) (by omega) (by omega))
  have n4 := N 4 1 _ rfl (ofI_fit r.view.depth 1 (by omega) (by omega) (by omega))
  have n5 := N 5 1 _ rfl (ofI_fit r.view.cls 1 (by omega) (by omega) (by omega))
  have n6 := N 6 8 _ rfl r.view.seed.isLt
  have n7 := N 7 4 _ rfl (sg4_fit1 r.view.cam.eye.x (by omega))
  have n8 := N 8 4 _ rfl (sg4_fit1 r.view.cam.eye.y (by omega))
  have n9 := N 9 4 _ rfl (sg4_fit1 r.view.cam.eye.z (by omega))
  have n10 := N 10 4 _ rfl (sg4_fit1 r.view.cam.right.x (by omega))
  have n11 := N 11 4 _ rfl (sg4_fit1 r.view.cam.right.y (by omega))
  have n12 := N 12 4 _ rfl (sg4_fit1 r.view.cam.right.z (by omega))
  have n13 := N 13 4 _ rfl (sg4_fit1 r.view.cam.up.x (by omega))
  have n14 := N 14 4 _ rfl (sg4_fit1 r.view.cam.up.y (by omega))
  have n15 := N 15 4 _ rfl (sg4_fit1 r.view.cam.up.z (by omega))
  have n16 := N 16 4 _ rfl (sg4_fit1 r.view.cam.ahead.x (by omega))
  have n17 := N 17 4 _ rfl (sg4_fit1 r.view.cam.ahead.y (by omega))
  have n18 := N 18 4 _ rfl (sg4_fit1 r.view.cam.ahead.z (by omega))
  have n19 := N 19 4 _ rfl (ofI_fit r.view.cam.lens 4 (by omega) (by omega) (by omega))
  have n20 := N 20 4 _ rfl (ofI_fit r.view.cam.focus 4 (by omega) (by omega) (by omega))
  have n21 := N 21 1 _ rfl (ofI_fit (b2i r.view.constant) 1 (by omega) (by omega) (by omega))
  have n22 := N 22 8 _ rfl (ofI_fit r.steps.walk 8 (by omega) (by omega) (by omega))
  have n23 := N 23 8 _ rfl (ofI_fit r.steps.texel 8 (by omega) (by omega) (by omega))
  have n24 := N 24 8 _ rfl (ofI_fit r.steps.bounce 8 (by omega) (by omega) (by omega))
  have n25 := N 25 2 _ rfl (ofI_fit (ids.length : Int) 2 (by omega) (by omega) (by omega))
  have h26 : aAt 26 ⟨Fb (fl r ids.length) ++ R, 0⟩ = ⟨R, 0⟩ := aAt_Fb (fl r ids.length) (fl_ks r ids.length) R 26
  clear N
  generalize (⟨Fb (fl r ids.length) ++ R, 0⟩ : RdS) = a at *
  have hN : (nAt 25 a).toNat = ids.length := by
    rw [n25, BitVec.toNat_ofInt]
    simp only [Nat.reducePow]
    omega
  have hids : idsR a = (ids, ⟨labL r ++ (r.scene ++ r.planes), 0⟩) := by
    unfold idsR
    rw [hN, h26, ← hR, loop_put]
    rfl
  have hb0 : b0R a = ⟨labL r ++ (r.scene ++ r.planes), 0⟩ := by unfold b0R; rw [hids]
  obtain ⟨q1, q2⟩ := num32 r.label
  obtain ⟨q3, q4⟩ := num32 r.frm
  obtain ⟨q5, q6⟩ := num32 r.til
  have hb0' : b0R a = ⟨leW 4 (BitVec.ofInt 64 (r.label.toNat : Int)) ++ (leW 4 (BitVec.ofInt 64 (r.frm.toNat : Int)) ++ (leW 4 (BitVec.ofInt 64 (r.til.toNat : Int)) ++ (r.scene ++ r.planes))), 0⟩ := by
    rw [hb0]; unfold labL; simp only [List.append_assoc]
  have m1 : numR 4 (b0R a) = BitVec.ofInt 64 (r.label.toNat : Int) := by rw [hb0']; exact num_leW 4 _ q2 _
  have x1 : nextR 4 (b0R a) = ⟨leW 4 (BitVec.ofInt 64 (r.frm.toNat : Int)) ++ (leW 4 (BitVec.ofInt 64 (r.til.toNat : Int)) ++ (r.scene ++ r.planes)), 0⟩ := by rw [hb0']; exact next_leW 4 _ _
  have m2 : numR 4 (nextR 4 (b0R a)) = BitVec.ofInt 64 (r.frm.toNat : Int) := by rw [x1]; exact num_leW 4 _ q4 _
  have x2 : nextR 4 (nextR 4 (b0R a)) = ⟨leW 4 (BitVec.ofInt 64 (r.til.toNat : Int)) ++ (r.scene ++ r.planes), 0⟩ := by rw [x1]; exact next_leW 4 _ _
  have m3 : numR 4 (nextR 4 (nextR 4 (b0R a))) = BitVec.ofInt 64 (r.til.toNat : Int) := by rw [x2]; exact num_leW 4 _ q6 _
  have x3 : b3R a = ⟨r.scene ++ (r.planes ++ []), 0⟩ := by unfold b3R; rw [x2, next_leW, List.append_nil]
  have y1 : takeR 32 (b3R a) = r.scene := by rw [x3]; exact take_app 32 _ _ k1
  have x4 : nextR 32 (b3R a) = ⟨r.planes ++ [], 0⟩ := by rw [x3]; exact next_app 32 _ _ k1
  have y2 : takeR 32 (nextR 32 (b3R a)) = r.planes := by rw [x4]; exact take_app 32 _ _ k2
  have x5 : b5R a = ⟨[], 0⟩ := by unfold b5R; rw [x4]; exact next_app 32 _ _ k2
  have hc : nI 21 a = b2i r.view.constant := by unfold nI; rw [n21]; exact toInt_small _ (by omega) (by omega)
  have hrec : recR a = r := by
    have i0 : nI 0 a = r.layer := by unfold nI; rw [n0]; exact toInt_small _ (by omega) (by omega)
    have i1 : nI 1 a = r.view.w := by unfold nI; rw [n1]; exact toInt_small _ (by omega) (by omega)
    have i2 : nI 2 a = r.view.h := by unfold nI; rw [n2]; exact toInt_small _ (by omega) (by omega)
    have i3 : nI 3 a = r.view.samples := by unfold nI; rw [n3]; exact toInt_small _ (by omega) (by omega)
    have i4 : nI 4 a = r.view.depth := by unfold nI; rw [n4]; exact toInt_small _ (by omega) (by omega)
    have i5 : nI 5 a = r.view.cls := by unfold nI; rw [n5]; exact toInt_small _ (by omega) (by omega)
    have i19 : nI 19 a = r.view.cam.lens := by unfold nI; rw [n19]; exact toInt_small _ (by omega) (by omega)
    have i20 : nI 20 a = r.view.cam.focus := by unfold nI; rw [n20]; exact toInt_small _ (by omega) (by omega)
    have i22 : nI 22 a = r.steps.walk := by unfold nI; rw [n22]; exact toInt_small _ (by omega) (by omega)
    have i23 : nI 23 a = r.steps.texel := by unfold nI; rw [n23]; exact toInt_small _ (by omega) (by omega)
    have i24 : nI 24 a = r.steps.bounce := by unfold nI; rw [n24]; exact toInt_small _ (by omega) (by omega)
    have p7 : ptAt 7 a = r.view.cam.eye := p3_eta _ _ _ _ (by unfold nI; rw [n7]; exact sx_sg4 _ (by omega)) (by unfold nI; rw [n8]; exact sx_sg4 _ (by omega)) (by unfold nI; rw [n9]; exact sx_sg4 _ (by omega))
    have p10 : ptAt 10 a = r.view.cam.right := p3_eta _ _ _ _ (by unfold nI; rw [n10]; exact sx_sg4 _ (by omega)) (by unfold nI; rw [n11]; exact sx_sg4 _ (by omega)) (by unfold nI; rw [n12]; exact sx_sg4 _ (by omega))
    have p13 : ptAt 13 a = r.view.cam.up := p3_eta _ _ _ _ (by unfold nI; rw [n13]; exact sx_sg4 _ (by omega)) (by unfold nI; rw [n14]; exact sx_sg4 _ (by omega)) (by unfold nI; rw [n15]; exact sx_sg4 _ (by omega))
    have p16 : ptAt 16 a = r.view.cam.ahead := p3_eta _ _ _ _ (by unfold nI; rw [n16]; exact sx_sg4 _ (by omega)) (by unfold nI; rw [n17]; exact sx_sg4 _ (by omega)) (by unfold nI; rw [n18]; exact sx_sg4 _ (by omega))
    have hcn : decide (nI 21 a = 1) = r.view.constant := by
      rw [hc]
      unfold b2i
      cases r.view.constant <;> rfl
    unfold recR
    rw [i0, i1, i2, i3, i4, i5, i19, i20, i22, i23, i24, p7, p10, p13, p16, hcn, n6, m1, m2, m3, q1, q3, q5, y1, y2, padZ_full _ k1, padZ_full _ k2]
  refine ⟨?_, hrec, by rw [hids]⟩
  unfold errR
  rw [x5, hrec, h, hc]
  have : ¬ (1 < b2i r.view.constant) := by omega
  rw [if_neg this]
  rfl
end Go.Proofs.Ytlhedoodbadmgaa
namespace Go.Proofs.Ytlhedoodbadmgaa
open Go.RowKit
set_option maxRecDepth 100000
set_option maxHeartbeats 2000000
theorem step_back (k : Nat) (hk : k ≤ 8) (a : RdS) (h : (nextR k a).e = 0) : a.e = 0 ∧ a.rest = leW k (numR k a) ++ (nextR k a).rest := by
  unfold nextR at h ⊢
  by_cases he : a.e = 0
  · rw [if_pos he] at h ⊢
    by_cases hl : k ≤ a.rest.length
    · rw [if_pos hl]
      refine ⟨he, ?_⟩
      unfold numR
      rw [if_pos ⟨he, hl⟩, leW_rdV k hk _ hl]
      exact (List.take_append_drop k a.rest).symm
    · rw [if_neg hl] at h
      exact absurd h (show ¬ ((4 : Int) = 0) by decide)
  · rw [if_neg he] at h
    exact absurd h he
theorem take_back (k : Nat) (a : RdS) (h : (nextR k a).e = 0) : a.e = 0 ∧ a.rest = takeR k a ++ (nextR k a).rest ∧ (takeR k a).length = k := by
  unfold nextR at h ⊢
  by_cases he : a.e = 0
  · rw [if_pos he] at h ⊢
    by_cases hl : k ≤ a.rest.length
    · rw [if_pos hl]
      unfold takeR
      rw [if_pos ⟨he, hl⟩]
      exact ⟨he, (List.take_append_drop k a.rest).symm, by rw [List.length_take]; omega⟩
    · rw [if_neg hl] at h
      exact absurd h (show ¬ ((4 : Int) = 0) by decide)
  · rw [if_neg he] at h
    exact absurd h he
theorem ks_le (i k : Nat) (h : ksL[i]? = some k) : k ≤ 8 := by
  have : k ∈ ksL := List.mem_of_getElem? h
  revert this
  unfold ksL
  simp only [List.mem_cons, List.not_mem_nil, or_false]
  omega
theorem aAt_back (a : RdS) : ∀ i, i ≤ 26 → (aAt i a).e = 0 → a.e = 0 ∧ a.rest = Fb ((List.range i).map fun j => (ksL.getD j 0, nAt j a)) ++ (aAt i a).rest
  | 0, _, h => ⟨h, rfl⟩
  | i + 1, hi, h => by
    have hlt : i < ksL.length := by show i < 26; omega
    have hk : ksL[i]? = some ksL[i] := List.getElem?_eq_getElem hlt
    rw [aAt_step a hk] at h
    have hs := step_back ksL[i] (ks_le i _ hk) (aAt i a) h
    obtain ⟨h1, h2⟩ := aAt_back a i (by omega) hs.1
    refine ⟨h1, ?_⟩
    have hg : ksL.getD i 0 = ksL[i] := by rw [List.getD_eq_getElem?_getD, hk]; rfl
    rw [aAt_step a hk, h2, List.range_succ, List.map_append, List.map_singleton, hg, nAt_eq a hk]
    unfold Fb
    rw [List.flatMap_append, List.flatMap_singleton, List.append_assoc, ← hs.2]
theorem loop_back : ∀ (n : Nat) (a : RdS) (acc : List (BitVec 64)), (loopR n a acc).2.e = 0 → ∃ ids, (loopR n a acc).1 = acc ++ ids ∧ a.e = 0 ∧ a.rest = putW 8 ids ++ (loopR n a acc).2.rest ∧ ids.length = n
  | 0, a, acc, h => ⟨[], by simp [loopR], h, by simp [loopR, putW], rfl⟩
  | n + 1, a, acc, h => by
    unfold loopR at h ⊢
    by_cases he : a.e = 0
    · rw [if_pos he] at h ⊢
      obtain ⟨ids, h1, h2, h3, h4⟩ := loop_back n (nextR 8 a) (acc ++ [numR 8 a]) h
      refine ⟨numR 8 a :: ids, by rw [h1]; simp, he, ?_, by simp [h4]⟩
      rw [(step_back 8 (by omega) a h2).2, h3]
      simp [putW]
    · rw [if_neg he] at h
      exact absurd h he
theorem ofI_toI (x : BitVec 64) : BitVec.ofInt 64 x.toInt = x := BitVec.ofInt_toInt
theorem sg4_sx (x : BitVec 64) (h : x.toNat < 4294967296) : sg4 (sxI x.toInt) = x := by
  have h2 : x.toInt = (x.toNat : Int) := by rw [BitVec.toInt_eq_toNat_cond, if_pos (by omega)]
  have hb : -2147483648 ≤ sxI x.toInt ∧ sxI x.toInt < 2147483648 := by
    rw [h2]; unfold sxI; split <;> omega
  apply BitVec.eq_of_toNat_eq
  rw [sg4_val _ hb, h2]
  unfold sxI
  split <;> omega
theorem lab_back (x : BitVec 64) (h : x.toNat < 4294967296) : BitVec.ofInt 64 ((x.setWidth 32).toNat : Int) = x := by
  apply BitVec.eq_of_toNat_eq
  rw [BitVec.toNat_ofInt, BitVec.toNat_setWidth]
  simp only [Nat.reducePow]
  omega
theorem dec_enc (b : List (BitVec 8)) (h : errR ⟨b, 0⟩ = 0) : recE (recR ⟨b, 0⟩) = 0 ∧ encB (recR ⟨b, 0⟩) (idsR ⟨b, 0⟩).1 = b := by
  have hb : (⟨b, 0⟩ : RdS).rest = b := rfl
  generalize (⟨b, 0⟩ : RdS) = a at *
  unfold errR at h
  by_cases hE : endR (b5R a) ≠ 0
  · rw [if_pos hE] at h; exact absurd h hE
  rw [if_neg hE] at h
  have hE : endR (b5R a) = 0 := by simpa using hE
  by_cases hc : 1 < nI 21 a
  · rw [if_pos hc] at h; exact absurd h (by decide)
  rw [if_neg hc] at h
  refine ⟨h, ?_⟩
  have h5 : (b5R a).e = 0 ∧ (b5R a).rest = [] := by
    unfold endR at hE
    by_cases he : (b5R a).e = 0
    · rw [if_pos he] at hE
      by_cases hl : 0 < (b5R a).rest.length
      · rw [if_pos hl] at hE; exact absurd hE (by decide)
      · exact ⟨he, List.eq_nil_of_length_eq_zero (by omega)⟩
    · rw [if_neg he] at hE; exact absurd hE he
  obtain ⟨u1, u2, u3⟩ := take_back 32 (nextR 32 (b3R a)) h5.1
  obtain ⟨w1, w2, w3⟩ := take_back 32 (b3R a) u1
  obtain ⟨x1, x2⟩ := step_back 4 (by omega) (nextR 4 (nextR 4 (b0R a))) w1
  obtain ⟨y1, y2⟩ := step_back 4 (by omega) (nextR 4 (b0R a)) x1
  obtain ⟨z1, z2⟩ := step_back 4 (by omega) (b0R a) y1
  obtain ⟨ids, i1, i2, i3, i4⟩ := loop_back (nAt 25 a).toNat (aAt 26 a) [] z1
  obtain ⟨j1, j2⟩ := aAt_back a 26 (Nat.le_refl _) i2
  have hids : (idsR a).1 = ids := i1
  have h5r : (nextR 32 (nextR 32 (b3R a))).rest = [] := h5.2
  rw [hids, encB_flat]
  have hlow : ∀ i, ksL[i]? = some 4 → (nAt i a).toNat < 4294967296 := fun i hi => by rw [nAt_eq a hi]; exact numR_lt 4 (by omega) _
  have hc0 : (nAt 21 a).toNat < 256 := by rw [nAt_eq a (show ksL[21]? = some 1 from rfl)]; exact numR_lt 1 (by omega) _
  have hc1 : nI 21 a = ((nAt 21 a).toNat : Int) := by unfold nI; rw [BitVec.toInt_eq_toNat_cond, if_pos (by omega)]
  have hcn : BitVec.ofInt 64 (b2i (decide (nI 21 a = 1))) = nAt 21 a := by
    apply BitVec.eq_of_toNat_eq
    rw [BitVec.toNat_ofInt]
    unfold b2i
    simp only [Nat.reducePow]
    by_cases h1 : nI 21 a = 1
    · rw [decide_eq_true h1]
      simp only [if_true]
      omega
    · rw [decide_eq_false h1]
      simp only [Bool.false_eq_true, if_false]
      omega
  have hn : BitVec.ofInt 64 (ids.length : Int) = nAt 25 a := by
    rw [i4]
    apply BitVec.eq_of_toNat_eq
    rw [BitVec.toNat_ofInt]
    have := (nAt 25 a).isLt
    simp only [Nat.reducePow] at this ⊢
    omega
  have hfl : fl (recR a) ids.length = (List.range 26).map fun j => (ksL.getD j 0, nAt j a) := by
    have e : ((List.range 26).map fun j => (ksL.getD j 0, nAt j a)) = [(1, nAt 0 a), (1, nAt 1 a), (1, nAt 2 a), (1, nAt 3 a), (1, nAt 4 a), (1, nAt 5 a), (8, nAt 6 a), (4, nAt 7 a), (4, nAt 8 a), (4, nAt 9 a), (4, nAt 10 a), (4, nAt 11 a), (4, nAt 12 a), (4, nAt 13 a), (4, nAt 14 a), (4, nAt 15 a), (4, nAt 16 a), (4, nAt 17 a), (4, nAt 18 a), (4, nAt 19 a), (4, nAt 20 a), (1, nAt 21 a), (8, nAt 22 a), (8, nAt 23 a), (8, nAt 24 a), (2, nAt 25 a)] := rfl
    rw [e]
    unfold fl recR ptAt
    dsimp only
    rw [hcn, hn]
    unfold nI
    rw [ofI_toI, ofI_toI, ofI_toI, ofI_toI, ofI_toI, ofI_toI, ofI_toI, ofI_toI, ofI_toI, ofI_toI, ofI_toI, sg4_sx _ (hlow 7 rfl), sg4_sx _ (hlow 8 rfl), sg4_sx _ (hlow 9 rfl), sg4_sx _ (hlow 10 rfl), sg4_sx _ (hlow 11 rfl), sg4_sx _ (hlow 12 rfl), sg4_sx _ (hlow 13 rfl), sg4_sx _ (hlow 14 rfl), sg4_sx _ (hlow 15 rfl), sg4_sx _ (hlow 16 rfl), sg4_sx _ (hlow 17 rfl), sg4_sx _ (hlow 18 rfl)]
  have hlab : labL (recR a) = leW 4 (numR 4 (b0R a)) ++ (leW 4 (numR 4 (nextR 4 (b0R a))) ++ leW 4 (numR 4 (nextR 4 (nextR 4 (b0R a))))) := by
    unfold labL recR
    dsimp only
    rw [lab_back _ (numR_lt 4 (by omega) _), lab_back _ (numR_lt 4 (by omega) _), lab_back _ (numR_lt 4 (by omega) _)]
  have hsc : (recR a).scene = takeR 32 (b3R a) := padZ_full _ w3
  have hpl : (recR a).planes = takeR 32 (nextR 32 (b3R a)) := padZ_full _ u3
  rw [hfl, hlab, hsc, hpl, ← hb, j2]
  congr 1
  have hl26 : (loopR (nAt 25 a).toNat (aAt 26 a) []).2 = b0R a := rfl
  rw [i3, hl26]
  congr 1
  rw [z2, y2, x2, show nextR 4 (nextR 4 (nextR 4 (b0R a))) = b3R a from rfl, w2, u2, h5r]
  simp only [List.append_assoc, List.append_nil]
end Go.Proofs.Ytlhedoodbadmgaa
