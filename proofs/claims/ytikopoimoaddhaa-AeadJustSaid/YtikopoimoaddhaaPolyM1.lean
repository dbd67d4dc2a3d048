/- Poly1305: the tag as a number. No condition. Arrays of whole numbers, none of them below 0. No condition. Poly1305 by digits of 26 bits, in plain numbers. No condition. -/
import Derived.Test.YtikopoimoaddhaaPolyP
import Derived.Test.YtikopoimoaddhaaSymU
namespace Go.Proofs.Ytikopoimoaddhaa
open Go.RowKit
set_option maxRecDepth 100000
set_option maxHeartbeats 4000000
/-! ### one fold over all blocks -/
theorem blk17_take (M : List (BitVec 8)) : blk17 (M.take 16) = blk17 M := by
  unfold blk17
  rw [List.take_take, Nat.min_self]
def hK (r0 r1 : BitVec 64) (msg : List (BitVec 8)) : Nat → T3
  | 0 => z3
  | k + 1 => stepB r0 r1 (hK r0 r1 msg k) (blk17 (msg.drop (16 * k)))
theorem eatK_hK (r0 r1 : BitVec 64) (R : List (BitVec 8)) : ∀ k, eatK r0 r1 z3 R k = hK r0 r1 R k
  | 0 => rfl
  | k + 1 => by rw [eatK, hK, eatK_hK r0 r1 R k, blk17_take]
theorem sumK_hK (r0 r1 : BitVec 64) (R : List (BitVec 8)) (q : Nat) (hq : 16 * q ≤ R.length) : ∀ k, k ≤ nbl (R.drop (16 * q)).length → sumK r0 r1 (hK r0 r1 R q) (R.drop (16 * q)) k = hK r0 r1 R (q + k)
  | 0, _ => rfl
  | k + 1, h => by
    have hat := blkK_at (R.drop (16 * q)) (nbl (R.drop (16 * q)).length) k (by omega)
    rw [sumK, sumK_hK r0 r1 R q hq k (by omega), show k * 17 = 0 + k * 17 by omega, hat, List.drop_drop, show 16 * q + 16 * k = 16 * (q + k) by omega]
    rfl
theorem tagL_hK (key msg : List (BitVec 8)) : tagL key msg = endL (hK (newM key).r0 (newM key).r1 msg (nbl msg.length)) (newM key).s0 (newM key).s1 := by
  have h0 : (newM key).rest ++ msg = msg := rfl
  have h1 : (newM key).h = z3 := rfl
  unfold tagL sumM addF
  simp only [h0, h1]
  rw [eatK_hK, sumK_hK _ _ msg (msg.length / 16) (by omega) _ (Nat.le_refl _)]
  congr 2
  rw [List.length_drop]
  unfold nbl
  omega
/-! ### its value -/
theorem leN_split (B : List (BitVec 8)) (h : B.length = 17) : leN B = leN ((B.drop 0).take 8) + 18446744073709551616 * leN ((B.drop 8).take 8) + 340282366920938463463374607431768211456 * (gt B 16).toNat := by
  have e1 : B = (B.drop 0).take 8 ++ ((B.drop 8).take 8 ++ [gt B 16]) := by
    rw [List.drop_zero, gt_lt B 16 (by omega)]
    conv => lhs; rw [← List.take_append_drop 8 B, ← List.take_append_drop 8 (B.drop 8), List.drop_drop]
    congr 2
    rw [List.drop_eq_getElem_cons (by omega), List.drop_of_length_le (by omega)]
  have l1 : ((B.drop 0).take 8).length = 8 := by simp; omega
  have l2 : ((B.drop 8).take 8).length = 8 := by simp; omega
  conv => lhs; rw [e1]
  rw [leN_append, leN_append, l1, l2]
  simp only [leN]
  omega
def PP : Nat := 1361129467683753853853498429727072845819
def accN (r : Nat) (msg : List (BitVec 8)) : Nat → Nat
  | 0 => 0
  | k + 1 => (accN r msg k + leN (blk17 (msg.drop (16 * k)))) * r % PP
theorem mod_fold (T : Nat) : (T % 1361129467683753853853498429727072845824 + 5 * (T / 1361129467683753853853498429727072845824)) % PP = T % PP := by
  have h : T = (T % 1361129467683753853853498429727072845824 + 5 * (T / 1361129467683753853853498429727072845824)) + PP * (T / 1361129467683753853853498429727072845824) := by
    unfold PP; omega
  conv => rhs; rw [h]
  rw [Nat.add_mul_mod_self_left]
theorem blk17_16 (M : List (BitVec 8)) : (gt (blk17 M) 16).toNat ≤ 1 := by
  obtain ⟨h1, h2, _⟩ := blk17_gt M (min M.length 16) rfl
  rcases Nat.lt_or_ge (min M.length 16) 16 with h | h
  · rw [h2 16 h]; decide
  · have : min M.length 16 = 16 := by omega
    rw [this] at h1
    rw [h1]; decide
theorem hK_val (r0 r1 : BitVec 64) (msg : List (BitVec 8)) (h0 : r0.toNat < 1152921504606846976) (h1 : r1.toNat < 1152921504606846976) : ∀ k, val3 (hK r0 r1 msg k) % PP = accN (r0.toNat + 18446744073709551616 * r1.toNat) msg k ∧ (hK r0 r1 msg k).2.2.toNat ≤ 4
  | 0 => by
    constructor
    · show val3 z3 % PP = 0
      decide
    · show z64.toNat ≤ 4
      decide
  | k + 1 => by
    obtain ⟨ih1, ih2⟩ := hK_val r0 r1 msg h0 h1 k
    rw [hK, accN]
    have hl := blk17_length (msg.drop (16 * k))
    have hb := blk17_16 (msg.drop (16 * k))
    generalize blk17 (msg.drop (16 * k)) = B at *
    generalize hK r0 r1 msg k = g at *
    have hs := leN_split B hl
    have e0 : (num8 ((B.drop 0).take 8) 8).toNat = leN ((B.drop 0).take 8) := by
      rw [num8_nat _ 8 (by omega) (by simp; omega), List.take_of_length_le (by simp; omega)]
    have e8 : (num8 ((B.drop 8).take 8) 8).toNat = leN ((B.drop 8).take 8) := by
      rw [num8_nat _ 8 (by omega) (by simp; omega), List.take_of_length_le (by simp; omega)]
    have e16 : ((gt B 16).setWidth 64).toNat = (gt B 16).toNat := by
      rw [BitVec.toNat_setWidth]
      have := (gt B 16).isLt
      omega
    have hst := stepT_val g (num8 ((B.drop 0).take 8) 8) (num8 ((B.drop 8).take 8) 8) ((gt B 16).setWidth 64) r0 r1 ih2 (by rw [e16]; exact hb) h0 h1 _ rfl
    rw [e0, e8, e16] at hst
    have hsum : val3 g + leN ((B.drop 0).take 8) + 18446744073709551616 * leN ((B.drop 8).take 8) + 340282366920938463463374607431768211456 * (gt B 16).toNat = val3 g + leN B := by omega
    rw [hsum] at hst
    refine ⟨?_, hst.2⟩
    show val3 (stepT g _ _ _ r0 r1) % PP = _
    rw [hst.1, mod_fold, ← ih1]
    rw [Nat.mul_mod, Nat.mul_mod (val3 g % PP + leN B), Nat.mod_add_mod]
theorem red1_val (h : T3) (h2 : h.2.2.toNat ≤ 4) : val3 (red1 h) = (if PP ≤ val3 h then val3 h - PP else val3 h) ∧ (red1 h).2.2.toNat ≤ 4 := by
  obtain ⟨a, b, c⟩ := h
  simp only at h2
  have hz : z64.toNat ≤ 1 := by decide
  have hz0 : z64.toNat = 0 := by decide
  have h5 : (BitVec.ofInt 64 5).toNat = 5 := by decide
  have h4 : (BitVec.ofInt 64 4).toNat = 4 := by decide
  have e1 := add_nat a (BitVec.ofInt 64 5) z64 hz
  have c1 := carry3_le (x := a) (y := BitVec.ofInt 64 5) hz
  have e2 := add_nat b z64 _ c1
  have c2 := carry3_le (x := b) (y := z64) c1
  unfold red1
  simp only
  generalize carry3 a (BitVec.ofInt 64 5) z64 = cc at *
  generalize carry3 b z64 cc = dd at *
  generalize a + BitVec.ofInt 64 5 + z64 = a1 at *
  generalize b + z64 + cc = b1 at *
  have e3 : (c + dd).toNat = c.toNat + dd.toNat := by rw [BitVec.toNat_add]; omega
  have l0 := a1.isLt
  have l1 := b1.isLt
  have la := a.isLt
  have lb := b.isLt
  rw [hz0] at e1 e2
  rw [h5] at e1
  have hPP : PP = 1361129467683753853853498429727072845819 := rfl
  by_cases hd : 4 ≤ (c + dd).toNat
  · rw [if_pos hd]
    have e4 : (c + dd - BitVec.ofInt 64 4).toNat = c.toNat + dd.toNat - 4 := by
      rw [BitVec.toNat_sub, h4, e3]; omega
    constructor
    · rw [if_pos (by simp only [val3]; omega)]
      simp only [val3, e4]; omega
    · simp only [e4]; omega
  · rw [if_neg hd]
    constructor
    · rw [if_neg (by simp only [val3]; omega)]
    · simp only; omega
theorem redK_val (h : T3) (h2 : h.2.2.toNat ≤ 4) : val3 (redK h 2) = val3 h % PP := by
  obtain ⟨e1, g1⟩ := red1_val h h2
  obtain ⟨e2, g2⟩ := red1_val (red1 h) g1
  have hlt : val3 h < 2 * PP := by
    obtain ⟨a, b, c⟩ := h
    simp only at h2
    have := a.isLt
    have := b.isLt
    simp only [val3, PP]
    omega
  show val3 (red1 (red1 h)) = _
  rw [e2, e1]
  by_cases hp : PP ≤ val3 h
  · rw [if_pos hp, if_neg (by omega), Nat.mod_eq_sub_mod hp, Nat.mod_eq_of_lt (by omega)]
  · rw [if_neg hp, if_neg hp, Nat.mod_eq_of_lt (by omega)]
theorem endL_val (h : T3) (s0 s1 : BitVec 64) : leN (endL h s0 s1) = ((redK h 2).1.toNat + 18446744073709551616 * (redK h 2).2.1.toNat + s0.toNat + 18446744073709551616 * s1.toNat) % 340282366920938463463374607431768211456 := by
  have hz : z64.toNat ≤ 1 := by decide
  have hz0 : z64.toNat = 0 := by decide
  unfold endL
  obtain ⟨a, b, c⟩ := redK h 2
  simp only
  have e1 := add_nat a s0 z64 hz
  have c1 := carry3_le (x := a) (y := s0) hz
  have e2 := add_nat b s1 _ c1
  rw [leN_append, bytes8_nat, bytes8_nat, bytes8_length]
  have l0 := (a + s0 + z64).isLt
  have l1 := (b + s1 + carry3 a s0 z64).isLt
  generalize carry3 a s0 z64 = cc at *
  generalize a + s0 + z64 = x at *
  generalize b + s1 + cc = y at *
  rw [hz0] at e1
  omega
/-- The tag: what is reckoned so far, and the other half of the key, below 2^128. -/
theorem tagL_val (key msg : List (BitVec 8)) (h0 : (newM key).r0.toNat < 1152921504606846976) (h1 : (newM key).r1.toNat < 1152921504606846976) :
    leN (tagL key msg) = (accN ((newM key).r0.toNat + 18446744073709551616 * (newM key).r1.toNat) msg (nbl msg.length) + (newM key).s0.toNat + 18446744073709551616 * (newM key).s1.toNat) % 340282366920938463463374607431768211456 := by
  obtain ⟨v1, v2⟩ := hK_val _ _ msg h0 h1 (nbl msg.length)
  have v3 := redK_val _ v2
  rw [v1] at v3
  rw [tagL_hK, endL_val]
  simp only [val3] at v3
  generalize redK (hK (newM key).r0 (newM key).r1 msg (nbl msg.length)) 2 = g at *
  omega
/-! ### the clamped half of the key -/
theorem and_lt16 (x : BitVec 8) : (x &&& BitVec.ofInt 8 15).toNat < 16 := by
  rw [BitVec.toNat_and, show (BitVec.ofInt 8 15).toNat = 2 ^ 4 - 1 by decide, Nat.and_two_pow_sub_one_eq_mod]
  omega
theorem clampL_list (l : List (BitVec 8)) (hl : l.length = 16) : ∃ b0 b1 b2 b3 b4 b5 b6 b7 b8 b9 b10 b11 b12 b13 b14 b15, l = [b0, b1, b2, b3, b4, b5, b6, b7, b8, b9, b10, b11, b12, b13, b14, b15] ∧
    clampL l = [b0, b1, b2, b3 &&& BitVec.ofInt 8 15, b4 &&& BitVec.ofInt 8 252, b5, b6, b7 &&& BitVec.ofInt 8 15, b8 &&& BitVec.ofInt 8 252, b9, b10, b11 &&& BitVec.ofInt 8 15, b12 &&& BitVec.ofInt 8 252, b13, b14, b15 &&& BitVec.ofInt 8 15] := by
  match l, hl with
  | [b0, b1, b2, b3, b4, b5, b6, b7, b8, b9, b10, b11, b12, b13, b14, b15], _ =>
    exact ⟨b0, b1, b2, b3, b4, b5, b6, b7, b8, b9, b10, b11, b12, b13, b14, b15, rfl, rfl⟩
theorem clampL_idem (l : List (BitVec 8)) (hl : l.length = 16) : clampL (clampL l) = clampL l := by
  obtain ⟨b0, b1, b2, b3, b4, b5, b6, b7, b8, b9, b10, b11, b12, b13, b14, b15, h1, h2⟩ := clampL_list l hl
  obtain ⟨c0, c1, c2, c3, c4, c5, c6, c7, c8, c9, c10, c11, c12, c13, c14, c15, h3, h4⟩ := clampL_list (clampL l) ((clampL_length l).trans hl)
  rw [h4]
  rw [h2] at h3 ⊢
  simp only [List.cons.injEq, and_true] at h3
  obtain ⟨rfl, rfl, rfl, rfl, rfl, rfl, rfl, rfl, rfl, rfl, rfl, rfl, rfl, rfl, rfl, rfl⟩ := h3
  simp only [BitVec.and_assoc, BitVec.and_self]
theorem clamp_lt (l : List (BitVec 8)) (hl : l.length = 16) : (num8 (clampL l) 8).toNat < 1152921504606846976 ∧ (num8 (((clampL l).drop 8).take 8) 8).toNat < 1152921504606846976 := by
  obtain ⟨b0, b1, b2, b3, b4, b5, b6, b7, b8, b9, b10, b11, b12, b13, b14, b15, h1, h2⟩ := clampL_list l hl
  have hcl := (clampL_length l).trans hl
  have k1 := and_lt16 b7
  have k2 := and_lt16 b15
  rw [num8_nat _ 8 (by omega) (by omega), num8_nat _ 8 (by omega) (by rw [List.length_take, List.length_drop]; omega), h2]
  generalize b3 &&& BitVec.ofInt 8 15 = c3
  generalize b4 &&& BitVec.ofInt 8 252 = c4
  generalize b7 &&& BitVec.ofInt 8 15 = c7 at *
  generalize b8 &&& BitVec.ofInt 8 252 = c8
  generalize b11 &&& BitVec.ofInt 8 15 = c11
  generalize b12 &&& BitVec.ofInt 8 252 = c12
  generalize b15 &&& BitVec.ofInt 8 15 = c15 at *
  have t0 := b0.isLt
  have t1 := b1.isLt
  have t2 := b2.isLt
  have t3 := c3.isLt
  have t4 := c4.isLt
  have t5 := b5.isLt
  have t6 := b6.isLt
  have t8 := c8.isLt
  have t9 := b9.isLt
  have t10 := b10.isLt
  have t11 := c11.isLt
  have t12 := c12.isLt
  have t13 := b13.isLt
  have t14 := b14.isLt
  clear h1 h2 hl hcl
  simp only [List.take_succ_cons, List.take_zero, List.drop_succ_cons, List.drop_zero, leN]
  constructor <;> omega
end Go.Proofs.Ytikopoimoaddhaa
namespace Go.Proofs.Ytikopoimoaddhaa
open Go.RowKit
set_option maxRecDepth 100000
variable {C : Ctx} {ops : Array Oper} {S : St} {o : Oper}
def gtN (l : List Nat) (i : Nat) : Nat := l.getD i 0
theorem gtN_set {l : List Nat} {i : Nat} (h : i < l.length) (j x : Nat) : gtN (l.set i x) j = if i = j then x else gtN l j := by
  unfold gtN
  simp only [List.getD_eq_getElem?_getD, List.getElem?_set]
  by_cases e : i = j
  · subst e; simp [h]
  · simp [e]
def valsN (l : List Nat) : Array Value := (l.map fun n => Value.int .i64 ((n : Nat) : Int)).toArray
theorem valsN_size (l : List Nat) : (valsN l).size = l.length := by simp [valsN]
theorem ld_valsN {l : List Nat} {i : Nat} (h : i < l.length) : ∀ e, ((SA.c (valsN l)).den e)[i]? = some ((SV.c (.int .i64 ((gtN l i : Nat) : Int))).den e) := fun e => by
  simp [SA.c, SV.c, valsN, gtN, List.getD, List.getElem?_eq_getElem h]
theorem sz_valsN {l : List Nat} {i : Nat} (h : i < l.length) : ∀ e, i < ((SA.c (valsN l)).den e).size := fun e => by
  simpa [SA.c, valsN_size] using h
theorem sm_valsN {l : List Nat} {n : Nat} (h : l.length = n) : ∀ e, ((SA.c (valsN l)).den e).size = n := fun e => by
  simpa [SA.c, valsN_size] using h
theorem st_valsN {l : List Nat} {i n : Nat} : ∀ e, ((SA.c (valsN l)).den e).setIfInBounds i ((SV.c (.int .i64 ((n : Nat) : Int))).den e) = (SA.c (valsN (l.set i n))).den e := fun e => by
  simp [SA.c, SV.c, valsN, List.map_set]
theorem oc_valsN {l : List Nat} : ∀ e, ((SA.c (valsN l)).den e).all (·.oneCell') = true := fun e => by
  simp [SA.c, valsN, Value.oneCell']
theorem op_storeN {ty : TypeId} {x y : Operand} {n off m : Nat} {T : TypeId} {l : List Nat} (ho : o.op = .store ty x y) (hg : o.guard = none) (hdst : o.dst = none) (hx : S.ev x = some (.p n off)) (hy : S.ev y = some (.c (.int .i64 ((m : Nat) : Int)))) (hr : S.res n = some (.blk n T (.c (valsN l))))
    (hi' : tabLook sizT ty = some 1) (h : off < l.length) : OpG C Try.prog ops o S ⟨opT x ++ opT y, n :: (SA.c (valsN (l.set off m))).sup, [], [(n, some (.blk n T (.c (valsN (l.set off m)))))], []⟩ :=
  op_store ho hg hdst hx hy hr hi' (fun _ => rfl) (sz_valsN h) st_valsN
theorem op_loadN {ty : TypeId} {x : Operand} {n off : Nat} {T : TypeId} {l : List Nat} {wr : Bool} {d : TypeDesc} (ho : o.op = .load ty x) (hg : o.guard = none) (hd : dstB o.dst C.nt = true) (hx : S.ev x = some (.p n off)) (hr : S.res n = some (.blk n T (.c (valsN l)) wr)) (hu' : tabLook undT ty = some d) (hda : d.isRow = false) (h : off < l.length) :
    OpG C Try.prog ops o S ⟨opT x, n :: (SV.c (.int .i64 ((gtN l off : Nat) : Int))).sup, dw o.dst (.c (.int .i64 ((gtN l off : Nat) : Int))), [], []⟩ :=
  op_load ho hg hd hx hr hu' hda (ld_valsN h)
theorem op_loadsN {ty : TypeId} {x : Operand} {n : Nat} {T : TypeId} {l : List Nat} {wr : Bool} {d : TypeDesc} {m : Nat} (ho : o.op = .load ty x) (hg : o.guard = none) (hd : dstB o.dst C.nt = true) (hx : S.ev x = some (.p n 0)) (hr : S.res n = some (.blk n T (.c (valsN l)) wr)) (hu' : tabLook undT ty = some d) (hda : d.isRow = true) (hi' : tabLook sizT ty = some m) (h : l.length = m) :
    OpG C Try.prog ops o S ⟨opT x, n :: (SV.c (.agg (valsN l))).sup, dw o.dst (.c (.agg (valsN l))), [], []⟩ :=
  op_loads ho hg hd hx hr hu' hda hi' (sm_valsN h) ag_c
theorem op_storesN {ty : TypeId} {x y : Operand} {n : Nat} {T : TypeId} {Z : Array Value} {l : List Nat} {m : Nat} (ho : o.op = .store ty x y) (hg : o.guard = none) (hdst : o.dst = none) (hx : S.ev x = some (.p n 0)) (hy : S.ev y = some (.c (.agg (valsN l)))) (hr : S.res n = some (.blk n T (.c Z)))
    (hi' : tabLook sizT ty = some m) (hZ : Z.size = m) (h : l.length = m) : OpG C Try.prog ops o S ⟨opT x ++ opT y, n :: (SA.c (valsN l)).sup, [], [(n, some (.blk n T (.c (valsN l))))], []⟩ :=
  op_stores ho hg hdst hx hy hr hi' (fun _ => hZ) ga_c (sm_valsN h) oc_valsN
theorem op_allocN {ty : TypeId} {l : List Nat} {n : Nat} (ho : o.op = .alloc ty) (hdn : o.dst = some n) (hg : o.guard = none) (hd : dstB o.dst C.nt = true) (_hl : l = [0, 0, 0, 0, 0]) (hz : tabLook zerT ty = some (valsN [0, 0, 0, 0, 0])) :
    OpG C Try.prog ops o S ⟨[], [], dw o.dst (.p n 0), [(n, some (.blk n ty (.c (valsN l))))], [n]⟩ := by subst _hl; exact op_alloc ho hdn hg hd hz
end Go.Proofs.Ytikopoimoaddhaa
namespace Go.Proofs.Ytikopoimoaddhaa
open Go.RowKit
set_option maxRecDepth 100000
set_option maxHeartbeats 4000000
/-! ### lists of numbers -/
def v5 (d : List Nat) : Nat := gtN d 0 + 67108864 * gtN d 1 + 4503599627370496 * gtN d 2 + 302231454903657293676544 * gtN d 3 + 20282409603651670423947251286016 * gtN d 4
def dig5 (d : List Nat) : Prop := d.length = 5 ∧ gtN d 0 < 67108864 ∧ gtN d 1 < 67108864 ∧ gtN d 2 < 67108864 ∧ gtN d 3 < 67108864 ∧ gtN d 4 < 67108864
theorem list5 {d : List Nat} (h : d.length = 5) : ∃ a b c e f, d = [a, b, c, e, f] := by
  match d, h with
  | [a, b, c, e, f], _ => exact ⟨a, b, c, e, f, rfl⟩
/-! ### digits -/
def digK (B : List (BitVec 8)) : Nat → List Nat
  | 0 => [0, 0, 0, 0, 0]
  | i + 1 => if (gt B (i / 8) >>> (i % 8) &&& BitVec.ofInt 8 1) == BitVec.ofInt 8 1 then (if i < 130 then (digK B i).set (i / 26) (gtN (digK B i) (i / 26) + 1 * 2 ^ (i % 26)) else digK B i) else digK B i
theorem digK_length (B : List (BitVec 8)) : ∀ i, (digK B i).length = 5
  | 0 => rfl
  | i + 1 => by
    rw [digK]
    split
    · split <;> simp [digK_length B i]
    · exact digK_length B i
theorem leN_byte : ∀ (B : List (BitVec 8)) (q : Nat), leN B / 256 ^ q % 256 = (gt B q).toNat
  | [], q => by simp [leN, gt]
  | b :: B, 0 => by
    have := b.isLt
    simp only [leN, Nat.pow_zero, Nat.div_one]
    show _ = b.toNat
    omega
  | b :: B, q + 1 => by
    have hb := b.isLt
    have ih := leN_byte B q
    rw [leN, Nat.pow_succ, Nat.mul_comm (256 ^ q) 256, ← Nat.div_div_eq_div_mul, show (b.toNat + 256 * leN B) / 256 = leN B by omega, ih]
    rfl
theorem bit01 (x : BitVec 8) (m : Nat) : ((x >>> m &&& BitVec.ofInt 8 1) == BitVec.ofInt 8 1) = decide (x.toNat / 2 ^ m % 2 = 1) := by
  rw [Bool.eq_iff_iff, beq_iff_eq, decide_eq_true_eq]
  have h : (x >>> m &&& BitVec.ofInt 8 1).toNat = x.toNat / 2 ^ m % 2 := by
    rw [BitVec.toNat_and, BitVec.toNat_ushiftRight, Nat.shiftRight_eq_div_pow, show (BitVec.ofInt 8 1).toNat = 1 by decide, Nat.and_one_is_mod]
  constructor
  · intro e
    rw [← h, e]; decide
  · intro e
    apply BitVec.eq_of_toNat_eq
    rw [h, e]; decide
theorem mod_bit (y n m : Nat) (h : m < n) : y % 2 ^ n / 2 ^ m % 2 = y / 2 ^ m % 2 := by
  have h1 := Nat.testBit_mod_two_pow y n m
  simp only [h, decide_true, Bool.true_and] at h1
  simp only [Nat.testBit_eq_decide_div_mod_eq, decide_eq_decide] at h1
  omega
theorem leN_bit (B : List (BitVec 8)) (i : Nat) : leN B / 2 ^ i % 2 = (gt B (i / 8)).toNat / 2 ^ (i % 8) % 2 := by
  have h1 := leN_byte B (i / 8)
  have h2 := mod_bit (leN B / 256 ^ (i / 8)) 8 (i % 8) (by omega)
  rw [show (2 : Nat) ^ 8 = 256 from rfl, h1, Nat.div_div_eq_div_mul, show (256 : Nat) ^ (i / 8) * 2 ^ (i % 8) = 2 ^ i by rw [show (256 : Nat) = 2 ^ 8 from rfl, ← Nat.pow_mul, ← Nat.pow_add, Nat.div_add_mod]] at h2
  exact h2.symm
theorem v5_set {d : List Nat} (hd : d.length = 5) {j : Nat} (hj : j < 5) (x : Nat) : v5 (d.set j (gtN d j + x)) = v5 d + x * 2 ^ (26 * j) := by
  obtain ⟨a, b, c, e, f, rfl⟩ := list5 hd
  match j, hj with
  | 0, _ => simp only [v5, gtN, List.set_cons_zero, List.getD_cons_zero, List.getD_cons_succ]; omega
  | 1, _ => simp only [v5, gtN, List.set_cons_zero, List.set_cons_succ, List.getD_cons_zero, List.getD_cons_succ]; omega
  | 2, _ => simp only [v5, gtN, List.set_cons_zero, List.set_cons_succ, List.getD_cons_zero, List.getD_cons_succ]; omega
  | 3, _ => simp only [v5, gtN, List.set_cons_zero, List.set_cons_succ, List.getD_cons_zero, List.getD_cons_succ]; omega
  | 4, _ => simp only [v5, gtN, List.set_cons_zero, List.set_cons_succ, List.getD_cons_zero, List.getD_cons_succ]; omega
theorem digK_inv (B : List (BitVec 8)) : ∀ i, i ≤ 130 → v5 (digK B i) = leN B % 2 ^ i ∧ ∀ j, j < 5 → gtN (digK B i) j < 2 ^ (min 26 (i - 26 * j))
  | 0, _ => by
    refine ⟨by simp [digK, v5, gtN, Nat.mod_one], fun j hj => ?_⟩
    match j, hj with
    | 0, _ => simp [digK, gtN]
    | 1, _ => simp [digK, gtN]
    | 2, _ => simp [digK, gtN]
    | 3, _ => simp [digK, gtN]
    | 4, _ => simp [digK, gtN]
  | i + 1, h => by
    obtain ⟨ih1, ih2⟩ := digK_inv B i (by omega)
    have hl := digK_length B i
    have hb := leN_bit B i
    have hm : leN B % 2 ^ (i + 1) = leN B % 2 ^ i + 2 ^ i * (leN B / 2 ^ i % 2) := by rw [Nat.pow_succ, Nat.mod_mul]
    rw [digK, bit01]
    by_cases hbit : (gt B (i / 8)).toNat / 2 ^ (i % 8) % 2 = 1
    · rw [if_pos (by simpa using hbit), if_pos (by omega), hm, hb, hbit, Nat.mul_one, ← ih1]
      generalize digK B i = D at *
      constructor
      · rw [v5_set hl (by omega), Nat.one_mul, ← Nat.pow_add, Nat.add_comm (i % 26), Nat.div_add_mod]
      · intro j hj
        rw [gtN_set (by omega)]
        split
        · rename_i e
          have := ih2 j hj
          rw [← e] at this ⊢
          have e1 : min 26 (i - 26 * (i / 26)) = i % 26 := by omega
          have e2 : min 26 (i + 1 - 26 * (i / 26)) = i % 26 + 1 := by omega
          rw [e1] at this
          rw [e2, Nat.pow_succ]
          omega
        · exact Nat.lt_of_lt_of_le (ih2 j hj) (Nat.pow_le_pow_right (by omega) (by omega))
    · rw [if_neg (by simpa using hbit), hm, hb, show (gt B (i / 8)).toNat / 2 ^ (i % 8) % 2 = 0 by omega, Nat.mul_zero, Nat.add_zero]
      exact ⟨ih1, fun j hj => Nat.lt_of_lt_of_le (ih2 j hj) (Nat.pow_le_pow_right (by omega) (by omega))⟩
theorem digK_more (B : List (BitVec 8)) : ∀ k, digK B (130 + k) = digK B 130
  | 0 => rfl
  | k + 1 => by
    rw [show 130 + (k + 1) = (130 + k) + 1 by omega, digK, digK_more B k]
    split
    · rw [if_neg (by omega)]
    · rfl
theorem digK_val (B : List (BitVec 8)) (hB : leN B < 1361129467683753853853498429727072845824) : v5 (digK B 136) = leN B ∧ dig5 (digK B 136) := by
  obtain ⟨h1, h2⟩ := digK_inv B 130 (Nat.le_refl _)
  have hl := digK_length B 130
  rw [show 136 = 130 + 6 from rfl, digK_more]
  refine ⟨by rw [h1]; exact Nat.mod_eq_of_lt hB, hl, ?_, ?_, ?_, ?_, ?_⟩
  · exact h2 0 (by omega)
  · exact h2 1 (by omega)
  · exact h2 2 (by omega)
  · exact h2 3 (by omega)
  · exact h2 4 (by omega)
/-! ### carried -/
def carS (M : Nat) (d : List Nat) (i : Nat) : List Nat :=
  if i < 4 then (d.set i (gtN d i - gtN d i / M * M)).set (i + 1) (gtN (d.set i (gtN d i - gtN d i / M * M)) (i + 1) + gtN d i / M)
  else (d.set i (gtN d i - gtN d i / M * M)).set 0 (gtN (d.set i (gtN d i - gtN d i / M * M)) 0 + 5 * (gtN d i / M))
def carI (M : Nat) (d : List Nat) : Nat → List Nat
  | 0 => d
  | i + 1 => carS M (carI M d i) i
def carR (M : Nat) (d : List Nat) : Nat → List Nat
  | 0 => d
  | r + 1 => carI M (carR M d r) 5
theorem carS_length (M : Nat) (d : List Nat) (i : Nat) : (carS M d i).length = d.length := by
  unfold carS
  split <;> simp
theorem carI_length (M : Nat) (d : List Nat) : ∀ i, (carI M d i).length = d.length
  | 0 => rfl
  | i + 1 => by rw [carI, carS_length, carI_length M d i]
theorem carR_length (M : Nat) (d : List Nat) : ∀ i, (carR M d i).length = d.length
  | 0 => rfl
  | i + 1 => by rw [carR, carI_length, carR_length M d i]
def s5 (d : List Nat) : Nat := gtN d 0 + gtN d 1 + gtN d 2 + gtN d 3 + gtN d 4
theorem s5_le {d : List Nat} {j : Nat} (hj : j < 5) : gtN d j ≤ s5 d := by
  unfold s5
  match j, hj with
  | 0, _ => omega
  | 1, _ => omega
  | 2, _ => omega
  | 3, _ => omega
  | 4, _ => omega
theorem s5_set {d : List Nat} (hd : d.length = 5) {j : Nat} (hj : j < 5) (x : Nat) : s5 (d.set j x) + gtN d j = s5 d + x := by
  obtain ⟨a, b, c, e, f, rfl⟩ := list5 hd
  match j, hj with
  | 0, _ => show x + b + c + e + f + a = a + b + c + e + f + x; omega
  | 1, _ => show a + x + c + e + f + b = a + b + c + e + f + x; omega
  | 2, _ => show a + b + x + e + f + c = a + b + c + e + f + x; omega
  | 3, _ => show a + b + c + x + f + e = a + b + c + e + f + x; omega
  | 4, _ => show a + b + c + e + x + f = a + b + c + e + f + x; omega
theorem carS_s5 {M : Nat} (hM : 5 ≤ M) {d : List Nat} (hd : d.length = 5) {i : Nat} (hi : i < 5) : s5 (carS M d i) ≤ s5 d := by
  have h1 := s5_set hd hi (gtN d i - gtN d i / M * M)
  have h2 := Nat.div_mul_le_self (gtN d i) M
  have h3 : gtN d i / M * 5 ≤ gtN d i / M * M := Nat.mul_le_mul_left _ hM
  have hl : (d.set i (gtN d i - gtN d i / M * M)).length = 5 := by simp [hd]
  unfold carS
  generalize gtN d i / M * M = p at *
  generalize gtN d i / M = c at *
  generalize d.set i (gtN d i - p) = D at *
  split
  · have h4 := s5_set hl (show i + 1 < 5 by omega) (gtN D (i + 1) + c)
    omega
  · have h4 := s5_set hl (show 0 < 5 by omega) (gtN D 0 + 5 * c)
    omega
theorem carI_s5 {M : Nat} (hM : 5 ≤ M) {d : List Nat} (hd : d.length = 5) : ∀ i, i ≤ 5 → s5 (carI M d i) ≤ s5 d
  | 0, _ => Nat.le_refl _
  | i + 1, h => Nat.le_trans (carS_s5 hM ((carI_length M d i).trans hd) (by omega)) (carI_s5 hM hd i (by omega))
theorem carR_s5 {M : Nat} (hM : 5 ≤ M) {d : List Nat} (hd : d.length = 5) : ∀ r, s5 (carR M d r) ≤ s5 d
  | 0 => Nat.le_refl _
  | r + 1 => Nat.le_trans (carI_s5 hM ((carR_length M d r).trans hd) 5 (Nat.le_refl _)) (carR_s5 hM hd r)
theorem carI_five (M a b c e f : Nat) : ∃ x0 x1 x2 x3 x4, x0 = a / M ∧ x1 = (b + x0) / M ∧ x2 = (c + x1) / M ∧ x3 = (e + x2) / M ∧ x4 = (f + x3) / M ∧
    carI M [a, b, c, e, f] 5 = [a - x0 * M + 5 * x4, b + x0 - x1 * M, c + x1 - x2 * M, e + x2 - x3 * M, f + x3 - x4 * M] :=
  ⟨_, _, _, _, _, rfl, rfl, rfl, rfl, rfl, rfl⟩
theorem car_one {M a b c e f : Nat} (hM : M = 67108864) : ∃ a1 b1 c1 e1 f1 x0 x1 x2 x3 x4, carI M [a, b, c, e, f] 5 = [a1, b1, c1, e1, f1] ∧
    a1 = a % 67108864 + 5 * x4 ∧ b1 = (b + x0) % 67108864 ∧ c1 = (c + x1) % 67108864 ∧ e1 = (e + x2) % 67108864 ∧ f1 = (f + x3) % 67108864 ∧
    x0 = a / 67108864 ∧ x1 = (b + x0) / 67108864 ∧ x2 = (c + x1) / 67108864 ∧ x3 = (e + x2) / 67108864 ∧ x4 = (f + x3) / 67108864 := by
  obtain ⟨x0, x1, x2, x3, x4, h0, h1, h2, h3, h4, hx⟩ := carI_five M a b c e f
  refine ⟨_, _, _, _, _, x0, x1, x2, x3, x4, hx, ?_⟩
  subst hM
  omega
theorem car_round {a b c e f a1 b1 c1 e1 f1 x0 x1 x2 x3 x4 : Nat}
    (ha : a1 = a % 67108864 + 5 * x4) (hb : b1 = (b + x0) % 67108864) (hc : c1 = (c + x1) % 67108864) (he : e1 = (e + x2) % 67108864) (hf : f1 = (f + x3) % 67108864)
    (h0 : x0 = a / 67108864) (h1 : x1 = (b + x0) / 67108864) (h2 : x2 = (c + x1) / 67108864) (h3 : x3 = (e + x2) / 67108864) (h4 : x4 = (f + x3) / 67108864) :
    a + 67108864 * b + 4503599627370496 * c + 302231454903657293676544 * e + 20282409603651670423947251286016 * f = a1 + 67108864 * b1 + 4503599627370496 * c1 + 302231454903657293676544 * e1 + 20282409603651670423947251286016 * f1 + 1361129467683753853853498429727072845819 * x4 := by
  omega
theorem dlt {x n B : Nat} (hx : x = n / 67108864) (hn : n < 67108864 * B) : x < B := by rw [hx]; exact Nat.div_lt_of_lt_mul hn
theorem mlt {x n : Nat} (hx : x = n % 67108864) : x < 67108864 := by rw [hx]; exact Nat.mod_lt _ (by decide)
theorem lim {x n m B B' : Nat} (hx : x = n % 67108864 + 5 * m) (hm : m < B) (hb : 67108864 + 5 * B ≤ B') : x < B' := by
  have := Nat.mod_lt n (show 67108864 > 0 by decide)
  omega
theorem car_b1 {a b c e f a1 b1 c1 e1 f1 x0 x1 x2 x3 x4 : Nat}
    (ha : a1 = a % 67108864 + 5 * x4) (hb : b1 = (b + x0) % 67108864) (hc : c1 = (c + x1) % 67108864) (he : e1 = (e + x2) % 67108864) (hf : f1 = (f + x3) % 67108864)
    (h0 : x0 = a / 67108864) (h1 : x1 = (b + x0) / 67108864) (h2 : x2 = (c + x1) / 67108864) (h3 : x3 = (e + x2) / 67108864) (h4 : x4 = (f + x3) / 67108864) (hs : a < 576460752303423488 ∧ b < 576460752303423488 ∧ c < 576460752303423488 ∧ e < 576460752303423488 ∧ f < 576460752303423488) : a1 < 137438953472 ∧ b1 < 67108864 ∧ c1 < 67108864 ∧ e1 < 67108864 ∧ f1 < 67108864 := by
  obtain ⟨s0, s1, s2, s3, s4⟩ := hs
  have g0 : x0 < 17179869184 := dlt h0 (Nat.lt_of_lt_of_le s0 (by decide))
  have g1 : x1 < 17179869184 := dlt h1 (Nat.lt_of_lt_of_le (Nat.add_lt_add s1 g0) (by decide))
  have g2 : x2 < 17179869184 := dlt h2 (Nat.lt_of_lt_of_le (Nat.add_lt_add s2 g1) (by decide))
  have g3 : x3 < 17179869184 := dlt h3 (Nat.lt_of_lt_of_le (Nat.add_lt_add s3 g2) (by decide))
  have g4 : x4 < 17179869184 := dlt h4 (Nat.lt_of_lt_of_le (Nat.add_lt_add s4 g3) (by decide))
  exact ⟨lim ha g4 (by decide), mlt hb, mlt hc, mlt he, mlt hf⟩
theorem car_b2 {a b c e f a1 b1 c1 e1 f1 x0 x1 x2 x3 x4 : Nat}
    (ha : a1 = a % 67108864 + 5 * x4) (hb : b1 = (b + x0) % 67108864) (hc : c1 = (c + x1) % 67108864) (he : e1 = (e + x2) % 67108864) (hf : f1 = (f + x3) % 67108864)
    (h0 : x0 = a / 67108864) (h1 : x1 = (b + x0) / 67108864) (h2 : x2 = (c + x1) / 67108864) (h3 : x3 = (e + x2) / 67108864) (h4 : x4 = (f + x3) / 67108864) (hs : a < 137438953472 ∧ b < 67108864 ∧ c < 67108864 ∧ e < 67108864 ∧ f < 67108864) : a1 < 67108874 ∧ b1 < 67108864 ∧ c1 < 67108864 ∧ e1 < 67108864 ∧ f1 < 67108864 := by
  obtain ⟨s0, s1, s2, s3, s4⟩ := hs
  have g0 : x0 < 2048 := dlt h0 (Nat.lt_of_lt_of_le s0 (by decide))
  have g1 : x1 < 2 := dlt h1 (Nat.lt_of_lt_of_le (Nat.add_lt_add s1 g0) (by decide))
  have g2 : x2 < 2 := dlt h2 (Nat.lt_of_lt_of_le (Nat.add_lt_add s2 g1) (by decide))
  have g3 : x3 < 2 := dlt h3 (Nat.lt_of_lt_of_le (Nat.add_lt_add s3 g2) (by decide))
  have g4 : x4 < 2 := dlt h4 (Nat.lt_of_lt_of_le (Nat.add_lt_add s4 g3) (by decide))
  exact ⟨lim ha g4 (by decide), mlt hb, mlt hc, mlt he, mlt hf⟩
theorem car_b3 {a b c e f a1 b1 c1 e1 f1 x0 x1 x2 x3 x4 : Nat}
    (ha : a1 = a % 67108864 + 5 * x4) (hb : b1 = (b + x0) % 67108864) (hc : c1 = (c + x1) % 67108864) (he : e1 = (e + x2) % 67108864) (hf : f1 = (f + x3) % 67108864)
    (h0 : x0 = a / 67108864) (h1 : x1 = (b + x0) / 67108864) (h2 : x2 = (c + x1) / 67108864) (h3 : x3 = (e + x2) / 67108864) (h4 : x4 = (f + x3) / 67108864) (hs : a < 67108874 ∧ b < 67108864 ∧ c < 67108864 ∧ e < 67108864 ∧ f < 67108864) : a1 < 67108864 ∧ b1 < 67108864 ∧ c1 < 67108864 ∧ e1 < 67108864 ∧ f1 < 67108864 := by
  obtain ⟨s0, s1, s2, s3, s4⟩ := hs
  refine ⟨?_, mlt hb, mlt hc, mlt he, mlt hf⟩
  have g0 : x0 < 2 := dlt h0 (Nat.lt_of_lt_of_le s0 (by decide))
  have g1 : x1 < 2 := dlt h1 (Nat.lt_of_lt_of_le (Nat.add_lt_add s1 g0) (by decide))
  have g2 : x2 < 2 := dlt h2 (Nat.lt_of_lt_of_le (Nat.add_lt_add s2 g1) (by decide))
  have g3 : x3 < 2 := dlt h3 (Nat.lt_of_lt_of_le (Nat.add_lt_add s3 g2) (by decide))
  have g4 : x4 < 2 := dlt h4 (Nat.lt_of_lt_of_le (Nat.add_lt_add s4 g3) (by decide))
  rcases Nat.lt_or_ge a 67108864 with h | h
  · have k0 : x0 = 0 := h0.trans (Nat.div_eq_of_lt h)
    have k1 : x1 = 0 := by rw [h1, k0]; exact Nat.div_eq_of_lt s1
    have k2 : x2 = 0 := by rw [h2, k1]; exact Nat.div_eq_of_lt s2
    have k3 : x3 = 0 := by rw [h3, k2]; exact Nat.div_eq_of_lt s3
    have k4 : x4 = 0 := by rw [h4, k3]; exact Nat.div_eq_of_lt s4
    rw [ha, k4]
    exact Nat.mod_lt _ (by decide)
  · clear hb hc he hf h0 h1 h2 h3 h4 g0 g1 g2 g3 s1 s2 s3 s4
    omega
theorem v5_five (a b c e f : Nat) : v5 [a, b, c, e, f] = a + 67108864 * b + 4503599627370496 * c + 302231454903657293676544 * e + 20282409603651670423947251286016 * f := by
  simp only [v5, gtN, List.getD_cons_zero, List.getD_cons_succ]
theorem carR_val {M : Nat} (hM : M = 67108864) {d : List Nat} (hd : d.length = 5) (hs : s5 d < 576460752303423488) : dig5 (carR M d 3) ∧ v5 (carR M d 3) % PP = v5 d % PP := by
  obtain ⟨a, b, c, e, f, rfl⟩ := list5 hd
  have hs : a + b + c + e + f < 576460752303423488 := hs
  have hs5 : a < 576460752303423488 ∧ b < 576460752303423488 ∧ c < 576460752303423488 ∧ e < 576460752303423488 ∧ f < 576460752303423488 := by omega
  obtain ⟨a1, b1, c1, e1, f1, x0, x1, x2, x3, x4, hx, p0, p1, p2, p3, p4, p5, p6, p7, p8, p9⟩ := car_one (a := a) (b := b) (c := c) (e := e) (f := f) hM
  have w1 := car_round p0 p1 p2 p3 p4 p5 p6 p7 p8 p9
  have q1 := car_b1 p0 p1 p2 p3 p4 p5 p6 p7 p8 p9 hs5
  clear p0 p1 p2 p3 p4 p5 p6 p7 p8 p9
  obtain ⟨a2, b2, c2, e2, f2, y0, y1, y2, y3, y4, hy, p0, p1, p2, p3, p4, p5, p6, p7, p8, p9⟩ := car_one (a := a1) (b := b1) (c := c1) (e := e1) (f := f1) hM
  have w2 := car_round p0 p1 p2 p3 p4 p5 p6 p7 p8 p9
  have q2 := car_b2 p0 p1 p2 p3 p4 p5 p6 p7 p8 p9 q1
  clear p0 p1 p2 p3 p4 p5 p6 p7 p8 p9 q1
  obtain ⟨a3, b3, c3, e3, f3, z0, z1, z2, z3, z4, hz, p0, p1, p2, p3, p4, p5, p6, p7, p8, p9⟩ := car_one (a := a2) (b := b2) (c := c2) (e := e2) (f := f2) hM
  have w3 := car_round p0 p1 p2 p3 p4 p5 p6 p7 p8 p9
  have q3 := car_b3 p0 p1 p2 p3 p4 p5 p6 p7 p8 p9 q2
  have hr : carR M [a, b, c, e, f] 3 = [a3, b3, c3, e3, f3] := by
    rw [carR, carR, carR, carR, hx, hy, hz]
  rw [hr]
  refine ⟨⟨rfl, q3.1, q3.2.1, q3.2.2.1, q3.2.2.2.1, q3.2.2.2.2⟩, ?_⟩
  rw [v5_five, v5_five]
  clear p0 p1 p2 p3 p4 p5 p6 p7 p8 p9 q2 q3 hr hx hy hz hs hs5 hd
  generalize a + 67108864 * b + 4503599627370496 * c + 302231454903657293676544 * e + 20282409603651670423947251286016 * f = A at *
  generalize a1 + 67108864 * b1 + 4503599627370496 * c1 + 302231454903657293676544 * e1 + 20282409603651670423947251286016 * f1 = A1 at *
  generalize a2 + 67108864 * b2 + 4503599627370496 * c2 + 302231454903657293676544 * e2 + 20282409603651670423947251286016 * f2 = A2 at *
  generalize a3 + 67108864 * b3 + 4503599627370496 * c3 + 302231454903657293676544 * e3 + 20282409603651670423947251286016 * f3 = A3 at *
  rw [w1, w2, w3]
  have hPP : ∀ X y : Nat, (X + 1361129467683753853853498429727072845819 * y) % PP = X % PP := fun X y => Nat.add_mul_mod_self_left X PP y
  rw [hPP, hPP, hPP]
/-! ### products -/
def timI (a b : List Nat) (D : List Nat) (i : Nat) : Nat → List Nat
  | 0 => D
  | k + 1 => (timI a b D i k).set ((i + k) % 5) (gtN (timI a b D i k) ((i + k) % 5) + (if 5 ≤ i + k then 5 * (gtN a i * gtN b k) else gtN a i * gtN b k))
def timO (a b : List Nat) : Nat → List Nat
  | 0 => [0, 0, 0, 0, 0]
  | i + 1 => timI a b (timO a b i) i 5
theorem timI_length (a b D : List Nat) (i : Nat) : ∀ k, (timI a b D i k).length = D.length
  | 0 => rfl
  | k + 1 => by rw [timI, List.length_set, timI_length a b D i k]
theorem timO_length (a b : List Nat) : ∀ i, (timO a b i).length = 5
  | 0 => rfl
  | i + 1 => by rw [timO, timI_length, timO_length a b i]
theorem timI_s5 {a b D : List Nat} {i : Nat} (hD : D.length = 5) (X : Nat) (hx : ∀ k, k < 5 → gtN a i * gtN b k ≤ X) : ∀ k, k ≤ 5 → s5 (timI a b D i k) ≤ s5 D + k * (5 * X)
  | 0, _ => by rw [Nat.zero_mul]; exact Nat.le_refl _
  | k + 1, h => by
    have ih := timI_s5 hD X hx k (by omega)
    have hl := (timI_length a b D i k).trans hD
    have hs := s5_set hl (show (i + k) % 5 < 5 by omega) (gtN (timI a b D i k) ((i + k) % 5) + (if 5 ≤ i + k then 5 * (gtN a i * gtN b k) else gtN a i * gtN b k))
    have hk := hx k (by omega)
    rw [timI, show (k + 1) * (5 * X) = k * (5 * X) + 5 * X from Nat.succ_mul k (5 * X)]
    generalize gtN a i * gtN b k = p at *
    have : (if 5 ≤ i + k then 5 * p else p) ≤ 5 * X := by split <;> omega
    omega
theorem timO_s5 {a b : List Nat} (X : Nat) (hx : ∀ i k, i < 5 → k < 5 → gtN a i * gtN b k ≤ X) : ∀ i, i ≤ 5 → s5 (timO a b i) ≤ i * (25 * X)
  | 0, _ => by rw [Nat.zero_mul]; exact Nat.le_refl _
  | i + 1, h => by
    have ih := timO_s5 X hx i (by omega)
    have := timI_s5 (timO_length a b i) X (fun k hk => hx i k (by omega) hk) 5 (Nat.le_refl _)
    rw [timO, show (i + 1) * (25 * X) = i * (25 * X) + 25 * X from Nat.succ_mul i (25 * X)]
    omega
theorem timI_five (a b : List Nat) (x0 x1 x2 x3 x4 : Nat) : timI a b [x0, x1, x2, x3, x4] 0 5 = [x0 + gtN a 0 * gtN b 0, x1 + gtN a 0 * gtN b 1, x2 + gtN a 0 * gtN b 2, x3 + gtN a 0 * gtN b 3, x4 + gtN a 0 * gtN b 4] ∧
    timI a b [x0, x1, x2, x3, x4] 1 5 = [x0 + 5 * (gtN a 1 * gtN b 4), x1 + gtN a 1 * gtN b 0, x2 + gtN a 1 * gtN b 1, x3 + gtN a 1 * gtN b 2, x4 + gtN a 1 * gtN b 3] ∧
    timI a b [x0, x1, x2, x3, x4] 2 5 = [x0 + 5 * (gtN a 2 * gtN b 3), x1 + 5 * (gtN a 2 * gtN b 4), x2 + gtN a 2 * gtN b 0, x3 + gtN a 2 * gtN b 1, x4 + gtN a 2 * gtN b 2] ∧
    timI a b [x0, x1, x2, x3, x4] 3 5 = [x0 + 5 * (gtN a 3 * gtN b 2), x1 + 5 * (gtN a 3 * gtN b 3), x2 + 5 * (gtN a 3 * gtN b 4), x3 + gtN a 3 * gtN b 0, x4 + gtN a 3 * gtN b 1] ∧
    timI a b [x0, x1, x2, x3, x4] 4 5 = [x0 + 5 * (gtN a 4 * gtN b 1), x1 + 5 * (gtN a 4 * gtN b 2), x2 + 5 * (gtN a 4 * gtN b 3), x3 + 5 * (gtN a 4 * gtN b 4), x4 + gtN a 4 * gtN b 0] :=
  ⟨rfl, rfl, rfl, rfl, rfl⟩
theorem row5 (x b0 b1 b2 b3 b4 : Nat) : x * (b0 + 67108864 * b1 + 4503599627370496 * b2 + 302231454903657293676544 * b3 + 20282409603651670423947251286016 * b4) = x * b0 + 67108864 * (x * b1) + 4503599627370496 * (x * b2) + 302231454903657293676544 * (x * b3) + 20282409603651670423947251286016 * (x * b4) := by
  simp only [Nat.mul_add, Nat.mul_left_comm]
theorem col5 (a0 a1 a2 a3 a4 V : Nat) : (a0 + 67108864 * a1 + 4503599627370496 * a2 + 302231454903657293676544 * a3 + 20282409603651670423947251286016 * a4) * V = a0 * V + 67108864 * (a1 * V) + 4503599627370496 * (a2 * V) + 302231454903657293676544 * (a3 * V) + 20282409603651670423947251286016 * (a4 * V) := by
  simp only [Nat.add_mul, Nat.mul_assoc]
theorem timO_five (a0 a1 a2 a3 a4 b0 b1 b2 b3 b4 : Nat) : timO [a0, a1, a2, a3, a4] [b0, b1, b2, b3, b4] 5 = [0 + a0 * b0 + 5 * (a1 * b4) + 5 * (a2 * b3) + 5 * (a3 * b2) + 5 * (a4 * b1), 0 + a0 * b1 + a1 * b0 + 5 * (a2 * b4) + 5 * (a3 * b3) + 5 * (a4 * b2), 0 + a0 * b2 + a1 * b1 + a2 * b0 + 5 * (a3 * b4) + 5 * (a4 * b3), 0 + a0 * b3 + a1 * b2 + a2 * b1 + a3 * b0 + 5 * (a4 * b4), 0 + a0 * b4 + a1 * b3 + a2 * b2 + a3 * b1 + a4 * b0] := by
  show timI _ _ (timI _ _ (timI _ _ (timI _ _ (timI _ _ [0, 0, 0, 0, 0] 0 5) 1 5) 2 5) 3 5) 4 5 = _
  rw [(timI_five _ _ _ _ _ _ _).1, (timI_five _ _ _ _ _ _ _).2.1, (timI_five _ _ _ _ _ _ _).2.2.1, (timI_five _ _ _ _ _ _ _).2.2.2.1, (timI_five _ _ _ _ _ _ _).2.2.2.2]
  simp only [gtN, List.getD_cons_zero, List.getD_cons_succ]
theorem prod_id (p00 p01 p02 p03 p04 p10 p11 p12 p13 p14 p20 p21 p22 p23 p24 p30 p31 p32 p33 p34 p40 p41 p42 p43 p44 : Nat) :
    (p00 + 67108864 * p01 + 4503599627370496 * p02 + 302231454903657293676544 * p03 + 20282409603651670423947251286016 * p04) +
      67108864 * (p10 + 67108864 * p11 + 4503599627370496 * p12 + 302231454903657293676544 * p13 + 20282409603651670423947251286016 * p14) +
      4503599627370496 * (p20 + 67108864 * p21 + 4503599627370496 * p22 + 302231454903657293676544 * p23 + 20282409603651670423947251286016 * p24) +
      302231454903657293676544 * (p30 + 67108864 * p31 + 4503599627370496 * p32 + 302231454903657293676544 * p33 + 20282409603651670423947251286016 * p34) +
      20282409603651670423947251286016 * (p40 + 67108864 * p41 + 4503599627370496 * p42 + 302231454903657293676544 * p43 + 20282409603651670423947251286016 * p44) =
    (0 + p00 + 5 * p14 + 5 * p23 + 5 * p32 + 5 * p41) + 67108864 * (0 + p01 + p10 + 5 * p24 + 5 * p33 + 5 * p42) + 4503599627370496 * (0 + p02 + p11 + p20 + 5 * p34 + 5 * p43) + 302231454903657293676544 * (0 + p03 + p12 + p21 + p30 + 5 * p44) + 20282409603651670423947251286016 * (0 + p04 + p13 + p22 + p31 + p40) +
      1361129467683753853853498429727072845819 * (p14 + p23 + p32 + p41 + 67108864 * (p24 + p33 + p42) + 4503599627370496 * (p34 + p43) + 302231454903657293676544 * p44) := by
  omega
theorem timO_val {a b : List Nat} (ha : a.length = 5) (hb : b.length = 5) : v5 (timO a b 5) % PP = (v5 a * v5 b) % PP := by
  obtain ⟨a0, a1, a2, a3, a4, rfl⟩ := list5 ha
  obtain ⟨b0, b1, b2, b3, b4, rfl⟩ := list5 hb
  have hPP : ∀ X y : Nat, (X + 1361129467683753853853498429727072845819 * y) % PP = X % PP := fun X y => Nat.add_mul_mod_self_left X PP y
  rw [timO_five, v5_five, v5_five, v5_five, col5, row5 a0, row5 a1, row5 a2, row5 a3, row5 a4, prod_id, hPP]
/-! ### less P as often as may be -/
def chS (M : Nat) (e : List Nat) (i : Nat) : List Nat := (e.set i (gtN e i - gtN e i / M * M)).set (i + 1) (gtN (e.set i (gtN e i - gtN e i / M * M)) (i + 1) + gtN e i / M)
def chI (M : Nat) (e : List Nat) : Nat → List Nat
  | 0 => e
  | i + 1 => chS M (chI M e i) i
theorem chI_length (M : Nat) (e : List Nat) : ∀ i, (chI M e i).length = e.length
  | 0 => rfl
  | i + 1 => by rw [chI, chS, List.length_set, List.length_set, chI_length M e i]
def lst1 (M : Nat) (d : List Nat) : List Nat :=
  if 67108864 ≤ gtN (chI M (d.set 0 (gtN d 0 + 5)) 4) 4 then (chI M (d.set 0 (gtN d 0 + 5)) 4).set 4 (gtN (chI M (d.set 0 (gtN d 0 + 5)) 4) 4 - 67108864) else d
theorem chI_four (M a b c e f : Nat) : ∃ x0 x1 x2 x3, x0 = a / M ∧ x1 = (b + x0) / M ∧ x2 = (c + x1) / M ∧ x3 = (e + x2) / M ∧
    chI M [a, b, c, e, f] 4 = [a - x0 * M, b + x0 - x1 * M, c + x1 - x2 * M, e + x2 - x3 * M, f + x3] :=
  ⟨_, _, _, _, rfl, rfl, rfl, rfl, rfl⟩
theorem ch_one {M a b c e f : Nat} (hM : M = 67108864) : ∃ a1 b1 c1 e1 x0 x1 x2 x3, chI M [a, b, c, e, f] 4 = [a1, b1, c1, e1, f + x3] ∧
    a1 = a % 67108864 ∧ b1 = (b + x0) % 67108864 ∧ c1 = (c + x1) % 67108864 ∧ e1 = (e + x2) % 67108864 ∧
    x0 = a / 67108864 ∧ x1 = (b + x0) / 67108864 ∧ x2 = (c + x1) / 67108864 ∧ x3 = (e + x2) / 67108864 := by
  obtain ⟨x0, x1, x2, x3, h0, h1, h2, h3, hx⟩ := chI_four M a b c e f
  refine ⟨_, _, _, _, x0, x1, x2, x3, hx, ?_⟩
  subst hM
  omega
theorem ch_round {a b c e f a1 b1 c1 e1 x0 x1 x2 x3 : Nat}
    (ha : a1 = a % 67108864) (hb : b1 = (b + x0) % 67108864) (hc : c1 = (c + x1) % 67108864) (he : e1 = (e + x2) % 67108864)
    (h0 : x0 = a / 67108864) (h1 : x1 = (b + x0) / 67108864) (h2 : x2 = (c + x1) / 67108864) (h3 : x3 = (e + x2) / 67108864) :
    a + 67108864 * b + 4503599627370496 * c + 302231454903657293676544 * e + 20282409603651670423947251286016 * f = a1 + 67108864 * b1 + 4503599627370496 * c1 + 302231454903657293676544 * e1 + 20282409603651670423947251286016 * (f + x3) := by
  omega
theorem five_lt {a1 b1 c1 e1 g : Nat} (ha : a1 < 67108864) (hb : b1 < 67108864) (hc : c1 < 67108864) (he : e1 < 67108864) (hg : g < 67108864) : a1 + 67108864 * b1 + 4503599627370496 * c1 + 302231454903657293676544 * e1 + 20282409603651670423947251286016 * g < 1361129467683753853853498429727072845824 := by omega
theorem lst1_val {M : Nat} (hM : M = 67108864) {d : List Nat} (hd : dig5 d) : dig5 (lst1 M d) ∧ v5 (lst1 M d) = if PP ≤ v5 d then v5 d - PP else v5 d := by
  obtain ⟨hl, g0, g1, g2, g3, g4⟩ := hd
  obtain ⟨a, b, c, e, f, rfl⟩ := list5 hl
  have g0 : a < 67108864 := g0
  have g1 : b < 67108864 := g1
  have g2 : c < 67108864 := g2
  have g3 : e < 67108864 := g3
  have g4 : f < 67108864 := g4
  obtain ⟨a1, b1, c1, e1, x0, x1, x2, x3, hx, p0, p1, p2, p3, p4, p5, p6, p7⟩ := ch_one (a := a + 5) (b := b) (c := c) (e := e) (f := f) hM
  have hr := ch_round (f := f) p0 p1 p2 p3 p4 p5 p6 p7
  have k0 : x0 < 2 := dlt p4 (Nat.lt_of_lt_of_le (Nat.add_lt_add_right g0 5) (by decide))
  have k1 : x1 < 2 := dlt p5 (Nat.lt_of_lt_of_le (Nat.add_lt_add g1 k0) (by decide))
  have k2 : x2 < 2 := dlt p6 (Nat.lt_of_lt_of_le (Nat.add_lt_add g2 k1) (by decide))
  have k3 : x3 < 2 := dlt p7 (Nat.lt_of_lt_of_le (Nat.add_lt_add g3 k2) (by decide))
  have m0 := mlt p0
  have m1 := mlt p1
  have m2 := mlt p2
  have m3 := mlt p3
  have hs : [a, b, c, e, f].set 0 (gtN [a, b, c, e, f] 0 + 5) = [a + 5, b, c, e, f] := rfl
  have hPP : PP = 1361129467683753853853498429727072845819 := rfl
  clear p0 p1 p2 p3 p4 p5 p6 p7 k0 k1 k2
  unfold lst1
  rw [hs, hx]
  have hg : ∀ p q r s t : Nat, gtN [p, q, r, s, t] 4 = t := fun _ _ _ _ _ => rfl
  have hst : ∀ p q r s t u : Nat, [p, q, r, s, t].set 4 u = [p, q, r, s, u] := fun _ _ _ _ _ _ => rfl
  rw [hg, hst]
  by_cases h : 67108864 ≤ f + x3
  · obtain ⟨g, hgg⟩ : ∃ g, f + x3 = g + 67108864 := ⟨f + x3 - 67108864, by omega⟩
    have hg4 : g < 67108864 := by omega
    rw [if_pos h, v5_five, v5_five, hPP, hgg, Nat.add_sub_cancel]
    rw [hgg] at hr
    refine ⟨⟨rfl, m0, m1, m2, m3, hg4⟩, ?_⟩
    have e1 : a + 67108864 * b + 4503599627370496 * c + 302231454903657293676544 * e + 20282409603651670423947251286016 * f = a1 + 67108864 * b1 + 4503599627370496 * c1 + 302231454903657293676544 * e1 + 20282409603651670423947251286016 * g + 1361129467683753853853498429727072845819 := by
      clear m0 m1 m2 m3 hg4 hgg h k3 hx hs hg hst hPP g0 g1 g2 g3 g4 hl
      omega
    rw [e1, if_pos (Nat.le_add_left _ _), Nat.add_sub_cancel]
  · have hf : f + x3 < 67108864 := Nat.lt_of_not_le h
    have hlt := five_lt m0 m1 m2 m3 hf
    rw [if_neg h, v5_five, hPP]
    refine ⟨⟨rfl, g0, g1, g2, g3, g4⟩, ?_⟩
    have e1 : a + 67108864 * b + 4503599627370496 * c + 302231454903657293676544 * e + 20282409603651670423947251286016 * f < 1361129467683753853853498429727072845819 := by
      rw [← hr] at hlt
      clear m0 m1 m2 m3 hf h k3 hx hs hg hst hPP g0 g1 g2 g3 g4 hl hr
      omega
    rw [if_neg (Nat.not_le_of_lt e1)]
/-! ### the bytes of the tag -/
theorem v5_digit {d : List Nat} (hd : dig5 d) {j : Nat} (hj : j < 5) : v5 d / 2 ^ (26 * j) % 67108864 = gtN d j := by
  obtain ⟨hl, g0, g1, g2, g3, g4⟩ := hd
  unfold v5
  match j, hj with
  | 0, _ => generalize gtN d 0 = a at *; generalize gtN d 1 = b at *; generalize gtN d 2 = c at *; generalize gtN d 3 = e at *; generalize gtN d 4 = f at *; omega
  | 1, _ => generalize gtN d 0 = a at *; generalize gtN d 1 = b at *; generalize gtN d 2 = c at *; generalize gtN d 3 = e at *; generalize gtN d 4 = f at *; omega
  | 2, _ => generalize gtN d 0 = a at *; generalize gtN d 1 = b at *; generalize gtN d 2 = c at *; generalize gtN d 3 = e at *; generalize gtN d 4 = f at *; omega
  | 3, _ => generalize gtN d 0 = a at *; generalize gtN d 1 = b at *; generalize gtN d 2 = c at *; generalize gtN d 3 = e at *; generalize gtN d 4 = f at *; omega
  | 4, _ => generalize gtN d 0 = a at *; generalize gtN d 1 = b at *; generalize gtN d 2 = c at *; generalize gtN d 3 = e at *; generalize gtN d 4 = f at *; omega
theorem v5_bit {d : List Nat} (hd : dig5 d) {i : Nat} (hi : i < 130) : (gtN d (i / 26) / 2 ^ (i % 26) &&& 1) = v5 d / 2 ^ i % 2 := by
  have h1 := v5_digit hd (show i / 26 < 5 by omega)
  have h2 := mod_bit (v5 d / 2 ^ (26 * (i / 26))) 26 (i % 26) (by omega)
  rw [Nat.and_one_is_mod, ← h1, show (67108864 : Nat) = 2 ^ 26 from rfl, h2, Nat.div_div_eq_div_mul, ← Nat.pow_add, Nat.div_add_mod]
def xK (d : List Nat) (i : Nat) (x : Nat) : Nat → Nat
  | 0 => x
  | k + 1 => xK d i x k + (gtN d ((8 * i + k) / 26) / 2 ^ ((8 * i + k) % 26) &&& 1) * 2 ^ k
theorem xK_val {d : List Nat} (hd : dig5 d) {i : Nat} (hi : i < 16) (x : Nat) : ∀ k, k ≤ 8 → xK d i x k = x + v5 d / 2 ^ (8 * i) % 2 ^ k
  | 0, _ => by simp [xK, Nat.mod_one]
  | k + 1, h => by
    rw [xK, xK_val hd hi x k (by omega), v5_bit hd (by omega), Nat.pow_add 2 (8 * i) k, ← Nat.div_div_eq_div_mul, Nat.pow_succ, Nat.mod_mul, Nat.mul_comm (2 ^ k)]
    omega
def tcK (s : List (BitVec 8)) (d : List Nat) : Nat → Nat
  | 0 => 0
  | i + 1 => xK d i ((gt s i).toNat + tcK s d i) 8 / 2 ^ 8
def toP (s : List (BitVec 8)) (d : List Nat) : Nat → List (BitVec 8)
  | 0 => []
  | i + 1 => toP s d i ++ [BitVec.ofNat 8 (xK d i ((gt s i).toNat + tcK s d i) 8)]
theorem toP_length (s : List (BitVec 8)) (d : List Nat) : ∀ i, (toP s d i).length = i
  | 0 => rfl
  | i + 1 => by rw [toP, List.length_append, toP_length s d i]; rfl
theorem tcK_le {s : List (BitVec 8)} {d : List Nat} (hd : dig5 d) : ∀ i, i ≤ 16 → tcK s d i ≤ 1
  | 0, _ => by simp [tcK]
  | i + 1, h => by
    have ih := tcK_le (s := s) hd i (by omega)
    have hs := (gt s i).isLt
    rw [tcK, xK_val hd (by omega) _ 8 (Nat.le_refl _)]
    have := Nat.mod_lt (v5 d / 2 ^ (8 * i)) (show 2 ^ 8 > 0 by decide)
    generalize v5 d / 2 ^ (8 * i) % 2 ^ 8 = y at *
    omega
theorem toP_val {s : List (BitVec 8)} {d : List Nat} (hs : s.length = 16) (hd : dig5 d) : ∀ i, i ≤ 16 → leN (toP s d i) + 256 ^ i * tcK s d i = leN (s.take i) + v5 d % 256 ^ i
  | 0, _ => by simp [toP, tcK, leN, Nat.mod_one]
  | i + 1, h => by
    have ih := toP_val hs hd i (by omega)
    rw [toP, leN_append, toP_length, leN_take (by omega), tcK, xK_val hd (by omega) _ 8 (Nat.le_refl _)]
    simp only [leN, Nat.mul_zero, Nat.add_zero, BitVec.toNat_ofNat]
    have e0 : v5 d % 256 ^ (i + 1) = v5 d % 256 ^ i + 256 ^ i * (v5 d / 256 ^ i % 256) := by rw [Nat.pow_succ, Nat.mod_mul]
    have e1 : (256 : Nat) ^ i = 2 ^ (8 * i) := by rw [show (256 : Nat) = 2 ^ 8 from rfl, ← Nat.pow_mul]
    rw [e0, ← e1, show (2 : Nat) ^ 8 = 256 from rfl, Nat.pow_succ]
    generalize v5 d / 256 ^ i % 256 = y at *
    generalize v5 d % 256 ^ i = z at *
    generalize tcK s d i = t at *
    generalize (gt s i).toNat = b at *
    generalize 256 ^ i = p at *
    have hm : (b + t + y) % 256 + 256 * ((b + t + y) / 256) = b + t + y := by omega
    have h2 := congrArg (fun q => p * q) hm
    simp only [Nat.mul_add] at h2
    rw [Nat.mul_assoc]
    omega
theorem toP_tag {s : List (BitVec 8)} {d : List Nat} (hs : s.length = 16) (hd : dig5 d) : leN (toP s d 16) = (v5 d + leN s) % 340282366920938463463374607431768211456 := by
  have h := toP_val hs hd 16 (Nat.le_refl _)
  have h2 := tcK_le (s := s) hd 16 (Nat.le_refl _)
  have h3 := leN_lt (toP s d 16)
  rw [toP_length] at h3
  rw [List.take_of_length_le (by omega)] at h
  rw [show (256 : Nat) ^ 16 = 340282366920938463463374607431768211456 by decide] at h h3
  omega
end Go.Proofs.Ytikopoimoaddhaa
