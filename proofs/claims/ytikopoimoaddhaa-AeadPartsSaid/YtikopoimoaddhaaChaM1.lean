/- Whole arrays read and written at once; regions that draw their order and whose callees make memory. No condition. Arrays of this program held against each other by '=='. No condition. Walks of chacha's Quarter and of the reference's: both give the quarter of a round. No condition. Walks of chacha's State and of the reference's: both give the state that a block begins with. No condition. -/
import Derived.Test.YtikopoimoaddhaaBase
namespace Go.Proofs.Ytikopoimoaddhaa
open Go.RowKit

/-- The cells of block b. -/
def rowAt (w : World) (b : Nat) : Array Value := match w.heap[b]? with | some (.cells c _ _) => c | _ => #[]
/-- Block b is a row of n cells that may be written. -/
def HasRow (w : World) (b n : Nat) : Prop := ∃ c t, w.heap[b]? = some (.cells c t (0, 0)) ∧ c.size = n
section
variable {w : World} {b n : Nat}
theorem Blk.rowAt {xs : Array Value} {T : TypeId} (h : Blk w b xs T) : rowAt w b = xs := by unfold Go.Proofs.Ytikopoimoaddhaa.rowAt; rw [h.heap]
theorem Blk.hasRow {xs : Array Value} {T : TypeId} (h : Blk w b xs T) (hn : xs.size = n) : HasRow w b n := ⟨xs, T, h, hn⟩
theorem HasRow.lt (h : HasRow w b n) : b < w.heap.size := by obtain ⟨c, t, h, _⟩ := h; exact Blk.lt (T := t) (xs := c) h
@[go_sem] theorem rowAt_new (xs : Array Value) (T : TypeId) : rowAt (w.alloc (.cells xs T)) w.heap.size = xs := (Blk.new w xs T rfl).rowAt
@[go_sem] theorem rowAt_drewN (k : Nat) : rowAt (w.drewN k) b = rowAt w b := rfl
@[go_sem] theorem rowAt_drew : rowAt w.drew b = rowAt w b := rfl
theorem heap_alloc_ne (o : Obj) (h : b ≠ w.heap.size) : (w.alloc o).heap[b]? = w.heap[b]? := by
  show (w.heap.push o)[b]? = w.heap[b]?
  rw [Array.getElem?_push, if_neg h]
@[go_sem] theorem rowAt_alloc (o : Obj) (h : b ≠ w.heap.size) : rowAt (w.alloc o) b = rowAt w b := by
  unfold rowAt; rw [heap_alloc_ne o h]
@[go_sem] theorem rowAt_setCell (a : Addr) (v : Value) (h : b ≠ a.block) : rowAt (w.setCell a v) b = rowAt w b := by
  unfold rowAt; rw [heap_setCell_other w a b v h]
@[go_sem] theorem rowAt_setRow_other (g : Nat) (xs : Array Value) (h : b ≠ g) : rowAt (w.setRow g xs) b = rowAt w b := by
  unfold rowAt; rw [setRow_other w g b xs h]
@[go_sem] theorem rowAt_setRow (xs : Array Value) (h : HasRow w b n) : rowAt (w.setRow b xs) b = xs := by
  obtain ⟨c, t, h, _⟩ := h; exact ((show Blk w b c t from h).row xs).rowAt
@[go_sem] theorem hasRow_new (xs : Array Value) (T : TypeId) : HasRow (w.alloc (.cells xs T)) w.heap.size n = (xs.size = n) := propext
  ⟨fun ⟨c, t, h, hn⟩ => by have e := (Blk.new w xs T rfl).heap.symm.trans h; cases e; exact hn, fun h => (Blk.new w xs T rfl).hasRow h⟩
@[go_sem] theorem hasRow_drewN (k : Nat) : HasRow (w.drewN k) b n = HasRow w b n := rfl
@[go_sem] theorem hasRow_drew : HasRow w.drew b n = HasRow w b n := rfl
@[go_sem] theorem hasRow_alloc (o : Obj) (h : b ≠ w.heap.size) : HasRow (w.alloc o) b n = HasRow w b n := by unfold HasRow; rw [heap_alloc_ne o h]
@[go_sem] theorem hasRow_setCell_other (a : Addr) (v : Value) (h : b ≠ a.block) : HasRow (w.setCell a v) b n = HasRow w b n := by unfold HasRow; rw [heap_setCell_other w a b v h]
@[go_sem] theorem hasRow_setRow_other (g : Nat) (xs : Array Value) (h : b ≠ g) : HasRow (w.setRow g xs) b n = HasRow w b n := by unfold HasRow; rw [setRow_other w g b xs h]
theorem HasRow.setCell (h : HasRow w b n) (i : Nat) (v : Value) : HasRow (w.setCell ⟨b, i, none⟩ v) b n := by
  obtain ⟨c, t, h, hn⟩ := h; exact ((show Blk w b c t from h).set i v).hasRow (by simpa using hn)
theorem HasRow.setRow (h : HasRow w b n) (xs : Array Value) (hx : xs.size = n) : HasRow (w.setRow b xs) b n := by
  obtain ⟨c, t, h, hn⟩ := h; exact ((show Blk w b c t from h).row xs).hasRow hx
end

/-! ### a region that draws its order and whose operations leave alone what lay below -/
/-- A world behind w0: what lay in w0 is as it was. -/
def Later (w0 : World) : Type := { W : World // Below w0.heap.size w0 W }
instance (w0 : World) : Inhabited (Later w0) := ⟨⟨w0, Below.refl _ _⟩⟩
def Later.w {w0 : World} (x : Later w0) : World := x.1
theorem Later.below {w0 : World} (x : Later w0) : Below w0.heap.size w0 x.w := x.2
theorem Later.lt {w0 : World} (x : Later w0) {b : Nat} (h : b < w0.heap.size) : b < x.w.heap.size := Nat.lt_of_lt_of_le h x.2.size
theorem wp_region_later {P : Program} {id : Nat} {Q : Exit → Act → World → Prop} {a : Act} {w : World} {l : List Oper} (hm : P.follows .mixedOrders = true) (hB : Region.lexB .any l.toArray = true)
    (h : wpQuiet P l.toArray (fun w' => ∃ x : Later w, w' = x.w) (fun a' => ∀ x : Later w, Q .normal a' x.w) l a) : (Code.region id l.toArray true).wp P Q a w := by
  refine wp_region_quiet (C := fun w' => ∃ x : Later w, w' = x.w) hm hB ⟨⟨w.drew, (Below.refl _ _).drew⟩, rfl⟩ ?_
  have e : (fun a' => ∀ w', (∃ x : Later w, w' = x.w) → Q .normal a' w') = fun a' => ∀ x : Later w, Q .normal a' x.w := by
    funext a'
    exact propext ⟨fun h x => h _ ⟨x, rfl⟩, fun h w' ⟨x, hx⟩ => hx ▸ h x⟩
  rw [e]
  simpa using h
/-- A callee's contract, met in such a region. -/
theorem later_of {P : Program} {f : FuncId} {args : Array Value} {w0 : World} {x : Later w0} {v : Value} (h : Calls P f args x.w fun e w' => e = .returned v ∧ Below x.w.heap.size x.w w') :
    Calls P f args x.w fun e w'' => e = .returned v ∧ ∃ y : Later w0, w'' = y.w :=
  h.mono fun _ w' ⟨he, hb⟩ => ⟨he, ⟨w', x.2.trans (hb.mono x.2.size)⟩, rfl⟩
theorem later_of_same {P : Program} {f : FuncId} {args : Array Value} {w0 : World} {x : Later w0} {v : Value} (h : Calls P f args x.w fun e w' => e = .returned v ∧ x.w = w') :
    Calls P f args x.w fun e w'' => e = .returned v ∧ ∃ y : Later w0, w'' = y.w :=
  h.mono fun _ _ ⟨he, hb⟩ => ⟨he, x, hb.symm⟩
theorem Blk.laterRow {w0 : World} {b n : Nat} {xs : Array Value} {T : TypeId} (h : Blk w0 b xs T) (hn : xs.size = n) (x : Later w0) : HasRow x.w b n := (h.later x.below).hasRow hn
theorem Blk.laterAt {w0 : World} {b : Nat} {xs : Array Value} {T : TypeId} (h : Blk w0 b xs T) (x : Later w0) : Go.Proofs.Ytikopoimoaddhaa.rowAt x.w b = xs := (h.later x.below).rowAt
/-- A whole array, read in such a region. -/
theorem quiet_load {P : Program} {w0 : World} {o : Oper} {a : Act} {K : Act → Prop} (ty : TypeId) (x : Operand) (ho : o.op = .load ty x) (b : Nat) (hx : a.eval x = .pointer (some ⟨b, 0, none⟩))
    {k : IntKind} {n : Nat} {l : List (BitVec n)} {T : TypeId} (B : Blk w0 b (vals k l) T) {m : Nat} {e : TypeId} (hu : P.underlying ty = some (.array m e)) (hi : (P.info? ty).map (·.size) = some m) (hl : l.length = m)
    (h : K (a.put o.dst (.agg (vals k l)))) : o.quiet P a (fun w' => ∃ y : Later w0, w' = y.w) K := by
  refine ⟨_, ?_, h⟩
  rintro w ⟨y, rfl⟩
  unfold Oper.quietAt execOp
  simp only [ho, hx, Instr.loadAt, Instr.sureAddr, Sem.run_bind, Sem.run_pure, Result.andThen_ok, run_loadVar_row y.w b T ty (vals k l) (0, 0) _ (B.later y.below) hu rfl (by rw [hi, vals_size, hl])]
  exact ⟨rfl, rfl⟩
end Go.Proofs.Ytikopoimoaddhaa
namespace Go.Proofs.Ytikopoimoaddhaa
open Go.RowKit
theorem eq_b32 (x y : List (BitVec 8)) (hx : x.length = 32) (hy : y.length = 32) (W : World) : (Op.equalIn 10000 29 (.agg (vals .u8 x)) (.agg (vals .u8 y))).run Try.prog W = .ok (x == y) W :=
  run_equalIn_arr W 9998 29 5 32 8 .u8 .u8 Try.underlying29 Try.underlying5 (by kernel_rfl) x y hx hy
theorem eq_b64 (x y : List (BitVec 8)) (hx : x.length = 64) (hy : y.length = 64) (W : World) : (Op.equalIn 10000 39 (.agg (vals .u8 x)) (.agg (vals .u8 y))).run Try.prog W = .ok (x == y) W :=
  run_equalIn_arr W 9998 39 5 64 8 .u8 .u8 Try.underlying39 Try.underlying5 (by kernel_rfl) x y hx hy
theorem eq_b16 (x y : List (BitVec 8)) (hx : x.length = 16) (hy : y.length = 16) (W : World) : (Op.equalIn 10000 71 (.agg (vals .u8 x)) (.agg (vals .u8 y))).run Try.prog W = .ok (x == y) W :=
  run_equalIn_arr W 9998 71 5 16 8 .u8 .u8 Try.underlying71 Try.underlying5 (by kernel_rfl) x y hx hy
theorem eq_b17 (x y : List (BitVec 8)) (hx : x.length = 17) (hy : y.length = 17) (W : World) : (Op.equalIn 10000 75 (.agg (vals .u8 x)) (.agg (vals .u8 y))).run Try.prog W = .ok (x == y) W :=
  run_equalIn_arr W 9998 75 5 17 8 .u8 .u8 Try.underlying75 Try.underlying5 (by kernel_rfl) x y hx hy
theorem eq_w4 (x y : List (BitVec 32)) (hx : x.length = 4) (hy : y.length = 4) (W : World) : (Op.equalIn 10000 32 (.agg (vals .u32 x)) (.agg (vals .u32 y))).run Try.prog W = .ok (x == y) W :=
  run_equalIn_arr W 9998 32 22 4 32 .u32 .u32 Try.underlying32 Try.underlying22 (by kernel_rfl) x y hx hy
theorem eq_w16 (x y : List (BitVec 32)) (hx : x.length = 16) (hy : y.length = 16) (W : World) : (Op.equalIn 10000 37 (.agg (vals .u32 x)) (.agg (vals .u32 y))).run Try.prog W = .ok (x == y) W :=
  run_equalIn_arr W 9998 37 22 16 32 .u32 .u32 Try.underlying37 Try.underlying22 (by kernel_rfl) x y hx hy
end Go.Proofs.Ytikopoimoaddhaa
namespace Go.Proofs.Ytikopoimoaddhaa
open Go.RowKit
set_option maxRecDepth 100000
theorem and31 : ∀ k : Fin 32, bits .and .u64 (k.val : Int) 31 = k.val := by decide +kernel

/-- x turned to the left by k places. -/
def rol (x : BitVec 32) (k : Nat) : BitVec 32 := x <<< k ||| x >>> (32 - k)

theorem rot_any (x : BitVec 32) (k : Int) (hk0 : 0 ≤ k) (hk : k < 32) (w : World) :
    Calls Try.prog 73 #[.int .u32 (bvi x), .int .i64 k] w fun e w' => e = .returned (.int .u32 (bvi (rol x k.toNat))) ∧ w = w' := by
  obtain ⟨k, rfl⟩ := Int.eq_ofNat_of_zero_le hk0
  have h31 : bits .and .u64 (k : Int) 31 = k := and31 ⟨k, by omega⟩
  have hh1 : (((32 : Int) - (k : Int)).toNat) = 32 - k := by omega
  go_enter Try.func73, Try.ntmps73
  go_wp2
  go_ret
  exact ⟨rfl, rfl⟩

theorem turn_any (x : BitVec 32) (k : Int) (hk0 : 0 ≤ k) (hk : k < 32) (w : World) :
    Calls Try.prog 74 #[.int .u32 (bvi x), .int .i64 k] w fun e w' => e = .returned (.int .u32 (bvi (rol x k.toNat))) ∧ ∃ n, w' = w.drewN n := by
  obtain ⟨k, rfl⟩ := Int.eq_ofNat_of_zero_le hk0
  have h3 : (0 : Int) ≤ 32 - (k : Int) := by omega
  have hh1 : (((32 : Int) - (k : Int)).toNat) = 32 - k := by omega
  have hh2 : IntKind.i64.wrap ((32 : Int) - (k : Int)) = 32 - (k : Int) := IntWalk.i64_in _ (by omega)
  go_enter Try.func74, Try.ntmps74
  go_wp2
  go_quiet (fail)
  go_wp2
  go_ret
  exact ⟨rfl, _, rfl⟩

/-- A quarter of a round. -/
def qrL (a b c d : BitVec 32) : List (BitVec 32) :=
  let a := a + b
  let d := rol (d ^^^ a) 16
  let c := c + d
  let b := rol (b ^^^ c) 12
  let a := a + b
  let d := rol (d ^^^ a) 8
  let c := c + d
  let b := rol (b ^^^ c) 7
  [a, b, c, d]
theorem qrL_length (a b c d : BitVec 32) : (qrL a b c d).length = 4 := rfl

theorem below2 {w : World} {o1 o2 : Obj} {n : Nat} : Below w.heap.size w (((w.alloc o1).alloc o2).drewN n) := below_drewN (((Below.refl _ _).alloc (Nat.le_refl _) _).alloc (by simp) _) n

theorem quarter_any (a b c d : BitVec 32) (w : World) :
    Calls Try.prog 34 #[.agg #[.int .u32 (bvi a), .int .u32 (bvi b), .int .u32 (bvi c), .int .u32 (bvi d)]] w fun e w' =>
      e = .returned (.agg (vals .u32 (qrL a b c d))) ∧ Below w.heap.size w w' := by
  go_enter Try.func34, Try.ntmps34
  go_wp2
  go_quiet (fail)
  go_wp2_with (go_at_call 73; refine (rot_any _ _ (by omega) (by omega) _).mono ?_; rintro e w' ⟨rfl, rfl⟩)
  refine bodyPost_ret (v := .agg (vals .u32 (qrL a b c d))) (by simp [results, Try.results34, go_sem, qrL, vals, valsL]) rfl ⟨rfl, ?_⟩
  exact (((below2.setCell (by simp) _).setCell (by simp) _).setCell (by simp) _).setCell (by simp) _

theorem turn_some (x : BitVec 32) (k : Int) (hk0 : 0 ≤ k) (hk : k < 32) (w : World) :
    Calls Try.prog 74 #[.int .u32 (bvi x), .int .i64 k] w fun e w' => ∃ r, Hid (r = rol x k.toNat) ∧ e = .returned (.int .u32 (bvi r)) ∧ ∃ n, w' = w.drewN n :=
  (turn_any x k hk0 hk w).mono fun _ _ h => ⟨_, rfl, h⟩

theorem refQuarter_any (a b c d : BitVec 32) (w : World) :
    Calls Try.prog 35 #[.agg #[.int .u32 (bvi a), .int .u32 (bvi b), .int .u32 (bvi c), .int .u32 (bvi d)]] w fun e w' =>
      e = .returned (.agg (vals .u32 (qrL a b c d))) ∧ Below w.heap.size w w' := by
  go_enter Try.func35, Try.ntmps35
  go_upto_region 1 with (fail)
  refine wp_forget (fun W => Below w.heap.size w W ∧ Blk W w.heap.size (vals .u32 [a, b, c, d]) 32 ∧ Blk W (w.heap.size + 1) (vals .u32 (List.replicate 4 0#32)) 32) ⟨((Below.refl _ _).alloc (Nat.le_refl _) _).alloc (by simp) _, (Blk.new _ _ _ rfl).alloc _, Blk.new _ _ _ (by simp)⟩ ?_
  rintro w1 ⟨hb, K1, K2⟩
  have c0 := K1.cellv 0 (by simp)
  have c1 := K1.cellv 1 (by simp)
  have c2 := K1.cellv 2 (by simp)
  have c3 := K1.cellv 3 (by simp)
  simp only [gt, List.getD_cons_zero, List.getD_cons_succ] at c0 c1 c2 c3
  have f0 := K1.frozen 0
  have f1 := K1.frozen 1
  have f2 := K1.frozen 2
  have f3 := K1.frozen 3
  go_upto_region 3 with (go_at_call 74; refine (turn_some _ _ (by omega) (by omega) _).mono ?_; rintro e w' ⟨r1, H1, rfl, n1, rfl⟩)
  refine wp_forget (fun W => Below w.heap.size w W ∧ Blk W w.heap.size (vals .u32 [a + b, b, c, r1]) 32 ∧ Blk W (w.heap.size + 1) (vals .u32 (List.replicate 4 0#32)) 32) ⟨(below_drewN (hb.setCell (by simp) _) n1).setCell (by simp) _, ((K1.setv 0 _).drewN n1).setv 3 _, ((K2.other _ _ (by simp)).drewN n1).other _ _ (by simp)⟩ ?_
  clear hb K1 K2 c0 c1 c2 c3 f0 f1 f2 f3
  rintro w2 ⟨hb, K1, K2⟩
  have c0 := K1.cellv 0 (by simp)
  have c1 := K1.cellv 1 (by simp)
  have c2 := K1.cellv 2 (by simp)
  have c3 := K1.cellv 3 (by simp)
  simp only [gt, List.getD_cons_zero, List.getD_cons_succ] at c0 c1 c2 c3
  have f0 := K1.frozen 0
  have f1 := K1.frozen 1
  have f2 := K1.frozen 2
  have f3 := K1.frozen 3
  go_upto_region 5 with (go_at_call 74; refine (turn_some _ _ (by omega) (by omega) _).mono ?_; rintro e w' ⟨r2, H2, rfl, n2, rfl⟩)
  refine wp_forget (fun W => Below w.heap.size w W ∧ Blk W w.heap.size (vals .u32 [a + b, r2, c + r1, r1]) 32 ∧ Blk W (w.heap.size + 1) (vals .u32 (List.replicate 4 0#32)) 32) ⟨(below_drewN (hb.setCell (by simp) _) n2).setCell (by simp) _, ((K1.setv 2 _).drewN n2).setv 1 _, ((K2.other _ _ (by simp)).drewN n2).other _ _ (by simp)⟩ ?_
  clear hb K1 K2 c0 c1 c2 c3 f0 f1 f2 f3
  rintro w3 ⟨hb, K1, K2⟩
  have c0 := K1.cellv 0 (by simp)
  have c1 := K1.cellv 1 (by simp)
  have c2 := K1.cellv 2 (by simp)
  have c3 := K1.cellv 3 (by simp)
  simp only [gt, List.getD_cons_zero, List.getD_cons_succ] at c0 c1 c2 c3
  have f0 := K1.frozen 0
  have f1 := K1.frozen 1
  have f2 := K1.frozen 2
  have f3 := K1.frozen 3
  go_upto_region 7 with (go_at_call 74; refine (turn_some _ _ (by omega) (by omega) _).mono ?_; rintro e w' ⟨r3, H3, rfl, n3, rfl⟩)
  refine wp_forget (fun W => Below w.heap.size w W ∧ Blk W w.heap.size (vals .u32 [a + b + r2, r2, c + r1, r3]) 32 ∧ Blk W (w.heap.size + 1) (vals .u32 (List.replicate 4 0#32)) 32) ⟨(below_drewN (hb.setCell (by simp) _) n3).setCell (by simp) _, ((K1.setv 0 _).drewN n3).setv 3 _, ((K2.other _ _ (by simp)).drewN n3).other _ _ (by simp)⟩ ?_
  clear hb K1 K2 c0 c1 c2 c3 f0 f1 f2 f3
  rintro w4 ⟨hb, K1, K2⟩
  have c0 := K1.cellv 0 (by simp)
  have c1 := K1.cellv 1 (by simp)
  have c2 := K1.cellv 2 (by simp)
  have c3 := K1.cellv 3 (by simp)
  simp only [gt, List.getD_cons_zero, List.getD_cons_succ] at c0 c1 c2 c3
  have f0 := K1.frozen 0
  have f1 := K1.frozen 1
  have f2 := K1.frozen 2
  have f3 := K1.frozen 3
  go_upto_region 9 with (go_at_call 74; refine (turn_some _ _ (by omega) (by omega) _).mono ?_; rintro e w' ⟨r4, H4, rfl, n4, rfl⟩)
  refine wp_forget (fun W => Below w.heap.size w W ∧ Blk W w.heap.size (vals .u32 [a + b + r2, r4, c + r1 + r3, r3]) 32 ∧ Blk W (w.heap.size + 1) (vals .u32 (List.replicate 4 0#32)) 32) ⟨(below_drewN (hb.setCell (by simp) _) n4).setCell (by simp) _, ((K1.setv 2 _).drewN n4).setv 1 _, ((K2.other _ _ (by simp)).drewN n4).other _ _ (by simp)⟩ ?_
  clear hb K1 K2 c0 c1 c2 c3 f0 f1 f2 f3
  rintro w5 ⟨hb, K1, K2⟩
  have hq : Hid ([a + b + r2, r4, c + r1 + r3, r3] = qrL a b c d) := by
    have : [a + b + r2, r4, c + r1 + r3, r3] = qrL a b c d := by rw [H4.out, H3.out, H2.out, H1.out]; rfl
    exact this
  go_wp2_with (first | (refine wpList_load_vals rfl _ _ rfl _ rfl K1 Try.underlying32 (by kernel_rfl) rfl ?_) | (refine wpList_store_vals rfl _ _ _ rfl _ rfl rfl K2 (by kernel_rfl) rfl ?_))
  rw [← hq.out]
  exact bodyPost_vals rfl rfl (K2.row _) Try.underlying32 (by kernel_rfl) rfl rfl ⟨rfl, below_setRow' hb (by simp) _⟩
end Go.Proofs.Ytikopoimoaddhaa
namespace Go.Proofs.Ytikopoimoaddhaa
open Go.RowKit
set_option maxRecDepth 100000

/-- The number of four bytes. -/
def le4 (a b c d : BitVec 8) : BitVec 32 := a.setWidth 32 ||| b.setWidth 32 <<< 8 ||| c.setWidth 32 <<< 16 ||| d.setWidth 32 <<< 24
theorem le4_toNat (a b c d : BitVec 8) : (le4 a b c d).toNat = a.toNat + 256 * b.toNat + 65536 * c.toNat + 16777216 * d.toNat := by
  have ha := a.isLt
  have hb := b.isLt
  have hc := c.isLt
  have hd := d.isLt
  have e1 : (b.setWidth 32 <<< 8).toNat = b.toNat <<< 8 := by simp [BitVec.toNat_shiftLeft, Nat.shiftLeft_eq]; omega
  have e2 : (c.setWidth 32 <<< 16).toNat = c.toNat <<< 16 := by simp [BitVec.toNat_shiftLeft, Nat.shiftLeft_eq]; omega
  have e3 : (d.setWidth 32 <<< 24).toNat = d.toNat <<< 24 := by simp [BitVec.toNat_shiftLeft, Nat.shiftLeft_eq]; omega
  have e0 : (a.setWidth 32).toNat = a.toNat := by simp; omega
  unfold le4
  rw [BitVec.toNat_or, BitVec.toNat_or, BitVec.toNat_or, e0, e1, e2, e3]
  rw [Nat.or_comm a.toNat, ← Nat.shiftLeft_add_eq_or_of_lt (by omega), Nat.or_comm _ (c.toNat <<< 16), ← Nat.shiftLeft_add_eq_or_of_lt (by rw [Nat.shiftLeft_eq]; omega),
    Nat.or_comm _ (d.toNat <<< 24), ← Nat.shiftLeft_add_eq_or_of_lt (by rw [Nat.shiftLeft_eq, Nat.shiftLeft_eq]; omega)]
  simp only [Nat.shiftLeft_eq]
  omega
def le4at (l : List (BitVec 8)) (i : Nat) : BitVec 32 := le4 (gt l i) (gt l (i + 1)) (gt l (i + 2)) (gt l (i + 3))

theorem number06_any (b off len cap : Nat) (x0 x1 x2 x3 : BitVec 8) (w : World) (hlen : 4 ≤ len) (h0 : w.cell? ⟨b, off, none⟩ = some (.int .u8 (bvi x0)))
    (h1 : w.cell? ⟨b, off + 1, none⟩ = some (.int .u8 (bvi x1))) (h2 : w.cell? ⟨b, off + 2, none⟩ = some (.int .u8 (bvi x2))) (h3 : w.cell? ⟨b, off + 3, none⟩ = some (.int .u8 (bvi x3))) :
    Calls Try.prog 75 #[.slice (some ⟨b, off, none⟩) len cap] w fun e w' => e = .returned (.int .u32 (bvi (le4 x0 x1 x2 x3))) ∧ ∃ n, w' = w.drewN n := by
  have g0 : (0 : Int) < len := by omega
  have g1 : (1 : Int) < len := by omega
  have g2 : (2 : Int) < len := by omega
  have g3 : (3 : Int) < len := by omega
  go_enter Try.func75, Try.ntmps75
  go_wp2
  go_quiet (fail)
  go_wp2
  go_ret
  exact ⟨rfl, _, rfl⟩

/-- What a state begins with. -/
def state0 (counter : BitVec 32) : List (BitVec 32) := [0x61707865#32, 0x3320646e#32, 0x79622d32#32, 0x6b206574#32, 0, 0, 0, 0, 0, 0, 0, 0, counter, 0, 0, 0]
def stateK (key : List (BitVec 8)) (counter : BitVec 32) : Nat → List (BitVec 32) := fillL (fun i => le4at key (4 * i)) 4 (state0 counter)
def stateN (key : List (BitVec 8)) (counter : BitVec 32) (nonce : List (BitVec 8)) : Nat → List (BitVec 32) := fillL (fun i => le4at nonce (4 * i)) 13 (stateK key counter 8)
/-- The state that a block begins with. -/
def stateL (key : List (BitVec 8)) (counter : BitVec 32) (nonce : List (BitVec 8)) : List (BitVec 32) := stateN key counter nonce 3
theorem stateK_length (key : List (BitVec 8)) (counter : BitVec 32) (k : Nat) : (stateK key counter k).length = 16 := by rw [stateK, fillL_length]; rfl
theorem stateN_length (key : List (BitVec 8)) (counter : BitVec 32) (nonce : List (BitVec 8)) (k : Nat) : (stateN key counter nonce k).length = 16 := by rw [stateN, fillL_length, stateK_length]

theorem state_any (key nonce : List (BitVec 8)) (counter : BitVec 32) (w : World) (hk : key.length = 32) (hn : nonce.length = 12) :
    Calls Try.prog 37 #[.agg (vals .u8 key), .int .u32 (bvi counter), .agg (vals .u8 nonce)] w fun e w' => e = .returned (.agg (vals .u32 (stateL key counter nonce))) ∧ Below w.heap.size w w' := by
  have HK := Lib.hid hk
  have HN := Lib.hid hn
  clear hk hn
  go_enter Try.func37, Try.ntmps37
  go_upto_region 1 with (fail)
  refine wp_forget (fun W => Below w.heap.size w W ∧ Blk W w.heap.size (vals .u8 key) 29 ∧ Blk W (w.heap.size + 1) (vals .u8 nonce) 36 ∧ Blk W (w.heap.size + 1 + 1) (vals .u32 (List.replicate 16 0#32)) 37 ∧ W.heap.size = w.heap.size + 1 + 1 + 1)
    ⟨(((Below.refl _ _).alloc (Nat.le_refl _) _).alloc (by simp) _).alloc (by simp; omega) _, ((Blk.new _ _ _ rfl).alloc _).alloc _, (Blk.new _ _ _ (by simp)).alloc _, Blk.new _ _ _ (by simp), by simp⟩ ?_
  rintro w1 ⟨hb, K1, K2, K3, hs⟩
  have hb0 := hb
  have S0 := hs
  go_wp2_with fail
  refine wp_forget (fun W => Below w.heap.size w W ∧ Blk W w.heap.size (vals .u8 key) 29 ∧ Blk W (w.heap.size + 1) (vals .u8 nonce) 36 ∧ Blk W (w.heap.size + 1 + 1) (vals .u32 (List.replicate 16 0#32)) 37 ∧ Blk W (w.heap.size + 1 + 1 + 1) (vals .u32 (stateK key counter 0)) 37)
    ⟨hb0.alloc (by omega) _, K1.alloc _, K2.alloc _, K3.alloc _, Blk.new _ _ _ S0.symm⟩ ?_
  clear hb hb0 K1 K2 K3 hs S0
  rintro w2 ⟨hb, K1, K2, K3, K4⟩
  go_loopw [8, 12] (fun _ i wr => ∃ k : Nat, k ≤ 8 ∧ i = .int .i64 k ∧ Below w.heap.size w wr ∧ Blk wr w.heap.size (vals .u8 key) 29 ∧ Blk wr (w.heap.size + 1) (vals .u8 nonce) 36 ∧ Blk wr (w.heap.size + 1 + 1) (vals .u32 (List.replicate 16 0#32)) 37 ∧ Blk wr (w.heap.size + 1 + 1 + 1) (vals .u32 (stateK key counter k)) 37)
    (fun _ i _ => 8 - (intOf i).toNat)
  case atStart => exact ⟨0, by omega, rfl, hb, K1, K2, K3, K4⟩
  case round =>
    clear hb K1 K2 K3 K4
    obtain ⟨k, hk, rfl, hb, K1, K2, K3, K4⟩ := hrel
    by_cases hlt : k < 8
    · have c0 := K1.cellv (4 * k) (by rw [HK.out]; omega)
      have c1 := K1.cellv (4 * k + 1) (by rw [HK.out]; omega)
      have c2 := K1.cellv (4 * k + 2) (by rw [HK.out]; omega)
      have c3 := K1.cellv (4 * k + 3) (by rw [HK.out]; omega)
      have d0 := K4.cellv (4 + k) (by rw [stateK_length]; omega)
      have f0 := K4.frozen (4 + k)
      have g1 : (0 : Int) ≤ 4 * (k : Int) := by omega
      have g2 : 4 * (k : Int) ≤ 32 := by omega
      have g3 : (4 * (k : Int)).toNat = 4 * k := by omega
      have g4 : ¬ (32 = 4 * k) := by omega
      go_wp2_with (go_at_call 75; refine (number06_any _ _ _ _ _ _ _ _ _ (by omega) c0 c1 c2 c3).mono ?_; rintro e w' ⟨rfl, nq, rfl⟩)
      go_roundw
      case rel => exact ⟨k + 1, by omega, by go_num, (below_drewN hb nq).setCell (by simp; omega) _, (K1.drewN nq).other _ _ (by simp; omega), (K2.drewN nq).other _ _ (by simp), (K3.drewN nq).other _ _ (by simp), (K4.drewN nq).setv (4 + k) _⟩
      case measure => simp [intOf]; omega
    · obtain rfl : k = 8 := by omega
      clear hlt hk
      rw [show ((8 : Nat) : Int) = 8 from rfl]
      go_wp2_with fail
      go_loopw [9, 23] (fun _ i wr => ∃ k : Nat, k ≤ 3 ∧ i = .int .i64 k ∧ Below w.heap.size w wr ∧ Blk wr w.heap.size (vals .u8 key) 29 ∧ Blk wr (w.heap.size + 1) (vals .u8 nonce) 36 ∧ Blk wr (w.heap.size + 1 + 1) (vals .u32 (List.replicate 16 0#32)) 37 ∧ Blk wr (w.heap.size + 1 + 1 + 1) (vals .u32 (stateN key counter nonce k)) 37)
        (fun _ i _ => 3 - (intOf i).toNat)
      case atStart => exact ⟨0, by omega, rfl, hb, K1, K2, K3, K4⟩
      case round =>
        clear hb K1 K2 K3 K4
        obtain ⟨k, hk, rfl, hb, K1, K2, K3, K4⟩ := hrel
        by_cases hlt : k < 3
        · have c0 := K2.cellv (4 * k) (by rw [HN.out]; omega)
          have c1 := K2.cellv (4 * k + 1) (by rw [HN.out]; omega)
          have c2 := K2.cellv (4 * k + 2) (by rw [HN.out]; omega)
          have c3 := K2.cellv (4 * k + 3) (by rw [HN.out]; omega)
          have d0 := K4.cellv (13 + k) (by rw [stateN_length]; omega)
          have f0 := K4.frozen (13 + k)
          have g1 : (0 : Int) ≤ 4 * (k : Int) := by omega
          have g2 : 4 * (k : Int) ≤ 12 := by omega
          have g3 : (4 * (k : Int)).toNat = 4 * k := by omega
          have g4 : ¬ (12 = 4 * k) := by omega
          go_wp2_with (go_at_call 75; refine (number06_any _ _ _ _ _ _ _ _ _ (by omega) c0 c1 c2 c3).mono ?_; rintro e w' ⟨rfl, nq, rfl⟩)
          go_roundw
          case rel => exact ⟨k + 1, by omega, by go_num, (below_drewN hb nq).setCell (by simp; omega) _, (K1.drewN nq).other _ _ (by simp; omega), (K2.drewN nq).other _ _ (by simp), (K3.drewN nq).other _ _ (by simp), (K4.drewN nq).setv (13 + k) _⟩
          case measure => simp [intOf]; omega
        · obtain rfl : k = 3 := by omega
          clear hlt hk
          change Blk wr (w.heap.size + 1 + 1 + 1) (vals .u32 (stateL key counter nonce)) _ at K4
          have hl : (stateL key counter nonce).length = 16 := stateN_length _ _ _ _
          have HL := Lib.hid hl
          clear hl
          go_wp2_with (first | (refine wpList_load_vals rfl _ _ rfl _ rfl K4 Try.underlying37 (by kernel_rfl) HL.out ?_) | (refine wpList_store_vals rfl _ _ _ rfl _ rfl rfl K3 (by rw [HL.out]; kernel_rfl) (by rw [HL.out, vals_size]; simp) ?_))
          refine bodyPost_vals rfl rfl (K3.row _) Try.underlying37 (by kernel_rfl) HL.out rfl ⟨rfl, below_setRow' hb (by omega) _⟩
end Go.Proofs.Ytikopoimoaddhaa
