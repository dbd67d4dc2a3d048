/- The words that all walks of this seat speak: values of unsigned kinds as bit vectors, arrays of them, blocks that nobody shares. No condition. -/
import Derived.Test.YtcgmapioelfneaaRows
import Derived.WalkKit
import Derived.WalkSpells
import Derived.WalkSmall
import Derived.BigQuiet
import Derived.LoopTactic
import Derived.Deep.QuietTactic
import Derived.Laws.Rows
import Derived.Laws.CopyRow
import Derived.Lib.Hide
import Derived.Outline
import Derived.Deep.Cut
import Derived.Deep.MidRow
import Derived.Deep.RegionHeld3
import Derived.StillTailTactics
namespace Go.Proofs.Ytcgmapioelfneaa
open Go.RowKit

/-! ### the numbers of bit vectors -/
/-- The number of a bit vector, as a value of an unsigned kind bears it. -/
def bvi {n : Nat} (x : BitVec n) : Int := (x.toNat : Int)

theorem bvi_nonneg {n : Nat} (x : BitVec n) : 0 ≤ bvi x := by unfold bvi; omega
theorem bvi_lt {n : Nat} (x : BitVec n) : bvi x < 2 ^ n := by
  unfold bvi; have := x.isLt; exact_mod_cast this
theorem bvi_lt8 (x : BitVec 8) : bvi x ≤ 255 := by unfold bvi; have := x.isLt; omega
theorem bvi_lt32 (x : BitVec 32) : bvi x ≤ 4294967295 := by unfold bvi; have := x.isLt; omega
theorem bvi_inj {n : Nat} {x y : BitVec n} : bvi x = bvi y ↔ x = y := by
  unfold bvi; constructor
  · intro h; exact BitVec.eq_of_toNat_eq (by exact_mod_cast h)
  · rintro rfl; rfl
theorem bvi_ofInt {n : Nat} (x : BitVec n) : BitVec.ofInt n (bvi x) = x := by
  unfold bvi; simp
theorem bvi_ofInt' {n : Nat} (z : Int) : bvi (BitVec.ofInt n z) = z % ((2 ^ n : Nat) : Int) := by
  unfold bvi; simp only [BitVec.toNat_ofInt]
  have : (0 : Int) ≤ z % ((2 ^ n : Nat) : Int) := Int.emod_nonneg _ (by exact_mod_cast Nat.ne_of_gt (Nat.two_pow_pos n))
  omega
@[go_sem] theorem bvi_beq {n : Nat} (x y : BitVec n) : (bvi x == bvi y) = (x == y) := by
  rw [Bool.eq_iff_iff]; simp [bvi_inj]
@[go_sem] theorem bvi_bne {n : Nat} (x y : BitVec n) : (bvi x != bvi y) = (x != y) := by
  rw [bne, bvi_beq]; rfl

theorem wrap_u64' (n : Int) : IntKind.u64.wrap n = n % 18446744073709551616 := by simp [IntKind.wrap, IntKind.bits, IntKind.signed]
theorem wrap_u16' (n : Int) : IntKind.u16.wrap n = n % 65536 := by simp [IntKind.wrap, IntKind.bits, IntKind.signed]

@[go_sem] theorem add8 (x y : BitVec 8) : (bvi x + bvi y) % 256 = bvi (x + y) := by
  unfold bvi; rw [BitVec.toNat_add]; omega
@[go_sem] theorem add32 (x y : BitVec 32) : (bvi x + bvi y) % 4294967296 = bvi (x + y) := by
  unfold bvi; rw [BitVec.toNat_add]; omega
@[go_sem] theorem add64 (x y : BitVec 64) : (bvi x + bvi y) % 18446744073709551616 = bvi (x + y) := by
  unfold bvi; rw [BitVec.toNat_add]; omega
@[go_sem] theorem add8' (x y : BitVec 8) : IntKind.u8.wrap (bvi x + bvi y) = bvi (x + y) := by rw [IntKind.wrap_u8]; exact add8 x y
@[go_sem] theorem add32' (x y : BitVec 32) : IntKind.u32.wrap (bvi x + bvi y) = bvi (x + y) := by rw [IntKind.wrap_u32]; exact add32 x y
@[go_sem] theorem add64' (x y : BitVec 64) : IntKind.u64.wrap (bvi x + bvi y) = bvi (x + y) := by rw [wrap_u64']; exact add64 x y
@[go_sem] theorem mul32' (x y : BitVec 32) : IntKind.u32.wrap (bvi x * bvi y) = bvi (x * y) := by
  rw [IntKind.wrap_u32]; unfold bvi; rw [BitVec.toNat_mul, ← Int.natCast_mul]; exact (Int.natCast_emod _ _).symm
@[go_sem] theorem mul64' (x y : BitVec 64) : IntKind.u64.wrap (bvi x * bvi y) = bvi (x * y) := by
  rw [wrap_u64']; unfold bvi; rw [BitVec.toNat_mul, ← Int.natCast_mul]; exact (Int.natCast_emod _ _).symm
@[go_sem] theorem mul64 (x y : BitVec 64) : (bvi x * bvi y) % 18446744073709551616 = bvi (x * y) := by
  rw [← wrap_u64']; exact mul64' x y

theorem bits_at (k : IntKind) (hk : k.signed = false) (op : BinOp) (x y : BitVec k.bits) (r : BitVec k.bits)
    (h : (op = .and ∧ r = x &&& y) ∨ (op = .or ∧ r = x ||| y) ∨ (op = .xor ∧ r = x ^^^ y) ∨ (op = .andNot ∧ r = x &&& ~~~y)) :
    bits op k (bvi x) (bvi y) = bvi r := by
  have hw : ∀ z : BitVec k.bits, k.wrap z.toNat = bvi z := by
    intro z
    have := z.isLt
    unfold IntKind.wrap bvi
    rw [hk]
    have h2 : ((z.toNat : Int)) % (2 ^ k.bits) = z.toNat := Int.emod_eq_of_lt (by omega) (by exact_mod_cast this)
    simp [h2]
  rcases h with ⟨rfl, rfl⟩ | ⟨rfl, rfl⟩ | ⟨rfl, rfl⟩ | ⟨rfl, rfl⟩ <;> simp only [bits, bvi_ofInt, hw]

@[go_sem] theorem and8 (x y : BitVec 8) : bits .and .u8 (bvi x) (bvi y) = bvi (x &&& y) := bits_at .u8 rfl _ _ _ _ (.inl ⟨rfl, rfl⟩)
@[go_sem] theorem or8 (x y : BitVec 8) : bits .or .u8 (bvi x) (bvi y) = bvi (x ||| y) := bits_at .u8 rfl _ _ _ _ (.inr (.inl ⟨rfl, rfl⟩))
@[go_sem] theorem xor8 (x y : BitVec 8) : bits .xor .u8 (bvi x) (bvi y) = bvi (x ^^^ y) := bits_at .u8 rfl _ _ _ _ (.inr (.inr (.inl ⟨rfl, rfl⟩)))
@[go_sem] theorem and32 (x y : BitVec 32) : bits .and .u32 (bvi x) (bvi y) = bvi (x &&& y) := bits_at .u32 rfl _ _ _ _ (.inl ⟨rfl, rfl⟩)
@[go_sem] theorem or32 (x y : BitVec 32) : bits .or .u32 (bvi x) (bvi y) = bvi (x ||| y) := bits_at .u32 rfl _ _ _ _ (.inr (.inl ⟨rfl, rfl⟩))
@[go_sem] theorem xor32 (x y : BitVec 32) : bits .xor .u32 (bvi x) (bvi y) = bvi (x ^^^ y) := bits_at .u32 rfl _ _ _ _ (.inr (.inr (.inl ⟨rfl, rfl⟩)))
@[go_sem] theorem andNot32 (x y : BitVec 32) : bits .andNot .u32 (bvi x) (bvi y) = bvi (x &&& ~~~y) := bits_at .u32 rfl _ _ _ _ (.inr (.inr (.inr ⟨rfl, rfl⟩)))
@[go_sem] theorem and64 (x y : BitVec 64) : bits .and .u64 (bvi x) (bvi y) = bvi (x &&& y) := bits_at .u64 rfl _ _ _ _ (.inl ⟨rfl, rfl⟩)
@[go_sem] theorem or64 (x y : BitVec 64) : bits .or .u64 (bvi x) (bvi y) = bvi (x ||| y) := bits_at .u64 rfl _ _ _ _ (.inr (.inl ⟨rfl, rfl⟩))
@[go_sem] theorem xor64 (x y : BitVec 64) : bits .xor .u64 (bvi x) (bvi y) = bvi (x ^^^ y) := bits_at .u64 rfl _ _ _ _ (.inr (.inr (.inl ⟨rfl, rfl⟩)))
@[go_sem] theorem andNot64 (x y : BitVec 64) : bits .andNot .u64 (bvi x) (bvi y) = bvi (x &&& ~~~y) := bits_at .u64 rfl _ _ _ _ (.inr (.inr (.inr ⟨rfl, rfl⟩)))

/-! shifts -/
theorem shl_at {n : Nat} (x : BitVec n) (k : Nat) : (bvi x * 2 ^ k) % (2 ^ n) = bvi (x <<< k) := by
  unfold bvi; rw [BitVec.toNat_shiftLeft, Nat.shiftLeft_eq]; push_cast; rfl
@[go_sem] theorem shr_at {n : Nat} (x : BitVec n) (k : Nat) : bvi x / 2 ^ k = bvi (x >>> k) := by
  unfold bvi; rw [BitVec.toNat_ushiftRight, Nat.shiftRight_eq_div_pow]; push_cast; rfl
@[go_sem] theorem shl8 (x : BitVec 8) (k : Nat) : IntKind.u8.wrap (bvi x * 2 ^ k) = bvi (x <<< k) := by rw [IntKind.wrap_u8]; exact shl_at x k
@[go_sem] theorem shl32 (x : BitVec 32) (k : Nat) : IntKind.u32.wrap (bvi x * 2 ^ k) = bvi (x <<< k) := by rw [IntKind.wrap_u32]; exact shl_at x k
@[go_sem] theorem shl64 (x : BitVec 64) (k : Nat) : IntKind.u64.wrap (bvi x * 2 ^ k) = bvi (x <<< k) := by rw [wrap_u64']; exact shl_at x k
@[go_sem] theorem shl32m (x : BitVec 32) (k : Nat) : bvi x * 2 ^ k % 4294967296 = bvi (x <<< k) := shl_at x k
@[go_sem] theorem shl64m (x : BitVec 64) (k : Nat) : bvi x * 2 ^ k % 18446744073709551616 = bvi (x <<< k) := shl_at x k
@[go_sem] theorem shl32_8 (x : BitVec 32) : IntKind.u32.wrap (bvi x * 256) = bvi (x <<< 8) := shl32 x 8
@[go_sem] theorem shl32_16 (x : BitVec 32) : IntKind.u32.wrap (bvi x * 65536) = bvi (x <<< 16) := shl32 x 16
@[go_sem] theorem shl32_24 (x : BitVec 32) : IntKind.u32.wrap (bvi x * 16777216) = bvi (x <<< 24) := shl32 x 24
@[go_sem] theorem shl64_62 (x : BitVec 64) : IntKind.u64.wrap (bvi x * 4611686018427387904) = bvi (x <<< 62) := shl64 x 62
@[go_sem] theorem shr_2 {n : Nat} (x : BitVec n) : bvi x / 4 = bvi (x >>> 2) := shr_at x 2
@[go_sem] theorem shr_3 {n : Nat} (x : BitVec n) : bvi x / 8 = bvi (x >>> 3) := shr_at x 3
@[go_sem] theorem shr_8 {n : Nat} (x : BitVec n) : bvi x / 256 = bvi (x >>> 8) := shr_at x 8
@[go_sem] theorem shr_10 {n : Nat} (x : BitVec n) : bvi x / 1024 = bvi (x >>> 10) := shr_at x 10
@[go_sem] theorem shr_16 {n : Nat} (x : BitVec n) : bvi x / 65536 = bvi (x >>> 16) := shr_at x 16
@[go_sem] theorem shr_24 {n : Nat} (x : BitVec n) : bvi x / 16777216 = bvi (x >>> 24) := shr_at x 24
@[go_sem] theorem shr_32 {n : Nat} (x : BitVec n) : bvi x / 4294967296 = bvi (x >>> 32) := shr_at x 32

/-! conversions -/
@[go_sem] theorem conv_8 {n : Nat} (x : BitVec n) : IntKind.u8.wrap (bvi x) = bvi (x.setWidth 8) := by
  rw [IntKind.wrap_u8]; unfold bvi; rw [BitVec.toNat_setWidth]; exact (Int.natCast_emod _ _).symm
@[go_sem] theorem conv_16 {n : Nat} (x : BitVec n) : IntKind.u16.wrap (bvi x) = bvi (x.setWidth 16) := by
  rw [wrap_u16']; unfold bvi; rw [BitVec.toNat_setWidth]; exact (Int.natCast_emod _ _).symm
@[go_sem] theorem conv_32 {n : Nat} (x : BitVec n) : IntKind.u32.wrap (bvi x) = bvi (x.setWidth 32) := by
  rw [IntKind.wrap_u32]; unfold bvi; rw [BitVec.toNat_setWidth]; exact (Int.natCast_emod _ _).symm
@[go_sem] theorem conv_64 {n : Nat} (x : BitVec n) : IntKind.u64.wrap (bvi x) = bvi (x.setWidth 64) := by
  rw [wrap_u64']; unfold bvi; rw [BitVec.toNat_setWidth]; exact (Int.natCast_emod _ _).symm
@[go_sem] theorem conv_8m {n : Nat} (x : BitVec n) : bvi x % 256 = bvi (x.setWidth 8) := by
  rw [← IntKind.wrap_u8]; exact conv_8 x
@[go_sem] theorem conv_32m {n : Nat} (x : BitVec n) : bvi x % 4294967296 = bvi (x.setWidth 32) := by
  rw [← IntKind.wrap_u32]; exact conv_32 x
@[go_sem] theorem conv_i64_8 (x : BitVec 8) : IntKind.i64.wrap (bvi x) = bvi x := IntWalk.i64_in _ ⟨by have := bvi_nonneg x; omega, by have := bvi_lt8 x; omega⟩
@[go_sem] theorem conv_i64_16 (x : BitVec 16) : IntKind.i64.wrap (bvi x) = bvi x := IntWalk.i64_in _ ⟨by have := bvi_nonneg x; omega, by have := bvi_lt x; omega⟩
@[go_sem] theorem conv_i64_32 (x : BitVec 32) : IntKind.i64.wrap (bvi x) = bvi x := IntWalk.i64_in _ ⟨by have := bvi_nonneg x; omega, by have := bvi_lt32 x; omega⟩
/-- A number that fits its kind is that of a bit vector. -/
theorem bv_of_wf8 {z : Int} (h : (Lit.int .u8 z).wf = true) : ∃ x : BitVec 8, z = bvi x := by
  have hb : 0 ≤ z ∧ z ≤ 255 := by simpa [Lit.wf, IntKind.min, IntKind.max, IntKind.signed, IntKind.bits] using h
  exact ⟨BitVec.ofInt 8 z, by rw [bvi_ofInt']; omega⟩
/-! ### arrays of them -/
/-- The i-th of a list, 0 behind its end. (No simp lemma opens it.) -/
def gt {n : Nat} (l : List (BitVec n)) (i : Nat) : BitVec n := l.getD i 0
/-- The cells of a list of numbers. -/
def valsL (k : IntKind) {n : Nat} (l : List (BitVec n)) : List Value := l.map fun x => Value.int k (bvi x)
def vals (k : IntKind) {n : Nat} (l : List (BitVec n)) : Array Value := (valsL k l).toArray
@[go_sem] theorem valsL_toArray {k : IntKind} {n : Nat} (l : List (BitVec n)) : (valsL k l).toArray = vals k l := rfl
theorem valsL_length {k : IntKind} {n : Nat} (l : List (BitVec n)) : (valsL k l).length = l.length := by simp [valsL]
theorem vals_get {k : IntKind} {n : Nat} {l : List (BitVec n)} {i : Nat} (h : i < l.length) : (vals k l)[i]? = some (.int k (bvi (gt l i))) := by
  simp [vals, valsL, gt, List.getD, h]
@[go_sem] theorem vals_size {k : IntKind} {n : Nat} {l : List (BitVec n)} : (vals k l).size = l.length := by simp [vals, valsL]
theorem vals_set {k : IntKind} {n : Nat} (l : List (BitVec n)) (i : Nat) (x : BitVec n) : (vals k l).setIfInBounds i (.int k (bvi x)) = vals k (l.set i x) := by
  simp [vals, valsL, List.map_set]
theorem vals_one {k : IntKind} {n : Nat} (l : List (BitVec n)) : ∀ v ∈ (vals k l).toList, v.oneCell' = true := by
  intro v hv
  simp only [vals, valsL, List.mem_map] at hv
  obtain ⟨x, _, rfl⟩ := hv
  rfl
/-! ### blocks -/
/-- Block b is a row of cells that may be written. -/
def Blk (w : World) (b : Nat) (xs : Array Value) (T : TypeId) : Prop := w.heap[b]? = some (.cells xs T (0, 0))
section
variable {w w' : World} {b B : Nat} {xs : Array Value} {T : TypeId}
theorem Blk.heap (h : Blk w b xs T) : w.heap[b]? = some (.cells xs T (0, 0)) := h
theorem Blk.cell (h : Blk w b xs T) (i : Nat) : w.cell? ⟨b, i, none⟩ = xs[i]? := cell_of_row w b i xs T _ h
theorem Blk.new (w : World) (xs : Array Value) (T : TypeId) {b : Nat} (h : b = w.heap.size) : Blk (w.alloc (.cells xs T)) b xs T := by subst h; exact heap_alloc_new w _
theorem Blk.lt (h : Blk w b xs T) : b < w.heap.size := by
  by_cases hlt : b < w.heap.size
  · exact hlt
  · have hn : w.heap[b]? = none := by simp; omega
    simp [Blk, hn] at h
theorem Blk.alloc (h : Blk w b xs T) (o : Obj) : Blk (w.alloc o) b xs T := (Below.heap_alloc w o b h.lt).trans h
theorem Blk.drew (h : Blk w b xs T) : Blk w.drew b xs T := h
theorem Blk.set (h : Blk w b xs T) (i : Nat) (v : Value) : Blk (w.setCell ⟨b, i, none⟩ v) b (xs.setIfInBounds i v) T := heap_setCell_same w b i xs T v h
theorem Blk.other (h : Blk w b xs T) (a : Addr) (v : Value) (hne : b ≠ a.block) : Blk (w.setCell a v) b xs T := (heap_setCell_other w a b v hne).trans h
theorem Blk.row (h : Blk w b xs T) (ys : Array Value) : Blk (w.setRow b ys) b ys T := setRow_heap w b xs ys T _ h
theorem Blk.below (h : Blk w b xs T) (hb : Below B w w') (hlt : b < B) : Blk w' b xs T := (hb.block b hlt).trans h
theorem Blk.later (h : Blk w b xs T) (hb : Below w.heap.size w w') : Blk w' b xs T := h.below hb h.lt
theorem Blk.as {ys : Array Value} (h : Blk w b xs T) (e : xs = ys) : Blk w b ys T := e ▸ h
end
/-- What a region that draws its order holds of a block: its cells. -/
theorem Blk.range {w : World} {b : Nat} {T : TypeId} {k : IntKind} {n : Nat} {l : List (BitVec n)} (h : Blk w b (vals k l) T) : w.rangeAt b 0 (valsL k l) := by
  intro j v hj
  rw [Nat.zero_add, h.cell j, vals, List.getElem?_toArray]
  exact hj
/-! ### whole arrays, read, written, handed back -/
section
variable {P : Program} {w : World} {ops : Array Oper} {rest : List Oper} {o : Oper} {a : Act} {Q : Exit → Act → World → Prop}
end

/-! ### copy: a string's bytes, an array's -/
/-! ### a loop that fills an array, place by place -/
/-! ### arrays held against each other -/
section
variable {P : Program} (w : World)
end
end Go.Proofs.Ytcgmapioelfneaa
