/- Whole arrays read and written at once; regions that draw their order and whose callees make memory. No condition. -/
import Derived.Test.YtikopoimoaddhaaBase
namespace Go.Proofs.Ytikopoimoaddhaa
open Go.RowKit

/-- The cells of block b. -/
def rowAt (w : World) (b : Nat) : Array Value := match w.heap[b]? with | some (.cells c _ _) => c | _ => #[]
/-- Block b is a row of n cells that may be written. -/
def HasRow (w : World) (b n : Nat) : Prop := ∃ c t, w.heap[b]? = some (.cells c t (0, 0)) ∧ c.size = n
section
variable {w : World} {b n : Nat}
theorem Blk.rowAt {xs : Array Value} {T : TypeId} (h : Blk w b xs T) : rowAt w b = xs := by unfold Go.Proofs.Ytikopoimoaddhaa.rowAt; rw [h.heap]
theorem Blk.hasRow {xs : Array Value} {T : TypeId} (h : Blk w b xs T) (hn : xs.size = n) : HasRow w b n := ⟨xs, T, h, hn⟩
theorem HasRow.lt (h : HasRow w b n) : b < w.heap.size := by obtain ⟨c, t, h, _⟩ := h; exact Blk.lt (T := t) (xs := c) h
@[go_sem] theorem rowAt_new (xs : Array Value) (T : TypeId) : rowAt (w.alloc (.cells xs T)) w.heap.size = xs := (Blk.new w xs T rfl).rowAt
@[go_sem] theorem rowAt_drewN (k : Nat) : rowAt (w.drewN k) b = rowAt w b := rfl
@[go_sem] theorem rowAt_drew : rowAt w.drew b = rowAt w b := rfl
theorem heap_alloc_ne (o : Obj) (h : b ≠ w.heap.size) : (w.alloc o).heap[b]? = w.heap[b]? := by
  show (w.heap.push o)[b]? = w.heap[b]?
  rw [Array.getElem?_push, if_neg h]
@[go_sem] theorem rowAt_alloc (o : Obj) (h : b ≠ w.heap.size) : rowAt (w.alloc o) b = rowAt w b := by
  unfold rowAt; rw [heap_alloc_ne o h]
@[go_sem] theorem rowAt_setCell (a : Addr) (v : Value) (h : b ≠ a.block) : rowAt (w.setCell a v) b = rowAt w b := by
  unfold rowAt; rw [heap_setCell_other w a b v h]
@[go_sem] theorem rowAt_setRow_other (g : Nat) (xs : Array Value) (h : b ≠ g) : rowAt (w.setRow g xs) b = rowAt w b := by
  unfold rowAt; rw [setRow_other w g b xs h]
@[go_sem] theorem rowAt_setRow (xs : Array Value) (h : HasRow w b n) : rowAt (w.setRow b xs) b = xs := by
  obtain ⟨c, t, h, _⟩ := h; exact ((show Blk w b c t from h).row xs).rowAt
@[go_sem] theorem hasRow_new (xs : Array Value) (T : TypeId) : HasRow (w.alloc (.cells xs T)) w.heap.size n = (xs.size = n) := propext
  ⟨fun ⟨c, t, h, hn⟩ => by have e := (Blk.new w xs T rfl).heap.symm.trans h; cases e; exact hn, fun h => (Blk.new w xs T rfl).hasRow h⟩
@[go_sem] theorem hasRow_drewN (k : Nat) : HasRow (w.drewN k) b n = HasRow w b n := rfl
@[go_sem] theorem hasRow_drew : HasRow w.drew b n = HasRow w b n := rfl
@[go_sem] theorem hasRow_alloc (o : Obj) (h : b ≠ w.heap.size) : HasRow (w.alloc o) b n = HasRow w b n := by unfold HasRow; rw [heap_alloc_ne o h]
@[go_sem] theorem hasRow_setCell_other (a : Addr) (v : Value) (h : b ≠ a.block) : HasRow (w.setCell a v) b n = HasRow w b n := by unfold HasRow; rw [heap_setCell_other w a b v h]
@[go_sem] theorem hasRow_setRow_other (g : Nat) (xs : Array Value) (h : b ≠ g) : HasRow (w.setRow g xs) b n = HasRow w b n := by unfold HasRow; rw [setRow_other w g b xs h]
theorem HasRow.setCell (h : HasRow w b n) (i : Nat) (v : Value) : HasRow (w.setCell ⟨b, i, none⟩ v) b n := by
  obtain ⟨c, t, h, hn⟩ := h; exact ((show Blk w b c t from h).set i v).hasRow (by simpa using hn)
theorem HasRow.setRow (h : HasRow w b n) (xs : Array Value) (hx : xs.size = n) : HasRow (w.setRow b xs) b n := by
  obtain ⟨c, t, h, hn⟩ := h; exact ((show Blk w b c t from h).row xs).hasRow hx
end

/-! ### a region that draws its order and whose operations leave alone what lay below -/
/-- A world behind w0: what lay in w0 is as it was. -/
def Later (w0 : World) : Type := { W : World // Below w0.heap.size w0 W }
instance (w0 : World) : Inhabited (Later w0) := ⟨⟨w0, Below.refl _ _⟩⟩
def Later.w {w0 : World} (x : Later w0) : World := x.1
theorem Later.below {w0 : World} (x : Later w0) : Below w0.heap.size w0 x.w := x.2
theorem Later.lt {w0 : World} (x : Later w0) {b : Nat} (h : b < w0.heap.size) : b < x.w.heap.size := Nat.lt_of_lt_of_le h x.2.size
theorem wp_region_later {P : Program} {id : Nat} {Q : Exit → Act → World → Prop} {a : Act} {w : World} {l : List Oper} (hm : P.follows .mixedOrders = true) (hB : Region.lexB .any l.toArray = true)
    (h : wpQuiet P l.toArray (fun w' => ∃ x : Later w, w' = x.w) (fun a' => ∀ x : Later w, Q .normal a' x.w) l a) : (Code.region id l.toArray true).wp P Q a w := by
  refine wp_region_quiet (C := fun w' => ∃ x : Later w, w' = x.w) hm hB ⟨⟨w.drew, (Below.refl _ _).drew⟩, rfl⟩ ?_
  have e : (fun a' => ∀ w', (∃ x : Later w, w' = x.w) → Q .normal a' w') = fun a' => ∀ x : Later w, Q .normal a' x.w := by
    funext a'
    exact propext ⟨fun h x => h _ ⟨x, rfl⟩, fun h w' ⟨x, hx⟩ => hx ▸ h x⟩
  rw [e]
  simpa using h
/-- A callee's contract, met in such a region. -/
theorem later_of {P : Program} {f : FuncId} {args : Array Value} {w0 : World} {x : Later w0} {v : Value} (h : Calls P f args x.w fun e w' => e = .returned v ∧ Below x.w.heap.size x.w w') :
    Calls P f args x.w fun e w'' => e = .returned v ∧ ∃ y : Later w0, w'' = y.w :=
  h.mono fun _ w' ⟨he, hb⟩ => ⟨he, ⟨w', x.2.trans (hb.mono x.2.size)⟩, rfl⟩
theorem later_of_same {P : Program} {f : FuncId} {args : Array Value} {w0 : World} {x : Later w0} {v : Value} (h : Calls P f args x.w fun e w' => e = .returned v ∧ x.w = w') :
    Calls P f args x.w fun e w'' => e = .returned v ∧ ∃ y : Later w0, w'' = y.w :=
  h.mono fun _ _ ⟨he, hb⟩ => ⟨he, x, hb.symm⟩
theorem Blk.laterRow {w0 : World} {b n : Nat} {xs : Array Value} {T : TypeId} (h : Blk w0 b xs T) (hn : xs.size = n) (x : Later w0) : HasRow x.w b n := (h.later x.below).hasRow hn
theorem Blk.laterAt {w0 : World} {b : Nat} {xs : Array Value} {T : TypeId} (h : Blk w0 b xs T) (x : Later w0) : Go.Proofs.Ytikopoimoaddhaa.rowAt x.w b = xs := (h.later x.below).rowAt
/-- A whole array, read in such a region. -/
theorem quiet_load {P : Program} {w0 : World} {o : Oper} {a : Act} {K : Act → Prop} (ty : TypeId) (x : Operand) (ho : o.op = .load ty x) (b : Nat) (hx : a.eval x = .pointer (some ⟨b, 0, none⟩))
    {k : IntKind} {n : Nat} {l : List (BitVec n)} {T : TypeId} (B : Blk w0 b (vals k l) T) {m : Nat} {e : TypeId} (hu : P.underlying ty = some (.array m e)) (hi : (P.info? ty).map (·.size) = some m) (hl : l.length = m)
    (h : K (a.put o.dst (.agg (vals k l)))) : o.quiet P a (fun w' => ∃ y : Later w0, w' = y.w) K := by
  refine ⟨_, ?_, h⟩
  rintro w ⟨y, rfl⟩
  unfold Oper.quietAt execOp
  simp only [ho, hx, Instr.loadAt, Instr.sureAddr, Sem.run_bind, Sem.run_pure, Result.andThen_ok, run_loadVar_row y.w b T ty (vals k l) (0, 0) _ (B.later y.below) hu rfl (by rw [hi, vals_size, hl])]
  exact ⟨rfl, rfl⟩
end Go.Proofs.Ytikopoimoaddhaa
