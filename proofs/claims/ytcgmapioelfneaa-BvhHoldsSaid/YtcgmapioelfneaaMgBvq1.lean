/- The program's own looks at a tree: shaped, leaves: walked. No condition. Walks within a round of a range over a function, and behind one, over the same states. No condition. A range over a function, told by places: the round's walk, the walk behind. No condition. -/
import Derived.Test.YtcgmapioelfneaaMgWkK
import Derived.Test.YtcgmapioelfneaaMgSymY
import Derived.Test.YtcgmapioelfneaaSymX
import Derived.RangeFuncLeaves
import Derived.RangeFuncCalls
import Derived.RangeFuncRecord
import Derived.OrdersIn
import Derived.TacticsIn
import Derived.LoopNIn
namespace Go.Proofs.Ytcgmapioelfneaa
open Go.RowKit
set_option maxRecDepth 100000
set_option maxHeartbeats 2000000
theorem node_row {N : List NodeS} {i : Nat} {n : NodeS} (h : N[i]? = some n) : ((nodesC N).drop (0 + i * 10)).take 10 = nodeC n := by
  rw [Nat.zero_add]
  exact flat_row (sz := 10) (f := nodeC) N (fun _ _ => nodeC_length _) i n h
theorem nodeC_row (lx ly lz hx hy hz : Int) (a b c d : Int) : nodeC ⟨⟨lx, ly, lz⟩, ⟨hx, hy, hz⟩, a, b, c, d⟩ = [.int .i64 lx, .int .i64 ly, .int .i64 lz, .int .i64 hx, .int .i64 hy, .int .i64 hz, .int .i64 a, .int .i64 b, .int .i64 c, .int .i64 d] := rfl
attribute [local irreducible] Calls Walk1 WalkTo Tri EndA
theorem shaped_any {l : List TriS} {N : List NodeS} {K : List Nat} {M : Nat → List Nat} {D : Nat → Nat} (hS : SoundF l N K M D) (hN : N.length ≤ 1000000) (v1 v2 : Value) (w : World) (hv1 : FS w 10 v1 N.length (nodesC N)) :
    Calls Try.prog 23 #[.agg #[v1, v2]] w fun e w' => e = .returned (.bool true) ∧ Below w.heap.size w w' := by
  have hlen := nodes_len N
  have hnode := hS.nodes
  have hrows := fun (i : Nat) (n : NodeS) (h : N[i]? = some n) => node_row h
  generalize hNC : nodesC N = NC at *
  refine calls_tri Try.func23 rfl Try.ntmps23 rfl ?_
  repeat (first | (show Walk1 _ _ _ (_ :: _) _ _; first | (show HW1 (.move _); refine wz40 ?_) | (show HW1 (.assign _); refine wz2 ?_) | (show HW1 (.load _ _); refine wz3 ?_) | (show HW1 (.box _ _); refine wz11 ?_) | (show HW1 (.fieldAddr _ _ _); refine wz4 ?_) | (show HW1 (.call ⟨.builtin .len, _, _⟩); refine wz27 ?_)) | refine go1 ?_ | refine end_block_other rfl ?_ | refine end_scope (fun _ h => by cases h) ?_ | (refine walk_endD ?_ ?_; (· kernel_rfl)) | refine tri_yesA rfl ?_ | refine tri_noA rfl ?_ | refine tri_trueA rfl ?_ | refine tri_falseA rfl ?_)
  refine tri_loop (X := Nat) (fun i => ⟨[(9, SV.c (.int .i64 ((i : Nat) : Int))), (8, SV.c (.int .i64 ((N.length : Nat) : Int))), (7, .c v1), (1, .p 1 0), (2, .c (.bool false))], [(1, some (.blk 1 27 (.c #[v1, v2])))]⟩)
    (fun i => i ≤ N.length) (fun i => N.length - i) 0 (by omega) (by exact ent_kp) ?_
  intro i hi Q next
  by_cases h : i < N.length
  · obtain ⟨nd, hnd⟩ : ∃ nd, N[i]? = some nd := ⟨_, List.getElem?_eq_getElem h⟩
    have hrow := hrows i nd hnd
    have hrl : 0 + i * 10 + 10 ≤ NC.length := by omega
    have nx := fun S' => next S' (i + 1)
    have hk := hnode i nd hnd
    clear hnode hrows next
    obtain ⟨⟨lx, ly, lz⟩, ⟨hx, hy, hz⟩, le, ri, fi, co⟩ := nd
    rw [nodeC_row] at hrow
    rcases hk with ⟨f, c, ⟨e1, e2, e3, e4, _⟩, _⟩ | ⟨L, R, ⟨e1, e2, e3, e4, c1, c2, c3, c4⟩, _⟩
    all_goals
      dsimp only at e1 e2 e3 e4
      subst e1 e2 e3 e4
      repeat (first | (show Walk1 _ _ _ (_ :: _) _ _; first | (show Walk1 _ _ _ (⟨_, _, _, _, _, some _⟩ :: _) _ _; first | refine zy1 ?_ | refine zn1 ?_ | refine zu1 ?_) | (show HW1 (.move _); refine wz1 ?_) | (show HW1 (.assign _); refine wz2 ?_) | (show HW1 (.binOp .add _ _ _ _); refine wz10 ?_) | (show HW1 (.binOp .lss _ _ _ _); refine wz5 ?_) | (show HW1 (.binOp .leq _ _ _ _); refine wz64 ?_) | (show HW1 (.binOp .geq _ _ _ _); refine wz70 ?_) | (show HW1 (.binOp .eql _ _ _ _); refine wz18 ?_) | (show HW1 (.pick _ _ _); first | refine wz8 ?_ | refine wz7 ?_) | (show HW1 (.unOp _ _ _); refine wz19 ?_) | (show HW1 (.indexAddr _ _ _); refine wz26 ?_) | (show HW1 (.load _ _); first | refine wz3 ?_ | refine wz51 ?_) | (show HW1 (.store _ _ _); refine wz14 ?_) | (show HW1 (.alloc _); refine wz6 ?_) | (show HW1 (.fieldAddr _ _ _); refine wz4 ?_) | (show HW1 (.call ⟨.builtin .len, _, _⟩); refine wz27 ?_) | (show HW1 (.call ⟨.builtin .min, _, _⟩); refine walk1_t (op_minN rfl evn evn) ?_) | (show HW1 (.call ⟨.builtin .max, _, _⟩); refine walk1_t (op_maxN rfl evn evn) ?_)) | refine go1 ?_ | refine end_block_other rfl ?_ | refine end_scope (fun _ h => by cases h) ?_ | (refine walk_endD ?_ ?_; (· kernel_rfl)) | refine tri_yesA rfl ?_ | refine tri_noA rfl ?_ | refine tri_trueA rfl ?_ | refine tri_falseA rfl ?_)
      exact nx _ (by omega) (by omega) (by exact ent_kp)
  · obtain rfl : i = N.length := by omega
    repeat (first | (show Walk1 _ _ _ (_ :: _) _ _; first | (show HW1 (.assign _); refine wz2 ?_) | (show HW1 (.binOp .lss _ _ _ _); refine wz5 ?_)) | refine go1 ?_ | refine end_block_other rfl ?_ | refine end_scope (fun _ h => by cases h) ?_ | (refine walk_endD ?_ ?_; (· kernel_rfl)) | refine tri_yesA rfl ?_ | refine tri_noA rfl ?_ | refine tri_trueA rfl ?_ | refine tri_falseA rfl ?_)
    refine end_ret (.c (.bool true)) (res_tmp rfl rfl) ?_
    exact fin_below fun _ => rfl
/-- The leaves among the first nodes. -/
def leavesL (N : List NodeS) (j : Nat) : List Nat := (List.range j).filter fun i => decide ((nodeAt N i).left = -1)
theorem leaves_step (N : List NodeS) (j : Nat) : leavesL N (j + 1) = leavesL N j ++ (if (nodeAt N j).left = -1 then [j] else []) := by
  unfold leavesL
  rw [List.range_succ, List.filter_append, List.filter_cons, List.filter_nil]
  simp only [decide_eq_true_eq]
theorem ordC_app (a b : List Nat) : ordC (a ++ b) = ordC a ++ ordC b := List.map_append
theorem leaves_any {l : List TriS} {N : List NodeS} {K : List Nat} {M : Nat → List Nat} {D : Nat → Nat} (hS : SoundF l N K M D) (hN : N.length ≤ 1000000) (v1 v2 : Value) (w : World) (hv1 : FS w 10 v1 N.length (nodesC N)) :
    Calls Try.prog 14 #[.agg #[v1, v2]] w (RetOwn w 3 1 (leavesL N N.length).length (ordC (leavesL N N.length))) := by
  have cS := fun w h => shaped_any hS hN v1 v2 w h
  have hlen := nodes_len N
  have hnode := hS.nodes
  have hrows := fun (i : Nat) (n : NodeS) (h : N[i]? = some n) => node_row h
  have hat := fun (i : Nat) (n : NodeS) (h : N[i]? = some n) => nodeAt_of h
  have hle : ∀ j, (leavesL N j).length ≤ j := fun j => by
    refine Nat.le_trans (List.length_filter_le _ _) ?_
    rw [List.length_range]; omega
  obtain ⟨LC, hLC⟩ : ∃ f : Nat → List Value, ∀ j, f j = ordC (leavesL N j) := ⟨_, fun _ => rfl⟩
  obtain ⟨LN, hLN⟩ : ∃ f : Nat → Nat, ∀ j, f j = (leavesL N j).length := ⟨_, fun _ => rfl⟩
  have hst : ∀ j, LC (j + 1) = LC j ++ (if (nodeAt N j).left = -1 then [.int .i64 ((j : Nat) : Int)] else []) ∧ LN (j + 1) = LN j + (if (nodeAt N j).left = -1 then 1 else 0) := fun j => by
    rw [hLC, hLC, hLN, hLN, leaves_step, ordC_app, List.length_append]
    split <;> exact ⟨rfl, rfl⟩
  have hL0 : LC 0 = [] := hLC 0
  have hN0 : LN 0 = 0 := hLN 0
  rw [← hLC, ← hLN]
  simp only [← hLN] at hle
  clear hLC hLN hS
  generalize hNC : nodesC N = NC at *
  refine calls_tri Try.func14 rfl Try.ntmps14 rfl ?_
  repeat (first | (show Walk1 _ _ _ (_ :: _) _ _; first | (show HW1 (.move _); refine wz40 ?_) | (show HW1 (.assign _); refine wz2 ?_) | (show HW1 (.load _ _); refine wz3 ?_) | (show HW1 (.box _ _); refine wz11 ?_) | (show HW1 (.fieldAddr _ _ _); refine wz4 ?_) | (show HW1 (.call ⟨.builtin .len, _, _⟩); refine wz27 ?_)) | refine go1 ?_ | refine end_block_other rfl ?_ | refine end_scope (fun _ h => by cases h) ?_ | (refine walk_endD ?_ ?_; (· kernel_rfl)) | refine tri_yesA rfl ?_ | refine tri_noA rfl ?_ | refine tri_trueA rfl ?_ | refine tri_falseA rfl ?_)
  refine tri_ent (ent_nil (i := 3) (n := 3) 3 1 rfl (by kernel_rfl)) ?_
  refine tri_loop (X := Nat) (fun i => ⟨[(9, SV.c (.int .i64 ((i : Nat) : Int))), (8, SV.c (.int .i64 ((N.length : Nat) : Int))), (7, .c v1), (1, .p 1 0), (3, .v 3)], [(1, some (.blk 1 27 (.c #[v1, v2]))), (3, some (.own 3 3 1 (LN i) (LC i)))]⟩)
    (fun i => i ≤ N.length) (fun i => N.length - i) 0 (by omega) (by rw [hL0, hN0]; exact ent_keep (by repeat (first | exact hasT_nil | refine hasT_cons rfl ?_ | refine hasT_eq rfl (svi (by omega)) ?_)) (by repeat (first | exact hasR_nil | refine hasR_cons rfl ?_))) ?_
  intro i hi Q next
  by_cases h : i < N.length
  · obtain ⟨nd, hnd⟩ : ∃ nd, N[i]? = some nd := ⟨_, List.getElem?_eq_getElem h⟩
    have hrow := hrows i nd hnd
    have hrl : 0 + i * 10 + 10 ≤ NC.length := by omega
    have nx := fun S' => next S' (i + 1)
    obtain ⟨s1, s2⟩ := hst i
    rw [s1, s2, hat i nd hnd] at nx
    have hk := hnode i nd hnd
    have hi1 := hle i
    clear hnode hrows next hst s1 s2 hat hle
    generalize LC i = XC at *
    generalize LN i = XN at *
    obtain ⟨⟨lx, ly, lz⟩, ⟨hx, hy, hz⟩, le, ri, fi, co⟩ := nd
    rw [nodeC_row] at hrow
    rcases hk with ⟨f, c, ⟨e1, e2, e3, e4, _⟩, _⟩ | ⟨L, R, ⟨e1, e2, e3, e4, c1, c2, c3, c4⟩, _⟩
    · dsimp only at e1 e2 e3 e4 nx
      subst e1 e2 e3 e4
      rw [if_pos rfl, if_pos rfl] at nx
      repeat (first | (show Walk1 _ _ _ (_ :: _) _ _; first | (show Walk1 _ _ _ (⟨_, _, _, _, _, some _⟩ :: _) _ _; refine zy1 ?_) | (show HW1 (.move _); refine wz1 ?_) | (show HW1 (.assign _); refine wz2 ?_) | (show HW1 (.binOp .add _ _ _ _); refine wz10 ?_) | (show HW1 (.binOp .lss _ _ _ _); refine wz5 ?_) | (show HW1 (.binOp .eql _ _ _ _); refine wz18 ?_) | (show HW1 (.pick _ _ _); refine wz8 ?_) | (show HW1 (.indexAddr _ _ _); refine wz26 ?_) | (show HW1 (.load _ _); first | refine wz3 ?_ | refine wz9 ?_ | refine wz51 ?_) | (show HW1 (.store _ _ _); refine wz14 ?_) | (show HW1 (.alloc _); refine wz6 ?_) | (show HW1 (.fieldAddr _ _ _); refine wz4 ?_) | (show HW1 (.call ⟨.builtin .append, _, _⟩); refine wz122 ?_) | (show HW1 (.buildSlice _ _ _); refine wz85 ?_) | (show HW1 (.call ⟨.value (.func 23), _, _⟩); (refine cwalk1M 23 ?_; refine ⟨_, _, callM_1 (rdn_old hv1.rd (by omega) rfl) (fun e w h1 => cS w ⟨h1, hv1.2⟩), ?_⟩))) | refine go1 ?_ | refine end_block_other rfl ?_ | refine end_scope (fun _ h => by cases h) ?_ | (refine walk_endD ?_ ?_; (· kernel_rfl)) | refine tri_yesA rfl ?_ | refine tri_noA rfl ?_ | refine tri_trueA rfl ?_ | refine tri_falseA rfl ?_)
      exact nx _ (by omega) (by omega) (ent_ren (fun n => cond (Nat.beq n 3) 29 n) (by repeat (first | exact hasTm_nil | refine hasTm_cons rfl (fun _ => rfl) ?_)) (by repeat (first | exact hasRm_nil | refine hasRm_cons rfl (fun _ => rfl) (fun _ _ h => h) rfl ?_)) (by kernel_rfl))
    · dsimp only at e1 e2 e3 e4 nx
      subst e1 e2 e3 e4
      rw [if_neg (by omega), if_neg (by omega), List.append_nil, Nat.add_zero] at nx
      repeat (first | (show Walk1 _ _ _ (_ :: _) _ _; first | (show Walk1 _ _ _ (⟨_, _, _, _, _, some _⟩ :: _) _ _; refine zn1 ?_) | (show HW1 (.move _); refine wz1 ?_) | (show HW1 (.assign _); refine wz2 ?_) | (show HW1 (.binOp .add _ _ _ _); refine wz10 ?_) | (show HW1 (.binOp .lss _ _ _ _); refine wz5 ?_) | (show HW1 (.binOp .eql _ _ _ _); refine wz18 ?_) | (show HW1 (.pick _ _ _); refine wz7 ?_) | (show HW1 (.indexAddr _ _ _); refine wz26 ?_) | (show HW1 (.load _ _); first | refine wz3 ?_ | refine wz51 ?_) | (show HW1 (.store _ _ _); refine wz14 ?_) | (show HW1 (.alloc _); refine wz6 ?_) | (show HW1 (.fieldAddr _ _ _); refine wz4 ?_)) | refine go1 ?_ | refine end_block_other rfl ?_ | refine end_scope (fun _ h => by cases h) ?_ | (refine walk_endD ?_ ?_; (· kernel_rfl)) | refine tri_yesA rfl ?_ | refine tri_noA rfl ?_ | refine tri_trueA rfl ?_ | refine tri_falseA rfl ?_)
      exact nx _ (by omega) (by omega) (by exact ent_kp)
  · obtain rfl : i = N.length := by omega
    clear next cS hst hrows hnode
    repeat (first | (show Walk1 _ _ _ (_ :: _) _ _; first | (show HW1 (.move _); refine wz1 ?_) | (show HW1 (.assign _); refine wz2 ?_) | (show HW1 (.binOp .lss _ _ _ _); refine wz5 ?_)) | refine go1 ?_ | refine end_block_other rfl ?_ | refine end_scope (fun _ h => by cases h) ?_ | (refine walk_endD ?_ ?_; (· kernel_rfl)) | refine tri_yesA rfl ?_ | refine tri_noA rfl ?_ | refine tri_trueA rfl ?_ | refine tri_falseA rfl ?_)
    refine end_ret (.v 3) (res_tmp rfl rfl) ?_
    exact fin_own rfl
end Go.Proofs.Ytcgmapioelfneaa
namespace Go.Proofs.Ytcgmapioelfneaa
open Go.RowKit
set_option maxRecDepth 100000
set_option maxHeartbeats 1000000
/-- No bar but the round. -/
def fenR (r : Option Nat) : Fence := { Fence.wide with round := r }
def dfs (ds : List Deferred) (a : Act) : Act := { a with defers := ds }
/-- What is asked is asked of the frame without its deferred calls. -/
def liftQ (ds : List Deferred) (Q : Exit → Act → World → Prop) : Exit → Act → World → Prop := fun e a w => ∃ a0, a = dfs ds a0 ∧ Q e a0 w
def wpG (r : Option Nat) (ds : List Deferred) (c : Code) (P : Program) (Q : Exit → Act → World → Prop) (a : Act) (w : World) : Prop := c.wpIn (fenR r) 9 P (liftQ ds Q) (dfs ds a) w
section
variable {r : Option Nat} {ds : List Deferred} {P : Program} {Q Q' : Exit → Act → World → Prop} {a : Act} {w : World} {c x y : Code} {ops : Array Oper}
theorem wpG_seq (h : wpG r ds x P (Exit.then (fun a w => wpG r ds y P Q a w) Q) a w) : wpG r ds (.seq x y) P Q a w :=
  wpIn_seq (wpIn_mono h fun e a w ⟨a0, h1, h2⟩ => by
    subst h1
    cases e <;> first | exact h2 | exact ⟨a0, rfl, h2⟩)
theorem wpG_block {id : Nat} (h : wpG r ds c P (Exit.inBlock id Q) a w) : wpG r ds (.block id c) P Q a w :=
  wpIn_block (wpIn_mono h fun e a w ⟨a0, h1, h2⟩ => by
    subst h1
    cases e with
    | exit id' =>
      show if id' = id then _ else _
      have h2 : if id' = id then Q .normal a0 w else Q (.exit id') a0 w := h2
      split
      · rename_i hh; rw [if_pos hh] at h2; exact ⟨a0, rfl, h2⟩
      · rename_i hh; rw [if_neg hh] at h2; exact ⟨a0, rfl, h2⟩
    | _ => exact ⟨a0, rfl, h2⟩)
theorem wpG_skip (h : Q .normal a w) : wpG r ds .skip P Q a w := wpIn_skip ⟨a, rfl, h⟩
theorem wpG_label {l : Nat} (h : Q .normal a w) : wpG r ds (.label l) P Q a w := wpIn_label ⟨a, rfl, h⟩
theorem wpG_ret (h : Q .ret a w) : wpG r ds .ret P Q a w := wpIn_ret ⟨a, rfl, h⟩
theorem wpG_exit {id : Nat} (h : Q (.exit id) a w) : wpG r ds (.exit id) P Q a w := wpIn_exit ⟨a, rfl, h⟩
theorem wpG_cond {o : Operand} {t : Bool} (hc : a.eval o = .bool t) (ht : t = true → wpG r ds x P Q a w) (hf : t = false → wpG r ds y P Q a w) : wpG r ds (.cond o x y) P Q a w :=
  wpIn_cond_split (t := t) hc ht hf
theorem put_dfs (a : Act) (d : Option Tmp) (v : Value) : (dfs ds a).put d v = dfs ds (a.put d v) := by cases d <;> rfl
/-- No statement that defers. -/
def calmO (o : Oper) : Bool := match o.op with | .defer _ => false | _ => true
theorem sem_fen {o : Oper} (h : calmO o = true) (a : Act) : o.semAt (fenR r).round (dfs ds a).eval = execOp a.eval o := by
  cases r with
  | none => rfl
  | some l => exact Oper.semAt_some l _ _ fun c hc => by unfold calmO at h; rw [hc] at h; cases h
theorem callsG {f : FuncId} {args : Array Value} {R : Ending → World → Prop} {n : Nat} (h : Calls P f args w R) : CallsIn (fenR r) n P f args w R := by
  have : CallsIn Fence.wide n P f args w R := callsIn_wide.2 h
  exact this
theorem rowsG {row : String} {args : Array Value} {R : Value → World → Prop} {n : Nat} (h : Rows P row args w R) : RowsIn (fenR r) n P row args w R := fun c cs _ => by
  obtain ⟨v, w', h1, h2⟩ := h c cs
  exact ⟨v, w', h1, stepsIn_wide.2 h2⟩
theorem put_defers (a : Act) (d : Option Tmp) (v : Value) : (a.put d v).defers = a.defers := by cases d <;> rfl
theorem oper_in {n : Nat} {o : Oper} (hc : calmO o = true) {K : Act → World → Prop} (hK : ∀ a w, K a w → a.defers = []) {Q : Exit → Act → World → Prop} (h : o.wp P a w K (fun _ _ _ => False)) : o.wpIn (fenR r) n P (dfs ds a) w (fun a' w' => ∃ a0, a' = dfs ds a0 ∧ K a0 w') Q := by
  refine ⟨fun _ _ => trivial, ?_⟩
  rw [sem_fen hc]
  unfold Oper.wp at h
  generalize (execOp a.eval o).run P w = res at *
  cases res with
  | ok nx w' =>
    cases nx <;> simp only [Oper.upon, Oper.uponIn] at h ⊢ <;> first | exact h | skip
    case value v => exact ⟨_, put_dfs a _ _, h⟩
    case skip => exact ⟨_, put_dfs a _ _, h⟩
    case defer d => have := hK _ _ h; rw [put_defers] at this; cases this
    case enter f args =>
      refine ⟨fun hh => (by cases hh), callsG (Calls.mono h fun e w'' he => ?_)⟩
      cases e with
      | returned u => exact ⟨_, put_dfs a _ _, he⟩
      | panicked c => exact he.elim
      | outgrown => obtain ⟨_, _, hf⟩ := he; exact hf.elim
    case row rw args => exact ⟨fun hh => (by cases hh), rowsG (Rows.mono h fun v w'' hv => ⟨_, put_dfs a _ _, hv⟩)⟩
  | halt x w' => cases x <;> simp only [Oper.upon, Oper.uponIn] at h ⊢
end
section
variable {C : Ctx} {r : Option Nat} {ds : List Deferred} {P : Program} {Q Q' : Exit → Act → World → Prop} {S S' : St}
def TriG (r : Option Nat) (ds : List Deferred) (C : Ctx) (P : Program) (S : St) (c : Code) (Q : Exit → Act → World → Prop) : Prop := ∀ e a w, Holds C S e a w → wpG r ds c P Q a w
theorem triG_seq {x y : Code} (h : TriG r ds C P S x (Exit.then (fun a w => wpG r ds y P Q a w) Q)) : TriG r ds C P S (.seq x y) Q := fun e a w hS => wpG_seq (h e a w hS)
theorem endG_seq {y : Code} {Q' : Exit → Act → World → Prop} (h : TriG r ds C P S y Q) : EndA C S (Exit.then (fun a w => wpG r ds y P Q a w) Q' .normal) := h
theorem triG_skip (h : EndA C S (Q .normal)) : TriG r ds C P S .skip Q := fun e a w hS => wpG_skip (h e a w hS)
theorem triG_label {l : Nat} (h : EndA C S (Q .normal)) : TriG r ds C P S (.label l) Q := fun e a w hS => wpG_label (h e a w hS)
theorem triG_ret (h : EndA C S (Q .ret)) : TriG r ds C P S .ret Q := fun e a w hS => wpG_ret (h e a w hS)
theorem triG_exit {id : Nat} (h : EndA C S (Q (.exit id))) : TriG r ds C P S (.exit id) Q := fun e a w hS => wpG_exit (h e a w hS)
theorem triG_block {id : Nat} {c : Code} (h : TriG r ds C P S c (Exit.inBlock id Q)) : TriG r ds C P S (.block id c) Q := fun e a w hS => wpG_block (h e a w hS)
theorem triG_cond {c : Operand} {x y : Code} {b : Bool} (hc : S.ev c = some (.c (.bool b))) (ht : b = true → TriG r ds C P S x Q) (hf : b = false → TriG r ds C P S y Q) : TriG r ds C P S (.cond c x y) Q := fun e a w hS =>
  wpG_cond (t := b) (hS.ev hc) (fun h => ht h e a w hS) (fun h => hf h e a w hS)
theorem triG_ent (h : Ents C S S') {c : Code} (ht : TriG r ds C P S' c Q) : TriG r ds C P S c Q := fun e a w hS => let ⟨e', h'⟩ := h e a w hS; ht e' a w h'
theorem triG_keep (t : List (Nat × SV)) (h : List (Nat × Option Res)) {c : Code} (ht : HasT S t) (hr : HasR S h) (hc : TriG r ds C P ⟨t, h⟩ c Q) : TriG r ds C P S c Q := triG_ent (ent_keep ht hr) hc
theorem triG_yesA {c : Operand} {x y : Code} {p : Prop} [Decidable p] (hc : S.ev c = some (.c (.bool (decide p)))) (h : TriG r ds C P S x Q) (hp : p := by first | omega | (simp <;> fail) | assumption) : TriG r ds C P S (.cond c x y) Q := triG_cond hc (fun _ => h) (fun h2 => absurd hp (of_decide_eq_false h2))
theorem triG_noA {c : Operand} {x y : Code} {p : Prop} [Decidable p] (hc : S.ev c = some (.c (.bool (decide p)))) (h : TriG r ds C P S y Q) (hp : ¬ p := by first | omega | (simp <;> fail) | assumption) : TriG r ds C P S (.cond c x y) Q := triG_cond hc (fun h2 => absurd (of_decide_eq_true h2) hp) (fun _ => h)
theorem triG_trueA {c : Operand} {x y : Code} {b : Bool} (hc : S.ev c = some (.c (.bool b))) (h : TriG r ds C P S x Q) (hb : b = true := by first | with_reducible rfl | with_reducible exact Bool.not_false | with_reducible assumption) : TriG r ds C P S (.cond c x y) Q := triG_cond hc (fun _ => h) (fun h2 => by rw [hb] at h2; cases h2)
theorem triG_falseA {c : Operand} {x y : Code} {b : Bool} (hc : S.ev c = some (.c (.bool b))) (h : TriG r ds C P S y Q) (hb : b = false := by first | with_reducible rfl | with_reducible exact Bool.not_true | with_reducible assumption) : TriG r ds C P S (.cond c x y) Q := triG_cond hc (fun h2 => by rw [hb] at h2; cases h2) (fun _ => h)
theorem holds_calm {S : St} : ∀ a w, (∃ e, Holds C S e a w) → a.defers = [] := fun _ _ ⟨_, h⟩ => h.defers
theorem chain_listG {ops : Array Oper} : ∀ (l : List Oper) (S : St) (os : List OS) (S' : St), l.all calmO = true → Chain C P ops l S os S' → ∀ e a w, Holds C S e a w → (∀ e a w, Holds C S' e a w → Q .normal a w) → wpListIn (fenR r) 9 P ops (liftQ ds Q) l (dfs ds a) w
  | [], S, [], S', _, h, e, a, w, hS, hQ => by cases h; exact ⟨a, rfl, hQ e a w hS⟩
  | o :: l, S, os :: rr, S', hc, ⟨h, hf, ht⟩, e, a, w, hS, hQ => by
    rw [List.all_cons, Bool.and_eq_true] at hc
    have h1 := h S (fun _ _ => rfl) (fun _ _ => rfl) (fun n hn => freshB_spec (List.all_eq_true.1 hf n hn)) e a w hS
    unfold wpListIn
    rw [show (dfs ds a).tmps = a.tmps from rfl]
    split at h1
    · rename_i hw
      rw [if_pos hw]
      exact Oper.wpIn_mono (fun a' w' ⟨a0, ha, e', h'⟩ => by
        subst ha
        exact chain_listG l _ rr S' hc.2 ht e' a0 w' h' hQ) (oper_in hc.1 holds_calm h1)
    · rename_i hw
      rw [if_neg hw, put_dfs]
      obtain ⟨e', h'⟩ := h1
      exact ⟨fun _ _ => trivial, chain_listG l _ rr S' hc.2 ht e' _ w h' hQ⟩
  | [], _, _ :: _, _, _, h, _, _, _, _, _ => h.elim
  | _ :: _, _, [], _, _, h, _, _, _, _, _ => h.elim
theorem triG_reg {id : Nat} {l : List Oper} (h : Walk1 C P l.toArray l S fun S' => EndA C S' (Q .normal)) (hc : l.all calmO = true := by rfl) : TriG r ds C P S (.region id l.toArray false) Q := fun e a w hS => by
  obtain ⟨os, S', h1, h2⟩ := walk1_chain l S h
  exact wpIn_region_lit (chain_listG l S os S' hc h1 e a w hS h2)
end
section
variable {C : Ctx} {P : Program} {ops : Array Oper} {Q : Exit → Act → World → Prop}
theorem any_orderG {rd : Option Nat} {ds : List Deferred} {l : List Oper} {S S' : St} {r : List OS} (hch : Chain C P l.toArray l S r S') (hk : chk l r = true) (hca : l.all calmO = true) (hQ : ∀ e a w, Holds C S' e a w → Q .normal a w) :
    ∀ (fuel : Nat) (listed : Array Bool), listed.size = l.length → (listed.toList.countP (· == false)) = fuel → ClosedE (fun j => listed.getD j false) l → ∀ e a w, Holds C (folds r (fun j => listed.getD j false) 0 S) e a w →
      wpAnyIn (fenR rd) 9 P .any l.toArray (liftQ ds Q) fuel listed (dfs ds a) w := by
  intro fuel
  have hdown : downB l = true := by simp only [chk, Bool.and_eq_true] at hk; exact hk.1.1
  induction fuel with
  | zero =>
    intro listed hsz hcnt hE e a w hS
    have hall : ∀ i, i < l.length → listed.getD i false = true := by
      intro i hi
      rw [List.countP_eq_zero] at hcnt
      have := hcnt (listed[i]'(by omega)) (by simp)
      simp only [beq_false, Bool.not_eq_true', Bool.not_eq_false] at this
      simp only [Array.getD_eq_getD_getElem?, Array.getElem?_eq_getElem (show i < listed.size by omega), Option.getD_some]
      simpa using this
    refine ⟨?_, a, rfl, hQ e a w (hS.like ?_)⟩
    · unfold Region.ready
      rw [List.filter_eq_nil_iff]
      intro i hi
      have hi' : i < l.length := by simpa using hi
      have := hall i hi'
      have h2 : listed.getD i true = true := by
        simp only [Array.getD_eq_getD_getElem?, Array.getElem?_eq_getElem (show i < listed.size by omega), Option.getD_some] at this ⊢
        exact this
      simp [h2]
    · rw [chain_end 0 hch]
      have hlen := chain_len hch
      constructor
      · intro x
        rw [folds_tmp, folds_tmp]
        refine lastAt_congr _ _ _ _ _ fun j y hj => ?_
        have hjl : j < l.length := by have := (List.getElem?_eq_some_iff.1 hj).1; simp at this; omega
        simp only [Nat.zero_add, hall j hjl]
      · intro x
        rw [folds_res, folds_res]
        refine lastAt_congr _ _ _ _ _ fun j y hj => ?_
        have hjl : j < l.length := by have := (List.getElem?_eq_some_iff.1 hj).1; simp at this; omega
        simp only [Nat.zero_add, hall j hjl]
  | succ fuel ih =>
    intro listed hsz hcnt hE e a w hS
    refine ⟨fun hnil => ?_, fun i hi => ?_⟩
    · -- the first that was not taken is ready
      exfalso
      have hex : ∃ i, i < l.length ∧ listed.getD i true = false := by
        have : 0 < listed.toList.countP (· == false) := by omega
        rw [List.countP_pos_iff] at this
        obtain ⟨b, hb, hf⟩ := this
        obtain ⟨i, hi, he⟩ := List.getElem_of_mem hb
        have hi2 : i < listed.size := by simpa using hi
        refine ⟨i, by omega, ?_⟩
        have hb2 : b = false := by simpa using hf
        simp only [Array.getD_eq_getD_getElem?, Array.getElem?_eq_getElem hi2, Option.getD_some]
        rw [← hb2, ← he]; simp
      obtain ⟨i, ⟨hi, hif⟩, hmin⟩ := exists_least' (p := fun i => i < l.length ∧ listed.getD i true = false) hex
      have : i ∈ Region.ready .any l.toArray listed := by
        unfold Region.ready
        rw [List.mem_filter]
        refine ⟨by simpa using hi, ?_⟩
        have ho : l[i]? = some l[i] := List.getElem?_eq_getElem hi
        simp only [hif, Bool.not_false, Bool.true_and, List.getElem?_toArray, ho, Option.map_some, Option.getD_some]
        rw [← Array.all_toList, List.all_eq_true]
        intro x hx
        by_cases hb : Region.binds .any x = true
        · have hd := List.all_eq_true.1 hdown i (List.mem_range.2 hi)
          rw [ho] at hd
          have hlt := List.all_eq_true.1 hd x hx
          rw [hb] at hlt
          have hlt2 : x.on < i := by simpa [Nat.blt_eq] using hlt
          simp only [hb, Bool.not_true, Bool.false_or]
          cases hl : listed.getD x.on false with
          | true => rfl
          | false =>
            exfalso
            have h3 : listed.getD x.on true = false := by
              simp only [Array.getD_eq_getD_getElem?, Array.getElem?_eq_getElem (show x.on < listed.size by omega), Option.getD_some] at hl ⊢
              exact hl
            have := hmin x.on ⟨by omega, h3⟩
            omega
        · simp [hb]
      rw [hnil] at this
      cases this
    · unfold Region.ready at hi
      rw [List.mem_filter] at hi
      obtain ⟨hir, hi2⟩ := hi
      have hil : i < l.length := by simpa using hir
      have ho : l[i]? = some l[i] := List.getElem?_eq_getElem hil
      simp only [List.getElem?_toArray, ho, Option.map_some, Option.getD_some, Bool.and_eq_true, Bool.not_eq_true'] at hi2
      obtain ⟨hif, hed⟩ := hi2
      have hif2 : listed.getD i false = false := by
        simp only [Array.getD_eq_getD_getElem?, Array.getElem?_eq_getElem (show i < listed.size by omega), Option.getD_some] at hif ⊢
        exact hif
      rw [← Array.all_toList, List.all_eq_true] at hed
      have hed2 : ∀ x ∈ l[i].after.toList, Region.binds .any x = true → listed.getD x.on false = true := by
        intro x hx hb
        have := hed x hx
        rw [hb] at this
        simpa using this
      have h1 := step_any hch hk (fun j => listed.getD j false) hE ho hif2 hed2 hS
      have hset := listed_set (listed := listed) (i := i) (by omega)
      have hE2 : ClosedE (fun j => (listed.setIfInBounds i true).getD j false) l := by
        rw [hset]
        intro j o' ho' hj x hx hb
        simp only [Bool.or_eq_true, decide_eq_true_eq] at hj ⊢
        rcases hj with hj | rfl
        · exact .inl (hE j o' ho' hj x hx hb)
        · rw [ho] at ho'; cases ho'; exact .inl (hed2 x hx hb)
      have hcnt2 : (listed.setIfInBounds i true).toList.countP (· == false) = fuel := by
        rw [Array.toList_setIfInBounds, List.countP_set (by simp; omega)]
        have : listed.toList[i]'(by simp; omega) = false := by
          simp only [Array.getD_eq_getD_getElem?, Array.getElem?_eq_getElem (show i < listed.size by omega), Option.getD_some] at hif
          simpa using hif
        rw [this, hcnt]
        simp
      have next : ∀ e' a' w', Holds C (folds r (fun j => (listed.getD j false || decide (j = i))) 0 S) e' a' w' → wpAnyIn (fenR rd) 9 P .any l.toArray (liftQ ds Q) fuel (listed.setIfInBounds i true) (dfs ds a') w' := by
        intro e' a' w' h'
        rw [← hset] at h'
        exact ih _ (by simpa using hsz) hcnt2 hE2 e' a' w' h'
      unfold wpOpIn
      simp only [List.getElem?_toArray, ho]
      rw [show (dfs ds a).tmps = a.tmps from rfl]
      have hcal : calmO l[i] = true := List.all_eq_true.1 hca _ (List.getElem_mem hil)
      split at h1
      · rename_i hw
        rw [if_pos hw]
        exact Oper.wpIn_mono (fun a' w' ⟨a0, ha, e', h'⟩ => by
          subst ha
          exact next e' a0 w' h') (oper_in hcal holds_calm h1)
      · rename_i hw
        rw [if_neg hw, put_dfs]
        obtain ⟨e', h'⟩ := h1
        exact ⟨fun _ _ => trivial, next e' _ w h'⟩
theorem triG_draw0 {rd : Option Nat} {ds : List Deferred} {id : Nat} {l : List Oper} {S S' : St} {r : List OS} (hm : P.follows .mixedOrders = true) (h : Chain C P l.toArray l S r S') (hk : chk l r = true) (hca : l.all calmO = true) {e : Env} {a : Act} {w : World} (hS : Holds C S e a w) (hQ : ∀ e a w, Holds C S' e a w → Q .normal a w) :
    wpG rd ds (Code.region id l.toArray true) P Q a w := by
  refine wpIn_region_any hm ?_
  have h0 : folds r (fun j => (Array.replicate l.length false).getD j false) 0 S = S := by
    have : (fun j => (Array.replicate l.length false).getD j false) = fun j => decide (j < 0) := by
      funext j
      simp only [Array.getD_eq_getD_getElem?, Array.getElem?_replicate]
      split <;> simp
    rw [this]
    exact folds_lt r 0 0 S (Nat.le_refl _)
  have := any_orderG (rd := rd) (ds := ds) (Q := Q) h hk hca hQ l.length (Array.replicate l.length false) (by simp) (by simp [List.countP_replicate]) (by
    intro i o ho hi
    simp only [Array.getD_eq_getD_getElem?, Array.getElem?_replicate] at hi
    split at hi <;> cases hi) e a _ (by rw [h0]; exact hS.drew')
  simpa using this
theorem triG_draw {rd : Option Nat} {ds : List Deferred} {S : St} {id : Nat} {l : List Oper} (h : WalkTo C Try.prog l.toArray [] l S [] fun S' r => chk l r = true ∧ EndA C S' (Q .normal)) (hc : l.all calmO = true := by rfl) : TriG rd ds C Try.prog S (.region id l.toArray true) Q := fun e a w hS => by
  obtain ⟨r, S', h1, hk, hK⟩ := walk_chain [] l S [] h
  exact triG_draw0 mixed_ok h1 hk hc hS hK
end
/-! ### loops -/
section
variable {C : Ctx} {P : Program} {S : St} {Q : Exit → Act → World → Prop} {r : Option Nat} {ds : List Deferred}
theorem triG_loop {X : Type} (Inv : X → St) (I : X → Prop) (μ : X → Nat) (x0 : X) (h0 : I x0) (hS0 : Ents C S (Inv x0)) {body : Code}
    (round : ∀ x, I x → ∀ K : Act → World → Prop, (∀ (S' : St) (x' : X), I x' → μ x' < μ x → Ents C S' (Inv x') → EndA C S' K) → TriG r ds C P (Inv x) body (Exit.then K Q)) : TriG r ds C P S (.loop body) Q := by
  intro e a w hS
  obtain ⟨e0, h1⟩ := hS0 e a w hS
  have key : ∀ (n : Nat) (x : X), μ x < n → I x → ∀ e a w, Holds C (Inv x) e a w → Code.roundsIn (fenR r) 9 P body (liftQ ds Q) n (dfs ds a) w := by
    intro n
    induction n with
    | zero => intro x h; omega
    | succ n ih =>
      intro x hx hI e a w hS
      rw [roundsIn_succ]
      have := round x hI (fun a w => Code.roundsIn (fenR r) 9 P body (liftQ ds Q) n (dfs ds a) w) (fun S' x' hI' hlt hE e a w hS' => by
        obtain ⟨e', h'⟩ := hE e a w hS'
        exact ih x' (by omega) hI' e' a w h') e a w hS
      refine Code.wpIn_mono (fun e a w hq => ?_) this
      obtain ⟨a0, rfl, hq⟩ := hq
      cases e <;> first | exact hq | exact ⟨a0, rfl, hq⟩
  exact wpIn_loop_rounds _ (key (μ x0 + 1) x0 (by omega) h0 e0 a w h1)
end
section
variable {C : Ctx} {P : Program} {S : St} {Q Q' : Exit → Act → World → Prop} {x y c : Code} {id l : Nat} {r : Option Nat} {ds : List Deferred}
instance : Go1 (TriG r ds C P S (.seq x y) Q) (TriG r ds C P S x (Exit.then (fun a w => wpG r ds y P Q a w) Q)) := ⟨triG_seq⟩
instance : Go1 (TriG r ds C P S (.block id c) Q) (TriG r ds C P S c (Exit.inBlock id Q)) := ⟨triG_block⟩
instance : Go1 (TriG r ds C P S .skip Q) (EndA C S (Q .normal)) := ⟨triG_skip⟩
instance : Go1 (TriG r ds C P S (.label l) Q) (EndA C S (Q .normal)) := ⟨triG_label⟩
instance : Go1 (TriG r ds C P S .ret Q) (EndA C S (Q .ret)) := ⟨triG_ret⟩
instance : Go1 (TriG r ds C P S (.exit id) Q) (EndA C S (Q (.exit id))) := ⟨triG_exit⟩
instance (priority := high) : Go1 (EndA C S (Exit.then (fun a w => wpG r ds y P Q a w) Q' .normal)) (TriG r ds C P S y Q) := ⟨endG_seq⟩
end
end Go.Proofs.Ytcgmapioelfneaa
namespace Go.Proofs.Ytcgmapioelfneaa
open Go.RowKit
set_option maxRecDepth 100000
set_option maxHeartbeats 1000000
/-- An object that is no cells lies there. -/
def Res.lay (L : Nat) (o : Go.Obj) : Res where
  foot _ x := x = L
  ok _ w := w.heap[L]? = some o
  sup := []
  wr := true
  ind _ _ _ := ⟨rfl, rfl⟩
  loc _ _ _ h hok := (h L rfl).trans hok
  lt _ _ _ hok hf := by subst hf; exact (Array.getElem?_eq_some_iff.1 hok).1
section
variable {C : Ctx} {S : St} {e : Env} {a : Act} {w : World}
theorem Holds.layNew (hS : Holds C S e a w) (k : Nat) (o : Go.Obj) : Holds C ⟨S.t, (k, some (.lay w.heap.size o)) :: S.h⟩ e a (w.alloc o) where
  defers := hS.defers
  size := hS.size
  tmp := hS.tmp
  res n r hr := by
    rw [St.res_cons] at hr
    split at hr
    · cases hr; exact World.alloc_heap_new w o
    · exact r.loc e w _ (fun b hb => Below.heap_alloc w o b (r.lt e w b (hS.res n r hr) hb)) (hS.res n r hr)
  mine n r hr hw b hb := by
    rw [St.res_cons] at hr
    split at hr
    · cases hr; rw [show b = w.heap.size from hb]; exact .inl hS.frame.size
    · exact hS.mine n r hr hw b hb
  sep n m r r' hr hr' hne hw b hb hb' := by
    rw [St.res_cons] at hr hr'
    split at hr
    · split at hr'
      · rename_i h1 h2; exact hne (h1.symm.trans h2)
      · cases hr
        have := r'.lt e w b (hS.res m r' hr') hb'
        rw [show b = w.heap.size from hb] at this
        exact Nat.lt_irrefl _ this
    · split at hr'
      · cases hr'
        have := r.lt e w b (hS.res n r hr) hb
        rw [show b = w.heap.size from hb'] at this
        exact Nat.lt_irrefl _ this
      · exact hS.sep n m r r' hr hr' hne hw b hb hb'
  frame := ⟨hS.frame.os, hS.frame.tape, hS.frame.output, by rw [World.size_alloc]; exact Nat.le_succ_of_le hS.frame.size, fun k hk hm => (Below.heap_alloc w o k (Nat.lt_of_lt_of_le hk hS.frame.size)).trans (hS.frame.block k hk hm)⟩
theorem Holds.layPut (hS : Holds C S e a w) {k L : Nat} {o : Go.Obj} (hr0 : S.res k = some (.lay L o)) (o' : Go.Obj) : Holds C ⟨S.t, (k, some (.lay L o')) :: S.h⟩ e a (w.putObj L o') := by
  have hL : w.heap[L]? = some o := hS.res k _ hr0
  have hlt : L < w.heap.size := (Array.getElem?_eq_some_iff.1 hL).1
  have hsz : (w.putObj L o').heap.size = w.heap.size := by simp [World.putObj]
  refine ⟨hS.defers, hS.size, hS.tmp, fun n r hr => ?_, fun n r hr hw b hb => ?_, fun n m r r' hr hr' hne hw b hb hb' => ?_, ⟨hS.frame.os, hS.frame.tape, hS.frame.output, by rw [hsz]; exact hS.frame.size, fun q hq hm => ?_⟩⟩
  · rw [St.res_cons] at hr
    split at hr
    · cases hr; exact World.putObj_heap_same hlt
    · rename_i hne
      refine r.loc e w _ (fun b hb => World.putObj_heap_other fun hbL => ?_) (hS.res n r hr)
      exact hS.sep k n _ r hr0 hr hne rfl b (show b = L from hbL) hb
  · rw [St.res_cons] at hr
    split at hr
    · cases hr; exact hS.mine k _ hr0 rfl b hb
    · exact hS.mine n r hr hw b hb
  · rw [St.res_cons] at hr hr'
    split at hr
    · split at hr'
      · rename_i h1 h2; exact hne (h1.symm.trans h2)
      · rename_i h1 h2
        cases hr
        exact hS.sep k m _ r' hr0 hr' h2 rfl b hb hb'
    · split at hr'
      · rename_i h1 h2
        cases hr'
        exact hS.sep k n _ r hr0 hr h1 rfl b hb' hb
      · exact hS.sep n m r r' hr hr' hne hw b hb hb'
  · refine (World.putObj_heap_other fun hqL => ?_).trans (hS.frame.block q hq hm)
    rcases hS.mine k _ hr0 rfl L rfl with h | h
    · omega
    · exact hm (hqL ▸ h)
end
def closedT (l : List (Nat × Value)) : List (Nat × SV) := l.map fun p => (p.1, SV.c p.2)
theorem look_closedT (i : Nat) : ∀ l : List (Nat × Value), look (closedT l) i = (look l i).map SV.c
  | [] => rfl
  | (j, x) :: l => by
    show look ((j, SV.c x) :: closedT l) i = _
    rw [look_cons, look_cons, look_closedT i l]
    split <;> rfl
theorem wide_n {r : Option Nat} {n m : Nat} {P : Program} {c : Code} {Q : Exit → Act → World → Prop} {a : Act} {w : World} (h : c.wpIn (fenR r) n P Q a w) : c.wpIn (fenR r) m P Q a w := fun b k cs hro hb _ => h b k cs hro hb (room_wide _)
/-- An iterator, told by places: in the k-th round it hands over encs k. -/
def IterAt (P : Program) (gf : Nat) (lb : Array Value) (encs : Nat → Array Value) (N : Nat) (Rd : World → Prop) : Prop :=
  ∀ (l : Nat) (J : Nat → World → Prop) (Jx : World → Prop) (W : World), (∀ k W, J k W → Rd W) → (∀ k W W', J k W → Below W.heap.size W W' → J k W') → (∀ W W', Jx W → Below W.heap.size W W' → Jx W') →
    (∀ k W1, k < N → J k W1 → YieldAt Fence.wide 7 P l (encs k) W1 fun e W' => (e = .returned (.bool true) ∧ J (k + 1) W') ∨ (e = .returned (.bool false) ∧ Jx W')) → J 0 W →
    CallsIn Fence.wide 8 P gf (#[.func (.yield l) #[] #[]] ++ lb) W fun e W' => (∃ v, e = .returned v) ∧ (J N W' ∨ Jx W')
def markD (D : Nat) : Deferred := { target := .collected D, args := #[] }
def loopOf (fn : FuncId) (tmps : Array Value) (ps : Array Tmp) (assign body : Code) (D : Nat) (st : LoopState) : Loop := { state := st, pending := none, fn, tmps, params := ps, assign, body, defers := D }
end Go.Proofs.Ytcgmapioelfneaa
