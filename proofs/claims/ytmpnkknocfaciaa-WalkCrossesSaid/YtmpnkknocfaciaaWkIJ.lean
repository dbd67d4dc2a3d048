/- A walk's questions: those it does not look into; as methods of an object. No condition. The example of chapter 22: walked. No condition. The law's points, from their cells. No condition. -/
import Derived.Test.YtmpnkknocfaciaaWkH
import Derived.Test.YtmpnkknocfaciaaFrameK
import Derived.Test.YtmpnkknocfaciaaFrame
import Derived.Test.YtmpnkknocfaciaaWlk8
namespace Go.Proofs.Ytmpnkknocfaciaa
open Go.RowKit
set_option maxRecDepth 100000
set_option maxHeartbeats 1000000
attribute [local irreducible] Calls Walk1 WalkTo Tri EndA
theorem wkNearNo_any (v1 v2 v3 : Value) (n : Nat) (N : List NodeS) (o d : P3) (mask : BitVec 8) (skip : Int) (hno : N.length = 0 ∨ mayP o d = false) (w : World) (b : Nat) (hB : Blk w b (wkC v1 v2 v3 n) 72) (hv1 : RdX w [b] 10 v1 N.length (nodesC N)) :
    Calls Try.prog 29 #[.pointer (some ⟨b, 0, none⟩), .agg o.c, .agg d.c, .int .u8 (bvi mask), .int .i64 skip] w (RetP w b 72 (wkC v1 v2 v3 n) (.tuple #[.int .i64 (-1), .agg zM.c])) := by
  have cn := fun w b hB => wkNone_any v1 v2 v3 n w b hB
  have cM := fun w => mayT_any o d w
  have hos : o.c.size = 3 := rfl
  have hds : d.c.size = 3 := rfl
  have hzc : zM.c = #[.int .i64 0, .int .i64 0, .int .i64 0, .int .i64 0] := rfl
  rw [hzc]
  generalize o.c = OC at *
  generalize d.c = DC at *
  obtain ⟨hv1l, a1, c1, rfl, hv1c⟩ := hv1.rd
  generalize N.length = NL at *
  generalize mayP o d = MP at *
  by_cases h0 : NL = 0
  · refine calls_triP (b := b) (72) (SA.l [SV.c (.slice a1 NL c1), SV.c v2, SV.c (.bool true), SV.c v3, SV.c (.int .i64 (n : Int))]) Try.func29 rfl Try.ntmps29 rfl rfl (hB) (fun _ => rfl) ?_
    repeat (first | (show Walk1 _ _ _ (_ :: _) _ _; first | (show Walk1 _ _ _ (⟨_, _, _, _, _, some _⟩ :: _) _ _; first | refine walk1_yes rfl rfl (by first | exact decide_eq_true (by omega) | exact decide_eq_false (by omega) | rfl | (show _ = true; with_reducible assumption) | (show _ = false; with_reducible assumption) | (simp <;> fail) | omega) ?_ | refine walk1_no rfl rfl (by first | exact decide_eq_true (by omega) | exact decide_eq_false (by omega) | rfl | (show _ = true; with_reducible assumption) | (show _ = false; with_reducible assumption) | (simp <;> fail) | omega) rfl ?_) | (show Walk1 _ _ _ (⟨_, .move _, _, _, _, _⟩ :: _) _ _; refine walk1_t (op_move rfl rfl rfl rfl) ?_) | (show Walk1 _ _ _ (⟨_, .assign _, _, _, _, _⟩ :: _) _ _; first | refine walk1_t (op_assignN rfl rfl rfl rfl) ?_ | refine walk1_t (op_assign rfl rfl rfl rfl) ?_) | (show Walk1 _ _ _ (⟨_, .binOp .eql _ _ _ _, _, _, _, _⟩ :: _) _ _; refine walk1_t (op_eqN rfl rfl rfl (by first | exact evN_const rfl | exact rfl) (by first | exact evN_const rfl | exact rfl)) ?_) | (show Walk1 _ _ _ (⟨_, .pick _ _ _, _, _, _, _⟩ :: _) _ _; first | refine walk1_t (op_pickY rfl rfl rfl rfl (by first | exact decide_eq_true (by omega) | exact decide_eq_false (by omega) | rfl | (show _ = true; with_reducible assumption) | (show _ = false; with_reducible assumption) | (simp <;> fail) | omega) rfl) ?_ | refine walk1_t (op_pickN rfl rfl rfl rfl (by first | exact decide_eq_true (by omega) | exact decide_eq_false (by omega) | rfl | (show _ = true; with_reducible assumption) | (show _ = false; with_reducible assumption) | (simp <;> fail) | omega) rfl) ?_) | (show Walk1 _ _ _ (⟨_, .load _ _, _, _, _, _⟩ :: _) _ _; refine walk1_t (op_load rfl rfl rfl rfl rfl rfl rfl) ?_) | (show Walk1 _ _ _ (⟨_, .alloc _, _, _, _, _⟩ :: _) _ _; refine walk1_n (op_alloc rfl rfl rfl rfl rfl) (by kernel_rfl) ?_) | (show Walk1 _ _ _ (⟨_, .nilCheck _, _, _, _, _⟩ :: _) _ _; refine walk1_t (op_nilP rfl rfl rfl rfl) ?_) | (show Walk1 _ _ _ (⟨_, .box _ _, _, _, _, _⟩ :: _) _ _; refine walk1_n (op_box rfl rfl rfl rfl rfl) (by kernel_rfl) ?_) | (show Walk1 _ _ _ (⟨_, .fieldAddr _ _ _, _, _, _, _⟩ :: _) _ _; refine walk1_t (op_fldT rfl rfl rfl rfl rfl rfl off_zero) ?_) | (show Walk1 _ _ _ (⟨_, .call ⟨.builtin .len, _, _⟩, _, _, _, _⟩ :: _) _ _; refine walk1_t (op_lenC rfl rfl rfl) ?_) | (show Walk1 _ _ _ (⟨_, .call ⟨.value (.func 61), _, _⟩, _, _, _, _⟩ :: _) _ _; ((first | refine walk1_callPE (SA.l [SV.c (.slice a1 NL c1), SV.c v2, SV.c (.bool true), SV.c v3, SV.c (.int .i64 (n : Int))]) rfl rfl rfl rfl (by repeat (first | exact evs_nil | apply evs_cons rfl)) rfl rfl rfl ?_ | refine walk1_callPE0 (SA.l [SV.c (.slice a1 NL c1), SV.c v2, SV.c (.bool true), SV.c v3, SV.c (.int .i64 (n : Int))]) rfl rfl rfl (by repeat (first | exact evs_nil | apply evs_cons rfl)) rfl rfl rfl ?_); refine ⟨_, _, callPE_0 rfl (fun e w h => cn w _ h), ?_⟩))) | (show WalkTo _ _ _ _ (_ :: _) _ _ _; first | (show WalkTo _ _ _ _ (⟨_, .move _, _, _, _, _⟩ :: _) _ _ _; refine walk_t (op_move rfl rfl rfl rfl) ?_) | (show WalkTo _ _ _ _ (⟨_, .assign _, _, _, _, _⟩ :: _) _ _ _; refine walk_t (op_assign rfl rfl rfl rfl) ?_) | (show WalkTo _ _ _ _ (⟨_, .load _ _, _, _, _, _⟩ :: _) _ _ _; refine walk_t (op_loads rfl rfl rfl rfl rfl rfl rfl rfl) ?_) | (show WalkTo _ _ _ _ (⟨_, .store _ _ _, _, _, _, _⟩ :: _) _ _ _; refine walk_b (op_stores rfl rfl rfl rfl rfl rfl rfl) ?_)) | refine go1 ?_ | refine end_block_other rfl ?_ | refine end_scope (fun _ h => by cases h) ?_ | (refine walk_endD ?_ ?_; (· kernel_rfl)) | refine tri_yesA rfl ?_ | refine tri_noA rfl ?_ | refine tri_trueA rfl ?_ | refine tri_falseA rfl ?_)
    refine end_ret (.c (.tuple #[.int .i64 (-1), .agg #[.int .i64 0, .int .i64 0, .int .i64 0, .int .i64 0]])) (res_tmpC rfl rfl rfl rfl rfl rfl rfl rfl) ?_
    exact fin_obj rfl rfl (fun _ => rfl) (fun _ => rfl)
  · obtain rfl : MP = false := hno.resolve_left h0
    refine calls_triP (b := b) (72) (SA.l [SV.c (.slice a1 NL c1), SV.c v2, SV.c (.bool true), SV.c v3, SV.c (.int .i64 (n : Int))]) Try.func29 rfl Try.ntmps29 rfl rfl (hB) (fun _ => rfl) ?_
    repeat (first | (show Walk1 _ _ _ (_ :: _) _ _; first | (show Walk1 _ _ _ (⟨_, _, _, _, _, some _⟩ :: _) _ _; refine walk1_yes rfl rfl (by first | exact decide_eq_true (by omega) | exact decide_eq_false (by omega) | rfl | (show _ = true; with_reducible assumption) | (show _ = false; with_reducible assumption) | (simp <;> fail) | omega) ?_) | (show Walk1 _ _ _ (⟨_, .move _, _, _, _, _⟩ :: _) _ _; refine walk1_t (op_move rfl rfl rfl rfl) ?_) | (show Walk1 _ _ _ (⟨_, .assign _, _, _, _, _⟩ :: _) _ _; first | refine walk1_t (op_assignN rfl rfl rfl rfl) ?_ | refine walk1_t (op_assign rfl rfl rfl rfl) ?_) | (show Walk1 _ _ _ (⟨_, .binOp .eql _ _ _ _, _, _, _, _⟩ :: _) _ _; refine walk1_t (op_eqN rfl rfl rfl (by first | exact evN_const rfl | exact rfl) (by first | exact evN_const rfl | exact rfl)) ?_) | (show Walk1 _ _ _ (⟨_, .pick _ _ _, _, _, _, _⟩ :: _) _ _; refine walk1_t (op_pickN rfl rfl rfl rfl (by first | exact decide_eq_true (by omega) | exact decide_eq_false (by omega) | rfl | (show _ = true; with_reducible assumption) | (show _ = false; with_reducible assumption) | (simp <;> fail) | omega) rfl) ?_) | (show Walk1 _ _ _ (⟨_, .unOp _ _ _, _, _, _, _⟩ :: _) _ _; refine walk1_t (op_not rfl rfl rfl rfl) ?_) | (show Walk1 _ _ _ (⟨_, .load _ _, _, _, _, _⟩ :: _) _ _; first | refine walk1_t (op_load rfl rfl rfl rfl rfl rfl rfl) ?_ | refine walk1_t (op_loads rfl rfl rfl rfl rfl rfl rfl rfl) ?_) | (show Walk1 _ _ _ (⟨_, .alloc _, _, _, _, _⟩ :: _) _ _; refine walk1_n (op_alloc rfl rfl rfl rfl rfl) (by kernel_rfl) ?_) | (show Walk1 _ _ _ (⟨_, .nilCheck _, _, _, _, _⟩ :: _) _ _; refine walk1_t (op_nilP rfl rfl rfl rfl) ?_) | (show Walk1 _ _ _ (⟨_, .box _ _, _, _, _, _⟩ :: _) _ _; refine walk1_n (op_box rfl rfl rfl rfl rfl) (by kernel_rfl) ?_) | (show Walk1 _ _ _ (⟨_, .fieldAddr _ _ _, _, _, _, _⟩ :: _) _ _; refine walk1_t (op_fldT rfl rfl rfl rfl rfl rfl off_zero) ?_) | (show Walk1 _ _ _ (⟨_, .call ⟨.builtin .len, _, _⟩, _, _, _, _⟩ :: _) _ _; refine walk1_t (op_lenC rfl rfl rfl) ?_) | (show Walk1 _ _ _ (⟨_, .call ⟨.value (.func 61), _, _⟩, _, _, _, _⟩ :: _) _ _; ((first | refine walk1_callPE (SA.l [SV.c (.slice a1 NL c1), SV.c v2, SV.c (.bool true), SV.c v3, SV.c (.int .i64 (n : Int))]) rfl rfl rfl rfl (by repeat (first | exact evs_nil | apply evs_cons rfl)) rfl rfl rfl ?_ | refine walk1_callPE0 (SA.l [SV.c (.slice a1 NL c1), SV.c v2, SV.c (.bool true), SV.c v3, SV.c (.int .i64 (n : Int))]) rfl rfl rfl (by repeat (first | exact evs_nil | apply evs_cons rfl)) rfl rfl rfl ?_); refine ⟨_, _, callPE_0 rfl (fun e w h => cn w _ h), ?_⟩)) | (show Walk1 _ _ _ (⟨_, .call ⟨.value (.func 26), _, _⟩, _, _, _, _⟩ :: _) _ _; ((first | refine walk1_call rfl rfl rfl rfl (by repeat (first | exact evs_nil | apply evs_cons rfl)) rfl ?_ | refine walk1_call0 rfl rfl rfl (by repeat (first | exact evs_nil | apply evs_cons rfl)) rfl ?_); refine ⟨_, fun e w => cM w, ?_⟩))) | (show WalkTo _ _ _ _ (_ :: _) _ _ _; first | (show WalkTo _ _ _ _ (⟨_, .move _, _, _, _, _⟩ :: _) _ _ _; refine walk_t (op_move rfl rfl rfl rfl) ?_) | (show WalkTo _ _ _ _ (⟨_, .assign _, _, _, _, _⟩ :: _) _ _ _; refine walk_t (op_assign rfl rfl rfl rfl) ?_) | (show WalkTo _ _ _ _ (⟨_, .load _ _, _, _, _, _⟩ :: _) _ _ _; refine walk_t (op_loads rfl rfl rfl rfl rfl rfl rfl rfl) ?_) | (show WalkTo _ _ _ _ (⟨_, .store _ _ _, _, _, _, _⟩ :: _) _ _ _; refine walk_b (op_stores rfl rfl rfl rfl rfl rfl rfl) ?_)) | refine go1 ?_ | refine end_block_other rfl ?_ | refine end_scope (fun _ h => by cases h) ?_ | (refine walk_endD ?_ ?_; (· kernel_rfl)) | refine tri_yesA rfl ?_ | refine tri_noA rfl ?_ | refine tri_trueA rfl ?_ | refine tri_falseA rfl ?_)
    refine end_ret (.c (.tuple #[.int .i64 (-1), .agg #[.int .i64 0, .int .i64 0, .int .i64 0, .int .i64 0]])) (res_tmpC rfl rfl rfl rfl rfl rfl rfl rfl) ?_
    exact fin_obj rfl rfl (fun _ => rfl) (fun _ => rfl)
/-- The nodes and the order are a tree's, or there are none. -/
structure TreeS (l : List TriS) (N : List NodeS) (K : List Nat) (T : Option Tr) : Prop where
  ok : ∀ t ∈ l, t.ok
  tr : ∀ t, T = some t → t.In N K ∧ t.ix = 0
  no : T = none → N.length = 0
  box : ∀ x ∈ N, smP x.lo ∧ smP x.hi
  nl : N.length ≤ 1000000
  kl : K.length ≤ 1000000
  dom : ∀ k ∈ K, k < l.length
def costT (T : Option Tr) : Nat := match T with
  | none => 0
  | some t => t.cost
def nearW (T : Option Tr) (l : List TriS) (K : List Nat) (o d : P3) (mask : BitVec 8) (skip : Int) (n : Nat) : WSt := if mayP o d = true then (match T with
  | none => ⟨n, -1, zM⟩
  | some t => t.vis l K o d mask skip ⟨n, -1, zM⟩) else ⟨n, -1, zM⟩
theorem wk_retO {s : WkS} {v1 v2 v3 : Value} {w : World} {b n' : Nat} {u : Value} (hok : wkO.ok w b (.tuple #[v1, v2, v3]) s) {e : Ending} {w' : World} (h : RetP w b 72 (wkC v1 v2 v3 n') u e w') : RetO wkO w b (.tuple #[v1, v2, v3]) ⟨s.N, s.K, s.l, n'⟩ u e w' := by
  obtain ⟨rfl, hb, hx⟩ := h
  obtain ⟨x1, x2, x3, he, h1, h2, h3, h4, h5, h6⟩ := hok
  injection he with he
  injection he with he
  simp only [List.cons.injEq, and_true] at he
  obtain ⟨rfl, rfl, rfl⟩ := he
  have hv : ∀ x, (v1.ownBlock = some x ∨ v2.ownBlock = some x ∨ v3.ownBlock = some x) → x ∈ vblk (.tuple #[v1, v2, v3]) := fun x hx => by
    simp only [vblk, List.flatMap_cons, List.flatMap_nil, List.append_nil, List.mem_append, Option.mem_toList]
    exact hx
  have hbl : ∀ x, x ∈ vblk (.tuple #[v1, v2, v3]) → w'.heap[x]? = w.heap[x]? := fun x hxx => hx.block x (h6 x hxx).1 (by simpa using (h6 x hxx).2)
  refine ⟨rfl, ⟨v1, v2, v3, rfl, hb, h2.locB fun x hx => hbl x (hv x (.inl hx)), h3.locB fun x hx => hbl x (hv x (.inr (.inl hx))), h4.locB fun x hx => hbl x (hv x (.inr (.inr hx))), Nat.lt_of_lt_of_le h5 hx.size, fun x hxx => ⟨Nat.lt_of_lt_of_le (h6 x hxx).1 hx.size, (h6 x hxx).2⟩⟩, ?_⟩
  exact ⟨hx.os, hx.tape, hx.output, hx.size, fun k hk hm => hx.block k hk fun hmm => hm (by simp only [List.mem_singleton] at hmm; subst hmm; exact List.mem_cons_self)⟩
theorem wk_rds {s : WkS} {v1 v2 v3 : Value} {w : World} {b : Nat} (hok : wkO.ok w b (.tuple #[v1, v2, v3]) s) : Blk w b (wkC v1 v2 v3 s.n) 72 ∧ RdX w [b] 10 v1 s.N.length (nodesC s.N) ∧ FSX w [b] 1 v2 s.K.length (ordC s.K) ∧ RdX w [b] 19 v3 s.l.length (trisC s.l) := by
  obtain ⟨x1, x2, x3, he, h1, h2, h3, h4, h5, h6⟩ := hok
  injection he with he
  injection he with he
  simp only [List.cons.injEq, and_true] at he
  obtain ⟨rfl, rfl, rfl⟩ := he
  have hv : ∀ x, (v1.ownBlock = some x ∨ v2.ownBlock = some x ∨ v3.ownBlock = some x) → x ∈ vblk (.tuple #[v1, v2, v3]) := fun x hx => by
    simp only [vblk, List.flatMap_cons, List.flatMap_nil, List.append_nil, List.mem_append, Option.mem_toList]
    exact hx
  have hbl : ∀ w', BelowX w w' [b] → ∀ x, x ∈ vblk (.tuple #[v1, v2, v3]) → w'.heap[x]? = w.heap[x]? := fun w' hx x hxx => hx.block x (h6 x hxx).1 (by simpa using (h6 x hxx).2)
  exact ⟨h1, fun w' hw => h2.locB fun x hx => hbl w' hw x (hv x (.inl hx)), fun w' hw => h3.locB fun x hx => hbl w' hw x (hv x (.inr (.inl hx))), fun w' hw => h4.locB fun x hx => hbl w' hw x (hv x (.inr (.inr hx)))⟩
theorem wkNear_obj (N : List NodeS) (K : List Nat) (l : List TriS) (n : Nat) (T : Option Tr) (h : TreeS l N K T) (hc : n + costT T ≤ 100000000) (o d : P3) (mask : BitVec 8) (skip : Int) : ObjM wkO 29 (fun b => #[.pointer (some ⟨b, 0, none⟩), .agg o.c, .agg d.c, .int .u8 (bvi mask), .int .i64 skip]) ⟨N, K, l, n⟩ ⟨N, K, l, (nearW T l K o d mask skip n).n⟩ (.tuple #[.int .i64 (nearW T l K o d mask skip n).i, .agg (nearW T l K o d mask skip n).m.c]) := by
  intro w b v hok
  have hok2 := hok
  obtain ⟨v1, v2, v3, rfl, _⟩ := hok2
  obtain ⟨h1, h2, h3, h4⟩ := wk_rds hok
  cases hm : mayP o d with
  | false =>
    have : nearW T l K o d mask skip n = ⟨n, -1, zM⟩ := by unfold nearW; rw [hm, if_neg (by decide)]
    rw [this]
    exact Calls.mono (wkNearNo_any v1 v2 v3 n N o d mask skip (.inr hm) w b h1 h2) fun r w' hr => wk_retO hok hr
  | true =>
    cases T with
    | none =>
      have : nearW none l K o d mask skip n = ⟨n, -1, zM⟩ := by unfold nearW; rw [hm, if_pos rfl]
      rw [this]
      exact Calls.mono (wkNearNo_any v1 v2 v3 n N o d mask skip (.inl (h.no rfl)) w b h1 h2) fun r w' hr => wk_retO hok hr
    | some t =>
      have : nearW (some t) l K o d mask skip n = t.vis l K o d mask skip ⟨n, -1, zM⟩ := by unfold nearW; rw [hm, if_pos rfl]
      rw [this]
      obtain ⟨ht, ht0⟩ := h.tr t rfl
      exact Calls.mono (wkNear_any v1 v2 v3 n l h.ok N K t ht ht0 h.box h.nl h.kl h.dom hc o d mask skip hm w b h1 h2 h3 h4) fun r w' hr => wk_retO hok hr
end Go.Proofs.Ytmpnkknocfaciaa
namespace Go.Proofs.Ytmpnkknocfaciaa
open Go.RowKit
set_option maxRecDepth 100000
set_option maxHeartbeats 1000000
section
variable {C : Ctx} {ops : Array Oper} {t : List (Nat × SV)} {h : List (Nat × Option Res)} {l : List Oper} {o : Oper} {d : Nat}
theorem walk1_callNOT {σ : Type} {f : FuncId} {xs : Array Operand} {ats : Array TypeId} {vs : List SV} {rb : List Nat} {j : Nat} {O : Obj σ} {s : σ} {u : Value} {K : St → Prop} (k : Nat) (ho : o.op = .call { callee := .value (.func f), args := xs, argTypes := ats }) (hdn : o.dst = some d) (hg : o.guard = none) (hd : dstB o.dst C.nt = true) (hf : freshB ⟨t, h⟩ d = true) (hxs : EvS ⟨t, h⟩ xs.toList vs) (hc' : tabLook calT f = some j)
    (hcon : ∀ (S' : St) e a w, Holds C S' e a w → (∀ q ∈ rb, S'.res q = (St.mk t h).res q) → Calls Try.prog j (vs.map (·.den e)).toArray w (RetNOT O w s u))
    (hK : Walk1 C Try.prog ops l ⟨(d, .tup [.p d 0, .c u]) :: t, (d, none) :: (k, some (.obj d O s)) :: h⟩ K) : Walk1 C Try.prog ops (o :: l) ⟨t, h⟩ K :=
  ⟨_, op_callNOT (C := C) (ops := ops) ho hdn hg hd hxs hc' k hcon, by simp [hf], hK⟩
end
def exA : TriS := ⟨⟨0, 0, 9⟩, ⟨5, 0, 9⟩, ⟨0, 5, 9⟩, List.replicate 9 (Value.int .i64 0), 1⟩
def exB : TriS := ⟨⟨0, 0, 4⟩, ⟨5, 0, 4⟩, ⟨0, 5, 4⟩, List.replicate 9 (Value.int .i64 0), 1⟩
theorem ex_ok : ∀ t ∈ [exA, exB], t.ok := fun t ht => by
  simp only [List.mem_cons, List.not_mem_nil, or_false] at ht
  rcases ht with rfl | rfl <;> exact ⟨rfl, fun u hu => by obtain ⟨_, rfl⟩ := List.mem_replicate.1 hu; rfl⟩
def exN : List NodeS := [⟨⟨0, 0, 4⟩, ⟨5, 5, 9⟩, -1, -1, 0, 2⟩]
theorem ex_tree : treeL [exA, exB] = (exN, [0, 1]) := by kernel_rfl
def exT : Tr := .leaf 0 0 2 ⟨0, 0, 4⟩ ⟨5, 5, 9⟩
theorem ex_treeS : TreeS [exA, exB] exN [0, 1] (some exT) where
  ok := ex_ok
  tr t h := by
    obtain rfl := Option.some.inj h
    exact ⟨⟨rfl, by decide⟩, rfl⟩
  no h := by cases h
  box x hx := by
    rw [exN, List.mem_singleton] at hx
    subst hx
    constructor <;> intro z hz <;> simp [P3.l] at hz <;> omega
  nl := by decide
  kl := by decide
  dom k hk := by simp at hk; rcases hk with rfl | rfl <;> decide
theorem ex_near1 : nearW (some exT) [exA, exB] [0, 1] ⟨1, 1, 0⟩ ⟨0, 0, 1⟩ 1 (-1) 0 = ⟨3, 1, ⟨100, 25, 5, 5⟩⟩ := by kernel_rfl
theorem ex_near2 : nearW (some exT) [exA, exB] [0, 1] ⟨1, 1, 0⟩ ⟨0, 0, 1⟩ 1 1 3 = ⟨6, 0, ⟨225, 25, 5, 5⟩⟩ := by kernel_rfl
attribute [local irreducible] Calls Walk1 WalkTo Tri EndA
theorem works22_any (w : World) : Calls Try.prog 25 #[] w fun e w' => e = .returned (.bool true) ∧ Below w.heap.size w w' := by
  have cN : ∀ w v, RdV w 19 v 2 (trisC [exA, exB]) → Calls Try.prog 28 #[v] w (RetNOT wkO w ⟨exN, [0, 1], [exA, exB], 0⟩ (.int .i64 0)) := fun w v h => walkNew_any [exA, exB] ex_ok (by decide) exN [0, 1] v w h fun w h => by
    have := build_any [exA, exB] ex_ok (by decide) (by decide) (by intro t ht; simp only [List.mem_cons, List.not_mem_nil, or_false] at ht; rcases ht with rfl | rfl <;> decide) v w h
    rw [ex_tree] at this
    exact this
  have m1 := wkNear_obj exN [0, 1] [exA, exB] 0 (some exT) ex_treeS (by decide) ⟨1, 1, 0⟩ ⟨0, 0, 1⟩ 1 (-1)
  have m2 := wkNear_obj exN [0, 1] [exA, exB] 3 (some exT) ex_treeS (by decide) ⟨1, 1, 0⟩ ⟨0, 0, 1⟩ 1 1
  rw [ex_near1] at m1
  rw [ex_near2] at m2
  simp only [P3.c, M4.c] at m1 m2
  refine calls_tri Try.func25 rfl Try.ntmps25 rfl ?_
  repeat (first | (show Walk1 _ _ _ (_ :: _) _ _; (show Walk1 _ _ _ (⟨_, .assign _, _, _, _, _⟩ :: _) _ _; refine walk1_t (op_assign rfl rfl rfl rfl) ?_)) | refine go1 ?_ | refine end_block_other rfl ?_ | refine end_scope (fun _ h => by cases h) ?_ | (refine walk_endD ?_ ?_; (· kernel_rfl)) | refine tri_yesA rfl ?_ | refine tri_noA rfl ?_ | refine tri_trueA rfl ?_ | refine tri_falseA rfl ?_)
  refine walk1_t (op_buildC (parts := [(2, .const (.int .i64 9))]) (vs := [.int .i64 9]) #[.int .i64 0, .int .i64 0, .int .i64 9] rfl rfl rfl rfl rfl rfl (by kernel_rfl) (by kernel_rfl)) ?_
  refine walk1_t (op_buildC (parts := [(0, .const (.int .i64 5)), (2, .const (.int .i64 9))]) (vs := [.int .i64 5, .int .i64 9]) #[.int .i64 5, .int .i64 0, .int .i64 9] rfl rfl rfl rfl rfl rfl (by kernel_rfl) (by kernel_rfl)) ?_
  refine walk1_t (op_buildC (parts := [(1, .const (.int .i64 5)), (2, .const (.int .i64 9))]) (vs := [.int .i64 5, .int .i64 9]) #[.int .i64 0, .int .i64 5, .int .i64 9] rfl rfl rfl rfl rfl rfl (by kernel_rfl) (by kernel_rfl)) ?_
  refine walk1_t (op_buildA (parts := [(0, .tmp 8), (1, .tmp 9), (2, .tmp 10)]) (vs := [.agg #[.int .i64 0, .int .i64 0, .int .i64 9], .agg #[.int .i64 5, .int .i64 0, .int .i64 9], .agg #[.int .i64 0, .int .i64 5, .int .i64 9]]) #[.int .i64 0, .int .i64 0, .int .i64 9, .int .i64 5, .int .i64 0, .int .i64 9, .int .i64 0, .int .i64 5, .int .i64 9] rfl rfl rfl rfl rfl rfl rfl (by kernel_rfl)) ?_
  refine walk1_t (op_buildC (parts := [(0, .tmp 11), (5, .const (.int .u8 1))]) (vs := [.agg #[.int .i64 0, .int .i64 0, .int .i64 9, .int .i64 5, .int .i64 0, .int .i64 9, .int .i64 0, .int .i64 5, .int .i64 9], .int .u8 1]) #[.int .i64 0, .int .i64 0, .int .i64 9, .int .i64 5, .int .i64 0, .int .i64 9, .int .i64 0, .int .i64 5, .int .i64 9, .int .i64 0, .int .i64 0, .int .i64 0, .int .i64 0, .int .i64 0, .int .i64 0, .int .i64 0, .int .i64 0, .int .i64 0, .int .u8 1] rfl rfl rfl rfl rfl rfl (by kernel_rfl) (by kernel_rfl)) ?_
  refine walk1_t (op_buildC (parts := [(2, .const (.int .i64 4))]) (vs := [.int .i64 4]) #[.int .i64 0, .int .i64 0, .int .i64 4] rfl rfl rfl rfl rfl rfl (by kernel_rfl) (by kernel_rfl)) ?_
  refine walk1_t (op_buildC (parts := [(0, .const (.int .i64 5)), (2, .const (.int .i64 4))]) (vs := [.int .i64 5, .int .i64 4]) #[.int .i64 5, .int .i64 0, .int .i64 4] rfl rfl rfl rfl rfl rfl (by kernel_rfl) (by kernel_rfl)) ?_
  refine walk1_t (op_buildC (parts := [(1, .const (.int .i64 5)), (2, .const (.int .i64 4))]) (vs := [.int .i64 5, .int .i64 4]) #[.int .i64 0, .int .i64 5, .int .i64 4] rfl rfl rfl rfl rfl rfl (by kernel_rfl) (by kernel_rfl)) ?_
  refine walk1_t (op_buildA (parts := [(0, .tmp 13), (1, .tmp 14), (2, .tmp 15)]) (vs := [.agg #[.int .i64 0, .int .i64 0, .int .i64 4], .agg #[.int .i64 5, .int .i64 0, .int .i64 4], .agg #[.int .i64 0, .int .i64 5, .int .i64 4]]) #[.int .i64 0, .int .i64 0, .int .i64 4, .int .i64 5, .int .i64 0, .int .i64 4, .int .i64 0, .int .i64 5, .int .i64 4] rfl rfl rfl rfl rfl rfl rfl (by kernel_rfl)) ?_
  refine walk1_t (op_buildC (parts := [(0, .tmp 16), (5, .const (.int .u8 1))]) (vs := [.agg #[.int .i64 0, .int .i64 0, .int .i64 4, .int .i64 5, .int .i64 0, .int .i64 4, .int .i64 0, .int .i64 5, .int .i64 4], .int .u8 1]) #[.int .i64 0, .int .i64 0, .int .i64 4, .int .i64 5, .int .i64 0, .int .i64 4, .int .i64 0, .int .i64 5, .int .i64 4, .int .i64 0, .int .i64 0, .int .i64 0, .int .i64 0, .int .i64 0, .int .i64 0, .int .i64 0, .int .i64 0, .int .i64 0, .int .u8 1] rfl rfl rfl rfl rfl rfl (by kernel_rfl) (by kernel_rfl)) ?_
  refine walk1_n (op_bsliceQ rfl rfl rfl rfl rfl rfl rfl rfl rfl rfl (by decide) (by kernel_rfl)) (by kernel_rfl) ?_
  repeat (first | (show Walk1 _ _ _ (_ :: _) _ _; first | (show Walk1 _ _ _ (⟨_, .move _, _, _, _, _⟩ :: _) _ _; refine walk1_t (op_move rfl rfl rfl rfl) ?_) | (show Walk1 _ _ _ (⟨_, .assign _, _, _, _, _⟩ :: _) _ _; refine walk1_t (op_assign rfl rfl rfl rfl) ?_)) | refine go1 ?_ | refine end_block_other rfl ?_ | refine end_scope (fun _ h => by cases h) ?_ | (refine walk_endD ?_ ?_; (· kernel_rfl)) | refine tri_yesA rfl ?_ | refine tri_noA rfl ?_ | refine tri_trueA rfl ?_ | refine tri_falseA rfl ?_)
  refine walk1_callNOT (rb := [18]) (vs := [.s 18 0 2 2]) 900 rfl rfl rfl rfl (by kernel_rfl) (by repeat (first | exact evs_nil | apply evs_cons rfl)) rfl (fun S' e a w' hS hq => cN w' _ ((rdn_cells (n := 18) (us := trisC [exA, exB]) rfl (by kernel_rfl) (by kernel_rfl)) S' e a w' hq hS)) ?_
  repeat (first | (show Walk1 _ _ _ (_ :: _) _ _; first | (show Walk1 _ _ _ (⟨_, _, _, _, _, some _⟩ :: _) _ _; refine walk1_yes rfl rfl (by first | exact decide_eq_true (by omega) | exact decide_eq_false (by omega) | rfl | (show _ = true; with_reducible assumption) | (show _ = false; with_reducible assumption) | (simp <;> fail) | omega) ?_) | (show Walk1 _ _ _ (⟨_, .move _, _, _, _, _⟩ :: _) _ _; refine walk1_t (op_move rfl rfl rfl rfl) ?_) | (show Walk1 _ _ _ (⟨_, .assign _, _, _, _, _⟩ :: _) _ _; refine walk1_t (op_assign rfl rfl rfl rfl) ?_) | (show Walk1 _ _ _ (⟨_, .binOp .mul _ _ _ _, _, _, _, _⟩ :: _) _ _; refine walk1_t (op_mulI rfl rfl rfl rfl rfl (by omega)) ?_) | (show Walk1 _ _ _ (⟨_, .binOp .eql _ _ _ _, _, _, _, _⟩ :: _) _ _; first | refine walk1_t (op_eqN rfl rfl rfl (by first | exact evN_const rfl | exact rfl) (by first | exact evN_const rfl | exact rfl)) ?_ | refine walk1_t (op_eqNil rfl rfl rfl rfl rfl rfl) ?_) | (show Walk1 _ _ _ (⟨_, .binOp .neq _ _ _ _, _, _, _, _⟩ :: _) _ _; refine walk1_t (op_neN rfl rfl rfl (by first | exact evN_const rfl | exact rfl) (by first | exact evN_const rfl | exact rfl)) ?_) | (show Walk1 _ _ _ (⟨_, .pick _ _ _, _, _, _, _⟩ :: _) _ _; first | refine walk1_t (op_pickY rfl rfl rfl rfl (by first | exact decide_eq_true (by omega) | exact decide_eq_false (by omega) | rfl | (show _ = true; with_reducible assumption) | (show _ = false; with_reducible assumption) | (simp <;> fail) | omega) rfl) ?_ | refine walk1_t (op_pickN rfl rfl rfl rfl (by first | exact decide_eq_true (by omega) | exact decide_eq_false (by omega) | rfl | (show _ = true; with_reducible assumption) | (show _ = false; with_reducible assumption) | (simp <;> fail) | omega) rfl) ?_) | (show Walk1 _ _ _ (⟨_, .load _ _, _, _, _, _⟩ :: _) _ _; refine walk1_t (op_load rfl rfl rfl rfl rfl rfl rfl) ?_) | (show Walk1 _ _ _ (⟨_, .store _ _ _, _, _, _, _⟩ :: _) _ _; refine walk1_b (op_stores rfl rfl rfl rfl rfl rfl rfl) ?_) | (show Walk1 _ _ _ (⟨_, .alloc _, _, _, _, _⟩ :: _) _ _; refine walk1_n (op_alloc rfl rfl rfl rfl rfl) (by kernel_rfl) ?_) | (show Walk1 _ _ _ (⟨_, .fieldAddr _ _ _, _, _, _, _⟩ :: _) _ _; refine walk1_t (op_fldT rfl rfl rfl rfl rfl rfl off_zero) ?_) | (show Walk1 _ _ _ (⟨_, .extract _ _, _, _, _, _⟩ :: _) _ _; first | refine walk1_t (op_ext0 rfl rfl rfl rfl) ?_ | refine walk1_t (op_ext1 rfl rfl rfl rfl) ?_ | refine walk1_t (op_extract rfl rfl rfl rfl rfl) ?_) | (show Walk1 _ _ _ (⟨_, .build _ _, _, _, _, _⟩ :: _) _ _; refine walk1_t (op_buildS rfl rfl rfl rfl) ?_) | (show Walk1 _ _ _ (⟨_, .call ⟨.value (.func 29), _, _⟩, _, _, _, _⟩ :: _) _ _; (first | refine walk1_callObj 900 (m1) rfl rfl rfl rfl (by repeat (first | exact evs_nil | apply evs_cons rfl)) rfl rfl (fun _ => rfl) ?_ | refine walk1_callObj0 900 (m1) rfl rfl rfl (by repeat (first | exact evs_nil | apply evs_cons rfl)) rfl rfl (fun _ => rfl) ?_)) | (show Walk1 _ _ _ (⟨_, .call ⟨.value (.func 29), _, _⟩, _, _, _, _⟩ :: _) _ _; (first | refine walk1_callObj 900 (m2) rfl rfl rfl rfl (by repeat (first | exact evs_nil | apply evs_cons rfl)) rfl rfl (fun _ => rfl) ?_ | refine walk1_callObj0 900 (m2) rfl rfl rfl (by repeat (first | exact evs_nil | apply evs_cons rfl)) rfl rfl (fun _ => rfl) ?_))) | refine go1 ?_ | refine end_block_other rfl ?_ | refine end_scope (fun _ h => by cases h) ?_ | (refine walk_endD ?_ ?_; (· kernel_rfl)) | refine tri_yesA rfl ?_ | refine tri_noA rfl ?_ | refine tri_trueA rfl ?_ | refine tri_falseA rfl ?_)

  refine end_ret (.c (.bool true)) (res_tmp rfl rfl) ?_
  exact fin_below fun _ => rfl
end Go.Proofs.Ytmpnkknocfaciaa
namespace Go.Proofs.Ytmpnkknocfaciaa
open Go.RowKit
set_option maxRecDepth 100000
def ptKs : List Kd := List.replicate 3 (.int .i64)
def twoKs : List Kd := List.replicate 6 (.int .i64)
theorem pt_of_flat {r : List Value} (h : Flat ptKs r) : ∃ o : P3, r.toArray = o.c := by
  have hl : r.length = 3 := h.len
  match r, hl with
  | [a0, a1, a2], _ =>
    obtain ⟨⟨x0, rfl, _⟩, ⟨x1, rfl, _⟩, ⟨x2, rfl, _⟩, _⟩ := h
    exact ⟨⟨x0, x1, x2⟩, rfl⟩
theorem two_of_flat {r : List Value} (h : Flat twoKs r) : ∃ lo hi : P3, r.toArray = twoP lo hi := by
  have hl : r.length = 6 := h.len
  match r, hl with
  | [a0, a1, a2, a3, a4, a5], _ =>
    obtain ⟨⟨x0, rfl, _⟩, ⟨x1, rfl, _⟩, ⟨x2, rfl, _⟩, ⟨x3, rfl, _⟩, ⟨x4, rfl, _⟩, ⟨x5, rfl, _⟩, _⟩ := h
    exact ⟨⟨x0, x1, x2⟩, ⟨x3, x4, x5⟩, rfl⟩
end Go.Proofs.Ytmpnkknocfaciaa
