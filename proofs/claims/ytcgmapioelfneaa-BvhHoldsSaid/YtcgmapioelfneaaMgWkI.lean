/- A walk's questions: those it does not look into; as methods of an object. No condition. The example of chapter 22: walked. No condition. Chapter 21's five triangles: walked. No condition. A tree of no triangles, of triangles too far off; walks of them: walked. No condition. What a walk finds is what one triangle after the other finds: plain. No condition. -/
import Derived.Test.YtcgmapioelfneaaMgWkG
import Derived.Test.YtcgmapioelfneaaMgBvq7
import Derived.Test.YtcgmapioelfneaaMgWkE
import Derived.Test.YtcgmapioelfneaaMgRecW0
import Derived.Test.YtcgmapioelfneaaMgWkK
namespace Go.Proofs.Ytcgmapioelfneaa
open Go.RowKit
set_option maxRecDepth 100000
set_option maxHeartbeats 1000000
attribute [local irreducible] Calls Walk1 WalkTo Tri EndA
/-- The nodes and the order are a tree's, or there are none. -/
structure TreeS (l : List TriS) (N : List NodeS) (K : List Nat) (T : Option Tr) : Prop where
  ok : ∀ t ∈ l, t.ok
  tr : ∀ t, T = some t → t.In N K ∧ t.ix = 0
  no : T = none → N.length = 0
  box : ∀ x ∈ N, smP x.lo ∧ smP x.hi
  nl : N.length ≤ 1000000
  kl : K.length ≤ 1000000
  dom : ∀ k ∈ K, k < l.length
def costT (T : Option Tr) : Nat := match T with
  | none => 0
  | some t => t.cost
def nearW (T : Option Tr) (l : List TriS) (K : List Nat) (o d : P3) (mask : BitVec 8) (skip : Int) (n : Nat) : WSt := if mayP o d = true then (match T with
  | none => ⟨n, -1, zM⟩
  | some t => t.vis l K o d mask skip ⟨n, -1, zM⟩) else ⟨n, -1, zM⟩
def anyW (T : Option Tr) (l : List TriS) (K : List Nat) (o d : P3) (mask : BitVec 8) (skip : Int) (near : Bool) (n : Nat) : Nat × Bool := if mayP o d = true then (match T with
  | none => (n, false)
  | some t => t.visA l K o d mask skip near (n, false)) else (n, false)
end Go.Proofs.Ytcgmapioelfneaa
namespace Go.Proofs.Ytcgmapioelfneaa
open Go.RowKit
set_option maxRecDepth 100000
set_option maxHeartbeats 1000000
section
variable {C : Ctx} {ops : Array Oper} {t : List (Nat × SV)} {h : List (Nat × Option Res)} {l : List Oper} {o : Oper} {d : Nat}
end
attribute [local irreducible] Calls Walk1 WalkTo Tri EndA
end Go.Proofs.Ytcgmapioelfneaa
namespace Go.Proofs.Ytcgmapioelfneaa
open Go.RowKit
set_option maxRecDepth 100000
set_option maxHeartbeats 1000000
def apartT (i : Nat) : TriS := ⟨⟨(100 * i : Nat), 0, 0⟩, ⟨(100 * i + 5 : Nat), 0, 0⟩, ⟨(100 * i : Nat), 5, 0⟩, List.replicate 9 (Value.int .i64 0), 0⟩
def apartL : List TriS := (List.range 5).map apartT
attribute [local irreducible] Calls Walk1 WalkTo Tri EndA
theorem apart_any (w : World) : Calls Try.prog 19 #[] w (RetOwn w 37 19 5 (trisC apartL)) := by
  obtain ⟨TC, hTC⟩ : ∃ f : Nat → List Value, ∀ i, f i = trisC ((List.range i).map apartT) := ⟨_, fun _ => rfl⟩
  have hst : ∀ i, TC (i + 1) = TC i ++ triC (apartT i) := fun i => by
    rw [hTC, hTC, List.range_succ, List.map_append]
    simp [trisC]
  have h0 : TC 0 = [] := hTC 0
  rw [show trisC apartL = TC 5 from (hTC 5).symm]
  clear hTC
  refine calls_tri Try.func19 rfl Try.ntmps19 rfl ?_
  repeat (first | (show Walk1 _ _ _ (_ :: _) _ _; first | (show HW1 (.move _); refine wz40 ?_) | (show HW1 (.assign _); refine wz2 ?_)) | refine go1 ?_ | refine end_block_other rfl ?_ | refine end_scope (fun _ h => by cases h) ?_ | (refine walk_endD ?_ ?_; (· kernel_rfl)) | refine tri_yesA rfl ?_ | refine tri_noA rfl ?_ | refine tri_trueA rfl ?_ | refine tri_falseA rfl ?_)
  refine tri_ent (ent_nil (i := 1) (n := 1) 37 19 rfl (by kernel_rfl)) ?_
  refine tri_loop (X := Nat) (fun i => ⟨[(3, SV.c (.int .i64 ((i : Nat) : Int))), (1, .v 1)], [(1, some (.own 1 37 19 i (TC i)))]⟩)
    (fun i => i ≤ 5) (fun i => 5 - i) 0 (by omega) (by rw [h0]; exact ent_keep (by repeat (first | exact hasT_nil | refine hasT_cons rfl ?_ | refine hasT_eq rfl (svi (by omega)) ?_)) (by repeat (first | exact hasR_nil | refine hasR_cons rfl ?_))) ?_
  intro i hi Q next
  by_cases h : i < 5
  · have nx := fun S' => next S' (i + 1)
    rw [hst] at nx
    clear next hst h0
    generalize TC i = T0 at *
    repeat (first | (show Walk1 _ _ _ (_ :: _) _ _; first | (show HW1 (.move _); refine wz1 ?_) | (show HW1 (.assign _); refine wz2 ?_) | (show HW1 (.binOp .mul _ _ _ _); refine wz88 ?_) | (show HW1 (.binOp .lss _ _ _ _); refine wz5 ?_)) | refine go1 ?_ | refine end_block_other rfl ?_ | refine end_scope (fun _ h => by cases h) ?_ | (refine walk_endD ?_ ?_; (· kernel_rfl)) | refine tri_yesA rfl ?_ | refine tri_noA rfl ?_ | refine tri_trueA rfl ?_ | refine tri_falseA rfl ?_)
    refine walk1_t (op_buildC (parts := [(0, .tmp 8)]) (vs := [.int .i64 ((100 * i : Nat) : Int)]) #[.int .i64 ((100 * i : Nat) : Int), .int .i64 0, .int .i64 0] rfl rfl rfl rfl rfl rfl (by kernel_rfl) (by kernel_rfl)) ?_
    repeat (first | (show Walk1 _ _ _ (_ :: _) _ _; first | (show HW1 (.move _); refine wz1 ?_) | (show HW1 (.binOp .add _ _ _ _); refine wz10 ?_) | (show HW1 (.binOp .mul _ _ _ _); refine wz88 ?_)) | refine go1 ?_ | refine end_block_other rfl ?_ | refine end_scope (fun _ h => by cases h) ?_ | (refine walk_endD ?_ ?_; (· kernel_rfl)) | refine tri_yesA rfl ?_ | refine tri_noA rfl ?_ | refine tri_trueA rfl ?_ | refine tri_falseA rfl ?_)
    refine walk1_t (op_buildC (parts := [(0, .tmp 12)]) (vs := [.int .i64 ((100 * i + 5 : Nat) : Int)]) #[.int .i64 ((100 * i + 5 : Nat) : Int), .int .i64 0, .int .i64 0] rfl rfl rfl rfl rfl rfl (by kernel_rfl) (by kernel_rfl)) ?_
    repeat (first | (show Walk1 _ _ _ (_ :: _) _ _; first | (show HW1 (.move _); refine wz1 ?_) | (show HW1 (.binOp .mul _ _ _ _); refine wz88 ?_)) | refine go1 ?_ | refine end_block_other rfl ?_ | refine end_scope (fun _ h => by cases h) ?_ | (refine walk_endD ?_ ?_; (· kernel_rfl)) | refine tri_yesA rfl ?_ | refine tri_noA rfl ?_ | refine tri_trueA rfl ?_ | refine tri_falseA rfl ?_)
    refine walk1_t (op_buildC (parts := [(0, .tmp 15), (1, .const (.int .i64 5))]) (vs := [.int .i64 ((100 * i : Nat) : Int), .int .i64 5]) #[.int .i64 ((100 * i : Nat) : Int), .int .i64 5, .int .i64 0] rfl rfl rfl rfl rfl rfl (by kernel_rfl) (by kernel_rfl)) ?_
    refine walk1_t (op_buildA (parts := [(0, .tmp 9), (1, .tmp 13), (2, .tmp 16)]) (vs := [.agg #[.int .i64 ((100 * i : Nat) : Int), .int .i64 0, .int .i64 0], .agg #[.int .i64 ((100 * i + 5 : Nat) : Int), .int .i64 0, .int .i64 0], .agg #[.int .i64 ((100 * i : Nat) : Int), .int .i64 5, .int .i64 0]]) #[.int .i64 ((100 * i : Nat) : Int), .int .i64 0, .int .i64 0, .int .i64 ((100 * i + 5 : Nat) : Int), .int .i64 0, .int .i64 0, .int .i64 ((100 * i : Nat) : Int), .int .i64 5, .int .i64 0] rfl rfl rfl rfl rfl rfl rfl (by kernel_rfl)) ?_
    refine walk1_t (op_buildC (parts := [(0, .tmp 17)]) (vs := [.agg #[.int .i64 ((100 * i : Nat) : Int), .int .i64 0, .int .i64 0, .int .i64 ((100 * i + 5 : Nat) : Int), .int .i64 0, .int .i64 0, .int .i64 ((100 * i : Nat) : Int), .int .i64 5, .int .i64 0]]) (triC (apartT i)).toArray rfl rfl rfl rfl rfl rfl (by kernel_rfl) (by kernel_rfl)) ?_
    have hsz : (triC (apartT i)).length = 19 := rfl
    have hone : ∀ u ∈ triC (apartT i), u.oneCell' = true := fun u hu => by
      simp only [triC, apartT, P9, List.mem_append, List.mem_cons, List.not_mem_nil, or_false, List.mem_replicate] at hu
      rcases hu with hu | hu | rfl
      · simp at hu
        rcases hu with rfl | rfl | rfl | rfl | rfl | rfl | rfl | rfl | rfl <;> rfl
      · rw [hu.2]; rfl
      · rfl
    generalize triC (apartT i) = TI at *
    have hsz2 : TI.toArray.size = 19 := hsz
    repeat (first | (show Walk1 _ _ _ (_ :: _) _ _; first | (show HW1 (.move _); refine wz1 ?_) | (show HW1 (.assign _); refine wz2 ?_) | (show HW1 (.binOp .add _ _ _ _); refine wz10 ?_) | (show HW1 (.call ⟨.builtin .append, _, _⟩); refine walk1_g (op_appendE rfl rfl rfl rfl rfl rfl rfl rfl rfl rfl (by decide) (by first | (with_reducible assumption) | rfl) (by first | (with_reducible assumption) | rfl) (by omega) rfl) (by kernel_rfl) ?_) | (show HW1 (.buildSlice _ _ _); refine walk1_n (op_bslice1 rfl rfl rfl rfl rfl rfl rfl rfl rfl rfl rfl ce_c (sm_c (by with_reducible assumption)) (by kernel_rfl)) (by kernel_rfl) ?_)) | refine go1 ?_ | refine end_block_other rfl ?_ | refine end_scope (fun _ h => by cases h) ?_ | (refine walk_endD ?_ ?_; (· kernel_rfl)) | refine tri_yesA rfl ?_ | refine tri_noA rfl ?_ | refine tri_trueA rfl ?_ | refine tri_falseA rfl ?_)
    exact nx _ (by omega) (by omega) (ent_ren (fun n => cond (Nat.beq n 1) 20 n) (by repeat (first | exact hasTm_nil | refine hasTm_cons rfl (fun _ => rfl) ?_)) (by repeat (first | exact hasRm_nil | refine hasRm_cons rfl (fun _ => rfl) (fun _ _ h => h) rfl ?_)) (by kernel_rfl))
  · obtain rfl : i = 5 := by omega
    repeat (first | (show Walk1 _ _ _ (_ :: _) _ _; first | (show HW1 (.move _); refine wz1 ?_) | (show HW1 (.assign _); refine wz2 ?_) | (show HW1 (.binOp .lss _ _ _ _); refine wz5 ?_)) | refine go1 ?_ | refine end_block_other rfl ?_ | refine end_scope (fun _ h => by cases h) ?_ | (refine walk_endD ?_ ?_; (· kernel_rfl)) | refine tri_yesA rfl ?_ | refine tri_noA rfl ?_ | refine tri_trueA rfl ?_ | refine tri_falseA rfl ?_)
    refine end_ret (.v 1) (res_tmp rfl rfl) ?_
    exact fin_own rfl
end Go.Proofs.Ytcgmapioelfneaa
namespace Go.Proofs.Ytcgmapioelfneaa
open Go.RowKit
set_option maxRecDepth 100000
set_option maxHeartbeats 1000000
attribute [local irreducible] Calls Walk1 WalkTo Tri EndA
theorem buildNil_any (vl : Value) (w : World) (hvl : RdV w 19 vl 0 []) :
    Calls Try.prog 7 #[vl] w fun e w' => e = .returned (.tuple #[.agg #[.slice none 0 0, .slice none 0 0], .int .i64 0]) ∧ Below w.heap.size w w' := by
  obtain ⟨_, a, c, rfl, _⟩ := hvl
  refine calls_tri Try.func7 rfl Try.ntmps7 rfl ?_
  repeat (first | (show Walk1 _ _ _ (_ :: _) _ _; first | (show HW1 (.move _); first | refine wz40 ?_ | refine wz1 ?_) | (show HW1 (.assign _); refine wz13 ?_) | (show HW1 (.binOp .gtr _ _ _ _); refine wz33 ?_) | (show HW1 (.alloc _); refine wz6 ?_) | (show HW1 (.call ⟨.builtin .len, _, _⟩); refine wz39 ?_)) | refine go1 ?_ | refine end_block_other rfl ?_ | refine end_scope (fun _ h => by cases h) ?_ | (refine walk_endD ?_ ?_; (· kernel_rfl)) | refine tri_yesA rfl ?_ | refine tri_noA rfl ?_ | refine tri_trueA rfl ?_ | refine tri_falseA rfl ?_)
  refine tri_loop (X := Nat) (fun j => ⟨[(24, SV.c (.int .i64 ((j : Nat) : Int))), (23, SV.c (.int .i64 ((0 : Nat) : Int))), (22, .c (.slice a 0 c)), (2, .p 2 0), (3, .c (.int .i64 0)), (0, .c (.slice a 0 c))], [(2, some (.blk 2 27 (.c #[.slice none 0 0, .slice none 0 0])))]⟩)
    (fun j => j = 0) (fun j => 0 - j) 0 rfl (by exact ent_kp) ?_
  rintro j rfl K next
  clear next
  repeat (first | (show Walk1 _ _ _ (_ :: _) _ _; first | (show HW1 (.move _); refine wz1 ?_) | (show HW1 (.assign _); refine wz13 ?_) | (show HW1 (.binOp .lss _ _ _ _); refine wz5 ?_) | (show HW1 (.binOp .eql _ _ _ _); refine wz30 ?_) | (show HW1 (.load _ _); refine wz9 ?_) | (show HW1 (.store _ _ _); refine wz14 ?_) | (show HW1 (.alloc _); refine wz6 ?_) | (show HW1 (.call ⟨.builtin .len, _, _⟩); refine wz39 ?_)) | refine go1 ?_ | refine end_block_other rfl ?_ | refine end_scope (fun _ h => by cases h) ?_ | (refine walk_endD ?_ ?_; (· kernel_rfl)) | refine tri_yesA rfl ?_ | refine tri_noA rfl ?_ | refine tri_trueA rfl ?_ | refine tri_falseA rfl ?_)
  refine end_ret (.c (.tuple #[.agg #[.slice none 0 0, .slice none 0 0], .int .i64 0])) (res_cellT rfl rfl rfl rfl rfl rfl rfl rfl) ?_
  exact fin_below fun _ => rfl
theorem buildFar_any (l : List TriS) (hok : ∀ t ∈ l, t.ok) (h4 : l.length ≤ 4096) (hfar : ∃ t ∈ l, farT t = true) (vl : Value) (w : World) (hvl : RdV w 19 vl l.length (trisC l)) :
    Calls Try.prog 7 #[vl] w fun e w' => e = .returned (.tuple #[.agg #[.slice none 0 0, .slice none 0 0], .int .i64 8]) ∧ Below w.heap.size w w' := by
  have hlen := tris_len l hok
  have cB := fun (t : TriS) (v : Value) (w : World) h => boxT_any v [t.p0, t.p1, t.p2] w h (by simp)
  have hrow : ∀ j t, l[j]? = some t → ((trisC l).drop (0 + j * 19)).take 19 = triC t := fun j t h => by
    rw [Nat.zero_add]
    exact flat_row (sz := 19) (f := triC) l (fun t ht => triC_length t (hok t ht)) j t h
  obtain ⟨tf, hmf, hff⟩ := hfar
  obtain ⟨jf, hjf, rfl⟩ := List.getElem_of_mem hmf
  generalize hXS : trisC l = XS at *
  refine calls_tri Try.func7 rfl Try.ntmps7 rfl ?_
  repeat (first | (show Walk1 _ _ _ (_ :: _) _ _; first | (show HW1 (.move _); first | refine wz40 ?_ | refine wz1 ?_) | (show HW1 (.assign _); refine wz13 ?_) | (show HW1 (.binOp .gtr _ _ _ _); refine wz33 ?_) | (show HW1 (.alloc _); refine wz6 ?_) | (show HW1 (.call ⟨.builtin .len, _, _⟩); refine wz27 ?_)) | refine go1 ?_ | refine end_block_other rfl ?_ | refine end_scope (fun _ h => by cases h) ?_ | (refine walk_endD ?_ ?_; (· kernel_rfl)) | refine tri_yesA rfl ?_ | refine tri_noA rfl ?_ | refine tri_trueA rfl ?_ | refine tri_falseA rfl ?_)
  refine tri_loop (X := Nat) (fun j => ⟨[(24, SV.c (.int .i64 ((j : Nat) : Int))), (23, SV.c (.int .i64 ((l.length : Nat) : Int))), (22, .c vl), (2, .p 2 0), (3, .c (.int .i64 0)), (0, .c vl)], [(2, some (.blk 2 27 (.c #[.slice none 0 0, .slice none 0 0])))]⟩)
    (fun j => j ≤ jf) (fun j => l.length - j) 0 (by omega) (by exact ent_kp) ?_
  intro j hj K next
  have h : j < l.length := by omega
  obtain ⟨t, htj⟩ : ∃ t, l[j]? = some t := ⟨_, List.getElem?_eq_getElem h⟩
  have hr := hrow j t htj
  have hlt : j * 19 + 19 ≤ XS.length := by rw [hlen]; omega
  have htok := hok t (List.mem_of_getElem? htj)
  have c1 := fun v w h => cB t v w h
  have ht9 : ((triC t).toArray.toList.drop 0).take (ptsC [t.p0, t.p1, t.p2]).length = ptsC [t.p0, t.p1, t.p2] := by
    rw [triC]
    rfl
  have hts : (triC t).toArray.size = 19 := by rw [List.size_toArray]; exact triC_length t htok
  have hto : (triC t).toArray.all (·.oneCell') = true := by
    rw [List.all_toArray, List.all_eq_true]
    intro u hu
    rw [triC] at hu
    rcases List.mem_append.1 hu with hu | hu
    · simp [P9] at hu
      rcases hu with rfl | rfl | rfl | rfl | rfl | rfl | rfl | rfl | rfl <;> rfl
    · rcases List.mem_append.1 hu with hu | hu
      · exact htok.2 u hu
      · rw [List.mem_singleton] at hu
        rw [hu]
        rfl
  have hcase : farT t = true ∨ (farT t = false ∧ j < jf) := by
    cases hf : farT t with
    | true => exact .inl rfl
    | false =>
      right
      refine ⟨rfl, ?_⟩
      rcases Nat.lt_or_ge j jf with hlt2 | hge
      · exact hlt2
      · obtain rfl : j = jf := by omega
        rw [List.getElem?_eq_getElem h] at htj
        rw [Option.some.inj htj, hf] at hff
        cases hff
  rcases hcase with hf | ⟨hf, hlt2⟩
  · unfold farT tbox cornersT at hf
    rw [Bool.or_eq_true, decide_eq_true_eq, decide_eq_true_eq] at hf
    generalize boxP [t.p0, t.p1, t.p2] = F at *
    obtain ⟨⟨a, b, c⟩, ⟨a', b', c'⟩⟩ := F
    simp only [P3.c] at hf c1
    clear next hrow cB hXS
    generalize triC t = TC at *
    by_cases hf1 : min3 a b c < -1048576
    · repeat (first | (show Walk1 _ _ _ (_ :: _) _ _; first | (show Walk1 _ _ _ (⟨_, _, _, _, _, some _⟩ :: _) _ _; refine zn1 ?_) | (show HW1 (.move _); refine wz1 ?_) | (show HW1 (.assign _); refine wz13 ?_) | (show HW1 (.binOp .lss _ _ _ _); first | refine wz5 ?_ | refine wz12 ?_) | (show HW1 (.pick _ _ _); refine wz8 ?_) | (show HW1 (.indexAddr _ _ _); refine wz26 ?_) | (show HW1 (.load _ _); first | refine wz3 ?_ | refine wz51 ?_) | (show HW1 (.store _ _ _); first | refine wz23 ?_ | refine wz14 ?_) | (show HW1 (.alloc _); refine wz6 ?_) | (show HW1 (.fieldAddr _ _ _); refine wz4 ?_) | (show HW1 (.extract _ _); first | refine wz16 ?_ | refine wz15 ?_) | (show HW1 (.build _ _); refine wz32 ?_) | (show HW1 (.call ⟨.builtin .min, _, _⟩); refine wz73 ?_) | (show HW1 (.slice _ _ _ _ _); refine wz63 ?_) | (show HW1 (.call ⟨.value (.func 13), _, _⟩); (refine cwalk1M 13 ?_; refine ⟨_, _, callM_1 (rdn_part (n := 5) _ rfl ht9 rfl) (fun e w h1 => c1 _ w h1), ?_⟩))) | refine go1 ?_ | refine end_block_other rfl ?_ | refine end_scope (fun _ h => by cases h) ?_ | (refine walk_endD ?_ ?_; (· kernel_rfl)) | refine tri_yesA rfl ?_ | refine tri_noA rfl ?_ | refine tri_trueA rfl ?_ | refine tri_falseA rfl ?_)
      refine end_ret (.c (.tuple #[.agg #[.slice none 0 0, .slice none 0 0], .int .i64 8])) (res_cellT rfl rfl rfl rfl rfl rfl rfl rfl) ?_
      exact fin_below fun _ => rfl
    · have hf2 := hf.resolve_left hf1
      repeat (first | (show Walk1 _ _ _ (_ :: _) _ _; first | (show Walk1 _ _ _ (⟨_, _, _, _, _, some _⟩ :: _) _ _; refine zy1 ?_) | (show HW1 (.move _); refine wz1 ?_) | (show HW1 (.assign _); refine wz13 ?_) | (show HW1 (.binOp .lss _ _ _ _); first | refine wz5 ?_ | refine wz12 ?_) | (show HW1 (.binOp .gtr _ _ _ _); refine wz21 ?_) | (show HW1 (.pick _ _ _); refine wz7 ?_) | (show HW1 (.indexAddr _ _ _); refine wz26 ?_) | (show HW1 (.load _ _); first | refine wz3 ?_ | refine wz51 ?_) | (show HW1 (.store _ _ _); first | refine wz23 ?_ | refine wz14 ?_) | (show HW1 (.alloc _); refine wz6 ?_) | (show HW1 (.fieldAddr _ _ _); refine wz4 ?_) | (show HW1 (.extract _ _); first | refine wz16 ?_ | refine wz15 ?_) | (show HW1 (.build _ _); refine wz32 ?_) | (show HW1 (.call ⟨.builtin .min, _, _⟩); refine wz73 ?_) | (show HW1 (.call ⟨.builtin .max, _, _⟩); refine wz74 ?_) | (show HW1 (.slice _ _ _ _ _); refine wz63 ?_) | (show HW1 (.call ⟨.value (.func 13), _, _⟩); (refine cwalk1M 13 ?_; refine ⟨_, _, callM_1 (rdn_part (n := 5) _ rfl ht9 rfl) (fun e w h1 => c1 _ w h1), ?_⟩))) | refine go1 ?_ | refine end_block_other rfl ?_ | refine end_scope (fun _ h => by cases h) ?_ | (refine walk_endD ?_ ?_; (· kernel_rfl)) | refine tri_yesA rfl ?_ | refine tri_noA rfl ?_ | refine tri_trueA rfl ?_ | refine tri_falseA rfl ?_)
      refine end_ret (.c (.tuple #[.agg #[.slice none 0 0, .slice none 0 0], .int .i64 8])) (res_cellT rfl rfl rfl rfl rfl rfl rfl rfl) ?_
      exact fin_below fun _ => rfl
  · unfold farT tbox cornersT at hf
    rw [Bool.or_eq_false_iff, decide_eq_false_iff_not, decide_eq_false_iff_not] at hf
    obtain ⟨hf1, hf2⟩ := hf
    generalize boxP [t.p0, t.p1, t.p2] = F at *
    obtain ⟨⟨a, b, c⟩, ⟨a', b', c'⟩⟩ := F
    simp only [P3.c] at hf1 hf2 c1
    have nx := fun S' => next S' (j + 1)
    clear next hrow cB hXS
    generalize triC t = TC at *
    repeat (first | (show Walk1 _ _ _ (_ :: _) _ _; first | (show Walk1 _ _ _ (⟨_, _, _, _, _, some _⟩ :: _) _ _; refine zy1 ?_) | (show HW1 (.move _); refine wz1 ?_) | (show HW1 (.binOp .add _ _ _ _); refine wz10 ?_) | (show HW1 (.binOp .lss _ _ _ _); first | refine wz5 ?_ | refine wz12 ?_) | (show HW1 (.binOp .gtr _ _ _ _); refine wz21 ?_) | (show HW1 (.pick _ _ _); refine wz7 ?_) | (show HW1 (.indexAddr _ _ _); refine wz26 ?_) | (show HW1 (.load _ _); first | refine wz3 ?_ | refine wz51 ?_) | (show HW1 (.store _ _ _); first | refine wz23 ?_ | refine wz14 ?_) | (show HW1 (.alloc _); refine wz6 ?_) | (show HW1 (.fieldAddr _ _ _); refine wz4 ?_) | (show HW1 (.extract _ _); first | refine wz16 ?_ | refine wz15 ?_) | (show HW1 (.call ⟨.builtin .min, _, _⟩); refine wz73 ?_) | (show HW1 (.call ⟨.builtin .max, _, _⟩); refine wz74 ?_) | (show HW1 (.slice _ _ _ _ _); refine wz63 ?_) | (show HW1 (.call ⟨.value (.func 13), _, _⟩); (refine cwalk1M 13 ?_; refine ⟨_, _, callM_1 (rdn_part (n := 5) _ rfl ht9 rfl) (fun e w h1 => c1 _ w h1), ?_⟩))) | refine go1 ?_ | refine end_block_other rfl ?_ | refine end_scope (fun _ h => by cases h) ?_ | (refine walk_endD ?_ ?_; (· kernel_rfl)) | refine tri_yesA rfl ?_ | refine tri_noA rfl ?_ | refine tri_trueA rfl ?_ | refine tri_falseA rfl ?_)
    exact nx _ (by omega) (by omega) (by exact ent_kp)
end Go.Proofs.Ytcgmapioelfneaa
namespace Go.Proofs.Ytcgmapioelfneaa
open Go.RowKit
set_option maxRecDepth 100000
set_option maxHeartbeats 1000000
/-! ### a place in a box lies on the ray behind where the box begins -/
theorem rat_tr {a b c : Int × Int} (hb : 0 < b.2) (ha : 0 ≤ a.2) (hc : 0 ≤ c.2) (h1 : a.1 * b.2 ≤ b.1 * a.2) (h2 : b.1 * c.2 ≤ c.1 * b.2) : a.1 * c.2 ≤ c.1 * a.2 := by
  have e1 := Int.mul_le_mul_of_nonneg_right h1 hc
  have e2 := Int.mul_le_mul_of_nonneg_right h2 ha
  have e3 : (a.1 * c.2) * b.2 ≤ (c.1 * a.2) * b.2 := by
    have q1 : (a.1 * c.2) * b.2 = a.1 * b.2 * c.2 := by grind
    have q2 : (c.1 * a.2) * b.2 = c.1 * b.2 * a.2 := by grind
    have q3 : b.1 * a.2 * c.2 = b.1 * c.2 * a.2 := by grind
    omega
  exact Int.le_of_mul_le_mul_right e3 hb
/-! ### the best one -/
def LEm (a b : M4) : Prop := a.num * b.det ≤ b.num * a.det
theorem LEm.tr {a b c : M4} (ha : 0 < a.det) (hb : 0 < b.det) (hc : 0 < c.det) (h1 : LEm a b) (h2 : LEm b c) : LEm a c :=
  rat_tr (a := (a.num, a.det)) (b := (b.num, b.det)) (c := (c.num, c.det)) hb (Int.le_of_lt ha) (Int.le_of_lt hc) h1 h2
/-- The best of some triangles: the first one of those that are nearest. -/
def Best (h : Nat → M4 × Bool) (A : Nat → Prop) (i : Int) (m : M4) : Prop :=
  (i = -1 ∧ m = zM ∧ ∀ k, A k → (h k).2 = false) ∨
  (∃ k0 : Nat, i = (k0 : Int) ∧ A k0 ∧ (h k0).2 = true ∧ m = (h k0).1 ∧ ∀ k, A k → (h k).2 = true → LEm m (h k).1 ∧ (LEm (h k).1 m → k0 ≤ k))
theorem Best.uniq {h : Nat → M4 × Bool} {A : Nat → Prop} {i i' : Int} {m m' : M4} (h1 : Best h A i m) (h2 : Best h A i' m') : i = i' ∧ m = m' := by
  rcases h1 with ⟨a1, a2, a3⟩ | ⟨k, a1, a2, a3, a4, a5⟩ <;> rcases h2 with ⟨b1, b2, b3⟩ | ⟨k', b1, b2, b3, b4, b5⟩
  · exact ⟨a1.trans b1.symm, a2.trans b2.symm⟩
  · rw [a3 _ b2] at b3; cases b3
  · rw [b3 _ a2] at a3; cases a3
  · obtain ⟨c1, c2⟩ := a5 k' b2 b3
    obtain ⟨d1, d2⟩ := b5 k a2 a3
    rw [← b4] at c1 c2
    rw [← a4] at d1 d2
    have e1 := c2 d1
    have e2 := d2 c1
    obtain rfl : k = k' := by omega
    exact ⟨a1.trans b1.symm, a4.trans b4.symm⟩
theorem Best.congr {h : Nat → M4 × Bool} {A B : Nat → Prop} {i : Int} {m : M4} (hAB : ∀ k, A k ↔ B k) (h1 : Best h A i m) : Best h B i m := by
  have : A = B := funext fun k => propext (hAB k)
  rwa [← this]
theorem Best.none {h : Nat → M4 × Bool} {A : Nat → Prop} (hA : ∀ k, A k → (h k).2 = false) : Best h A (-1) zM := .inl ⟨rfl, rfl, hA⟩
end Go.Proofs.Ytcgmapioelfneaa
