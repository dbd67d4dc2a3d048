/- A walk: what it looks at: walked. No condition. What a walk's question needs besides: ratios none below 0 held against each other; a call beside an object; two numbers in a slice. No condition. What a walk's questions reckon: trees, and what is looked at: plain. No condition. The tree that is made of some triangles: plain. No condition. What a walk's Any reckons: plain. No condition. -/
import Derived.Test.YtcookaiakfbdiaaMgWkA
import Derived.Test.YtcookaiakfbdiaaMgWlk3
import Derived.Test.YtcookaiakfbdiaaMgRecW0
import Derived.Test.YtcookaiakfbdiaaMgSwp6
import Derived.Test.YtcookaiakfbdiaaMgBld10
namespace Go.Proofs.Ytcookaiakfbdiaa
open Go.RowKit
set_option maxRecDepth 100000
set_option maxHeartbeats 2000000
/-- What a walk sees of a triangle. -/
def meetW (o d : P3) (mask : BitVec 8) (skip : Int) (k : Nat) (t : TriS) : M4 × Bool := if (t.mask &&& mask != BitVec.ofInt 8 0) && decide ((k : Int) ≠ skip) then hitM o d t.p0 t.p1 t.p2 else (zM, false)
attribute [local irreducible] Calls Walk1 WalkTo Tri EndA
theorem wkNone_any (v1 v2 v3 : Value) (n : Nat) (w : World) (b : Nat) (hB : Blk w b (wkC v1 v2 v3 n) 59) : Calls Try.prog 36 #[.pointer (some ⟨b, 0, none⟩)] w (RetP w b 59 (wkC v1 v2 v3 n) (.bool false)) := by
  refine calls_triP (b := b) (59) (SA.l [SV.c v1, SV.c v2, SV.c (.bool true), SV.c v3, SV.c (.int .i64 (n : Int))]) Try.func36 rfl Try.ntmps36 rfl rfl (hB) (fun _ => rfl) ?_
  repeat (first | (show Walk1 _ _ _ (_ :: _) _ _; first | (show Walk1 _ _ _ (⟨_, _, _, _, _, some _⟩ :: _) _ _; refine zy1 ?_) | (show HW1 (.move _); refine wz1 ?_) | (show HW1 (.assign _); refine wz2 ?_) | (show HW1 (.binOp .eql _ _ _ _); refine wz76 ?_) | (show HW1 (.pick _ _ _); refine wz7 ?_) | (show HW1 (.unOp _ _ _); refine wz19 ?_) | (show HW1 (.load _ _); refine wz3 ?_) | (show HW1 (.nilCheck _); refine wz29 ?_) | (show HW1 (.fieldAddr _ _ _); refine wz4 ?_)) | refine go1 ?_ | refine end_block_other rfl ?_ | refine end_scope (fun _ h => by cases h) ?_ | (refine walk_endD ?_ ?_; (· kernel_rfl)) | refine tri_yesA rfl ?_ | refine tri_noA rfl ?_ | refine tri_trueA rfl ?_ | refine tri_falseA rfl ?_)
  refine end_ret (.c (.bool false)) (res_tmp rfl rfl) ?_
  exact fin_obj rfl rfl (fun _ => rfl) (fun _ => rfl)
theorem wkMeets_any (v1 v2 v3 : Value) (n : Nat) (l : List TriS) (hok : ∀ t ∈ l, t.ok) (o d : P3) (mask : BitVec 8) (skip : Int) (k : Nat) (t : TriS) (ht : l[k]? = some t) (w : World) (b : Nat) (hB : Blk w b (wkC v1 v2 v3 n) 59) (hl : RdX w [b] 19 v3 l.length (trisC l)) :
    Calls Try.prog 38 #[.pointer (some ⟨b, 0, none⟩), .agg o.c, .agg d.c, .int .u8 (bvi mask), .int .i64 skip, .int .i64 (k : Int)] w (RetP w b 59 (wkC v1 v2 v3 n) (.tuple #[.agg (meetW o d mask skip k t).1.c, .bool (meetW o d mask skip k t).2])) := by
  have cH := fun w => hitT_any o d t.p0 t.p1 t.p2 w
  have hP := tris_P l hok k t ht
  have hM := tris_mask l hok k t ht
  have hll := tris_len l hok
  have hkl : k < l.length := (List.getElem?_eq_some_iff.1 ht).1
  have hl0 := hl.rd
  unfold meetW
  have hms : ∀ m : M4, m.c.size = 4 := fun _ => rfl
  have hmo : ∀ m : M4, m.c.all (·.oneCell') = true := fun m => by simp [M4.c]; exact ⟨rfl, rfl, rfl, rfl⟩
  have hzc : zM.c = #[.int .i64 0, .int .i64 0, .int .i64 0, .int .i64 0] := rfl
  generalize hitM o d t.p0 t.p1 t.p2 = hm at *
  obtain ⟨m, hb⟩ := hm
  simp only at cH ⊢
  have hms1 := hms m
  have hmo1 := hmo m
  clear hms hmo ht
  generalize hMC : m.c = MC at *
  rw [show (P9 t.p0 t.p1 t.p2) = (P9 t.p0 t.p1 t.p2).toList.toArray from rfl] at cH
  have hos : o.c.size = 3 := rfl
  have hds : d.c.size = 3 := rfl
  generalize (P9 t.p0 t.p1 t.p2).toList = PL at *
  generalize o.c = OC at *
  generalize d.c = DC at *
  generalize t.mask = TM at *
  generalize trisC l = XS at *
  rw [show k * 19 = 0 + k * 19 + 0 by omega] at hP
  rw [show k * 19 = 0 + k * 19 by omega] at hM
  generalize hq : (TM &&& mask != BitVec.ofInt 8 0) = Q at *
  have hq2 : (TM &&& mask == BitVec.ofInt 8 0) = !Q := by rw [← hq]; simp [bne]
  cases Q
  · rw [Bool.false_and, if_neg (by decide)]
    simp only [hzc]
    refine calls_triP (b := b) (59) (SA.l [SV.c v1, SV.c v2, SV.c (.bool true), SV.c v3, SV.c (.int .i64 (n : Int))]) Try.func38 rfl Try.ntmps38 rfl rfl (hB) (fun _ => rfl) ?_
    rw [Bool.not_false] at hq2
    repeat (first | (show Walk1 _ _ _ (_ :: _) _ _; first | (show Walk1 _ _ _ (⟨_, _, _, _, _, some _⟩ :: _) _ _; refine zn1 ?_) | (show HW1 (.move _); refine wz1 ?_) | (show HW1 (.assign _); refine wz2 ?_) | (show HW1 (.binOp .eql _ _ _ _); refine wz34 ?_) | (show HW1 (.binOp .and _ _ _ _); refine wz41 ?_) | (show HW1 (.pick _ _ _); refine wz8 ?_) | (show HW1 (.indexAddr _ _ _); refine wz26 ?_) | (show HW1 (.load _ _); first | refine wz3 ?_ | refine wz79 ?_) | (show HW1 (.store _ _ _); refine wz14 ?_) | (show HW1 (.alloc _); refine wz6 ?_) | (show HW1 (.nilCheck _); refine wz29 ?_) | (show HW1 (.box _ _); refine wz11 ?_) | (show HW1 (.fieldAddr _ _ _); first | refine wz4 ?_ | refine wz38 ?_) | (show HW1 (.build _ _); refine wz32 ?_)) | refine go1 ?_ | refine end_block_other rfl ?_ | refine end_scope (fun _ h => by cases h) ?_ | (refine walk_endD ?_ ?_; (· kernel_rfl)) | refine tri_yesA rfl ?_ | refine tri_noA rfl ?_ | refine tri_trueA rfl ?_ | refine tri_falseA rfl ?_)
    refine end_ret (.c (.tuple #[.agg #[.int .i64 0, .int .i64 0, .int .i64 0, .int .i64 0], .bool false])) (res_cellT rfl rfl rfl rfl rfl rfl rfl rfl) ?_
    exact fin_obj rfl rfl (fun _ => rfl) (fun _ => rfl)
  · rw [Bool.true_and]
    by_cases hs : (k : Int) = skip
    · rw [decide_eq_false (by simp [hs]), if_neg (by decide)]
      simp only [hzc]
      refine calls_triP (b := b) (59) (SA.l [SV.c v1, SV.c v2, SV.c (.bool true), SV.c v3, SV.c (.int .i64 (n : Int))]) Try.func38 rfl Try.ntmps38 rfl rfl (hB) (fun _ => rfl) ?_
      rw [Bool.not_true] at hq2
      repeat (first | (show Walk1 _ _ _ (_ :: _) _ _; first | (show Walk1 _ _ _ (⟨_, _, _, _, _, some _⟩ :: _) _ _; refine zy1 ?_) | (show HW1 (.move _); refine wz1 ?_) | (show HW1 (.assign _); refine wz2 ?_) | (show HW1 (.binOp .eql _ _ _ _); first | refine wz34 ?_ | refine wz18 ?_) | (show HW1 (.binOp .and _ _ _ _); refine wz41 ?_) | (show HW1 (.pick _ _ _); refine wz7 ?_) | (show HW1 (.indexAddr _ _ _); refine wz26 ?_) | (show HW1 (.load _ _); first | refine wz3 ?_ | refine wz79 ?_) | (show HW1 (.store _ _ _); refine wz14 ?_) | (show HW1 (.alloc _); refine wz6 ?_) | (show HW1 (.nilCheck _); refine wz29 ?_) | (show HW1 (.box _ _); refine wz11 ?_) | (show HW1 (.fieldAddr _ _ _); first | refine wz4 ?_ | refine wz38 ?_) | (show HW1 (.build _ _); refine wz32 ?_)) | refine go1 ?_ | refine end_block_other rfl ?_ | refine end_scope (fun _ h => by cases h) ?_ | (refine walk_endD ?_ ?_; (· kernel_rfl)) | refine tri_yesA rfl ?_ | refine tri_noA rfl ?_ | refine tri_trueA rfl ?_ | refine tri_falseA rfl ?_)
      refine end_ret (.c (.tuple #[.agg #[.int .i64 0, .int .i64 0, .int .i64 0, .int .i64 0], .bool false])) (res_cellT rfl rfl rfl rfl rfl rfl rfl rfl) ?_
      exact fin_obj rfl rfl (fun _ => rfl) (fun _ => rfl)
    · rw [decide_eq_true hs, if_pos rfl]
      dsimp only
      rw [hMC]
      refine calls_triP (b := b) (59) (SA.l [SV.c v1, SV.c v2, SV.c (.bool true), SV.c v3, SV.c (.int .i64 (n : Int))]) Try.func38 rfl Try.ntmps38 rfl rfl (hB) (fun _ => rfl) ?_
      rw [Bool.not_true] at hq2
      repeat (first | (show Walk1 _ _ _ (_ :: _) _ _; first | (show Walk1 _ _ _ (⟨_, _, _, _, _, some _⟩ :: _) _ _; refine zy1 ?_) | (show HW1 (.move _); refine wz1 ?_) | (show HW1 (.assign _); refine wz2 ?_) | (show HW1 (.binOp .eql _ _ _ _); first | refine wz34 ?_ | refine wz18 ?_) | (show HW1 (.binOp .and _ _ _ _); refine wz41 ?_) | (show HW1 (.pick _ _ _); refine wz7 ?_) | (show HW1 (.indexAddr _ _ _); refine wz26 ?_) | (show HW1 (.load _ _); first | refine wz3 ?_ | refine wz79 ?_) | (show HW1 (.alloc _); refine wz6 ?_) | (show HW1 (.nilCheck _); refine wz29 ?_) | (show HW1 (.box _ _); refine wz11 ?_) | (show HW1 (.fieldAddr _ _ _); first | refine wz4 ?_ | refine wz38 ?_)) | (show WalkTo _ _ _ _ (_ :: _) _ _ _; first | (show HW2 (.move _); refine wz20 ?_) | (show HW2 (.assign _); refine wz17 ?_) | (show HW2 (.indexAddr _ _ _); refine wz45 ?_) | (show HW2 (.load _ _); first | refine wz24 ?_ | refine wz22 ?_ | refine wz109 ?_) | (show HW2 (.store _ _ _); refine wz36 ?_) | (show HW2 (.nilCheck _); refine wz78 ?_) | (show HW2 (.fieldAddr _ _ _); first | refine wz49 ?_ | refine wz62 ?_) | (show HW2 (.extract _ _); first | refine wz60 ?_ | refine wz59 ?_) | (show HW2 (.call ⟨.value (.func 13), _, _⟩); ((first | refine cwalk1 13 ?_ | refine cwalk0 13 ?_); refine ⟨_, fun e w => cH w, ?_⟩))) | refine go1 ?_ | refine end_block_other rfl ?_ | refine end_scope (fun _ h => by cases h) ?_ | (refine walk_endD ?_ ?_; (· kernel_rfl)) | refine tri_yesA rfl ?_ | refine tri_noA rfl ?_ | refine tri_trueA rfl ?_ | refine tri_falseA rfl ?_)
      refine end_ret (.c (.tuple #[.agg MC, .bool hb])) (res_cellT rfl rfl rfl rfl rfl rfl rfl hms1) ?_
      exact fin_obj rfl rfl (fun _ => rfl) (fun _ => rfl)
end Go.Proofs.Ytcookaiakfbdiaa
namespace Go.Proofs.Ytcookaiakfbdiaa
open Go.RowKit
set_option maxRecDepth 100000
set_option maxHeartbeats 2000000
theorem FSX.cutZ {w : World} {m : List Nat} {sz : Nat} {v : Value} {n : Nat} {xs : List Value} (h : FSX w m sz v n xs) {lo len : Nat} (hl : lo + len ≤ n) : FSX w m sz (Go.Proofs.Ytcookaiakfbdiaa.cutZ sz v lo len) len ((xs.drop (lo * sz)).take (len * sz)) := fun w' hw => (h w' hw).cutZ hl
section
variable {C : Ctx} {ops : Array Oper} {S : St} {o : Oper}
theorem op_callPX {f : FuncId} {xs : Array Operand} {ats : Array TypeId} {vs : List SV} {j b : Nat} {T : TypeId} {A A' : SA} {cells0 cells : Array Value} {v : Value} {args : Array Value} (ho : o.op = .call { callee := .value (.func f), args := xs, argTypes := ats }) (hg : o.guard = none) (hd : dstB o.dst C.nt = true) (hxs : EvS S xs.toList vs) (hc' : tabLook calT f = some j) (hr : S.res 1000 = some (.blk 1000 T A)) (hi : S.res 1001 = some (.is 1000 b))
    (hA : ∀ e, A.den e = cells0) (hA' : ∀ e, A'.den e = cells) (hargs : ∀ e : Env, (e 1000).b = b → (vs.map (·.den e)).toArray = args) (hcon : ∀ w, BelowX C.w0 w C.m → Blk w b cells0 T → Calls Try.prog j args w (RetP w b T cells v)) :
    OpG C Try.prog ops o S ⟨xs.toList.flatMap opT, [1000, 1001], dw o.dst (.c v), [(1000, some (.blk 1000 T A'))], []⟩ := by
  refine opG_mk hg fun S' h1 h2 h3 e a w hS => ?_
  unfold Oper.wp
  have hr' := (h2 1000 (by simp)).trans hr
  have hbb : (e 1000).b = b := hS.res 1001 _ ((h2 1001 (by simp)).trans hi)
  obtain ⟨fr, hb, hfr⟩ := res_blk hS hr'
  rw [hfr rfl, hbb, hA e] at hb
  rw [call_hop ho hxs hc' h1 hS, hargs e hbb]
  refine Calls.mono (hcon w hS.frame.belowX hb) ?_
  rintro r w' ⟨rfl, hb2, hx⟩
  have hH := hS.writeX (A' := A') hr' (by rw [hbb]; exact hx) (by rw [hbb, hA' e]; exact hb2)
  exact ⟨e, hH.put hd (.c v)⟩
end
attribute [local irreducible] Calls Walk1 WalkTo Tri EndA
theorem less22P_any (a b : Int × Int) (h1 : 0 ≤ a.1 ∧ a.1 < 9223372036854775808) (h2 : 0 ≤ a.2 ∧ a.2 < 9223372036854775808) (h3 : 0 ≤ b.1 ∧ b.1 < 9223372036854775808) (h4 : 0 ≤ b.2 ∧ b.2 < 9223372036854775808) (w : World) : Calls Try.prog 37 #[.agg (ratC a), .agg (ratC b)] w fun e w' => e = .returned (.bool (decide (rlt a b))) ∧ Below w.heap.size w w' := by
  obtain ⟨n, det⟩ := a
  obtain ⟨n', det'⟩ := b
  unfold ratC
  dsimp only at *
  obtain ⟨p, rfl⟩ := Int.eq_ofNat_of_zero_le h1.1
  obtain ⟨q, rfl⟩ := Int.eq_ofNat_of_zero_le h2.1
  obtain ⟨p', rfl⟩ := Int.eq_ofNat_of_zero_le h3.1
  obtain ⟨q', rfl⟩ := Int.eq_ofNat_of_zero_le h4.1
  have c1 := fun w => mulW_any p q' (by omega) (by omega) w
  have c2 := fun w => mulW_any p' q (by omega) (by omega) w
  have e1 := prod_nat (p := p) (q := q') (by omega) (by omega)
  have e2 := prod_nat (p := p') (q := q) (by omega) (by omega)
  generalize BitVec.ofNat 64 p * BitVec.ofNat 64 q' = L1 at *
  generalize BitVec.ofNat 64 p' * BitVec.ofNat 64 q = L2 at *
  generalize (mulHi (BitVec.ofNat 64 p) (BitVec.ofNat 64 q')).toNat = H1 at *
  generalize (mulHi (BitVec.ofNat 64 p') (BitVec.ofNat 64 q)).toNat = H2 at *
  have c3 := fun w => cmpW_any H1 L1 H2 L2 w
  have hr : decide (rlt ((p : Int), (q : Int)) ((p' : Int), (q' : Int))) = decide (cmpZ H1 L1 H2 L2 < 0) := by
    rw [cmpZ_lt e1 e2]
    refine decide_eq_decide.2 ?_
    unfold rlt
    dsimp only
    rw [← Int.natCast_mul, ← Int.natCast_mul, Int.ofNat_lt]
  rw [hr]
  clear e1 e2 hr
  generalize cmpZ H1 L1 H2 L2 = Z at *
  generalize wideC H1 L1 = W1 at *
  generalize wideC H2 L2 = W2 at *
  refine calls_tri Try.func37 rfl Try.ntmps37 rfl ?_
  repeat (first | (show Walk1 _ _ _ (_ :: _) _ _; first | (show HW1 (.assign _); refine wz2 ?_) | (show HW1 (.box _ _); refine wz11 ?_)) | (show WalkTo _ _ _ _ (_ :: _) _ _ _; first | (show HW2 (.assign _); refine wz17 ?_) | (show HW2 (.binOp .lss _ _ _ _); refine wz56 ?_) | (show HW2 (.load _ _); refine wz24 ?_) | (show HW2 (.fieldAddr _ _ _); refine wz49 ?_) | (show HW2 (.call ⟨.value (.func 40), _, _⟩); ((first | refine cwalk1 40 ?_ | refine cwalk0 40 ?_); refine ⟨_, fun e w => c1 w, ?_⟩)) | (show HW2 (.call ⟨.value (.func 40), _, _⟩); ((first | refine cwalk1 40 ?_ | refine cwalk0 40 ?_); refine ⟨_, fun e w => c2 w, ?_⟩)) | (show HW2 (.call ⟨.value (.func 39), _, _⟩); ((first | refine cwalk1 39 ?_ | refine cwalk0 39 ?_); refine ⟨_, fun e w => c3 w, ?_⟩))) | refine go1 ?_ | refine end_block_other rfl ?_ | refine end_scope (fun _ h => by cases h) ?_ | (refine walk_endD ?_ ?_; (· kernel_rfl)) | refine tri_yesA rfl ?_ | refine tri_noA rfl ?_ | refine tri_trueA rfl ?_ | refine tri_falseA rfl ?_)
  refine end_ret (.c (.bool (decide (Z < 0)))) (res_tmp rfl rfl) ?_
  exact fin_below fun _ => rfl
end Go.Proofs.Ytcookaiakfbdiaa
namespace Go.Proofs.Ytcookaiakfbdiaa
open Go.RowKit
set_option maxRecDepth 100000
set_option maxHeartbeats 1000000
/-- A tree, with the places of its nodes. -/
inductive Tr where
  | leaf (i f c : Nat) (lo hi : P3)
  | node (i : Nat) (lo hi : P3) (L R : Tr)
def Tr.ix : Tr → Nat
  | .leaf i _ _ _ _ => i
  | .node i _ _ _ _ => i
/-- The tree is what the nodes and the order say. -/
def Tr.In (N : List NodeS) (K : List Nat) : Tr → Prop
  | .leaf i f c lo hi => N[i]? = some ⟨lo, hi, -1, -1, (f : Int), (c : Int)⟩ ∧ f + c ≤ K.length
  | .node i lo hi L R => N[i]? = some ⟨lo, hi, (L.ix : Int), (R.ix : Int), 0, 0⟩ ∧ L.In N K ∧ R.In N K
def Tr.cost : Tr → Nat
  | .leaf _ _ c _ _ => 1 + c
  | .node _ _ _ L R => 1 + (L.cost + R.cost)
theorem Tr.cost_pos (t : Tr) : 1 ≤ t.cost := by cases t <;> unfold Tr.cost <;> omega
def costs (S : List Tr) : Nat := (S.map Tr.cost).sum
theorem costs_app (S S' : List Tr) : costs (S ++ S') = costs S + costs S' := by simp [costs]
theorem costs_len : ∀ S : List Tr, S.length ≤ costs S
  | [] => Nat.zero_le _
  | t :: S => by
    have := costs_len S
    have h := t.cost_pos
    have e : costs (t :: S) = t.cost + costs S := by simp [costs]
    rw [e, List.length_cons]
    omega
/-- What a walk has: its steps, and the best so far. -/
structure WSt where
  n : Nat
  i : Int
  m : M4
def WSt.up (s : WSt) : WSt := ⟨s.n + 1, s.i, s.m⟩
def lookW (l : List TriS) (o d : P3) (mask : BitVec 8) (skip : Int) (s : WSt) (k : Nat) : WSt := match l[k]? with
  | some t => if ((meetW o d mask skip k t).2 && (decide (s.i < 0) || (lessM (meetW o d mask skip k t).1 s.m || (decide ((k : Int) < s.i) && !lessM s.m (meetW o d mask skip k t).1)))) = true then ⟨s.n + 1, (k : Int), (meetW o d mask skip k t).1⟩ else ⟨s.n + 1, s.i, s.m⟩
  | none => ⟨s.n + 1, s.i, s.m⟩
def outW (o d lo hi : P3) (s : WSt) : Bool := !(spanP lo hi o d).2 || (decide (0 ≤ s.i) && decide (rlt (s.m.num, s.m.det) (spanP lo hi o d).1))
def Tr.vis (l : List TriS) (K : List Nat) (o d : P3) (mask : BitVec 8) (skip : Int) : Tr → WSt → WSt
  | .leaf _ f c lo hi, s => if outW o d lo hi s = true then s.up else ((K.drop f).take c).foldl (lookW l o d mask skip) s.up
  | .node _ lo hi L R, s => if outW o d lo hi s = true then s.up else R.vis l K o d mask skip (L.vis l K o d mask skip s.up)
theorem vis_step {l : List TriS} {K : List Nat} {o d : P3} {mask : BitVec 8} {skip : Int} (S : List Tr) (t : Tr) (s : WSt) : (S ++ [t]).foldr (Tr.vis l K o d mask skip) s = S.foldr (Tr.vis l K o d mask skip) (t.vis l K o d mask skip s) := by
  rw [List.foldr_append, List.foldr_cons, List.foldr_nil]
theorem vis_out {N : List NodeS} {l : List TriS} {K : List Nat} {o d : P3} {mask : BitVec 8} {skip : Int} {t : Tr} {nd : NodeS} {s : WSt} (hI : t.In N K) (hn : N[t.ix]? = some nd) (h : outW o d nd.lo nd.hi s = true) : t.vis l K o d mask skip s = s.up := by
  cases t with
  | leaf i f c lo hi =>
    obtain ⟨h1, _⟩ := hI
    rw [Tr.ix, h1] at hn
    obtain rfl := Option.some.inj hn
    rw [Tr.vis, if_pos h]
  | node i lo hi L R =>
    obtain ⟨h1, _⟩ := hI
    rw [Tr.ix, h1] at hn
    obtain rfl := Option.some.inj hn
    rw [Tr.vis, if_pos h]
/-- What a best one's numbers are. -/
def okW (s : WSt) : Prop := okM s.m ∧ 0 ≤ s.m.det
theorem meetW_ok (o d : P3) (mask : BitVec 8) (skip : Int) (k : Nat) (t : TriS) (h : (meetW o d mask skip k t).2 = true) : HitF o d t.p0 t.p1 t.p2 (meetW o d mask skip k t).1 := by
  unfold meetW at *
  split
  · rename_i hc
    rw [if_pos hc] at h
    refine hit_facts ?_
    generalize hitM o d t.p0 t.p1 t.p2 = x at *
    obtain ⟨a, b⟩ := x
    dsimp only at h
    rw [h]
  · rename_i hc
    rw [if_neg hc] at h
    cases h
theorem meetW_okM (o d : P3) (mask : BitVec 8) (skip : Int) (k : Nat) (t : TriS) : okM (meetW o d mask skip k t).1 := by
  unfold meetW
  split
  · exact okM_hit ..
  · exact okM_zero
theorem okW_up {s : WSt} (h : okW s) : okW s.up := h
theorem okW_look {l : List TriS} {o d : P3} {mask : BitVec 8} {skip : Int} {s : WSt} (k : Nat) (h : okW s) : okW (lookW l o d mask skip s k) := by
  unfold lookW
  split
  · rename_i t _
    split
    · rename_i hc
      have hm := meetW_ok o d mask skip k t (by rw [Bool.and_eq_true] at hc; exact hc.1)
      exact ⟨meetW_okM .., by show 0 ≤ (meetW o d mask skip k t).1.det; have := hm.det; omega⟩
    · exact h
  · exact h
theorem lookW_n {l : List TriS} {o d : P3} {mask : BitVec 8} {skip : Int} {s : WSt} (k : Nat) : (lookW l o d mask skip s k).n = s.n + 1 := by
  unfold lookW
  split
  · split <;> rfl
  · rfl
theorem looks_ok {l : List TriS} {o d : P3} {mask : BitVec 8} {skip : Int} : ∀ (ks : List Nat) (s : WSt), okW s → okW (ks.foldl (lookW l o d mask skip) s) ∧ (ks.foldl (lookW l o d mask skip) s).n = s.n + ks.length
  | [], s, h => ⟨h, rfl⟩
  | k :: ks, s, h => by
    rw [List.foldl_cons, List.length_cons]
    obtain ⟨h1, h2⟩ := looks_ok ks _ (okW_look (l := l) (o := o) (d := d) (mask := mask) (skip := skip) k h)
    refine ⟨h1, ?_⟩
    rw [h2, lookW_n]
    omega
theorem vis_ok {l : List TriS} {K : List Nat} {o d : P3} {mask : BitVec 8} {skip : Int} : ∀ (t : Tr) (s : WSt), okW s → okW (t.vis l K o d mask skip s) ∧ s.n + 1 ≤ (t.vis l K o d mask skip s).n ∧ (t.vis l K o d mask skip s).n ≤ s.n + t.cost
  | .leaf _ f c lo hi, s, h => by
    rw [Tr.vis, Tr.cost]
    split
    · exact ⟨h, by simp [WSt.up], by simp [WSt.up]⟩
    · obtain ⟨h1, h2⟩ := looks_ok (l := l) (o := o) (d := d) (mask := mask) (skip := skip) ((K.drop f).take c) s.up (okW_up h)
      refine ⟨h1, ?_⟩
      have : ((K.drop f).take c).length ≤ c := by simp; omega
      rw [h2]
      simp only [WSt.up]
      omega
  | .node _ lo hi L R, s, h => by
    rw [Tr.vis, Tr.cost]
    split
    · exact ⟨h, by simp [WSt.up], by simp [WSt.up]⟩
    · obtain ⟨a1, a2, a3⟩ := vis_ok (l := l) (K := K) (o := o) (d := d) (mask := mask) (skip := skip) L s.up (okW_up h)
      obtain ⟨b1, b2, b3⟩ := vis_ok (l := l) (K := K) (o := o) (d := d) (mask := mask) (skip := skip) R _ a1
      simp only [WSt.up] at *
      exact ⟨b1, by omega, by omega⟩
def ratS (f : Int × Int) : Prop := (0 ≤ f.1 ∧ f.1 ≤ 1073741824) ∧ (0 < f.2 ∧ f.2 ≤ 1073741824)
theorem rlt_pos {f : Int × Int} {n w : Int} (hf : ratS f) (hw : 0 < w) (h : rlt f (n, w)) : 0 < n := by
  unfold rlt at h
  dsimp only at h
  obtain ⟨⟨h1, _⟩, h2, _⟩ := hf
  have h3 : 0 ≤ f.1 * w := Int.mul_nonneg h1 (by omega)
  by_cases hn : 0 < n
  · exact hn
  · have : n * f.2 ≤ 0 := Int.mul_nonpos_of_nonpos_of_nonneg (by omega) (by omega)
    omega
theorem spanL_rat : ∀ (l : List (Int × Int × Int)) (f t : Int × Int) (b : Bool), ratS f → (∀ x ∈ l, (-1073741824 ≤ x.1 ∧ x.1 ≤ 1073741824) ∧ (-1073741824 ≤ x.2.1 ∧ x.2.1 ≤ 1073741824) ∧ (-1073741824 ≤ x.2.2 ∧ x.2.2 ≤ 1073741824)) → ratS (spanL l f t b).1
  | [], f, t, b, h, _ => h
  | (n, r, w) :: l, f, t, b, h, hl => by
    have hl' := fun x hx => hl x (List.mem_cons_of_mem _ hx)
    have h0 := hl (n, r, w) List.mem_cons_self
    dsimp only at h0
    by_cases h1 : n > r
    · rw [spanL_bad h1]; exact h
    · by_cases h2 : w = 0
      · by_cases h3 : n > 0 ∨ r < 0
        · rw [spanL_out h1 h2 h3]; exact h
        · rw [spanL_in h1 h2 h3]; exact spanL_rat l f t b h hl'
      · by_cases h4 : w < 0
        · rw [spanL_neg h1 h4]
          refine spanL_rat l _ _ _ ?_ hl'
          split
          · rename_i hr
            have := rlt_pos h (by omega) hr
            exact ⟨⟨by dsimp only; omega, by dsimp only; omega⟩, by dsimp only; omega, by dsimp only; omega⟩
          · exact h
        · rw [spanL_pos h1 h2 h4]
          refine spanL_rat l _ _ _ ?_ hl'
          split
          · rename_i hr
            have := rlt_pos h (by omega) hr
            exact ⟨⟨by dsimp only; omega, by dsimp only; omega⟩, by dsimp only; omega, by dsimp only; omega⟩
          · exact h
theorem spanP_rat {lo hi o d : P3} (h1 : smP lo) (h2 : smP hi) (h3 : smP o) (h4 : smP d) : ratS (spanP lo hi o d).1 := by
  unfold spanP
  refine spanL_rat _ _ _ _ ⟨by decide, by decide⟩ ?_
  have a1 := h1 lo.x (by simp [P3.l])
  have a2 := h1 lo.y (by simp [P3.l])
  have a3 := h1 lo.z (by simp [P3.l])
  have b1 := h2 hi.x (by simp [P3.l])
  have b2 := h2 hi.y (by simp [P3.l])
  have b3 := h2 hi.z (by simp [P3.l])
  have c1 := h3 o.x (by simp [P3.l])
  have c2 := h3 o.y (by simp [P3.l])
  have c3 := h3 o.z (by simp [P3.l])
  have d1 := h4 d.x (by simp [P3.l])
  have d2 := h4 d.y (by simp [P3.l])
  have d3 := h4 d.z (by simp [P3.l])
  intro x hx
  simp only [axesP, List.mem_cons, List.not_mem_nil, or_false] at hx
  rcases hx with rfl | rfl | rfl <;> dsimp only <;> omega
theorem mayP_sm {o d : P3} (h : mayP o d = true) : smP o ∧ smP d := by
  unfold mayP at h
  rw [Bool.and_eq_true, Bool.and_eq_true] at h
  have ho := inP_sm h.1
  have hd := inP_sm h.2.1
  unfold smB at ho hd
  constructor
  · intro z hz
    simp only [P3.l, List.mem_cons, List.not_mem_nil, or_false] at hz
    rcases hz with rfl | rfl | rfl <;> omega
  · intro z hz
    simp only [P3.l, List.mem_cons, List.not_mem_nil, or_false] at hz
    rcases hz with rfl | rfl | rfl <;> omega
end Go.Proofs.Ytcookaiakfbdiaa
namespace Go.Proofs.Ytcookaiakfbdiaa
open Go.RowKit
set_option maxRecDepth 100000
set_option maxHeartbeats 1000000
/-- The box of some triangles, whatever their order. -/
def BBx (l : List TriS) (ks : List Nat) (B : P3 × P3) : Prop := (∀ k ∈ ks, ∀ a, axP B.1 a ≤ axP (tbox (l.getD k zT)).1 a ∧ axP (tbox (l.getD k zT)).2 a ≤ axP B.2 a) ∧ (∀ a, (∃ k ∈ ks, axP (tbox (l.getD k zT)).1 a = axP B.1 a) ∧ ∃ k ∈ ks, axP (tbox (l.getD k zT)).2 a = axP B.2 a)
theorem BBx.same {l : List TriS} {ks ks' : List Nat} {B : P3 × P3} (h : BBx l ks B) (hp : ∀ k, k ∈ ks ↔ k ∈ ks') : BBx l ks' B := by
  refine ⟨fun k hk => h.1 k ((hp k).2 hk), fun a => ?_⟩
  obtain ⟨⟨k1, h1, e1⟩, k2, h2, e2⟩ := h.2 a
  exact ⟨⟨k1, (hp k1).1 h1, e1⟩, k2, (hp k2).1 h2, e2⟩
theorem p3_ax {p q : P3} (h : ∀ a, axP p a = axP q a) : p = q := by
  have h0 := h 0
  have h1 := h 1
  have h2 := h 2
  simp only [axP, if_true, if_false, show ¬ (1 : Nat) = 0 by decide, show ¬ (2 : Nat) = 0 by decide, show ¬ (2 : Nat) = 1 by decide] at h0 h1 h2
  cases p; cases q
  simp_all
theorem BBx.uniq {l : List TriS} {ks : List Nat} {B B' : P3 × P3} (h : BBx l ks B) (h' : BBx l ks B') : B = B' := by
  have h1 : B.1 = B'.1 := p3_ax fun a => by
    obtain ⟨⟨k1, m1, e1⟩, _⟩ := h.2 a
    obtain ⟨⟨k2, m2, e2⟩, _⟩ := h'.2 a
    have := (h.1 k2 m2 a).1
    have := (h'.1 k1 m1 a).1
    omega
  have h2 : B.2 = B'.2 := p3_ax fun a => by
    obtain ⟨_, k1, m1, e1⟩ := h.2 a
    obtain ⟨_, k2, m2, e2⟩ := h'.2 a
    have := (h.1 k2 m2 a).2
    have := (h'.1 k1 m1 a).2
    omega
  cases B; cases B'
  simp_all
theorem bbN_x (l : List TriS) (ks : List Nat) : ∀ j, j < ks.length → BBx l (ks.take (j + 1)) (bbN l ks (j + 1))
  | 0, h => by
    obtain ⟨x, xs, rfl⟩ : ∃ x xs, ks = x :: xs := by
      cases ks with
      | nil => simp at h
      | cons x xs => exact ⟨x, xs, rfl⟩
    rw [bbN, if_pos rfl]
    simp only [Nat.zero_add, List.take_succ_cons, List.take_zero, List.getD_cons_zero]
    refine ⟨fun k hk a => ?_, fun a => ⟨⟨x, by simp, rfl⟩, x, by simp, rfl⟩⟩
    obtain rfl := List.mem_singleton.1 hk
    exact ⟨Int.le_refl _, Int.le_refl _⟩
  | j + 1, h => by
    have ih := bbN_x l ks j (by omega)
    obtain ⟨k, hk⟩ : ∃ k, ks[j + 1]? = some k := ⟨_, List.getElem?_eq_getElem h⟩
    have hg : ks.getD (j + 1) 0 = k := by rw [List.getD_eq_getElem?_getD, hk]; rfl
    rw [bbN, if_neg (by omega), hg, List.take_add_one, hk, Option.toList_some]
    generalize bbN l ks (j + 1) = B at *
    generalize ks.take (j + 1) = A at *
    obtain ⟨h1, h2⟩ := ih
    have m1 : B.1 ∈ [B.1, (tbox (l.getD k zT)).1] := by simp
    have m2 : (tbox (l.getD k zT)).1 ∈ [B.1, (tbox (l.getD k zT)).1] := by simp
    have m3 : B.2 ∈ [B.2, (tbox (l.getD k zT)).2] := by simp
    have m4 : (tbox (l.getD k zT)).2 ∈ [B.2, (tbox (l.getD k zT)).2] := by simp
    refine ⟨fun k' hk' a => ?_, fun a => ⟨?_, ?_⟩⟩
    · dsimp only
      have q1 := (boxP_le m1 a).1
      have q2 := (boxP_le m2 a).1
      have q3 := (boxP_le m3 a).2
      have q4 := (boxP_le m4 a).2
      rcases List.mem_append.1 hk' with hk' | hk'
      · have := h1 k' hk' a
        omega
      · obtain rfl := List.mem_singleton.1 hk'
        omega
    · obtain ⟨⟨p, hp, e⟩, _⟩ := boxP_at (ps := [B.1, (tbox (l.getD k zT)).1]) (by simp) a
      simp only [List.mem_cons, List.not_mem_nil, or_false] at hp
      rcases hp with rfl | rfl
      · obtain ⟨⟨k1, hk1, e1⟩, _⟩ := h2 a
        exact ⟨k1, List.mem_append_left _ hk1, e1.trans e⟩
      · exact ⟨k, List.mem_append_right _ (by simp), e⟩
    · obtain ⟨_, p, hp, e⟩ := boxP_at (ps := [B.2, (tbox (l.getD k zT)).2]) (by simp) a
      simp only [List.mem_cons, List.not_mem_nil, or_false] at hp
      rcases hp with rfl | rfl
      · obtain ⟨_, k1, hk1, e1⟩ := h2 a
        exact ⟨k1, List.mem_append_left _ hk1, e1.trans e⟩
      · exact ⟨k, List.mem_append_right _ (by simp), e⟩
theorem bbN_all (l : List TriS) (ks : List Nat) (h : 1 ≤ ks.length) : BBx l ks (bbN l ks ks.length) := by
  have := bbN_x l ks (ks.length - 1) (by omega)
  rwa [show ks.length - 1 + 1 = ks.length by omega, List.take_length] at this
theorem BBx.sm {l : List TriS} {ks : List Nat} {B : P3 × P3} (h : BBx l ks B) (hn : ∀ k ∈ ks, nearT (l.getD k zT)) : smB 1048576 B.1 ∧ smB 1048576 B.2 := by
  rw [smB_ax, smB_ax]
  constructor
  · intro a ha
    obtain ⟨⟨k, hk, e⟩, _⟩ := h.2 a
    rw [← e]
    exact smB_ax.1 (hn k hk).1 a ha
  · intro a ha
    obtain ⟨_, k, hk, e⟩ := h.2 a
    rw [← e]
    exact smB_ax.1 (hn k hk).2 a ha
def Tr.ixs : Tr → List Nat
  | .leaf i _ _ _ _ => [i]
  | .node i _ _ L R => i :: (L.ixs ++ R.ixs)
def Tr.nodes : Tr → Nat
  | .leaf _ _ _ _ _ => 1
  | .node _ _ _ L R => 1 + (L.nodes + R.nodes)
/-- The tree parts these triangles, which begin there in the order. -/
def Tr.Good (l : List TriS) : Tr → Nat → List Nat → Prop
  | .leaf _ f c lo hi, f0, M => f = f0 ∧ c = M.length ∧ 1 ≤ c ∧ BBx l M (lo, hi)
  | .node _ lo hi L R, f0, M => ∃ X Y, M = X ++ Y ∧ L.Good l f0 X ∧ R.Good l (f0 + X.length) Y ∧ BBx l M (lo, hi)
theorem Tr.ix_mem (t : Tr) : t.ix ∈ t.ixs := by cases t <;> simp [Tr.ix, Tr.ixs]
theorem Tr.in_mono {N N' : List NodeS} {K K' : List Nat} : ∀ {t : Tr}, (∀ i ∈ t.ixs, N'[i]? = N[i]?) → K'.length = K.length → t.In N K → t.In N' K'
  | .leaf i f c lo hi, hN, hK, h => by
    refine ⟨(hN i (by simp [Tr.ixs])).trans h.1, by rw [hK]; exact h.2⟩
  | .node i lo hi L R, hN, hK, h => by
    refine ⟨(hN i (by simp [Tr.ixs])).trans h.1, Tr.in_mono (fun j hj => hN j (by simp [Tr.ixs, hj])) hK h.2.1, Tr.in_mono (fun j hj => hN j (by simp [Tr.ixs, hj])) hK h.2.2⟩
theorem Tr.cost_eq {l : List TriS} : ∀ (t : Tr) (f : Nat) (M : List Nat), t.Good l f M → t.cost = t.nodes + M.length
  | .leaf i f c lo hi, f0, M, h => by
    obtain ⟨_, h2, _⟩ := h
    rw [Tr.cost, Tr.nodes, h2]
  | .node i lo hi L R, f0, M, h => by
    obtain ⟨X, Y, rfl, h1, h2, _⟩ := h
    rw [Tr.cost, Tr.nodes, Tr.cost_eq L _ _ h1, Tr.cost_eq R _ _ h2, List.length_append]
    omega
def smN (x : NodeS) : Prop := smB 1048576 x.lo ∧ smB 1048576 x.hi
theorem run_tree (l : List TriS) (n : Nat) (hnr : ∀ t ∈ l, nearT t) : ∀ (c : Nat) (N : List NodeS) (A M B : List Nat) (S : List TodoS) (t : TodoS), t.count = c → GoodB l n ⟨N, A ++ (M ++ B), S ++ [t]⟩ → t.first = A.length → t.count = M.length →
    ∃ (j : Nat) (N' : List NodeS) (M' : List Nat) (T : Tr), j ≤ 2 * c - 1 ∧ (∀ f, runB l (j + f) ⟨N, A ++ (M ++ B), S ++ [t]⟩ = runB l f ⟨N', A ++ (M' ++ B), S⟩) ∧ GoodB l n ⟨N', A ++ (M' ++ B), S⟩ ∧ T.In N' (A ++ (M' ++ B)) ∧ T.ix = t.node ∧ T.Good l A.length M' ∧ M'.Perm M ∧ (∀ i, i < N.length → i ≠ t.node → N'[i]? = N[i]?) ∧ (∀ i ∈ T.ixs, i = t.node ∨ (N.length ≤ i ∧ i < N'.length)) ∧ N'.length + 1 = N.length + T.nodes ∧ (∀ x ∈ N', x ∈ N ∨ smN x) ∧ (∀ i, N.length ≤ i → i < N'.length → i ∈ T.ixs) := by
  intro c
  induction c using Nat.strongRecOn with
  | ind c ih =>
  intro N A M B S t htc hG htf htm
  have hstep := runB_step l
  obtain ⟨g1, g2⟩ := good_step hG
  obtain ⟨nd, fi, co, de⟩ := t
  dsimp only at htc htf htm
  obtain ⟨t1, t2, t3, t4⟩ := hG.todo ⟨nd, fi, co, de⟩ (by simp)
  have hKl := hG.len
  have hdom := hG.dom
  dsimp only at t1 t2 t3 t4 hKl hdom
  have hseg : ((A ++ (M ++ B)).drop fi).take co = M := by
    rw [htf, List.drop_left, htm, List.take_left]
  have hMn : ∀ k ∈ M, nearT (l.getD k zT) := fun k hk => by
    have hkl := hdom k (by simp [hk])
    rw [List.getD_eq_getElem?_getD, List.getElem?_eq_getElem hkl]
    exact hnr _ (List.getElem_mem hkl)
  obtain ⟨p1, p2, p3, p4⟩ := partL_lt l M de
  have hP : partK l (A ++ (M ++ B)) ⟨nd, fi, co, de⟩ = partL l M de := by
    unfold partK
    dsimp only
    rw [hseg]
  have hBx : boxK l (A ++ (M ++ B)) ⟨nd, fi, co, de⟩ = bbN l M M.length := by
    unfold boxK
    dsimp only
    rw [hseg, htm]
  have hbb := bbN_all l M (by omega)
  generalize bbN l M M.length = BX at *
  obtain ⟨blo, bhi⟩ := BX
  have hq : stepQ l N (A ++ (M ++ B)) S ⟨nd, fi, co, de⟩ = _ := rfl
  conv at hq => rhs; unfold stepQ
  rw [hP, hBx] at hq
  dsimp only at hq
  generalize partL l M de = P at *
  obtain ⟨P1, P2⟩ := P
  dsimp only at *
  have hKn : (A ++ (M ++ B)).take fi ++ (P2 ++ (A ++ (M ++ B)).drop (fi + co)) = A ++ (P2 ++ B) := by
    rw [htf, List.take_left, htm, ← List.drop_drop, List.drop_left, List.drop_left]
  rw [hKn] at hq
  by_cases hp : 0 < P1
  · rw [if_pos hp] at hq
    obtain ⟨at', rfl⟩ : ∃ a : Nat, P1 = (a : Int) := ⟨P1.toNat, by omega⟩
    simp only [Int.toNat_natCast] at hq
    have p4 := p4 hp
    have hat : at' < M.length := by omega
    have hat0 : 0 < at' := by omega
    rw [hq] at g1 g2
    have hXl : (P2.take at').length = at' := by rw [List.length_take]; omega
    have hYl : (P2.drop at').length = co - at' := by rw [List.length_drop]; omega
    have hXY : P2 = P2.take at' ++ P2.drop at' := (List.take_append_drop at' P2).symm
    generalize P2.take at' = X at *
    generalize P2.drop at' = Y at *
    subst hXY
    obtain ⟨N1, hN1⟩ : ∃ N1, N1 = (N ++ [zN, zN]).set nd ⟨blo, bhi, ((N.length : Nat) : Int), ((N.length + 1 : Nat) : Int), 0, 0⟩ := ⟨_, rfl⟩
    rw [← hN1] at hq g1 g2
    have hN1l : N1.length = N.length + 2 := by rw [hN1]; simp
    have hN1o : ∀ i, i < N.length → i ≠ nd → N1[i]? = N[i]? := fun i hi hne => by
      rw [hN1, List.getElem?_set_ne (Ne.symm hne), List.getElem?_append_left hi]
    have hN1n : N1[nd]? = some ⟨blo, bhi, ((N.length : Nat) : Int), ((N.length + 1 : Nat) : Int), 0, 0⟩ := by
      rw [hN1, List.getElem?_set_self]
      rw [List.length_append]; omega
    have hN1m : ∀ x ∈ N1, x ∈ N ∨ smN x := fun x hx => by
      rw [hN1] at hx
      rcases List.mem_or_eq_of_mem_set hx with hx | rfl
      · rcases List.mem_append.1 hx with hx | hx
        · exact .inl hx
        · right
          have : x = zN := by simpa using hx
          rw [this]
          constructor <;> (unfold smB; decide)
      · exact .inr (hbb.sm hMn)
    have e1 : A ++ ((X ++ Y) ++ B) = A ++ (X ++ (Y ++ B)) := by rw [List.append_assoc X Y B]
    have e2 : ∀ a b : TodoS, S ++ [a, b] = (S ++ [a]) ++ [b] := fun a b => by simp
    rw [e1, e2] at hq g1
    obtain ⟨j1, N2, X', L, b1, b2, b3, b4, b5, b6, b7, b8, b9, b10, b11, b12⟩ := ih at' (by omega) N1 A X (Y ++ B) (S ++ [⟨N.length + 1, fi + at', co - at', de + 1⟩]) ⟨N.length, fi, at', de + 1⟩ rfl g1 htf hXl.symm
    have hX'l : X'.length = at' := by rw [← hXl]; exact b7.length_eq
    have e3 : A ++ (X' ++ (Y ++ B)) = (A ++ X') ++ (Y ++ B) := by rw [List.append_assoc]
    rw [e3] at b3 b4
    have b2' := fun f => (b2 f).trans (congrArg (fun z => runB l f ⟨N2, z, S ++ [⟨N.length + 1, fi + at', co - at', de + 1⟩]⟩) e3)
    obtain ⟨j2, N3, Y', R, c1, c2, c3, c4, c5, c6, c7, c8, c9, c10, c11, c12⟩ := ih (co - at') (by omega) N2 (A ++ X') Y B S ⟨N.length + 1, fi + at', co - at', de + 1⟩ rfl b3 (by dsimp only; rw [List.length_append, htf, hX'l]) hYl.symm
    have e4 : (A ++ X') ++ (Y' ++ B) = A ++ ((X' ++ Y') ++ B) := by simp
    have hLp := L.cost_pos
    have hnL : 1 ≤ L.nodes := by cases L <;> unfold Tr.nodes <;> omega
    have hnR : 1 ≤ R.nodes := by cases R <;> unfold Tr.nodes <;> omega
    dsimp only at b5 b8 b9 c5 c8 c9
    rw [e4] at c3 c4
    have hY'l : Y'.length = Y.length := c7.length_eq
    refine ⟨1 + (j1 + j2), N3, X' ++ Y', .node nd blo bhi L R, by omega, fun f => ?_, c3, ?_, rfl, ?_, ?_, ?_, ?_, ?_, ?_, ?_⟩
    · rw [show 1 + (j1 + j2) + f = (j1 + (j2 + f)) + 1 by omega, runB_step, hq, b2', c2, e4]
    · refine ⟨?_, ?_, c4⟩
      · rw [c8 nd (by omega) (by omega), b8 nd (by omega) (by omega), hN1n, b5, c5]
      · refine Tr.in_mono (fun i hi => c8 i ?_ ?_) ?_ b4
        · rcases b9 i hi with rfl | h <;> omega
        · rcases b9 i hi with rfl | h <;> omega
        · simp only [List.length_append]; omega
    · refine ⟨X', Y', rfl, b6, ?_, ?_⟩
      · rw [List.length_append] at c6
        exact c6
      · exact hbb.same fun k => by
          have h1 := (b7.append c7).mem_iff (a := k)
          have h2 := p3.mem_iff (a := k)
          exact (h1.trans h2).symm
    · exact (b7.append c7).trans p3
    · intro i hi hne
      rw [c8 i (by omega) (by omega), b8 i (by omega) (by omega), hN1o i hi hne]
    · intro i hi
      simp only [Tr.ixs, List.mem_cons, List.mem_append] at hi
      rcases hi with rfl | hi | hi
      · exact .inl rfl
      · rcases b9 i hi with rfl | h <;> (right; omega)
      · rcases c9 i hi with rfl | h <;> (right; omega)
    · rw [Tr.nodes]; omega
    · intro x hx
      rcases c11 x hx with hx | hx
      · rcases b11 x hx with hx | hx
        · exact hN1m x hx
        · exact .inr hx
      · exact .inr hx
    · intro i h1 h2
      simp only [Tr.ixs, List.mem_cons, List.mem_append]
      by_cases e0 : i = N.length
      · exact .inr (.inl (by rw [e0, ← b5]; exact L.ix_mem))
      · by_cases e1 : i = N.length + 1
        · exact .inr (.inr (by rw [e1, ← c5]; exact R.ix_mem))
        · by_cases e2 : i < N2.length
          · exact .inr (.inl (b12 i (by omega) e2))
          · exact .inr (.inr (c12 i (by omega) h2))
  · rw [if_neg hp] at hq
    rw [hq] at g1
    have hP2l : P2.length = M.length := p1
    refine ⟨1, N.set nd ⟨blo, bhi, -1, -1, ((fi : Nat) : Int), ((co : Nat) : Int)⟩, P2, .leaf nd fi co blo bhi, by omega, fun f => ?_, g1, ?_, rfl, ?_, p3, ?_, ?_, ?_, ?_, ?_⟩
    · rw [show 1 + f = f + 1 by omega, runB_step, hq]
    · refine ⟨?_, ?_⟩
      · rw [List.getElem?_set_self t1]
      · simp only [List.length_append]; omega
    · exact ⟨htf, by omega, by omega, hbb.same fun k => (p3.mem_iff (a := k)).symm⟩
    · intro i hi hne
      rw [List.getElem?_set_ne (Ne.symm hne)]
    · intro i hi
      simp only [Tr.ixs, List.mem_singleton] at hi
      exact .inl hi
    · rw [List.length_set, Tr.nodes]
    · intro x hx
      rcases List.mem_or_eq_of_mem_set hx with hx | rfl
      · exact .inl hx
      · exact .inr (hbb.sm hMn)
    · intro i h1 h2
      rw [List.length_set] at h2
      omega
/-- The tree of some triangles. -/
theorem tree_of (l : List TriS) (h0 : 0 < l.length) (hnr : ∀ t ∈ l, nearT t) : ∃ T : Tr, T.In (treeL l).1 (treeL l).2 ∧ T.ix = 0 ∧ T.Good l 0 (treeL l).2 ∧ (treeL l).2.Perm (List.range l.length) ∧ (treeL l).1.length = T.nodes ∧ (∀ x ∈ (treeL l).1, smN x) ∧ ∀ i, i < (treeL l).1.length → i ∈ T.ixs := by
  have hG := good_start l h0
  have hG2 : GoodB l l.length ⟨[zN], [] ++ (List.range l.length ++ []), [] ++ [⟨0, 0, l.length, 1⟩]⟩ := by simpa using hG
  obtain ⟨j, N', M', T, a1, a2, a3, a4, a5, a6, a7, a8, a9, a10, a11, a12⟩ := run_tree l l.length hnr l.length [zN] [] (List.range l.length) [] [] ⟨0, 0, l.length, 1⟩ rfl hG2 rfl (by simp)
  have hT : treeL l = (N', M') := by
    unfold treeL
    rw [if_neg (by omega)]
    have := a2 (2 * l.length - j)
    rw [show j + (2 * l.length - j) = 2 * l.length by omega, runB_end] at this
    simp only [List.nil_append, List.append_nil] at this
    rw [this]
  rw [hT]
  simp only [List.nil_append, List.append_nil] at a4
  refine ⟨T, a4, a5, a6, a7, ?_, fun x hx => ?_, fun i hi => ?_⟩
  · simp only [List.length_singleton] at a10
    dsimp only
    omega
  · rcases a11 x hx with h | h
    · rw [List.mem_singleton.1 h]
      constructor <;> (unfold smB; decide)
    · exact h
  · by_cases h0 : i = 0
    · have hm := T.ix_mem
      rw [show T.ix = 0 from a5] at hm
      rw [h0]
      exact hm
    · exact a12 i (by simp; omega) hi
end Go.Proofs.Ytcookaiakfbdiaa
namespace Go.Proofs.Ytcookaiakfbdiaa
open Go.RowKit
set_option maxRecDepth 100000
set_option maxHeartbeats 1000000
def hitA (l : List TriS) (o d : P3) (mask : BitVec 8) (skip : Int) (near : Bool) (k : Nat) : Bool := match l[k]? with
  | some t => (meetW o d mask skip k t).2 && (!near || decide ((meetW o d mask skip k t).1.num < (meetW o d mask skip k t).1.det))
  | none => false
def lookA (l : List TriS) (o d : P3) (mask : BitVec 8) (skip : Int) (near : Bool) (s : Nat × Bool) (k : Nat) : Nat × Bool := if s.2 = true then s else (s.1 + 1, hitA l o d mask skip near k)
def Tr.visA (l : List TriS) (K : List Nat) (o d : P3) (mask : BitVec 8) (skip : Int) (near : Bool) : Tr → Nat × Bool → Nat × Bool
  | .leaf _ f c lo hi, s => if s.2 = true then s else if (spanP lo hi o d).2 = false then (s.1 + 1, false) else ((K.drop f).take c).foldl (lookA l o d mask skip near) (s.1 + 1, false)
  | .node _ lo hi L R, s => if s.2 = true then s else if (spanP lo hi o d).2 = false then (s.1 + 1, false) else R.visA l K o d mask skip near (L.visA l K o d mask skip near (s.1 + 1, false))
theorem visA_done {l : List TriS} {K : List Nat} {o d : P3} {mask : BitVec 8} {skip : Int} {near : Bool} (t : Tr) (n : Nat) : t.visA l K o d mask skip near (n, true) = (n, true) := by
  cases t <;> rw [Tr.visA, if_pos rfl]
theorem lookA_done {l : List TriS} {o d : P3} {mask : BitVec 8} {skip : Int} {near : Bool} : ∀ (ks : List Nat) (n : Nat), ks.foldl (lookA l o d mask skip near) (n, true) = (n, true)
  | [], _ => rfl
  | k :: ks, n => by rw [List.foldl_cons, show lookA l o d mask skip near (n, true) k = (n, true) from rfl, lookA_done ks n]
theorem looksA_n {l : List TriS} {o d : P3} {mask : BitVec 8} {skip : Int} {near : Bool} : ∀ (ks : List Nat) (s : Nat × Bool), (ks.foldl (lookA l o d mask skip near) s).1 ≤ s.1 + ks.length
  | [], s => Nat.le_refl _
  | k :: ks, s => by
    rw [List.foldl_cons, List.length_cons]
    have := looksA_n (l := l) (o := o) (d := d) (mask := mask) (skip := skip) (near := near) ks (lookA l o d mask skip near s k)
    have h2 : (lookA l o d mask skip near s k).1 ≤ s.1 + 1 := by
      unfold lookA
      split
      · omega
      · exact Nat.le_refl _
    omega
theorem looksA_ge {l : List TriS} {o d : P3} {mask : BitVec 8} {skip : Int} {near : Bool} : ∀ (ks : List Nat) (s : Nat × Bool), s.1 ≤ (ks.foldl (lookA l o d mask skip near) s).1
  | [], s => Nat.le_refl _
  | k :: ks, s => by
    rw [List.foldl_cons]
    have := looksA_ge (l := l) (o := o) (d := d) (mask := mask) (skip := skip) (near := near) ks (lookA l o d mask skip near s k)
    have h2 : s.1 ≤ (lookA l o d mask skip near s k).1 := by
      unfold lookA
      split <;> simp
    omega
theorem visA_n {l : List TriS} {K : List Nat} {o d : P3} {mask : BitVec 8} {skip : Int} {near : Bool} : ∀ (t : Tr) (s : Nat × Bool), s.1 ≤ (t.visA l K o d mask skip near s).1 ∧ (t.visA l K o d mask skip near s).1 ≤ s.1 + t.cost
  | .leaf _ f c lo hi, s => by
    rw [Tr.visA, Tr.cost]
    split
    · exact ⟨Nat.le_refl _, by omega⟩
    · split
      · exact ⟨Nat.le_succ _, by dsimp only; omega⟩
      · have h1 := looksA_n (l := l) (o := o) (d := d) (mask := mask) (skip := skip) (near := near) ((K.drop f).take c) (s.1 + 1, false)
        have h2 := looksA_ge (l := l) (o := o) (d := d) (mask := mask) (skip := skip) (near := near) ((K.drop f).take c) (s.1 + 1, false)
        have : ((K.drop f).take c).length ≤ c := by simp; omega
        dsimp only at h1 h2
        omega
  | .node _ lo hi L R, s => by
    rw [Tr.visA, Tr.cost]
    split
    · exact ⟨Nat.le_refl _, by omega⟩
    · split
      · exact ⟨Nat.le_succ _, by dsimp only; omega⟩
      · have h1 := visA_n (l := l) (K := K) (o := o) (d := d) (mask := mask) (skip := skip) (near := near) L (s.1 + 1, false)
        have h2 := visA_n (l := l) (K := K) (o := o) (d := d) (mask := mask) (skip := skip) (near := near) R (L.visA l K o d mask skip near (s.1 + 1, false))
        dsimp only at h1
        omega
theorem visA_pos {l : List TriS} {K : List Nat} {o d : P3} {mask : BitVec 8} {skip : Int} {near : Bool} (t : Tr) (n : Nat) : n + 1 ≤ (t.visA l K o d mask skip near (n, false)).1 := by
  cases t with
  | leaf i f c lo hi =>
    rw [Tr.visA, if_neg (by simp)]
    split
    · exact Nat.le_refl _
    · exact looksA_ge ((K.drop f).take c) (n + 1, false)
  | node i lo hi L R =>
    rw [Tr.visA, if_neg (by simp)]
    split
    · exact Nat.le_refl _
    · exact Nat.le_trans (visA_n L (n + 1, false)).1 (visA_n R _).1
end Go.Proofs.Ytcookaiakfbdiaa
