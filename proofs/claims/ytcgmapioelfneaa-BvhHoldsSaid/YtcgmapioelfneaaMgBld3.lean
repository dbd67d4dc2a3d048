/- How a part of a tree's order is sorted: the ways to compare, walked. No condition. The two sides of a cut: what they hold, what they cost: walked. No condition. Where an order is cut: walked. No condition. Where an order is cut: walked. No condition. Closures that hold places of the run's own; calls that are handed them. No condition. -/
import Derived.Test.YtcgmapioelfneaaMgWlk1
import Derived.Test.YtcgmapioelfneaaMgSwp9
namespace Go.Proofs.Ytcgmapioelfneaa
open Go.RowKit
set_option maxRecDepth 100000
set_option maxHeartbeats 1000000
section
variable {C : Ctx} {ops : Array Oper} {S : St} {o : Oper}
theorem op_ldC {ty : TypeId} {x : Operand} {b off : Nat} {xs : Array Value} {T : TypeId} {u : Value} {d : TypeDesc} (ho : o.op = .load ty x) (hg : o.guard = none) (hd : dstB o.dst C.nt = true) (hx : S.ev x = some (.c (.pointer (some ⟨b, off, none⟩)))) (hm : C.m = []) (hB : Blk C.w0 b xs T) (hu' : tabLook undT ty = some d) (hda : d.isRow = false) (hv : xs[off]? = some u) :
    OpG C Try.prog ops o S ⟨opT x, [], dw o.dst (.c u), [], []⟩ := by
  have hc : C.w0.cell? ⟨b, off, none⟩ = some u := (cell_of_row C.w0 b off xs T (0, 0) hB).trans hv
  have hlt := World.block_lt_of_cell? C.w0 ⟨b, off, none⟩ hc
  exact op_loado ho hg hd hx hu' hda hlt (by rw [hm]; simp) hc
theorem op_callAskV {c : Nat → Bool} {p : Nat} {v : Bool} {cv : Value} {N t0 : Nat} {x : Operand} {ats : Array TypeId} (hv : c p = v) (H : AskOK C.w0 C.m cv N c) (ho : o.op = .call { callee := .value (.tmp t0), args := #[x], argTypes := ats }) (hcal : S.ev (.tmp t0) = some (.c cv)) (hg : o.guard = none) (hd : dstB o.dst C.nt = true) (hx : S.ev x = some (.c (.int .i64 ((p : Nat) : Int)))) (hp : p < N) :
    OpG C Try.prog ops o S ⟨[t0] ++ opT x, [], dw o.dst (.c (.bool v)), [], []⟩ := by subst hv; exact op_callAsk H ho hcal hg hd hx hp
end
theorem Blk.laterX {w w' : World} {b : Nat} {xs : Array Value} {T : TypeId} {m : List Nat} (h : Blk w b xs T) (hw : BelowX w w' m) (hb : b ∉ m) : Blk w' b xs T := (hw.block b h.lt hb).trans h
theorem RdX.later {w w1 : World} {m : List Nat} {size : Nat} {v : Value} {n : Nat} {xs : List Value} (h : RdX w m size v n xs) (hw : BelowX w w1 m) : RdX w1 m size v n xs := fun _ h1 => h _ (hw.trans h1)
theorem AskOK.later {w0 w1 : World} {m : List Nat} {cv : Value} {N : Nat} {c : Nat → Bool} (h : AskOK w0 m cv N c) (hw : BelowX w0 w1 m) : AskOK w1 m cv N c := by
  obtain ⟨j, caps, h1, h2⟩ := h.ex
  exact ⟨j, caps, h1, fun w' h3 => h2 w' (hw.trans h3)⟩
/-- Where a triangle's middle is on an axis. -/
def kyL (l : List TriS) (k i : Nat) : Int := axP (midT (l.getD i zT)) k
def rgL (l : List TriS) (k : Nat) (fr to c : Int) (i : Nat) : Bool := decide (c ≤ binI (kyL l k i) fr to)
theorem getD_of_tri {l : List TriS} {i : Nat} {t : TriS} (h : l[i]? = some t) : l.getD i zT = t := by rw [List.getD_eq_getElem?_getD, h]; rfl
theorem tri_row {l : List TriS} (hok : ∀ t ∈ l, t.ok) {j : Nat} {t : TriS} (h : l[j]? = some t) : ((trisC l).drop (0 + j * 19)).take 19 = triC t := by
  rw [Nat.zero_add]
  exact flat_row (sz := 19) (f := triC) l (fun t ht => triC_length t (hok t ht)) j t h
attribute [local irreducible] Calls Walk1 WalkTo Tri EndA
theorem cmpA_any (l : List TriS) (hok : ∀ t ∈ l, t.ok) (hnr : ∀ t ∈ l, nearT t) (vl : Value) (k : Nat) (hk : k < 3) (b1 b2 : Nat) (w : World) (hB1 : Blk w b1 #[vl] 22) (hB2 : Blk w b2 #[.int .i64 ((k : Nat) : Int)] 3) (hvl : RdV w 19 vl l.length (trisC l)) (x y : Nat) (hx : x < l.length) (hy : y < l.length) :
    Calls Try.prog 33 #[.int .i64 ((x : Nat) : Int), .int .i64 ((y : Nat) : Int), .pointer (some ⟨b1, 0, none⟩), .pointer (some ⟨b2, 0, none⟩)] w fun e w' => e = .returned (.int .i64 (kyL l k x - kyL l k y)) ∧ Below w.heap.size w w' := by
  obtain ⟨t, ht⟩ : ∃ t, l[x]? = some t := ⟨_, List.getElem?_eq_getElem hx⟩
  obtain ⟨u, hu⟩ : ∃ t, l[y]? = some t := ⟨_, List.getElem?_eq_getElem hy⟩
  have htm := List.mem_of_getElem? ht
  have hum := List.mem_of_getElem? hu
  have r1 := tri_row hok ht
  have r2 := tri_row hok hu
  have hlen := tris_len l hok
  unfold kyL
  rw [getD_of_tri ht, getD_of_tri hu]
  have c1 := fun w => middle_any t (hok t htm) (hnr t htm) w
  have c2 := fun w => middle_any u (hok u hum) (hnr u hum) w
  have c3 := fun w => axis_any (midT t) k hk w
  have c4 := fun w => axis_any (midT u) k hk w
  have b3 := axP_sm (midT_sm (hnr t htm)) k
  have b4 := axP_sm (midT_sm (hnr u hum)) k
  generalize axP (midT t) k = A at *
  generalize axP (midT u) k = B at *
  generalize (midT t).c = MT at *
  generalize (midT u).c = MU at *
  generalize triC t = TC at *
  generalize triC u = UC at *
  generalize trisC l = XS at *
  have hv1 : (#[vl] : Array Value)[0]? = some vl := rfl
  have hv2 : (#[.int .i64 ((k : Nat) : Int)] : Array Value)[0]? = some (.int .i64 ((k : Nat) : Int)) := rfl
  have i1 : x * 19 + 19 ≤ XS.length := by omega
  have i2 : y * 19 + 19 ≤ XS.length := by omega
  clear htm hum ht hu hok hnr hlen
  refine calls_tri Try.func33 rfl Try.ntmps33 rfl ?_
  repeat (first | (show Walk1 _ _ _ (_ :: _) _ _; (show HW1 (.assign _); refine wz13 ?_)) | (show WalkTo _ _ _ _ (_ :: _) _ _ _; first | (show HW2 (.move _); refine wz20 ?_) | (show HW2 (.assign _); refine wz17 ?_) | (show HW2 (.binOp .sub _ _ _ _); refine wz37 ?_) | (show HW2 (.indexAddr _ _ _); refine wz45 ?_) | (show HW2 (.load _ _); first | refine wz58 ?_ | refine wz111 ?_) | (show HW2 (.call ⟨.value (.func 30), _, _⟩); ((first | refine cwalk1 30 ?_ | refine cwalk0 30 ?_); refine ⟨_, fun e w => c1 w, ?_⟩)) | (show HW2 (.call ⟨.value (.func 30), _, _⟩); ((first | refine cwalk1 30 ?_ | refine cwalk0 30 ?_); refine ⟨_, fun e w => c2 w, ?_⟩)) | (show HW2 (.call ⟨.value (.func 31), _, _⟩); ((first | refine cwalk1 31 ?_ | refine cwalk0 31 ?_); refine ⟨_, fun e w => c3 w, ?_⟩)) | (show HW2 (.call ⟨.value (.func 31), _, _⟩); ((first | refine cwalk1 31 ?_ | refine cwalk0 31 ?_); refine ⟨_, fun e w => c4 w, ?_⟩))) | refine go1 ?_ | refine end_block_other rfl ?_ | refine end_scope (fun _ h => by cases h) ?_ | (refine walk_endD ?_ ?_; (· kernel_rfl)) | refine tri_yesA rfl ?_ | refine tri_noA rfl ?_ | refine tri_trueA rfl ?_ | refine tri_falseA rfl ?_)
  refine end_ret _ (res_tmp rfl rfl) ?_
  exact fin_below fun _ => rfl
theorem askB_any (l : List TriS) (hok : ∀ t ∈ l, t.ok) (hnr : ∀ t ∈ l, nearT t) (vl : Value) (k : Nat) (hk : k < 3) (fr to c : Int) (hfr : -2097152 ≤ fr ∧ fr ≤ 2097152) (hto : -2097152 ≤ to ∧ to ≤ 2097152) (hne : to - fr ≠ 0) (b1 b2 b3 b4 b5 : Nat) (w : World) (hB1 : Blk w b1 #[vl] 22) (hB2 : Blk w b2 #[.int .i64 ((k : Nat) : Int)] 3) (hB3 : Blk w b3 #[.int .i64 fr] 3) (hB4 : Blk w b4 #[.int .i64 to] 3) (hB5 : Blk w b5 #[.int .i64 c] 3) (hvl : RdV w 19 vl l.length (trisC l)) (x : Nat) (hx : x < l.length) :
    Calls Try.prog 35 #[.int .i64 ((x : Nat) : Int), .pointer (some ⟨b1, 0, none⟩), .pointer (some ⟨b2, 0, none⟩), .pointer (some ⟨b3, 0, none⟩), .pointer (some ⟨b4, 0, none⟩), .pointer (some ⟨b5, 0, none⟩)] w fun e w' => e = .returned (.bool (rgL l k fr to c x)) ∧ Below w.heap.size w w' := by
  obtain ⟨t, ht⟩ : ∃ t, l[x]? = some t := ⟨_, List.getElem?_eq_getElem hx⟩
  have htm := List.mem_of_getElem? ht
  have r1 := tri_row hok ht
  have hlen := tris_len l hok
  unfold rgL kyL
  rw [getD_of_tri ht]
  have c1 := fun w => middle_any t (hok t htm) (hnr t htm) w
  have c3 := fun w => axis_any (midT t) k hk w
  have q3 := axP_sm (midT_sm (hnr t htm)) k
  have c4 := fun w => bin_any (axP (midT t) k) fr to q3 hfr hto hne w
  generalize binI (axP (midT t) k) fr to = D at *
  generalize axP (midT t) k = A at *
  generalize (midT t).c = MT at *
  generalize triC t = TC at *
  generalize trisC l = XS at *
  have hv1 : (#[vl] : Array Value)[0]? = some vl := rfl
  have hv2 : (#[.int .i64 ((k : Nat) : Int)] : Array Value)[0]? = some (.int .i64 ((k : Nat) : Int)) := rfl
  have hv3 : (#[.int .i64 fr] : Array Value)[0]? = some (.int .i64 fr) := rfl
  have hv4 : (#[.int .i64 to] : Array Value)[0]? = some (.int .i64 to) := rfl
  have hv5 : (#[.int .i64 c] : Array Value)[0]? = some (.int .i64 c) := rfl
  have i1 : x * 19 + 19 ≤ XS.length := by omega
  clear htm ht hok hnr hlen q3
  refine calls_tri Try.func35 rfl Try.ntmps35 rfl ?_
  repeat (first | (show Walk1 _ _ _ (_ :: _) _ _; (show HW1 (.assign _); refine wz2 ?_)) | (show WalkTo _ _ _ _ (_ :: _) _ _ _; first | (show HW2 (.move _); refine wz20 ?_) | (show HW2 (.assign _); refine wz17 ?_) | (show HW2 (.binOp .geq _ _ _ _); refine walk_t (op_geI rfl rfl rfl rfl rfl) ?_) | (show HW2 (.indexAddr _ _ _); refine wz45 ?_) | (show HW2 (.load _ _); first | refine wz58 ?_ | refine wz111 ?_) | (show HW2 (.call ⟨.value (.func 30), _, _⟩); ((first | refine cwalk1 30 ?_ | refine cwalk0 30 ?_); refine ⟨_, fun e w => c1 w, ?_⟩)) | (show HW2 (.call ⟨.value (.func 31), _, _⟩); ((first | refine cwalk1 31 ?_ | refine cwalk0 31 ?_); refine ⟨_, fun e w => c3 w, ?_⟩)) | (show HW2 (.call ⟨.value (.func 36), _, _⟩); ((first | refine cwalk1 36 ?_ | refine cwalk0 36 ?_); refine ⟨_, fun e w => c4 w, ?_⟩))) | refine go1 ?_ | refine end_block_other rfl ?_ | refine end_scope (fun _ h => by cases h) ?_ | (refine walk_endD ?_ ?_; (· kernel_rfl)) | refine tri_yesA rfl ?_ | refine tri_noA rfl ?_ | refine tri_trueA rfl ?_ | refine tri_falseA rfl ?_)
  refine end_ret _ (res_tmp rfl rfl) ?_
  exact fin_below fun _ => rfl
def cmB (r : Nat → Bool) (x y : Nat) : Int := if r x = r y then 0 else if r y then -1 else 1
theorem cmpB_any (r : Nat → Bool) (N : Nat) (cv : Value) (b : Nat) (w : World) (hB1 : Blk w b #[cv] 69) (H : AskOK w [] cv N r) (x y : Nat) (hx : x < N) (hy : y < N) :
    Calls Try.prog 37 #[.int .i64 ((x : Nat) : Int), .int .i64 ((y : Nat) : Int), .pointer (some ⟨b, 0, none⟩)] w fun e w' => e = .returned (.int .i64 (cmB r x y)) ∧ Below w.heap.size w w' := by
  unfold cmB
  have hv1 : (#[cv] : Array Value)[0]? = some cv := rfl
  cases h1 : r x <;> cases h2 : r y
  all_goals
    refine calls_tri Try.func37 rfl Try.ntmps37 rfl ?_
    repeat (first | (show Walk1 _ _ _ (_ :: _) _ _; first | (show HW1 (.move _); refine wz1 ?_) | (show HW1 (.assign _); first | refine wz13 ?_ | refine wz2 ?_) | (show HW1 (.load _ _); refine walk1_t (op_ldC rfl rfl rfl rfl rfl (by assumption) rfl rfl (by with_reducible assumption)) ?_) | (show HW1 (.call ⟨.value (.tmp _), _, _⟩); refine walk1_t (op_callAskV h1 H rfl rfl rfl rfl rfl hx) ?_) | (show HW1 (.call ⟨.value (.tmp _), _, _⟩); refine walk1_t (op_callAskV h2 H rfl rfl rfl rfl rfl hy) ?_)) | (show WalkTo _ _ _ _ (_ :: _) _ _ _; first | (show HW2 (.move _); refine wz20 ?_) | (show HW2 (.assign _); refine wz17 ?_) | (show HW2 (.binOp .eql _ _ _ _); refine walk_t (op_eqT rfl rfl rfl rfl rfl rfl) ?_) | (show HW2 (.load _ _); refine wz111 ?_) | (show HW2 (.call ⟨.value (.tmp _), _, _⟩); refine walk_t (op_callAskV h1 H rfl rfl rfl rfl rfl hx) ?_) | (show HW2 (.call ⟨.value (.tmp _), _, _⟩); refine walk_t (op_callAskV h2 H rfl rfl rfl rfl rfl hy) ?_)) | refine go1 ?_ | refine end_block_other rfl ?_ | refine end_scope (fun _ h => by cases h) ?_ | (refine walk_endD ?_ ?_; (· kernel_rfl)) | refine tri_yesA rfl ?_ | refine tri_noA rfl ?_ | refine tri_trueA rfl ?_ | refine tri_falseA rfl ?_)
  all_goals
    refine end_ret _ (res_tmp rfl rfl) ?_
    exact fin_below fun _ => rfl
end Go.Proofs.Ytcgmapioelfneaa
namespace Go.Proofs.Ytcgmapioelfneaa
open Go.RowKit
set_option maxRecDepth 100000
set_option maxHeartbeats 1000000
def shT (a : Int) : Int := a.fdiv 1024
theorem op_shrT {C : Ctx} {ops : Array Oper} {S : St} {o : Oper} {x : Operand} {ty yt : TypeId} {a : Int} (ho : o.op = .binOp .shr ty x (.const (.int .u64 10)) yt) (hg : o.guard = none) (hd : dstB o.dst C.nt = true) (hx : S.ev x = some (.c (.int .i64 a))) : OpG C Try.prog ops o S ⟨opT x ++ [], [], dw o.dst (.c (.int .i64 (shT a))), [], []⟩ := by
  refine op_int2 (y := .const (.int .u64 10)) ho hg hd hx rfl fun w => ?_
  have := (run_shift (ty := ty) (k := .i64) (ky := .u64) (a := a) (n := 10) (w := w)).2
  rw [show ((10 : Nat) : Int) = 10 from rfl] at this
  rw [this]
  rfl
/-- What lies on one side of a cut: how many, and their box. -/
structure SideS where
  n : Int
  lo : P3
  hi : P3
def sideC (s : SideS) : Array Value := #[.int .i64 s.n, .int .i64 s.lo.x, .int .i64 s.lo.y, .int .i64 s.lo.z, .int .i64 s.hi.x, .int .i64 s.hi.y, .int .i64 s.hi.z]
def zS : SideS := ⟨0, zP, zP⟩
def andS (s : SideS) (n : Int) (lo hi : P3) : SideS := if n = 0 then s else if s.n > 0 then ⟨aW s.n n, (boxP [s.lo, lo]).1, (boxP [s.hi, hi]).2⟩ else ⟨aW s.n n, lo, hi⟩
def edgW (a b : Int) : Int := aW (shT (sW b a)) 1
def areaW (lo hi : P3) : Int := aW (aW (mW (edgW lo.x hi.x) (edgW lo.y hi.y)) (mW (edgW lo.y hi.y) (edgW lo.z hi.z))) (mW (edgW lo.z hi.z) (edgW lo.x hi.x))
def costS (s : SideS) : Int := if s.n = 0 then 1152921504606846976 else mW s.n (areaW s.lo s.hi)
attribute [local irreducible] Calls Walk1 WalkTo Tri EndA
theorem area_any (lo hi : P3) (w : World) : Calls Try.prog 46 #[.agg lo.c, .agg hi.c] w fun e w' => e = .returned (.int .i64 (areaW lo hi)) ∧ Below w.heap.size w w' := by
  obtain ⟨a, b, c⟩ := lo
  obtain ⟨x, y, z⟩ := hi
  unfold areaW edgW
  simp only [P3.c]
  refine calls_tri Try.func46 rfl Try.ntmps46 rfl ?_
  repeat (first | (show Walk1 _ _ _ (_ :: _) _ _; first | (show HW1 (.move _); refine wz1 ?_) | (show HW1 (.assign _); first | refine wz13 ?_ | refine wz2 ?_) | (show HW1 (.binOp .add _ _ _ _); refine wz53 ?_) | (show HW1 (.binOp .mul _ _ _ _); refine wz81 ?_) | (show HW1 (.box _ _); refine wz11 ?_)) | (show WalkTo _ _ _ _ (_ :: _) _ _ _; first | (show HW2 (.assign _); refine wz17 ?_) | (show HW2 (.binOp .add _ _ _ _); refine wz83 ?_) | (show HW2 (.binOp .sub _ _ _ _); refine walk_t (op_subW rfl rfl rfl rfl rfl) ?_) | (show HW2 (.binOp .shr _ _ _ _); refine walk_t (op_shrT rfl rfl rfl rfl) ?_) | (show HW2 (.load _ _); refine wz24 ?_) | (show HW2 (.fieldAddr _ _ _); refine wz49 ?_)) | refine go1 ?_ | refine end_block_other rfl ?_ | refine end_scope (fun _ h => by cases h) ?_ | (refine walk_endD ?_ ?_; (· kernel_rfl)) | refine tri_yesA rfl ?_ | refine tri_noA rfl ?_ | refine tri_trueA rfl ?_ | refine tri_falseA rfl ?_)
  refine end_ret _ (res_tmp rfl rfl) ?_
  exact fin_below fun _ => rfl
theorem sideCost_any (s : SideS) (w : World) : Calls Try.prog 43 #[.agg (sideC s)] w fun e w' => e = .returned (.int .i64 (costS s)) ∧ Below w.heap.size w w' := by
  obtain ⟨n, ⟨a, b, c⟩, ⟨x, y, z⟩⟩ := s
  have c1 := fun w => area_any ⟨a, b, c⟩ ⟨x, y, z⟩ w
  unfold costS
  dsimp only
  generalize areaW ⟨a, b, c⟩ ⟨x, y, z⟩ = A at *
  simp only [P3.c, sideC] at *
  by_cases h : n = 0
  · rw [if_pos h]
    refine calls_tri Try.func43 rfl Try.ntmps43 rfl ?_
    repeat (first | (show Walk1 _ _ _ (_ :: _) _ _; first | (show HW1 (.assign _); refine wz13 ?_) | (show HW1 (.binOp .eql _ _ _ _); refine wz18 ?_) | (show HW1 (.load _ _); refine wz3 ?_) | (show HW1 (.box _ _); refine wz11 ?_) | (show HW1 (.fieldAddr _ _ _); refine wz4 ?_)) | refine go1 ?_ | refine end_block_other rfl ?_ | refine end_scope (fun _ h => by cases h) ?_ | (refine walk_endD ?_ ?_; (· kernel_rfl)) | refine tri_yesA rfl ?_ | refine tri_noA rfl ?_ | refine tri_trueA rfl ?_ | refine tri_falseA rfl ?_)
    refine end_ret _ (res_tmp rfl rfl) ?_
    exact fin_below fun _ => rfl
  · rw [if_neg h]
    refine calls_tri Try.func43 rfl Try.ntmps43 rfl ?_
    repeat (first | (show Walk1 _ _ _ (_ :: _) _ _; first | (show HW1 (.assign _); refine wz13 ?_) | (show HW1 (.binOp .eql _ _ _ _); refine wz18 ?_) | (show HW1 (.load _ _); refine wz3 ?_) | (show HW1 (.box _ _); refine wz11 ?_) | (show HW1 (.fieldAddr _ _ _); refine wz4 ?_)) | (show WalkTo _ _ _ _ (_ :: _) _ _ _; first | (show HW2 (.assign _); refine wz17 ?_) | (show HW2 (.binOp .mul _ _ _ _); refine walk_t (op_mulW rfl rfl rfl rfl rfl) ?_) | (show HW2 (.load _ _); first | refine wz24 ?_ | refine wz130 ?_) | (show HW2 (.fieldAddr _ _ _); refine wz49 ?_) | (show HW2 (.call ⟨.value (.func 46), _, _⟩); ((first | refine cwalk1 46 ?_ | refine cwalk0 46 ?_); refine ⟨_, fun e w => c1 w, ?_⟩))) | refine go1 ?_ | refine end_block_other rfl ?_ | refine end_scope (fun _ h => by cases h) ?_ | (refine walk_endD ?_ ?_; (· kernel_rfl)) | refine tri_yesA rfl ?_ | refine tri_noA rfl ?_ | refine tri_trueA rfl ?_ | refine tri_falseA rfl ?_)
    refine end_ret _ (res_tmp rfl rfl) ?_
    exact fin_below fun _ => rfl
theorem sideAnd_any (s : SideS) (n : Int) (lo hi : P3) (w : World) : Calls Try.prog 42 #[.agg (sideC s), .int .i64 n, .agg lo.c, .agg hi.c] w fun e w' => e = .returned (.agg (sideC (andS s n lo hi))) ∧ Below w.heap.size w w' := by
  have c1 := fun v w h => boxT_any v [s.lo, lo] w h (by simp)
  have c2 := fun v w h => boxT_any v [s.hi, hi] w h (by simp)
  unfold andS
  by_cases h : n = 0
  · rw [if_pos h]
    obtain ⟨m, ⟨a, b, c⟩, ⟨x, y, z⟩⟩ := s
    obtain ⟨p, q, r⟩ := lo
    obtain ⟨p', q', r'⟩ := hi
    simp only [P3.c, sideC] at *
    refine calls_tri Try.func42 rfl Try.ntmps42 rfl ?_
    repeat (first | (show Walk1 _ _ _ (_ :: _) _ _; first | (show HW1 (.move _); refine wz1 ?_) | (show HW1 (.binOp .eql _ _ _ _); refine wz18 ?_) | (show HW1 (.load _ _); refine wz9 ?_) | (show HW1 (.store _ _ _); refine wz14 ?_) | (show HW1 (.alloc _); refine wz6 ?_) | (show HW1 (.box _ _); refine wz11 ?_)) | refine go1 ?_ | refine end_block_other rfl ?_ | refine end_scope (fun _ h => by cases h) ?_ | (refine walk_endD ?_ ?_; (· kernel_rfl)) | refine tri_yesA rfl ?_ | refine tri_noA rfl ?_ | refine tri_trueA rfl ?_ | refine tri_falseA rfl ?_)
    refine end_ret (.c (.agg #[.int .i64 m, .int .i64 a, .int .i64 b, .int .i64 c, .int .i64 x, .int .i64 y, .int .i64 z])) (res_cells rfl rfl rfl rfl rfl rfl (fun _ => rfl) (fun _ => rfl)) ?_
    exact fin_below fun _ => rfl
  · rw [if_neg h]
    by_cases h2 : s.n > 0
    · rw [if_pos h2]
      generalize boxP [s.lo, lo] = F at *
      generalize boxP [s.hi, hi] = G at *
      obtain ⟨⟨g1, g2, g3⟩, ⟨g4, g5, g6⟩⟩ := F
      obtain ⟨⟨k1, k2, k3⟩, ⟨k4, k5, k6⟩⟩ := G
      obtain ⟨m, ⟨a, b, c⟩, ⟨x, y, z⟩⟩ := s
      obtain ⟨p, q, r⟩ := lo
      obtain ⟨p', q', r'⟩ := hi
      simp only [P3.c, sideC] at *
      refine calls_tri Try.func42 rfl Try.ntmps42 rfl ?_
      repeat (first | (show Walk1 _ _ _ (_ :: _) _ _; first | (show HW1 (.move _); refine wz1 ?_) | (show HW1 (.binOp .add _ _ _ _); refine wz53 ?_) | (show HW1 (.binOp .gtr _ _ _ _); refine wz21 ?_) | (show HW1 (.binOp .eql _ _ _ _); refine wz18 ?_) | (show HW1 (.load _ _); first | refine wz3 ?_ | refine wz9 ?_ | refine wz31 ?_) | (show HW1 (.store _ _ _); first | refine wz14 ?_ | refine wz28 ?_) | (show HW1 (.alloc _); refine wz6 ?_) | (show HW1 (.box _ _); refine wz11 ?_) | (show HW1 (.fieldAddr _ _ _); refine wz4 ?_) | (show HW1 (.extract _ _); first | refine wz16 ?_ | refine wz15 ?_) | (show HW1 (.build _ _); refine wz25 ?_) | (show HW1 (.buildSlice _ 2 _); refine wz124 ?_) | (show HW1 (.call ⟨.value (.func 13), _, _⟩); (refine cwalk1M 13 ?_; refine ⟨_, _, callM_1 (rdn_row (n := 19) rfl rfl) (fun e w h1 => c1 _ w h1), ?_⟩)) | (show HW1 (.call ⟨.value (.func 13), _, _⟩); (refine cwalk1M 13 ?_; refine ⟨_, _, callM_1 (rdn_row (n := 27) rfl rfl) (fun e w h1 => c2 _ w h1), ?_⟩))) | refine go1 ?_ | refine end_block_other rfl ?_ | refine end_scope (fun _ h => by cases h) ?_ | (refine walk_endD ?_ ?_; (· kernel_rfl)) | refine tri_yesA rfl ?_ | refine tri_noA rfl ?_ | refine tri_trueA rfl ?_ | refine tri_falseA rfl ?_)
      refine end_ret (.c (.agg #[.int .i64 (aW m n), .int .i64 g1, .int .i64 g2, .int .i64 g3, .int .i64 k4, .int .i64 k5, .int .i64 k6])) (res_cells rfl rfl rfl rfl rfl rfl (fun _ => rfl) (fun _ => rfl)) ?_
      exact fin_below fun _ => rfl
    · rw [if_neg h2]
      obtain ⟨m, ⟨a, b, c⟩, ⟨x, y, z⟩⟩ := s
      obtain ⟨p, q, r⟩ := lo
      obtain ⟨p', q', r'⟩ := hi
      simp only [P3.c, sideC] at *
      refine calls_tri Try.func42 rfl Try.ntmps42 rfl ?_
      repeat (first | (show Walk1 _ _ _ (_ :: _) _ _; first | (show HW1 (.move _); refine wz1 ?_) | (show HW1 (.binOp .add _ _ _ _); refine wz53 ?_) | (show HW1 (.binOp .gtr _ _ _ _); refine wz21 ?_) | (show HW1 (.binOp .eql _ _ _ _); refine wz18 ?_) | (show HW1 (.load _ _); first | refine wz3 ?_ | refine wz9 ?_) | (show HW1 (.store _ _ _); refine wz28 ?_) | (show HW1 (.alloc _); refine wz6 ?_) | (show HW1 (.box _ _); refine wz11 ?_) | (show HW1 (.fieldAddr _ _ _); refine wz4 ?_) | (show HW1 (.build _ _); refine wz25 ?_)) | refine go1 ?_ | refine end_block_other rfl ?_ | refine end_scope (fun _ h => by cases h) ?_ | (refine walk_endD ?_ ?_; (· kernel_rfl)) | refine tri_yesA rfl ?_ | refine tri_noA rfl ?_ | refine tri_trueA rfl ?_ | refine tri_falseA rfl ?_)
      refine end_ret (.c (.agg #[.int .i64 (aW m n), .int .i64 p, .int .i64 q, .int .i64 r, .int .i64 p', .int .i64 q', .int .i64 r'])) (res_cells rfl rfl rfl rfl rfl rfl (fun _ => rfl) (fun _ => rfl)) ?_
      exact fin_below fun _ => rfl
end Go.Proofs.Ytcgmapioelfneaa
namespace Go.Proofs.Ytcgmapioelfneaa
open Go.RowKit
set_option maxRecDepth 100000
set_option maxHeartbeats 2000000
def atL (l : List TriS) (k : Nat) (lo hi : Int) (i : Nat) : Nat := (binI (kyL l k i) lo hi).toNat
def allN (l : List TriS) (ks : List Nat) (k : Nat) (lo hi : Int) : Nat → List SideS
  | 0 => List.replicate 8 zS
  | j + 1 => (allN l ks k lo hi j).set (atL l k lo hi (ks.getD j 0)) (andS ((allN l ks k lo hi j).getD (atL l k lo hi (ks.getD j 0)) zS) 1 (tbox (l.getD (ks.getD j 0) zT)).1 (tbox (l.getD (ks.getD j 0) zT)).2)
def lrN (L : List SideS) (c : Nat) : Nat → SideS × SideS
  | 0 => (zS, zS)
  | i + 1 => if i < c then (andS (lrN L c i).1 (L.getD i zS).n (L.getD i zS).lo (L.getD i zS).hi, (lrN L c i).2) else ((lrN L c i).1, andS (lrN L c i).2 (L.getD i zS).n (L.getD i zS).lo (L.getD i zS).hi)
def costB (p : SideS × SideS) : Int := aW (min (costS p.1) 576460752303423488) (min (costS p.2) 576460752303423488)
def bwN (L : List SideS) : Nat → Int × Nat
  | 0 => (2305843009213693952, 1)
  | k + 1 => if (lrN L (k + 1) 8).1.n > 0 ∧ (lrN L (k + 1) 8).2.n > 0 ∧ costB (lrN L (k + 1) 8) < (bwN L k).1 then (costB (lrN L (k + 1) 8), k + 1) else bwN L k
def cutL (l : List TriS) (ks : List Nat) (k : Nat) (lo hi : Int) : Nat := (bwN (allN l ks k lo hi ks.length) 7).2
theorem bwN_in (L : List SideS) : ∀ k, 1 ≤ (bwN L k).2 ∧ (bwN L k).2 ≤ max 1 k
  | 0 => by show 1 ≤ 1 ∧ 1 ≤ _; omega
  | k + 1 => by
    have := bwN_in L k
    rw [bwN]
    split
    · dsimp only; omega
    · omega
theorem allN_len (l : List TriS) (ks : List Nat) (k : Nat) (lo hi : Int) : ∀ j, (allN l ks k lo hi j).length = 8
  | 0 => by simp [allN]
  | j + 1 => by rw [allN, List.length_set]; exact allN_len l ks k lo hi j
def sidesC (L : List SideS) : Array Value := (L.flatMap fun s => (sideC s).toList).toArray
theorem sideC_size (s : SideS) : (sideC s).size = 7 := rfl
theorem sideC_one (s : SideS) : (sideC s).all (·.oneCell') = true := by simp [sideC]; exact ⟨rfl, rfl, rfl, rfl, rfl, rfl, rfl⟩
theorem sidesC_size (L : List SideS) : (sidesC L).size = L.length * 7 := by
  rw [sidesC, List.size_toArray]
  exact flat_length L fun _ _ => rfl
theorem sides_row (L : List SideS) (i : Nat) (hi : i < L.length) : ((sidesC L).toList.drop (i * 7)).take 7 = (sideC (L.getD i zS)).toList := by
  have := flat_row (sz := 7) (f := fun s : SideS => (sideC s).toList) L (fun _ _ => rfl) i L[i] (List.getElem?_eq_getElem hi)
  rw [List.getD_eq_getElem?_getD, List.getElem?_eq_getElem hi]
  exact this
theorem sides_cut (L : List SideS) (i : Nat) (hi : i < L.length) : ∃ pre post : List Value, (sidesC L).toList = pre ++ ((sideC (L.getD i zS)).toList ++ post) ∧ pre.length = i * 7 ∧ ∀ s, (sidesC (L.set i s)).toList = pre ++ ((sideC s).toList ++ post) := by
  refine ⟨(L.take i).flatMap fun s => (sideC s).toList, (L.drop (i + 1)).flatMap fun s => (sideC s).toList, ?_, ?_, fun s => ?_⟩
  · have e : L = L.take i ++ (L.getD i zS :: L.drop (i + 1)) := by
      rw [List.getD_eq_getElem?_getD, List.getElem?_eq_getElem hi, Option.getD_some, List.getElem_cons_drop, List.take_append_drop]
    show L.flatMap _ = _
    conv => lhs; rw [e]
    rw [List.flatMap_append, List.flatMap_cons]
  · rw [flat_length (sz := 7) _ fun _ _ => rfl, List.length_take]
    congr 1
    omega
  · show (L.set i s).flatMap _ = _
    rw [List.set_eq_take_append_cons_drop, if_pos hi, List.flatMap_append, List.flatMap_cons]
theorem sides_sub (L : List SideS) (i : Nat) (hi : i < L.length) : Sub (.c (sidesC L)) (0 + i * 7) 7 (.c (sideC (L.getD i zS))) := fun e => by
  obtain ⟨pre, post, h1, h2, _⟩ := sides_cut L i hi
  refine ⟨pre.toArray, post.toArray, ?_, by simp; omega, rfl⟩
  apply Array.ext'
  show (sidesC L).toList = _
  rw [h1]
  simp [SA.c]
theorem sides_upd (L : List SideS) (i : Nat) (hi : i < L.length) (s : SideS) : Upd (.c (sidesC L)) (0 + i * 7) 7 (.c (sideC s)) (.c (sidesC (L.set i s))) := fun e => by
  obtain ⟨pre, post, h1, h2, h3⟩ := sides_cut L i hi
  refine ⟨pre.toArray, sideC (L.getD i zS), post.toArray, ?_, by simp; omega, rfl, rfl, ?_⟩
  · apply Array.ext'
    show (sidesC L).toList = _
    rw [h1]
    simp
  · apply Array.ext'
    show (sidesC (L.set i s)).toList = _
    rw [h3]
    simp [SA.c]
theorem bin_in {n lo hi : Int} (h : lo < hi) (h1 : lo ≤ n) (_h2 : n ≤ hi) : 0 ≤ binI n lo hi ∧ binI n lo hi ≤ 7 := by
  unfold binI
  have : 0 ≤ ((n - lo) * 8).tdiv (hi - lo) := Int.tdiv_nonneg (by omega) (by omega)
  omega
end Go.Proofs.Ytcgmapioelfneaa
namespace Go.Proofs.Ytcgmapioelfneaa
open Go.RowKit
set_option maxRecDepth 100000
set_option maxHeartbeats 2000000
attribute [local irreducible] Calls Walk1 WalkTo Tri EndA
theorem cut_any (l : List TriS) (hok : ∀ t ∈ l, t.ok) (hnr : ∀ t ∈ l, nearT t) (ks : List Nat) (hks : ∀ i ∈ ks, i < l.length) (hl : ks.length ≤ 100000) (k : Nat) (hk : k < 3) (lo hi : Int) (hlo : -2097152 ≤ lo ∧ lo ≤ 2097152) (hhi : -2097152 ≤ hi ∧ hi ≤ 2097152) (hlt : lo < hi) (hin : ∀ i ∈ ks, lo ≤ kyL l k i ∧ kyL l k i ≤ hi)
    (vl vo : Value) (w : World) (hvl : RdV w 19 vl l.length (trisC l)) (hvo : RdV w 1 vo ks.length (ks.map intV)) :
    Calls Try.prog 34 #[vl, vo, .int .i64 ((k : Nat) : Int), .int .i64 lo, .int .i64 hi] w fun e w' => e = .returned (.int .i64 ((cutL l ks k lo hi : Nat) : Int)) ∧ Below w.heap.size w w' := by
  have hz : sidesC (allN l ks k lo hi 0) = (madeCells #[.int .i64 0, .int .i64 0, .int .i64 0, .int .i64 0, .int .i64 0, .int .i64 0, .int .i64 0] 56) := by kernel_rfl
  have stepA : ∀ j, j < ks.length → ∃ i t s, ks[j]? = some i ∧ l[i]? = some t ∧ t ∈ l ∧ Sub (.c (sidesC (allN l ks k lo hi j))) (0 + atL l k lo hi i * 7) 7 (.c (sideC s)) ∧ Upd (.c (sidesC (allN l ks k lo hi j))) (0 + atL l k lo hi i * 7) 7 (.c (sideC (andS s 1 (tbox t).1 (tbox t).2))) (.c (sidesC (allN l ks k lo hi (j + 1)))) ∧ binI (axP (midT t) k) lo hi = ((atL l k lo hi i : Nat) : Int) ∧ atL l k lo hi i < 8 := by
    intro j hj
    obtain ⟨i, hi1⟩ : ∃ i, ks[j]? = some i := ⟨_, List.getElem?_eq_getElem hj⟩
    have him := List.mem_of_getElem? hi1
    obtain ⟨t, ht⟩ : ∃ t, l[i]? = some t := ⟨_, List.getElem?_eq_getElem (hks i him)⟩
    have e1 : ks.getD j 0 = i := by rw [List.getD_eq_getElem?_getD, hi1]; rfl
    have e2 := getD_of_tri ht
    have hb := bin_in hlt (hin i him).1 (hin i him).2
    have e3 : binI (kyL l k i) lo hi = ((atL l k lo hi i : Nat) : Int) := by unfold atL; omega
    have h8 : atL l k lo hi i < 8 := by unfold atL; omega
    refine ⟨i, t, (allN l ks k lo hi j).getD (atL l k lo hi i) zS, hi1, ht, List.mem_of_getElem? ht, sides_sub _ _ (by rw [allN_len]; exact h8), ?_, ?_, h8⟩
    · have := sides_upd (allN l ks k lo hi j) (atL l k lo hi i) (by rw [allN_len]; exact h8) (andS ((allN l ks k lo hi j).getD (atL l k lo hi i) zS) 1 (tbox t).1 (tbox t).2)
      rw [allN, e1, e2]
      exact this
    · rw [← e3]
      unfold kyL
      rw [e2]
  have stepB : ∀ i, i < 8 → ∃ s, (allN l ks k lo hi ks.length).getD i zS = s ∧ (sidesC (allN l ks k lo hi ks.length)).extract (i * 7) (i * 7 + 7) = sideC s := by
    intro i hi
    refine ⟨_, rfl, ?_⟩
    apply Array.ext'
    rw [Array.toList_extract, List.extract_eq_take_drop, Nat.add_sub_cancel_left]
    exact sides_row _ i (by rw [allN_len]; exact hi)
  have hAs : (sidesC (allN l ks k lo hi ks.length)).size = 56 := by rw [sidesC_size, allN_len]
  have hpts := fun (k : Nat) (t : TriS) (ht : l[k]? = some t) => tri_pts hvl hok ht
  have cB := fun (t : TriS) (v : Value) (w : World) h => boxT_any v [t.p0, t.p1, t.p2] w h (by simp)
  have cM := fun (t : TriS) (ht : t ∈ l) (w : World) => middle_any t (hok t ht) (hnr t ht) w
  have cX := fun (t : TriS) (w : World) => axis_any (midT t) k hk w
  have cI := fun (t : TriS) (ht : t ∈ l) (w : World) => bin_any (axP (midT t) k) lo hi (axP_sm (midT_sm (hnr t ht)) k) hlo hhi (by omega) w
  have cA := fun s n lo hi w => sideAnd_any s n lo hi w
  have hrow := fun (i : Nat) (t : TriS) (ht : l[i]? = some t) => tri_row hok ht
  have hlen := tris_len l hok
  obtain ⟨LF, hLF⟩ : ∃ x, x = allN l ks k lo hi ks.length := ⟨_, rfl⟩
  have hcut : cutL l ks k lo hi = (bwN LF 7).2 := by rw [hLF]; rfl
  rw [hcut]
  rw [← hLF] at stepB hAs
  obtain ⟨AN, hAN⟩ : ∃ f : Nat → Array Value, ∀ j, f j = sidesC (allN l ks k lo hi j) := ⟨_, fun _ => rfl⟩
  have hA0 := hAN 0
  have hAE : AN ks.length = sidesC LF := by rw [hAN, hLF]
  simp only [← hAN] at stepA
  generalize ht : (fun i => atL l k lo hi i) = AT at *
  have eT : ∀ i, atL l k lo hi i = AT i := fun i => by rw [← ht]
  simp only [eT] at stepA
  clear hz hLF hAN ht eT hcut hks hin
  refine calls_tri Try.func34 rfl Try.ntmps34 rfl ?_
  repeat (first | (show Walk1 _ _ _ (_ :: _) _ _; first | (show HW1 (.move _); first | refine wz40 ?_ | refine wz1 ?_) | (show HW1 (.assign _); refine wz13 ?_) | (show HW1 (.alloc _); refine wz6 ?_) | (show HW1 (.call ⟨.builtin .len, _, _⟩); refine wz27 ?_)) | refine go1 ?_ | refine end_block_other rfl ?_ | refine end_scope (fun _ h => by cases h) ?_ | (refine walk_endD ?_ ?_; (· kernel_rfl)) | refine tri_yesA rfl ?_ | refine tri_noA rfl ?_ | refine tri_trueA rfl ?_ | refine tri_falseA rfl ?_)
  refine tri_ent (ent_blkA 11 (.c (AN 0)) rfl (fun e => by rw [hA0]; kernel_rfl)) ?_
  clear hA0
  refine tri_loop (X := Nat) (fun j => ⟨[(27, SV.c (.int .i64 ((j : Nat) : Int))), (26, SV.c (.int .i64 ((ks.length : Nat) : Int))), (25, .c vo), (11, .p 11 0), (0, .c vl), (2, SV.c (.int .i64 ((k : Nat) : Int))), (3, .c (.int .i64 lo)), (4, .c (.int .i64 hi))], [(11, some (.blk 11 83 (.c (AN j))))]⟩)
    (fun j => j ≤ ks.length) (fun j => ks.length - j) 0 (by omega) (by exact ent_kp) ?_
  intro j hj K next
  by_cases h : j < ks.length
  · obtain ⟨i, t, s, hji, hti, htm, hSub, hUpd, hbin, h8⟩ := stepA j h
    have hkl : i < l.length := (List.getElem?_eq_some_iff.1 hti).1
    have hg : (ks.map intV)[j]? = some (.int .i64 ((i : Nat) : Int)) := by rw [List.getElem?_map, hji]; rfl
    have hp : RdV w 3 (arrV vl (0 + i * 19 + 0) 3) 3 (ptsC [t.p0, t.p1, t.p2]) := by rw [Nat.zero_add, Nat.add_zero]; exact hpts i t hti
    have r1 := hrow i t hti
    have c1 := fun w h => cB t (arrV vl (0 + i * 19 + 0) 3) w h
    have c2 := fun w => cM t htm w
    have c3 := fun w => cX t w
    have c4 := fun w => cI t htm w
    rw [hbin] at c4
    have hb : tbox t = boxP [t.p0, t.p1, t.p2] := rfl
    rw [hb] at hUpd
    have c5 := fun w => cA s 1 (boxP [t.p0, t.p1, t.p2]).1 (boxP [t.p0, t.p1, t.p2]).2 w
    have i1 : i * 19 + 19 ≤ (trisC l).length := by omega
    have nx := fun S' => next S' (j + 1)
    have so := sideC_one (andS s 1 (boxP [t.p0, t.p1, t.p2]).1 (boxP [t.p0, t.p1, t.p2]).2)
    generalize sideC (andS s 1 (boxP [t.p0, t.p1, t.p2]).1 (boxP [t.p0, t.p1, t.p2]).2) = S2 at *
    generalize sideC s = S1 at *
    generalize boxP [t.p0, t.p1, t.p2] = F at *
    obtain ⟨⟨a, b, c⟩, ⟨a', b', c'⟩⟩ := F
    simp only [P3.c] at c1 c5
    generalize axP (midT t) k = AX at *
    have hms : (midT t).c.size = 3 := rfl
    generalize (midT t).c = MT at *
    generalize triC t = TC at *
    generalize trisC l = XS at *
    generalize AT i = at' at *
    generalize AN (j + 1) = A2 at *
    generalize AN j = A1 at *
    clear next stepA stepB hpts cB cM cX cI cA hrow hlen hb hAs hAE
    repeat (first | (show Walk1 _ _ _ (_ :: _) _ _; first | (show HW1 (.move _); refine wz1 ?_) | (show HW1 (.assign _); refine wz2 ?_) | (show HW1 (.binOp .lss _ _ _ _); refine wz5 ?_) | (show HW1 (.indexAddr _ _ _); first | refine wz80 ?_ | refine wz26 ?_) | (show HW1 (.load _ _); first | refine wz44 ?_ | refine wz51 ?_) | (show HW1 (.store _ _ _); refine wz14 ?_) | (show HW1 (.alloc _); refine wz6 ?_) | (show HW1 (.fieldAddr _ _ _); refine wz38 ?_) | (show HW1 (.extract _ _); first | refine wz16 ?_ | refine wz15 ?_) | (show HW1 (.slice _ _ _ _ _); refine wz99 ?_) | (show HW1 (.call ⟨.value (.func 13), _, _⟩); (refine cwalk1M 13 ?_; refine ⟨_, _, callM_1 (rdn_old hp (by omega) rfl) (fun e w h1 => c1 w h1), ?_⟩)) | (show HW1 (.call ⟨.value (.func 30), _, _⟩); ((first | refine cwalk11 30 ?_ | refine cwalk10 30 ?_); refine ⟨_, fun e w => c2 w, ?_⟩)) | (show HW1 (.call ⟨.value (.func 31), _, _⟩); ((first | refine cwalk11 31 ?_ | refine cwalk10 31 ?_); refine ⟨_, fun e w => c3 w, ?_⟩)) | (show HW1 (.call ⟨.value (.func 36), _, _⟩); ((first | refine cwalk11 36 ?_ | refine cwalk10 36 ?_); refine ⟨_, fun e w => c4 w, ?_⟩))) | (show WalkTo _ _ _ _ (_ :: _) _ _ _; first | (show HW2 (.move _); refine wz20 ?_) | (show HW2 (.indexAddr _ _ _); refine wz92 ?_)) | refine go1 ?_ | refine end_block_other rfl ?_ | refine end_scope (fun _ h => by cases h) ?_ | (refine walk_endD ?_ ?_; (· kernel_rfl)) | refine tri_yesA rfl ?_ | refine tri_noA rfl ?_ | refine tri_trueA rfl ?_ | refine tri_falseA rfl ?_)
    refine walk_t (op_loadsM rfl rfl rfl rfl rfl rfl rfl rfl hSub ag_c) ?_
    repeat (first | (show WalkTo _ _ _ _ (_ :: _) _ _ _; first | (show HW2 (.indexAddr _ _ _); refine wz92 ?_) | (show HW2 (.load _ _); refine wz22 ?_) | (show HW2 (.call ⟨.value (.func 42), _, _⟩); ((first | refine cwalk1 42 ?_ | refine cwalk0 42 ?_); refine ⟨_, fun e w => c5 w, ?_⟩))) | refine go1 ?_ | refine end_block_other rfl ?_ | refine end_scope (fun _ h => by cases h) ?_ | (refine walk_endD ?_ ?_; (· kernel_rfl)) | refine tri_yesA rfl ?_ | refine tri_noA rfl ?_ | refine tri_trueA rfl ?_ | refine tri_falseA rfl ?_)
    refine walk_b (op_storesM rfl rfl rfl rfl rfl rfl rfl ga_c hUpd (oc_c so)) ?_
    repeat (first | (show Walk1 _ _ _ (_ :: _) _ _; first | (show HW1 (.move _); refine wz1 ?_) | (show HW1 (.binOp .add _ _ _ _); refine wz10 ?_)) | refine go1 ?_ | refine end_block_other rfl ?_ | refine end_scope (fun _ h => by cases h) ?_ | (refine walk_endD ?_ ?_; (· kernel_rfl)) | refine tri_yesA rfl ?_ | refine tri_noA rfl ?_ | refine tri_trueA rfl ?_ | refine tri_falseA rfl ?_)
    exact nx _ (by omega) (by omega) (by exact ent_kp)
  · obtain rfl : j = ks.length := by omega
    rw [hAE]
    clear next stepA hpts cB cM cX cI hrow hlen hAE AN AT
    obtain ⟨BW, hBW⟩ : ∃ f : Nat → Int × Nat, ∀ k, f k = bwN LF k := ⟨_, fun _ => rfl⟩
    have hB0 := hBW 0
    have hBs := fun k => hBW (k + 1)
    simp only [bwN, ← hBW] at hBs
    rw [← hBW]
    generalize hAL : sidesC LF = AL at *
    repeat (first | (show Walk1 _ _ _ (_ :: _) _ _; first | (show HW1 (.assign _); refine wz13 ?_) | (show HW1 (.binOp .lss _ _ _ _); refine wz5 ?_)) | refine go1 ?_ | refine end_block_other rfl ?_ | refine end_scope (fun _ h => by cases h) ?_ | (refine walk_endD ?_ ?_; (· kernel_rfl)) | refine tri_yesA rfl ?_ | refine tri_noA rfl ?_ | refine tri_trueA rfl ?_ | refine tri_falseA rfl ?_)
    refine tri_loop (X := Nat) (fun z => ⟨[(19, SV.c (.int .i64 ((z + 1 : Nat) : Int))), (17, .c (.int .i64 (BW z).1)), (18, SV.c (.int .i64 (((BW z).2 : Nat) : Int))), (11, .p 11 0)], [(11, some (.blk 11 83 (.c AL)))]⟩)
      (fun z => z ≤ 7) (fun z => 7 - z) 0 (by omega) (by rw [hB0]; exact ent_keep (by repeat (first | exact hasT_nil | refine hasT_cons rfl ?_ | refine hasT_eq rfl (svi (by omega)) ?_)) (by repeat (first | exact hasR_nil | refine hasR_cons rfl ?_))) ?_
    intro z hz K next
    by_cases hz7 : z < 7
    · have nx := fun S' => next S' (z + 1)
      have hlr := hBs z
      clear next hBs hB0 hBW
      generalize BW (z + 1) = BZ1 at *
      generalize BW z = BZ at *
      obtain ⟨LR, hLR⟩ : ∃ f : Nat → SideS × SideS, ∀ i, f i = lrN LF (z + 1) i := ⟨_, fun _ => rfl⟩
      have hL0 := hLR 0
      have hLs := fun i => hLR (i + 1)
      simp only [lrN, ← hLR] at hLs
      simp only [← hLR] at hlr
      have hL0 : LR 0 = (zS, zS) := hL0
      clear hLR
      repeat (first | (show Walk1 _ _ _ (_ :: _) _ _; first | (show HW1 (.move _); first | refine wz40 ?_ | refine wz1 ?_) | (show HW1 (.binOp .lss _ _ _ _); refine wz5 ?_) | (show HW1 (.load _ _); refine wz9 ?_) | (show HW1 (.alloc _); refine wz6 ?_)) | refine go1 ?_ | refine end_block_other rfl ?_ | refine end_scope (fun _ h => by cases h) ?_ | (refine walk_endD ?_ ?_; (· kernel_rfl)) | refine tri_yesA rfl ?_ | refine tri_noA rfl ?_ | refine tri_trueA rfl ?_ | refine tri_falseA rfl ?_)
      refine tri_loop (X := Nat) (fun i => ⟨[(64, SV.c (.int .i64 ((i : Nat) : Int))), (63, .c (.agg AL)), (20, .p 20 0), (21, .p 21 0), (19, SV.c (.int .i64 ((z + 1 : Nat) : Int))), (17, .c (.int .i64 BZ.1)), (18, SV.c (.int .i64 ((BZ.2 : Nat) : Int))), (11, .p 11 0)], [(20, some (.blk 20 82 (.c (sideC (LR i).1)))), (21, some (.blk 21 82 (.c (sideC (LR i).2)))), (11, some (.blk 11 83 (.c AL)))]⟩)
        (fun i => i ≤ 8) (fun i => 8 - i) 0 (by omega) (by rw [hL0]; exact ent_keep (by repeat (first | exact hasT_nil | refine hasT_cons rfl ?_ | refine hasT_eq rfl (svi (by omega)) ?_)) (by repeat (first | exact hasR_nil | refine hasR_cons rfl ?_))) ?_
      intro i hi K2 next
      by_cases h8 : i < 8
      · obtain ⟨s, hs, hx⟩ := stepB i h8
        have nx2 := fun S' => next S' (i + 1)
        have hl := hLs i
        rw [hs] at hl
        have o1 := sideC_one (LR i).1
        have o2 := sideC_one (LR i).2
        have z1 := sideC_size (LR i).1
        have z2 := sideC_size (LR i).2
        have c1 := fun w => cA (LR i).1 s.n s.lo s.hi w
        have c2 := fun w => cA (LR i).2 s.n s.lo s.hi w
        by_cases hc : i < z + 1
        · rw [if_pos hc] at hl
          rw [hl] at nx2
          dsimp only at nx2
          have o3 := sideC_one (andS (LR i).1 s.n s.lo s.hi)
          have z3 := sideC_size (andS (LR i).1 s.n s.lo s.hi)
          clear next nx hlr hLs hL0 stepB c2 hl hs
          generalize sideC (andS (LR i).1 s.n s.lo s.hi) = A3 at *
          generalize sideC (LR i).1 = A1 at *
          generalize sideC (LR i).2 = A2 at *
          obtain ⟨n, ⟨a, b, c⟩, ⟨x, y, u⟩⟩ := s
          simp only [P3.c, sideC] at *
          repeat (first | (show Walk1 _ _ _ (_ :: _) _ _; first | (show HW1 (.move _); refine wz1 ?_) | (show HW1 (.binOp .lss _ _ _ _); refine wz5 ?_)) | refine go1 ?_ | refine end_block_other rfl ?_ | refine end_scope (fun _ h => by cases h) ?_ | (refine walk_endD ?_ ?_; (· kernel_rfl)) | refine tri_yesA rfl ?_ | refine tri_noA rfl ?_ | refine tri_trueA rfl ?_ | refine tri_falseA rfl ?_)
          refine walk1_t (op_indexA rfl rfl rfl rfl evk rfl rfl rfl rfl h8 hx) ?_
          repeat (first | (show Walk1 _ _ _ (_ :: _) _ _; first | (show HW1 (.move _); refine wz1 ?_) | (show HW1 (.assign _); refine wz2 ?_) | (show HW1 (.binOp .add _ _ _ _); refine wz10 ?_) | (show HW1 (.binOp .lss _ _ _ _); refine wz5 ?_) | (show HW1 (.load _ _); first | refine wz3 ?_ | refine wz9 ?_ | refine wz31 ?_) | (show HW1 (.store _ _ _); first | refine wz23 ?_ | refine wz14 ?_) | (show HW1 (.alloc _); refine wz6 ?_) | (show HW1 (.fieldAddr _ _ _); refine wz4 ?_) | (show HW1 (.call ⟨.value (.func 42), _, _⟩); ((first | refine cwalk11 42 ?_ | refine cwalk10 42 ?_); refine ⟨_, fun e w => c1 w, ?_⟩))) | refine go1 ?_ | refine end_block_other rfl ?_ | refine end_scope (fun _ h => by cases h) ?_ | (refine walk_endD ?_ ?_; (· kernel_rfl)) | refine tri_yesA rfl ?_ | refine tri_noA rfl ?_ | refine tri_trueA rfl ?_ | refine tri_falseA rfl ?_)
          exact nx2 _ (by omega) (by omega) (by exact ent_kp)
        · rw [if_neg hc] at hl
          rw [hl] at nx2
          dsimp only at nx2
          have o3 := sideC_one (andS (LR i).2 s.n s.lo s.hi)
          have z3 := sideC_size (andS (LR i).2 s.n s.lo s.hi)
          clear next nx hlr hLs hL0 stepB c1 hl hs
          generalize sideC (andS (LR i).2 s.n s.lo s.hi) = A3 at *
          generalize sideC (LR i).1 = A1 at *
          generalize sideC (LR i).2 = A2 at *
          obtain ⟨n, ⟨a, b, c⟩, ⟨x, y, u⟩⟩ := s
          simp only [P3.c, sideC] at *
          repeat (first | (show Walk1 _ _ _ (_ :: _) _ _; first | (show HW1 (.move _); refine wz1 ?_) | (show HW1 (.binOp .lss _ _ _ _); refine wz5 ?_)) | refine go1 ?_ | refine end_block_other rfl ?_ | refine end_scope (fun _ h => by cases h) ?_ | (refine walk_endD ?_ ?_; (· kernel_rfl)) | refine tri_yesA rfl ?_ | refine tri_noA rfl ?_ | refine tri_trueA rfl ?_ | refine tri_falseA rfl ?_)
          refine walk1_t (op_indexA rfl rfl rfl rfl evk rfl rfl rfl rfl h8 hx) ?_
          repeat (first | (show Walk1 _ _ _ (_ :: _) _ _; first | (show HW1 (.move _); refine wz1 ?_) | (show HW1 (.assign _); refine wz2 ?_) | (show HW1 (.binOp .add _ _ _ _); refine wz10 ?_) | (show HW1 (.binOp .lss _ _ _ _); refine wz5 ?_) | (show HW1 (.load _ _); first | refine wz3 ?_ | refine wz9 ?_ | refine wz31 ?_) | (show HW1 (.store _ _ _); first | refine wz23 ?_ | refine wz14 ?_) | (show HW1 (.alloc _); refine wz6 ?_) | (show HW1 (.fieldAddr _ _ _); refine wz4 ?_) | (show HW1 (.call ⟨.value (.func 42), _, _⟩); ((first | refine cwalk11 42 ?_ | refine cwalk10 42 ?_); refine ⟨_, fun e w => c2 w, ?_⟩))) | refine go1 ?_ | refine end_block_other rfl ?_ | refine end_scope (fun _ h => by cases h) ?_ | (refine walk_endD ?_ ?_; (· kernel_rfl)) | refine tri_yesA rfl ?_ | refine tri_noA rfl ?_ | refine tri_trueA rfl ?_ | refine tri_falseA rfl ?_)
          exact nx2 _ (by omega) (by omega) (by exact ent_kp)
      · obtain rfl : i = 8 := by omega
        clear next hLs hL0 stepB
        have k1 := fun w => sideCost_any (LR 8).1 w
        have k2 := fun w => sideCost_any (LR 8).2 w
        unfold costB at hlr
        generalize LR 8 = P at *
        obtain ⟨sa, sb⟩ := P
        dsimp only at hlr k1 k2 ⊢
        generalize costS sa = ca at *
        generalize costS sb = cb at *
        obtain ⟨na, ⟨a, b, c⟩, ⟨x, y, u⟩⟩ := sa
        obtain ⟨nb, ⟨a', b', c'⟩, ⟨x', y', u'⟩⟩ := sb
        simp only [sideC] at *
        by_cases h1 : na > 0
        · by_cases h2 : nb > 0
          · by_cases h3 : aW (min ca 576460752303423488) (min cb 576460752303423488) < BZ.1
            · rw [if_pos ⟨h1, h2, h3⟩] at hlr
              rw [hlr] at nx
              dsimp only at nx
              repeat (first | (show Walk1 _ _ _ (_ :: _) _ _; first | (show Walk1 _ _ _ (⟨_, _, _, _, _, some _⟩ :: _) _ _; refine zy1 ?_) | (show HW1 (.move _); refine wz1 ?_) | (show HW1 (.assign _); refine wz2 ?_) | (show HW1 (.binOp .add _ _ _ _); refine wz10 ?_) | (show HW1 (.binOp .lss _ _ _ _); first | refine wz5 ?_ | refine wz12 ?_) | (show HW1 (.binOp .gtr _ _ _ _); refine wz21 ?_) | (show HW1 (.pick _ _ _); refine wz8 ?_) | (show HW1 (.load _ _); refine wz3 ?_) | (show HW1 (.fieldAddr _ _ _); refine wz4 ?_)) | (show WalkTo _ _ _ _ (_ :: _) _ _ _; first | (show HW2 (.assign _); refine wz17 ?_) | (show HW2 (.binOp .add _ _ _ _); refine wz83 ?_) | (show HW2 (.load _ _); refine wz22 ?_) | (show HW2 (.call ⟨.builtin .min, _, _⟩); refine wz95 ?_) | (show HW2 (.call ⟨.value (.func 43), _, _⟩); ((first | refine cwalk1 43 ?_ | refine cwalk0 43 ?_); refine ⟨_, fun e w => k1 w, ?_⟩)) | (show HW2 (.call ⟨.value (.func 43), _, _⟩); ((first | refine cwalk1 43 ?_ | refine cwalk0 43 ?_); refine ⟨_, fun e w => k2 w, ?_⟩))) | refine go1 ?_ | refine end_block_other rfl ?_ | refine end_scope (fun _ h => by cases h) ?_ | (refine walk_endD ?_ ?_; (· kernel_rfl)) | refine tri_yesA rfl ?_ | refine tri_noA rfl ?_ | refine tri_trueA rfl ?_ | refine tri_falseA rfl ?_)
              exact nx _ (by omega) (by omega) (by exact ent_kp)
            · rw [if_neg (fun h => h3 h.2.2)] at hlr
              rw [hlr] at nx
              repeat (first | (show Walk1 _ _ _ (_ :: _) _ _; first | (show Walk1 _ _ _ (⟨_, _, _, _, _, some _⟩ :: _) _ _; refine zy1 ?_) | (show HW1 (.move _); refine wz1 ?_) | (show HW1 (.assign _); refine wz2 ?_) | (show HW1 (.binOp .add _ _ _ _); refine wz10 ?_) | (show HW1 (.binOp .lss _ _ _ _); first | refine wz5 ?_ | refine wz12 ?_) | (show HW1 (.binOp .gtr _ _ _ _); refine wz21 ?_) | (show HW1 (.pick _ _ _); refine wz8 ?_) | (show HW1 (.load _ _); refine wz3 ?_) | (show HW1 (.fieldAddr _ _ _); refine wz4 ?_)) | (show WalkTo _ _ _ _ (_ :: _) _ _ _; first | (show HW2 (.assign _); refine wz17 ?_) | (show HW2 (.binOp .add _ _ _ _); refine wz83 ?_) | (show HW2 (.load _ _); refine wz22 ?_) | (show HW2 (.call ⟨.builtin .min, _, _⟩); refine wz95 ?_) | (show HW2 (.call ⟨.value (.func 43), _, _⟩); ((first | refine cwalk1 43 ?_ | refine cwalk0 43 ?_); refine ⟨_, fun e w => k1 w, ?_⟩)) | (show HW2 (.call ⟨.value (.func 43), _, _⟩); ((first | refine cwalk1 43 ?_ | refine cwalk0 43 ?_); refine ⟨_, fun e w => k2 w, ?_⟩))) | refine go1 ?_ | refine end_block_other rfl ?_ | refine end_scope (fun _ h => by cases h) ?_ | (refine walk_endD ?_ ?_; (· kernel_rfl)) | refine tri_yesA rfl ?_ | refine tri_noA rfl ?_ | refine tri_trueA rfl ?_ | refine tri_falseA rfl ?_)
              exact nx _ (by omega) (by omega) (by exact ent_kp)
          · rw [if_neg (fun h => h2 h.2.1)] at hlr
            rw [hlr] at nx
            repeat (first | (show Walk1 _ _ _ (_ :: _) _ _; first | (show Walk1 _ _ _ (⟨_, _, _, _, _, some _⟩ :: _) _ _; first | refine zy1 ?_ | refine zn1 ?_) | (show HW1 (.move _); refine wz1 ?_) | (show HW1 (.assign _); refine wz2 ?_) | (show HW1 (.binOp .add _ _ _ _); refine wz10 ?_) | (show HW1 (.binOp .lss _ _ _ _); refine wz5 ?_) | (show HW1 (.binOp .gtr _ _ _ _); refine wz21 ?_) | (show HW1 (.pick _ _ _); first | refine wz8 ?_ | refine wz7 ?_) | (show HW1 (.load _ _); refine wz3 ?_) | (show HW1 (.fieldAddr _ _ _); refine wz4 ?_)) | (show WalkTo _ _ _ _ (_ :: _) _ _ _; first | (show HW2 (.assign _); refine wz17 ?_) | (show HW2 (.binOp .add _ _ _ _); refine wz83 ?_) | (show HW2 (.load _ _); refine wz22 ?_) | (show HW2 (.call ⟨.builtin .min, _, _⟩); refine wz95 ?_) | (show HW2 (.call ⟨.value (.func 43), _, _⟩); ((first | refine cwalk1 43 ?_ | refine cwalk0 43 ?_); refine ⟨_, fun e w => k1 w, ?_⟩)) | (show HW2 (.call ⟨.value (.func 43), _, _⟩); ((first | refine cwalk1 43 ?_ | refine cwalk0 43 ?_); refine ⟨_, fun e w => k2 w, ?_⟩))) | refine go1 ?_ | refine end_block_other rfl ?_ | refine end_scope (fun _ h => by cases h) ?_ | (refine walk_endD ?_ ?_; (· kernel_rfl)) | refine tri_yesA rfl ?_ | refine tri_noA rfl ?_ | refine tri_trueA rfl ?_ | refine tri_falseA rfl ?_)
            exact nx _ (by omega) (by omega) (by exact ent_kp)
        · rw [if_neg (fun h => h1 h.1)] at hlr
          rw [hlr] at nx
          repeat (first | (show Walk1 _ _ _ (_ :: _) _ _; first | (show Walk1 _ _ _ (⟨_, _, _, _, _, some _⟩ :: _) _ _; refine zn1 ?_) | (show HW1 (.move _); refine wz1 ?_) | (show HW1 (.assign _); refine wz2 ?_) | (show HW1 (.binOp .add _ _ _ _); refine wz10 ?_) | (show HW1 (.binOp .lss _ _ _ _); refine wz5 ?_) | (show HW1 (.binOp .gtr _ _ _ _); refine wz21 ?_) | (show HW1 (.pick _ _ _); refine wz7 ?_) | (show HW1 (.load _ _); refine wz3 ?_) | (show HW1 (.fieldAddr _ _ _); refine wz4 ?_)) | (show WalkTo _ _ _ _ (_ :: _) _ _ _; first | (show HW2 (.assign _); refine wz17 ?_) | (show HW2 (.binOp .add _ _ _ _); refine wz83 ?_) | (show HW2 (.load _ _); refine wz22 ?_) | (show HW2 (.call ⟨.builtin .min, _, _⟩); refine wz95 ?_) | (show HW2 (.call ⟨.value (.func 43), _, _⟩); ((first | refine cwalk1 43 ?_ | refine cwalk0 43 ?_); refine ⟨_, fun e w => k1 w, ?_⟩)) | (show HW2 (.call ⟨.value (.func 43), _, _⟩); ((first | refine cwalk1 43 ?_ | refine cwalk0 43 ?_); refine ⟨_, fun e w => k2 w, ?_⟩))) | refine go1 ?_ | refine end_block_other rfl ?_ | refine end_scope (fun _ h => by cases h) ?_ | (refine walk_endD ?_ ?_; (· kernel_rfl)) | refine tri_yesA rfl ?_ | refine tri_noA rfl ?_ | refine tri_trueA rfl ?_ | refine tri_falseA rfl ?_)
          exact nx _ (by omega) (by omega) (by exact ent_kp)
    · obtain rfl : z = 7 := by omega
      clear next hBs hB0 hBW stepB
      generalize BW 7 = BZ at *
      repeat (first | (show Walk1 _ _ _ (_ :: _) _ _; first | (show HW1 (.move _); refine wz1 ?_) | (show HW1 (.assign _); refine wz2 ?_) | (show HW1 (.binOp .lss _ _ _ _); refine wz5 ?_)) | refine go1 ?_ | refine end_block_other rfl ?_ | refine end_scope (fun _ h => by cases h) ?_ | (refine walk_endD ?_ ?_; (· kernel_rfl)) | refine tri_yesA rfl ?_ | refine tri_noA rfl ?_ | refine tri_trueA rfl ?_ | refine tri_falseA rfl ?_)
      refine end_ret _ (res_tmp rfl rfl) ?_
      exact fin_below fun _ => rfl
end Go.Proofs.Ytcgmapioelfneaa
namespace Go.Proofs.Ytcgmapioelfneaa
open Go.RowKit
set_option maxRecDepth 100000
set_option maxHeartbeats 1000000
/-- A closure: its function, what it holds. -/
def SV.clo (f : FuncId) (l : List SV) : SV := ⟨8, fun e => .func (.func f) #[] (l.map (·.den e)).toArray, l.flatMap (·.sup), fun e e' h => by rw [dens_ind l e e' h]⟩
variable {C : Ctx} {ops : Array Oper} {S : St} {o : Oper}
theorem op_makeFn {f : FuncId} {xs : Array Operand} {vs : List SV} (ho : o.op = .makeFunc (.func f) #[] xs) (hg : o.guard = none) (hd : dstB o.dst C.nt = true) (hxs : EvS S xs.toList vs) :
    OpG C Try.prog ops o S ⟨xs.toList.flatMap opT, (SV.clo f vs).sup, dw o.dst (.clo f vs), [], []⟩ := by
  refine op_value hg hd xs.toList (SV.clo f vs).sup (.clo f vs) fun S' e a w hS h1 _ => ?_
  have hev : xs.toList.map S'.ev = vs.map some := by
    rw [← show xs.toList.map S.ev = vs.map some from hxs]
    exact List.map_congr_left fun x hx => h1 x hx
  have hargs : xs.map a.eval = (vs.map (·.den e)).toArray := by
    rw [← evs_all hS _ _ hev, ← Array.toList_map, Array.toArray_toList]
  simp only [execOp, ho, Instr.makeFunc, hargs, Sem.run_bind, Sem.run_pure, Result.andThen_ok, List.map_toArray]
  rfl
/-- A call that is handed a slice of the block, and more. -/
theorem op_callWE {f : FuncId} {xs : Array Operand} {ats : Array TypeId} {vs : List SV} {j b : Nat} {T : TypeId} {cells0 cells : Array Value} {v : Value} (rb : List Nat) (ho : o.op = .call { callee := .value (.func f), args := xs, argTypes := ats }) (hg : o.guard = none) (hd : dstB o.dst C.nt = true) (hxs : EvS S xs.toList vs) (hc' : tabLook calT f = some j) (hr : S.res 1000 = some (.blk 1000 T (.c cells0))) (hi : S.res 1001 = some (.is 1000 b))
    (hcon : ∀ (S' : St) e a w, Holds C S' e a w → (e 1000).b = b → (∀ q ∈ 1000 :: rb, S'.res q = S.res q) → Blk w b cells0 T → Calls Try.prog j (vs.map (·.den e)).toArray w (RetP w b T cells v)) :
    OpG C Try.prog ops o S ⟨xs.toList.flatMap opT, 1000 :: 1001 :: rb, dw o.dst (.c v), [(1000, some (.blk 1000 T (.c cells)))], []⟩ := by
  refine opG_mk hg fun S' h1 h2 h3 e a w hS => ?_
  unfold Oper.wp
  have hr' := (h2 1000 (by simp)).trans hr
  have hbb : (e 1000).b = b := hS.res 1001 _ ((h2 1001 (by simp)).trans hi)
  obtain ⟨fr, hb, hfr⟩ := res_blk hS hr'
  rw [hfr rfl, hbb] at hb
  rw [call_hop ho hxs hc' h1 hS]
  refine Calls.mono (hcon S' e a w hS hbb (fun q hq => h2 q (by rcases List.mem_cons.1 hq with rfl | hq; simp; simp [hq])) hb) ?_
  rintro r w' ⟨rfl, hb2, hx⟩
  have hH := hS.writeX (A' := .c cells) hr' (by rw [hbb]; exact hx) (by rw [hbb]; exact hb2)
  exact ⟨e, hH.put hd (.c v)⟩
theorem blk_of {e : Env} {a : Act} {w : World} {S' : St} (hS : Holds C S' e a w) {n : Nat} {T : TypeId} {A : SA} (hr : S'.res n = some (.blk n T A)) : Blk w (e n).b (A.den e) T := by
  obtain ⟨fr, hb, hfr⟩ := res_blk hS hr
  rw [hfr rfl] at hb
  exact hb
theorem blk_ne {e : Env} {a : Act} {w : World} {S' : St} (hS : Holds C S' e a w) {n m : Nat} {T T' : TypeId} {A A' : SA} (hr : S'.res n = some (.blk n T A)) (hm : S'.res m = some (.blk m T' A')) (hne : Nat.beq n m = false) : (e n).b ≠ (e m).b := fun h =>
  hS.sep n m _ _ hr hm (fun he => by subst he; simp at hne) rfl (e n).b rfl h
theorem rdn_segI {b N cap : Nat} {pre post : List Value} {T : TypeId} {l : List Nat} (hr : S.res 1000 = some (.blk 1000 T (.c (segA pre post l)))) (hi : S.res 1001 = some (.is 1000 b)) (hl : N = l.length) : RdN C S [1000, 1001] 1 (.c (.slice (some ⟨b, pre.length, none⟩) N cap)) N (l.map intV) := by
  intro S' e a w h hS
  have hbb : (e 1000).b = b := hS.res 1001 _ ((h 1001 (by simp)).trans hi)
  obtain ⟨fr, hb, _⟩ := res_blk hS ((h 1000 (by simp)).trans hr)
  rw [hbb] at hb
  refine ⟨by rw [List.length_map, hl, Nat.mul_one], _, cap, rfl, .inr ⟨b, pre.length, rfl, fun j u hu => ?_⟩⟩
  rw [cell_of_row w _ _ _ _ _ hb]
  have hj : j < l.length := by have := (List.getElem?_eq_some_iff.1 hu).1; simpa using this
  have := segA_get (pre := pre) (post := post) hj
  rw [Nat.mul_one] at this
  refine (show (segA pre post l)[pre.length + j]? = _ from this).trans ?_
  rw [← hu, List.getElem?_map, List.getElem?_eq_getElem hj]
  simp [intV, gtN, List.getD, List.getElem?_eq_getElem hj]
end Go.Proofs.Ytcgmapioelfneaa
