/- The box of some points: walked. No condition. The box of some triangles: walked. No condition. A few triangles are not parted; the middle of a triangle: walked. No condition. -/
import Derived.Test.YtmpnkknocfaciaaSwpAB
import Derived.Test.YtmpnkknocfaciaaSymLR
import Derived.Test.YtmpnkknocfaciaaSymSX
import Derived.Test.YtmpnkknocfaciaaSwpGH
namespace Go.Proofs.Ytmpnkknocfaciaa
open Go.RowKit
set_option maxRecDepth 100000
set_option maxHeartbeats 4000000
def minP (a b : P3) : P3 := ⟨min a.x b.x, min a.y b.y, min a.z b.z⟩
def maxP (a b : P3) : P3 := ⟨max a.x b.x, max a.y b.y, max a.z b.z⟩
def zP : P3 := ⟨0, 0, 0⟩
/-- The box of the first points. -/
def boxN (l : List P3) : Nat → P3 × P3
  | 0 => (zP, zP)
  | j + 1 => if j = 0 then (minP (l.getD 0 zP) (l.getD 0 zP), maxP (l.getD 0 zP) (l.getD 0 zP)) else (minP (boxN l j).1 (l.getD j zP), maxP (boxN l j).2 (l.getD j zP))
def boxP (l : List P3) : P3 × P3 := boxN l l.length
attribute [local irreducible] Calls Walk1 WalkTo Tri EndA
theorem boxT_any (v : Value) (l : List P3) (w : World) (hv : RdV w 3 v l.length (ptsC l)) (hl : l.length ≤ 100000) : Calls Try.prog 19 #[v] w fun e w' => e = .returned (.tuple #[.agg (boxP l).1.c, .agg (boxP l).2.c]) ∧ Below w.heap.size w w' := by
  have hrow : ∀ j p, l[j]? = some p → ((ptsC l).drop (0 + j * 3)).take 3 = p.c.toList := fun j p h => by
    rw [Nat.zero_add]
    exact flat_row (sz := 3) (f := fun p : P3 => p.c.toList) l (fun _ _ => rfl) j p h
  have hpl : (ptsC l).length = l.length * 3 := flat_length (sz := 3) (f := fun p : P3 => p.c.toList) l fun _ _ => rfl
  have hz : boxN l 0 = (zP, zP) := rfl
  have hs : ∀ j, boxN l (j + 1) = if j = 0 then (minP (l.getD 0 zP) (l.getD 0 zP), maxP (l.getD 0 zP) (l.getD 0 zP)) else (minP (boxN l j).1 (l.getD j zP), maxP (boxN l j).2 (l.getD j zP)) := fun _ => rfl
  unfold boxP
  generalize boxN l = B at *
  generalize ptsC l = XS at *
  refine calls_tri Try.func19 rfl Try.ntmps19 rfl ?_
  repeat (first | (show Walk1 _ _ _ (_ :: _) _ _; first | (show Walk1 _ _ _ (⟨_, .move _, _, _, _, _⟩ :: _) _ _; first | refine walk1_t (op_moveN rfl rfl rfl rfl) ?_ | refine walk1_t (op_move rfl rfl rfl rfl) ?_) | (show Walk1 _ _ _ (⟨_, .alloc _, _, _, _, _⟩ :: _) _ _; refine walk1_n (op_alloc rfl rfl rfl rfl rfl) (by kernel_rfl) ?_) | (show Walk1 _ _ _ (⟨_, .call ⟨.builtin .len, _, _⟩, _, _, _, _⟩ :: _) _ _; refine walk1_t (op_lenF rfl rfl rfl (by first | assumption | exact FS.rd (by first | assumption | exact FSX.fs (by assumption) | (refine FS.cutB (by assumption) ?_; omega) | (refine FS.cut (by assumption) ?_; omega)))) ?_)) | refine go1 ?_ | refine end_block_other rfl ?_ | refine end_scope (fun _ h => by cases h) ?_ | (refine walk_endD ?_ ?_; (· kernel_rfl)) | refine tri_yesA rfl ?_ | refine tri_noA rfl ?_ | refine tri_trueA rfl ?_ | refine tri_falseA rfl ?_)
  refine tri_loop (X := Nat) (fun j => ⟨[(8, SV.c (.int .i64 ((j : Nat) : Int))), (7, SV.c (.int .i64 ((l.length : Nat) : Int))), (6, .c v), (2, .p 2 0), (3, .p 3 0)], [(2, some (.blk 2 32 (.c (B j).1.c))), (3, some (.blk 3 32 (.c (B j).2.c)))]⟩)
    (fun j => j ≤ l.length) (fun j => l.length - j) 0 (by omega) (by rw [hz]; exact ent_keep (by repeat (first | exact hasT_nil | refine hasT_cons rfl ?_ | refine hasT_eq rfl (svi (by omega)) ?_)) (by repeat (first | exact hasR_nil | refine hasR_cons rfl ?_))) ?_
  intro j hj K next
  by_cases h : j < l.length
  · obtain ⟨p, hpj⟩ : ∃ p, l[j]? = some p := ⟨_, List.getElem?_eq_getElem h⟩
    have hr := hrow j p hpj
    have hlt : j * 3 + 3 ≤ XS.length := by rw [hpl]; omega
    have hgd : l.getD j zP = p := by rw [List.getD_eq_getElem?_getD, hpj]; rfl
    have hsj := hs j
    have nx := fun S' => next S' (j + 1)
    rw [hsj] at nx
    clear next hs hrow hsj
    by_cases h0 : j = 0
    · subst h0
      rw [if_pos rfl, hgd] at nx
      obtain ⟨x, y, z⟩ := p
      have hr : (XS.drop (0 + 0 * 3)).take 3 = [.int .i64 x, .int .i64 y, .int .i64 z] := hr
      simp only [minP, maxP, P3.c] at nx ⊢
      generalize B 0 = B0 at *
      repeat (first | (show Walk1 _ _ _ (_ :: _) _ _; first | (show Walk1 _ _ _ (⟨_, .move _, _, _, _, _⟩ :: _) _ _; refine walk1_t (op_move rfl rfl rfl rfl) ?_) | (show Walk1 _ _ _ (⟨_, .assign _, _, _, _, _⟩ :: _) _ _; refine walk1_t (op_assign rfl rfl rfl rfl) ?_) | (show Walk1 _ _ _ (⟨_, .binOp .add _ _ _ _, _, _, _, _⟩ :: _) _ _; refine walk1_t (op_addN rfl rfl rfl (by first | exact evN_const rfl | exact rfl) (by first | exact evN_const rfl | exact rfl) (by omega)) ?_) | (show Walk1 _ _ _ (⟨_, .binOp .lss _ _ _ _, _, _, _, _⟩ :: _) _ _; refine walk1_t (op_ltN rfl rfl rfl (by first | exact evN_const rfl | exact rfl) (by first | exact evN_const rfl | exact rfl)) ?_) | (show Walk1 _ _ _ (⟨_, .binOp .eql _ _ _ _, _, _, _, _⟩ :: _) _ _; refine walk1_t (op_eqN rfl rfl rfl (by first | exact evN_const rfl | exact rfl) (by first | exact evN_const rfl | exact rfl)) ?_) | (show Walk1 _ _ _ (⟨_, .indexAddr _ _ _, _, _, _, _⟩ :: _) _ _; refine walk1_t (op_idxF rfl rfl rfl rfl (by first | exact evK_const rfl | exact evK_tmp rfl) rfl rfl (by first | assumption | exact FS.rd (by first | assumption | exact FSX.fs (by assumption) | (refine FS.cutB (by assumption) ?_; omega) | (refine FS.cut (by assumption) ?_; omega))) (by first | omega | decide) rfl) ?_) | (show Walk1 _ _ _ (⟨_, .load _ _, _, _, _, _⟩ :: _) _ _; first | refine walk1_t (op_load rfl rfl rfl rfl rfl rfl rfl) ?_ | refine walk1_t (op_loadsF rfl rfl rfl rfl rfl (by first | assumption | exact FS.rd (by first | assumption | exact FSX.fs (by assumption) | (refine FS.cutB (by assumption) ?_; omega) | (refine FS.cut (by assumption) ?_; omega))) rfl rfl rfl (by decide) (by first | omega | decide) (by first | (with_reducible assumption) | rfl)) ?_) | (show Walk1 _ _ _ (⟨_, .store _ _ _, _, _, _, _⟩ :: _) _ _; first | refine walk1_b (op_stores rfl rfl rfl rfl rfl rfl rfl) ?_ | refine walk1_b (op_storesM rfl rfl rfl rfl rfl rfl rfl) ?_) | (show Walk1 _ _ _ (⟨_, .alloc _, _, _, _, _⟩ :: _) _ _; refine walk1_n (op_alloc rfl rfl rfl rfl rfl) (by kernel_rfl) ?_) | (show Walk1 _ _ _ (⟨_, .fieldAddr _ _ _, _, _, _, _⟩ :: _) _ _; refine walk1_t (op_fldT rfl rfl rfl rfl rfl rfl off_zero) ?_) | (show Walk1 _ _ _ (⟨_, .build _ _, _, _, _, _⟩ :: _) _ _; refine walk1_t (op_buildS rfl rfl rfl rfl) ?_) | (show Walk1 _ _ _ (⟨_, .call ⟨.builtin .min, _, _⟩, _, _, _, _⟩ :: _) _ _; refine walk1_t (op_minI rfl rfl rfl) ?_) | (show Walk1 _ _ _ (⟨_, .call ⟨.builtin .max, _, _⟩, _, _, _, _⟩ :: _) _ _; refine walk1_t (op_maxI rfl rfl rfl) ?_)) | (show WalkTo _ _ _ _ (_ :: _) _ _ _; first | (show WalkTo _ _ _ _ (⟨_, .load _ _, _, _, _, _⟩ :: _) _ _ _; refine walk_t (op_loads rfl rfl rfl rfl rfl rfl rfl rfl) ?_) | (show WalkTo _ _ _ _ (⟨_, .store _ _ _, _, _, _, _⟩ :: _) _ _ _; refine walk_b (op_stores rfl rfl rfl rfl rfl rfl rfl) ?_)) | refine go1 ?_ | refine end_block_other rfl ?_ | refine end_scope (fun _ h => by cases h) ?_ | (refine walk_endD ?_ ?_; (· kernel_rfl)) | refine tri_yesA rfl ?_ | refine tri_noA rfl ?_ | refine tri_trueA rfl ?_ | refine tri_falseA rfl ?_)
      exact nx _ (by omega) (by omega) (by exact ent_keep (by repeat (first | exact hasT_nil | refine hasT_cons rfl ?_ | refine hasT_eq rfl (svi (by omega)) ?_)) (by repeat (first | exact hasR_nil | refine hasR_cons rfl ?_)))
    · rw [if_neg h0, hgd] at nx
      obtain ⟨x, y, z⟩ := p
      have hr : (XS.drop (0 + j * 3)).take 3 = [.int .i64 x, .int .i64 y, .int .i64 z] := hr
      generalize B j = Bj at *
      obtain ⟨⟨a, b, c⟩, ⟨a', b', c'⟩⟩ := Bj
      simp only [minP, maxP, P3.c] at nx ⊢
      repeat (first | (show Walk1 _ _ _ (_ :: _) _ _; first | (show Walk1 _ _ _ (⟨_, .move _, _, _, _, _⟩ :: _) _ _; refine walk1_t (op_move rfl rfl rfl rfl) ?_) | (show Walk1 _ _ _ (⟨_, .assign _, _, _, _, _⟩ :: _) _ _; refine walk1_t (op_assign rfl rfl rfl rfl) ?_) | (show Walk1 _ _ _ (⟨_, .binOp .add _ _ _ _, _, _, _, _⟩ :: _) _ _; refine walk1_t (op_addN rfl rfl rfl (by first | exact evN_const rfl | exact rfl) (by first | exact evN_const rfl | exact rfl) (by omega)) ?_) | (show Walk1 _ _ _ (⟨_, .binOp .lss _ _ _ _, _, _, _, _⟩ :: _) _ _; refine walk1_t (op_ltN rfl rfl rfl (by first | exact evN_const rfl | exact rfl) (by first | exact evN_const rfl | exact rfl)) ?_) | (show Walk1 _ _ _ (⟨_, .binOp .eql _ _ _ _, _, _, _, _⟩ :: _) _ _; refine walk1_t (op_eqN rfl rfl rfl (by first | exact evN_const rfl | exact rfl) (by first | exact evN_const rfl | exact rfl)) ?_) | (show Walk1 _ _ _ (⟨_, .indexAddr _ _ _, _, _, _, _⟩ :: _) _ _; refine walk1_t (op_idxF rfl rfl rfl rfl (by first | exact evK_const rfl | exact evK_tmp rfl) rfl rfl (by first | assumption | exact FS.rd (by first | assumption | exact FSX.fs (by assumption) | (refine FS.cutB (by assumption) ?_; omega) | (refine FS.cut (by assumption) ?_; omega))) (by first | omega | decide) rfl) ?_) | (show Walk1 _ _ _ (⟨_, .load _ _, _, _, _, _⟩ :: _) _ _; first | refine walk1_t (op_load rfl rfl rfl rfl rfl rfl rfl) ?_ | refine walk1_t (op_loadsF rfl rfl rfl rfl rfl (by first | assumption | exact FS.rd (by first | assumption | exact FSX.fs (by assumption) | (refine FS.cutB (by assumption) ?_; omega) | (refine FS.cut (by assumption) ?_; omega))) rfl rfl rfl (by decide) (by first | omega | decide) (by first | (with_reducible assumption) | rfl)) ?_) | (show Walk1 _ _ _ (⟨_, .store _ _ _, _, _, _, _⟩ :: _) _ _; first | refine walk1_b (op_stores rfl rfl rfl rfl rfl rfl rfl) ?_ | refine walk1_b (op_storesM rfl rfl rfl rfl rfl rfl rfl) ?_) | (show Walk1 _ _ _ (⟨_, .alloc _, _, _, _, _⟩ :: _) _ _; refine walk1_n (op_alloc rfl rfl rfl rfl rfl) (by kernel_rfl) ?_) | (show Walk1 _ _ _ (⟨_, .fieldAddr _ _ _, _, _, _, _⟩ :: _) _ _; refine walk1_t (op_fldT rfl rfl rfl rfl rfl rfl off_zero) ?_) | (show Walk1 _ _ _ (⟨_, .build _ _, _, _, _, _⟩ :: _) _ _; refine walk1_t (op_buildS rfl rfl rfl rfl) ?_) | (show Walk1 _ _ _ (⟨_, .call ⟨.builtin .min, _, _⟩, _, _, _, _⟩ :: _) _ _; refine walk1_t (op_minI rfl rfl rfl) ?_) | (show Walk1 _ _ _ (⟨_, .call ⟨.builtin .max, _, _⟩, _, _, _, _⟩ :: _) _ _; refine walk1_t (op_maxI rfl rfl rfl) ?_)) | refine go1 ?_ | refine end_block_other rfl ?_ | refine end_scope (fun _ h => by cases h) ?_ | (refine walk_endD ?_ ?_; (· kernel_rfl)) | refine tri_yesA rfl ?_ | refine tri_noA rfl ?_ | refine tri_trueA rfl ?_ | refine tri_falseA rfl ?_)
      exact nx _ (by omega) (by omega) (by exact ent_keep (by repeat (first | exact hasT_nil | refine hasT_cons rfl ?_ | refine hasT_eq rfl (svi (by omega)) ?_)) (by repeat (first | exact hasR_nil | refine hasR_cons rfl ?_)))
  · obtain rfl : j = l.length := by omega
    clear next hs hrow
    generalize B l.length = F at *
    obtain ⟨⟨a, b, c⟩, ⟨a', b', c'⟩⟩ := F
    simp only [P3.c] at *
    repeat (first | (show Walk1 _ _ _ (_ :: _) _ _; (show Walk1 _ _ _ (⟨_, .binOp .lss _ _ _ _, _, _, _, _⟩ :: _) _ _; refine walk1_t (op_ltN rfl rfl rfl (by first | exact evN_const rfl | exact rfl) (by first | exact evN_const rfl | exact rfl)) ?_)) | (show WalkTo _ _ _ _ (_ :: _) _ _ _; first | (show WalkTo _ _ _ _ (⟨_, .load _ _, _, _, _, _⟩ :: _) _ _ _; refine walk_t (op_loads rfl rfl rfl rfl rfl rfl rfl rfl) ?_) | (show WalkTo _ _ _ _ (⟨_, .store _ _ _, _, _, _, _⟩ :: _) _ _ _; refine walk_b (op_stores rfl rfl rfl rfl rfl rfl rfl) ?_)) | refine go1 ?_ | refine end_block_other rfl ?_ | refine end_scope (fun _ h => by cases h) ?_ | (refine walk_endD ?_ ?_; (· kernel_rfl)) | refine tri_yesA rfl ?_ | refine tri_noA rfl ?_ | refine tri_trueA rfl ?_ | refine tri_falseA rfl ?_)
    refine end_ret _ (res_cells2 rfl rfl rfl rfl rfl rfl rfl rfl rfl rfl rfl rfl rfl) ?_
    exact fin_below fun _ => rfl
end Go.Proofs.Ytmpnkknocfaciaa
namespace Go.Proofs.Ytmpnkknocfaciaa
open Go.RowKit
set_option maxRecDepth 100000
set_option maxHeartbeats 4000000
/-- An array that lies in a slice, as a slice. -/
def arrV (v : Value) (off n : Nat) : Value := match v with | .slice (some ⟨b, o2, _⟩) _ _ => .slice (some ⟨b, o2 + off, none⟩) n n | _ => .slice none 0 0
section
variable {C : Ctx} {S : St}
theorem arr3p (A : Array Value) (h : A.size = 3) : ∃ a b c, A = #[a, b, c] := by
  obtain ⟨l⟩ := A
  match l, h with
  | [a, b, c], _ => exact ⟨a, b, c, rfl⟩
variable {ops : Array Oper} {o : Oper}
theorem op_bsliceP2 {t T n : Nat} {parts : Array (Nat × Operand)} {x0 x1 : Operand} {A0 A1 : Array Value} {Z : Array Value} (ho : o.op = .buildSlice t 2 parts) (hp : parts = #[(0, x0), (1, x1)]) (hdn : o.dst = some n) (hg : o.guard = none) (hd : dstB o.dst C.nt = true)
    (h0 : S.ev x0 = some (.c (.agg A0))) (h1 : S.ev x1 = some (.c (.agg A1))) (hu' : tabLook undT t = some (.slice T)) (hs' : tabLook sizT T = some 3) (hz' : tabLook zerT T = some Z) (hZ : Z.size = 3) (s0 : A0.size = 3) (s1 : A1.size = 3) :
    OpG C Try.prog ops o S ⟨[x0, x1].flatMap opT, [], [(n, .s n 0 2 2)], [(n, some (.blk n T (.c (A0 ++ A1))))], [n]⟩ := by
  refine opG_mk hg fun S' g1 g2 g3 e a w hS => ?_
  have hN := hS.newBlk (g3 n (by simp)) T (.c (A0 ++ A1)) (by simp [SA.c])
  have e0 : a.eval x0 = .agg A0 := hS.ev ((ev_like g1 fun _ h => List.mem_flatMap.2 ⟨x0, by simp, h⟩).trans h0)
  have e1 : a.eval x1 = .agg A1 := hS.ev ((ev_like g1 fun _ h => List.mem_flatMap.2 ⟨x1, by simp, h⟩).trans h1)
  have hu := tabAll_look undT_ok hu'
  have hz := tabAll_look zerT_ok hz'
  obtain ⟨zv, hz3, hzc⟩ : ∃ zv, (zeroValue T).run Try.prog w = .ok zv w ∧ zv.cells = Z := by
    cases hb : (Try.prog.info? T) with
    | none => simp [hb] at hz
    | some i =>
      cases hc : i.zero with
      | none => simp [hb, hc] at hz
      | some zz => exact ⟨zz, by simp [zeroValue, typeInfo, hb, hc], by simpa [hb, hc] using hz⟩
  refine wp_value (v := .slice (some ⟨w.heap.size, 0, none⟩) 2 2) (w' := w.alloc (.cells (A0 ++ A1) T)) ?_ ⟨e.set n ⟨w.heap.size, 0, undef⟩, ?_⟩
  · simp only [execOp, ho, hp, Instr.buildSlice, Sem.run_bind, run_underlying hu w, Result.andThen_ok, run_sizeT hs' w, Sem.run_ite]
    simp only [show ¬ (2 * 3 > 2 ^ 24) from by omega, if_false, show ¬ (2 * 3 = 0) from by omega, hz3, Result.andThen_ok, Sem.run_pure, hzc, List.map_toArray, List.map_cons, List.map_nil, e0, e1]
    obtain ⟨z0, z1, z2, rfl⟩ := arr3p Z hZ
    obtain ⟨a0, a1, a2, rfl⟩ := arr3p A0 s0
    obtain ⟨b0, b1, b2, rfl⟩ := arr3p A1 s1
    rw [show Instr.fill (fun i => some (i * 3, 3)) ((Array.range (2 * 3)).map fun x => (#[z0, z1, z2] : Array Value)[x % (#[z0, z1, z2] : Array Value).size]!) [(0, .agg #[a0, a1, a2]), (1, .agg #[b0, b1, b2])] = some (#[a0, a1, a2] ++ #[b0, b1, b2]) from by kernel_rfl]
    simp [newRow]
  · rw [hdn]
    have hd' : dstB (some n) C.nt = true := by rw [← hdn]; exact hd
    have := hN.put hd' (.s n 0 2 2)
    simp only [SV.s, Env.set_self] at this
    exact this

theorem op_cutA {t T : TypeId} {x : Operand} {v : Value} {off len sz m n : Nat} {xs : List Value} (ho : o.op = .slice t x none none none) (hg : o.guard = none) (hd : dstB o.dst C.nt = true) (hx : S.ev x = some (.c (ptrV v off))) (hu' : tabLook undT t = some (.array len T)) (hs' : tabLook sizT T = some sz) (hf : RdV C.w0 m v n xs) (h0 : 0 < n) :
    OpG C Try.prog ops o S ⟨opT x, [], dw o.dst (.c (arrV v off len)), [], []⟩ := by
  obtain ⟨_, a, c, rfl, h⟩ := hf
  rcases h with h | ⟨b, o2, rfl, _⟩
  · omega
  have := op_value (C := C) (P := Try.prog) (ops := ops) (S := S) hg hd [x] [] (.c (arrV (.slice (some ⟨b, o2, none⟩) n c) off len)) fun S' e a w hS h1 h2 => by
    have hev : a.eval x = .pointer (some ⟨b, o2 + off, none⟩) := hS.ev ((h1 x (by simp)).trans hx)
    have hu := tabAll_look undT_ok hu'
    simp [execOp, ho, hev, Instr.sliceAt, Instr.sureAddr, Instr.sliceBounds, run_underlying hu, run_sizeT hs', SV.c, arrV, Sem.run_bind, add_place]
  simpa using this
end
/-- The three corners of a triangle in a slice, as a slice. -/
theorem tri_pts {w : World} {v : Value} {l : List TriS} (h : RdV w 19 v l.length (trisC l)) (hok : ∀ t ∈ l, t.ok) {k : Nat} {t : TriS} (ht : l[k]? = some t) : RdV w 3 (arrV v (k * 19) 3) 3 (ptsC [t.p0, t.p1, t.p2]) := by
  obtain ⟨hl, a, c, rfl, h⟩ := h
  have hk : k < l.length := (List.getElem?_eq_some_iff.1 ht).1
  rcases h with h | ⟨b, o2, rfl, hr⟩
  · omega
  refine ⟨rfl, some ⟨b, o2 + k * 19, none⟩, 3, rfl, .inr ⟨b, o2 + k * 19, rfl, fun j u hj => ?_⟩⟩
  have hj9 : j < 9 := (List.getElem?_eq_some_iff.1 hj).1
  have h9 := tris_P l hok k t ht
  have e : (ptsC [t.p0, t.p1, t.p2]) = (P9 t.p0 t.p1 t.p2).toList := rfl
  rw [e, ← h9, List.getElem?_take_of_lt hj9, List.getElem?_drop] at hj
  have := hr (k * 19 + j) u hj
  rw [Nat.add_assoc]
  exact this
def zT : TriS := ⟨zP, zP, zP, [], 0⟩
def cornersT (t : TriS) : List P3 := [t.p0, t.p1, t.p2]
def tbox (t : TriS) : P3 × P3 := boxP (cornersT t)
/-- The box of the first triangles of an order. -/
def bbN (l : List TriS) (ks : List Nat) : Nat → P3 × P3
  | 0 => (zP, zP)
  | j + 1 => if j = 0 then tbox (l.getD (ks.getD 0 0) zT) else ((boxP [(bbN l ks j).1, (tbox (l.getD (ks.getD j 0) zT)).1]).1, (boxP [(bbN l ks j).2, (tbox (l.getD (ks.getD j 0) zT)).2]).2)
attribute [local irreducible] Calls Walk1 WalkTo Tri EndA
theorem bvhBox_any (l : List TriS) (hok : ∀ t ∈ l, t.ok) (ks : List Nat) (hks : ∀ k ∈ ks, k < l.length) (hl : ks.length ≤ 100000) (vl vo : Value) (w : World) (hvl : RdV w 19 vl l.length (trisC l)) (hvo : RdV w 1 vo ks.length (ks.map fun k => Value.int .i64 ((k : Nat) : Int))) :
    Calls Try.prog 39 #[vl, vo] w fun e w' => e = .returned (.tuple #[.agg (bbN l ks ks.length).1.c, .agg (bbN l ks ks.length).2.c]) ∧ Below w.heap.size w w' := by
  have hz : bbN l ks 0 = (zP, zP) := rfl
  have hs : ∀ j, bbN l ks (j + 1) = if j = 0 then tbox (l.getD (ks.getD 0 0) zT) else ((boxP [(bbN l ks j).1, (tbox (l.getD (ks.getD j 0) zT)).1]).1, (boxP [(bbN l ks j).2, (tbox (l.getD (ks.getD j 0) zT)).2]).2) := fun _ => rfl
  have hpts := fun (k : Nat) (t : TriS) (ht : l[k]? = some t) => tri_pts hvl hok ht
  have cB := fun (ps : List P3) (hps : ps.length ≤ 100000) (v : Value) (w : World) h => boxT_any v ps w h hps
  have hlen := tris_len l hok
  generalize bbN l ks = B at *
  refine calls_tri Try.func39 rfl Try.ntmps39 rfl ?_
  repeat (first | (show Walk1 _ _ _ (_ :: _) _ _; first | (show Walk1 _ _ _ (⟨_, .move _, _, _, _, _⟩ :: _) _ _; first | refine walk1_t (op_moveN rfl rfl rfl rfl) ?_ | refine walk1_t (op_move rfl rfl rfl rfl) ?_) | (show Walk1 _ _ _ (⟨_, .alloc _, _, _, _, _⟩ :: _) _ _; refine walk1_n (op_alloc rfl rfl rfl rfl rfl) (by kernel_rfl) ?_) | (show Walk1 _ _ _ (⟨_, .call ⟨.builtin .len, _, _⟩, _, _, _, _⟩ :: _) _ _; refine walk1_t (op_lenF rfl rfl rfl (by first | assumption | exact FS.rd (by first | assumption | exact FSX.fs (by assumption) | (refine FS.cutB (by assumption) ?_; omega) | (refine FS.cut (by assumption) ?_; omega)))) ?_)) | refine go1 ?_ | refine end_block_other rfl ?_ | refine end_scope (fun _ h => by cases h) ?_ | (refine walk_endD ?_ ?_; (· kernel_rfl)) | refine tri_yesA rfl ?_ | refine tri_noA rfl ?_ | refine tri_trueA rfl ?_ | refine tri_falseA rfl ?_)
  refine tri_loop (X := Nat) (fun j => ⟨[(12, SV.c (.int .i64 ((j : Nat) : Int))), (11, SV.c (.int .i64 ((ks.length : Nat) : Int))), (10, .c vo), (4, .p 4 0), (5, .p 5 0), (0, .c vl)], [(4, some (.blk 4 32 (.c (B j).1.c))), (5, some (.blk 5 32 (.c (B j).2.c)))]⟩)
    (fun j => j ≤ ks.length) (fun j => ks.length - j) 0 (by omega) (by rw [hz]; exact ent_keep (by repeat (first | exact hasT_nil | refine hasT_cons rfl ?_ | refine hasT_eq rfl (svi (by omega)) ?_)) (by repeat (first | exact hasR_nil | refine hasR_cons rfl ?_))) ?_
  intro j hj K next
  by_cases h : j < ks.length
  · obtain ⟨k, hkj⟩ : ∃ k, ks[j]? = some k := ⟨_, List.getElem?_eq_getElem h⟩
    have hkl := hks k (List.mem_of_getElem? hkj)
    obtain ⟨t, htk⟩ : ∃ t, l[k]? = some t := ⟨_, List.getElem?_eq_getElem hkl⟩
    have hg : (ks.map fun k => Value.int .i64 ((k : Nat) : Int))[j]? = some (.int .i64 ((k : Nat) : Int)) := by rw [List.getElem?_map, hkj]; rfl
    have hp : RdV w 3 (arrV vl (0 + k * 19 + 0) 3) 3 (ptsC [t.p0, t.p1, t.p2]) := by rw [Nat.zero_add, Nat.add_zero]; exact hpts k t htk
    have e1 : ks.getD j 0 = k := by rw [List.getD_eq_getElem?_getD, hkj]; rfl
    have e2 : l.getD k zT = t := by rw [List.getD_eq_getElem?_getD, htk]; rfl
    have c1 := fun w h => cB [t.p0, t.p1, t.p2] (by simp) (arrV vl (0 + k * 19 + 0) 3) w h
    have hsj := hs j
    have nx := fun S' => next S' (j + 1)
    rw [hsj] at nx
    have hb : tbox t = boxP [t.p0, t.p1, t.p2] := rfl
    by_cases h0 : j = 0
    · subst h0
      rw [if_pos rfl, e1, e2, hb] at nx
      generalize boxP [t.p0, t.p1, t.p2] = F at *
      obtain ⟨⟨a, b, c⟩, ⟨a', b', c'⟩⟩ := F
      simp only [P3.c] at nx c1 ⊢
      clear next hs hpts cB hsj hb
      generalize B 0 = B0 at *
      repeat (first | (show Walk1 _ _ _ (_ :: _) _ _; first | (show Walk1 _ _ _ (⟨_, .move _, _, _, _, _⟩ :: _) _ _; refine walk1_t (op_move rfl rfl rfl rfl) ?_) | (show Walk1 _ _ _ (⟨_, .assign _, _, _, _, _⟩ :: _) _ _; refine walk1_t (op_assign rfl rfl rfl rfl) ?_) | (show Walk1 _ _ _ (⟨_, .binOp .add _ _ _ _, _, _, _, _⟩ :: _) _ _; refine walk1_t (op_addN rfl rfl rfl (by first | exact evN_const rfl | exact rfl) (by first | exact evN_const rfl | exact rfl) (by omega)) ?_) | (show Walk1 _ _ _ (⟨_, .binOp .lss _ _ _ _, _, _, _, _⟩ :: _) _ _; refine walk1_t (op_ltN rfl rfl rfl (by first | exact evN_const rfl | exact rfl) (by first | exact evN_const rfl | exact rfl)) ?_) | (show Walk1 _ _ _ (⟨_, .binOp .eql _ _ _ _, _, _, _, _⟩ :: _) _ _; refine walk1_t (op_eqN rfl rfl rfl (by first | exact evN_const rfl | exact rfl) (by first | exact evN_const rfl | exact rfl)) ?_) | (show Walk1 _ _ _ (⟨_, .indexAddr _ _ _, _, _, _, _⟩ :: _) _ _; first | refine walk1_t (op_idxF rfl rfl rfl rfl (by first | exact evK_const rfl | exact evK_tmp rfl) rfl rfl (by first | assumption | exact FS.rd (by first | assumption | exact FSX.fs (by assumption) | (refine FS.cutB (by assumption) ?_; omega) | (refine FS.cut (by assumption) ?_; omega))) (by first | omega | decide) off_one) ?_ | refine walk1_t (op_idxF rfl rfl rfl rfl (by first | exact evK_const rfl | exact evK_tmp rfl) rfl rfl (by first | assumption | exact FS.rd (by first | assumption | exact FSX.fs (by assumption) | (refine FS.cutB (by assumption) ?_; omega) | (refine FS.cut (by assumption) ?_; omega))) (by first | omega | decide) rfl) ?_) | (show Walk1 _ _ _ (⟨_, .load _ _, _, _, _, _⟩ :: _) _ _; refine walk1_t (op_loadF rfl rfl rfl rfl rfl rfl rfl (by first | assumption | exact FS.rd (by first | assumption | exact FSX.fs (by assumption) | (refine FS.cutB (by assumption) ?_; omega) | (refine FS.cut (by assumption) ?_; omega))) (by omega) (by assumption)) ?_) | (show Walk1 _ _ _ (⟨_, .store _ _ _, _, _, _, _⟩ :: _) _ _; refine walk1_b (op_stores rfl rfl rfl rfl rfl rfl rfl) ?_) | (show Walk1 _ _ _ (⟨_, .alloc _, _, _, _, _⟩ :: _) _ _; refine walk1_n (op_alloc rfl rfl rfl rfl rfl) (by kernel_rfl) ?_) | (show Walk1 _ _ _ (⟨_, .fieldAddr _ _ _, _, _, _, _⟩ :: _) _ _; refine walk1_t (op_fldF rfl rfl rfl rfl (by first | assumption | exact FS.rd (by first | assumption | exact FSX.fs (by assumption) | (refine FS.cutB (by assumption) ?_; omega) | (refine FS.cut (by assumption) ?_; omega))) (by omega) rfl rfl rfl) ?_) | (show Walk1 _ _ _ (⟨_, .extract _ _, _, _, _, _⟩ :: _) _ _; first | refine walk1_t (op_ext0 rfl rfl rfl rfl) ?_ | refine walk1_t (op_ext1 rfl rfl rfl rfl) ?_) | (show Walk1 _ _ _ (⟨_, .slice _ _ _ _ _, _, _, _, _⟩ :: _) _ _; refine walk1_t (op_cutA rfl rfl rfl rfl rfl rfl (by assumption) (by omega)) ?_) | (show Walk1 _ _ _ (⟨_, .call ⟨.value (.func 19), _, _⟩, _, _, _, _⟩ :: _) _ _; (refine walk1_callM rfl rfl rfl rfl (by repeat (first | exact evs_nil | apply evs_cons rfl)) rfl ?_; refine ⟨_, _, callM_1 (rdn_old hp (by omega) rfl) (fun e w h1 => c1 w h1), ?_⟩))) | (show WalkTo _ _ _ _ (_ :: _) _ _ _; first | (show WalkTo _ _ _ _ (⟨_, .load _ _, _, _, _, _⟩ :: _) _ _ _; refine walk_t (op_loads rfl rfl rfl rfl rfl rfl rfl rfl) ?_) | (show WalkTo _ _ _ _ (⟨_, .store _ _ _, _, _, _, _⟩ :: _) _ _ _; refine walk_b (op_stores rfl rfl rfl rfl rfl rfl rfl) ?_)) | refine go1 ?_ | refine end_block_other rfl ?_ | refine end_scope (fun _ h => by cases h) ?_ | (refine walk_endD ?_ ?_; (· kernel_rfl)) | refine tri_yesA rfl ?_ | refine tri_noA rfl ?_ | refine tri_trueA rfl ?_ | refine tri_falseA rfl ?_)
      exact nx _ (by omega) (by omega) (by exact ent_keep (by repeat (first | exact hasT_nil | refine hasT_cons rfl ?_ | refine hasT_eq rfl (svi (by omega)) ?_)) (by repeat (first | exact hasR_nil | refine hasR_cons rfl ?_)))
    · rw [if_neg h0, e1, e2, hb] at nx
      have c2 := fun v w h => cB [(B j).1, (boxP [t.p0, t.p1, t.p2]).1] (by simp) v w h
      have c3 := fun v w h => cB [(B j).2, (boxP [t.p0, t.p1, t.p2]).2] (by simp) v w h
      generalize boxP [t.p0, t.p1, t.p2] = F at *
      generalize B j = Bj at *
      obtain ⟨⟨a, b, c⟩, ⟨a', b', c'⟩⟩ := F
      obtain ⟨⟨x, y, z⟩, ⟨x', y', z'⟩⟩ := Bj
      simp only at nx c2 c3
      generalize boxP [⟨x, y, z⟩, ⟨a, b, c⟩] = G at *
      generalize boxP [⟨x', y', z'⟩, ⟨a', b', c'⟩] = G' at *
      obtain ⟨⟨g1, g2, g3⟩, ⟨g4, g5, g6⟩⟩ := G
      obtain ⟨⟨k1, k2, k3⟩, ⟨k4, k5, k6⟩⟩ := G'
      simp only [P3.c] at nx c1 c2 c3 ⊢
      clear next hs hpts cB hsj hb
      repeat (first | (show Walk1 _ _ _ (_ :: _) _ _; first | (show Walk1 _ _ _ (⟨_, .move _, _, _, _, _⟩ :: _) _ _; refine walk1_t (op_move rfl rfl rfl rfl) ?_) | (show Walk1 _ _ _ (⟨_, .assign _, _, _, _, _⟩ :: _) _ _; refine walk1_t (op_assign rfl rfl rfl rfl) ?_) | (show Walk1 _ _ _ (⟨_, .binOp .add _ _ _ _, _, _, _, _⟩ :: _) _ _; refine walk1_t (op_addN rfl rfl rfl (by first | exact evN_const rfl | exact rfl) (by first | exact evN_const rfl | exact rfl) (by omega)) ?_) | (show Walk1 _ _ _ (⟨_, .binOp .lss _ _ _ _, _, _, _, _⟩ :: _) _ _; refine walk1_t (op_ltN rfl rfl rfl (by first | exact evN_const rfl | exact rfl) (by first | exact evN_const rfl | exact rfl)) ?_) | (show Walk1 _ _ _ (⟨_, .binOp .eql _ _ _ _, _, _, _, _⟩ :: _) _ _; refine walk1_t (op_eqN rfl rfl rfl (by first | exact evN_const rfl | exact rfl) (by first | exact evN_const rfl | exact rfl)) ?_) | (show Walk1 _ _ _ (⟨_, .indexAddr _ _ _, _, _, _, _⟩ :: _) _ _; first | refine walk1_t (op_idxF rfl rfl rfl rfl (by first | exact evK_const rfl | exact evK_tmp rfl) rfl rfl (by first | assumption | exact FS.rd (by first | assumption | exact FSX.fs (by assumption) | (refine FS.cutB (by assumption) ?_; omega) | (refine FS.cut (by assumption) ?_; omega))) (by first | omega | decide) off_one) ?_ | refine walk1_t (op_idxF rfl rfl rfl rfl (by first | exact evK_const rfl | exact evK_tmp rfl) rfl rfl (by first | assumption | exact FS.rd (by first | assumption | exact FSX.fs (by assumption) | (refine FS.cutB (by assumption) ?_; omega) | (refine FS.cut (by assumption) ?_; omega))) (by first | omega | decide) rfl) ?_) | (show Walk1 _ _ _ (⟨_, .load _ _, _, _, _, _⟩ :: _) _ _; first | refine walk1_t (op_loadF rfl rfl rfl rfl rfl rfl rfl (by first | assumption | exact FS.rd (by first | assumption | exact FSX.fs (by assumption) | (refine FS.cutB (by assumption) ?_; omega) | (refine FS.cut (by assumption) ?_; omega))) (by omega) (by assumption)) ?_ | refine walk1_t (op_loads rfl rfl rfl rfl rfl rfl rfl rfl) ?_) | (show Walk1 _ _ _ (⟨_, .store _ _ _, _, _, _, _⟩ :: _) _ _; refine walk1_b (op_stores rfl rfl rfl rfl rfl rfl rfl) ?_) | (show Walk1 _ _ _ (⟨_, .alloc _, _, _, _, _⟩ :: _) _ _; refine walk1_n (op_alloc rfl rfl rfl rfl rfl) (by kernel_rfl) ?_) | (show Walk1 _ _ _ (⟨_, .fieldAddr _ _ _, _, _, _, _⟩ :: _) _ _; refine walk1_t (op_fldF rfl rfl rfl rfl (by first | assumption | exact FS.rd (by first | assumption | exact FSX.fs (by assumption) | (refine FS.cutB (by assumption) ?_; omega) | (refine FS.cut (by assumption) ?_; omega))) (by omega) rfl rfl rfl) ?_) | (show Walk1 _ _ _ (⟨_, .extract _ _, _, _, _, _⟩ :: _) _ _; first | refine walk1_t (op_ext0 rfl rfl rfl rfl) ?_ | refine walk1_t (op_ext1 rfl rfl rfl rfl) ?_) | (show Walk1 _ _ _ (⟨_, .slice _ _ _ _ _, _, _, _, _⟩ :: _) _ _; refine walk1_t (op_cutA rfl rfl rfl rfl rfl rfl (by assumption) (by omega)) ?_) | (show Walk1 _ _ _ (⟨_, .buildSlice _ 2 _, _, _, _, _⟩ :: _) _ _; refine walk1_n (op_bsliceP2 rfl rfl rfl rfl rfl rfl rfl rfl rfl rfl rfl rfl rfl) (by kernel_rfl) ?_) | (show Walk1 _ _ _ (⟨_, .call ⟨.value (.func 19), _, _⟩, _, _, _, _⟩ :: _) _ _; (refine walk1_callM rfl rfl rfl rfl (by repeat (first | exact evs_nil | apply evs_cons rfl)) rfl ?_; refine ⟨_, _, callM_1 (rdn_old hp (by omega) rfl) (fun e w h1 => c1 w h1), ?_⟩)) | (show Walk1 _ _ _ (⟨_, .call ⟨.value (.func 19), _, _⟩, _, _, _, _⟩ :: _) _ _; (refine walk1_callM rfl rfl rfl rfl (by repeat (first | exact evs_nil | apply evs_cons rfl)) rfl ?_; refine ⟨_, _, callM_1 (rdn_row (n := 33) rfl rfl) (fun e w h1 => c2 _ w h1), ?_⟩)) | (show Walk1 _ _ _ (⟨_, .call ⟨.value (.func 19), _, _⟩, _, _, _, _⟩ :: _) _ _; (refine walk1_callM rfl rfl rfl rfl (by repeat (first | exact evs_nil | apply evs_cons rfl)) rfl ?_; refine ⟨_, _, callM_1 (rdn_row (n := 40) rfl rfl) (fun e w h1 => c3 _ w h1), ?_⟩))) | refine go1 ?_ | refine end_block_other rfl ?_ | refine end_scope (fun _ h => by cases h) ?_ | (refine walk_endD ?_ ?_; (· kernel_rfl)) | refine tri_yesA rfl ?_ | refine tri_noA rfl ?_ | refine tri_trueA rfl ?_ | refine tri_falseA rfl ?_)
      exact nx _ (by omega) (by omega) (by exact ent_keep (by repeat (first | exact hasT_nil | refine hasT_cons rfl ?_ | refine hasT_eq rfl (svi (by omega)) ?_)) (by repeat (first | exact hasR_nil | refine hasR_cons rfl ?_)))
  · obtain rfl : j = ks.length := by omega
    clear next hs hpts
    generalize B ks.length = F at *
    obtain ⟨⟨a, b, c⟩, ⟨a', b', c'⟩⟩ := F
    simp only [P3.c] at *
    repeat (first | (show Walk1 _ _ _ (_ :: _) _ _; (show Walk1 _ _ _ (⟨_, .binOp .lss _ _ _ _, _, _, _, _⟩ :: _) _ _; refine walk1_t (op_ltN rfl rfl rfl (by first | exact evN_const rfl | exact rfl) (by first | exact evN_const rfl | exact rfl)) ?_)) | (show WalkTo _ _ _ _ (_ :: _) _ _ _; first | (show WalkTo _ _ _ _ (⟨_, .load _ _, _, _, _, _⟩ :: _) _ _ _; refine walk_t (op_loads rfl rfl rfl rfl rfl rfl rfl rfl) ?_) | (show WalkTo _ _ _ _ (⟨_, .store _ _ _, _, _, _, _⟩ :: _) _ _ _; refine walk_b (op_stores rfl rfl rfl rfl rfl rfl rfl) ?_)) | refine go1 ?_ | refine end_block_other rfl ?_ | refine end_scope (fun _ h => by cases h) ?_ | (refine walk_endD ?_ ?_; (· kernel_rfl)) | refine tri_yesA rfl ?_ | refine tri_noA rfl ?_ | refine tri_trueA rfl ?_ | refine tri_falseA rfl ?_)
    refine end_ret _ (res_cells2 rfl rfl rfl rfl rfl rfl rfl rfl rfl rfl rfl rfl rfl) ?_
    exact fin_below fun _ => rfl
end Go.Proofs.Ytmpnkknocfaciaa
namespace Go.Proofs.Ytmpnkknocfaciaa
open Go.RowKit
set_option maxRecDepth 100000
set_option maxHeartbeats 1000000
attribute [local irreducible] Calls Walk1 WalkTo Tri EndA
end Go.Proofs.Ytmpnkknocfaciaa
