/- The box of some triangles: walked. No condition. A few triangles are not parted; the middle of a triangle: walked. No condition. Objects told by a state of their own, whatever blocks they lie in: made, changed by methods. No condition. Methods that read what lies beside their object; a walk begun anew from a later world. No condition. Structs built of parts of which some are slices of their own. No condition. -/
import Derived.Test.YtcgmapioelfneaaMgSrt7
import Derived.Test.YtcgmapioelfneaaMgSwp7
import Derived.Test.YtcgmapioelfneaaSymX
namespace Go.Proofs.Ytcgmapioelfneaa
open Go.RowKit
set_option maxRecDepth 100000
set_option maxHeartbeats 4000000
/-- An array that lies in a slice, as a slice. -/
def arrV (v : Value) (off n : Nat) : Value := match v with | .slice (some ⟨b, o2, _⟩) _ _ => .slice (some ⟨b, o2 + off, none⟩) n n | _ => .slice none 0 0
section
variable {C : Ctx} {S : St}
theorem arr3p (A : Array Value) (h : A.size = 3) : ∃ a b c, A = #[a, b, c] := by
  obtain ⟨l⟩ := A
  match l, h with
  | [a, b, c], _ => exact ⟨a, b, c, rfl⟩
variable {ops : Array Oper} {o : Oper}
theorem op_bsliceP2 {t T n : Nat} {parts : Array (Nat × Operand)} {x0 x1 : Operand} {A0 A1 : Array Value} {Z : Array Value} (ho : o.op = .buildSlice t 2 parts) (hp : parts = #[(0, x0), (1, x1)]) (hdn : o.dst = some n) (hg : o.guard = none) (hd : dstB o.dst C.nt = true)
    (h0 : S.ev x0 = some (.c (.agg A0))) (h1 : S.ev x1 = some (.c (.agg A1))) (hu' : tabLook undT t = some (.slice T)) (hs' : tabLook sizT T = some 3) (hz' : tabLook zerT T = some Z) (hZ : Z.size = 3) (s0 : A0.size = 3) (s1 : A1.size = 3) :
    OpG C Try.prog ops o S ⟨[x0, x1].flatMap opT, [], [(n, .s n 0 2 2)], [(n, some (.blk n T (.c (A0 ++ A1))))], [n]⟩ := by
  refine opG_mk hg fun S' g1 g2 g3 e a w hS => ?_
  have hN := hS.newBlk (g3 n (by simp)) T (.c (A0 ++ A1)) (by simp [SA.c])
  have e0 : a.eval x0 = .agg A0 := hS.ev ((ev_like g1 fun _ h => List.mem_flatMap.2 ⟨x0, by simp, h⟩).trans h0)
  have e1 : a.eval x1 = .agg A1 := hS.ev ((ev_like g1 fun _ h => List.mem_flatMap.2 ⟨x1, by simp, h⟩).trans h1)
  have hu := tabAll_look undT_ok hu'
  have hz := tabAll_look zerT_ok hz'
  obtain ⟨zv, hz3, hzc⟩ : ∃ zv, (zeroValue T).run Try.prog w = .ok zv w ∧ zv.cells = Z := by
    cases hb : (Try.prog.info? T) with
    | none => simp [hb] at hz
    | some i =>
      cases hc : i.zero with
      | none => simp [hb, hc] at hz
      | some zz => exact ⟨zz, by simp [zeroValue, typeInfo, hb, hc], by simpa [hb, hc] using hz⟩
  refine wp_value (v := .slice (some ⟨w.heap.size, 0, none⟩) 2 2) (w' := w.alloc (.cells (A0 ++ A1) T)) ?_ ⟨e.set n ⟨w.heap.size, 0, undef⟩, ?_⟩
  · simp only [execOp, ho, hp, Instr.buildSlice, Sem.run_bind, run_underlying hu w, Result.andThen_ok, run_sizeT hs' w, Sem.run_ite]
    simp only [show ¬ (2 * 3 > 2 ^ 24) from by omega, if_false, show ¬ (2 * 3 = 0) from by omega, hz3, Result.andThen_ok, Sem.run_pure, hzc, List.map_toArray, List.map_cons, List.map_nil, e0, e1]
    obtain ⟨z0, z1, z2, rfl⟩ := arr3p Z hZ
    obtain ⟨a0, a1, a2, rfl⟩ := arr3p A0 s0
    obtain ⟨b0, b1, b2, rfl⟩ := arr3p A1 s1
    rw [show Instr.fill (fun i => some (i * 3, 3)) ((Array.range (2 * 3)).map fun x => (#[z0, z1, z2] : Array Value)[x % (#[z0, z1, z2] : Array Value).size]!) [(0, .agg #[a0, a1, a2]), (1, .agg #[b0, b1, b2])] = some (#[a0, a1, a2] ++ #[b0, b1, b2]) from by kernel_rfl]
    simp [newRow]
  · rw [hdn]
    have hd' : dstB (some n) C.nt = true := by rw [← hdn]; exact hd
    have := hN.put hd' (.s n 0 2 2)
    simp only [SV.s, Env.set_self] at this
    exact this

theorem op_cutA {t T : TypeId} {x : Operand} {v : Value} {off len sz m n : Nat} {xs : List Value} (ho : o.op = .slice t x none none none) (hg : o.guard = none) (hd : dstB o.dst C.nt = true) (hx : S.ev x = some (.c (ptrV v off))) (hu' : tabLook undT t = some (.array len T)) (hs' : tabLook sizT T = some sz) (hf : RdV C.w0 m v n xs) (h0 : 0 < n) :
    OpG C Try.prog ops o S ⟨opT x, [], dw o.dst (.c (arrV v off len)), [], []⟩ := by
  obtain ⟨_, a, c, rfl, h⟩ := hf
  rcases h with h | ⟨b, o2, rfl, _⟩
  · omega
  have := op_value (C := C) (P := Try.prog) (ops := ops) (S := S) hg hd [x] [] (.c (arrV (.slice (some ⟨b, o2, none⟩) n c) off len)) fun S' e a w hS h1 h2 => by
    have hev : a.eval x = .pointer (some ⟨b, o2 + off, none⟩) := hS.ev ((h1 x (by simp)).trans hx)
    have hu := tabAll_look undT_ok hu'
    simp [execOp, ho, hev, Instr.sliceAt, Instr.sureAddr, Instr.sliceBounds, run_underlying hu, run_sizeT hs', SV.c, arrV, Sem.run_bind, add_place]
  simpa using this
end
/-- The three corners of a triangle in a slice, as a slice. -/
theorem tri_pts {w : World} {v : Value} {l : List TriS} (h : RdV w 19 v l.length (trisC l)) (hok : ∀ t ∈ l, t.ok) {k : Nat} {t : TriS} (ht : l[k]? = some t) : RdV w 3 (arrV v (k * 19) 3) 3 (ptsC [t.p0, t.p1, t.p2]) := by
  obtain ⟨hl, a, c, rfl, h⟩ := h
  have hk : k < l.length := (List.getElem?_eq_some_iff.1 ht).1
  rcases h with h | ⟨b, o2, rfl, hr⟩
  · omega
  refine ⟨rfl, some ⟨b, o2 + k * 19, none⟩, 3, rfl, .inr ⟨b, o2 + k * 19, rfl, fun j u hj => ?_⟩⟩
  have hj9 : j < 9 := (List.getElem?_eq_some_iff.1 hj).1
  have h9 := tris_P l hok k t ht
  have e : (ptsC [t.p0, t.p1, t.p2]) = (P9 t.p0 t.p1 t.p2).toList := rfl
  rw [e, ← h9, List.getElem?_take_of_lt hj9, List.getElem?_drop] at hj
  have := hr (k * 19 + j) u hj
  rw [Nat.add_assoc]
  exact this
def zT : TriS := ⟨zP, zP, zP, [], 0⟩
def cornersT (t : TriS) : List P3 := [t.p0, t.p1, t.p2]
def tbox (t : TriS) : P3 × P3 := boxP (cornersT t)
/-- The box of the first triangles of an order. -/
def bbN (l : List TriS) (ks : List Nat) : Nat → P3 × P3
  | 0 => (zP, zP)
  | j + 1 => if j = 0 then tbox (l.getD (ks.getD 0 0) zT) else ((boxP [(bbN l ks j).1, (tbox (l.getD (ks.getD j 0) zT)).1]).1, (boxP [(bbN l ks j).2, (tbox (l.getD (ks.getD j 0) zT)).2]).2)
attribute [local irreducible] Calls Walk1 WalkTo Tri EndA
theorem bvhBox_any (l : List TriS) (hok : ∀ t ∈ l, t.ok) (ks : List Nat) (hks : ∀ k ∈ ks, k < l.length) (hl : ks.length ≤ 100000) (vl vo : Value) (w : World) (hvl : RdV w 19 vl l.length (trisC l)) (hvo : RdV w 1 vo ks.length (ks.map fun k => Value.int .i64 ((k : Nat) : Int))) :
    Calls Try.prog 17 #[vl, vo] w fun e w' => e = .returned (.tuple #[.agg (bbN l ks ks.length).1.c, .agg (bbN l ks ks.length).2.c]) ∧ Below w.heap.size w w' := by
  have hz : bbN l ks 0 = (zP, zP) := rfl
  have hs : ∀ j, bbN l ks (j + 1) = if j = 0 then tbox (l.getD (ks.getD 0 0) zT) else ((boxP [(bbN l ks j).1, (tbox (l.getD (ks.getD j 0) zT)).1]).1, (boxP [(bbN l ks j).2, (tbox (l.getD (ks.getD j 0) zT)).2]).2) := fun _ => rfl
  have hpts := fun (k : Nat) (t : TriS) (ht : l[k]? = some t) => tri_pts hvl hok ht
  have cB := fun (ps : List P3) (hps : ps.length ≤ 100000) (v : Value) (w : World) h => boxT_any v ps w h hps
  have hlen := tris_len l hok
  generalize bbN l ks = B at *
  refine calls_tri Try.func17 rfl Try.ntmps17 rfl ?_
  repeat (first | (show Walk1 _ _ _ (_ :: _) _ _; first | (show HW1 (.move _); first | refine wz40 ?_ | refine wz1 ?_) | (show HW1 (.alloc _); refine wz6 ?_) | (show HW1 (.call ⟨.builtin .len, _, _⟩); refine wz27 ?_)) | refine go1 ?_ | refine end_block_other rfl ?_ | refine end_scope (fun _ h => by cases h) ?_ | (refine walk_endD ?_ ?_; (· kernel_rfl)) | refine tri_yesA rfl ?_ | refine tri_noA rfl ?_ | refine tri_trueA rfl ?_ | refine tri_falseA rfl ?_)
  refine tri_loop (X := Nat) (fun j => ⟨[(12, SV.c (.int .i64 ((j : Nat) : Int))), (11, SV.c (.int .i64 ((ks.length : Nat) : Int))), (10, .c vo), (4, .p 4 0), (5, .p 5 0), (0, .c vl)], [(4, some (.blk 4 32 (.c (B j).1.c))), (5, some (.blk 5 32 (.c (B j).2.c)))]⟩)
    (fun j => j ≤ ks.length) (fun j => ks.length - j) 0 (by omega) (by rw [hz]; exact ent_keep (by repeat (first | exact hasT_nil | refine hasT_cons rfl ?_ | refine hasT_eq rfl (svi (by omega)) ?_)) (by repeat (first | exact hasR_nil | refine hasR_cons rfl ?_))) ?_
  intro j hj K next
  by_cases h : j < ks.length
  · obtain ⟨k, hkj⟩ : ∃ k, ks[j]? = some k := ⟨_, List.getElem?_eq_getElem h⟩
    have hkl := hks k (List.mem_of_getElem? hkj)
    obtain ⟨t, htk⟩ : ∃ t, l[k]? = some t := ⟨_, List.getElem?_eq_getElem hkl⟩
    have hg : (ks.map fun k => Value.int .i64 ((k : Nat) : Int))[j]? = some (.int .i64 ((k : Nat) : Int)) := by rw [List.getElem?_map, hkj]; rfl
    have hp : RdV w 3 (arrV vl (0 + k * 19 + 0) 3) 3 (ptsC [t.p0, t.p1, t.p2]) := by rw [Nat.zero_add, Nat.add_zero]; exact hpts k t htk
    have e1 : ks.getD j 0 = k := by rw [List.getD_eq_getElem?_getD, hkj]; rfl
    have e2 : l.getD k zT = t := by rw [List.getD_eq_getElem?_getD, htk]; rfl
    have c1 := fun w h => cB [t.p0, t.p1, t.p2] (by simp) (arrV vl (0 + k * 19 + 0) 3) w h
    have hsj := hs j
    have nx := fun S' => next S' (j + 1)
    rw [hsj] at nx
    have hb : tbox t = boxP [t.p0, t.p1, t.p2] := rfl
    by_cases h0 : j = 0
    · subst h0
      rw [if_pos rfl, e1, e2, hb] at nx
      generalize boxP [t.p0, t.p1, t.p2] = F at *
      obtain ⟨⟨a, b, c⟩, ⟨a', b', c'⟩⟩ := F
      simp only [P3.c] at nx c1 ⊢
      clear next hs hpts cB hsj hb
      generalize B 0 = B0 at *
      repeat (first | (show Walk1 _ _ _ (_ :: _) _ _; first | (show HW1 (.move _); refine wz1 ?_) | (show HW1 (.assign _); refine wz2 ?_) | (show HW1 (.binOp .add _ _ _ _); refine wz10 ?_) | (show HW1 (.binOp .lss _ _ _ _); refine wz5 ?_) | (show HW1 (.binOp .eql _ _ _ _); refine wz30 ?_) | (show HW1 (.indexAddr _ _ _); first | refine wz80 ?_ | refine wz26 ?_) | (show HW1 (.load _ _); refine wz44 ?_) | (show HW1 (.store _ _ _); refine wz14 ?_) | (show HW1 (.alloc _); refine wz6 ?_) | (show HW1 (.fieldAddr _ _ _); refine wz38 ?_) | (show HW1 (.extract _ _); first | refine wz16 ?_ | refine wz15 ?_) | (show HW1 (.slice _ _ _ _ _); refine wz99 ?_) | (show HW1 (.call ⟨.value (.func 13), _, _⟩); (refine cwalk1M 13 ?_; refine ⟨_, _, callM_1 (rdn_old hp (by omega) rfl) (fun e w h1 => c1 w h1), ?_⟩))) | (show WalkTo _ _ _ _ (_ :: _) _ _ _; first | (show HW2 (.load _ _); refine wz22 ?_) | (show HW2 (.store _ _ _); refine wz48 ?_)) | refine go1 ?_ | refine end_block_other rfl ?_ | refine end_scope (fun _ h => by cases h) ?_ | (refine walk_endD ?_ ?_; (· kernel_rfl)) | refine tri_yesA rfl ?_ | refine tri_noA rfl ?_ | refine tri_trueA rfl ?_ | refine tri_falseA rfl ?_)
      exact nx _ (by omega) (by omega) (by exact ent_kp)
    · rw [if_neg h0, e1, e2, hb] at nx
      have c2 := fun v w h => cB [(B j).1, (boxP [t.p0, t.p1, t.p2]).1] (by simp) v w h
      have c3 := fun v w h => cB [(B j).2, (boxP [t.p0, t.p1, t.p2]).2] (by simp) v w h
      generalize boxP [t.p0, t.p1, t.p2] = F at *
      generalize B j = Bj at *
      obtain ⟨⟨a, b, c⟩, ⟨a', b', c'⟩⟩ := F
      obtain ⟨⟨x, y, z⟩, ⟨x', y', z'⟩⟩ := Bj
      simp only at nx c2 c3
      generalize boxP [⟨x, y, z⟩, ⟨a, b, c⟩] = G at *
      generalize boxP [⟨x', y', z'⟩, ⟨a', b', c'⟩] = G' at *
      obtain ⟨⟨g1, g2, g3⟩, ⟨g4, g5, g6⟩⟩ := G
      obtain ⟨⟨k1, k2, k3⟩, ⟨k4, k5, k6⟩⟩ := G'
      simp only [P3.c] at nx c1 c2 c3 ⊢
      clear next hs hpts cB hsj hb
      repeat (first | (show Walk1 _ _ _ (_ :: _) _ _; first | (show HW1 (.move _); refine wz1 ?_) | (show HW1 (.assign _); refine wz2 ?_) | (show HW1 (.binOp .add _ _ _ _); refine wz10 ?_) | (show HW1 (.binOp .lss _ _ _ _); refine wz5 ?_) | (show HW1 (.binOp .eql _ _ _ _); refine wz30 ?_) | (show HW1 (.indexAddr _ _ _); first | refine wz80 ?_ | refine wz26 ?_) | (show HW1 (.load _ _); first | refine wz44 ?_ | refine wz9 ?_) | (show HW1 (.store _ _ _); refine wz14 ?_) | (show HW1 (.alloc _); refine wz6 ?_) | (show HW1 (.fieldAddr _ _ _); refine wz38 ?_) | (show HW1 (.extract _ _); first | refine wz16 ?_ | refine wz15 ?_) | (show HW1 (.slice _ _ _ _ _); refine wz99 ?_) | (show HW1 (.buildSlice _ 2 _); refine wz124 ?_) | (show HW1 (.call ⟨.value (.func 13), _, _⟩); (refine cwalk1M 13 ?_; refine ⟨_, _, callM_1 (rdn_old hp (by omega) rfl) (fun e w h1 => c1 w h1), ?_⟩)) | (show HW1 (.call ⟨.value (.func 13), _, _⟩); (refine cwalk1M 13 ?_; refine ⟨_, _, callM_1 (rdn_row (n := 33) rfl rfl) (fun e w h1 => c2 _ w h1), ?_⟩)) | (show HW1 (.call ⟨.value (.func 13), _, _⟩); (refine cwalk1M 13 ?_; refine ⟨_, _, callM_1 (rdn_row (n := 40) rfl rfl) (fun e w h1 => c3 _ w h1), ?_⟩))) | refine go1 ?_ | refine end_block_other rfl ?_ | refine end_scope (fun _ h => by cases h) ?_ | (refine walk_endD ?_ ?_; (· kernel_rfl)) | refine tri_yesA rfl ?_ | refine tri_noA rfl ?_ | refine tri_trueA rfl ?_ | refine tri_falseA rfl ?_)
      exact nx _ (by omega) (by omega) (by exact ent_kp)
  · obtain rfl : j = ks.length := by omega
    clear next hs hpts
    generalize B ks.length = F at *
    obtain ⟨⟨a, b, c⟩, ⟨a', b', c'⟩⟩ := F
    simp only [P3.c] at *
    repeat (first | (show Walk1 _ _ _ (_ :: _) _ _; (show HW1 (.binOp .lss _ _ _ _); refine wz5 ?_)) | (show WalkTo _ _ _ _ (_ :: _) _ _ _; first | (show HW2 (.load _ _); refine wz22 ?_) | (show HW2 (.store _ _ _); refine wz48 ?_)) | refine go1 ?_ | refine end_block_other rfl ?_ | refine end_scope (fun _ h => by cases h) ?_ | (refine walk_endD ?_ ?_; (· kernel_rfl)) | refine tri_yesA rfl ?_ | refine tri_noA rfl ?_ | refine tri_trueA rfl ?_ | refine tri_falseA rfl ?_)
    refine end_ret _ (res_cells2 rfl rfl rfl rfl rfl rfl rfl rfl rfl rfl rfl rfl rfl) ?_
    exact fin_below fun _ => rfl
end Go.Proofs.Ytcgmapioelfneaa
namespace Go.Proofs.Ytcgmapioelfneaa
open Go.RowKit
set_option maxRecDepth 100000
set_option maxHeartbeats 1000000
attribute [local irreducible] Calls Walk1 WalkTo Tri EndA
end Go.Proofs.Ytcgmapioelfneaa
namespace Go.Proofs.Ytcgmapioelfneaa
open Go.RowKit
set_option maxRecDepth 100000
set_option maxHeartbeats 1000000
/-- The blocks that a value leads to. -/
def vblk : Value → List Nat
  | .tuple xs => xs.toList.flatMap fun v => v.ownBlock.toList
  | v => v.ownBlock.toList
/-- What is known of an object: its block, what else it leads to, its state. -/
structure Obj (σ : Type) where
  ok : World → Nat → Value → σ → Prop
  loc : ∀ {w w' : World} {b : Nat} {v : Value} {s : σ}, (∀ x, (x = b ∨ x ∈ vblk v) → w'.heap[x]? = w.heap[x]?) → ok w b v s → ok w' b v s
  lt : ∀ {w : World} {b : Nat} {v : Value} {s : σ} {x : Nat}, ok w b v s → (x = b ∨ x ∈ vblk v) → x < w.heap.size
def Res.obj {σ : Type} (n : Nat) (O : Obj σ) (s : σ) : Res where
  foot e x := x = (e n).b ∨ x ∈ vblk (e n).v
  ok e w := O.ok w (e n).b (e n).v s
  sup := [n]
  wr := true
  ind e e' h := by have h1 := h n (by simp); simp only [h1, and_self]
  loc _ _ _ h hok := O.loc h hok
  lt _ _ _ hok hf := O.lt hok hf
/-- The name stands for this block and this value. -/
def Res.at_ (n b : Nat) (v : Value) : Res where
  foot _ _ := False
  ok e _ := (e n).b = b ∧ (e n).v = v
  sup := [n]
  wr := false
  ind e e' h := ⟨rfl, by rw [h n (by simp)]⟩
  loc _ _ _ _ h := h
  lt _ _ _ _ h := h.elim
section
variable {C : Ctx} {ops : Array Oper} {S : St} {o : Oper}
theorem St.some_fresh (S : St) : ∃ d, S.fresh d := by
  obtain ⟨d, _, h2⟩ := above 0 (S.t.flatMap (fun p => p.2.sup) ++ S.h.flatMap (fun p => match p.2 with | some r => r.sup | none => []))
  refine ⟨d, fun i v hv hdv => ?_, fun m r hm hdr => ?_⟩
  · exact absurd (h2 d (List.mem_append_left _ (List.mem_flatMap.2 ⟨_, look_some_mem hv, hdv⟩))) (by omega)
  · unfold St.res at hm
    cases hl : look S.h m with
    | none => rw [hl] at hm; cases hm
    | some x =>
      rw [hl] at hm
      cases hm
      exact absurd (h2 d (List.mem_append_right _ (List.mem_flatMap.2 ⟨_, look_some_mem hl, hdr⟩))) (by omega)
theorem Env.set_same (e : Env) (d : Nat) : e.set d (e d) = e := by
  funext m
  unfold Env.set
  split
  · rename_i h; rw [h]
  · rfl
theorem Holds.drop {e : Env} {a : Act} {w : World} (hS : Holds C S e a w) (n : Nat) : Holds C ⟨S.t, (n, none) :: S.h⟩ e a w := by
  have key : ∀ q r, (St.mk S.t ((n, none) :: S.h)).res q = some r → S.res q = some r := fun q r h => by
    rw [St.res_cons] at h
    split at h
    · cases h
    · exact h
  exact ⟨hS.defers, hS.size, hS.tmp, fun q r h => hS.res q r (key q r h), fun q r h => hS.mine q r (key q r h), fun q q' r r' h h' => hS.sep q q' r r' (key q r h) (key q' r' h'), hS.frame⟩
theorem Holds.chgObj {σ : Type} {e : Env} {a : Act} {w w' : World} (hS : Holds C S e a w) {k n : Nat} {O : Obj σ} {s s' : σ} (hr : S.res k = some (.obj n O s)) (hok : O.ok w' (e n).b (e n).v s') (hx : BelowX w w' ((e n).b :: vblk (e n).v)) : Holds C ⟨S.t, (k, some (.obj n O s')) :: S.h⟩ e a w' := by
  obtain ⟨d, hd⟩ := S.some_fresh
  have h1 := hS.chg (w' := w') [(k, .obj n O s')] [k] hd (e d) hx.os hx.tape hx.output hx.size (fun q hk r hr' => by
    rcases List.mem_cons.1 hk with rfl | hk
    · rw [hr] at hr'; cases hr'; rfl
    · cases hk) (fun b hb hnot => hx.block b hb fun hbm => hnot k (by simp) _ hr (by
      rcases List.mem_cons.1 hbm with h | h
      · exact .inl h
      · exact .inr h)) (fun p hp => by
    rcases List.mem_cons.1 hp with rfl | hp
    · rw [Env.set_same]; exact hok
    · cases hp) (fun p hp b hb => by
    rcases List.mem_cons.1 hp with rfl | hp
    · rw [Env.set_same] at hb; exact .inl ⟨k, by simp, _, hr, hb⟩
    · cases hp) (fun p hp q hq hne => by
    rcases List.mem_cons.1 hp with rfl | hp
    · rcases List.mem_cons.1 hq with rfl | hq
      · exact absurd rfl hne
      · cases hq
    · cases hp)
  rw [Env.set_same] at h1
  refine h1.like ⟨fun _ => rfl, fun q => ?_⟩
  show (St.mk S.t ((k, some (.obj n O s')) :: S.h)).res q = (St.mk S.t ((k, some (.obj n O s')) :: (k, none) :: S.h)).res q
  simp only [St.res_cons]
  split <;> rfl
theorem Holds.newObjO {σ : Type} {e : Env} {a : Act} {w w' : World} (hS : Holds C S e a w) {n b : Nat} (k : Nat) {v : Value} {O : Obj σ} {s : σ} (hf : S.fresh n) (hok : O.ok w' b v s) (hnew : ∀ x, (x = b ∨ x ∈ vblk v) → w.heap.size ≤ x) (hb : Below w.heap.size w w') : Holds C ⟨S.t, (k, some (.obj n O s)) :: S.h⟩ (e.set n ⟨b, 0, v⟩) a w' := by
  have h1 := hS.chg (w' := w') [(k, .obj n O s)] [] hf ⟨b, 0, v⟩ hb.os hb.tape hb.output hb.size (fun q hk => by cases hk) (fun x hx _ => hb.block x hx) (fun p hp => by
    rcases List.mem_cons.1 hp with rfl | hp
    · show O.ok w' _ _ s
      rw [Env.set_self]; exact hok
    · cases hp) (fun p hp x hx => by
    rcases List.mem_cons.1 hp with rfl | hp
    · right
      have hx : x = ((e.set n ⟨b, 0, v⟩) n).b ∨ x ∈ vblk ((e.set n ⟨b, 0, v⟩) n).v := hx
      rw [Env.set_self] at hx
      exact hnew x hx
    · cases hp) (fun p hp q hq hne => by
    rcases List.mem_cons.1 hp with rfl | hp
    · rcases List.mem_cons.1 hq with rfl | hq
      · exact absurd rfl hne
      · cases hq
    · cases hp)
  exact h1
section
variable {l : List Oper} {t : List (Nat × SV)} {h : List (Nat × Option Res)} {d : Nat} {f j : FuncId} {xs : Array Operand} {ats : Array TypeId} {vs : List SV}
end
/-! ### a function that takes such an object -/
/-! ### reading where little has changed -/
theorem RdV.locB {w w' : World} {size : Nat} {v : Value} {n : Nat} {xs : List Value} (h : RdV w size v n xs) (hb : ∀ x, v.ownBlock = some x → w'.heap[x]? = w.heap[x]?) : RdV w' size v n xs := by
  obtain ⟨hl, a, c, rfl, h⟩ := h
  refine ⟨hl, a, c, rfl, ?_⟩
  rcases h with h | ⟨b, off, rfl, h⟩
  · exact .inl h
  · refine .inr ⟨b, off, rfl, fun j u hu => ?_⟩
    rw [World.cell?_of_block (hb b rfl)]
    exact h j u hu
theorem FS.locB {w w' : World} {size : Nat} {v : Value} {n : Nat} {xs : List Value} (h : FS w size v n xs) (hb : ∀ x, v.ownBlock = some x → w'.heap[x]? = w.heap[x]?) : FS w' size v n xs := ⟨h.1.locB hb, h.2⟩
end
end Go.Proofs.Ytcgmapioelfneaa
namespace Go.Proofs.Ytcgmapioelfneaa
open Go.RowKit
set_option maxRecDepth 100000
set_option maxHeartbeats 1000000
theorem BelowX.join {w w' w'' : World} {m m' : List Nat} (h : BelowX w w' m) (h' : BelowX w' w'' m') (hm : ∀ x ∈ m', x ∈ m ∨ w.heap.size ≤ x) : BelowX w w'' m := ⟨h'.os.trans h.os, h'.tape.trans h.tape, h'.output.trans h.output, Nat.le_trans h.size h'.size, fun k hk hkm => (h'.block k (Nat.lt_of_lt_of_le hk h.size) (fun hk' => (hm k hk').elim hkm (by omega))).trans (h.block k hk hkm)⟩
theorem BelowX.more {w w' : World} {m m' : List Nat} (h : BelowX w w' m) (hm : ∀ x ∈ m, x ∈ m') : BelowX w w' m' := ⟨h.os, h.tape, h.output, h.size, fun k hk hkm => h.block k hk fun hk' => hkm (hm k hk')⟩
section
variable {C : Ctx} {ops : Array Oper} {S : St} {o : Oper}
section
variable {l : List Oper} {t : List (Nat × SV)} {h : List (Nat × Option Res)} {d : Nat} {f j : FuncId} {xs : Array Operand} {ats : Array TypeId} {vs : List SV}
end
/-! ### begun anew -/
/-- The state from a later world on: some resources are kept; those that may be written lie in m. -/
theorem Holds.anew {e : Env} {a : Act} {w : World} (hS : Holds C S e a w) {t : List (Nat × SV)} {h : List (Nat × Option Res)} (m : List Nat) (ht : ∀ i v, look t i = some v → ∃ u, S.tmp i = some u ∧ u.den e = v.den e)
    (hr : ∀ n r, (St.mk t h).res n = some r → (S.res n = some r ∨ (r.wr = false ∧ (∀ b, ¬ r.foot e b) ∧ r.ok e w)))
    (hm : ∀ n r, (St.mk t h).res n = some r → r.wr = true → ∀ b, r.foot e b → b ∈ m) : Holds ⟨C.nt, w, m⟩ ⟨t, h⟩ e a w where
  defers := hS.defers
  size := hS.size
  tmp i v hv := by
    obtain ⟨u, h1, h2⟩ := ht i v hv
    rw [hS.tmp i u h1, h2]
  res n r hn := by
    rcases hr n r hn with h1 | h1
    · exact hS.res n r h1
    · exact h1.2.2
  mine n r hn hw b hb := .inr (hm n r hn hw b hb)
  sep n k r r' hn hk hne hw b hb hb' := by
    rcases hr n r hn with h1 | h1
    · rcases hr k r' hk with h2 | h2
      · exact hS.sep n k r r' h1 h2 hne hw b hb hb'
      · exact h2.2.1 b hb'
    · rw [h1.1] at hw; cases hw
  frame := ⟨rfl, rfl, rfl, Nat.le_refl _, fun _ _ _ => rfl⟩
end
end Go.Proofs.Ytcgmapioelfneaa
namespace Go.Proofs.Ytcgmapioelfneaa
open Go.RowKit
set_option maxRecDepth 100000
set_option maxHeartbeats 1000000
section
variable {C : Ctx} {ops : Array Oper} {S : St} {o : Oper}
theorem op_buildC {ty : TypeId} {parts : List (Nat × Operand)} {vs : List Value} {fs : Array Field} {Z : Array Value} (R : Array Value) (ho : o.op = .build ty parts.toArray) (hg : o.guard = none) (hd : dstB o.dst C.nt = true) (hx : (parts.map (·.2)).map S.ev = vs.map fun v => some (SV.c v)) (hu' : tabLook undT ty = some (.struct fs)) (hz' : tabLook zerT ty = some Z) (hss : (fs.all fun f => (tabLook sizT f.type).isSome) = true)
    (hf : Instr.fill (fun i => (fs.map fun f => (f.offset, (tabLook sizT f.type).getD 0))[i]?) Z ((parts.map (·.1)).zip vs) = some R) :
    OpG C Try.prog ops o S ⟨(parts.map (·.2)).flatMap opT, [], dw o.dst (.c (.agg R)), [], []⟩ := by
  have := op_value (C := C) (P := Try.prog) (ops := ops) (S := S) hg hd (parts.map (·.2)) [] (.c (.agg R)) fun S' e a w hS h1 h2 => by
    have hu := tabAll_look undT_ok hu'
    have hz := tabAll_look zerT_ok hz'
    have hev : ∀ (ps : List (Nat × Operand)) (us : List Value), (ps.map (·.2)).map S.ev = us.map (fun v => some (SV.c v)) → (∀ x ∈ ps.map (·.2), S'.ev x = S.ev x) → ps.map (fun p => (p.1, a.eval p.2)) = (ps.map (·.1)).zip us := by
      intro ps
      induction ps with
      | nil => intro us h _; cases us with
        | nil => rfl
        | cons u us => simp at h
      | cons p ps ih =>
        intro us h h3
        cases us with
        | nil => simp at h
        | cons u us =>
          simp only [List.map_cons, List.cons.injEq] at h
          have e1 : a.eval p.2 = u := hS.ev ((h3 p.2 (by simp)).trans h.1)
          simp only [List.map_cons, List.zip_cons_cons, e1]
          rw [ih us h.2 fun x hx => h3 x (by simp only [List.map_cons, List.mem_cons]; exact .inr hx)]
    have hev := hev parts vs hx h1
    obtain ⟨zv, hz3, hzc⟩ : ∃ zv, (zeroValue ty).run Try.prog w = .ok zv w ∧ zv.cells = Z := by
      cases hb : (Try.prog.info? ty) with
      | none => simp [hb] at hz
      | some i =>
        cases hc : i.zero with
        | none => simp [hb, hc] at hz
        | some zz => exact ⟨zz, by simp [zeroValue, typeInfo, hb, hc], by simpa [hb, hc] using hz⟩
    have hall : ∀ f ∈ fs.toList, ∃ sz, tabLook sizT f.type = some sz := fun f hf => by
      have := Array.all_eq_true_iff_forall_mem.1 hss f (by simpa using hf)
      exact Option.isSome_iff_exists.1 this
    have hmap : ∀ l : List Field, (∀ f ∈ l, ∃ sz, tabLook sizT f.type = some sz) → (l.mapM fun (f : Field) => do pure (f.offset, ← sizeOf f.type)).run Try.prog w = .ok (l.map fun f => (f.offset, (tabLook sizT f.type).getD 0)) w := by
      intro l
      induction l with
      | nil => intro _; rfl
      | cons f l ih =>
        intro h
        obtain ⟨sz, hsz⟩ := h f (by simp)
        simp only [List.mapM_cons, Sem.run_bind, run_sizeT hsz w, Result.andThen_ok, Sem.run_pure, ih fun g hg => h g (by simp [hg]), List.map_cons, hsz, Option.getD_some]
    have hmapA : (fs.mapM fun (f : Field) => do pure (f.offset, ← sizeOf f.type)).run Try.prog w = .ok (fs.map fun f => (f.offset, (tabLook sizT f.type).getD 0)) w := by
      rw [Array.mapM_eq_mapM_toList]
      have e1 : (fs.toList.map fun f => (f.offset, (tabLook sizT f.type).getD 0)).toArray = fs.map fun f => (f.offset, (tabLook sizT f.type).getD 0) := by
        apply Array.ext'; simp
      simp only [map_eq_pure_bind, Sem.run_bind, hmap fs.toList hall, Result.andThen_ok, Sem.run_pure, e1]
    simp only [execOp, ho, Instr.build, Sem.run_bind, hz3, Result.andThen_ok, run_underlying hu w, hmapA, hzc, List.map_toArray, hev, hf, Sem.run_pure]
    rfl
  simpa using this
end
end Go.Proofs.Ytcgmapioelfneaa
