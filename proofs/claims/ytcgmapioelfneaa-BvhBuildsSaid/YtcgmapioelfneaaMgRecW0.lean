/- Slices of a few values and of rows; methods with a slice beside the object's own; rows read beside an object. No condition. How an order is parted, plainly. No condition. How an order is parted: walked. No condition. -/
import Derived.Test.YtcgmapioelfneaaSymX
import Derived.Test.YtcgmapioelfneaaMgBld3
namespace Go.Proofs.Ytcgmapioelfneaa
open Go.RowKit
set_option maxRecDepth 100000
set_option maxHeartbeats 1000000
section
variable {C : Ctx} {ops : Array Oper} {S : St} {o : Oper}
theorem op_loadsX {ty : TypeId} {x : Operand} {v : Value} {n off sz m : Nat} {xs : List Value} {B : List Value} {d : TypeDesc} (ho : o.op = .load ty x) (hg : o.guard = none) (hd : dstB o.dst C.nt = true) (hx : S.ev x = some (.c (ptrV v off))) (hf : RdX C.w0 C.m sz v n xs) (hu' : tabLook undT ty = some d) (hda : d.isRow = true) (hi' : tabLook sizT ty = some m) (hm : 0 < m) (hb : off + m ≤ xs.length) (hB : (xs.drop off).take m = B) :
    OpG C Try.prog ops o S ⟨opT x, [], dw o.dst (.c (.agg B.toArray)), [], []⟩ := by
  have hu := tabAll_look undT_ok hu'
  have hi := tabAll_look sizT_ok hi'
  have hBl : B.length = m := by rw [← hB, List.length_take, List.length_drop]; omega
  have := op_value (C := C) (P := Try.prog) (ops := ops) (S := S) hg hd [x] [] (.c (.agg B.toArray)) fun S' e a w hS h1 h2 => by
    have hev : a.eval x = ptrV v off := hS.ev ((h1 x (by simp)).trans hx)
    obtain ⟨hl, ad, c, rfl, hr⟩ := hf w hS.frame.belowX
    rcases hr with h3 | ⟨b, o2, rfl, hr⟩
    · subst h3; omega
    · have hra : w.rangeAt b (o2 + off) B := fun j u hj => by
        have hjl : j < m := by have := (List.getElem?_eq_some_iff.1 hj).1; omega
        rw [← hB, List.getElem?_take, if_pos hjl, List.getElem?_drop] at hj
        have hc := hr (off + j) u hj
        rw [Nat.add_assoc]
        exact hc
      have hl := run_loadVar_mid (P := Try.prog) w b (o2 + off) ty B d hra hu hda (by rw [hi, hBl])
      have hev : a.eval x = .pointer (some ⟨b, o2 + off, none⟩) := hev
      simp [execOp, ho, hev, Instr.loadAt, Instr.sureAddr, Sem.run_bind, hl, SV.c]
  simpa using this
end
end Go.Proofs.Ytcgmapioelfneaa
namespace Go.Proofs.Ytcgmapioelfneaa
open Go.RowKit
set_option maxRecDepth 100000
set_option maxHeartbeats 1000000
theorem axP_min (a b : P3) (k : Nat) : axP (minP a b) k = min (axP a k) (axP b k) := by
  unfold axP minP
  split
  · rfl
  · split <;> rfl
theorem axP_max (a b : P3) (k : Nat) : axP (maxP a b) k = max (axP a k) (axP b k) := by
  unfold axP maxP
  split
  · rfl
  · split <;> rfl
theorem boxN_le (ps : List P3) (k : Nat) : ∀ j, j ≤ ps.length → ∀ i, i < j → axP (boxN ps j).1 k ≤ axP (ps.getD i zP) k ∧ axP (ps.getD i zP) k ≤ axP (boxN ps j).2 k
  | 0, _, i, hi => by omega
  | j + 1, hj, i, hi => by
    rw [boxN]
    by_cases h0 : j = 0
    · subst h0
      obtain rfl : i = 0 := by omega
      rw [if_pos rfl, axP_min, axP_max]
      omega
    · rw [if_neg h0, axP_min, axP_max]
      by_cases hij : i = j
      · subst hij; omega
      · have := boxN_le ps k j (by omega) i (by omega)
        omega
theorem boxN_at (ps : List P3) (k : Nat) : ∀ j, j < ps.length → (∃ i, i ≤ j ∧ axP (ps.getD i zP) k = axP (boxN ps (j + 1)).1 k) ∧ ∃ i, i ≤ j ∧ axP (ps.getD i zP) k = axP (boxN ps (j + 1)).2 k
  | 0, _ => by
    rw [boxN, if_pos rfl, axP_min, axP_max]
    exact ⟨⟨0, Nat.le_refl _, by omega⟩, 0, Nat.le_refl _, by omega⟩
  | j + 1, hj => by
    obtain ⟨⟨i1, h1, e1⟩, i2, h2, e2⟩ := boxN_at ps k j (by omega)
    rw [boxN, if_neg (by omega), axP_min, axP_max]
    constructor
    · by_cases h : axP (boxN ps (j + 1)).1 k ≤ axP (ps.getD (j + 1) zP) k
      · exact ⟨i1, by omega, by omega⟩
      · exact ⟨j + 1, Nat.le_refl _, by omega⟩
    · by_cases h : axP (ps.getD (j + 1) zP) k ≤ axP (boxN ps (j + 1)).2 k
      · exact ⟨i2, by omega, by omega⟩
      · exact ⟨j + 1, Nat.le_refl _, by omega⟩
theorem boxP_le {ps : List P3} {p : P3} (h : p ∈ ps) (k : Nat) : axP (boxP ps).1 k ≤ axP p k ∧ axP p k ≤ axP (boxP ps).2 k := by
  obtain ⟨i, hi, rfl⟩ := List.getElem_of_mem h
  have := boxN_le ps k ps.length (Nat.le_refl _) i hi
  rwa [List.getD_eq_getElem?_getD, List.getElem?_eq_getElem hi] at this
theorem boxP_at {ps : List P3} (h : ps ≠ []) (k : Nat) : (∃ p ∈ ps, axP p k = axP (boxP ps).1 k) ∧ ∃ p ∈ ps, axP p k = axP (boxP ps).2 k := by
  obtain ⟨n, hn⟩ : ∃ n, ps.length = n + 1 := ⟨ps.length - 1, by have := List.length_pos_iff.2 h; omega⟩
  obtain ⟨⟨i1, h1, e1⟩, i2, h2, e2⟩ := boxN_at ps k n (by omega)
  unfold boxP
  rw [hn]
  constructor
  · refine ⟨_, List.getElem_mem (show i1 < ps.length by omega), ?_⟩
    rw [← e1, List.getD_eq_getElem?_getD, List.getElem?_eq_getElem]; rfl
  · refine ⟨_, List.getElem_mem (show i2 < ps.length by omega), ?_⟩
    rw [← e2, List.getD_eq_getElem?_getD, List.getElem?_eq_getElem]; rfl
theorem smB_ax {m : Int} {p : P3} : smB m p ↔ ∀ k, k < 3 → -m ≤ axP p k ∧ axP p k ≤ m := by
  unfold smB
  constructor
  · intro h k hk
    unfold axP
    split
    · exact h.1
    · split
      · exact h.2.1
      · exact h.2.2
  · intro h
    exact ⟨h 0 (by omega), h 1 (by omega), h 2 (by omega)⟩
theorem boxP_sm {ps : List P3} (h : ps ≠ []) {m : Int} (hp : ∀ p ∈ ps, smB m p) : smB m (boxP ps).1 ∧ smB m (boxP ps).2 := by
  rw [smB_ax, smB_ax]
  constructor
  · intro k hk
    obtain ⟨⟨p, h1, h2⟩, _⟩ := boxP_at h k
    rw [← h2]
    exact smB_ax.1 (hp p h1) k hk
  · intro k hk
    obtain ⟨_, p, h1, h2⟩ := boxP_at h k
    rw [← h2]
    exact smB_ax.1 (hp p h1) k hk
/-- The middles of an order's triangles, their box, the longest axis. -/
def msL (l : List TriS) (ks : List Nat) : List P3 := ks.map fun i => midT (l.getD i zT)
def axN (lo hi : P3) : Nat → Nat
  | 0 => 0
  | j + 1 => if axP hi (j + 1) - axP lo (j + 1) > axP hi (axN lo hi j) - axP lo (axN lo hi j) then j + 1 else axN lo hi j
theorem axN_le (lo hi : P3) : ∀ j, axN lo hi j ≤ j
  | 0 => Nat.le_refl _
  | j + 1 => by have := axN_le lo hi j; rw [axN]; split <;> omega
def rkL (r : Nat → Bool) (i : Nat) : Int := if r i then 1 else 0
/-- Where an order is parted, and how it is sorted. -/
def partL (l : List TriS) (ks : List Nat) (d : Nat) : Int × List Nat :=
  if ks.length ≤ 4 then (0, ks)
  else if axP (boxP (msL l ks)).1 (axN (boxP (msL l ks)).1 (boxP (msL l ks)).2 2) = axP (boxP (msL l ks)).2 (axN (boxP (msL l ks)).1 (boxP (msL l ks)).2 2) then (0, ks)
  else if d > 31 then (((ks.length / 2 : Nat) : Int), sortK (kyL l (axN (boxP (msL l ks)).1 (boxP (msL l ks)).2 2)) ks)
  else (idxL (rgL l (axN (boxP (msL l ks)).1 (boxP (msL l ks)).2 2) (axP (boxP (msL l ks)).1 (axN (boxP (msL l ks)).1 (boxP (msL l ks)).2 2)) (axP (boxP (msL l ks)).2 (axN (boxP (msL l ks)).1 (boxP (msL l ks)).2 2)) ((cutL l ks (axN (boxP (msL l ks)).1 (boxP (msL l ks)).2 2) (axP (boxP (msL l ks)).1 (axN (boxP (msL l ks)).1 (boxP (msL l ks)).2 2)) (axP (boxP (msL l ks)).2 (axN (boxP (msL l ks)).1 (boxP (msL l ks)).2 2)) : Nat) : Int))
      (sortK (rkL (rgL l (axN (boxP (msL l ks)).1 (boxP (msL l ks)).2 2) (axP (boxP (msL l ks)).1 (axN (boxP (msL l ks)).1 (boxP (msL l ks)).2 2)) (axP (boxP (msL l ks)).2 (axN (boxP (msL l ks)).1 (boxP (msL l ks)).2 2)) ((cutL l ks (axN (boxP (msL l ks)).1 (boxP (msL l ks)).2 2) (axP (boxP (msL l ks)).1 (axN (boxP (msL l ks)).1 (boxP (msL l ks)).2 2)) (axP (boxP (msL l ks)).2 (axN (boxP (msL l ks)).1 (boxP (msL l ks)).2 2)) : Nat) : Int))) ks) 0,
    sortK (rkL (rgL l (axN (boxP (msL l ks)).1 (boxP (msL l ks)).2 2) (axP (boxP (msL l ks)).1 (axN (boxP (msL l ks)).1 (boxP (msL l ks)).2 2)) (axP (boxP (msL l ks)).2 (axN (boxP (msL l ks)).1 (boxP (msL l ks)).2 2)) ((cutL l ks (axN (boxP (msL l ks)).1 (boxP (msL l ks)).2 2) (axP (boxP (msL l ks)).1 (axN (boxP (msL l ks)).1 (boxP (msL l ks)).2 2)) (axP (boxP (msL l ks)).2 (axN (boxP (msL l ks)).1 (boxP (msL l ks)).2 2)) : Nat) : Int))) ks)
theorem cmB_key (r : Nat → Bool) (x y : Nat) : cmB r x y < 0 ↔ rkL r x < rkL r y := by
  unfold cmB rkL
  cases r x <;> cases r y <;> decide
theorem partL_eq (l : List TriS) (ks : List Nat) (d : Nat) {B : P3 × P3} {k : Nat} {fr to : Int} (hB : boxP (msL l ks) = B) (hk : axN B.1 B.2 2 = k) (hf : axP B.1 k = fr) (ht : axP B.2 k = to) : partL l ks d = if ks.length ≤ 4 then (0, ks) else if fr = to then (0, ks) else if d > 31 then (((ks.length / 2 : Nat) : Int), sortK (kyL l k) ks)
    else (idxL (rgL l k fr to ((cutL l ks k fr to : Nat) : Int)) (sortK (rkL (rgL l k fr to ((cutL l ks k fr to : Nat) : Int))) ks) 0, sortK (rkL (rgL l k fr to ((cutL l ks k fr to : Nat) : Int))) ks) := by
  unfold partL
  rw [hB, hk, hf, ht]
theorem kyL_in {l : List TriS} {ks : List Nat} {i : Nat} (h : i ∈ ks) (k : Nat) : axP (boxP (msL l ks)).1 k ≤ kyL l k i ∧ kyL l k i ≤ axP (boxP (msL l ks)).2 k := boxP_le (List.mem_map.2 ⟨i, h, rfl⟩) k
end Go.Proofs.Ytcgmapioelfneaa
namespace Go.Proofs.Ytcgmapioelfneaa
open Go.RowKit
set_option maxRecDepth 100000
set_option maxHeartbeats 2000000
attribute [local irreducible] Calls Walk1 WalkTo Tri EndA
theorem part_any (l : List TriS) (hok : ∀ t ∈ l, t.ok) (hnr : ∀ t ∈ l, nearT t) (pre post : List Value) (ks : List Nat) (N cap b : Nat) (hks : ∀ i ∈ ks, i < l.length) (hN : N = ks.length) (hl : N ≤ 100000) (d : Nat) (vl : Value) (w : World) (hvl : RdX w [b] 19 vl l.length (trisC l))
    (hB : Blk w b (segA pre post ks) 3) :
    Calls Try.prog 18 #[vl, .slice (some ⟨b, pre.length, none⟩) N cap, .int .i64 ((d : Nat) : Int)] w (RetP w b 3 (segA pre post (partL l ks d).2) (.int .i64 (partL l ks d).1)) := by
  obtain ⟨a0, c0, rfl⟩ : ∃ a c, vl = .slice a l.length c := by obtain ⟨_, a, c, h, _⟩ := hvl.rd; exact ⟨a, c, h⟩
  have hv0 := hvl.rd
  by_cases h4 : N ≤ 4
  · rw [show partL l ks d = (0, ks) by unfold partL; rw [if_pos (by omega)]]
    clear hv0
    refine calls_triI hB Try.func18 rfl Try.ntmps18 rfl ?_
    repeat (first | (show Walk1 _ _ _ (_ :: _) _ _; first | (show HW1 (.move _); refine wz1 ?_) | (show HW1 (.assign _); refine wz13 ?_) | (show HW1 (.binOp .leq _ _ _ _); refine wz64 ?_) | (show HW1 (.box _ _); refine wz11 ?_) | (show HW1 (.call ⟨.builtin .len, _, _⟩); refine wz39 ?_)) | refine go1 ?_ | refine end_block_other rfl ?_ | refine end_scope (fun _ h => by cases h) ?_ | (refine walk_endD ?_ ?_; (· kernel_rfl)) | refine tri_yesA rfl ?_ | refine tri_noA rfl ?_ | refine tri_trueA rfl ?_ | refine tri_falseA rfl ?_)
    refine end_ret _ (res_tmp rfl rfl) ?_
    exact fin_obj rfl rfl (fun _ => rfl) (fun _ => rfl)
  have hlen := tris_len l hok
  have hml : (msL l ks).length = N := by rw [msL, List.length_map, hN]
  have hne : msL l ks ≠ [] := by intro h; rw [h] at hml; simp at hml; omega
  have hsm : ∀ p ∈ msL l ks, smB 2097152 p := by
    intro p hp
    obtain ⟨i, hi, rfl⟩ := List.mem_map.1 hp
    have hil := hks i hi
    have : l[i]? = some l[i] := List.getElem?_eq_getElem hil
    rw [getD_of_tri this]
    exact midT_sm (hnr _ (List.getElem_mem hil))
  obtain ⟨hb1, hb2⟩ := boxP_sm hne hsm
  obtain ⟨MS, hMS⟩ : ∃ f : Nat → List Value, ∀ j, f j = ptsC ((msL l ks).take j) := ⟨_, fun _ => rfl⟩
  have hM0 : MS 0 = [] := by rw [hMS]; rfl
  have hMN : MS N = ptsC (msL l ks) := by rw [hMS, List.take_of_length_le (by omega)]
  have stepM : ∀ j, j < N → ∃ i t, gtN ks j = i ∧ l[i]? = some t ∧ t ∈ l ∧ i < l.length ∧ MS (j + 1) = MS j ++ (midT t).c.toList := by
    intro j hj
    obtain ⟨i, hi1⟩ : ∃ i, ks[j]? = some i := ⟨_, List.getElem?_eq_getElem (by omega)⟩
    have him := hks i (List.mem_of_getElem? hi1)
    obtain ⟨t, ht⟩ : ∃ t, l[i]? = some t := ⟨_, List.getElem?_eq_getElem him⟩
    refine ⟨i, t, by unfold gtN; rw [List.getD_eq_getElem?_getD, hi1]; rfl, ht, List.mem_of_getElem? ht, him, ?_⟩
    rw [hMS, hMS]
    have : (msL l ks)[j]? = some (midT t) := by
      rw [msL, List.getElem?_map, hi1, Option.map_some, getD_of_tri ht]
    exact flat_take (f := fun p : P3 => p.c.toList) _ j _ this
  have cM := fun (t : TriS) (ht : t ∈ l) (w : World) => middle_any t (hok t ht) (hnr t ht) w
  have cB := fun (v : Value) (w : World) h => boxT_any v (msL l ks) w h (by omega)
  rw [← hMN, hml] at cB
  have hrow := fun (i : Nat) (t : TriS) (ht : l[i]? = some t) => tri_row hok ht
  generalize hP : partL l ks d = P
  have hkl : ks.length = N := hN.symm
  generalize hXS : trisC l = XS at *
  refine calls_triI hB Try.func18 rfl Try.ntmps18 rfl ?_
  repeat (first | (show Walk1 _ _ _ (_ :: _) _ _; first | (show HW1 (.move _); first | refine wz40 ?_ | refine wz1 ?_) | (show HW1 (.assign _); first | refine wz13 ?_ | refine wz2 ?_) | (show HW1 (.binOp .leq _ _ _ _); refine wz64 ?_) | (show HW1 (.box _ _); refine wz11 ?_) | (show HW1 (.call ⟨.builtin .len, _, _⟩); refine wz39 ?_)) | refine go1 ?_ | refine end_block_other rfl ?_ | refine end_scope (fun _ h => by cases h) ?_ | (refine walk_endD ?_ ?_; (· kernel_rfl)) | refine tri_yesA rfl ?_ | refine tri_noA rfl ?_ | refine tri_trueA rfl ?_ | refine tri_falseA rfl ?_)
  refine tri_ent (ent_nil (i := 7) (n := 7) 32 3 rfl (by kernel_rfl)) ?_
  refine tri_loop (X := Nat) (fun j => ⟨[(23, SV.c (.int .i64 ((j : Nat) : Int))), (22, SV.c (.int .i64 ((N : Nat) : Int))), (21, .c (.slice (some ⟨b, pre.length, none⟩) N cap)), (7, .v 7), (3, .p 3 0), (1, .c (.slice (some ⟨b, pre.length, none⟩) N cap)), (2, SV.c (.int .i64 ((d : Nat) : Int)))], [(7, some (.own 7 32 3 j (MS j))), (3, some (.blk 3 22 (.l [.c (.slice a0 l.length c0)]))), (1000, some (.blk 1000 3 (.c (segA pre post ks)))), (1001, some (.is 1000 b))]⟩)
    (fun j => j ≤ N) (fun j => N - j) 0 (by omega) (by rw [hM0]; exact ent_keep (by repeat (first | exact hasT_nil | refine hasT_cons rfl ?_ | refine hasT_eq rfl (svi (by omega)) ?_)) (by repeat (first | exact hasR_nil | refine hasR_cons rfl ?_))) ?_
  intro j hj K next
  by_cases h : j < N
  · obtain ⟨i, t, hgi, hti, htm, hil, hms⟩ := stepM j h
    subst hgi
    have r1 := hrow _ t hti
    have c1 := fun w => cM t htm w
    have nx := fun S' => next S' (j + 1)
    rw [hms] at nx
    have i1 : gtN ks j * 19 + 19 ≤ XS.length := by rw [hlen]; omega
    have m1 : (midT t).c = (midT t).c.toList.toArray := rfl
    rw [m1] at c1
    have m2 : (midT t).c.toList.length = 3 := rfl
    have m3 : ∀ u ∈ (midT t).c.toList, u.oneCell' = true := by
      intro u hu; simp [P3.c] at hu; rcases hu with rfl | rfl | rfl <;> rfl
    have m4 : (midT t).c.toList.toArray.size = 3 := rfl
    generalize (midT t).c.toList = ML at *
    generalize triC t = TC at *
    generalize MS j = MJ at *
    clear next stepM hMS hM0 hMN cM cB hrow hP m1
    repeat (first | (show Walk1 _ _ _ (_ :: _) _ _; first | (show HW1 (.move _); refine wz1 ?_) | (show HW1 (.assign _); refine wz2 ?_) | (show HW1 (.binOp .add _ _ _ _); refine wz10 ?_) | (show HW1 (.binOp .lss _ _ _ _); refine wz5 ?_) | (show HW1 (.indexAddr _ _ _); first | refine wz104 ?_ | refine wz26 ?_) | (show HW1 (.load _ _); first | refine wz101 ?_ | refine wz3 ?_ | refine walk1_t (op_loadsX rfl rfl rfl rfl (by first | assumption | exact FSX.rdx (by assumption) | exact FSX.rdx (FSX.cutB (by assumption) (by omega))) rfl rfl rfl (by decide) (by first | omega | decide) (by with_reducible assumption)) ?_) | (show HW1 (.call ⟨.builtin .append, _, _⟩); refine walk1_g (op_appendE rfl rfl rfl rfl rfl rfl rfl rfl rfl rfl (by decide) (by first | (with_reducible assumption) | rfl) (by first | (with_reducible assumption) | rfl) (by omega) rfl) (by kernel_rfl) ?_) | (show HW1 (.buildSlice _ _ _); refine walk1_n (op_bslice1 rfl rfl rfl rfl rfl rfl rfl rfl rfl rfl rfl ce_c (sm_c (by with_reducible assumption)) (by kernel_rfl)) (by kernel_rfl) ?_) | (show HW1 (.call ⟨.value (.func 30), _, _⟩); ((first | refine cwalk11 30 ?_ | refine cwalk10 30 ?_); refine ⟨_, fun e w => c1 w, ?_⟩))) | refine go1 ?_ | refine end_block_other rfl ?_ | refine end_scope (fun _ h => by cases h) ?_ | (refine walk_endD ?_ ?_; (· kernel_rfl)) | refine tri_yesA rfl ?_ | refine tri_noA rfl ?_ | refine tri_trueA rfl ?_ | refine tri_falseA rfl ?_)
    exact nx _ (by omega) (by omega) (ent_ren (fun n => cond (Nat.beq n 7) 34 n) (by repeat (first | exact hasTm_nil | refine hasTm_cons rfl (fun _ => rfl) ?_)) (by repeat (first | exact hasRm_nil | refine hasRm_cons rfl (fun _ => rfl) (fun _ _ h => h) rfl ?_)) (by kernel_rfl))
  · have hjN : N = j := by omega
    subst hjN
    clear next stepM hMS hM0 cM hrow h hj
    have conA := fun k hk b1 b2 w h1 h2 h3 x y => cmpA_any l hok hnr (.slice a0 l.length c0) k hk b1 b2 w h1 h2 h3 x y
    have conB := fun k hk fr to c h1 h2 h3 => askB_any l hok hnr (.slice a0 l.length c0) k hk fr to c h1 h2 h3
    have conC := fun k hk fr to h1 h2 h3 h4 vo w => cut_any l hok hnr ks hks (by omega) k hk fr to h1 h2 h3 h4 (.slice a0 l.length c0) vo w
    have hky := fun i (hi : i ∈ ks) k => kyL_in (l := l) hi k
    have hPe := fun k fr to => partL_eq l ks d (B := boxP (msL l ks)) (k := k) (fr := fr) (to := to) rfl
    simp only [hP, hkl, if_neg h4] at hPe
    have hfrto := fun k => boxP_at hne k
    generalize boxP (msL l ks) = B at *
    obtain ⟨lo, hi⟩ := B
    dsimp only at hb1 hb2 hky hPe cB
    rw [hXS] at conA conB conC
    have cX := fun p i (h : i < 3) w => axis_any p i h w
    obtain ⟨AX, hAX⟩ : ∃ f : Nat → Nat, ∀ j, f j = axN lo hi j := ⟨_, fun _ => rfl⟩
    have hA0 : AX 0 = 0 := hAX 0
    have hAs := fun j => hAX (j + 1)
    simp only [axN, ← hAX] at hAs
    have hAl := fun j => axN_le lo hi j
    simp only [← hAX] at hAl hPe
    have l1 : lo.c.size = 3 := rfl
    have l2 : hi.c.size = 3 := rfl
    have l3 : lo.c.all (·.oneCell') = true := by simp [P3.c]; exact ⟨rfl, rfl, rfl⟩
    have l4 : hi.c.all (·.oneCell') = true := by simp [P3.c]; exact ⟨rfl, rfl, rfl⟩
    have cl := cX lo
    have ch := cX hi
    have bl := fun k => axP_sm hb1 k
    have bh := fun k => axP_sm hb2 k
    clear hAX cX hb1 hb2 hP
    generalize lo.c = LO at *
    generalize hi.c = HI at *
    generalize hPL : axP lo = PL at *
    generalize hPH : axP hi = PH at *
    repeat (first | (show Walk1 _ _ _ (_ :: _) _ _; first | (show HW1 (.move _); refine wz1 ?_) | (show HW1 (.assign _); refine wz13 ?_) | (show HW1 (.binOp .lss _ _ _ _); refine wz5 ?_) | (show HW1 (.store _ _ _); first | refine wz23 ?_ | refine wz50 ?_) | (show HW1 (.alloc _); refine wz6 ?_) | (show HW1 (.extract _ _); first | refine wz16 ?_ | refine wz15 ?_) | (show HW1 (.call ⟨.value (.func 13), _, _⟩); (refine cwalk1M 13 ?_; refine ⟨_, _, callM_1 (rdn_own rfl) (fun e w h1 => cB _ w h1), ?_⟩))) | refine go1 ?_ | refine end_block_other rfl ?_ | refine end_scope (fun _ h => by cases h) ?_ | (refine walk_endD ?_ ?_; (· kernel_rfl)) | refine tri_yesA rfl ?_ | refine tri_noA rfl ?_ | refine tri_trueA rfl ?_ | refine tri_falseA rfl ?_)
    refine tri_ent (ent_blkA 12 (.l [.c (.int .i64 ((0 : Nat) : Int))]) rfl (fun _ => rfl)) ?_
    refine tri_loop (X := Nat) (fun j => ⟨[(13, SV.c (.int .i64 ((j + 1 : Nat) : Int))), (10, .p 10 0), (11, .p 11 0), (12, .p 12 0), (3, .p 3 0), (1, .c (.slice (some ⟨b, pre.length, none⟩) N cap)), (2, SV.c (.int .i64 ((d : Nat) : Int)))], [(10, some (.blk 10 32 (.c LO))), (11, some (.blk 11 32 (.c HI))), (12, some (.blk 12 3 (.l [.c (.int .i64 ((AX j : Nat) : Int))]))), (3, some (.blk 3 22 (.l [.c (.slice a0 l.length c0)]))), (1000, some (.blk 1000 3 (.c (segA pre post ks)))), (1001, some (.is 1000 b))]⟩)
      (fun j => j ≤ 2) (fun j => 2 - j) 0 (by omega) (by rw [hA0]; exact ent_keep (by repeat (first | exact hasT_nil | refine hasT_cons rfl ?_ | refine hasT_eq rfl (svi (by omega)) ?_)) (by repeat (first | exact hasR_nil | refine hasR_cons rfl ?_))) ?_
    intro j hj K next
    by_cases h2 : j < 2
    · have nx := fun S' => next S' (j + 1)
      have ha := hAs j
      have hal := hAl j
      have k1 := fun w => ch (j + 1) (by omega) w
      have k2 := fun w => cl (j + 1) (by omega) w
      have k3 := fun w => ch (AX j) (by omega) w
      have k4 := fun w => cl (AX j) (by omega) w
      have q1 := bl (j + 1)
      have q2 := bh (j + 1)
      have q3 := bl (AX j)
      have q4 := bh (AX j)
      clear next hAs hAl hA0 ch cl bl bh hPe conA conB conC hky hfrto cB
      generalize AX (j + 1) = a2 at *
      generalize AX j = a1 at *
      generalize PL (j + 1) = p1 at *
      generalize PH (j + 1) = p2 at *
      generalize PL a1 = p3 at *
      generalize PH a1 = p4 at *
      by_cases hc : p2 - p1 > p4 - p3
      · rw [if_pos hc] at ha
        subst ha
        repeat (first | (show Walk1 _ _ _ (_ :: _) _ _; first | (show HW1 (.move _); refine wz1 ?_) | (show HW1 (.assign _); refine wz2 ?_) | (show HW1 (.binOp .add _ _ _ _); refine wz10 ?_) | (show HW1 (.binOp .lss _ _ _ _); refine wz5 ?_) | (show HW1 (.store _ _ _); refine wz50 ?_)) | (show WalkTo _ _ _ _ (_ :: _) _ _ _; first | (show HW2 (.move _); refine wz20 ?_) | (show HW2 (.binOp .sub _ _ _ _); refine wz37 ?_) | (show HW2 (.binOp .gtr _ _ _ _); refine wz136 ?_) | (show HW2 (.load _ _); first | refine wz24 ?_ | refine wz22 ?_) | (show HW2 (.call ⟨.value (.func 31), _, _⟩); ((first | refine cwalk1 31 ?_ | refine cwalk0 31 ?_); refine ⟨_, fun e w => k1 w, ?_⟩)) | (show HW2 (.call ⟨.value (.func 31), _, _⟩); ((first | refine cwalk1 31 ?_ | refine cwalk0 31 ?_); refine ⟨_, fun e w => k2 w, ?_⟩)) | (show HW2 (.call ⟨.value (.func 31), _, _⟩); ((first | refine cwalk1 31 ?_ | refine cwalk0 31 ?_); refine ⟨_, fun e w => k3 w, ?_⟩)) | (show HW2 (.call ⟨.value (.func 31), _, _⟩); ((first | refine cwalk1 31 ?_ | refine cwalk0 31 ?_); refine ⟨_, fun e w => k4 w, ?_⟩))) | refine go1 ?_ | refine end_block_other rfl ?_ | refine end_scope (fun _ h => by cases h) ?_ | (refine walk_endD ?_ ?_; (· kernel_rfl)) | refine tri_yesA rfl ?_ | refine tri_noA rfl ?_ | refine tri_trueA rfl ?_ | refine tri_falseA rfl ?_)
        exact nx _ (by omega) (by omega) (by exact ent_kp)
      · rw [if_neg hc] at ha
        subst ha
        repeat (first | (show Walk1 _ _ _ (_ :: _) _ _; first | (show HW1 (.move _); refine wz1 ?_) | (show HW1 (.assign _); refine wz2 ?_) | (show HW1 (.binOp .add _ _ _ _); refine wz10 ?_) | (show HW1 (.binOp .lss _ _ _ _); refine wz5 ?_)) | (show WalkTo _ _ _ _ (_ :: _) _ _ _; first | (show HW2 (.move _); refine wz20 ?_) | (show HW2 (.binOp .sub _ _ _ _); refine wz37 ?_) | (show HW2 (.binOp .gtr _ _ _ _); refine wz136 ?_) | (show HW2 (.load _ _); first | refine wz24 ?_ | refine wz22 ?_) | (show HW2 (.call ⟨.value (.func 31), _, _⟩); ((first | refine cwalk1 31 ?_ | refine cwalk0 31 ?_); refine ⟨_, fun e w => k1 w, ?_⟩)) | (show HW2 (.call ⟨.value (.func 31), _, _⟩); ((first | refine cwalk1 31 ?_ | refine cwalk0 31 ?_); refine ⟨_, fun e w => k2 w, ?_⟩)) | (show HW2 (.call ⟨.value (.func 31), _, _⟩); ((first | refine cwalk1 31 ?_ | refine cwalk0 31 ?_); refine ⟨_, fun e w => k3 w, ?_⟩)) | (show HW2 (.call ⟨.value (.func 31), _, _⟩); ((first | refine cwalk1 31 ?_ | refine cwalk0 31 ?_); refine ⟨_, fun e w => k4 w, ?_⟩))) | refine go1 ?_ | refine end_block_other rfl ?_ | refine end_scope (fun _ h => by cases h) ?_ | (refine walk_endD ?_ ?_; (· kernel_rfl)) | refine tri_yesA rfl ?_ | refine tri_noA rfl ?_ | refine tri_trueA rfl ?_ | refine tri_falseA rfl ?_)
        exact nx _ (by omega) (by omega) (by exact ent_kp)
    · obtain rfl : j = 2 := by omega
      have hk3 : AX 2 < 3 := by have := hAl 2; omega
      have k3 := fun w => ch (AX 2) hk3 w
      have k4 := fun w => cl (AX 2) hk3 w
      have q3 := bl (AX 2)
      have q4 := bh (AX 2)
      have hPe := hPe (AX 2) (PL (AX 2)) (PH (AX 2)) rfl rfl rfl
      have hky := fun i hi => hky i hi (AX 2)
      clear next hAs hAl hA0 ch cl bl bh hfrto cB hPL hPH
      generalize AX 2 = k at *
      generalize PL k = fr at *
      generalize PH k = to at *
      obtain ⟨i0, hi0⟩ : ∃ i, i ∈ ks := by
        cases ks with
        | nil => simp at hkl; omega
        | cons x t => exact ⟨x, by simp⟩
      have hM : 0 < l.length := Nat.lt_of_le_of_lt (Nat.zero_le _) (hks i0 hi0)
      have hle := hky i0 hi0
      by_cases hft : fr = to
      · rw [if_pos hft] at hPe
        subst hPe
        clear conA conB conC hky hvl hv0
        repeat (first | (show Walk1 _ _ _ (_ :: _) _ _; first | (show HW1 (.move _); refine wz1 ?_) | (show HW1 (.assign _); refine wz13 ?_) | (show HW1 (.binOp .lss _ _ _ _); refine wz5 ?_) | (show HW1 (.binOp .eql _ _ _ _); refine wz18 ?_) | (show HW1 (.load _ _); refine wz3 ?_)) | (show WalkTo _ _ _ _ (_ :: _) _ _ _; first | (show HW2 (.load _ _); first | refine wz24 ?_ | refine wz22 ?_) | (show HW2 (.store _ _ _); refine wz108 ?_) | (show HW2 (.alloc _); refine wz43 ?_) | (show HW2 (.call ⟨.value (.func 31), _, _⟩); ((first | refine cwalk1 31 ?_ | refine cwalk0 31 ?_); refine ⟨_, fun e w => k3 w, ?_⟩)) | (show HW2 (.call ⟨.value (.func 31), _, _⟩); ((first | refine cwalk1 31 ?_ | refine cwalk0 31 ?_); refine ⟨_, fun e w => k4 w, ?_⟩))) | refine go1 ?_ | refine end_block_other rfl ?_ | refine end_scope (fun _ h => by cases h) ?_ | (refine walk_endD ?_ ?_; (· kernel_rfl)) | refine tri_yesA rfl ?_ | refine tri_noA rfl ?_ | refine tri_trueA rfl ?_ | refine tri_falseA rfl ?_)
        refine end_ret _ (res_tmp rfl rfl) ?_
        exact fin_obj rfl rfl (fun _ => rfl) (fun _ => rfl)
      rw [if_neg hft] at hPe
      by_cases hd : d > 31
      · rw [if_pos hd] at hPe
        subst hPe
        have con : ∀ (S' : St) (e : Env) (a : Act) (w' : World), Holds ⟨91, w, [b]⟩ S' e a w' → (e 1000).b = b → S'.res 1000 = some (.blk 1000 3 (.c (segA pre post ks))) → S'.res 3 = some (.blk 3 22 (.l [.c (.slice a0 l.length c0)])) → S'.res 12 = some (.blk 12 3 (.l [.c (.int .i64 ((k : Nat) : Int))])) → Blk w' b (segA pre post ks) 3 →
            Calls Try.prog 32 #[.slice (some ⟨b, pre.length, none⟩) N cap, .func (.func 33) #[] #[.pointer (some ⟨(e 3).b, 0, none⟩), .pointer (some ⟨(e 12).b, 0, none⟩)]] w' (RetP w' b 3 (segA pre post (sortK (kyL l k) ks)) (.tuple #[])) := by
          intro S' e a w' hS hb h1000 h3 h12 hBB
          have n3 : (e 3).b ∉ [b] := by rw [← hb]; simpa using blk_ne hS h3 h1000 rfl
          have n12 : (e 12).b ∉ [b] := by rw [← hb]; simpa using blk_ne hS h12 h1000 rfl
          have B3 := blk_of hS h3
          have B12 := blk_of hS h12
          refine sortF_any pre post ks N cap b _ w' (kyL l k) (fun x y => kyL l k x - kyL l k y) l.length (fun x y _ _ => by omega) hM hks hN (by omega) ⟨33, _, ⟨_, rfl, tabAll_look calT_ok rfl⟩, fun w2 hw2 x y hx hy => ?_⟩ hBB
          exact conA k hk3 _ _ w2 (B3.laterX hw2 n3) (B12.laterX hw2 n12) ((hvl.later hS.frame.belowX).later hw2).rd x y hx hy
        clear conA conB conC hky hvl hv0
        repeat (first | (show Walk1 _ _ _ (_ :: _) _ _; first | (show HW1 (.move _); refine wz1 ?_) | (show HW1 (.binOp .lss _ _ _ _); refine wz5 ?_) | (show HW1 (.binOp .gtr _ _ _ _); refine wz33 ?_) | (show HW1 (.binOp .eql _ _ _ _); refine wz18 ?_) | (show HW1 (.load _ _); refine wz3 ?_)) | (show WalkTo _ _ _ _ (_ :: _) _ _ _; first | (show HW2 (.load _ _); first | refine wz24 ?_ | refine wz22 ?_) | (show HW2 (.store _ _ _); refine wz108 ?_) | (show HW2 (.alloc _); refine wz43 ?_) | (show HW2 (.call ⟨.value (.func 31), _, _⟩); ((first | refine cwalk1 31 ?_ | refine cwalk0 31 ?_); refine ⟨_, fun e w => k3 w, ?_⟩)) | (show HW2 (.call ⟨.value (.func 31), _, _⟩); ((first | refine cwalk1 31 ?_ | refine cwalk0 31 ?_); refine ⟨_, fun e w => k4 w, ?_⟩))) | refine go1 ?_ | refine end_block_other rfl ?_ | refine end_scope (fun _ h => by cases h) ?_ | (refine walk_endD ?_ ?_; (· kernel_rfl)) | refine tri_yesA rfl ?_ | refine tri_noA rfl ?_ | refine tri_trueA rfl ?_ | refine tri_falseA rfl ?_)
        refine walk1_t (op_makeFn rfl rfl rfl evq) ?_
        refine walk1_tb (op_callWE (vs := [.c (.slice (some ⟨b, pre.length, none⟩) N cap), .clo 33 [.p 3 0, .p 12 0]]) [3, 12] rfl rfl rfl evq rfl rfl rfl (fun S' e a w' hS hb hq hB => con S' e a w' hS hb (hq 1000 (by simp)) (hq 3 (by simp)) (hq 12 (by simp)) hB)) ?_
        repeat (first | (show Walk1 _ _ _ (_ :: _) _ _; first | (show HW1 (.move _); refine wz1 ?_) | (show HW1 (.assign _); refine wz2 ?_) | (show HW1 (.binOp .quo _ _ _ _); refine walk1_t (op_divN rfl rfl rfl evn evn (by omega)) ?_) | (show HW1 (.call ⟨.builtin .len, _, _⟩); refine wz39 ?_)) | refine go1 ?_ | refine end_block_other rfl ?_ | refine end_scope (fun _ h => by cases h) ?_ | (refine walk_endD ?_ ?_; (· kernel_rfl)) | refine tri_yesA rfl ?_ | refine tri_noA rfl ?_ | refine tri_trueA rfl ?_ | refine tri_falseA rfl ?_)
        refine end_ret _ (res_tmp rfl rfl) ?_
        exact fin_obj rfl rfl (fun _ => rfl) (fun _ => rfl)
      · rw [if_neg hd] at hPe
        obtain ⟨c, hcu⟩ : ∃ c, c = cutL l ks k fr to := ⟨_, rfl⟩
        have cC := fun vo w => conC k hk3 fr to q3 q4 (by omega) hky vo w
        rw [← hcu] at hPe cC
        rw [hkl] at cC
        obtain ⟨r, hr⟩ : ∃ r, r = rgL l k fr to ((c : Nat) : Int) := ⟨_, rfl⟩
        have cB := fun b1 b2 b3 b4 b5 w => conB k hk3 fr to ((c : Nat) : Int) q3 q4 (by omega) b1 b2 b3 b4 b5 w
        rw [← hr] at hPe cB
        obtain ⟨ks2, hks2⟩ : ∃ x, x = sortK (rkL r) ks := ⟨_, rfl⟩
        rw [← hks2] at hPe
        subst hPe
        dsimp only
        have hkl2 : ks2.length = N := by rw [hks2, sortK_len, hkl]
        have hks3 : ∀ x ∈ ks2, x < l.length := fun x hx => hks x (by rw [hks2] at hx; exact sortK_mem.1 hx)
        have mk : ∀ (S' : St) (e : Env) (a : Act) (w' : World), Holds ⟨91, w, [b]⟩ S' e a w' → (e 1000).b = b → (∃ A, S'.res 1000 = some (.blk 1000 3 A)) → S'.res 3 = some (.blk 3 22 (.l [.c (.slice a0 l.length c0)])) → S'.res 12 = some (.blk 12 3 (.l [.c (.int .i64 ((k : Nat) : Int))])) → S'.res 14 = some (.blk 14 3 (.c #[.int .i64 fr])) → S'.res 15 = some (.blk 15 3 (.c #[.int .i64 to])) → S'.res 16 = some (.blk 16 3 (.c #[.int .i64 ((c : Nat) : Int)])) → ∀ m w2, BelowX w' w2 [b] → (∀ w3, BelowX w2 w3 m → BelowX w2 w3 [b]) →
            AskOK w2 m (.func (.func 35) #[] #[.pointer (some ⟨(e 3).b, 0, none⟩), .pointer (some ⟨(e 12).b, 0, none⟩), .pointer (some ⟨(e 14).b, 0, none⟩), .pointer (some ⟨(e 15).b, 0, none⟩), .pointer (some ⟨(e 16).b, 0, none⟩)]) l.length r := by
          intro S' e a w' hS hb h1000 h3 h12 h14 h15 h16 m w2 hw2 hm
          obtain ⟨A1000, h1000⟩ := h1000
          have n3 : (e 3).b ∉ [b] := by rw [← hb]; simpa using blk_ne hS h3 h1000 rfl
          have n12 : (e 12).b ∉ [b] := by rw [← hb]; simpa using blk_ne hS h12 h1000 rfl
          have n14 : (e 14).b ∉ [b] := by rw [← hb]; simpa using blk_ne hS h14 h1000 rfl
          have n15 : (e 15).b ∉ [b] := by rw [← hb]; simpa using blk_ne hS h15 h1000 rfl
          have n16 : (e 16).b ∉ [b] := by rw [← hb]; simpa using blk_ne hS h16 h1000 rfl
          refine ⟨35, _, ⟨_, rfl, tabAll_look calT_ok rfl⟩, fun w3 hw3 x hx => ?_⟩
          have hw := hw2.trans (hm w3 hw3)
          exact cB _ _ _ _ _ w3 ((blk_of hS h3).laterX hw n3) ((blk_of hS h12).laterX hw n12) ((blk_of hS h14).laterX hw n14) ((blk_of hS h15).laterX hw n15) ((blk_of hS h16).laterX hw n16) ((hvl.later hS.frame.belowX).later hw).rd x hx
        have con1 : ∀ (S' : St) (e : Env) (a : Act) (w' : World), Holds ⟨91, w, [b]⟩ S' e a w' → (e 1000).b = b → S'.res 1000 = some (.blk 1000 3 (.c (segA pre post ks))) → S'.res 3 = some (.blk 3 22 (.l [.c (.slice a0 l.length c0)])) → S'.res 12 = some (.blk 12 3 (.l [.c (.int .i64 ((k : Nat) : Int))])) → S'.res 14 = some (.blk 14 3 (.c #[.int .i64 fr])) → S'.res 15 = some (.blk 15 3 (.c #[.int .i64 to])) → S'.res 16 = some (.blk 16 3 (.c #[.int .i64 ((c : Nat) : Int)])) → S'.res 17 = some (.blk 17 69 (.l [.clo 35 [.p 3 0, .p 12 0, .p 14 0, .p 15 0, .p 16 0]])) → Blk w' b (segA pre post ks) 3 →
            Calls Try.prog 32 #[.slice (some ⟨b, pre.length, none⟩) N cap, .func (.func 37) #[] #[.pointer (some ⟨(e 17).b, 0, none⟩)]] w' (RetP w' b 3 (segA pre post ks2) (.tuple #[])) := by
          intro S' e a w' hS hb h1000 h3 h12 h14 h15 h16 h17 hBB
          have n17 : (e 17).b ∉ [b] := by rw [← hb]; simpa using blk_ne hS h17 h1000 rfl
          have B17 := blk_of hS h17
          rw [hks2]
          refine sortF_any pre post ks N cap b _ w' (rkL r) (cmB r) l.length (fun x y _ _ => cmB_key r x y) hM hks hN (by omega) ⟨37, _, ⟨_, rfl, tabAll_look calT_ok rfl⟩, fun w2 hw2 x y hx hy => ?_⟩ hBB
          exact cmpB_any r l.length _ _ w2 (B17.laterX hw2 n17) (mk S' e a w' hS hb ⟨_, h1000⟩ h3 h12 h14 h15 h16 [] w2 hw2 (fun w3 h => h.more (by simp))) x y hx hy
        have con2 : ∀ (S' : St) (e : Env) (a : Act) (w' : World), Holds ⟨91, w, [b]⟩ S' e a w' → (e 1000).b = b → S'.res 1000 = some (.blk 1000 3 (.c (segA pre post ks2))) → S'.res 3 = some (.blk 3 22 (.l [.c (.slice a0 l.length c0)])) → S'.res 12 = some (.blk 12 3 (.l [.c (.int .i64 ((k : Nat) : Int))])) → S'.res 14 = some (.blk 14 3 (.c #[.int .i64 fr])) → S'.res 15 = some (.blk 15 3 (.c #[.int .i64 to])) → S'.res 16 = some (.blk 16 3 (.c #[.int .i64 ((c : Nat) : Int)])) → Blk w' b (segA pre post ks2) 3 →
            Calls Try.prog 38 #[.slice (some ⟨b, pre.length, none⟩) N cap, .func (.func 35) #[] #[.pointer (some ⟨(e 3).b, 0, none⟩), .pointer (some ⟨(e 12).b, 0, none⟩), .pointer (some ⟨(e 14).b, 0, none⟩), .pointer (some ⟨(e 15).b, 0, none⟩), .pointer (some ⟨(e 16).b, 0, none⟩)]] w' (RetP w' b 3 (segA pre post ks2) (.int .i64 (idxL r ks2 0))) := by
          intro S' e a w' hS hb h1000 h3 h12 h14 h15 h16 hBB
          exact indexF_any pre post ks2 N cap b _ w' r l.length hM hks3 hkl2.symm (by omega) (mk S' e a w' hS hb ⟨_, h1000⟩ h3 h12 h14 h15 h16 [b] w' (BelowX.refl _ _) (fun w3 h => h)) hBB
        clear conA conB conC hky mk hv0 cB hks2 hr
        repeat (first | (show Walk1 _ _ _ (_ :: _) _ _; first | (show HW1 (.move _); refine wz1 ?_) | (show HW1 (.binOp .lss _ _ _ _); refine wz5 ?_) | (show HW1 (.binOp .gtr _ _ _ _); refine wz33 ?_) | (show HW1 (.binOp .eql _ _ _ _); refine wz18 ?_) | (show HW1 (.load _ _); refine wz3 ?_) | (show HW1 (.store _ _ _); refine wz50 ?_) | (show HW1 (.alloc _); refine wz6 ?_) | (show HW1 (.call ⟨.value (.func 34), _, _⟩); (refine cwalk1M 34 ?_; refine ⟨_, _, callM_2 (rdn_oldR hvl) (rdn_segI rfl rfl hN) (fun e w h1 h2 => cC _ w h1 h2), ?_⟩))) | (show WalkTo _ _ _ _ (_ :: _) _ _ _; first | (show HW2 (.load _ _); first | refine wz24 ?_ | refine wz22 ?_) | (show HW2 (.store _ _ _); refine wz108 ?_) | (show HW2 (.alloc _); refine wz43 ?_) | (show HW2 (.call ⟨.value (.func 31), _, _⟩); ((first | refine cwalk1 31 ?_ | refine cwalk0 31 ?_); refine ⟨_, fun e w => k3 w, ?_⟩)) | (show HW2 (.call ⟨.value (.func 31), _, _⟩); ((first | refine cwalk1 31 ?_ | refine cwalk0 31 ?_); refine ⟨_, fun e w => k4 w, ?_⟩))) | refine go1 ?_ | refine end_block_other rfl ?_ | refine end_scope (fun _ h => by cases h) ?_ | (refine walk_endD ?_ ?_; (· kernel_rfl)) | refine tri_yesA rfl ?_ | refine tri_noA rfl ?_ | refine tri_trueA rfl ?_ | refine tri_falseA rfl ?_)
        refine walk1_t (op_makeFn rfl rfl rfl evq) ?_
        repeat (first | (show Walk1 _ _ _ (_ :: _) _ _; (show HW1 (.alloc _); refine wz6 ?_)) | refine go1 ?_ | refine end_block_other rfl ?_ | refine end_scope (fun _ h => by cases h) ?_ | (refine walk_endD ?_ ?_; (· kernel_rfl)) | refine tri_yesA rfl ?_ | refine tri_noA rfl ?_ | refine tri_trueA rfl ?_ | refine tri_falseA rfl ?_)
        refine walk1_b (op_store (A' := .l [.clo 35 [.p 3 0, .p 12 0, .p 14 0, .p 15 0, .p 16 0]]) rfl rfl rfl rfl rfl rfl rfl (fun _ => rfl) (fun _ => Nat.one_pos) (fun _ => rfl)) ?_
        repeat (first | (show Walk1 _ _ _ (_ :: _) _ _; (show HW1 (.move _); refine wz1 ?_)) | refine go1 ?_ | refine end_block_other rfl ?_ | refine end_scope (fun _ h => by cases h) ?_ | (refine walk_endD ?_ ?_; (· kernel_rfl)) | refine tri_yesA rfl ?_ | refine tri_noA rfl ?_ | refine tri_trueA rfl ?_ | refine tri_falseA rfl ?_)
        refine walk1_t (op_makeFn rfl rfl rfl evq) ?_
        refine walk1_tb (op_callWE (vs := [.c (.slice (some ⟨b, pre.length, none⟩) N cap), .clo 37 [.p 17 0]]) [3, 12, 14, 15, 16, 17] rfl rfl rfl evq rfl rfl rfl (fun S' e a w' hS hb hq hB => con1 S' e a w' hS hb (hq 1000 (by simp)) (hq 3 (by simp)) (hq 12 (by simp)) (hq 14 (by simp)) (hq 15 (by simp)) (hq 16 (by simp)) (hq 17 (by simp)) hB)) ?_
        repeat (first | (show Walk1 _ _ _ (_ :: _) _ _; first | (show HW1 (.move _); refine wz1 ?_) | (show HW1 (.load _ _); refine wz3 ?_)) | refine go1 ?_ | refine end_block_other rfl ?_ | refine end_scope (fun _ h => by cases h) ?_ | (refine walk_endD ?_ ?_; (· kernel_rfl)) | refine tri_yesA rfl ?_ | refine tri_noA rfl ?_ | refine tri_trueA rfl ?_ | refine tri_falseA rfl ?_)
        refine walk1_tb (op_callWE (vs := [.c (.slice (some ⟨b, pre.length, none⟩) N cap), .clo 35 [.p 3 0, .p 12 0, .p 14 0, .p 15 0, .p 16 0]]) [3, 12, 14, 15, 16] rfl rfl rfl evq rfl rfl rfl (fun S' e a w' hS hb hq hB => con2 S' e a w' hS hb (hq 1000 (by simp)) (hq 3 (by simp)) (hq 12 (by simp)) (hq 14 (by simp)) (hq 15 (by simp)) (hq 16 (by simp)) hB)) ?_
        repeat (first | (show Walk1 _ _ _ (_ :: _) _ _; (show HW1 (.assign _); refine wz2 ?_)) | refine go1 ?_ | refine end_block_other rfl ?_ | refine end_scope (fun _ h => by cases h) ?_ | (refine walk_endD ?_ ?_; (· kernel_rfl)) | refine tri_yesA rfl ?_ | refine tri_noA rfl ?_ | refine tri_trueA rfl ?_ | refine tri_falseA rfl ?_)
        refine end_ret _ (res_tmp rfl rfl) ?_
        exact fin_obj rfl rfl (fun _ => rfl) (fun _ => rfl)
end Go.Proofs.Ytcgmapioelfneaa
