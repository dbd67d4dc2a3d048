/- Slices of slices handed over beside an object; slices built of many values; slices made. No condition. Strings; conversions of slices; rows of a few bytes. No condition. A slice that was built is an own one. No condition. Two rows handed back; a slice and a slice of slices handed over. No condition. A string as new bytes. No condition. A slice of its own and a value, handed back together; the lesser of two bytes. No condition. A row out of a slice. No condition. -/
import Derived.Test.YtcgmapioelfneaaMgSymH
import Derived.Laws.Strings2
import Derived.Laws.Concat
import Derived.Laws.IdiomStrings
namespace Go.Proofs.Ytcgmapioelfneaa
open Go.RowKit
set_option maxRecDepth 100000
variable {C : Ctx} {ops : Array Oper} {S : St} {o : Oper}
/-! ### slices built of many values -/
theorem fill_ones : ∀ (us : List Value) (k : Nat) (B : Array Value), (∀ u ∈ us, u.cells = #[u]) → B.size = k + us.length →
    Instr.fill (fun i => some (i * 1, 1)) B ((us.zipIdx k).map fun p => (p.2, p.1)) = some (B.toList.take k ++ us).toArray
  | [], k, B, _, hB => by
    simp at hB
    simp [Instr.fill, List.take_of_length_le (show B.toList.length ≤ k by simp; omega)]
  | u :: us, k, B, h, hB => by
    have hu := h u (by simp)
    simp at hB
    rw [List.zipIdx_cons, List.map_cons, Instr.fill]
    dsimp only
    have h3 : (u.cells.zipIdx.foldl (fun cs x => cs.setIfInBounds (k * 1 + x.2) x.1) B) = B.setIfInBounds k u := by rw [hu]; simp
    split
    · rename_i hc
      exfalso
      rw [hu] at hc
      simp at hc
      omega
    · refine (congrArg (fun c => Instr.fill (fun i => some (i * 1, 1)) c ((us.zipIdx (k + 1)).map fun p => (p.2, p.1))) h3).trans ((fill_ones us (k + 1) _ (fun x hx => h x (by simp [hx])) (by simp; omega)).trans ?_)
      simp only [Array.toList_setIfInBounds]
      rw [List.take_succ_eq_append_getElem (by simp; omega)]
      simp [List.take_set_of_le]
def EvL1 (S : St) : List (Nat × Operand) → Nat → List SV → Prop
  | [], _, [] => True
  | p :: ps, k, v :: vs => p.1 = k ∧ S.ev p.2 = some v ∧ EvL1 S ps (k + 1) vs
  | _, _, _ => False
theorem evl1_nil {k : Nat} : EvL1 S [] k [] := trivial
theorem evl1_cons {k : Nat} {x : Operand} {v : SV} {ps : List (Nat × Operand)} {vs : List SV} (hx : S.ev x = some v) (h : EvL1 S ps (k + 1) vs) : EvL1 S ((k, x) :: ps) k (v :: vs) := ⟨rfl, hx, h⟩
/-- Values that take one cell each. -/
def OneS (C : Ctx) (S : St) (rb : List Nat) (vs : List SV) : Prop := ∀ (S' : St) e a w, Holds C S' e a w → (∀ q ∈ rb, S'.res q = S.res q) → ∀ v ∈ vs, (v.den e).cells = #[v.den e]
theorem ones_nil : OneS C S [] [] := fun _ _ _ _ _ _ v hv => by cases hv
theorem ones_one {v : SV} {rb : List Nat} {vs : List SV} (h : ∀ e, (v.den e).cells = #[v.den e]) (h2 : OneS C S rb vs) : OneS C S rb (v :: vs) := fun S' e a w hS hq u hu => by
  rcases List.mem_cons.1 hu with rfl | hu
  · exact h e
  · exact h2 S' e a w hS hq u hu
theorem own_cells {w : World} {T size len : Nat} {xs : List Value} {v : Value} (h : w.ownsRow 0 T size v len xs) : v.cells = #[v] := by
  rcases h.2 with ⟨h3, _⟩ | ⟨g, cap, cur, h3, _⟩ <;> rw [h3] <;> rfl
theorem ones_own {q T0 size len : Nat} {xs : List Value} {rb : List Nat} {vs : List SV} (hr : S.res q = some (.own q T0 size len xs)) (h2 : OneS C S rb vs) : OneS C S (q :: rb) (.v q :: vs) := fun S' e a w hS hq u hu => by
  rcases List.mem_cons.1 hu with rfl | hu
  · exact own_cells (hS.res q _ ((hq q (by simp)).trans hr))
  · exact h2 S' e a w hS (fun x hx => hq x (List.mem_cons_of_mem _ hx)) u hu
theorem ones_sub {q T0 size len lo cnt : Nat} {xs : List Value} {rb : List Nat} {vs : List SV} (hr : S.res q = some (.own q T0 size len xs)) (h2 : OneS C S rb vs) : OneS C S (q :: rb) (.sub q lo cnt :: vs) := fun S' e a w hS hq u hu => by
  rcases List.mem_cons.1 hu with rfl | hu
  · have h : w.ownsRow 0 T0 size (e q).v len xs := hS.res q _ ((hq q (by simp)).trans hr)
    show (cutV (e q).v lo cnt).cells = #[cutV (e q).v lo cnt]
    rcases h.2 with ⟨h3, _⟩ | ⟨g, cap, cur, h3, _⟩ <;> rw [h3] <;> rfl
  · exact h2 S' e a w hS (fun x hx => hq x (List.mem_cons_of_mem _ hx)) u hu
theorem op_bsliceL {t T n len : Nat} {parts : Array (Nat × Operand)} {vs : List SV} {Z : Array Value} {rb : List Nat} (ho : o.op = .buildSlice t len parts) (hl : EvL1 S parts.toList 0 vs) (hlen : vs.length = len) (hdn : o.dst = some n) (hg : o.guard = none) (hd : dstB o.dst C.nt = true) (hu' : tabLook undT t = some (.slice T)) (hs' : tabLook sizT T = some 1) (hz' : tabLook zerT T = some Z) (hZ : Z.size = 1) (hsz : (decide (0 < len) && decide (len < 10000)) = true) (hA : OneS C S rb vs) (hn : ((SA.l vs).sup.any fun y => Nat.beq n y) = false) :
    OpG C Try.prog ops o S ⟨parts.toList.flatMap fun p => opT p.2, rb ++ (SA.l vs).sup, [(n, .s n 0 len len)], [(n, some (.blk n T (.l vs)))], [n]⟩ := by
  refine opG_mk hg fun S' h1 h2 h3 e a w hS => ?_
  have hns : n ∉ (SA.l vs).sup := fun h => by have := List.any_eq_false.1 hn n h; simp at this
  simp only [Bool.and_eq_true, decide_eq_true_eq] at hsz
  have hN := hS.newBlk (h3 n (by simp)) T (.l vs) hns
  have hone := hA S' e a w hS fun q hq => h2 q (List.mem_append_left _ hq)
  have hu := tabAll_look undT_ok hu'
  have hz := tabAll_look zerT_ok hz'
  obtain ⟨zv, hz3, hzc⟩ : ∃ zv, (zeroValue T).run Try.prog w = .ok zv w ∧ zv.cells = Z := by
    cases hb : (Try.prog.info? T) with
    | none => simp [hb] at hz
    | some i =>
      cases hc : i.zero with
      | none => simp [hb, hc] at hz
      | some zz => exact ⟨zz, by simp [zeroValue, typeInfo, hb, hc], by simpa [hb, hc] using hz⟩
  have hp : ∀ (ps : List (Nat × Operand)) (k : Nat) (vs : List SV), EvL1 S ps k vs → (∀ p ∈ ps, S'.ev p.2 = S.ev p.2) → ps.map (fun p => (p.1, a.eval p.2)) = ((vs.map (·.den e)).zipIdx k).map fun p => (p.2, p.1) := by
    intro ps
    induction ps with
    | nil =>
      intro k vs h _
      cases vs with
      | nil => rfl
      | cons v vs => exact h.elim
    | cons p ps ih =>
      intro k vs h hq
      cases vs with
      | nil => exact h.elim
      | cons v vs =>
        have he := hS.ev ((hq p (by simp)).trans h.2.1)
        simp only [List.map_cons, List.zipIdx_cons]
        rw [ih (k + 1) vs h.2.2 fun x hx => hq x (List.mem_cons_of_mem _ hx), he, h.1]
  have hparts := hp parts.toList 0 vs hl fun p hp => ev_like h1 fun i hi => List.mem_flatMap.2 ⟨p, hp, hi⟩
  have hpa : parts.map (fun p => (p.1, a.eval p.2)) = (((vs.map (·.den e)).zipIdx 0).map fun p => (p.2, p.1)).toArray := by
    rw [← hparts, ← Array.toList_map, Array.toArray_toList]
  refine wp_value (v := .slice (some ⟨w.heap.size, 0, none⟩) len len) (w' := w.alloc (.cells ((SA.l vs).den e) T)) ?_ ⟨e.set n ⟨w.heap.size, 0, undef⟩, ?_⟩
  · have hne : ¬ len = 0 := by omega
    have hfill := fill_ones (vs.map (·.den e)) 0 ((Array.range len).map fun x => Z[x % Z.size]!) (fun u hu => by
      obtain ⟨v, hv, rfl⟩ := List.mem_map.1 hu
      exact hone v hv) (by simp [hlen])
    simp only [execOp, ho, Instr.buildSlice, Sem.run_bind, run_underlying hu w, Result.andThen_ok, run_sizeT hs' w, Nat.mul_one, Sem.run_ite]
    simp only [show ¬ (len > 2 ^ 24) from by omega, if_false, hne, Sem.run_bind, hz3, Result.andThen_ok, Sem.run_pure, hzc, hpa]
    simp only [Nat.mul_one] at hfill ⊢
    rw [hfill]
    simp [newRow, SA.l]
  · rw [hdn]
    have hd' : dstB (some n) C.nt = true := by rw [← hdn]; exact hd
    have := hN.put hd' (.s n 0 len len)
    simp only [SV.s, Env.set_self] at this
    exact this
/-! ### slices of slices, told of a state -/
def FSQ (C : Ctx) (S : St) (ns : List Nat) (v : SV) (d : List (BitVec 8)) : Prop := ∀ (S' : St) e a w, (∀ x ∈ ns, S'.res x = S.res x) → Holds C S' e a w → FS w 1 (v.den e) d.length (valsL .u8 d)
def SlcQ (C : Ctx) (S : St) (ns : List Nat) (v : SV) (ds : List (List (BitVec 8))) : Prop := ∀ e, ∃ ps, (∀ (S' : St) a w, (∀ x ∈ ns, S'.res x = S.res x) → Holds C S' e a w → RdV w 1 (v.den e) ds.length ps) ∧ ∀ (i : Nat) d, ds[i]? = some d → ∃ p, ps[i]? = some p ∧ ∀ (S' : St) a w, (∀ x ∈ ns, S'.res x = S.res x) → Holds C S' e a w → FS w 1 p d.length (valsL .u8 d)
theorem FSQ.more {ns ns' : List Nat} {v : SV} {d : List (BitVec 8)} (h : FSQ C S ns v d) (hs : ∀ x ∈ ns, x ∈ ns') : FSQ C S ns' v d := fun S' e a w hq hS => h S' e a w (fun x hx => hq x (hs x hx)) hS
theorem SlcQ.at {ns : List Nat} {v : SV} {ds : List (List (BitVec 8))} (h : SlcQ C S ns v ds) {S' : St} {e : Env} {a : Act} {w : World} (hq : ∀ x ∈ ns, S'.res x = S.res x) (hS : Holds C S' e a w) : SlcL w (v.den e) ds := by
  obtain ⟨ps, h1, h2⟩ := h e
  refine ⟨ps, h1 S' a w hq hS, fun i d hd => ?_⟩
  obtain ⟨p, h3, h4⟩ := h2 i d hd
  exact ⟨p, h3, h4 S' a w hq hS⟩
/-! ### ... beside an object -/
section
variable {P : Program} {l : List Oper} {acc : List OS} {t : List (Nat × SV)} {h : List (Nat × Option Res)} {rt rb x : List Nat} {d n : Nat} {v : SV} {r : Option Res}
theorem walk1_tb {K : St → Prop} (ho : OpG C P ops o ⟨t, h⟩ ⟨rt, rb, [(d, v)], [(n, r)], []⟩) (ht : Walk1 C P ops l ⟨(d, v) :: t, (n, r) :: h⟩ K) : Walk1 C P ops (o :: l) ⟨t, h⟩ K := ⟨_, ho, rfl, ht⟩
theorem op_cutP2 {x : Operand} {t T : TypeId} {n off len lo hi : Nat} {ol oh : Option Operand} (ho : o.op = .slice t x ol oh none) (hg : o.guard = none) (hd : dstB o.dst C.nt = true) (hx : S.ev x = some (.p n off)) (hu' : tabLook undT t = some (.array len T)) (hs' : tabLook sizT T = some 1) (hl : EvO S ol 0 lo := by first | exact evO_none | exact evO_some (by first | exact evK_const rfl | exact evK_tmp rfl)) (hh : EvO S oh len hi := by first | exact evO_none | exact evO_some (by first | exact evK_const rfl | exact evK_tmp rfl)) (h1 : lo ≤ hi := by first | omega | decide) (h2 : hi ≤ len := by first | omega | decide) (h3 : lo < len := by first | omega | decide) :
    OpG C Try.prog ops o S ⟨opT x ++ (opO ol ++ opO oh), [n], dw o.dst (.s n (off + lo) (hi - lo) (len - lo)), [], []⟩ :=
  op_cutP ho hg hd hx hu' hs' hl hh h1 h2 (by rw [if_neg (by omega)]; omega)
end
/-! ### slices made -/
end Go.Proofs.Ytcgmapioelfneaa
namespace Go.Proofs.Ytcgmapioelfneaa
open Go.RowKit
set_option maxRecDepth 100000
variable {C : Ctx} {ops : Array Oper} {S : St} {o : Oper}
theorem strL_size (l : List (BitVec 8)) : (strL l).size = l.length := by simp [strL, ByteArray.size]
theorem strL_cut (l : List (BitVec 8)) (a b : Nat) : (strL l).extract a b = strL ((l.drop a).take (b - a)) := by
  unfold strL
  rw [ByteArray.extract_mk, List.map_take, List.map_drop]
section
variable {x y : Operand} {t T ty yt : TypeId} {s s' : ByteArray} {l l' : List (BitVec 8)}
theorem op_lenSt {dst : Option Tmp} {pos : String} {after : Array Edge} (hd : dstB dst C.nt = true) (hx : S.ev x = some (.c (.string s))) (hu' : tabLook undT t = some .string) (hs : s = strL l := by first | with_reducible rfl | assumption) :
    OpG C Try.prog ops ⟨dst, .call { callee := .builtin .len, args := #[x], argTypes := #[t] }, ty, pos, after, none⟩ S ⟨opT x, [], dw dst (.c (.int .i64 ((l.length : Nat) : Int))), [], []⟩ := by
  subst hs
  refine op_one (v := .c (.int .i64 ((l.length : Nat) : Int))) rfl hd hx fun e ρ w h1 => ?_
  have h1' : ρ x = .string (strL l) := h1
  have hu := tabAll_look undT_ok hu'
  simp only [execOp, resolve, invoke, builtin, Sem.run_bind, Sem.run_pure, Result.andThen_ok, List.map_toArray, List.map_cons, List.map_nil, h1', run_len_string w t ty _ hu, strL_size]
  rfl
theorem op_cutSt {lo hi : Nat} {ol oh : Option Operand} (ho : o.op = .slice t x ol oh none) (hg : o.guard = none) (hd : dstB o.dst C.nt = true) (hx : S.ev x = some (.c (.string s))) (hu' : tabLook undT t = some .string) (hs : s = strL l := by first | with_reducible rfl | assumption) (hl : EvO S ol 0 lo := by first | exact evO_none | exact evO_some (by first | exact evK_const rfl | exact evK_tmp rfl)) (hh : EvO S oh l.length hi := by first | exact evO_none | exact evO_some (by first | exact evK_const rfl | exact evK_tmp rfl)) (h1 : lo ≤ hi := by omega) (h2 : hi ≤ l.length := by first | omega | (simp only [List.length_cons, List.length_nil]; omega)) :
    OpG C Try.prog ops o S ⟨opT x ++ (opO ol ++ opO oh), [], dw o.dst (.c (.string (strL ((l.drop lo).take (hi - lo))))), [], []⟩ := by
  subst hs
  refine opG_mk hg fun S' h1' h2' _ e a w hS => ?_
  have hevx : a.eval x = .string (strL l) := hS.ev ((ev_like h1' fun _ h => List.mem_append_left _ h).trans hx)
  have hlo := evO_run hS hl fun i hi => h1' i (by simp [hi])
  have hhi := evO_run hS hh fun i hi => h1' i (by simp [hi])
  have hu := tabAll_look undT_ok hu'
  have hsz := strL_size l
  refine wp_value (v := .string (strL ((l.drop lo).take (hi - lo)))) (w' := w) ?_ ⟨e, hS.put hd (.c _)⟩
  have hrun : (Instr.slice t (.string (strL l)) (ol.map a.eval) (oh.map a.eval) none).run Try.prog w = .ok (.string (strL ((l.drop lo).take (hi - lo)))) w := by
    rw [← strL_cut]
    rcases hlo with ⟨e1, rfl⟩ | ⟨k, e1⟩ <;> rcases hhi with ⟨e2, rfl⟩ | ⟨k', e2⟩ <;> rw [e1, e2]
    · simp [Instr.slice, Instr.sliceBounds, run_underlying hu, hsz]
      rw [strL_cut]; simp
    · have h3 : (0 : Int) ≤ (hi : Int) ∧ (hi : Int) ≤ ((strL l).size : Int) := by omega
      simp [Instr.slice, Instr.sliceBounds, Instr.sliceBound, asIntOf, run_underlying hu, h3]
      intro hc; omega
    · have h3 : (0 : Int) ≤ (lo : Int) ∧ (lo : Int) ≤ ((strL l).size : Int) := by omega
      simp [Instr.slice, Instr.sliceBounds, Instr.sliceBound, asIntOf, run_underlying hu, h3, hsz]
      intro hc; omega
    · have := run_slice_string (P := Try.prog) w t (strL l) k k' (lo : Int) (hi : Int) hu (by omega) (by omega) (by omega)
      simpa using this
  have hat : (Instr.sliceAt t (.string (strL l)) (ol.map a.eval) (oh.map a.eval) none).run Try.prog w = .ok (.string (strL ((l.drop lo).take (hi - lo)))) w := by
    simp only [Instr.sliceAt, Sem.run_bind, run_underlying hu w, Result.andThen_ok]
    exact hrun
  simp only [execOp, ho, hevx, Sem.run_bind]
  rw [show (none : Option Operand).map a.eval = none from rfl, hat]
  simp only [Result.andThen_ok, Sem.run_pure]
end
/-! ### a few bytes in a block -/
/-! ### a slice, converted to its own type -/
end Go.Proofs.Ytcgmapioelfneaa
namespace Go.Proofs.Ytcgmapioelfneaa
open Go.RowKit
set_option maxRecDepth 100000
variable {C : Ctx} {ops : Array Oper} {S : St} {o : Oper}
/-! ### guards whose operation did not run -/
section
variable {P : Program} {dst : Option Tmp} {op : Op} {ty : TypeId} {pos : String} {after : Array Edge} {j : Nat} {want : Bool} {g d : Nat} {l : List Oper} {t : List (Nat × SV)} {h : List (Nat × Option Res)}
theorem opG_noU (hj : (ops[j]?).bind (·.dst) = some g) (hv : S.tmp g = some (.c undef)) (hd : dstB dst C.nt = true) : OpG C P ops ⟨dst, op, ty, pos, after, some (j, want)⟩ S ⟨[g], [], dw dst (.c undef), [], []⟩ := by
  intro S' h1 h2 h3 e a w hS
  have hy : yielded ops a.tmps j = none := by
    have := hS.tmp g _ ((h1 g (by simp)).trans hv)
    unfold yielded
    rw [hj]
    simp only [Option.bind_some, this]
    rfl
  rw [if_neg (by simp [Region.wanted, hy])]
  exact ⟨e, hS.put hd (.c undef)⟩
theorem walk1_noU {K : St → Prop} (hj : (ops[j]?).bind (·.dst) = some g) (hv : look t g = some (.c undef)) (hd : dstB (some d) C.nt = true) (hK : Walk1 C P ops l ⟨(d, .c undef) :: t, h⟩ K) : Walk1 C P ops (⟨some d, op, ty, pos, after, some (j, want)⟩ :: l) ⟨t, h⟩ K :=
  walk1_t (opG_noU (S := ⟨t, h⟩) hj hv hd) hK
end
end Go.Proofs.Ytcgmapioelfneaa
namespace Go.Proofs.Ytcgmapioelfneaa
open Go.RowKit
set_option maxRecDepth 100000
variable {C : Ctx} {ops : Array Oper} {S : St} {o : Oper}
theorem res_cells2 {fn : Func} {t1 t2 : Tmp} {ty1 ty2 : TypeId} {n1 n2 m1 m2 : Nat} {T1 T2 : TypeId} {A1 A2 : Array Value} {wr1 wr2 : Bool} {d1 d2 : TypeDesc} (h : fn.results = #[.cell t1 ty1, .cell t2 ty2]) (hv1 : S.tmp t1 = some (.p n1 0)) (hr1 : S.res n1 = some (.blk n1 T1 (.c A1) wr1)) (hv2 : S.tmp t2 = some (.p n2 0)) (hr2 : S.res n2 = some (.blk n2 T2 (.c A2) wr2))
    (hu1 : tabLook undT ty1 = some d1) (hda1 : d1.isRow = true) (hi1 : tabLook sizT ty1 = some m1) (hm1 : A1.size = m1) (hu2 : tabLook undT ty2 = some d2) (hda2 : d2.isRow = true) (hi2 : tabLook sizT ty2 = some m2) (hm2 : A2.size = m2) :
    ∀ e a w, Holds C S e a w → (results fn a.tmps).run Try.prog w = .ok ((SV.c (.tuple #[.agg A1, .agg A2])).den e) w := fun e a w hS => by
  have hu1 := tabAll_look undT_ok hu1
  have hi1 := tabAll_look sizT_ok hi1
  have hu2 := tabAll_look undT_ok hu2
  have hi2 := tabAll_look sizT_ok hi2
  obtain ⟨fr1, hb1, _⟩ := res_blk hS hr1
  obtain ⟨fr2, hb2, _⟩ := res_blk hS hr2
  have hp1 : a.tmps.getD t1 undef = .pointer (some ⟨(e n1).b, 0, none⟩) := getD_of (hS.tmp t1 _ hv1)
  have hp2 : a.tmps.getD t2 undef = .pointer (some ⟨(e n2).b, 0, none⟩) := getD_of (hS.tmp t2 _ hv2)
  have hp1' : a.tmps[t1]?.getD undef = .pointer (some ⟨(e n1).b, 0, none⟩) := by simpa using hp1
  have hp2' : a.tmps[t2]?.getD undef = .pointer (some ⟨(e n2).b, 0, none⟩) := by simpa using hp2
  have k1 := run_loadVar_row (P := Try.prog) w (e n1).b T1 ty1 A1 fr1 d1 hb1 hu1 (by cases d1 <;> simp_all) (by rw [hi1, hm1])
  have k2 := run_loadVar_row (P := Try.prog) w (e n2).b T2 ty2 A2 fr2 d2 hb2 hu2 (by cases d2 <;> simp_all) (by rw [hi2, hm2])
  simp [results, h, hp1', hp2', asAddr, k1, k2]
  rfl
theorem op_ext0 {x : Operand} {a b : Value} (ho : o.op = .extract x 0) (hg : o.guard = none) (hd : dstB o.dst C.nt = true) (hx : S.ev x = some (.c (.tuple #[a, b]))) : OpG C Try.prog ops o S ⟨opT x, [], dw o.dst (.c a), [], []⟩ := op_extractC ho hg hd hx rfl
theorem op_ext1 {x : Operand} {a b : Value} (ho : o.op = .extract x 1) (hg : o.guard = none) (hd : dstB o.dst C.nt = true) (hx : S.ev x = some (.c (.tuple #[a, b]))) : OpG C Try.prog ops o S ⟨opT x, [], dw o.dst (.c b), [], []⟩ := op_extractC ho hg hd hx rfl
end Go.Proofs.Ytcgmapioelfneaa
namespace Go.Proofs.Ytcgmapioelfneaa
open Go.RowKit
set_option maxRecDepth 100000
variable {C : Ctx} {ops : Array Oper} {S : St} {o : Oper}
/-- A slice of a block, whose room nobody knows. -/
def SV.sc (n len : Nat) : SV := ⟨9, fun e => .slice (some ⟨(e n).b, 0, none⟩) len (e n).c, [n], fun e e' h => by simp only [h n (by simp)]⟩
theorem op_lenSc {dst : Option Tmp} {x : Operand} {t T ty : TypeId} {pos : String} {after : Array Edge} {n len : Nat} (hd : dstB dst C.nt = true) (hx : S.ev x = some (.sc n len)) (hu' : tabLook undT t = some (.slice T)) :
    OpG C Try.prog ops ⟨dst, .call { callee := .builtin .len, args := #[x], argTypes := #[t] }, ty, pos, after, none⟩ S ⟨opT x, [], dw dst (.c (.int .i64 ((len : Nat) : Int))), [], []⟩ := by
  have := op_value (C := C) (P := Try.prog) (ops := ops) (S := S) (o := ⟨dst, .call { callee := .builtin .len, args := #[x], argTypes := #[t] }, ty, pos, after, none⟩) rfl hd [x] [] (.c (.int .i64 ((len : Nat) : Int))) fun S' e a w hS h1 h2 => by
    have hev : a.eval x = .slice (some ⟨(e n).b, 0, none⟩) len (e n).c := hS.ev ((h1 x (by simp)).trans hx)
    exact run_builtin_len hev hu'
  simpa using this
end Go.Proofs.Ytcgmapioelfneaa
namespace Go.Proofs.Ytcgmapioelfneaa
open Go.RowKit
set_option maxRecDepth 100000
section
variable {C : Ctx} {ops : Array Oper} {S : St} {o : Oper}
section
variable {l : List Oper} {t : List (Nat × SV)} {h : List (Nat × Option Res)} {d : Nat} {f j : FuncId} {xs : Array Operand} {ats : Array TypeId} {vs : List SV}
end
section
variable {dst : Option Tmp} {x y : Operand} {ats : Array TypeId} {ty : TypeId} {pos : String} {after : Array Edge} {k : IntKind} {m : Nat} {a b : BitVec m}
theorem op_minB (hd : dstB dst C.nt = true) (hx : EvB S x k a) (hy : EvB S y k b) : OpG C Try.prog ops ⟨dst, .call { callee := .builtin .min, args := #[x, y], argTypes := ats }, ty, pos, after, none⟩ S ⟨opT x ++ opT y, [], dw dst (.c (.int k (bvi (if b.toNat < a.toNat then b else a)))), [], []⟩ := by
  obtain ⟨za, hx, rfl⟩ := hx
  obtain ⟨zb, hy, rfl⟩ := hy
  refine op_two (v := .c (.int k (bvi (if b.toNat < a.toNat then b else a)))) rfl hd hx hy fun e ρ w h1 h2 => ?_
  rw [run_min h1 h2 w]
  have : (if bvi b < bvi a then bvi b else bvi a) = bvi (if b.toNat < a.toNat then b else a) := by
    unfold bvi
    by_cases h : b.toNat < a.toNat
    · rw [if_pos h, if_pos (by omega)]
    · rw [if_neg h, if_neg (by omega)]
  rw [this]
  rfl
end
end
end Go.Proofs.Ytcgmapioelfneaa
namespace Go.Proofs.Ytcgmapioelfneaa
open Go.RowKit
set_option maxRecDepth 100000
variable {C : Ctx} {ops : Array Oper} {S : St} {o : Oper}
/-- A whole row, read out of an own slice. -/
theorem op_loadsV {ty : TypeId} {x : Operand} {n off len sz m : Nat} {T0 : TypeId} {xs : List Value} {B : List Value} {d : TypeDesc} (ho : o.op = .load ty x) (hg : o.guard = none) (hd : dstB o.dst C.nt = true) (hx : S.ev x = some (.vp n off)) (hr : S.res n = some (.own n T0 sz len xs)) (hu' : tabLook undT ty = some d) (hda : d.isRow = true) (hi' : tabLook sizT ty = some m) (hm : 0 < m) (hb : off + m ≤ xs.length) (hB : (xs.drop off).take m = B) :
    OpG C Try.prog ops o S ⟨opT x, [n], dw o.dst (.c (.agg B.toArray)), [], []⟩ := by
  have hu := tabAll_look undT_ok hu'
  have hi := tabAll_look sizT_ok hi'
  have hBl : B.length = m := by rw [← hB, List.length_take, List.length_drop]; omega
  have := op_value (C := C) (P := Try.prog) (ops := ops) (S := S) hg hd [x] [n] (.c (.agg B.toArray)) fun S' e a w hS h1 h2 => by
    have hev : a.eval x = (SV.vp n off).den e := hS.ev ((h1 x (by simp)).trans hx)
    have hok : w.ownsRow 0 T0 sz (e n).v len xs := hS.res n _ ((h2 n (by simp)).trans hr)
    rcases hok.2 with ⟨h3, h4⟩ | ⟨g, cap, cur, h4, _⟩
    · have h5 := hok.1
      rw [h4, Nat.zero_mul] at h5
      omega
    · have hden : (SV.vp n off).den e = .pointer (some ⟨g, off, none⟩) := by simp only [SV.vp, h4]
      have hra : w.rangeAt g off B := fun j u hj => by
        have hjl : j < m := by have := (List.getElem?_eq_some_iff.1 hj).1; omega
        rw [← hB, List.getElem?_take, if_pos hjl, List.getElem?_drop] at hj
        have := hok.cells (g := g) (by rw [h4]; rfl) (off + j) u hj
        rwa [add_place, Nat.zero_add] at this
      have hl := run_loadVar_mid (P := Try.prog) w g off ty B d hra hu hda (by rw [hi, hBl])
      rw [hden] at hev
      simp [execOp, ho, hev, Instr.loadAt, Instr.sureAddr, Sem.run_bind, hl, SV.c]
  simpa using this
end Go.Proofs.Ytcgmapioelfneaa
