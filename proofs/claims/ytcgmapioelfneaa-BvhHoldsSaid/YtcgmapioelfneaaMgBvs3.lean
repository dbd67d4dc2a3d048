/- The document's under: walked. No condition. The document's Box: walked. No condition. The document's Sound: plain. No condition. Maps of ints by ints that the run makes: made, written, read. No condition. What the law BvhHolds needs of a sound tree: plain. No condition. -/
import Derived.Test.YtcgmapioelfneaaMgBvq7
import Derived.Test.YtcgmapioelfneaaMgSrt7
import Derived.Maps.Views
import Derived.Test.YtcgmapioelfneaaMgTre2
namespace Go.Proofs.Ytcgmapioelfneaa
open Go.RowKit
set_option maxRecDepth 100000
set_option maxHeartbeats 2000000
attribute [local irreducible] Calls Walk1 WalkTo Tri EndA
end Go.Proofs.Ytcgmapioelfneaa
namespace Go.Proofs.Ytcgmapioelfneaa
open Go.RowKit
set_option maxRecDepth 100000
set_option maxHeartbeats 4000000
attribute [local irreducible] Calls Walk1 WalkTo Tri EndA
end Go.Proofs.Ytcgmapioelfneaa
namespace Go.Proofs.Ytcgmapioelfneaa
open Go.RowKit
set_option maxRecDepth 100000
set_option maxHeartbeats 1000000
/-! ### which were met, counted -/
/-! ### the leaves, from the first node on -/
/-! ### how often a node is led on to, ahead of it -/
/-! ### the box of all corners -/
/-! ### a slice of three rows -/
section
variable {C : Ctx} {ops : Array Oper} {S : St} {o : Oper}
end
/-! ### a loop whose world is told anew at each round -/
end Go.Proofs.Ytcgmapioelfneaa
namespace Go.Proofs.Ytcgmapioelfneaa
open Go.RowKit
set_option maxRecDepth 100000
set_option maxHeartbeats 1000000
def SV.mp (n : Nat) : SV := ⟨80, fun e => .map (some (e n).b), [n], fun e e' h => by simp only [h n (by simp)]⟩
def updI (f : Int → Int) (x y : Int) : Int → Int := fun z => if z = x then y else f z
/-- Block b is a map of at most n entries that tells f of each number. -/
def mapI (w : World) (b n : Nat) (f : Int → Int) : Prop := ∃ D : DataW Unit, w.ownsMap Try.prog 3 (plainElem Try.prog 3) b n D ∧ Maps.IsMap D ∧ ∀ x : Int, (Lit.int .i64 x).wf = true → D.atKey (.int .i64 x) (.lit (.int .i64 0)) = .lit (.int .i64 (f x))
theorem intU (P : Program) (t : TypeId) (h : P.underlying t = some (.int .i64)) : Maps.Keyed P t := Maps.int_keyed h
theorem und_int : Try.prog.underlying 3 = some (.int .i64) := tabAll_look undT_ok rfl
theorem und_map : Try.prog.underlying 49 = some (.map 3 3) := tabAll_look undT_ok rfl
theorem zero_int (w : World) : (zeroValue 3).run Try.prog w = .ok (.int .i64 0) w := by kernel_rfl
theorem mapI_kept {w w' : World} {b n : Nat} {f : Int → Int} (h : mapI w b n f) (hb : w'.heap[b]? = w.heap[b]?) : mapI w' b n f := by
  obtain ⟨D, ⟨es, clock, h1, h2⟩, h3⟩ := h
  exact ⟨D, ⟨es, clock, hb.trans h1, h2⟩, h3⟩
theorem mapI_lt {w : World} {b n : Nat} {f : Int → Int} (h : mapI w b n f) : b < w.heap.size := by
  obtain ⟨D, h1, _⟩ := h
  exact h1.lt
theorem mapI_made (w : World) : mapI (w.alloc (.map #[] 0)) w.heap.size 0 (fun _ => 0) := ⟨.map [], World.ownsMap_made w _ _ _, Maps.isMap_empty, fun _ _ => rfl⟩
theorem mapI_put {w : World} {b n : Nat} {f : Int → Int} (h : mapI w b n f) (hn : n < 1000000) {x y : Int} (hx : (Lit.int .i64 x).wf = true) (hy : (Lit.int .i64 y).wf = true) :
    ∃ w', (Instr.mapUpdate 49 (.map (some b)) (.int .i64 x) (.int .i64 y)).run Try.prog w = .ok () w' ∧ mapI w' b (n + 1) (updI f x y) ∧ w.grownBy w' (some b) := by
  obtain ⟨D, h1, h2, h3⟩ := h
  obtain ⟨w', hrun, h4, h5⟩ := h1.update (intU _ _ und_int) und_map (by unfold maxLen; omega) (Maps.keyOf_int_mk und_int hx) (plainElem_int und_int hy)
  refine ⟨w', hrun, ⟨_, h4, h2.put _ _, fun z hz => ?_⟩, h5⟩
  unfold updI
  by_cases hzx : z = x
  · subst hzx
    rw [if_pos rfl, Maps.atKey_put_same h2 ((intU _ _ und_int).key (Maps.keyOf_int_mk und_int hx))]
  · rw [if_neg hzx, Maps.atKey_put_other (by intro he; injection he with _ he; exact hzx he)]
    exact h3 z hz
theorem mapI_get {w : World} {b n : Nat} {f : Int → Int} (h : mapI w b n f) {x : Int} (hx : (Lit.int .i64 x).wf = true) : (Instr.lookup 49 (.map (some b)) (.int .i64 x) false).run Try.prog w = .ok (.int .i64 (f x)) w := by
  obtain ⟨D, h1, h2, h3⟩ := h
  obtain ⟨c, hrun, h4, _⟩ := h1.lookup_int (intU _ _ und_int) und_map und_int (zero_int w) (Maps.keyOf_int_mk und_int hx)
  rw [h3 x hx] at h4
  injection h4 with h4
  injection h4 with _ h4
  rw [hrun, h4]
def mapO : Obj (Nat × (Int → Int)) where
  ok w b v s := v = undef ∧ mapI w b s.1 s.2
  loc hb h := ⟨h.1, mapI_kept h.2 (hb _ (.inl rfl))⟩
  lt := by
    rintro w b v s x ⟨rfl, h⟩ hx
    rcases hx with rfl | hx
    · exact mapI_lt h
    · cases hx
section
variable {C : Ctx} {ops : Array Oper} {S : St} {o : Oper}
theorem op_makeMap {t : TypeId} {n : Nat} (ho : o.op = .makeMap t none) (hdn : o.dst = some n) (hg : o.guard = none) (hd : dstB o.dst C.nt = true) (k : Nat) :
    OpG C Try.prog ops o S ⟨[], [], [(n, .mp n)], [(n, none), (k, some (.obj n mapO (0, fun _ => 0)))], [n]⟩ := by
  refine opG_mk hg fun S' h1 h2 h3 e a w hS => ?_
  have hH := (hS.newObjO (n := n) k (b := w.heap.size) (v := undef) (O := mapO) (s := (0, fun _ => 0)) (w' := w.alloc (.map #[] 0)) (h3 n (by simp)) ⟨rfl, mapI_made w⟩ (fun x hx => by
    rcases hx with rfl | hx
    · exact Nat.le_refl _
    · cases hx) ((Below.refl _ _).alloc (Nat.le_refl _) _)).drop n
  refine wp_value (v := .map (some w.heap.size)) (w' := w.alloc (.map #[] 0)) ?_ ⟨e.set n ⟨w.heap.size, 0, undef⟩, ?_⟩
  · simp [execOp, ho, run_makeMap, Sem.run_bind]
  · have := hH.put hd (.mp n)
    simp only [SV.mp, Env.set_self] at this
    rw [hdn] at this ⊢
    exact this
theorem op_mapPut {x y z : Operand} {n k q : Nat} {f : Int → Int} {c d : Int} (ho : o.op = .mapUpdate 49 x y z) (hg : o.guard = none) (hdst : o.dst = none) (hx : S.ev x = some (.mp n)) (hy : S.ev y = some (.c (.int .i64 c))) (hz : S.ev z = some (.c (.int .i64 d))) (hr : S.res k = some (.obj n mapO (q, f)))
    (hq : q < 1000000) (hc : -9223372036854775808 ≤ c ∧ c ≤ 9223372036854775807) (hdd : -9223372036854775808 ≤ d ∧ d ≤ 9223372036854775807) :
    OpG C Try.prog ops o S ⟨opT x ++ (opT y ++ opT z), [k, n], [], [(k, some (.obj n mapO (q + 1, updI f c d)))], []⟩ := by
  refine opG_mk hg fun S' h1 h2 h3 e a w hS => ?_
  have hex : a.eval x = .map (some (e n).b) := hS.ev ((ev_like h1 fun _ h => List.mem_append_left _ h).trans hx)
  have hey : a.eval y = .int .i64 c := hS.ev ((ev_like h1 fun _ h => List.mem_append_right _ (List.mem_append_left _ h)).trans hy)
  have hez : a.eval z = .int .i64 d := hS.ev ((ev_like h1 fun _ h => List.mem_append_right _ (List.mem_append_right _ h)).trans hz)
  have hr' := (h2 k (by simp)).trans hr
  obtain ⟨hv, hm⟩ : (e n).v = undef ∧ mapI w (e n).b q f := hS.res k _ hr'
  obtain ⟨w', hrun, hm', hgr⟩ := mapI_put hm hq (WalkArith.wf_i64 hc) (WalkArith.wf_i64 hdd)
  refine wp_skip' (w' := w') ?_ ⟨e, ?_⟩
  · simp [execOp, ho, hex, hey, hez, hrun, Sem.run_bind]
  · rw [hdst]
    exact hS.chgObj (s' := (q + 1, updI f c d)) hr' ⟨hv, hm'⟩ ⟨hgr.os, hgr.tape, hgr.output, hgr.size, fun k hk hne => hgr.block k hk fun he => hne (by cases he; exact List.mem_cons_self)⟩
theorem op_mapGet {x y : Operand} {b q : Nat} {f : Int → Int} {c : Int} (hm : C.m = []) (hM : mapI C.w0 b q f) (ho : o.op = .lookup 49 x y false) (hg : o.guard = none) (hd : dstB o.dst C.nt = true) (hx : S.ev x = some (.c (.map (some b)))) (hy : S.ev y = some (.c (.int .i64 c)))
    (hc : -9223372036854775808 ≤ c ∧ c ≤ 9223372036854775807) :
    OpG C Try.prog ops o S ⟨opT x ++ opT y, [], dw o.dst (.c (.int .i64 (f c))), [], []⟩ := by
  refine opG_mk hg fun S' h1 h2 h3 e a w hS => ?_
  have hex : a.eval x = .map (some b) := hS.ev ((ev_like h1 fun _ h => List.mem_append_left _ h).trans hx)
  have hey : a.eval y = .int .i64 c := hS.ev ((ev_like h1 fun _ h => List.mem_append_right _ h).trans hy)
  have hb := hS.frame.below hm
  have hrun := mapI_get (mapI_kept hM (hb.block b (mapI_lt hM))) (WalkArith.wf_i64 hc)
  refine wp_value (v := .int .i64 (f c)) (w' := w) ?_ ⟨e, hS.put hd (.c (.int .i64 (f c)))⟩
  simp [execOp, ho, hex, hey, hrun, Sem.run_bind]
end
theorem walk1_gk {C : Ctx} {P : Program} {ops : Array Oper} {K : St → Prop} {o : Oper} {l : List Oper} {t : List (Nat × SV)} {h : List (Nat × Option Res)} {rt rb : List Nat} {d : Nat} {v : SV} {m n k : Nat} {q : Res} {q0 : Option Res} (ho : OpG C P ops o ⟨t, h⟩ ⟨rt, rb, [(d, v)], [(m, q0), (k, some q)], [n]⟩) (hf : freshB ⟨t, h⟩ n = true) (ht : Walk1 C P ops l ⟨(d, v) :: t, (m, q0) :: (k, some q) :: h⟩ K) : Walk1 C P ops (o :: l) ⟨t, h⟩ K := ⟨_, ho, by simp [hf], ht⟩
end Go.Proofs.Ytcgmapioelfneaa
namespace Go.Proofs.Ytcgmapioelfneaa
open Go.RowKit
set_option maxRecDepth 100000
set_option maxHeartbeats 1000000
theorem sumF_one (f : Nat → Nat) {i : Nat} : ∀ {n : Nat}, i < n → f i ≤ sumF f (List.range n)
  | n + 1, h => by
    rw [sumF_range]
    by_cases hi : i = n
    · subst hi; omega
    · have := sumF_one f (n := n) (i := i) (by omega)
      omega
theorem sumF_two (f : Nat → Nat) {i j : Nat} (hij : i ≠ j) : ∀ {n : Nat}, i < n → j < n → f i + f j ≤ sumF f (List.range n)
  | n + 1, h, h' => by
    rw [sumF_range]
    by_cases hi : i = n
    · subst hi
      have := sumF_one f (n := i) (i := j) (by omega)
      omega
    · by_cases hj : j = n
      · subst hj
        have := sumF_one f (n := j) (i := i) (by omega)
        omega
      · have := sumF_two f hij (n := n) (by omega) (by omega)
        omega
theorem sumF_congr {f g : Nat → Nat} : ∀ {l : List Nat}, (∀ x ∈ l, f x = g x) → sumF f l = sumF g l := fun {l} h => by
  unfold sumF
  rw [List.map_congr_left h]
theorem sumF_filter (f : Nat → Nat) (p : Nat → Bool) : ∀ l : List Nat, sumF f (l.filter p) = sumF (fun x => if p x then f x else 0) l
  | [] => rfl
  | x :: l => by
    rw [List.filter_cons, sumF_cons, ← sumF_filter f p l]
    split
    · rw [sumF_cons]
    · simp
theorem sumF_swap (g : Nat → Nat → Nat) (a : Nat) : ∀ b : Nat, sumF (fun i => sumF (fun k => g k i) (List.range a)) (List.range b) = sumF (fun k => sumF (g k) (List.range b)) (List.range a)
  | 0 => by rw [sumF_zero (l := List.range a)] <;> simp [sumF]
  | b + 1 => by
    rw [sumF_range, sumF_swap g a b]
    have h : ∀ a, sumF (fun k => sumF (g k) (List.range (b + 1))) (List.range a) = sumF (fun k => sumF (g k) (List.range b)) (List.range a) + sumF (fun k => g k b) (List.range a) := by
      intro a
      induction a with
      | zero => simp [sumF]
      | succ a ih => rw [sumF_range, sumF_range, sumF_range, ih, sumF_range]; omega
    rw [h a]
theorem sumF_ind (f c : Nat) : ∀ L : Nat, sumF (fun k => if f ≤ k ∧ k < f + c then 1 else 0) (List.range L) = min L (f + c) - min L f
  | 0 => by simp [sumF]
  | L + 1 => by
    rw [sumF_range, sumF_ind f c L]
    split <;> omega
/-- A slice of two points, built, as an own one. -/
theorem op_bsliceO2 {C : Ctx} {ops : Array Oper} {S : St} {o : Oper} {t T n : Nat} {parts : Array (Nat × Operand)} {x0 x1 : Operand} {A0 A1 : Array Value} {Z : Array Value} (ho : o.op = .buildSlice t 2 parts) (hp : parts = #[(0, x0), (1, x1)]) (hdn : o.dst = some n) (hg : o.guard = none) (hd : dstB o.dst C.nt = true)
    (h0 : S.ev x0 = some (.c (.agg A0))) (h1 : S.ev x1 = some (.c (.agg A1))) (hu' : tabLook undT t = some (.slice T)) (hs' : tabLook sizT T = some 3) (hz' : tabLook zerT T = some Z) (hZ : Z.size = 3) (s0 : A0.size = 3) (s1 : A1.size = 3) :
    OpG C Try.prog ops o S ⟨[x0, x1].flatMap opT, [], [(n, .v n)], [(n, some (.own n T 3 2 (A0 ++ A1).toList))], [n]⟩ := by
  refine opG_mk hg fun S' g1 g2 g3 e a w hS => ?_
  have e0 : a.eval x0 = .agg A0 := hS.ev ((ev_like g1 fun _ h => List.mem_flatMap.2 ⟨x0, by simp, h⟩).trans h0)
  have e1 : a.eval x1 = .agg A1 := hS.ev ((ev_like g1 fun _ h => List.mem_flatMap.2 ⟨x1, by simp, h⟩).trans h1)
  have hu := tabAll_look undT_ok hu'
  have hz := tabAll_look zerT_ok hz'
  obtain ⟨zv, hz3, hzc⟩ : ∃ zv, (zeroValue T).run Try.prog w = .ok zv w ∧ zv.cells = Z := by
    cases hb : (Try.prog.info? T) with
    | none => simp [hb] at hz
    | some i =>
      cases hc : i.zero with
      | none => simp [hb, hc] at hz
      | some zz => exact ⟨zz, by simp [zeroValue, typeInfo, hb, hc], by simpa [hb, hc] using hz⟩
  have hown := World.ownsRow_lit (base := w.heap.size) (e := T) (size := 3) w (A0 ++ A1) 2 (Nat.le_refl _) (by simp only [maxLen]; omega) (by rw [Array.size_append, s0, s1])
  have hH := hS.ownNew (n := n) (g3 n (by simp)) ((Below.refl _ _).alloc (Nat.le_refl _) _) hown
  refine wp_value (v := .slice (some ⟨w.heap.size, 0, none⟩) 2 2) (w' := w.alloc (.cells (A0 ++ A1) T)) ?_ ⟨e.set n ⟨0, 0, .slice (some ⟨w.heap.size, 0, none⟩) 2 2⟩, ?_⟩
  · simp only [execOp, ho, hp, Instr.buildSlice, Sem.run_bind, run_underlying hu w, Result.andThen_ok, run_sizeT hs' w, Sem.run_ite]
    simp only [show ¬ (2 * 3 > 2 ^ 24) from by omega, if_false, show ¬ (2 * 3 = 0) from by omega, hz3, Result.andThen_ok, Sem.run_pure, hzc, List.map_toArray, List.map_cons, List.map_nil, e0, e1]
    obtain ⟨z0, z1, z2, rfl⟩ := arr3p Z hZ
    obtain ⟨a0, a1, a2, rfl⟩ := arr3p A0 s0
    obtain ⟨b0, b1, b2, rfl⟩ := arr3p A1 s1
    rw [show Instr.fill (fun i => some (i * 3, 3)) ((Array.range (2 * 3)).map fun x => (#[z0, z1, z2] : Array Value)[x % (#[z0, z1, z2] : Array Value).size]!) [(0, .agg #[a0, a1, a2]), (1, .agg #[b0, b1, b2])] = some (#[a0, a1, a2] ++ #[b0, b1, b2]) from by kernel_rfl]
    simp [newRow]
  · rw [hdn]
    have hd' : dstB (some n) C.nt = true := by rw [← hdn]; exact hd
    have := hH.put hd' (.v n)
    simp only [SV.v, Env.set_self] at this
    exact this
section
variable {l : List TriS} {N : List NodeS} {K : List Nat} {M : Nat → List Nat} {D : Nat → Nat}
theorem par_one (hS : SoundF l N K M D) {i j : Nat} {n m : NodeS} (hi : N[i]? = some n) (hj : N[j]? = some m) {q : Int} (hq : 0 ≤ q) (h1 : n.left = q ∨ n.right = q) (h2 : m.left = q ∨ m.right = q) : i = j := by
  obtain ⟨q, rfl⟩ := Int.eq_ofNat_of_zero_le hq
  refine Classical.byContradiction fun hij => ?_
  have hs := sumF_two (parF N q) hij (List.getElem?_eq_some_iff.1 hi).1 (List.getElem?_eq_some_iff.1 hj).1
  have hp := hS.par q
  have a1 : 1 ≤ parF N q i := by
    unfold parF
    rw [nodeAt_of hi]
    rcases h1 with h | h
    · rw [if_pos h]; omega
    · rw [if_pos h]; omega
  have a2 : 1 ≤ parF N q j := by
    unfold parF
    rw [nodeAt_of hj]
    rcases h2 with h | h
    · rw [if_pos h]; omega
    · rw [if_pos h]; omega
  split at hp <;> omega
/-- From where each node was led on to, among the first nodes. -/
def UpOK (N : List NodeS) (f : Int → Int) (j : Nat) : Prop := ∀ i n, i < j → N[i]? = some n → 0 ≤ n.left → f n.left = (i : Int) ∧ f n.right = (i : Int)
theorem up_leaf {f : Int → Int} {j : Nat} {n : NodeS} (hn : N[j]? = some n) (h : n.left = -1) (hu : UpOK N f j) : UpOK N f (j + 1) := fun i m hi hm h0 => by
  by_cases hij : i = j
  · subst hij
    rw [hn] at hm
    obtain rfl := Option.some.inj hm
    omega
  · exact hu i m (by omega) hm h0
theorem up_fork (hS : SoundF l N K M D) {f : Int → Int} {j : Nat} {n : NodeS} (hn : N[j]? = some n) (h : 0 ≤ n.left) (hu : UpOK N f j) : UpOK N (updI (updI f n.left j) n.right j) (j + 1) := fun i m hi hm h0 => by
  unfold updI
  by_cases hij : i = j
  · subst hij
    rw [hn] at hm
    obtain rfl := Option.some.inj hm
    refine ⟨?_, by rw [if_pos rfl]⟩
    split
    · rfl
    · rw [if_pos rfl]
  · have hr : ∀ {j : Nat} {n : NodeS}, N[j]? = some n → 0 ≤ n.left → 0 ≤ n.right := fun {j n} hn h => by
      rcases hS.nodes j n hn with ⟨f, c, ⟨e1, e2, _⟩, _⟩ | ⟨L, R, ⟨e1, e2, _⟩, _⟩ <;> omega
    have hm0 := hr hm h0
    have hn0 := hr hn h
    have d1 : m.left ≠ n.left := fun e => hij (par_one hS hm hn h0 (.inl rfl) (.inl e.symm))
    have d2 : m.left ≠ n.right := fun e => hij (par_one hS hm hn h0 (.inl rfl) (.inr e.symm))
    have d3 : m.right ≠ n.left := fun e => hij (par_one hS hm hn hm0 (.inr rfl) (.inl e.symm))
    have d4 : m.right ≠ n.right := fun e => hij (par_one hS hm hn hm0 (.inr rfl) (.inr e.symm))
    rw [if_neg d2, if_neg d1, if_neg d4, if_neg d3]
    exact hu i m (by omega) hm h0
theorem up_par (hS : SoundF l N K M D) {f : Int → Int} (hu : UpOK N f N.length) {q : Nat} (hq : q < N.length) (h0 : q ≠ 0) {k : Nat} (hk : k ∈ M q) : ∃ p : Nat, f (q : Int) = (p : Int) ∧ p < q ∧ p < N.length ∧ k ∈ M p := by
  have hp := hS.par q
  rw [if_pos ⟨hq, h0⟩] at hp
  obtain ⟨p, hpl, hpq⟩ : ∃ p, p < N.length ∧ parF N q p ≠ 0 := by
    refine Classical.byContradiction fun hno => ?_
    rw [sumF_zero fun x hx => Classical.byContradiction fun hc => hno ⟨x, List.mem_range.1 hx, hc⟩] at hp
    omega
  obtain ⟨n, hn⟩ : ∃ n, N[p]? = some n := ⟨_, List.getElem?_eq_getElem hpl⟩
  unfold parF at hpq
  rw [nodeAt_of hn] at hpq
  have hlr : n.left = (q : Int) ∨ n.right = (q : Int) := by
    refine Classical.byContradiction fun hno => ?_
    rw [if_neg fun h => hno (.inl h), if_neg fun h => hno (.inr h)] at hpq
    exact hpq rfl
  rcases hS.nodes p n hn with ⟨f', c, ⟨e1, e2, _⟩, _⟩ | ⟨L, R, ⟨e1, e2, _, _, c1, c2, _⟩, hM, _⟩
  · omega
  · obtain ⟨u1, u2⟩ := hu p n hpl hn (by omega)
    rcases hlr with h | h
    · rw [h] at u1
      have : L = q := by omega
      subst this
      exact ⟨p, u1, c1, hpl, by rw [hM]; exact List.mem_append_left _ hk⟩
    · rw [h] at u2
      have : R = q := by omega
      subst this
      exact ⟨p, u2, c2, hpl, by rw [hM]; exact List.mem_append_right _ hk⟩
def cntN (N : List NodeS) (i : Nat) : Nat := (nodeAt N i).count.toNat
theorem cnt_all (hS : SoundF l N K M D) : sumF (cntN N) (leavesL N N.length) = l.length := by
  unfold leavesL
  rw [sumF_filter]
  have h1 : ∀ i ∈ List.range N.length, (if decide ((nodeAt N i).left = -1) = true then cntN N i else 0) = sumF (fun k => covF N k i) (List.range l.length) := fun i hi => by
    obtain ⟨n, hn⟩ : ∃ n, N[i]? = some n := ⟨_, List.getElem?_eq_getElem (List.mem_range.1 hi)⟩
    unfold covF cntN
    rw [nodeAt_of hn]
    rcases hS.nodes i n hn with ⟨f, c, ⟨e1, e2, e3, e4, e5, e6, _⟩, _⟩ | ⟨L, R, ⟨e1, _⟩, _⟩
    · rw [e1, e3, e4, if_pos (by simp), sumF_congr (g := fun k => if f ≤ k ∧ k < f + c then 1 else 0) fun k _ => ?_, sumF_ind]
      · omega
      · by_cases h : f ≤ k ∧ k < f + c
        · rw [if_pos h, if_pos ⟨rfl, by omega, by omega⟩]
        · rw [if_neg h, if_neg (by omega)]
    · rw [e1, if_neg (by simp), sumF_zero fun k _ => if_neg (by omega)]
  rw [sumF_congr h1, sumF_swap, sumF_congr (g := fun _ => 1) fun k hk => (hS.cov k).trans (if_pos (List.mem_range.1 hk))]
  have : ∀ n, sumF (fun _ => 1) (List.range n) = n := fun n => by
    induction n with
    | zero => rfl
    | succ n ih => rw [sumF_range, ih]
  exact this _
theorem cnt_take (f : Nat → Nat) (L : List Nat) (j : Nat) : sumF f (L.take j) ≤ sumF f L := by
  have h := sumF_app f (L.take j) (L.drop j)
  rw [List.take_append_drop] at h
  omega
theorem cnt_step (f : Nat → Nat) {L : List Nat} {j x : Nat} (h : L[j]? = some x) : sumF f (L.take (j + 1)) = sumF f (L.take j) + f x := by
  rw [List.take_add_one, h, sumF_app]
  simp [sumF]
theorem leaf_in (hS : SoundF l N K M D) {j i : Nat} (h : (leavesL N N.length)[j]? = some i) : ∃ n f c, N[i]? = some n ∧ i < N.length ∧ LeafN l K n f c ∧ M i = (K.drop f).take c ∧ cntN N i = c := by
  have hm := List.mem_of_getElem? h
  unfold leavesL at hm
  rw [List.mem_filter, List.mem_range] at hm
  obtain ⟨n, hn⟩ : ∃ n, N[i]? = some n := ⟨_, List.getElem?_eq_getElem hm.1⟩
  have h2 : n.left = -1 := by rw [← nodeAt_of hn]; simpa using hm.2
  rcases hS.nodes i n hn with ⟨f, c, hL, hM, _⟩ | ⟨L, R, ⟨e1, _⟩, _⟩
  · exact ⟨n, f, c, hn, hm.1, hL, hM, by unfold cntN; rw [nodeAt_of hn, hL.2.2.2.1]; simp⟩
  · omega
theorem box_in {ks : List Nat} {lo hi : P3} (h : BBx l ks (lo, hi)) {k : Nat} (hk : k ∈ ks) : boxP (lo :: hi :: cornersT (l.getD k zT)) = (lo, hi) := by
  have hle := h.1 k hk
  have hc : ∀ p ∈ lo :: hi :: cornersT (l.getD k zT), ∀ a, axP lo a ≤ axP p a ∧ axP p a ≤ axP hi a := fun p hp a => by
    obtain ⟨h1, h2⟩ := hle a
    have h1 : axP lo a ≤ axP (tbox (l.getD k zT)).1 a := h1
    have h2 : axP (tbox (l.getD k zT)).2 a ≤ axP hi a := h2
    have hcor : ∀ p ∈ cornersT (l.getD k zT), axP (tbox (l.getD k zT)).1 a ≤ axP p a ∧ axP p a ≤ axP (tbox (l.getD k zT)).2 a := fun p hp => boxP_le hp a
    have h0 := hcor (l.getD k zT).p0 (by simp [cornersT])
    rcases List.mem_cons.1 hp with rfl | hp
    · omega
    · rcases List.mem_cons.1 hp with rfl | hp
      · omega
      · have := hcor p hp
        omega
  have hne : lo :: hi :: cornersT (l.getD k zT) ≠ [] := by simp
  refine Prod.ext (p3_ax fun a => ?_) (p3_ax fun a => ?_)
  · obtain ⟨⟨p, hp, e⟩, _⟩ := boxP_at hne a
    have h1 := (hc p hp a).1
    have h2 := (boxP_le (ps := lo :: hi :: cornersT (l.getD k zT)) List.mem_cons_self a).1
    dsimp only
    omega
  · obtain ⟨_, p, hp, e⟩ := boxP_at hne a
    have h1 := (hc p hp a).2
    have h2 := (boxP_le (ps := lo :: hi :: cornersT (l.getD k zT)) (List.mem_cons_of_mem _ List.mem_cons_self) a).2
    dsimp only
    omega
end
end Go.Proofs.Ytcgmapioelfneaa
