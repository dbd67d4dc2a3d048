/- A part of an own slice of numbers handed to a call that sorts it; slices built of two rows. No condition. How a tree is made, plainly. No condition. What a walk's questions reckon: trees, and what is looked at: plain. No condition. What a walk's Any reckons: plain. No condition. -/
import Derived.Test.YtmpnkknocfaciaaSymMC
import Derived.Test.YtmpnkknocfaciaaBld8
import Derived.Test.YtmpnkknocfaciaaWkAB
import Derived.Test.YtmpnkknocfaciaaBldG
namespace Go.Proofs.Ytmpnkknocfaciaa
open Go.RowKit
set_option maxRecDepth 100000
set_option maxHeartbeats 1000000
variable {C : Ctx} {ops : Array Oper} {S : St} {o : Oper}
theorem op_callSub {f : FuncId} {xs : Array Operand} {ats : Array TypeId} {j q T len lo cnt : Nat} {K ks' : List Nat} {v : Value} {vs1 vs2 : List SV} (ho : o.op = .call { callee := .value (.func f), args := xs, argTypes := ats }) (hg : o.guard = none) (hd : dstB o.dst C.nt = true) (hxs : EvS S xs.toList (vs1 ++ SV.sub q lo cnt :: vs2)) (hc' : tabLook calT f = some j)
    (hr : S.res q = some (.own q T 1 len (K.map intV))) (hlen : lo + cnt ≤ len) (h0 : 0 < cnt) (hks : ks'.length = cnt)
    (hcon : ∀ (S' : St) e a w, Holds C S' e a w → ∀ b cap pre post, C.mine b → pre.length = lo → Blk w b (segA pre post ((K.drop lo).take cnt)) T → Calls Try.prog j (vs1.map (·.den e) ++ Value.slice (some ⟨b, pre.length, none⟩) cnt cap :: vs2.map (·.den e)).toArray w (RetP w b T (segA pre post ks') v)) :
    OpG C Try.prog ops o S ⟨xs.toList.flatMap opT, [q], dw o.dst (.c v), [(q, some (.own q T 1 len ((K.take lo ++ (ks' ++ K.drop (lo + cnt))).map intV)))], []⟩ := by
  refine opG_mk hg fun S' h1 h2 h3 e a w hS => ?_
  unfold Oper.wp
  have hr' := (h2 q (by simp)).trans hr
  have hok : w.ownsRow 0 T 1 (e q).v len (K.map intV) := hS.res q _ hr'
  have hKl : K.length = len := by have := hok.1; rw [List.length_map, Nat.mul_one] at this; exact this
  rcases hok.2 with ⟨_, h0'⟩ | ⟨g, cap, cur, hev, _, hb, hnc, hcm, hcs, htk⟩
  · omega
  have hg0 : (e q).v.ownBlock = some g := by rw [hev]; rfl
  have hmine : C.mine g := hS.mine q _ hr' rfl g hg0
  rw [Nat.mul_one] at hcs htk
  obtain ⟨pre, hpre⟩ : ∃ p, p = (K.take lo).map intV := ⟨_, rfl⟩
  obtain ⟨post, hpost⟩ : ∃ p, p = (K.drop (lo + cnt)).map intV ++ cur.toList.drop len := ⟨_, rfl⟩
  have hpl : pre.length = lo := by rw [hpre, List.length_map, List.length_take]; omega
  have hK : K.take lo ++ ((K.drop lo).take cnt ++ K.drop (lo + cnt)) = K := by rw [← List.drop_drop, List.take_append_drop, List.take_append_drop]
  have hcur : cur = segA pre post ((K.drop lo).take cnt) := by
    apply Array.ext'
    have e1 : cur.toList = cur.toList.take len ++ cur.toList.drop len := (List.take_append_drop _ _).symm
    rw [e1, htk]
    conv => lhs; rw [← hK]
    simp [segA, hpre, hpost]
  have hB : Blk w g (segA pre post ((K.drop lo).take cnt)) T := by rw [← hcur]; exact hb
  have hden : (SV.sub q lo cnt).den e = .slice (some ⟨g, pre.length, none⟩) cnt (cap - lo) := by
    show cutV (e q).v lo cnt = _
    rw [hev]
    show Value.slice (if cap = lo then _ else _) cnt (cap - lo) = _
    rw [if_neg (by omega), hpl]
    simp [add_place]
  have hargs : ((vs1 ++ SV.sub q lo cnt :: vs2).map (·.den e)).toArray = (vs1.map (·.den e) ++ Value.slice (some ⟨g, pre.length, none⟩) cnt (cap - lo) :: vs2.map (·.den e)).toArray := by
    rw [List.map_append, List.map_cons, hden]
  rw [call_hop ho hxs hc' h1 hS, hargs]
  refine Calls.mono (hcon S' e a w hS g (cap - lo) pre post hmine hpl hB) ?_
  rintro r w' ⟨rfl, hb2, hx⟩
  have hnew : w'.ownsRow 0 T 1 (e q).v len ((K.take lo ++ (ks' ++ K.drop (lo + cnt))).map intV) := by
    refine ⟨by simp only [List.length_map, List.length_append, List.length_take, List.length_drop, hks]; omega, .inr ⟨g, cap, _, hev, Nat.zero_le _, hb2, hnc, hcm, ?_, ?_⟩⟩
    · rw [segA_size, hpl, hpost, hks]
      simp only [List.length_append, List.length_map, List.length_drop, Array.length_toList]
      omega
    · rw [Nat.mul_one]
      have e1 : (segA pre post ks').toList = (K.take lo ++ (ks' ++ K.drop (lo + cnt))).map intV ++ cur.toList.drop len := by simp [segA, hpre, hpost]
      rw [e1, List.take_append_of_le_length (by simp only [List.length_map, List.length_append, List.length_take, List.length_drop, hks]; omega), List.take_of_length_le (by simp only [List.length_map, List.length_append, List.length_take, List.length_drop, hks]; omega)]
  exact ⟨e, (hS.ownChg hr' hg0 hx hnew).put hd (.c v)⟩
theorem op_bsliceQ {t T n sz : Nat} {parts : Array (Nat × Operand)} {x0 x1 : Operand} {A0 A1 : Array Value} {Z : Array Value} (ho : o.op = .buildSlice t 2 parts) (hp : parts = #[(0, x0), (1, x1)]) (hdn : o.dst = some n) (hg : o.guard = none) (hd : dstB o.dst C.nt = true)
    (h0 : S.ev x0 = some (.c (.agg A0))) (h1 : S.ev x1 = some (.c (.agg A1))) (hu' : tabLook undT t = some (.slice T)) (hs' : tabLook sizT T = some sz) (hz' : tabLook zerT T = some Z) (hsz : (decide (0 < sz) && decide (sz < 1000)) = true)
    (hf : Instr.fill (fun i => some (i * sz, sz)) ((Array.range (2 * sz)).map fun x => Z[x % Z.size]!) [(0, .agg A0), (1, .agg A1)] = some (A0 ++ A1)) :
    OpG C Try.prog ops o S ⟨[x0, x1].flatMap opT, [], [(n, .s n 0 2 2)], [(n, some (.blk n T (.c (A0 ++ A1))))], [n]⟩ := by
  refine opG_mk hg fun S' g1 g2 g3 e a w hS => ?_
  simp only [Bool.and_eq_true, decide_eq_true_eq] at hsz
  have hN := hS.newBlk (g3 n (by simp)) T (.c (A0 ++ A1)) (by simp [SA.c])
  have e0 : a.eval x0 = .agg A0 := hS.ev ((ev_like g1 fun _ h => List.mem_flatMap.2 ⟨x0, by simp, h⟩).trans h0)
  have e1 : a.eval x1 = .agg A1 := hS.ev ((ev_like g1 fun _ h => List.mem_flatMap.2 ⟨x1, by simp, h⟩).trans h1)
  have hu := tabAll_look undT_ok hu'
  have hz := tabAll_look zerT_ok hz'
  obtain ⟨zv, hz3, hzc⟩ : ∃ zv, (zeroValue T).run Try.prog w = .ok zv w ∧ zv.cells = Z := by
    cases hb : (Try.prog.info? T) with
    | none => simp [hb] at hz
    | some i =>
      cases hc : i.zero with
      | none => simp [hb, hc] at hz
      | some zz => exact ⟨zz, by simp [zeroValue, typeInfo, hb, hc], by simpa [hb, hc] using hz⟩
  refine wp_value (v := .slice (some ⟨w.heap.size, 0, none⟩) 2 2) (w' := w.alloc (.cells (A0 ++ A1) T)) ?_ ⟨e.set n ⟨w.heap.size, 0, undef⟩, ?_⟩
  · simp only [execOp, ho, hp, Instr.buildSlice, Sem.run_bind, run_underlying hu w, Result.andThen_ok, run_sizeT hs' w, Sem.run_ite]
    rw [if_neg (by omega), if_neg (by omega)]
    simp only [Sem.run_bind, hz3, Result.andThen_ok, Sem.run_pure, hzc, List.map_toArray, List.map_cons, List.map_nil, e0, e1, hf]
    simp [newRow]
  · rw [hdn]
    have hd' : dstB (some n) C.nt = true := by rw [← hdn]; exact hd
    have := hN.put hd' (.s n 0 2 2)
    simp only [SV.s, Env.set_self] at this
    exact this
end Go.Proofs.Ytmpnkknocfaciaa
namespace Go.Proofs.Ytmpnkknocfaciaa
open Go.RowKit
set_option maxRecDepth 100000
set_option maxHeartbeats 1000000
theorem idxL_in (c : Nat → Bool) : ∀ (ks : List Nat) (i : Nat), idxL c ks i = -1 ∨ ((i : Int) ≤ idxL c ks i ∧ idxL c ks i < ((i + ks.length : Nat) : Int))
  | [], _ => .inl rfl
  | x :: t, i => by
    rw [idxL]
    split
    · right; rw [List.length_cons]; omega
    · rcases idxL_in c t (i + 1) with h | h
      · exact .inl h
      · right; rw [List.length_cons]; omega
theorem partL_lt (l : List TriS) (ks : List Nat) (d : Nat) : (partL l ks d).2.length = ks.length ∧ (∀ x, x ∈ (partL l ks d).2 ↔ x ∈ ks) ∧ (partL l ks d).2.Perm ks ∧ (0 < (partL l ks d).1 → (partL l ks d).1 < (ks.length : Int)) := by
  rw [partL_eq l ks d rfl rfl rfl rfl]
  split
  · exact ⟨rfl, fun x => Iff.rfl, List.Perm.refl _, fun h => absurd h (Int.lt_irrefl 0)⟩
  · split
    · exact ⟨rfl, fun x => Iff.rfl, List.Perm.refl _, fun h => absurd h (Int.lt_irrefl 0)⟩
    · split
      · refine ⟨sortK_len _, fun x => sortK_mem, (sortK_ok _).2.perm, fun _ => ?_⟩
        dsimp only
        omega
      · refine ⟨sortK_len _, fun x => sortK_mem, (sortK_ok _).2.perm, fun h => ?_⟩
        dsimp only at h ⊢
        rcases idxL_in (rgL l (axN (boxP (msL l ks)).1 (boxP (msL l ks)).2 2) (axP (boxP (msL l ks)).1 (axN (boxP (msL l ks)).1 (boxP (msL l ks)).2 2)) (axP (boxP (msL l ks)).2 (axN (boxP (msL l ks)).1 (boxP (msL l ks)).2 2)) ((cutL l ks (axN (boxP (msL l ks)).1 (boxP (msL l ks)).2 2) (axP (boxP (msL l ks)).1 (axN (boxP (msL l ks)).1 (boxP (msL l ks)).2 2)) (axP (boxP (msL l ks)).2 (axN (boxP (msL l ks)).1 (boxP (msL l ks)).2 2)) : Nat) : Int)) _ 0 with h2 | h2
        · rw [h2] at h; exact absurd h (by decide)
        · have := h2.2
          rw [sortK_len, Nat.zero_add] at this
          exact this
/-- A node that is still to be parted. -/
structure TodoS where
  node : Nat
  first : Nat
  count : Nat
  deep : Nat
def todoC (t : TodoS) : List Value := [.int .i64 ((t.node : Nat) : Int), .int .i64 ((t.first : Nat) : Int), .int .i64 ((t.count : Nat) : Int), .int .i64 ((t.deep : Nat) : Int)]
def todosC (S : List TodoS) : List Value := S.flatMap todoC
structure BSt where
  N : List NodeS
  K : List Nat
  S : List TodoS
def zN : NodeS := ⟨zP, zP, 0, 0, 0, 0⟩
def partK (l : List TriS) (K : List Nat) (t : TodoS) : Int × List Nat := partL l ((K.drop t.first).take t.count) t.deep
def boxK (l : List TriS) (K : List Nat) (t : TodoS) : P3 × P3 := bbN l ((K.drop t.first).take t.count) t.count
/-- One node parted, or made a leaf. -/
def stepQ (l : List TriS) (N : List NodeS) (K : List Nat) (S : List TodoS) (t : TodoS) : BSt :=
  if 0 < (partK l K t).1 then
    ⟨(N ++ [zN, zN]).set t.node ⟨(boxK l K t).1, (boxK l K t).2, ((N.length : Nat) : Int), ((N.length + 1 : Nat) : Int), 0, 0⟩, K.take t.first ++ ((partK l K t).2 ++ K.drop (t.first + t.count)),
      S ++ [⟨N.length + 1, t.first + (partK l K t).1.toNat, t.count - (partK l K t).1.toNat, t.deep + 1⟩, ⟨N.length, t.first, (partK l K t).1.toNat, t.deep + 1⟩]⟩
  else ⟨N.set t.node ⟨(boxK l K t).1, (boxK l K t).2, -1, -1, ((t.first : Nat) : Int), ((t.count : Nat) : Int)⟩, K.take t.first ++ ((partK l K t).2 ++ K.drop (t.first + t.count)), S⟩
def stepB (l : List TriS) (s : BSt) : BSt := match s.S.getLast? with
  | none => s
  | some t => stepQ l s.N s.K s.S.dropLast t
theorem stepB_snoc (l : List TriS) (N : List NodeS) (K : List Nat) (S : List TodoS) (t : TodoS) : stepB l ⟨N, K, S ++ [t]⟩ = stepQ l N K S t := by
  unfold stepB
  simp
def runB (l : List TriS) : Nat → BSt → BSt
  | 0, s => s
  | f + 1, s => if s.S.isEmpty then s else runB l f (stepB l s)
theorem runB_end (l : List TriS) (f : Nat) (N : List NodeS) (K : List Nat) : runB l f ⟨N, K, []⟩ = ⟨N, K, []⟩ := by
  cases f <;> rfl
theorem runB_step (l : List TriS) (f : Nat) (N : List NodeS) (K : List Nat) (S : List TodoS) (t : TodoS) : runB l (f + 1) ⟨N, K, S ++ [t]⟩ = runB l f (stepQ l N K S t) := by
  rw [runB, stepB_snoc, if_neg (by simp)]
def muS (S : List TodoS) : Nat := (S.map fun t => 2 * t.count - 1).sum
theorem muS_app (S S' : List TodoS) : muS (S ++ S') = muS S + muS S' := by simp [muS]
structure GoodB (l : List TriS) (n : Nat) (s : BSt) : Prop where
  len : s.K.length = n
  dom : ∀ k ∈ s.K, k < l.length
  todo : ∀ t ∈ s.S, t.node < s.N.length ∧ 1 ≤ t.count ∧ t.first + t.count ≤ n ∧ t.deep + t.count ≤ n + 1
  size : s.N.length + 2 * muS s.S ≤ 4 * n
theorem muS_len : ∀ (S : List TodoS), (∀ t ∈ S, 1 ≤ t.count) → S.length ≤ muS S
  | [], _ => Nat.zero_le _
  | t :: S, h => by
    have h1 := muS_len S fun x hx => h x (List.mem_cons_of_mem _ hx)
    have h2 := h t (by simp)
    have : muS (t :: S) = (2 * t.count - 1) + muS S := by simp [muS]
    rw [this, List.length_cons]
    omega
theorem good_step {l : List TriS} {n : Nat} {N : List NodeS} {K : List Nat} {S : List TodoS} {t : TodoS} (h : GoodB l n ⟨N, K, S ++ [t]⟩) : GoodB l n (stepQ l N K S t) ∧ muS (stepQ l N K S t).S < muS (S ++ [t]) := by
  obtain ⟨h1, h2, h3, h4⟩ := h
  dsimp only at h1 h2 h3 h4
  obtain ⟨t1, t2, t3, t4⟩ := h3 t (by simp)
  have hS : ∀ x ∈ S, x.node < N.length ∧ 1 ≤ x.count ∧ x.first + x.count ≤ n ∧ x.deep + x.count ≤ n + 1 := fun x hx => h3 x (by simp [hx])
  have hol : ((K.drop t.first).take t.count).length = t.count := by simp; omega
  obtain ⟨p1, p2, _, p3⟩ := partL_lt l ((K.drop t.first).take t.count) t.deep
  rw [hol] at p1 p3
  have hKl : (K.take t.first ++ ((partK l K t).2 ++ K.drop (t.first + t.count))).length = n := by
    simp only [List.length_append, List.length_take, List.length_drop]
    unfold partK
    rw [p1]; omega
  have hKd : ∀ k ∈ K.take t.first ++ ((partK l K t).2 ++ K.drop (t.first + t.count)), k < l.length := by
    intro k hk
    simp only [List.mem_append] at hk
    rcases hk with hk | hk | hk
    · exact h2 k (List.mem_of_mem_take hk)
    · exact h2 k (List.mem_of_mem_drop (List.mem_of_mem_take ((p2 k).1 hk)))
    · exact h2 k (List.mem_of_mem_drop hk)
  rw [muS_app] at h4 ⊢
  have m1 : muS [t] = 2 * t.count - 1 := by simp [muS]
  rw [m1] at h4 ⊢
  unfold stepQ
  split
  · rename_i hp
    have p3 := p3 hp
    have hat : (partK l K t).1.toNat < t.count ∧ 0 < (partK l K t).1.toNat := by unfold partK at *; omega
    have m2 : ∀ a b : TodoS, muS [a, b] = (2 * a.count - 1) + (2 * b.count - 1) := fun a b => by simp [muS]
    refine ⟨⟨hKl, hKd, fun x hx => ?_, ?_⟩, ?_⟩
    · dsimp only at hx ⊢
      rw [List.length_set, List.length_append, List.length_cons, List.length_cons, List.length_nil]
      simp only [List.mem_append, List.mem_cons, List.not_mem_nil, or_false] at hx
      rcases hx with hx | rfl | rfl
      · have := hS x hx; omega
      · dsimp only; omega
      · dsimp only; omega
    · dsimp only
      rw [List.length_set, List.length_append, List.length_cons, List.length_cons, List.length_nil, muS_app, m2]
      dsimp only
      omega
    · dsimp only
      rw [muS_app, m2]
      dsimp only
      omega
  · refine ⟨⟨hKl, hKd, fun x hx => ?_, ?_⟩, ?_⟩
    · dsimp only at hx ⊢
      rw [List.length_set]
      exact hS x hx
    · dsimp only
      rw [List.length_set]
      omega
    · dsimp only
      omega
/-- The tree of some triangles: its nodes, its order. -/
def treeL (l : List TriS) : List NodeS × List Nat := if l.length = 0 then ([], []) else ((runB l (2 * l.length) ⟨[zN], List.range l.length, [⟨0, 0, l.length, 1⟩]⟩).N, (runB l (2 * l.length) ⟨[zN], List.range l.length, [⟨0, 0, l.length, 1⟩]⟩).K)
theorem good_start (l : List TriS) (h : 0 < l.length) : GoodB l l.length ⟨[zN], List.range l.length, [⟨0, 0, l.length, 1⟩]⟩ := by
  refine ⟨List.length_range, fun k hk => List.mem_range.1 hk, fun t ht => ?_, ?_⟩
  · simp only [List.mem_singleton] at ht
    subst ht
    simp
    omega
  · simp [muS]; omega
end Go.Proofs.Ytmpnkknocfaciaa
namespace Go.Proofs.Ytmpnkknocfaciaa
open Go.RowKit
set_option maxRecDepth 100000
set_option maxHeartbeats 1000000
/-- A tree, with the places of its nodes. -/
inductive Tr where
  | leaf (i f c : Nat) (lo hi : P3)
  | node (i : Nat) (lo hi : P3) (L R : Tr)
def Tr.ix : Tr → Nat
  | .leaf i _ _ _ _ => i
  | .node i _ _ _ _ => i
/-- The tree is what the nodes and the order say. -/
def Tr.In (N : List NodeS) (K : List Nat) : Tr → Prop
  | .leaf i f c lo hi => N[i]? = some ⟨lo, hi, -1, -1, (f : Int), (c : Int)⟩ ∧ f + c ≤ K.length
  | .node i lo hi L R => N[i]? = some ⟨lo, hi, (L.ix : Int), (R.ix : Int), 0, 0⟩ ∧ L.In N K ∧ R.In N K
def Tr.cost : Tr → Nat
  | .leaf _ _ c _ _ => 1 + c
  | .node _ _ _ L R => 1 + (L.cost + R.cost)
theorem Tr.cost_pos (t : Tr) : 1 ≤ t.cost := by cases t <;> unfold Tr.cost <;> omega
def costs (S : List Tr) : Nat := (S.map Tr.cost).sum
theorem costs_app (S S' : List Tr) : costs (S ++ S') = costs S + costs S' := by simp [costs]
theorem costs_len : ∀ S : List Tr, S.length ≤ costs S
  | [] => Nat.zero_le _
  | t :: S => by
    have := costs_len S
    have h := t.cost_pos
    have e : costs (t :: S) = t.cost + costs S := by simp [costs]
    rw [e, List.length_cons]
    omega
/-- What a walk has: its steps, and the best so far. -/
structure WSt where
  n : Nat
  i : Int
  m : M4
def WSt.up (s : WSt) : WSt := ⟨s.n + 1, s.i, s.m⟩
def lookW (l : List TriS) (o d : P3) (mask : BitVec 8) (skip : Int) (s : WSt) (k : Nat) : WSt := match l[k]? with
  | some t => if ((meetW o d mask skip k t).2 && (decide (s.i < 0) || (lessM (meetW o d mask skip k t).1 s.m || (decide ((k : Int) < s.i) && !lessM s.m (meetW o d mask skip k t).1)))) = true then ⟨s.n + 1, (k : Int), (meetW o d mask skip k t).1⟩ else ⟨s.n + 1, s.i, s.m⟩
  | none => ⟨s.n + 1, s.i, s.m⟩
def outW (o d lo hi : P3) (s : WSt) : Bool := !(spanP lo hi o d).2 || (decide (0 ≤ s.i) && decide (rlt (s.m.num, s.m.det) (spanP lo hi o d).1))
def Tr.vis (l : List TriS) (K : List Nat) (o d : P3) (mask : BitVec 8) (skip : Int) : Tr → WSt → WSt
  | .leaf _ f c lo hi, s => if outW o d lo hi s = true then s.up else ((K.drop f).take c).foldl (lookW l o d mask skip) s.up
  | .node _ lo hi L R, s => if outW o d lo hi s = true then s.up else R.vis l K o d mask skip (L.vis l K o d mask skip s.up)
theorem vis_step {l : List TriS} {K : List Nat} {o d : P3} {mask : BitVec 8} {skip : Int} (S : List Tr) (t : Tr) (s : WSt) : (S ++ [t]).foldr (Tr.vis l K o d mask skip) s = S.foldr (Tr.vis l K o d mask skip) (t.vis l K o d mask skip s) := by
  rw [List.foldr_append, List.foldr_cons, List.foldr_nil]
theorem vis_out {N : List NodeS} {l : List TriS} {K : List Nat} {o d : P3} {mask : BitVec 8} {skip : Int} {t : Tr} {nd : NodeS} {s : WSt} (hI : t.In N K) (hn : N[t.ix]? = some nd) (h : outW o d nd.lo nd.hi s = true) : t.vis l K o d mask skip s = s.up := by
  cases t with
  | leaf i f c lo hi =>
    obtain ⟨h1, _⟩ := hI
    rw [Tr.ix, h1] at hn
    obtain rfl := Option.some.inj hn
    rw [Tr.vis, if_pos h]
  | node i lo hi L R =>
    obtain ⟨h1, _⟩ := hI
    rw [Tr.ix, h1] at hn
    obtain rfl := Option.some.inj hn
    rw [Tr.vis, if_pos h]
/-- What a best one's numbers are. -/
def okW (s : WSt) : Prop := okM s.m ∧ 0 ≤ s.m.det
theorem meetW_ok (o d : P3) (mask : BitVec 8) (skip : Int) (k : Nat) (t : TriS) (h : (meetW o d mask skip k t).2 = true) : HitF o d t.p0 t.p1 t.p2 (meetW o d mask skip k t).1 := by
  unfold meetW at *
  split
  · rename_i hc
    rw [if_pos hc] at h
    refine hit_facts ?_
    generalize hitM o d t.p0 t.p1 t.p2 = x at *
    obtain ⟨a, b⟩ := x
    dsimp only at h
    rw [h]
  · rename_i hc
    rw [if_neg hc] at h
    cases h
theorem meetW_okM (o d : P3) (mask : BitVec 8) (skip : Int) (k : Nat) (t : TriS) : okM (meetW o d mask skip k t).1 := by
  unfold meetW
  split
  · exact okM_hit ..
  · exact okM_zero
theorem okW_look {l : List TriS} {o d : P3} {mask : BitVec 8} {skip : Int} {s : WSt} (k : Nat) (h : okW s) : okW (lookW l o d mask skip s k) := by
  unfold lookW
  split
  · rename_i t _
    split
    · rename_i hc
      have hm := meetW_ok o d mask skip k t (by rw [Bool.and_eq_true] at hc; exact hc.1)
      exact ⟨meetW_okM .., by show 0 ≤ (meetW o d mask skip k t).1.det; have := hm.det; omega⟩
    · exact h
  · exact h
theorem lookW_n {l : List TriS} {o d : P3} {mask : BitVec 8} {skip : Int} {s : WSt} (k : Nat) : (lookW l o d mask skip s k).n = s.n + 1 := by
  unfold lookW
  split
  · split <;> rfl
  · rfl
theorem looks_ok {l : List TriS} {o d : P3} {mask : BitVec 8} {skip : Int} : ∀ (ks : List Nat) (s : WSt), okW s → okW (ks.foldl (lookW l o d mask skip) s) ∧ (ks.foldl (lookW l o d mask skip) s).n = s.n + ks.length
  | [], s, h => ⟨h, rfl⟩
  | k :: ks, s, h => by
    rw [List.foldl_cons, List.length_cons]
    obtain ⟨h1, h2⟩ := looks_ok ks _ (okW_look (l := l) (o := o) (d := d) (mask := mask) (skip := skip) k h)
    refine ⟨h1, ?_⟩
    rw [h2, lookW_n]
    omega
def ratS (f : Int × Int) : Prop := (0 ≤ f.1 ∧ f.1 ≤ 1073741824) ∧ (0 < f.2 ∧ f.2 ≤ 1073741824)
theorem rlt_pos {f : Int × Int} {n w : Int} (hf : ratS f) (hw : 0 < w) (h : rlt f (n, w)) : 0 < n := by
  unfold rlt at h
  dsimp only at h
  obtain ⟨⟨h1, _⟩, h2, _⟩ := hf
  have h3 : 0 ≤ f.1 * w := Int.mul_nonneg h1 (by omega)
  by_cases hn : 0 < n
  · exact hn
  · have : n * f.2 ≤ 0 := Int.mul_nonpos_of_nonpos_of_nonneg (by omega) (by omega)
    omega
theorem spanL_rat : ∀ (l : List (Int × Int × Int)) (f t : Int × Int) (b : Bool), ratS f → (∀ x ∈ l, (-1073741824 ≤ x.1 ∧ x.1 ≤ 1073741824) ∧ (-1073741824 ≤ x.2.1 ∧ x.2.1 ≤ 1073741824) ∧ (-1073741824 ≤ x.2.2 ∧ x.2.2 ≤ 1073741824)) → ratS (spanL l f t b).1
  | [], f, t, b, h, _ => h
  | (n, r, w) :: l, f, t, b, h, hl => by
    have hl' := fun x hx => hl x (List.mem_cons_of_mem _ hx)
    have h0 := hl (n, r, w) List.mem_cons_self
    dsimp only at h0
    by_cases h1 : n > r
    · rw [spanL_bad h1]; exact h
    · by_cases h2 : w = 0
      · by_cases h3 : n > 0 ∨ r < 0
        · rw [spanL_out h1 h2 h3]; exact h
        · rw [spanL_in h1 h2 h3]; exact spanL_rat l f t b h hl'
      · by_cases h4 : w < 0
        · rw [spanL_neg h1 h4]
          refine spanL_rat l _ _ _ ?_ hl'
          split
          · rename_i hr
            have := rlt_pos h (by omega) hr
            exact ⟨⟨by dsimp only; omega, by dsimp only; omega⟩, by dsimp only; omega, by dsimp only; omega⟩
          · exact h
        · rw [spanL_pos h1 h2 h4]
          refine spanL_rat l _ _ _ ?_ hl'
          split
          · rename_i hr
            have := rlt_pos h (by omega) hr
            exact ⟨⟨by dsimp only; omega, by dsimp only; omega⟩, by dsimp only; omega, by dsimp only; omega⟩
          · exact h
theorem spanP_rat {lo hi o d : P3} (h1 : smP lo) (h2 : smP hi) (h3 : smP o) (h4 : smP d) : ratS (spanP lo hi o d).1 := by
  unfold spanP
  refine spanL_rat _ _ _ _ ⟨by decide, by decide⟩ ?_
  have a1 := h1 lo.x (by simp [P3.l])
  have a2 := h1 lo.y (by simp [P3.l])
  have a3 := h1 lo.z (by simp [P3.l])
  have b1 := h2 hi.x (by simp [P3.l])
  have b2 := h2 hi.y (by simp [P3.l])
  have b3 := h2 hi.z (by simp [P3.l])
  have c1 := h3 o.x (by simp [P3.l])
  have c2 := h3 o.y (by simp [P3.l])
  have c3 := h3 o.z (by simp [P3.l])
  have d1 := h4 d.x (by simp [P3.l])
  have d2 := h4 d.y (by simp [P3.l])
  have d3 := h4 d.z (by simp [P3.l])
  intro x hx
  simp only [axesP, List.mem_cons, List.not_mem_nil, or_false] at hx
  rcases hx with rfl | rfl | rfl <;> dsimp only <;> omega
theorem mayP_sm {o d : P3} (h : mayP o d = true) : smP o ∧ smP d := by
  unfold mayP at h
  rw [Bool.and_eq_true, Bool.and_eq_true] at h
  have ho := inP_sm h.1
  have hd := inP_sm h.2.1
  unfold smB at ho hd
  constructor
  · intro z hz
    simp only [P3.l, List.mem_cons, List.not_mem_nil, or_false] at hz
    rcases hz with rfl | rfl | rfl <;> omega
  · intro z hz
    simp only [P3.l, List.mem_cons, List.not_mem_nil, or_false] at hz
    rcases hz with rfl | rfl | rfl <;> omega
end Go.Proofs.Ytmpnkknocfaciaa
namespace Go.Proofs.Ytmpnkknocfaciaa
open Go.RowKit
set_option maxRecDepth 100000
set_option maxHeartbeats 1000000
end Go.Proofs.Ytmpnkknocfaciaa
