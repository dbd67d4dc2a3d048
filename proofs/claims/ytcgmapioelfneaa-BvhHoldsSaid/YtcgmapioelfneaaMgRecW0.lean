/- Slices of a few values and of rows; methods with a slice beside the object's own; rows read beside an object. No condition. How an order is parted, plainly. No condition. A ray that meets a triangle, in exact numbers: the place lies between the corners. No condition. A walk made new: walked. No condition. A walk: what it looks at: walked. No condition. Own slices of rows: cut, written, sorted in parts by a call; slices built of two rows. No condition. -/
import Derived.Test.YtcgmapioelfneaaSymX
import Derived.Test.YtcgmapioelfneaaMgBld3
import Derived.Test.YtcgmapioelfneaaMgPoly1
import Derived.Test.YtcgmapioelfneaaMgTre4
import Derived.Test.YtcgmapioelfneaaMgTre2
import Derived.Test.YtcgmapioelfneaaMgWlk1
namespace Go.Proofs.Ytcgmapioelfneaa
open Go.RowKit
set_option maxRecDepth 100000
set_option maxHeartbeats 1000000
section
variable {C : Ctx} {ops : Array Oper} {S : St} {o : Oper}
theorem op_loadsX {ty : TypeId} {x : Operand} {v : Value} {n off sz m : Nat} {xs : List Value} {B : List Value} {d : TypeDesc} (ho : o.op = .load ty x) (hg : o.guard = none) (hd : dstB o.dst C.nt = true) (hx : S.ev x = some (.c (ptrV v off))) (hf : RdX C.w0 C.m sz v n xs) (hu' : tabLook undT ty = some d) (hda : d.isRow = true) (hi' : tabLook sizT ty = some m) (hm : 0 < m) (hb : off + m ≤ xs.length) (hB : (xs.drop off).take m = B) :
    OpG C Try.prog ops o S ⟨opT x, [], dw o.dst (.c (.agg B.toArray)), [], []⟩ := by
  have hu := tabAll_look undT_ok hu'
  have hi := tabAll_look sizT_ok hi'
  have hBl : B.length = m := by rw [← hB, List.length_take, List.length_drop]; omega
  have := op_value (C := C) (P := Try.prog) (ops := ops) (S := S) hg hd [x] [] (.c (.agg B.toArray)) fun S' e a w hS h1 h2 => by
    have hev : a.eval x = ptrV v off := hS.ev ((h1 x (by simp)).trans hx)
    obtain ⟨hl, ad, c, rfl, hr⟩ := hf w hS.frame.belowX
    rcases hr with h3 | ⟨b, o2, rfl, hr⟩
    · subst h3; omega
    · have hra : w.rangeAt b (o2 + off) B := fun j u hj => by
        have hjl : j < m := by have := (List.getElem?_eq_some_iff.1 hj).1; omega
        rw [← hB, List.getElem?_take, if_pos hjl, List.getElem?_drop] at hj
        have hc := hr (off + j) u hj
        rw [Nat.add_assoc]
        exact hc
      have hl := run_loadVar_mid (P := Try.prog) w b (o2 + off) ty B d hra hu hda (by rw [hi, hBl])
      have hev : a.eval x = .pointer (some ⟨b, o2 + off, none⟩) := hev
      simp [execOp, ho, hev, Instr.loadAt, Instr.sureAddr, Sem.run_bind, hl, SV.c]
  simpa using this
end
end Go.Proofs.Ytcgmapioelfneaa
namespace Go.Proofs.Ytcgmapioelfneaa
open Go.RowKit
set_option maxRecDepth 100000
set_option maxHeartbeats 1000000
theorem axP_min (a b : P3) (k : Nat) : axP (minP a b) k = min (axP a k) (axP b k) := by
  unfold axP minP
  split
  · rfl
  · split <;> rfl
theorem axP_max (a b : P3) (k : Nat) : axP (maxP a b) k = max (axP a k) (axP b k) := by
  unfold axP maxP
  split
  · rfl
  · split <;> rfl
theorem boxN_le (ps : List P3) (k : Nat) : ∀ j, j ≤ ps.length → ∀ i, i < j → axP (boxN ps j).1 k ≤ axP (ps.getD i zP) k ∧ axP (ps.getD i zP) k ≤ axP (boxN ps j).2 k
  | 0, _, i, hi => by omega
  | j + 1, hj, i, hi => by
    rw [boxN]
    by_cases h0 : j = 0
    · subst h0
      obtain rfl : i = 0 := by omega
      rw [if_pos rfl, axP_min, axP_max]
      omega
    · rw [if_neg h0, axP_min, axP_max]
      by_cases hij : i = j
      · subst hij; omega
      · have := boxN_le ps k j (by omega) i (by omega)
        omega
theorem boxN_at (ps : List P3) (k : Nat) : ∀ j, j < ps.length → (∃ i, i ≤ j ∧ axP (ps.getD i zP) k = axP (boxN ps (j + 1)).1 k) ∧ ∃ i, i ≤ j ∧ axP (ps.getD i zP) k = axP (boxN ps (j + 1)).2 k
  | 0, _ => by
    rw [boxN, if_pos rfl, axP_min, axP_max]
    exact ⟨⟨0, Nat.le_refl _, by omega⟩, 0, Nat.le_refl _, by omega⟩
  | j + 1, hj => by
    obtain ⟨⟨i1, h1, e1⟩, i2, h2, e2⟩ := boxN_at ps k j (by omega)
    rw [boxN, if_neg (by omega), axP_min, axP_max]
    constructor
    · by_cases h : axP (boxN ps (j + 1)).1 k ≤ axP (ps.getD (j + 1) zP) k
      · exact ⟨i1, by omega, by omega⟩
      · exact ⟨j + 1, Nat.le_refl _, by omega⟩
    · by_cases h : axP (ps.getD (j + 1) zP) k ≤ axP (boxN ps (j + 1)).2 k
      · exact ⟨i2, by omega, by omega⟩
      · exact ⟨j + 1, Nat.le_refl _, by omega⟩
theorem boxP_le {ps : List P3} {p : P3} (h : p ∈ ps) (k : Nat) : axP (boxP ps).1 k ≤ axP p k ∧ axP p k ≤ axP (boxP ps).2 k := by
  obtain ⟨i, hi, rfl⟩ := List.getElem_of_mem h
  have := boxN_le ps k ps.length (Nat.le_refl _) i hi
  rwa [List.getD_eq_getElem?_getD, List.getElem?_eq_getElem hi] at this
theorem boxP_at {ps : List P3} (h : ps ≠ []) (k : Nat) : (∃ p ∈ ps, axP p k = axP (boxP ps).1 k) ∧ ∃ p ∈ ps, axP p k = axP (boxP ps).2 k := by
  obtain ⟨n, hn⟩ : ∃ n, ps.length = n + 1 := ⟨ps.length - 1, by have := List.length_pos_iff.2 h; omega⟩
  obtain ⟨⟨i1, h1, e1⟩, i2, h2, e2⟩ := boxN_at ps k n (by omega)
  unfold boxP
  rw [hn]
  constructor
  · refine ⟨_, List.getElem_mem (show i1 < ps.length by omega), ?_⟩
    rw [← e1, List.getD_eq_getElem?_getD, List.getElem?_eq_getElem]; rfl
  · refine ⟨_, List.getElem_mem (show i2 < ps.length by omega), ?_⟩
    rw [← e2, List.getD_eq_getElem?_getD, List.getElem?_eq_getElem]; rfl
theorem smB_ax {m : Int} {p : P3} : smB m p ↔ ∀ k, k < 3 → -m ≤ axP p k ∧ axP p k ≤ m := by
  unfold smB
  constructor
  · intro h k hk
    unfold axP
    split
    · exact h.1
    · split
      · exact h.2.1
      · exact h.2.2
  · intro h
    exact ⟨h 0 (by omega), h 1 (by omega), h 2 (by omega)⟩
theorem boxP_sm {ps : List P3} (h : ps ≠ []) {m : Int} (hp : ∀ p ∈ ps, smB m p) : smB m (boxP ps).1 ∧ smB m (boxP ps).2 := by
  rw [smB_ax, smB_ax]
  constructor
  · intro k hk
    obtain ⟨⟨p, h1, h2⟩, _⟩ := boxP_at h k
    rw [← h2]
    exact smB_ax.1 (hp p h1) k hk
  · intro k hk
    obtain ⟨_, p, h1, h2⟩ := boxP_at h k
    rw [← h2]
    exact smB_ax.1 (hp p h1) k hk
/-- The middles of an order's triangles, their box, the longest axis. -/
def msL (l : List TriS) (ks : List Nat) : List P3 := ks.map fun i => midT (l.getD i zT)
def axN (lo hi : P3) : Nat → Nat
  | 0 => 0
  | j + 1 => if axP hi (j + 1) - axP lo (j + 1) > axP hi (axN lo hi j) - axP lo (axN lo hi j) then j + 1 else axN lo hi j
theorem axN_le (lo hi : P3) : ∀ j, axN lo hi j ≤ j
  | 0 => Nat.le_refl _
  | j + 1 => by have := axN_le lo hi j; rw [axN]; split <;> omega
def rkL (r : Nat → Bool) (i : Nat) : Int := if r i then 1 else 0
/-- Where an order is parted, and how it is sorted. -/
def partL (l : List TriS) (ks : List Nat) (d : Nat) : Int × List Nat :=
  if ks.length ≤ 4 then (0, ks)
  else if axP (boxP (msL l ks)).1 (axN (boxP (msL l ks)).1 (boxP (msL l ks)).2 2) = axP (boxP (msL l ks)).2 (axN (boxP (msL l ks)).1 (boxP (msL l ks)).2 2) then (0, ks)
  else if d > 31 then (((ks.length / 2 : Nat) : Int), sortK (kyL l (axN (boxP (msL l ks)).1 (boxP (msL l ks)).2 2)) ks)
  else (idxL (rgL l (axN (boxP (msL l ks)).1 (boxP (msL l ks)).2 2) (axP (boxP (msL l ks)).1 (axN (boxP (msL l ks)).1 (boxP (msL l ks)).2 2)) (axP (boxP (msL l ks)).2 (axN (boxP (msL l ks)).1 (boxP (msL l ks)).2 2)) ((cutL l ks (axN (boxP (msL l ks)).1 (boxP (msL l ks)).2 2) (axP (boxP (msL l ks)).1 (axN (boxP (msL l ks)).1 (boxP (msL l ks)).2 2)) (axP (boxP (msL l ks)).2 (axN (boxP (msL l ks)).1 (boxP (msL l ks)).2 2)) : Nat) : Int))
      (sortK (rkL (rgL l (axN (boxP (msL l ks)).1 (boxP (msL l ks)).2 2) (axP (boxP (msL l ks)).1 (axN (boxP (msL l ks)).1 (boxP (msL l ks)).2 2)) (axP (boxP (msL l ks)).2 (axN (boxP (msL l ks)).1 (boxP (msL l ks)).2 2)) ((cutL l ks (axN (boxP (msL l ks)).1 (boxP (msL l ks)).2 2) (axP (boxP (msL l ks)).1 (axN (boxP (msL l ks)).1 (boxP (msL l ks)).2 2)) (axP (boxP (msL l ks)).2 (axN (boxP (msL l ks)).1 (boxP (msL l ks)).2 2)) : Nat) : Int))) ks) 0,
    sortK (rkL (rgL l (axN (boxP (msL l ks)).1 (boxP (msL l ks)).2 2) (axP (boxP (msL l ks)).1 (axN (boxP (msL l ks)).1 (boxP (msL l ks)).2 2)) (axP (boxP (msL l ks)).2 (axN (boxP (msL l ks)).1 (boxP (msL l ks)).2 2)) ((cutL l ks (axN (boxP (msL l ks)).1 (boxP (msL l ks)).2 2) (axP (boxP (msL l ks)).1 (axN (boxP (msL l ks)).1 (boxP (msL l ks)).2 2)) (axP (boxP (msL l ks)).2 (axN (boxP (msL l ks)).1 (boxP (msL l ks)).2 2)) : Nat) : Int))) ks)
theorem cmB_key (r : Nat → Bool) (x y : Nat) : cmB r x y < 0 ↔ rkL r x < rkL r y := by
  unfold cmB rkL
  cases r x <;> cases r y <;> decide
theorem partL_eq (l : List TriS) (ks : List Nat) (d : Nat) {B : P3 × P3} {k : Nat} {fr to : Int} (hB : boxP (msL l ks) = B) (hk : axN B.1 B.2 2 = k) (hf : axP B.1 k = fr) (ht : axP B.2 k = to) : partL l ks d = if ks.length ≤ 4 then (0, ks) else if fr = to then (0, ks) else if d > 31 then (((ks.length / 2 : Nat) : Int), sortK (kyL l k) ks)
    else (idxL (rgL l k fr to ((cutL l ks k fr to : Nat) : Int)) (sortK (rkL (rgL l k fr to ((cutL l ks k fr to : Nat) : Int))) ks) 0, sortK (rkL (rgL l k fr to ((cutL l ks k fr to : Nat) : Int))) ks) := by
  unfold partL
  rw [hB, hk, hf, ht]
theorem kyL_in {l : List TriS} {ks : List Nat} {i : Nat} (h : i ∈ ks) (k : Nat) : axP (boxP (msL l ks)).1 k ≤ kyL l k i ∧ kyL l k i ≤ axP (boxP (msL l ks)).2 k := boxP_le (List.mem_map.2 ⟨i, h, rfl⟩) k
end Go.Proofs.Ytcgmapioelfneaa
namespace Go.Proofs.Ytcgmapioelfneaa
open Go.RowKit
set_option maxRecDepth 100000
set_option maxHeartbeats 1000000
/-- What a meeting says. -/
structure HitF (o d p0 p1 p2 : P3) (m : M4) : Prop where
  num : 0 < m.num ∧ m.num ≤ 20000000000000000
  det : 0 < m.det ∧ m.det ≤ 20000000000000000
  u : 0 ≤ m.u
  v : 0 ≤ m.v
  uv : m.u + m.v ≤ m.det
  at_ : ∀ k, k < 3 → m.det * axP o k + m.num * axP d k = (m.det - m.u - m.v) * axP p0 k + m.u * axP p1 k + m.v * axP p2 k
  ray : smB 65536 o ∧ smB 131072 d
  cor : smB 65536 p0 ∧ smB 65536 p1 ∧ smB 65536 p2
end Go.Proofs.Ytcgmapioelfneaa
namespace Go.Proofs.Ytcgmapioelfneaa
open Go.RowKit
set_option maxRecDepth 100000
set_option maxHeartbeats 1000000
section
variable {C : Ctx} {ops : Array Oper} {S : St} {o : Oper}
end
/-- A call that hands back a struct of two new slices, and a value. -/
theorem op_callB {C : Ctx} {ops : Array Oper} {S : St} {o : Oper} {f : FuncId} {xs : Array Operand} {ats : Array TypeId} {vs : List SV} {rb : List Nat} {j q1 q2 T1 s1 n1 T2 s2 n2 : Nat} {xs1 xs2 : List Value} {u : Value} (ho : o.op = .call { callee := .value (.func f), args := xs, argTypes := ats }) (hg : o.guard = none) (hd : dstB o.dst C.nt = true) (hxs : EvS S xs.toList vs) (hc' : tabLook calT f = some j)
    (hcon : ∀ (S' : St) e a w, Holds C S' e a w → (∀ q ∈ rb, S'.res q = S.res q) → Calls Try.prog j (vs.map (·.den e)).toArray w (RetB w T1 s1 n1 xs1 T2 s2 n2 xs2 (fun v1 v2 => #[v1, v2]) u)) (hq : Nat.beq q1 q2 = false) :
    OpG C Try.prog ops o S ⟨xs.toList.flatMap opT, rb, dw o.dst (.tup [.row (.l [.v q1, .v q2]), .c u]), [(q1, some (.own q1 T1 s1 n1 xs1)), (q2, some (.own q2 T2 s2 n2 xs2))], [q1, q2]⟩ := by
  have hq : q1 ≠ q2 := by intro h; subst h; simp at hq
  refine opG_mk hg fun S' h1 h2 h3 e a w hS => ?_
  unfold Oper.wp
  rw [call_hop ho hxs hc' h1 hS]
  refine Calls.mono (hcon S' e a w hS h2) ?_
  rintro r w' ⟨v1, v2, rfl, o1, o2, hne, hb⟩
  have hH := hS.rename (h3 q2 (by simp)) ⟨0, 0, v2⟩
  have e1 : ((e.set q2 ⟨0, 0, v2⟩).set q1 ⟨0, 0, v1⟩ q1).v = v1 := by rw [Env.set_self]
  have e2 : ((e.set q2 ⟨0, 0, v2⟩).set q1 ⟨0, 0, v1⟩ q2).v = v2 := by rw [Env.set_ne _ _ (Ne.symm hq), Env.set_self]
  have low : ∀ {T s n : Nat} {v : Value} {xs : List Value}, w'.ownsRow w.heap.size T s v n xs → w'.ownsRow 0 T s v n xs := fun h => by
    refine ⟨h.1, ?_⟩
    rcases h.2 with h | ⟨g, cap, cur, h1, _, h⟩
    · exact .inl h
    · exact .inr ⟨g, cap, cur, h1, Nat.zero_le _, h⟩
  have high : ∀ {T s n : Nat} {v : Value} {xs : List Value}, w'.ownsRow w.heap.size T s v n xs → ∀ b, v.ownBlock = some b → w.heap.size ≤ b := fun h b hb => by
    rcases h.2 with h | ⟨g, cap, cur, h1, h2, _⟩
    · rw [h.1] at hb; cases hb
    · rw [h1] at hb
      obtain rfl : g = b := Option.some.inj hb
      exact h2
  have hC := hH.chg (w' := w') [(q1, .own q1 T1 s1 n1 xs1), (q2, .own q2 T2 s2 n2 xs2)] [] (h3 q1 (by simp)) ⟨0, 0, v1⟩ hb.os hb.tape hb.output hb.size (fun q hk => by cases hk) (fun x hx _ => hb.block x hx) (fun p hp => by
    simp only [List.mem_cons, List.not_mem_nil, or_false] at hp
    rcases hp with rfl | rfl
    · show w'.ownsRow 0 T1 s1 _ n1 xs1
      rw [e1]; exact low o1
    · show w'.ownsRow 0 T2 s2 _ n2 xs2
      rw [e2]; exact low o2) (fun p hp x hx => by
    simp only [List.mem_cons, List.not_mem_nil, or_false] at hp
    right
    rcases hp with rfl | rfl
    · have hx : (_ : Value).ownBlock = some x := hx
      rw [e1] at hx; exact high o1 x hx
    · have hx : (_ : Value).ownBlock = some x := hx
      rw [e2] at hx; exact high o2 x hx) (fun p hp q hq' hpq x hx hx' => by
    simp only [List.mem_cons, List.not_mem_nil, or_false] at hp hq'
    rcases hp with rfl | rfl <;> rcases hq' with rfl | rfl
    · exact hpq rfl
    · have hx : (_ : Value).ownBlock = some x := hx
      have hx' : (_ : Value).ownBlock = some x := hx'
      rw [e1] at hx
      rw [e2] at hx'
      exact hne x hx hx'
    · have hx : (_ : Value).ownBlock = some x := hx
      have hx' : (_ : Value).ownBlock = some x := hx'
      rw [e2] at hx
      rw [e1] at hx'
      exact hne x hx' hx
    · exact hpq rfl)
  refine ⟨(e.set q2 ⟨0, 0, v2⟩).set q1 ⟨0, 0, v1⟩, ?_⟩
  have := hC.put hd (.tup [.row (.l [.v q1, .v q2]), .c u])
  have hden : (SV.tup [.row (.l [.v q1, .v q2]), .c u]).den ((e.set q2 ⟨0, 0, v2⟩).set q1 ⟨0, 0, v1⟩) = .tuple #[.agg #[v1, v2], u] := by
    show Value.tuple #[.agg #[((e.set q2 ⟨0, 0, v2⟩).set q1 ⟨0, 0, v1⟩ q1).v, ((e.set q2 ⟨0, 0, v2⟩).set q1 ⟨0, 0, v1⟩ q2).v], u] = _
    rw [e1, e2]
  rw [hden] at this
  exact this
/-- A node of a tree. -/
structure NodeS where
  lo : P3
  hi : P3
  left : Int
  right : Int
  first : Int
  count : Int
def nodeC (n : NodeS) : List Value := n.lo.c.toList ++ (n.hi.c.toList ++ [.int .i64 n.left, .int .i64 n.right, .int .i64 n.first, .int .i64 n.count])
def nodesC (N : List NodeS) : List Value := N.flatMap nodeC
theorem nodeC_length (n : NodeS) : (nodeC n).length = 10 := rfl
theorem nodes_len (N : List NodeS) : (nodesC N).length = N.length * 10 := flat_length N fun n _ => nodeC_length n
def ordC (K : List Nat) : List Value := K.map fun k => .int .i64 ((k : Nat) : Int)
/-- A walk: its tree, its triangles, its steps. -/
structure WkS where
  N : List NodeS
  K : List Nat
  l : List TriS
  n : Nat
section
variable {C : Ctx} {ops : Array Oper} {S : St} {o : Oper}
theorem walk1_callB {l : List Oper} {t : List (Nat × SV)} {h : List (Nat × Option Res)} {d : Nat} {f : FuncId} {xs : Array Operand} {ats : Array TypeId} {vs : List SV} {rb : List Nat} {j T1 s1 n1 T2 s2 n2 : Nat} {xs1 xs2 : List Value} {u : Value} {K : St → Prop} (q1 q2 : Nat) (ho : o.op = .call { callee := .value (.func f), args := xs, argTypes := ats }) (hdn : o.dst = some d) (hg : o.guard = none) (hd : dstB o.dst C.nt = true) (hxs : EvS ⟨t, h⟩ xs.toList vs) (hc' : tabLook calT f = some j) (hq : Nat.beq q1 q2 = false) (hf : (freshB ⟨t, h⟩ q1 && freshB ⟨t, h⟩ q2) = true)
    (hcon : ∀ (S' : St) e a w, Holds C S' e a w → (∀ q ∈ rb, S'.res q = (St.mk t h).res q) → Calls Try.prog j (vs.map (·.den e)).toArray w (RetB w T1 s1 n1 xs1 T2 s2 n2 xs2 (fun v1 v2 => #[v1, v2]) u))
    (hK : Walk1 C Try.prog ops l ⟨(d, .tup [.row (.l [.v q1, .v q2]), .c u]) :: t, (q1, some (.own q1 T1 s1 n1 xs1)) :: (q2, some (.own q2 T2 s2 n2 xs2)) :: h⟩ K) : Walk1 C Try.prog ops (o :: l) ⟨t, h⟩ K := by
  have := op_callB (C := C) (ops := ops) ho hg hd hxs hc' hcon hq
  rw [hdn] at this
  rw [Bool.and_eq_true] at hf
  exact ⟨_, this, by simp [hf.1, hf.2], hK⟩
end
attribute [local irreducible] Calls Walk1 WalkTo Tri EndA
end Go.Proofs.Ytcgmapioelfneaa
namespace Go.Proofs.Ytcgmapioelfneaa
open Go.RowKit
set_option maxRecDepth 100000
set_option maxHeartbeats 2000000
/-- What a walk sees of a triangle. -/
def meetW (o d : P3) (mask : BitVec 8) (skip : Int) (k : Nat) (t : TriS) : M4 × Bool := if (t.mask &&& mask != BitVec.ofInt 8 0) && decide ((k : Int) ≠ skip) then hitM o d t.p0 t.p1 t.p2 else (zM, false)
attribute [local irreducible] Calls Walk1 WalkTo Tri EndA
end Go.Proofs.Ytcgmapioelfneaa
namespace Go.Proofs.Ytcgmapioelfneaa
open Go.RowKit
set_option maxRecDepth 100000
set_option maxHeartbeats 1000000
variable {C : Ctx} {ops : Array Oper} {S : St} {o : Oper}
theorem own_cutR {w : World} {base T sz len m : Nat} {xs : List Value} {v : Value} (h : w.ownsRow base T sz v len xs) (hm : m ≤ len) : w.ownsRow base T sz (cutV v 0 m) m (xs.take (m * sz)) ∧ (cutV v 0 m).ownBlock = v.ownBlock := by
  obtain ⟨h1, h2⟩ := h
  have hms := Nat.mul_le_mul_right sz hm
  rcases h2 with ⟨h3, h4⟩ | ⟨g, cap, cur, h3, h4, h5, h6, h7, h8, h9⟩
  · subst h3
    obtain rfl : m = 0 := by omega
    exact ⟨⟨by simp, .inl ⟨rfl, rfl⟩⟩, rfl⟩
  · subst h3
    have hv : cutV (.slice (some ⟨g, 0, none⟩) len cap) 0 m = .slice (some ⟨g, 0, none⟩) m cap := by
      show Value.slice (if cap = 0 then some ⟨g, 0, none⟩ else (some ⟨g, 0, none⟩ : Option Addr).map (·.add 0)) m (cap - 0) = _
      split <;> simp [Addr.add]
    rw [hv]
    refine ⟨⟨by rw [List.length_take]; omega, .inr ⟨g, cap, cur, rfl, h4, h5, by omega, h7, h8, ?_⟩⟩, rfl⟩
    rw [← h9, List.take_take, Nat.min_eq_left hms]
theorem ent_cutR {t : List (Nat × SV)} {h : List (Nat × Option Res)} {i n m len sz : Nat} {T : TypeId} {xs : List Value} (q : Nat) (hv : look t i = some (.sub n 0 m)) (hr : (St.mk t h).res n = some (.own n T sz len xs)) (hm : m ≤ len) (hnq : Nat.beq n q = false) (hf : freshB ⟨t, h⟩ q = true) :
    Ents C ⟨t, h⟩ ⟨(i, .v q) :: t, (n, none) :: (q, some (.own q T sz m (xs.take (m * sz)))) :: h⟩ := fun e a w hS => by
  have hok : w.ownsRow 0 T sz (e n).v len xs := hS.res n _ hr
  obtain ⟨h1, h2⟩ := own_cutR hok hm
  have hne : n ≠ q := fun he => by subst he; simp at hnq
  have hH := hS.own (m := n) (n := q) hne (freshB_spec hf) (.inr ⟨_, _, _, _, hr, rfl⟩) ⟨rfl, rfl, rfl, Nat.le_refl _, fun _ _ _ => rfl⟩ h1 (fun b hb => .inl (h2 ▸ hb))
  refine ⟨_, hH.defers, hH.size, fun j v hj => ?_, hH.res, hH.mine, hH.sep, hH.frame⟩
  have hj2 : look ((i, SV.v q) :: t) j = some v := hj
  rw [look_cons] at hj2
  by_cases e0 : i = j
  · rw [if_pos e0] at hj2
    have hj3 : SV.v q = v := by simpa using hj2
    subst hj3
    subst e0
    show a.tmps[i]? = some ((e.set q ⟨0, 0, cutV (e n).v 0 m⟩) q).v
    rw [Env.set_self]
    exact hS.tmp i _ hv
  · rw [if_neg e0] at hj2
    exact hH.tmp j v hj2
theorem op_cutV0 {t T : TypeId} {x : Operand} {n hi sz len : Nat} {T0 : TypeId} {xs : List Value} {oh : Option Operand} (ho : o.op = .slice t x none oh none) (hg : o.guard = none) (hd : dstB o.dst C.nt = true) (hx : S.ev x = some (.v n)) (hr : S.res n = some (.own n T0 sz len xs)) (hu' : tabLook undT t = some (.slice T)) (hs' : tabLook sizT T = some sz) (hh : EvO S oh len hi) (h2 : hi ≤ len) :
    OpG C Try.prog ops o S ⟨opT x ++ (opO none ++ opO oh), [n], dw o.dst (.sub n 0 hi), [], []⟩ := by
  refine op_cut (sz := sz) ho hg hd hx hu' hs' evO_none hh (Nat.zero_le _) (fun S' e a w hq hS => ?_) rfl
  have hok : w.ownsRow 0 T0 sz (e n).v len xs := hS.res n _ ((hq n (by simp)).trans hr)
  rcases hok.2 with ⟨h3, h4⟩ | ⟨g, cap, cur, h3, _, _, h5, _⟩
  · refine ⟨none, 0, by rw [show (SV.v n).den e = (e n).v from rfl, h3, h4], by omega, ?_⟩
    show cutV (e n).v 0 hi = _
    rw [h3]; simp [cutV]
  · refine ⟨some ⟨g, 0, none⟩, cap, h3, by omega, ?_⟩
    show cutV (e n).v 0 hi = _
    rw [h3]; simp [cutV]
/-- A part of an own slice of numbers, read. -/
theorem rdn_subG {n : Nat} {T : TypeId} {len lo cnt : Nat} {xs : List Value} (hr : S.res n = some (.own n T 1 len xs)) (hc : lo + cnt ≤ len) : RdN C S [n] 1 (.sub n lo cnt) cnt ((xs.drop lo).take cnt) := by
  intro S' e a w h hS
  have hok : w.ownsRow 0 T 1 (e n).v len xs := hS.res n _ ((h n (by simp)).trans hr)
  refine ⟨by rw [List.length_take, List.length_drop, hok.1]; omega, ?_⟩
  show ∃ a c, cutV (e n).v lo cnt = .slice a cnt c ∧ _
  rcases hok.2 with ⟨h1, h2⟩ | ⟨g, cap, cur, h1, _, h3, _, _, _, h4⟩
  · rw [h1]; exact ⟨_, _, rfl, .inl (by omega)⟩
  · rw [h1]
    refine ⟨_, _, rfl, ?_⟩
    by_cases hcl : cap = lo
    · left; omega
    · right
      refine ⟨g, lo, by rw [if_neg hcl]; simp [add_place], fun j u hu => ?_⟩
      rw [List.getElem?_take] at hu
      split at hu
      · rw [List.getElem?_drop] at hu
        have := hok.cells (g := g) (by rw [h1]; rfl) (lo + j) u hu
        rwa [add_place, Nat.zero_add] at this
      · cases hu
/-- What an own slice holds has been changed where it lies. -/
theorem Holds.ownChg {e : Env} {a : Act} {w w' : World} (hS : Holds C S e a w) {n T sz len g : Nat} {xs ys : List Value} (hr : S.res n = some (.own n T sz len xs)) (hg : (e n).v.ownBlock = some g) (hx : BelowX w w' [g]) (hok : w'.ownsRow 0 T sz (e n).v len ys) : Holds C ⟨S.t, (n, some (.own n T sz len ys)) :: S.h⟩ e a w' := by
  have hmine : ∀ b, (e n).v.ownBlock = some b → C.mine b := fun b hb => hS.mine n _ hr rfl b hb
  refine ⟨hS.defers, hS.size, hS.tmp, fun m r h => ?_, fun m r h hw b hb => ?_, fun m k r r' h h' hne hw b hb => ?_, ⟨hx.os.trans hS.frame.os, hx.tape.trans hS.frame.tape, hx.output.trans hS.frame.output, Nat.le_trans hS.frame.size hx.size, fun k hk hkm => ?_⟩⟩
  · rw [St.res_cons] at h
    split at h
    · cases h; exact hok
    · rename_i hne
      refine r.loc e w w' (fun b hfb => hx.block b (r.lt e w b (hS.res m r h) hfb) fun he => ?_) (hS.res m r h)
      have he : b = g := by simpa using he
      subst he
      exact hS.sep n m _ r hr h hne rfl b hg hfb
  · rw [St.res_cons] at h
    split at h
    · cases h; exact hmine b hb
    · exact hS.mine m r h hw b hb
  · rw [St.res_cons] at h h'
    split at h
    · rename_i h1; cases h; subst h1
      split at h'
      · rename_i h2; exact absurd h2 hne
      · exact hS.sep n k _ r' hr h' hne rfl b hb
    · split at h'
      · rename_i h2; cases h'; subst h2
        exact hS.sep m n r _ h hr hne hw b hb
      · exact hS.sep m k r r' h h' hne hw b hb
  · refine (hx.block k (Nat.lt_of_lt_of_le hk hS.frame.size) fun he => ?_).trans (hS.frame.block k hk hkm)
    have he : k = g := by simpa using he
    subst he
    rcases hmine k hg with h | h
    · omega
    · exact hkm h
theorem take_mid {α : Type} (L B : List α) (off m k : Nat) (hB : B.length = m) (h : off + m ≤ k) (hk : k ≤ L.length) : (L.take off ++ B ++ L.drop (off + m)).take k = (L.take k).take off ++ B ++ (L.take k).drop (off + m) := by
  have l1 : (L.take off ++ B).length = off + m := by rw [List.length_append, List.length_take, hB]; omega
  rw [List.take_append, List.take_of_length_le (by omega), l1, List.take_take, Nat.min_eq_left (by omega), List.drop_take]
/-- A row written into an own slice of rows. -/
theorem op_storesU {ty : TypeId} {x y : Operand} {n off sz len m : Nat} {T : TypeId} {xs ys : List Value} {B : Array Value} (ho : o.op = .store ty x y) (hg : o.guard = none) (hdst : o.dst = none) (hx : S.ev x = some (.vp n off)) (hy : S.ev y = some (.c (.agg B))) (hr : S.res n = some (.own n T sz len xs))
    (hi' : tabLook sizT ty = some m) (hB : B.size = m) (h1c : B.all (·.oneCell') = true) (hoff : off + m ≤ len * sz) (h0 : 0 < len) (hys : xs.take off ++ B.toList ++ xs.drop (off + m) = ys) :
    OpG C Try.prog ops o S ⟨opT x ++ opT y, [n], [], [(n, some (.own n T sz len ys))], []⟩ := by
  have hi := tabAll_look sizT_ok hi'
  subst hys
  refine opG_mk hg fun S' h1 h2 h3 e a w hS => ?_
  have hr' := (h2 n (by simp)).trans hr
  have hok : w.ownsRow 0 T sz (e n).v len xs := hS.res n _ hr'
  have hxl : xs.length = len * sz := hok.1
  rcases hok.2 with ⟨_, h0'⟩ | ⟨g, cap, cur, hev, _, hb, hnc, hcm, hcs, htk⟩
  · omega
  have hmul := Nat.mul_le_mul_right sz hnc
  have hevx : a.eval x = .pointer (some ⟨g, off, none⟩) := by
    rw [hS.ev ((ev_like h1 fun _ h => List.mem_append_left _ h).trans hx)]
    show (match (e n).v with | .slice (some a) _ _ => Value.pointer (some ⟨a.block, off, none⟩) | _ => undef) = _
    rw [hev]
  have hevy : a.eval y = .agg B := hS.ev ((ev_like h1 fun _ h => List.mem_append_right _ h).trans hy)
  have hBl : B.toList.length = m := by simpa using hB
  have hst := run_storeCells_at Try.prog g off T B.toList 0 cur w hb (by simp only [Array.length_toList]; omega) (fun u hu => Array.all_eq_true_iff_forall_mem.1 h1c u (by simpa using hu))
  rw [Nat.add_zero, hBl] at hst
  have hsz : (cur.toList.take off ++ B.toList ++ cur.toList.drop (off + m)).length = cur.size := by
    simp only [List.length_append, List.length_take, List.length_drop, Array.length_toList, hB]; omega
  generalize hnc2 : (cur.toList.take off ++ B.toList ++ cur.toList.drop (off + m)).toArray = cur2 at hst
  have hc2 : cur2.toList = cur.toList.take off ++ B.toList ++ cur.toList.drop (off + m) := by rw [← hnc2]
  have hg0 : (e n).v.ownBlock = some g := by rw [hev]; rfl
  have hnew : (w.setRow g cur2).ownsRow 0 T sz (e n).v len (xs.take off ++ B.toList ++ xs.drop (off + m)) := by
    refine ⟨by simp only [List.length_append, List.length_take, List.length_drop, Array.length_toList, hB]; omega, .inr ⟨g, cap, cur2, hev, Nat.zero_le _, setRow_heap w g cur _ T (0, 0) hb, hnc, hcm, ?_, ?_⟩⟩
    · rw [← Array.length_toList, hc2, hsz]; exact hcs
    · rw [hc2, ← htk]
      exact take_mid _ _ _ _ _ hBl hoff (by rw [Array.length_toList]; omega)
  refine wp_skip' (w' := w.setRow g cur2) ?_ ⟨e, ?_⟩
  · cases hq : Try.prog.info? ty with
    | none => simp [hq] at hi
    | some i =>
      have hs : i.size = m := by simpa [hq] using hi
      have hcs : (Value.agg B).cells = B := rfl
      simp only [execOp, ho, hevx, hevy, Instr.storeAt, Instr.sureAddr, storeVar, sizeOf, typeInfo, Sem.run_bind, Sem.run_pure, Result.andThen_ok, hcs]
      simp [hq, hs, hB, hst]
  · rw [hdst]
    exact hS.ownChg hr' hg0 ⟨rfl, rfl, rfl, by simp [World.setRow], fun k hk hkm => setRow_other w g k _ (by simpa using hkm)⟩ hnew
end Go.Proofs.Ytcgmapioelfneaa
