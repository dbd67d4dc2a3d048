/- A walk made new: walked. No condition. A walk: what it looks at: walked. No condition. -/
import Derived.Test.YtmpnkknocfaciaaTre4
import Derived.Test.YtmpnkknocfaciaaSymEJ
import Derived.Test.YtmpnkknocfaciaaWlk3
import Derived.Test.YtmpnkknocfaciaaSymALW
namespace Go.Proofs.Ytmpnkknocfaciaa
open Go.RowKit
set_option maxRecDepth 100000
set_option maxHeartbeats 1000000
section
variable {C : Ctx} {ops : Array Oper} {S : St} {o : Oper}
theorem op_eqNilC {x y : Operand} {ty yt e0 : TypeId} {ad : Addr} {len cap : Nat} (hu' : tabLook undT ty = some (.slice e0)) (ho : o.op = .binOp .eql ty x y yt) (hg : o.guard = none) (hd : dstB o.dst C.nt = true) (hx : S.ev x = some (.c (.slice (some ad) len cap))) (hy : S.ev y = some (.c (.slice none 0 0))) : OpG C Try.prog ops o S ⟨opT x ++ opT y, [], dw o.dst (.c (.bool false)), [], []⟩ :=
  op_two (v := .c (.bool false)) hg hd hx hy fun e ρ w h1 h2 => by
    have h1' : ρ x = .slice (some ad) len cap := h1
    have h2' : ρ y = .slice none 0 0 := h2
    have hu := tabAll_look undT_ok hu'
    simp [execOp, ho, h1', h2', binOp, eqGuard, SV.c, run_equal_slice_nil w ty e0 _ _ _ hu]
theorem fin_ownNil {nt T size : Nat} {w0 : World} : ∀ e a w, Holds ⟨nt, w0, []⟩ S e a w → RetOwn w0 T size 0 [] (.returned ((SV.c (.slice none 0 0)).den e)) w := fun e a w hS => ⟨_, rfl, ⟨by simp, .inl ⟨rfl, rfl⟩⟩, hS.frame.below rfl⟩
end
/-- A call that hands back a struct of two new slices, and a value. -/
theorem op_callB {C : Ctx} {ops : Array Oper} {S : St} {o : Oper} {f : FuncId} {xs : Array Operand} {ats : Array TypeId} {vs : List SV} {rb : List Nat} {j q1 q2 T1 s1 n1 T2 s2 n2 : Nat} {xs1 xs2 : List Value} {u : Value} (ho : o.op = .call { callee := .value (.func f), args := xs, argTypes := ats }) (hg : o.guard = none) (hd : dstB o.dst C.nt = true) (hxs : EvS S xs.toList vs) (hc' : tabLook calT f = some j)
    (hcon : ∀ (S' : St) e a w, Holds C S' e a w → (∀ q ∈ rb, S'.res q = S.res q) → Calls Try.prog j (vs.map (·.den e)).toArray w (RetB w T1 s1 n1 xs1 T2 s2 n2 xs2 (fun v1 v2 => #[v1, v2]) u)) (hq : Nat.beq q1 q2 = false) :
    OpG C Try.prog ops o S ⟨xs.toList.flatMap opT, rb, dw o.dst (.tup [.row (.l [.v q1, .v q2]), .c u]), [(q1, some (.own q1 T1 s1 n1 xs1)), (q2, some (.own q2 T2 s2 n2 xs2))], [q1, q2]⟩ := by
  have hq : q1 ≠ q2 := by intro h; subst h; simp at hq
  refine opG_mk hg fun S' h1 h2 h3 e a w hS => ?_
  unfold Oper.wp
  rw [call_hop ho hxs hc' h1 hS]
  refine Calls.mono (hcon S' e a w hS h2) ?_
  rintro r w' ⟨v1, v2, rfl, o1, o2, hne, hb⟩
  have hH := hS.rename (h3 q2 (by simp)) ⟨0, 0, v2⟩
  have e1 : ((e.set q2 ⟨0, 0, v2⟩).set q1 ⟨0, 0, v1⟩ q1).v = v1 := by rw [Env.set_self]
  have e2 : ((e.set q2 ⟨0, 0, v2⟩).set q1 ⟨0, 0, v1⟩ q2).v = v2 := by rw [Env.set_ne _ _ (Ne.symm hq), Env.set_self]
  have low : ∀ {T s n : Nat} {v : Value} {xs : List Value}, w'.ownsRow w.heap.size T s v n xs → w'.ownsRow 0 T s v n xs := fun h => by
    refine ⟨h.1, ?_⟩
    rcases h.2 with h | ⟨g, cap, cur, h1, _, h⟩
    · exact .inl h
    · exact .inr ⟨g, cap, cur, h1, Nat.zero_le _, h⟩
  have high : ∀ {T s n : Nat} {v : Value} {xs : List Value}, w'.ownsRow w.heap.size T s v n xs → ∀ b, v.ownBlock = some b → w.heap.size ≤ b := fun h b hb => by
    rcases h.2 with h | ⟨g, cap, cur, h1, h2, _⟩
    · rw [h.1] at hb; cases hb
    · rw [h1] at hb
      obtain rfl : g = b := Option.some.inj hb
      exact h2
  have hC := hH.chg (w' := w') [(q1, .own q1 T1 s1 n1 xs1), (q2, .own q2 T2 s2 n2 xs2)] [] (h3 q1 (by simp)) ⟨0, 0, v1⟩ hb.os hb.tape hb.output hb.size (fun q hk => by cases hk) (fun x hx _ => hb.block x hx) (fun p hp => by
    simp only [List.mem_cons, List.not_mem_nil, or_false] at hp
    rcases hp with rfl | rfl
    · show w'.ownsRow 0 T1 s1 _ n1 xs1
      rw [e1]; exact low o1
    · show w'.ownsRow 0 T2 s2 _ n2 xs2
      rw [e2]; exact low o2) (fun p hp x hx => by
    simp only [List.mem_cons, List.not_mem_nil, or_false] at hp
    right
    rcases hp with rfl | rfl
    · have hx : (_ : Value).ownBlock = some x := hx
      rw [e1] at hx; exact high o1 x hx
    · have hx : (_ : Value).ownBlock = some x := hx
      rw [e2] at hx; exact high o2 x hx) (fun p hp q hq' hpq x hx hx' => by
    simp only [List.mem_cons, List.not_mem_nil, or_false] at hp hq'
    rcases hp with rfl | rfl <;> rcases hq' with rfl | rfl
    · exact hpq rfl
    · have hx : (_ : Value).ownBlock = some x := hx
      have hx' : (_ : Value).ownBlock = some x := hx'
      rw [e1] at hx
      rw [e2] at hx'
      exact hne x hx hx'
    · have hx : (_ : Value).ownBlock = some x := hx
      have hx' : (_ : Value).ownBlock = some x := hx'
      rw [e2] at hx
      rw [e1] at hx'
      exact hne x hx' hx
    · exact hpq rfl)
  refine ⟨(e.set q2 ⟨0, 0, v2⟩).set q1 ⟨0, 0, v1⟩, ?_⟩
  have := hC.put hd (.tup [.row (.l [.v q1, .v q2]), .c u])
  have hden : (SV.tup [.row (.l [.v q1, .v q2]), .c u]).den ((e.set q2 ⟨0, 0, v2⟩).set q1 ⟨0, 0, v1⟩) = .tuple #[.agg #[v1, v2], u] := by
    show Value.tuple #[.agg #[((e.set q2 ⟨0, 0, v2⟩).set q1 ⟨0, 0, v1⟩ q1).v, ((e.set q2 ⟨0, 0, v2⟩).set q1 ⟨0, 0, v1⟩ q2).v], u] = _
    rw [e1, e2]
  rw [hden] at this
  exact this
/-- A node of a tree. -/
structure NodeS where
  lo : P3
  hi : P3
  left : Int
  right : Int
  first : Int
  count : Int
def nodeC (n : NodeS) : List Value := n.lo.c.toList ++ (n.hi.c.toList ++ [.int .i64 n.left, .int .i64 n.right, .int .i64 n.first, .int .i64 n.count])
def nodesC (N : List NodeS) : List Value := N.flatMap nodeC
theorem nodeC_length (n : NodeS) : (nodeC n).length = 10 := rfl
def ordC (K : List Nat) : List Value := K.map fun k => .int .i64 ((k : Nat) : Int)
def wkC (v1 v2 v3 : Value) (n : Nat) : Array Value := #[v1, v2, .bool true, v3, .int .i64 (n : Int)]
/-- A walk: its tree, its triangles, its steps. -/
structure WkS where
  N : List NodeS
  K : List Nat
  l : List TriS
  n : Nat
theorem lt_of_look {w w' : World} {b : Nat} (h : w'.heap[b]? = w.heap[b]?) (hb : b < w.heap.size) : b < w'.heap.size := by
  rw [Array.getElem?_eq_getElem hb] at h
  exact (Array.getElem?_eq_some_iff.1 h).1
def wkO : Obj WkS where
  ok w b v s := ∃ v1 v2 v3, v = .tuple #[v1, v2, v3] ∧ Blk w b (wkC v1 v2 v3 s.n) 72 ∧ RdV w 10 v1 s.N.length (nodesC s.N) ∧ FS w 1 v2 s.K.length (ordC s.K) ∧ RdV w 19 v3 s.l.length (trisC s.l) ∧ b < w.heap.size ∧ ∀ x ∈ vblk v, x < w.heap.size ∧ x ≠ b
  loc h hk := by
    obtain ⟨v1, v2, v3, rfl, h1, h2, h3, h4, h5, h6⟩ := hk
    have hv : ∀ x, (v1.ownBlock = some x ∨ v2.ownBlock = some x ∨ v3.ownBlock = some x) → x ∈ vblk (.tuple #[v1, v2, v3]) := fun x hx => by
      simp only [vblk, List.flatMap_cons, List.flatMap_nil, List.append_nil, List.mem_append, Option.mem_toList]
      exact hx
    refine ⟨v1, v2, v3, rfl, (h _ (.inl rfl)).trans h1, h2.locB fun x hx => h x (.inr (hv x (.inl hx))), h3.locB fun x hx => h x (.inr (hv x (.inr (.inl hx)))), h4.locB fun x hx => h x (.inr (hv x (.inr (.inr hx)))), ?_, fun x hx => ⟨?_, (h6 x hx).2⟩⟩
    · exact lt_of_look (h _ (.inl rfl)) h5
    · exact lt_of_look (h _ (.inr hx)) (h6 x hx).1
  lt h hx := by
    obtain ⟨v1, v2, v3, rfl, h1, h2, h3, h4, h5, h6⟩ := h
    rcases hx with rfl | hx
    · exact h5
    · exact (h6 _ hx).1
/-- Handed back: a new object, and a value. -/
def RetNOT {σ : Type} (O : Obj σ) (w : World) (s : σ) (u : Value) : Ending → World → Prop := fun r w' => ∃ b v, r = .returned (.tuple #[.pointer (some ⟨b, 0, none⟩), u]) ∧ O.ok w' b v s ∧ (∀ x, (x = b ∨ x ∈ vblk v) → w.heap.size ≤ x) ∧ Below w.heap.size w w'
section
variable {C : Ctx} {ops : Array Oper} {S : St} {o : Oper}
theorem fin_wk {nt n q1 q2 q3 : Nat} {w0 : World} {N : List NodeS} {K : List Nat} {l : List TriS} {u : Value} (hr : S.res n = some (.blk n 72 (.l [.v q1, .v q2, .c (.bool true), .v q3, .c (.int .i64 0)]))) (h1 : S.res q1 = some (.own q1 43 10 N.length (nodesC N))) (h2 : S.res q2 = some (.own q2 3 1 K.length (ordC K))) (h3 : S.res q3 = some (.own q3 37 19 l.length (trisC l)))
    (n1 : Nat.beq q1 n = false) (n2 : Nat.beq q2 n = false) (n3 : Nat.beq q3 n = false) : ∀ e a w, Holds ⟨nt, w0, []⟩ S e a w → RetNOT wkO w0 ⟨N, K, l, 0⟩ u (.returned ((SV.tup [.p n 0, .c u]).den e)) w := fun e a w hS => by
  have ne : ∀ {q : Nat}, Nat.beq q n = false → q ≠ n := fun h hq => by subst hq; simp at h
  obtain ⟨fr, hb, hfr⟩ := res_blk hS hr
  rw [hfr rfl] at hb
  have hbl : (e n).b < w.heap.size := (Array.getElem?_eq_some_iff.1 hb).1
  have hmine : ∀ {q r}, S.res q = some r → r.wr = true → ∀ b, r.foot e b → w0.heap.size ≤ b := fun hq hw b hf => by
    rcases hS.mine _ _ hq hw b hf with h | h
    · exact h
    · cases h
  have hlt : ∀ {q T s len : Nat} {xs : List Value}, S.res q = some (.own q T s len xs) → Nat.beq q n = false → ∀ b, (e q).v.ownBlock = some b → b < w.heap.size ∧ b ≠ (e n).b ∧ w0.heap.size ≤ b := fun hq hn b hb' => by
    refine ⟨Res.lt _ e w b (hS.res _ _ hq) hb', ?_, hmine hq rfl b hb'⟩
    intro he
    exact hS.sep _ n _ _ hq hr (ne hn) rfl b hb' he
  refine ⟨(e n).b, .tuple #[(e q1).v, (e q2).v, (e q3).v], rfl, ⟨_, _, _, rfl, hb, rdn_own h1 S e a w (fun _ _ => rfl) hS, ?_, rdn_own h3 S e a w (fun _ _ => rfl) hS, hbl, ?_⟩, ?_, hS.frame.below rfl⟩
  · refine ⟨rdn_own h2 S e a w (fun _ _ => rfl) hS, ?_⟩
    have hok : w.ownsRow 0 3 1 (e q2).v K.length (ordC K) := hS.res q2 _ h2
    rcases hok.2 with ⟨h, h0⟩ | ⟨g, cap, cur, h, _, _, hc, _⟩
    · exact ⟨none, 0, by rw [h]; show Value.slice none 0 0 = Value.slice none K.length 0; rw [h0], by show K.length ≤ 0; omega⟩
    · exact ⟨some ⟨g, 0, none⟩, cap, h, hc⟩
  · intro x hx
    simp only [vblk, List.flatMap_cons, List.flatMap_nil, List.append_nil, List.mem_append, Option.mem_toList] at hx
    rcases hx with hx | hx | hx
    · exact ⟨(hlt h1 n1 x hx).1, (hlt h1 n1 x hx).2.1⟩
    · exact ⟨(hlt h2 n2 x hx).1, (hlt h2 n2 x hx).2.1⟩
    · exact ⟨(hlt h3 n3 x hx).1, (hlt h3 n3 x hx).2.1⟩
  · intro x hx
    rcases hx with rfl | hx
    · exact hmine hr rfl _ rfl
    · simp only [vblk, List.flatMap_cons, List.flatMap_nil, List.append_nil, List.mem_append, Option.mem_toList] at hx
      rcases hx with hx | hx | hx
      · exact (hlt h1 n1 x hx).2.2
      · exact (hlt h2 n2 x hx).2.2
      · exact (hlt h3 n3 x hx).2.2
theorem walk1_callB {l : List Oper} {t : List (Nat × SV)} {h : List (Nat × Option Res)} {d : Nat} {f : FuncId} {xs : Array Operand} {ats : Array TypeId} {vs : List SV} {rb : List Nat} {j T1 s1 n1 T2 s2 n2 : Nat} {xs1 xs2 : List Value} {u : Value} {K : St → Prop} (q1 q2 : Nat) (ho : o.op = .call { callee := .value (.func f), args := xs, argTypes := ats }) (hdn : o.dst = some d) (hg : o.guard = none) (hd : dstB o.dst C.nt = true) (hxs : EvS ⟨t, h⟩ xs.toList vs) (hc' : tabLook calT f = some j) (hq : Nat.beq q1 q2 = false) (hf : (freshB ⟨t, h⟩ q1 && freshB ⟨t, h⟩ q2) = true)
    (hcon : ∀ (S' : St) e a w, Holds C S' e a w → (∀ q ∈ rb, S'.res q = (St.mk t h).res q) → Calls Try.prog j (vs.map (·.den e)).toArray w (RetB w T1 s1 n1 xs1 T2 s2 n2 xs2 (fun v1 v2 => #[v1, v2]) u))
    (hK : Walk1 C Try.prog ops l ⟨(d, .tup [.row (.l [.v q1, .v q2]), .c u]) :: t, (q1, some (.own q1 T1 s1 n1 xs1)) :: (q2, some (.own q2 T2 s2 n2 xs2)) :: h⟩ K) : Walk1 C Try.prog ops (o :: l) ⟨t, h⟩ K := by
  have := op_callB (C := C) (ops := ops) ho hg hd hxs hc' hcon hq
  rw [hdn] at this
  rw [Bool.and_eq_true] at hf
  exact ⟨_, this, by simp [hf.1, hf.2], hK⟩
theorem op_callNOT {σ : Type} {f : FuncId} {xs : Array Operand} {ats : Array TypeId} {vs : List SV} {rb : List Nat} {j n : Nat} {O : Obj σ} {s : σ} {u : Value} (ho : o.op = .call { callee := .value (.func f), args := xs, argTypes := ats }) (hdn : o.dst = some n) (hg : o.guard = none) (hd : dstB o.dst C.nt = true) (hxs : EvS S xs.toList vs) (hc' : tabLook calT f = some j) (k : Nat)
    (hcon : ∀ (S' : St) e a w, Holds C S' e a w → (∀ q ∈ rb, S'.res q = S.res q) → Calls Try.prog j (vs.map (·.den e)).toArray w (RetNOT O w s u)) :
    OpG C Try.prog ops o S ⟨xs.toList.flatMap opT, rb, [(n, .tup [.p n 0, .c u])], [(n, none), (k, some (.obj n O s))], [n]⟩ := by
  refine opG_mk hg fun S' h1 h2 h3 e a w hS => ?_
  unfold Oper.wp
  rw [call_hop ho hxs hc' h1 hS]
  refine Calls.mono (hcon S' e a w hS h2) ?_
  rintro r w' ⟨b, v, rfl, hok, hnew, hb⟩
  have hH := (hS.newObjO (n := n) k (h3 n (by simp)) hok hnew hb).drop n
  have := hH.put hd (.tup [.p n 0, .c u])
  have hden : (SV.tup [.p n 0, .c u]).den (e.set n ⟨b, 0, v⟩) = .tuple #[.pointer (some ⟨b, 0, none⟩), u] := by
    show Value.tuple #[.pointer (some ⟨(e.set n ⟨b, 0, v⟩ n).b, 0, none⟩), u] = _
    rw [Env.set_self]
  rw [hden, hdn] at this
  rw [hdn]
  exact ⟨_, this⟩
end
theorem tris_oneC (l : List TriS) (hok : ∀ t ∈ l, t.ok) : ∀ u ∈ trisC l, u.oneCell' = true := fun u hu => by
  obtain ⟨t, ht, hu⟩ := List.mem_flatMap.1 hu
  rw [triC, List.mem_append, List.mem_append] at hu
  rcases hu with h | h | h
  · simp [P9] at h
    rcases h with h | h | h | h | h | h | h | h | h <;> subst h <;> rfl
  · exact (hok t ht).2 u h
  · simp at h; subst h; rfl
attribute [local irreducible] Calls Walk1 WalkTo Tri EndA
theorem clone19_any (v : Value) (n : Nat) (XS : List Value) (w : World) (hv : RdV w 19 v n XS) (hn : n ≤ 1000000) (h1 : ∀ u ∈ XS, u.oneCell' = true) :
    Calls Try.prog 60 #[v] w (RetOwn w 37 19 n XS) := by
  have hv0 := hv
  obtain ⟨hl, a, c, rfl, h⟩ := hv0
  cases a with
  | none =>
    have h0 : n = 0 := by
      rcases h with h | ⟨b, off, h, _⟩
      · exact h
      · cases h
    subst h0
    obtain rfl : XS = [] := List.eq_nil_of_length_eq_zero (by omega)
    refine calls_tri Try.func60 rfl Try.ntmps60 rfl ?_
    repeat (first | (show Walk1 _ _ _ (_ :: _) _ _; first | (show Walk1 _ _ _ (⟨_, .move _, _, _, _, _⟩ :: _) _ _; refine walk1_t (op_move rfl rfl rfl rfl) ?_) | (show Walk1 _ _ _ (⟨_, .assign _, _, _, _, _⟩ :: _) _ _; refine walk1_t (op_assign rfl rfl rfl rfl) ?_) | (show Walk1 _ _ _ (⟨_, .binOp .eql _ _ _ _, _, _, _, _⟩ :: _) _ _; refine walk1_t (op_eqNilG rfl rfl rfl rfl rfl rfl) ?_)) | refine go1 ?_ | refine end_block_other rfl ?_ | refine end_scope (fun _ h => by cases h) ?_ | (refine walk_endD ?_ ?_; (· kernel_rfl)) | refine tri_yesA rfl ?_ | refine tri_noA rfl ?_ | refine tri_trueA rfl ?_ | refine tri_falseA rfl ?_)
    refine end_ret (.c (.slice none 0 0)) (res_tmp rfl rfl) ?_
    exact fin_ownNil
  | some ad =>
    refine calls_tri Try.func60 rfl Try.ntmps60 rfl ?_
    repeat (first | (show Walk1 _ _ _ (_ :: _) _ _; first | (show Walk1 _ _ _ (⟨_, .move _, _, _, _, _⟩ :: _) _ _; refine walk1_t (op_move rfl rfl rfl rfl) ?_) | (show Walk1 _ _ _ (⟨_, .assign _, _, _, _, _⟩ :: _) _ _; refine walk1_t (op_assign rfl rfl rfl rfl) ?_) | (show Walk1 _ _ _ (⟨_, .binOp .eql _ _ _ _, _, _, _, _⟩ :: _) _ _; refine walk1_t (op_eqNilC rfl rfl rfl rfl rfl rfl) ?_) | (show Walk1 _ _ _ (⟨_, .buildSlice _ _ _, _, _, _, _⟩ :: _) _ _; refine walk1_n (op_bslice0 (k := .u8) (m := 8) rfl rfl rfl rfl rfl rfl rfl) (by kernel_rfl) ?_)) | refine go1 ?_ | refine end_block_other rfl ?_ | refine end_scope (fun _ h => by cases h) ?_ | (refine walk_endD ?_ ?_; (· kernel_rfl)) | refine tri_yesA rfl ?_ | refine tri_noA rfl ?_ | refine tri_trueA rfl ?_ | refine tri_falseA rfl ?_)
    refine walk1_g (op_append (len := 0) (cnt := n) (news := XS) rfl rfl rfl rfl rfl rfl rfl rfl rfl (by decide) (rdn_old hv (by omega) rfl) h1 (by omega) rfl) (by kernel_rfl) ?_
    rw [show valsL .u8 [] ++ XS = XS from rfl, Nat.zero_add]
    repeat (first | (show Walk1 _ _ _ (_ :: _) _ _; (show Walk1 _ _ _ (⟨_, .assign _, _, _, _, _⟩ :: _) _ _; refine walk1_t (op_assign rfl rfl rfl rfl) ?_)) | refine go1 ?_ | refine end_block_other rfl ?_ | refine end_scope (fun _ h => by cases h) ?_ | (refine walk_endD ?_ ?_; (· kernel_rfl)) | refine tri_yesA rfl ?_ | refine tri_noA rfl ?_ | refine tri_trueA rfl ?_ | refine tri_falseA rfl ?_)
    refine end_ret (.v 7) (res_tmp rfl rfl) ?_
    exact fin_own rfl
theorem walkNew_any (l : List TriS) (hok : ∀ t ∈ l, t.ok) (hl : l.length ≤ 1000000) (N : List NodeS) (K : List Nat) (vl : Value) (w : World) (hvl : RdV w 19 vl l.length (trisC l)) (cB : ∀ w, RdV w 19 vl l.length (trisC l) → Calls Try.prog 13 #[vl] w (RetB w 43 10 N.length (nodesC N) 3 1 K.length (ordC K) (fun v1 v2 => #[v1, v2]) (.int .i64 0))) :
    Calls Try.prog 28 #[vl] w (RetNOT wkO w ⟨N, K, l, 0⟩ (.int .i64 0)) := by
  have cC := fun v w h => clone19_any v l.length (trisC l) w h hl (tris_oneC l hok)
  generalize hXS : trisC l = XS at *
  generalize hNC : nodesC N = NC at *
  generalize hKC : ordC K = KC at *
  refine calls_tri Try.func28 rfl Try.ntmps28 rfl ?_
  repeat (first | (show Walk1 _ _ _ (_ :: _) _ _; first | (show Walk1 _ _ _ (⟨_, .move _, _, _, _, _⟩ :: _) _ _; refine walk1_t (op_move rfl rfl rfl rfl) ?_) | (show Walk1 _ _ _ (⟨_, .assign _, _, _, _, _⟩ :: _) _ _; first | refine walk1_t (op_assignN rfl rfl rfl rfl) ?_ | refine walk1_t (op_assign rfl rfl rfl rfl) ?_)) | refine go1 ?_ | refine end_block_other rfl ?_ | refine end_scope (fun _ h => by cases h) ?_ | (refine walk_endD ?_ ?_; (· kernel_rfl)) | refine tri_yesA rfl ?_ | refine tri_noA rfl ?_ | refine tri_trueA rfl ?_ | refine tri_falseA rfl ?_)
  refine walk1_callB (rb := []) (vs := [.c vl]) 901 902 rfl rfl rfl rfl (by repeat (first | exact evs_nil | apply evs_cons rfl)) rfl rfl (by kernel_rfl) (fun S' e a w' hS _ => cB w' (rdn_old (S := S') hvl (by omega) rfl S' e a w' (fun _ h => by cases h) hS)) ?_
  repeat (first | (show Walk1 _ _ _ (_ :: _) _ _; first | (show Walk1 _ _ _ (⟨_, .move _, _, _, _, _⟩ :: _) _ _; refine walk1_t (op_move rfl rfl rfl rfl) ?_) | (show Walk1 _ _ _ (⟨_, .alloc _, _, _, _, _⟩ :: _) _ _; refine walk1_n (op_alloc rfl rfl rfl rfl rfl) (by kernel_rfl) ?_) | (show Walk1 _ _ _ (⟨_, .extract _ _, _, _, _, _⟩ :: _) _ _; refine walk1_t (op_extract rfl rfl rfl rfl rfl) ?_)) | refine go1 ?_ | refine end_block_other rfl ?_ | refine end_scope (fun _ h => by cases h) ?_ | (refine walk_endD ?_ ?_; (· kernel_rfl)) | refine tri_yesA rfl ?_ | refine tri_noA rfl ?_ | refine tri_trueA rfl ?_ | refine tri_falseA rfl ?_)
  refine walk1_b (op_storeB (q1 := 901) (q2 := 902) rfl rfl rfl rfl rfl (fun _ => rfl) rfl rfl rfl rfl (fun _ => rfl)) ?_
  repeat (first | (show Walk1 _ _ _ (_ :: _) _ _; first | (show Walk1 _ _ _ (⟨_, .move _, _, _, _, _⟩ :: _) _ _; refine walk1_t (op_move rfl rfl rfl rfl) ?_) | (show Walk1 _ _ _ (⟨_, .assign _, _, _, _, _⟩ :: _) _ _; refine walk1_t (op_assign rfl rfl rfl rfl) ?_) | (show Walk1 _ _ _ (⟨_, .binOp .neq _ _ _ _, _, _, _, _⟩ :: _) _ _; refine walk1_t (op_neN rfl rfl rfl (by first | exact evN_const rfl | exact rfl) (by first | exact evN_const rfl | exact rfl)) ?_)) | (show WalkTo _ _ _ _ (_ :: _) _ _ _; first | (show WalkTo _ _ _ _ (⟨_, .move _, _, _, _, _⟩ :: _) _ _ _; refine walk_t (op_move rfl rfl rfl rfl) ?_) | (show WalkTo _ _ _ _ (⟨_, .assign _, _, _, _, _⟩ :: _) _ _ _; first | refine walk_t (op_assignN rfl rfl rfl rfl) ?_ | refine walk_t (op_assign rfl rfl rfl rfl) ?_) | (show WalkTo _ _ _ _ (⟨_, .load _ _, _, _, _, _⟩ :: _) _ _ _; refine walk_t (op_loads rfl rfl rfl rfl rfl rfl rfl rfl) ?_) | (show WalkTo _ _ _ _ (⟨_, .box _ _, _, _, _, _⟩ :: _) _ _ _; refine walk_n (op_box rfl rfl rfl rfl rfl) (by kernel_rfl) ?_) | (show WalkTo _ _ _ _ (⟨_, .build _ _, _, _, _, _⟩ :: _) _ _ _; refine walk_t (op_buildQ rfl rfl rfl rfl) ?_) | (show WalkTo _ _ _ _ (⟨_, .call ⟨.value (.func 60), _, _⟩, _, _, _, _⟩ :: _) _ _ _; (refine walk_callO rfl rfl rfl rfl (by kernel_rfl) (by repeat (first | exact evs_nil | apply evs_cons rfl)) rfl ?_; refine ⟨_, _, _, _, _, callO_1 (rdn_old hvl (by omega) rfl) (fun e w h1 => cC _ w h1), ?_⟩))) | refine go1 ?_ | refine end_block_other rfl ?_ | refine end_scope (fun _ h => by cases h) ?_ | (refine walk_endD ?_ ?_; (· kernel_rfl)) | refine tri_yesA rfl ?_ | refine tri_noA rfl ?_ | refine tri_trueA rfl ?_ | refine tri_falseA rfl ?_)
  refine end_ret (.tup [.p 18 0, .c (.int .i64 0)]) (res_tmp2 rfl rfl rfl) ?_
  exact fin_wk (q1 := 901) (q2 := 902) (q3 := 16) (by rfl) (by rw [hNC]; rfl) (by rw [hKC]; rfl) (by rw [hXS]; rfl) rfl rfl rfl
end Go.Proofs.Ytmpnkknocfaciaa
namespace Go.Proofs.Ytmpnkknocfaciaa
open Go.RowKit
set_option maxRecDepth 100000
set_option maxHeartbeats 2000000
/-- What a walk sees of a triangle. -/
def meetW (o d : P3) (mask : BitVec 8) (skip : Int) (k : Nat) (t : TriS) : M4 × Bool := if (t.mask &&& mask != BitVec.ofInt 8 0) && decide ((k : Int) ≠ skip) then hitM o d t.p0 t.p1 t.p2 else (zM, false)
attribute [local irreducible] Calls Walk1 WalkTo Tri EndA
theorem wkNone_any (v1 v2 v3 : Value) (n : Nat) (w : World) (b : Nat) (hB : Blk w b (wkC v1 v2 v3 n) 72) : Calls Try.prog 61 #[.pointer (some ⟨b, 0, none⟩)] w (RetP w b 72 (wkC v1 v2 v3 n) (.bool false)) := by
  refine calls_triP (b := b) (72) (SA.l [SV.c v1, SV.c v2, SV.c (.bool true), SV.c v3, SV.c (.int .i64 (n : Int))]) Try.func61 rfl Try.ntmps61 rfl rfl (hB) (fun _ => rfl) ?_
  repeat (first | (show Walk1 _ _ _ (_ :: _) _ _; first | (show Walk1 _ _ _ (⟨_, _, _, _, _, some _⟩ :: _) _ _; refine walk1_yes rfl rfl (by first | exact decide_eq_true (by omega) | exact decide_eq_false (by omega) | rfl | (show _ = true; with_reducible assumption) | (show _ = false; with_reducible assumption) | (simp <;> fail) | omega) ?_) | (show Walk1 _ _ _ (⟨_, .move _, _, _, _, _⟩ :: _) _ _; refine walk1_t (op_move rfl rfl rfl rfl) ?_) | (show Walk1 _ _ _ (⟨_, .assign _, _, _, _, _⟩ :: _) _ _; refine walk1_t (op_assign rfl rfl rfl rfl) ?_) | (show Walk1 _ _ _ (⟨_, .binOp .eql _ _ _ _, _, _, _, _⟩ :: _) _ _; refine walk1_t (op_eqNil rfl rfl rfl rfl rfl rfl) ?_) | (show Walk1 _ _ _ (⟨_, .pick _ _ _, _, _, _, _⟩ :: _) _ _; refine walk1_t (op_pickN rfl rfl rfl rfl (by first | exact decide_eq_true (by omega) | exact decide_eq_false (by omega) | rfl | (show _ = true; with_reducible assumption) | (show _ = false; with_reducible assumption) | (simp <;> fail) | omega) rfl) ?_) | (show Walk1 _ _ _ (⟨_, .unOp _ _ _, _, _, _, _⟩ :: _) _ _; refine walk1_t (op_not rfl rfl rfl rfl) ?_) | (show Walk1 _ _ _ (⟨_, .load _ _, _, _, _, _⟩ :: _) _ _; refine walk1_t (op_load rfl rfl rfl rfl rfl rfl rfl) ?_) | (show Walk1 _ _ _ (⟨_, .nilCheck _, _, _, _, _⟩ :: _) _ _; refine walk1_t (op_nilP rfl rfl rfl rfl) ?_) | (show Walk1 _ _ _ (⟨_, .fieldAddr _ _ _, _, _, _, _⟩ :: _) _ _; refine walk1_t (op_fldT rfl rfl rfl rfl rfl rfl off_zero) ?_)) | refine go1 ?_ | refine end_block_other rfl ?_ | refine end_scope (fun _ h => by cases h) ?_ | (refine walk_endD ?_ ?_; (· kernel_rfl)) | refine tri_yesA rfl ?_ | refine tri_noA rfl ?_ | refine tri_trueA rfl ?_ | refine tri_falseA rfl ?_)
  refine end_ret (.c (.bool false)) (res_tmp rfl rfl) ?_
  exact fin_obj rfl rfl (fun _ => rfl) (fun _ => rfl)
theorem wkMeets_any (v1 v2 v3 : Value) (n : Nat) (l : List TriS) (hok : ∀ t ∈ l, t.ok) (o d : P3) (mask : BitVec 8) (skip : Int) (k : Nat) (t : TriS) (ht : l[k]? = some t) (w : World) (b : Nat) (hB : Blk w b (wkC v1 v2 v3 n) 72) (hl : RdX w [b] 19 v3 l.length (trisC l)) :
    Calls Try.prog 63 #[.pointer (some ⟨b, 0, none⟩), .agg o.c, .agg d.c, .int .u8 (bvi mask), .int .i64 skip, .int .i64 (k : Int)] w (RetP w b 72 (wkC v1 v2 v3 n) (.tuple #[.agg (meetW o d mask skip k t).1.c, .bool (meetW o d mask skip k t).2])) := by
  have cH := fun w => hitT_any o d t.p0 t.p1 t.p2 w
  have hP := tris_P l hok k t ht
  have hM := tris_mask l hok k t ht
  have hll := tris_len l hok
  have hkl : k < l.length := (List.getElem?_eq_some_iff.1 ht).1
  have hl0 := hl.rd
  unfold meetW
  have hms : ∀ m : M4, m.c.size = 4 := fun _ => rfl
  have hmo : ∀ m : M4, m.c.all (·.oneCell') = true := fun m => by simp [M4.c]; exact ⟨rfl, rfl, rfl, rfl⟩
  have hzc : zM.c = #[.int .i64 0, .int .i64 0, .int .i64 0, .int .i64 0] := rfl
  generalize hitM o d t.p0 t.p1 t.p2 = hm at *
  obtain ⟨m, hb⟩ := hm
  simp only at cH ⊢
  have hms1 := hms m
  have hmo1 := hmo m
  clear hms hmo ht
  generalize hMC : m.c = MC at *
  rw [show (P9 t.p0 t.p1 t.p2) = (P9 t.p0 t.p1 t.p2).toList.toArray from rfl] at cH
  have hos : o.c.size = 3 := rfl
  have hds : d.c.size = 3 := rfl
  generalize (P9 t.p0 t.p1 t.p2).toList = PL at *
  generalize o.c = OC at *
  generalize d.c = DC at *
  generalize t.mask = TM at *
  generalize trisC l = XS at *
  rw [show k * 19 = 0 + k * 19 + 0 by omega] at hP
  rw [show k * 19 = 0 + k * 19 by omega] at hM
  generalize hq : (TM &&& mask != BitVec.ofInt 8 0) = Q at *
  have hq2 : (TM &&& mask == BitVec.ofInt 8 0) = !Q := by rw [← hq]; simp [bne]
  cases Q
  · rw [Bool.false_and, if_neg (by decide)]
    simp only [hzc]
    refine calls_triP (b := b) (72) (SA.l [SV.c v1, SV.c v2, SV.c (.bool true), SV.c v3, SV.c (.int .i64 (n : Int))]) Try.func63 rfl Try.ntmps63 rfl rfl (hB) (fun _ => rfl) ?_
    rw [Bool.not_false] at hq2
    repeat (first | (show Walk1 _ _ _ (_ :: _) _ _; first | (show Walk1 _ _ _ (⟨_, _, _, _, _, some _⟩ :: _) _ _; refine walk1_no rfl rfl (by first | exact decide_eq_true (by omega) | exact decide_eq_false (by omega) | rfl | (show _ = true; with_reducible assumption) | (show _ = false; with_reducible assumption) | (simp <;> fail) | omega) rfl ?_) | (show Walk1 _ _ _ (⟨_, .move _, _, _, _, _⟩ :: _) _ _; refine walk1_t (op_move rfl rfl rfl rfl) ?_) | (show Walk1 _ _ _ (⟨_, .assign _, _, _, _, _⟩ :: _) _ _; refine walk1_t (op_assign rfl rfl rfl rfl) ?_) | (show Walk1 _ _ _ (⟨_, .binOp .eql _ _ _ _, _, _, _, _⟩ :: _) _ _; refine walk1_t (op_eqB rfl rfl rfl (by (first | exact evB_tmp rfl | exact evB_lit rfl rfl)) (by (first | exact evB_tmp rfl | exact evB_lit rfl rfl))) ?_) | (show Walk1 _ _ _ (⟨_, .binOp .and _ _ _ _, _, _, _, _⟩ :: _) _ _; refine walk1_t (op_andB rfl rfl rfl (by (first | exact evB_tmp rfl | exact evB_lit rfl rfl)) (by (first | exact evB_tmp rfl | exact evB_lit rfl rfl))) ?_) | (show Walk1 _ _ _ (⟨_, .pick _ _ _, _, _, _, _⟩ :: _) _ _; refine walk1_t (op_pickY rfl rfl rfl rfl (by first | exact decide_eq_true (by omega) | exact decide_eq_false (by omega) | rfl | (show _ = true; with_reducible assumption) | (show _ = false; with_reducible assumption) | (simp <;> fail) | omega) rfl) ?_) | (show Walk1 _ _ _ (⟨_, .indexAddr _ _ _, _, _, _, _⟩ :: _) _ _; refine walk1_t (op_idxF rfl rfl rfl rfl (by first | exact evK_const rfl | exact evK_tmp rfl) rfl rfl (by first | assumption | exact FS.rd (by first | assumption | exact FSX.fs (by assumption) | (refine FS.cutB (by assumption) ?_; omega) | (refine FS.cut (by assumption) ?_; omega))) (by first | omega | decide) rfl) ?_) | (show Walk1 _ _ _ (⟨_, .load _ _, _, _, _, _⟩ :: _) _ _; first | refine walk1_t (op_load rfl rfl rfl rfl rfl rfl rfl) ?_ | refine walk1_t (op_loadX rfl rfl rfl rfl rfl rfl (by first | assumption | exact FSX.rdx (by assumption) | exact FSX.rdx (FSX.cutB (by assumption) (by omega))) (by omega) (by assumption)) ?_) | (show Walk1 _ _ _ (⟨_, .store _ _ _, _, _, _, _⟩ :: _) _ _; refine walk1_b (op_stores rfl rfl rfl rfl rfl rfl rfl) ?_) | (show Walk1 _ _ _ (⟨_, .alloc _, _, _, _, _⟩ :: _) _ _; refine walk1_n (op_alloc rfl rfl rfl rfl rfl) (by kernel_rfl) ?_) | (show Walk1 _ _ _ (⟨_, .nilCheck _, _, _, _, _⟩ :: _) _ _; refine walk1_t (op_nilP rfl rfl rfl rfl) ?_) | (show Walk1 _ _ _ (⟨_, .box _ _, _, _, _, _⟩ :: _) _ _; refine walk1_n (op_box rfl rfl rfl rfl rfl) (by kernel_rfl) ?_) | (show Walk1 _ _ _ (⟨_, .fieldAddr _ _ _, _, _, _, _⟩ :: _) _ _; first | refine walk1_t (op_fldT rfl rfl rfl rfl rfl rfl off_zero) ?_ | refine walk1_t (op_fldF rfl rfl rfl rfl (by first | assumption | exact FS.rd (by first | assumption | exact FSX.fs (by assumption) | (refine FS.cutB (by assumption) ?_; omega) | (refine FS.cut (by assumption) ?_; omega))) (by omega) rfl rfl rfl) ?_) | (show Walk1 _ _ _ (⟨_, .build _ _, _, _, _, _⟩ :: _) _ _; refine walk1_t (op_build0 rfl rfl rfl rfl rfl rfl) ?_)) | refine go1 ?_ | refine end_block_other rfl ?_ | refine end_scope (fun _ h => by cases h) ?_ | (refine walk_endD ?_ ?_; (· kernel_rfl)) | refine tri_yesA rfl ?_ | refine tri_noA rfl ?_ | refine tri_trueA rfl ?_ | refine tri_falseA rfl ?_)
    refine end_ret (.c (.tuple #[.agg #[.int .i64 0, .int .i64 0, .int .i64 0, .int .i64 0], .bool false])) (res_cellT rfl rfl rfl rfl rfl rfl rfl rfl) ?_
    exact fin_obj rfl rfl (fun _ => rfl) (fun _ => rfl)
  · rw [Bool.true_and]
    by_cases hs : (k : Int) = skip
    · rw [decide_eq_false (by simp [hs]), if_neg (by decide)]
      simp only [hzc]
      refine calls_triP (b := b) (72) (SA.l [SV.c v1, SV.c v2, SV.c (.bool true), SV.c v3, SV.c (.int .i64 (n : Int))]) Try.func63 rfl Try.ntmps63 rfl rfl (hB) (fun _ => rfl) ?_
      rw [Bool.not_true] at hq2
      repeat (first | (show Walk1 _ _ _ (_ :: _) _ _; first | (show Walk1 _ _ _ (⟨_, _, _, _, _, some _⟩ :: _) _ _; refine walk1_yes rfl rfl (by first | exact decide_eq_true (by omega) | exact decide_eq_false (by omega) | rfl | (show _ = true; with_reducible assumption) | (show _ = false; with_reducible assumption) | (simp <;> fail) | omega) ?_) | (show Walk1 _ _ _ (⟨_, .move _, _, _, _, _⟩ :: _) _ _; refine walk1_t (op_move rfl rfl rfl rfl) ?_) | (show Walk1 _ _ _ (⟨_, .assign _, _, _, _, _⟩ :: _) _ _; refine walk1_t (op_assign rfl rfl rfl rfl) ?_) | (show Walk1 _ _ _ (⟨_, .binOp .eql _ _ _ _, _, _, _, _⟩ :: _) _ _; first | refine walk1_t (op_eqB rfl rfl rfl (by (first | exact evB_tmp rfl | exact evB_lit rfl rfl)) (by (first | exact evB_tmp rfl | exact evB_lit rfl rfl))) ?_ | refine walk1_t (op_eqI rfl rfl rfl rfl rfl) ?_) | (show Walk1 _ _ _ (⟨_, .binOp .and _ _ _ _, _, _, _, _⟩ :: _) _ _; refine walk1_t (op_andB rfl rfl rfl (by (first | exact evB_tmp rfl | exact evB_lit rfl rfl)) (by (first | exact evB_tmp rfl | exact evB_lit rfl rfl))) ?_) | (show Walk1 _ _ _ (⟨_, .pick _ _ _, _, _, _, _⟩ :: _) _ _; refine walk1_t (op_pickN rfl rfl rfl rfl (by first | exact decide_eq_true (by omega) | exact decide_eq_false (by omega) | rfl | (show _ = true; with_reducible assumption) | (show _ = false; with_reducible assumption) | (simp <;> fail) | omega) rfl) ?_) | (show Walk1 _ _ _ (⟨_, .indexAddr _ _ _, _, _, _, _⟩ :: _) _ _; refine walk1_t (op_idxF rfl rfl rfl rfl (by first | exact evK_const rfl | exact evK_tmp rfl) rfl rfl (by first | assumption | exact FS.rd (by first | assumption | exact FSX.fs (by assumption) | (refine FS.cutB (by assumption) ?_; omega) | (refine FS.cut (by assumption) ?_; omega))) (by first | omega | decide) rfl) ?_) | (show Walk1 _ _ _ (⟨_, .load _ _, _, _, _, _⟩ :: _) _ _; first | refine walk1_t (op_load rfl rfl rfl rfl rfl rfl rfl) ?_ | refine walk1_t (op_loadX rfl rfl rfl rfl rfl rfl (by first | assumption | exact FSX.rdx (by assumption) | exact FSX.rdx (FSX.cutB (by assumption) (by omega))) (by omega) (by assumption)) ?_) | (show Walk1 _ _ _ (⟨_, .store _ _ _, _, _, _, _⟩ :: _) _ _; refine walk1_b (op_stores rfl rfl rfl rfl rfl rfl rfl) ?_) | (show Walk1 _ _ _ (⟨_, .alloc _, _, _, _, _⟩ :: _) _ _; refine walk1_n (op_alloc rfl rfl rfl rfl rfl) (by kernel_rfl) ?_) | (show Walk1 _ _ _ (⟨_, .nilCheck _, _, _, _, _⟩ :: _) _ _; refine walk1_t (op_nilP rfl rfl rfl rfl) ?_) | (show Walk1 _ _ _ (⟨_, .box _ _, _, _, _, _⟩ :: _) _ _; refine walk1_n (op_box rfl rfl rfl rfl rfl) (by kernel_rfl) ?_) | (show Walk1 _ _ _ (⟨_, .fieldAddr _ _ _, _, _, _, _⟩ :: _) _ _; first | refine walk1_t (op_fldT rfl rfl rfl rfl rfl rfl off_zero) ?_ | refine walk1_t (op_fldF rfl rfl rfl rfl (by first | assumption | exact FS.rd (by first | assumption | exact FSX.fs (by assumption) | (refine FS.cutB (by assumption) ?_; omega) | (refine FS.cut (by assumption) ?_; omega))) (by omega) rfl rfl rfl) ?_) | (show Walk1 _ _ _ (⟨_, .build _ _, _, _, _, _⟩ :: _) _ _; refine walk1_t (op_build0 rfl rfl rfl rfl rfl rfl) ?_)) | refine go1 ?_ | refine end_block_other rfl ?_ | refine end_scope (fun _ h => by cases h) ?_ | (refine walk_endD ?_ ?_; (· kernel_rfl)) | refine tri_yesA rfl ?_ | refine tri_noA rfl ?_ | refine tri_trueA rfl ?_ | refine tri_falseA rfl ?_)
      refine end_ret (.c (.tuple #[.agg #[.int .i64 0, .int .i64 0, .int .i64 0, .int .i64 0], .bool false])) (res_cellT rfl rfl rfl rfl rfl rfl rfl rfl) ?_
      exact fin_obj rfl rfl (fun _ => rfl) (fun _ => rfl)
    · rw [decide_eq_true hs, if_pos rfl]
      dsimp only
      rw [hMC]
      refine calls_triP (b := b) (72) (SA.l [SV.c v1, SV.c v2, SV.c (.bool true), SV.c v3, SV.c (.int .i64 (n : Int))]) Try.func63 rfl Try.ntmps63 rfl rfl (hB) (fun _ => rfl) ?_
      rw [Bool.not_true] at hq2
      repeat (first | (show Walk1 _ _ _ (_ :: _) _ _; first | (show Walk1 _ _ _ (⟨_, _, _, _, _, some _⟩ :: _) _ _; refine walk1_yes rfl rfl (by first | exact decide_eq_true (by omega) | exact decide_eq_false (by omega) | rfl | (show _ = true; with_reducible assumption) | (show _ = false; with_reducible assumption) | (simp <;> fail) | omega) ?_) | (show Walk1 _ _ _ (⟨_, .move _, _, _, _, _⟩ :: _) _ _; refine walk1_t (op_move rfl rfl rfl rfl) ?_) | (show Walk1 _ _ _ (⟨_, .assign _, _, _, _, _⟩ :: _) _ _; refine walk1_t (op_assign rfl rfl rfl rfl) ?_) | (show Walk1 _ _ _ (⟨_, .binOp .eql _ _ _ _, _, _, _, _⟩ :: _) _ _; first | refine walk1_t (op_eqB rfl rfl rfl (by (first | exact evB_tmp rfl | exact evB_lit rfl rfl)) (by (first | exact evB_tmp rfl | exact evB_lit rfl rfl))) ?_ | refine walk1_t (op_eqI rfl rfl rfl rfl rfl) ?_) | (show Walk1 _ _ _ (⟨_, .binOp .and _ _ _ _, _, _, _, _⟩ :: _) _ _; refine walk1_t (op_andB rfl rfl rfl (by (first | exact evB_tmp rfl | exact evB_lit rfl rfl)) (by (first | exact evB_tmp rfl | exact evB_lit rfl rfl))) ?_) | (show Walk1 _ _ _ (⟨_, .pick _ _ _, _, _, _, _⟩ :: _) _ _; refine walk1_t (op_pickN rfl rfl rfl rfl (by first | exact decide_eq_true (by omega) | exact decide_eq_false (by omega) | rfl | (show _ = true; with_reducible assumption) | (show _ = false; with_reducible assumption) | (simp <;> fail) | omega) rfl) ?_) | (show Walk1 _ _ _ (⟨_, .indexAddr _ _ _, _, _, _, _⟩ :: _) _ _; refine walk1_t (op_idxF rfl rfl rfl rfl (by first | exact evK_const rfl | exact evK_tmp rfl) rfl rfl (by first | assumption | exact FS.rd (by first | assumption | exact FSX.fs (by assumption) | (refine FS.cutB (by assumption) ?_; omega) | (refine FS.cut (by assumption) ?_; omega))) (by first | omega | decide) rfl) ?_) | (show Walk1 _ _ _ (⟨_, .load _ _, _, _, _, _⟩ :: _) _ _; first | refine walk1_t (op_load rfl rfl rfl rfl rfl rfl rfl) ?_ | refine walk1_t (op_loadX rfl rfl rfl rfl rfl rfl (by first | assumption | exact FSX.rdx (by assumption) | exact FSX.rdx (FSX.cutB (by assumption) (by omega))) (by omega) (by assumption)) ?_) | (show Walk1 _ _ _ (⟨_, .alloc _, _, _, _, _⟩ :: _) _ _; refine walk1_n (op_alloc rfl rfl rfl rfl rfl) (by kernel_rfl) ?_) | (show Walk1 _ _ _ (⟨_, .nilCheck _, _, _, _, _⟩ :: _) _ _; refine walk1_t (op_nilP rfl rfl rfl rfl) ?_) | (show Walk1 _ _ _ (⟨_, .box _ _, _, _, _, _⟩ :: _) _ _; refine walk1_n (op_box rfl rfl rfl rfl rfl) (by kernel_rfl) ?_) | (show Walk1 _ _ _ (⟨_, .fieldAddr _ _ _, _, _, _, _⟩ :: _) _ _; first | refine walk1_t (op_fldT rfl rfl rfl rfl rfl rfl off_zero) ?_ | refine walk1_t (op_fldF rfl rfl rfl rfl (by first | assumption | exact FS.rd (by first | assumption | exact FSX.fs (by assumption) | (refine FS.cutB (by assumption) ?_; omega) | (refine FS.cut (by assumption) ?_; omega))) (by omega) rfl rfl rfl) ?_)) | (show WalkTo _ _ _ _ (_ :: _) _ _ _; first | (show WalkTo _ _ _ _ (⟨_, .move _, _, _, _, _⟩ :: _) _ _ _; refine walk_t (op_move rfl rfl rfl rfl) ?_) | (show WalkTo _ _ _ _ (⟨_, .assign _, _, _, _, _⟩ :: _) _ _ _; refine walk_t (op_assign rfl rfl rfl rfl) ?_) | (show WalkTo _ _ _ _ (⟨_, .indexAddr _ _ _, _, _, _, _⟩ :: _) _ _ _; refine walk_t (op_idxF rfl rfl rfl rfl (by first | exact evK_const rfl | exact evK_tmp rfl) rfl rfl (by first | assumption | exact FS.rd (by first | assumption | exact FSX.fs (by assumption) | (refine FS.cutB (by assumption) ?_; omega) | (refine FS.cut (by assumption) ?_; omega))) (by first | omega | decide) rfl) ?_) | (show WalkTo _ _ _ _ (⟨_, .load _ _, _, _, _, _⟩ :: _) _ _ _; first | refine walk_t (op_load rfl rfl rfl rfl rfl rfl rfl) ?_ | refine walk_t (op_loads rfl rfl rfl rfl rfl rfl rfl rfl) ?_ | refine walk_t (op_loadsX rfl rfl rfl rfl (by first | assumption | exact FSX.rdx (by assumption) | exact FSX.rdx (FSX.cutB (by assumption) (by omega))) rfl rfl rfl (by decide) (by first | omega | decide) (by with_reducible assumption)) ?_) | (show WalkTo _ _ _ _ (⟨_, .store _ _ _, _, _, _, _⟩ :: _) _ _ _; refine walk_b (op_storesC rfl rfl rfl rfl rfl rfl rfl (by with_reducible assumption) (by with_reducible assumption)) ?_) | (show WalkTo _ _ _ _ (⟨_, .nilCheck _, _, _, _, _⟩ :: _) _ _ _; refine walk_t (op_nilP rfl rfl rfl rfl) ?_) | (show WalkTo _ _ _ _ (⟨_, .fieldAddr _ _ _, _, _, _, _⟩ :: _) _ _ _; first | refine walk_t (op_fldT rfl rfl rfl rfl rfl rfl off_zero) ?_ | refine walk_t (op_fldF rfl rfl rfl rfl (by first | assumption | exact FS.rd (by first | assumption | exact FSX.fs (by assumption) | (refine FS.cutB (by assumption) ?_; omega) | (refine FS.cut (by assumption) ?_; omega))) (by omega) rfl rfl rfl) ?_) | (show WalkTo _ _ _ _ (⟨_, .extract _ _, _, _, _, _⟩ :: _) _ _ _; first | refine walk_t (op_ext0 rfl rfl rfl rfl) ?_ | refine walk_t (op_ext1 rfl rfl rfl rfl) ?_) | (show WalkTo _ _ _ _ (⟨_, .call ⟨.value (.func 27), _, _⟩, _, _, _, _⟩ :: _) _ _ _; ((first | refine walk_call rfl rfl rfl rfl (by repeat (first | exact evs_nil | apply evs_cons rfl)) rfl ?_ | refine walk_call0 rfl rfl rfl (by repeat (first | exact evs_nil | apply evs_cons rfl)) rfl ?_); refine ⟨_, fun e w => cH w, ?_⟩))) | refine go1 ?_ | refine end_block_other rfl ?_ | refine end_scope (fun _ h => by cases h) ?_ | (refine walk_endD ?_ ?_; (· kernel_rfl)) | refine tri_yesA rfl ?_ | refine tri_noA rfl ?_ | refine tri_trueA rfl ?_ | refine tri_falseA rfl ?_)
      refine end_ret (.c (.tuple #[.agg MC, .bool hb])) (res_cellT rfl rfl rfl rfl rfl rfl rfl hms1) ?_
      exact fin_obj rfl rfl (fun _ => rfl) (fun _ => rfl)
end Go.Proofs.Ytmpnkknocfaciaa
