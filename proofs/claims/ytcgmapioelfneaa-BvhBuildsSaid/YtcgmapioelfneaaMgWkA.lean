/- A walk made new: walked. No condition. Own slices of rows: cut, written, sorted in parts by a call; slices built of two rows. No condition. A part of an own slice of numbers handed to a call that sorts it; slices built of two rows. No condition. How a tree is made, plainly. No condition. -/
import Derived.Test.YtcgmapioelfneaaMgTre4
import Derived.Test.YtcgmapioelfneaaMgTre2
import Derived.Test.YtcgmapioelfneaaMgBld3
import Derived.Test.YtcgmapioelfneaaSymX
import Derived.Test.YtcgmapioelfneaaMgRecW0
namespace Go.Proofs.Ytcgmapioelfneaa
open Go.RowKit
set_option maxRecDepth 100000
set_option maxHeartbeats 1000000
section
variable {C : Ctx} {ops : Array Oper} {S : St} {o : Oper}
end
/-- A call that hands back a struct of two new slices, and a value. -/
theorem op_callB {C : Ctx} {ops : Array Oper} {S : St} {o : Oper} {f : FuncId} {xs : Array Operand} {ats : Array TypeId} {vs : List SV} {rb : List Nat} {j q1 q2 T1 s1 n1 T2 s2 n2 : Nat} {xs1 xs2 : List Value} {u : Value} (ho : o.op = .call { callee := .value (.func f), args := xs, argTypes := ats }) (hg : o.guard = none) (hd : dstB o.dst C.nt = true) (hxs : EvS S xs.toList vs) (hc' : tabLook calT f = some j)
    (hcon : ∀ (S' : St) e a w, Holds C S' e a w → (∀ q ∈ rb, S'.res q = S.res q) → Calls Try.prog j (vs.map (·.den e)).toArray w (RetB w T1 s1 n1 xs1 T2 s2 n2 xs2 (fun v1 v2 => #[v1, v2]) u)) (hq : Nat.beq q1 q2 = false) :
    OpG C Try.prog ops o S ⟨xs.toList.flatMap opT, rb, dw o.dst (.tup [.row (.l [.v q1, .v q2]), .c u]), [(q1, some (.own q1 T1 s1 n1 xs1)), (q2, some (.own q2 T2 s2 n2 xs2))], [q1, q2]⟩ := by
  have hq : q1 ≠ q2 := by intro h; subst h; simp at hq
  refine opG_mk hg fun S' h1 h2 h3 e a w hS => ?_
  unfold Oper.wp
  rw [call_hop ho hxs hc' h1 hS]
  refine Calls.mono (hcon S' e a w hS h2) ?_
  rintro r w' ⟨v1, v2, rfl, o1, o2, hne, hb⟩
  have hH := hS.rename (h3 q2 (by simp)) ⟨0, 0, v2⟩
  have e1 : ((e.set q2 ⟨0, 0, v2⟩).set q1 ⟨0, 0, v1⟩ q1).v = v1 := by rw [Env.set_self]
  have e2 : ((e.set q2 ⟨0, 0, v2⟩).set q1 ⟨0, 0, v1⟩ q2).v = v2 := by rw [Env.set_ne _ _ (Ne.symm hq), Env.set_self]
  have low : ∀ {T s n : Nat} {v : Value} {xs : List Value}, w'.ownsRow w.heap.size T s v n xs → w'.ownsRow 0 T s v n xs := fun h => by
    refine ⟨h.1, ?_⟩
    rcases h.2 with h | ⟨g, cap, cur, h1, _, h⟩
    · exact .inl h
    · exact .inr ⟨g, cap, cur, h1, Nat.zero_le _, h⟩
  have high : ∀ {T s n : Nat} {v : Value} {xs : List Value}, w'.ownsRow w.heap.size T s v n xs → ∀ b, v.ownBlock = some b → w.heap.size ≤ b := fun h b hb => by
    rcases h.2 with h | ⟨g, cap, cur, h1, h2, _⟩
    · rw [h.1] at hb; cases hb
    · rw [h1] at hb
      obtain rfl : g = b := Option.some.inj hb
      exact h2
  have hC := hH.chg (w' := w') [(q1, .own q1 T1 s1 n1 xs1), (q2, .own q2 T2 s2 n2 xs2)] [] (h3 q1 (by simp)) ⟨0, 0, v1⟩ hb.os hb.tape hb.output hb.size (fun q hk => by cases hk) (fun x hx _ => hb.block x hx) (fun p hp => by
    simp only [List.mem_cons, List.not_mem_nil, or_false] at hp
    rcases hp with rfl | rfl
    · show w'.ownsRow 0 T1 s1 _ n1 xs1
      rw [e1]; exact low o1
    · show w'.ownsRow 0 T2 s2 _ n2 xs2
      rw [e2]; exact low o2) (fun p hp x hx => by
    simp only [List.mem_cons, List.not_mem_nil, or_false] at hp
    right
    rcases hp with rfl | rfl
    · have hx : (_ : Value).ownBlock = some x := hx
      rw [e1] at hx; exact high o1 x hx
    · have hx : (_ : Value).ownBlock = some x := hx
      rw [e2] at hx; exact high o2 x hx) (fun p hp q hq' hpq x hx hx' => by
    simp only [List.mem_cons, List.not_mem_nil, or_false] at hp hq'
    rcases hp with rfl | rfl <;> rcases hq' with rfl | rfl
    · exact hpq rfl
    · have hx : (_ : Value).ownBlock = some x := hx
      have hx' : (_ : Value).ownBlock = some x := hx'
      rw [e1] at hx
      rw [e2] at hx'
      exact hne x hx hx'
    · have hx : (_ : Value).ownBlock = some x := hx
      have hx' : (_ : Value).ownBlock = some x := hx'
      rw [e2] at hx
      rw [e1] at hx'
      exact hne x hx' hx
    · exact hpq rfl)
  refine ⟨(e.set q2 ⟨0, 0, v2⟩).set q1 ⟨0, 0, v1⟩, ?_⟩
  have := hC.put hd (.tup [.row (.l [.v q1, .v q2]), .c u])
  have hden : (SV.tup [.row (.l [.v q1, .v q2]), .c u]).den ((e.set q2 ⟨0, 0, v2⟩).set q1 ⟨0, 0, v1⟩) = .tuple #[.agg #[v1, v2], u] := by
    show Value.tuple #[.agg #[((e.set q2 ⟨0, 0, v2⟩).set q1 ⟨0, 0, v1⟩ q1).v, ((e.set q2 ⟨0, 0, v2⟩).set q1 ⟨0, 0, v1⟩ q2).v], u] = _
    rw [e1, e2]
  rw [hden] at this
  exact this
/-- A node of a tree. -/
structure NodeS where
  lo : P3
  hi : P3
  left : Int
  right : Int
  first : Int
  count : Int
def nodeC (n : NodeS) : List Value := n.lo.c.toList ++ (n.hi.c.toList ++ [.int .i64 n.left, .int .i64 n.right, .int .i64 n.first, .int .i64 n.count])
def nodesC (N : List NodeS) : List Value := N.flatMap nodeC
theorem nodeC_length (n : NodeS) : (nodeC n).length = 10 := rfl
theorem nodes_len (N : List NodeS) : (nodesC N).length = N.length * 10 := flat_length N fun n _ => nodeC_length n
def ordC (K : List Nat) : List Value := K.map fun k => .int .i64 ((k : Nat) : Int)
/-- A walk: its tree, its triangles, its steps. -/
structure WkS where
  N : List NodeS
  K : List Nat
  l : List TriS
  n : Nat
section
variable {C : Ctx} {ops : Array Oper} {S : St} {o : Oper}
theorem walk1_callB {l : List Oper} {t : List (Nat × SV)} {h : List (Nat × Option Res)} {d : Nat} {f : FuncId} {xs : Array Operand} {ats : Array TypeId} {vs : List SV} {rb : List Nat} {j T1 s1 n1 T2 s2 n2 : Nat} {xs1 xs2 : List Value} {u : Value} {K : St → Prop} (q1 q2 : Nat) (ho : o.op = .call { callee := .value (.func f), args := xs, argTypes := ats }) (hdn : o.dst = some d) (hg : o.guard = none) (hd : dstB o.dst C.nt = true) (hxs : EvS ⟨t, h⟩ xs.toList vs) (hc' : tabLook calT f = some j) (hq : Nat.beq q1 q2 = false) (hf : (freshB ⟨t, h⟩ q1 && freshB ⟨t, h⟩ q2) = true)
    (hcon : ∀ (S' : St) e a w, Holds C S' e a w → (∀ q ∈ rb, S'.res q = (St.mk t h).res q) → Calls Try.prog j (vs.map (·.den e)).toArray w (RetB w T1 s1 n1 xs1 T2 s2 n2 xs2 (fun v1 v2 => #[v1, v2]) u))
    (hK : Walk1 C Try.prog ops l ⟨(d, .tup [.row (.l [.v q1, .v q2]), .c u]) :: t, (q1, some (.own q1 T1 s1 n1 xs1)) :: (q2, some (.own q2 T2 s2 n2 xs2)) :: h⟩ K) : Walk1 C Try.prog ops (o :: l) ⟨t, h⟩ K := by
  have := op_callB (C := C) (ops := ops) ho hg hd hxs hc' hcon hq
  rw [hdn] at this
  rw [Bool.and_eq_true] at hf
  exact ⟨_, this, by simp [hf.1, hf.2], hK⟩
end
theorem tris_oneC (l : List TriS) (hok : ∀ t ∈ l, t.ok) : ∀ u ∈ trisC l, u.oneCell' = true := fun u hu => by
  obtain ⟨t, ht, hu⟩ := List.mem_flatMap.1 hu
  rw [triC, List.mem_append, List.mem_append] at hu
  rcases hu with h | h | h
  · simp [P9] at h
    rcases h with h | h | h | h | h | h | h | h | h <;> subst h <;> rfl
  · exact (hok t ht).2 u h
  · simp at h; subst h; rfl
attribute [local irreducible] Calls Walk1 WalkTo Tri EndA
end Go.Proofs.Ytcgmapioelfneaa
namespace Go.Proofs.Ytcgmapioelfneaa
open Go.RowKit
set_option maxRecDepth 100000
set_option maxHeartbeats 1000000
variable {C : Ctx} {ops : Array Oper} {S : St} {o : Oper}
theorem own_cutR {w : World} {base T sz len m : Nat} {xs : List Value} {v : Value} (h : w.ownsRow base T sz v len xs) (hm : m ≤ len) : w.ownsRow base T sz (cutV v 0 m) m (xs.take (m * sz)) ∧ (cutV v 0 m).ownBlock = v.ownBlock := by
  obtain ⟨h1, h2⟩ := h
  have hms := Nat.mul_le_mul_right sz hm
  rcases h2 with ⟨h3, h4⟩ | ⟨g, cap, cur, h3, h4, h5, h6, h7, h8, h9⟩
  · subst h3
    obtain rfl : m = 0 := by omega
    exact ⟨⟨by simp, .inl ⟨rfl, rfl⟩⟩, rfl⟩
  · subst h3
    have hv : cutV (.slice (some ⟨g, 0, none⟩) len cap) 0 m = .slice (some ⟨g, 0, none⟩) m cap := by
      show Value.slice (if cap = 0 then some ⟨g, 0, none⟩ else (some ⟨g, 0, none⟩ : Option Addr).map (·.add 0)) m (cap - 0) = _
      split <;> simp [Addr.add]
    rw [hv]
    refine ⟨⟨by rw [List.length_take]; omega, .inr ⟨g, cap, cur, rfl, h4, h5, by omega, h7, h8, ?_⟩⟩, rfl⟩
    rw [← h9, List.take_take, Nat.min_eq_left hms]
theorem ent_cutR {t : List (Nat × SV)} {h : List (Nat × Option Res)} {i n m len sz : Nat} {T : TypeId} {xs : List Value} (q : Nat) (hv : look t i = some (.sub n 0 m)) (hr : (St.mk t h).res n = some (.own n T sz len xs)) (hm : m ≤ len) (hnq : Nat.beq n q = false) (hf : freshB ⟨t, h⟩ q = true) :
    Ents C ⟨t, h⟩ ⟨(i, .v q) :: t, (n, none) :: (q, some (.own q T sz m (xs.take (m * sz)))) :: h⟩ := fun e a w hS => by
  have hok : w.ownsRow 0 T sz (e n).v len xs := hS.res n _ hr
  obtain ⟨h1, h2⟩ := own_cutR hok hm
  have hne : n ≠ q := fun he => by subst he; simp at hnq
  have hH := hS.own (m := n) (n := q) hne (freshB_spec hf) (.inr ⟨_, _, _, _, hr, rfl⟩) ⟨rfl, rfl, rfl, Nat.le_refl _, fun _ _ _ => rfl⟩ h1 (fun b hb => .inl (h2 ▸ hb))
  refine ⟨_, hH.defers, hH.size, fun j v hj => ?_, hH.res, hH.mine, hH.sep, hH.frame⟩
  have hj2 : look ((i, SV.v q) :: t) j = some v := hj
  rw [look_cons] at hj2
  by_cases e0 : i = j
  · rw [if_pos e0] at hj2
    have hj3 : SV.v q = v := by simpa using hj2
    subst hj3
    subst e0
    show a.tmps[i]? = some ((e.set q ⟨0, 0, cutV (e n).v 0 m⟩) q).v
    rw [Env.set_self]
    exact hS.tmp i _ hv
  · rw [if_neg e0] at hj2
    exact hH.tmp j v hj2
theorem op_cutV0 {t T : TypeId} {x : Operand} {n hi sz len : Nat} {T0 : TypeId} {xs : List Value} {oh : Option Operand} (ho : o.op = .slice t x none oh none) (hg : o.guard = none) (hd : dstB o.dst C.nt = true) (hx : S.ev x = some (.v n)) (hr : S.res n = some (.own n T0 sz len xs)) (hu' : tabLook undT t = some (.slice T)) (hs' : tabLook sizT T = some sz) (hh : EvO S oh len hi) (h2 : hi ≤ len) :
    OpG C Try.prog ops o S ⟨opT x ++ (opO none ++ opO oh), [n], dw o.dst (.sub n 0 hi), [], []⟩ := by
  refine op_cut (sz := sz) ho hg hd hx hu' hs' evO_none hh (Nat.zero_le _) (fun S' e a w hq hS => ?_) rfl
  have hok : w.ownsRow 0 T0 sz (e n).v len xs := hS.res n _ ((hq n (by simp)).trans hr)
  rcases hok.2 with ⟨h3, h4⟩ | ⟨g, cap, cur, h3, _, _, h5, _⟩
  · refine ⟨none, 0, by rw [show (SV.v n).den e = (e n).v from rfl, h3, h4], by omega, ?_⟩
    show cutV (e n).v 0 hi = _
    rw [h3]; simp [cutV]
  · refine ⟨some ⟨g, 0, none⟩, cap, h3, by omega, ?_⟩
    show cutV (e n).v 0 hi = _
    rw [h3]; simp [cutV]
/-- A part of an own slice of numbers, read. -/
theorem rdn_subG {n : Nat} {T : TypeId} {len lo cnt : Nat} {xs : List Value} (hr : S.res n = some (.own n T 1 len xs)) (hc : lo + cnt ≤ len) : RdN C S [n] 1 (.sub n lo cnt) cnt ((xs.drop lo).take cnt) := by
  intro S' e a w h hS
  have hok : w.ownsRow 0 T 1 (e n).v len xs := hS.res n _ ((h n (by simp)).trans hr)
  refine ⟨by rw [List.length_take, List.length_drop, hok.1]; omega, ?_⟩
  show ∃ a c, cutV (e n).v lo cnt = .slice a cnt c ∧ _
  rcases hok.2 with ⟨h1, h2⟩ | ⟨g, cap, cur, h1, _, h3, _, _, _, h4⟩
  · rw [h1]; exact ⟨_, _, rfl, .inl (by omega)⟩
  · rw [h1]
    refine ⟨_, _, rfl, ?_⟩
    by_cases hcl : cap = lo
    · left; omega
    · right
      refine ⟨g, lo, by rw [if_neg hcl]; simp [add_place], fun j u hu => ?_⟩
      rw [List.getElem?_take] at hu
      split at hu
      · rw [List.getElem?_drop] at hu
        have := hok.cells (g := g) (by rw [h1]; rfl) (lo + j) u hu
        rwa [add_place, Nat.zero_add] at this
      · cases hu
/-- What an own slice holds has been changed where it lies. -/
theorem Holds.ownChg {e : Env} {a : Act} {w w' : World} (hS : Holds C S e a w) {n T sz len g : Nat} {xs ys : List Value} (hr : S.res n = some (.own n T sz len xs)) (hg : (e n).v.ownBlock = some g) (hx : BelowX w w' [g]) (hok : w'.ownsRow 0 T sz (e n).v len ys) : Holds C ⟨S.t, (n, some (.own n T sz len ys)) :: S.h⟩ e a w' := by
  have hmine : ∀ b, (e n).v.ownBlock = some b → C.mine b := fun b hb => hS.mine n _ hr rfl b hb
  refine ⟨hS.defers, hS.size, hS.tmp, fun m r h => ?_, fun m r h hw b hb => ?_, fun m k r r' h h' hne hw b hb => ?_, ⟨hx.os.trans hS.frame.os, hx.tape.trans hS.frame.tape, hx.output.trans hS.frame.output, Nat.le_trans hS.frame.size hx.size, fun k hk hkm => ?_⟩⟩
  · rw [St.res_cons] at h
    split at h
    · cases h; exact hok
    · rename_i hne
      refine r.loc e w w' (fun b hfb => hx.block b (r.lt e w b (hS.res m r h) hfb) fun he => ?_) (hS.res m r h)
      have he : b = g := by simpa using he
      subst he
      exact hS.sep n m _ r hr h hne rfl b hg hfb
  · rw [St.res_cons] at h
    split at h
    · cases h; exact hmine b hb
    · exact hS.mine m r h hw b hb
  · rw [St.res_cons] at h h'
    split at h
    · rename_i h1; cases h; subst h1
      split at h'
      · rename_i h2; exact absurd h2 hne
      · exact hS.sep n k _ r' hr h' hne rfl b hb
    · split at h'
      · rename_i h2; cases h'; subst h2
        exact hS.sep m n r _ h hr hne hw b hb
      · exact hS.sep m k r r' h h' hne hw b hb
  · refine (hx.block k (Nat.lt_of_lt_of_le hk hS.frame.size) fun he => ?_).trans (hS.frame.block k hk hkm)
    have he : k = g := by simpa using he
    subst he
    rcases hmine k hg with h | h
    · omega
    · exact hkm h
theorem take_mid {α : Type} (L B : List α) (off m k : Nat) (hB : B.length = m) (h : off + m ≤ k) (hk : k ≤ L.length) : (L.take off ++ B ++ L.drop (off + m)).take k = (L.take k).take off ++ B ++ (L.take k).drop (off + m) := by
  have l1 : (L.take off ++ B).length = off + m := by rw [List.length_append, List.length_take, hB]; omega
  rw [List.take_append, List.take_of_length_le (by omega), l1, List.take_take, Nat.min_eq_left (by omega), List.drop_take]
/-- A row written into an own slice of rows. -/
theorem op_storesU {ty : TypeId} {x y : Operand} {n off sz len m : Nat} {T : TypeId} {xs ys : List Value} {B : Array Value} (ho : o.op = .store ty x y) (hg : o.guard = none) (hdst : o.dst = none) (hx : S.ev x = some (.vp n off)) (hy : S.ev y = some (.c (.agg B))) (hr : S.res n = some (.own n T sz len xs))
    (hi' : tabLook sizT ty = some m) (hB : B.size = m) (h1c : B.all (·.oneCell') = true) (hoff : off + m ≤ len * sz) (h0 : 0 < len) (hys : xs.take off ++ B.toList ++ xs.drop (off + m) = ys) :
    OpG C Try.prog ops o S ⟨opT x ++ opT y, [n], [], [(n, some (.own n T sz len ys))], []⟩ := by
  have hi := tabAll_look sizT_ok hi'
  subst hys
  refine opG_mk hg fun S' h1 h2 h3 e a w hS => ?_
  have hr' := (h2 n (by simp)).trans hr
  have hok : w.ownsRow 0 T sz (e n).v len xs := hS.res n _ hr'
  have hxl : xs.length = len * sz := hok.1
  rcases hok.2 with ⟨_, h0'⟩ | ⟨g, cap, cur, hev, _, hb, hnc, hcm, hcs, htk⟩
  · omega
  have hmul := Nat.mul_le_mul_right sz hnc
  have hevx : a.eval x = .pointer (some ⟨g, off, none⟩) := by
    rw [hS.ev ((ev_like h1 fun _ h => List.mem_append_left _ h).trans hx)]
    show (match (e n).v with | .slice (some a) _ _ => Value.pointer (some ⟨a.block, off, none⟩) | _ => undef) = _
    rw [hev]
  have hevy : a.eval y = .agg B := hS.ev ((ev_like h1 fun _ h => List.mem_append_right _ h).trans hy)
  have hBl : B.toList.length = m := by simpa using hB
  have hst := run_storeCells_at Try.prog g off T B.toList 0 cur w hb (by simp only [Array.length_toList]; omega) (fun u hu => Array.all_eq_true_iff_forall_mem.1 h1c u (by simpa using hu))
  rw [Nat.add_zero, hBl] at hst
  have hsz : (cur.toList.take off ++ B.toList ++ cur.toList.drop (off + m)).length = cur.size := by
    simp only [List.length_append, List.length_take, List.length_drop, Array.length_toList, hB]; omega
  generalize hnc2 : (cur.toList.take off ++ B.toList ++ cur.toList.drop (off + m)).toArray = cur2 at hst
  have hc2 : cur2.toList = cur.toList.take off ++ B.toList ++ cur.toList.drop (off + m) := by rw [← hnc2]
  have hg0 : (e n).v.ownBlock = some g := by rw [hev]; rfl
  have hnew : (w.setRow g cur2).ownsRow 0 T sz (e n).v len (xs.take off ++ B.toList ++ xs.drop (off + m)) := by
    refine ⟨by simp only [List.length_append, List.length_take, List.length_drop, Array.length_toList, hB]; omega, .inr ⟨g, cap, cur2, hev, Nat.zero_le _, setRow_heap w g cur _ T (0, 0) hb, hnc, hcm, ?_, ?_⟩⟩
    · rw [← Array.length_toList, hc2, hsz]; exact hcs
    · rw [hc2, ← htk]
      exact take_mid _ _ _ _ _ hBl hoff (by rw [Array.length_toList]; omega)
  refine wp_skip' (w' := w.setRow g cur2) ?_ ⟨e, ?_⟩
  · cases hq : Try.prog.info? ty with
    | none => simp [hq] at hi
    | some i =>
      have hs : i.size = m := by simpa [hq] using hi
      have hcs : (Value.agg B).cells = B := rfl
      simp only [execOp, ho, hevx, hevy, Instr.storeAt, Instr.sureAddr, storeVar, sizeOf, typeInfo, Sem.run_bind, Sem.run_pure, Result.andThen_ok, hcs]
      simp [hq, hs, hB, hst]
  · rw [hdst]
    exact hS.ownChg hr' hg0 ⟨rfl, rfl, rfl, by simp [World.setRow], fun k hk hkm => setRow_other w g k _ (by simpa using hkm)⟩ hnew
end Go.Proofs.Ytcgmapioelfneaa
namespace Go.Proofs.Ytcgmapioelfneaa
open Go.RowKit
set_option maxRecDepth 100000
set_option maxHeartbeats 1000000
variable {C : Ctx} {ops : Array Oper} {S : St} {o : Oper}
theorem op_callSub {f : FuncId} {xs : Array Operand} {ats : Array TypeId} {j q T len lo cnt : Nat} {K ks' : List Nat} {v : Value} {vs1 vs2 : List SV} (ho : o.op = .call { callee := .value (.func f), args := xs, argTypes := ats }) (hg : o.guard = none) (hd : dstB o.dst C.nt = true) (hxs : EvS S xs.toList (vs1 ++ SV.sub q lo cnt :: vs2)) (hc' : tabLook calT f = some j)
    (hr : S.res q = some (.own q T 1 len (K.map intV))) (hlen : lo + cnt ≤ len) (h0 : 0 < cnt) (hks : ks'.length = cnt)
    (hcon : ∀ (S' : St) e a w, Holds C S' e a w → ∀ b cap pre post, C.mine b → pre.length = lo → Blk w b (segA pre post ((K.drop lo).take cnt)) T → Calls Try.prog j (vs1.map (·.den e) ++ Value.slice (some ⟨b, pre.length, none⟩) cnt cap :: vs2.map (·.den e)).toArray w (RetP w b T (segA pre post ks') v)) :
    OpG C Try.prog ops o S ⟨xs.toList.flatMap opT, [q], dw o.dst (.c v), [(q, some (.own q T 1 len ((K.take lo ++ (ks' ++ K.drop (lo + cnt))).map intV)))], []⟩ := by
  refine opG_mk hg fun S' h1 h2 h3 e a w hS => ?_
  unfold Oper.wp
  have hr' := (h2 q (by simp)).trans hr
  have hok : w.ownsRow 0 T 1 (e q).v len (K.map intV) := hS.res q _ hr'
  have hKl : K.length = len := by have := hok.1; rw [List.length_map, Nat.mul_one] at this; exact this
  rcases hok.2 with ⟨_, h0'⟩ | ⟨g, cap, cur, hev, _, hb, hnc, hcm, hcs, htk⟩
  · omega
  have hg0 : (e q).v.ownBlock = some g := by rw [hev]; rfl
  have hmine : C.mine g := hS.mine q _ hr' rfl g hg0
  rw [Nat.mul_one] at hcs htk
  obtain ⟨pre, hpre⟩ : ∃ p, p = (K.take lo).map intV := ⟨_, rfl⟩
  obtain ⟨post, hpost⟩ : ∃ p, p = (K.drop (lo + cnt)).map intV ++ cur.toList.drop len := ⟨_, rfl⟩
  have hpl : pre.length = lo := by rw [hpre, List.length_map, List.length_take]; omega
  have hK : K.take lo ++ ((K.drop lo).take cnt ++ K.drop (lo + cnt)) = K := by rw [← List.drop_drop, List.take_append_drop, List.take_append_drop]
  have hcur : cur = segA pre post ((K.drop lo).take cnt) := by
    apply Array.ext'
    have e1 : cur.toList = cur.toList.take len ++ cur.toList.drop len := (List.take_append_drop _ _).symm
    rw [e1, htk]
    conv => lhs; rw [← hK]
    simp [segA, hpre, hpost]
  have hB : Blk w g (segA pre post ((K.drop lo).take cnt)) T := by rw [← hcur]; exact hb
  have hden : (SV.sub q lo cnt).den e = .slice (some ⟨g, pre.length, none⟩) cnt (cap - lo) := by
    show cutV (e q).v lo cnt = _
    rw [hev]
    show Value.slice (if cap = lo then _ else _) cnt (cap - lo) = _
    rw [if_neg (by omega), hpl]
    simp [add_place]
  have hargs : ((vs1 ++ SV.sub q lo cnt :: vs2).map (·.den e)).toArray = (vs1.map (·.den e) ++ Value.slice (some ⟨g, pre.length, none⟩) cnt (cap - lo) :: vs2.map (·.den e)).toArray := by
    rw [List.map_append, List.map_cons, hden]
  rw [call_hop ho hxs hc' h1 hS, hargs]
  refine Calls.mono (hcon S' e a w hS g (cap - lo) pre post hmine hpl hB) ?_
  rintro r w' ⟨rfl, hb2, hx⟩
  have hnew : w'.ownsRow 0 T 1 (e q).v len ((K.take lo ++ (ks' ++ K.drop (lo + cnt))).map intV) := by
    refine ⟨by simp only [List.length_map, List.length_append, List.length_take, List.length_drop, hks]; omega, .inr ⟨g, cap, _, hev, Nat.zero_le _, hb2, hnc, hcm, ?_, ?_⟩⟩
    · rw [segA_size, hpl, hpost, hks]
      simp only [List.length_append, List.length_map, List.length_drop, Array.length_toList]
      omega
    · rw [Nat.mul_one]
      have e1 : (segA pre post ks').toList = (K.take lo ++ (ks' ++ K.drop (lo + cnt))).map intV ++ cur.toList.drop len := by simp [segA, hpre, hpost]
      rw [e1, List.take_append_of_le_length (by simp only [List.length_map, List.length_append, List.length_take, List.length_drop, hks]; omega), List.take_of_length_le (by simp only [List.length_map, List.length_append, List.length_take, List.length_drop, hks]; omega)]
  exact ⟨e, (hS.ownChg hr' hg0 hx hnew).put hd (.c v)⟩
theorem op_bsliceQ {t T n sz : Nat} {parts : Array (Nat × Operand)} {x0 x1 : Operand} {A0 A1 : Array Value} {Z : Array Value} (ho : o.op = .buildSlice t 2 parts) (hp : parts = #[(0, x0), (1, x1)]) (hdn : o.dst = some n) (hg : o.guard = none) (hd : dstB o.dst C.nt = true)
    (h0 : S.ev x0 = some (.c (.agg A0))) (h1 : S.ev x1 = some (.c (.agg A1))) (hu' : tabLook undT t = some (.slice T)) (hs' : tabLook sizT T = some sz) (hz' : tabLook zerT T = some Z) (hsz : (decide (0 < sz) && decide (sz < 1000)) = true)
    (hf : Instr.fill (fun i => some (i * sz, sz)) ((Array.range (2 * sz)).map fun x => Z[x % Z.size]!) [(0, .agg A0), (1, .agg A1)] = some (A0 ++ A1)) :
    OpG C Try.prog ops o S ⟨[x0, x1].flatMap opT, [], [(n, .s n 0 2 2)], [(n, some (.blk n T (.c (A0 ++ A1))))], [n]⟩ := by
  refine opG_mk hg fun S' g1 g2 g3 e a w hS => ?_
  simp only [Bool.and_eq_true, decide_eq_true_eq] at hsz
  have hN := hS.newBlk (g3 n (by simp)) T (.c (A0 ++ A1)) (by simp [SA.c])
  have e0 : a.eval x0 = .agg A0 := hS.ev ((ev_like g1 fun _ h => List.mem_flatMap.2 ⟨x0, by simp, h⟩).trans h0)
  have e1 : a.eval x1 = .agg A1 := hS.ev ((ev_like g1 fun _ h => List.mem_flatMap.2 ⟨x1, by simp, h⟩).trans h1)
  have hu := tabAll_look undT_ok hu'
  have hz := tabAll_look zerT_ok hz'
  obtain ⟨zv, hz3, hzc⟩ : ∃ zv, (zeroValue T).run Try.prog w = .ok zv w ∧ zv.cells = Z := by
    cases hb : (Try.prog.info? T) with
    | none => simp [hb] at hz
    | some i =>
      cases hc : i.zero with
      | none => simp [hb, hc] at hz
      | some zz => exact ⟨zz, by simp [zeroValue, typeInfo, hb, hc], by simpa [hb, hc] using hz⟩
  refine wp_value (v := .slice (some ⟨w.heap.size, 0, none⟩) 2 2) (w' := w.alloc (.cells (A0 ++ A1) T)) ?_ ⟨e.set n ⟨w.heap.size, 0, undef⟩, ?_⟩
  · simp only [execOp, ho, hp, Instr.buildSlice, Sem.run_bind, run_underlying hu w, Result.andThen_ok, run_sizeT hs' w, Sem.run_ite]
    rw [if_neg (by omega), if_neg (by omega)]
    simp only [Sem.run_bind, hz3, Result.andThen_ok, Sem.run_pure, hzc, List.map_toArray, List.map_cons, List.map_nil, e0, e1, hf]
    simp [newRow]
  · rw [hdn]
    have hd' : dstB (some n) C.nt = true := by rw [← hdn]; exact hd
    have := hN.put hd' (.s n 0 2 2)
    simp only [SV.s, Env.set_self] at this
    exact this
end Go.Proofs.Ytcgmapioelfneaa
namespace Go.Proofs.Ytcgmapioelfneaa
open Go.RowKit
set_option maxRecDepth 100000
set_option maxHeartbeats 1000000
theorem idxL_in (c : Nat → Bool) : ∀ (ks : List Nat) (i : Nat), idxL c ks i = -1 ∨ ((i : Int) ≤ idxL c ks i ∧ idxL c ks i < ((i + ks.length : Nat) : Int))
  | [], _ => .inl rfl
  | x :: t, i => by
    rw [idxL]
    split
    · right; rw [List.length_cons]; omega
    · rcases idxL_in c t (i + 1) with h | h
      · exact .inl h
      · right; rw [List.length_cons]; omega
theorem partL_lt (l : List TriS) (ks : List Nat) (d : Nat) : (partL l ks d).2.length = ks.length ∧ (∀ x, x ∈ (partL l ks d).2 ↔ x ∈ ks) ∧ (partL l ks d).2.Perm ks ∧ (0 < (partL l ks d).1 → (partL l ks d).1 < (ks.length : Int)) := by
  rw [partL_eq l ks d rfl rfl rfl rfl]
  split
  · exact ⟨rfl, fun x => Iff.rfl, List.Perm.refl _, fun h => absurd h (Int.lt_irrefl 0)⟩
  · split
    · exact ⟨rfl, fun x => Iff.rfl, List.Perm.refl _, fun h => absurd h (Int.lt_irrefl 0)⟩
    · split
      · refine ⟨sortK_len _, fun x => sortK_mem, (sortK_ok _).2.perm, fun _ => ?_⟩
        dsimp only
        omega
      · refine ⟨sortK_len _, fun x => sortK_mem, (sortK_ok _).2.perm, fun h => ?_⟩
        dsimp only at h ⊢
        rcases idxL_in (rgL l (axN (boxP (msL l ks)).1 (boxP (msL l ks)).2 2) (axP (boxP (msL l ks)).1 (axN (boxP (msL l ks)).1 (boxP (msL l ks)).2 2)) (axP (boxP (msL l ks)).2 (axN (boxP (msL l ks)).1 (boxP (msL l ks)).2 2)) ((cutL l ks (axN (boxP (msL l ks)).1 (boxP (msL l ks)).2 2) (axP (boxP (msL l ks)).1 (axN (boxP (msL l ks)).1 (boxP (msL l ks)).2 2)) (axP (boxP (msL l ks)).2 (axN (boxP (msL l ks)).1 (boxP (msL l ks)).2 2)) : Nat) : Int)) _ 0 with h2 | h2
        · rw [h2] at h; exact absurd h (by decide)
        · have := h2.2
          rw [sortK_len, Nat.zero_add] at this
          exact this
/-- A node that is still to be parted. -/
structure TodoS where
  node : Nat
  first : Nat
  count : Nat
  deep : Nat
def todoC (t : TodoS) : List Value := [.int .i64 ((t.node : Nat) : Int), .int .i64 ((t.first : Nat) : Int), .int .i64 ((t.count : Nat) : Int), .int .i64 ((t.deep : Nat) : Int)]
def todosC (S : List TodoS) : List Value := S.flatMap todoC
structure BSt where
  N : List NodeS
  K : List Nat
  S : List TodoS
def zN : NodeS := ⟨zP, zP, 0, 0, 0, 0⟩
def partK (l : List TriS) (K : List Nat) (t : TodoS) : Int × List Nat := partL l ((K.drop t.first).take t.count) t.deep
def boxK (l : List TriS) (K : List Nat) (t : TodoS) : P3 × P3 := bbN l ((K.drop t.first).take t.count) t.count
/-- One node parted, or made a leaf. -/
def stepQ (l : List TriS) (N : List NodeS) (K : List Nat) (S : List TodoS) (t : TodoS) : BSt :=
  if 0 < (partK l K t).1 then
    ⟨(N ++ [zN, zN]).set t.node ⟨(boxK l K t).1, (boxK l K t).2, ((N.length : Nat) : Int), ((N.length + 1 : Nat) : Int), 0, 0⟩, K.take t.first ++ ((partK l K t).2 ++ K.drop (t.first + t.count)),
      S ++ [⟨N.length + 1, t.first + (partK l K t).1.toNat, t.count - (partK l K t).1.toNat, t.deep + 1⟩, ⟨N.length, t.first, (partK l K t).1.toNat, t.deep + 1⟩]⟩
  else ⟨N.set t.node ⟨(boxK l K t).1, (boxK l K t).2, -1, -1, ((t.first : Nat) : Int), ((t.count : Nat) : Int)⟩, K.take t.first ++ ((partK l K t).2 ++ K.drop (t.first + t.count)), S⟩
def stepB (l : List TriS) (s : BSt) : BSt := match s.S.getLast? with
  | none => s
  | some t => stepQ l s.N s.K s.S.dropLast t
theorem stepB_snoc (l : List TriS) (N : List NodeS) (K : List Nat) (S : List TodoS) (t : TodoS) : stepB l ⟨N, K, S ++ [t]⟩ = stepQ l N K S t := by
  unfold stepB
  simp
def runB (l : List TriS) : Nat → BSt → BSt
  | 0, s => s
  | f + 1, s => if s.S.isEmpty then s else runB l f (stepB l s)
theorem runB_end (l : List TriS) (f : Nat) (N : List NodeS) (K : List Nat) : runB l f ⟨N, K, []⟩ = ⟨N, K, []⟩ := by
  cases f <;> rfl
theorem runB_step (l : List TriS) (f : Nat) (N : List NodeS) (K : List Nat) (S : List TodoS) (t : TodoS) : runB l (f + 1) ⟨N, K, S ++ [t]⟩ = runB l f (stepQ l N K S t) := by
  rw [runB, stepB_snoc, if_neg (by simp)]
def muS (S : List TodoS) : Nat := (S.map fun t => 2 * t.count - 1).sum
theorem muS_app (S S' : List TodoS) : muS (S ++ S') = muS S + muS S' := by simp [muS]
structure GoodB (l : List TriS) (n : Nat) (s : BSt) : Prop where
  len : s.K.length = n
  dom : ∀ k ∈ s.K, k < l.length
  todo : ∀ t ∈ s.S, t.node < s.N.length ∧ 1 ≤ t.count ∧ t.first + t.count ≤ n ∧ t.deep + t.count ≤ n + 1
  size : s.N.length + 2 * muS s.S ≤ 4 * n
theorem muS_len : ∀ (S : List TodoS), (∀ t ∈ S, 1 ≤ t.count) → S.length ≤ muS S
  | [], _ => Nat.zero_le _
  | t :: S, h => by
    have h1 := muS_len S fun x hx => h x (List.mem_cons_of_mem _ hx)
    have h2 := h t (by simp)
    have : muS (t :: S) = (2 * t.count - 1) + muS S := by simp [muS]
    rw [this, List.length_cons]
    omega
theorem good_step {l : List TriS} {n : Nat} {N : List NodeS} {K : List Nat} {S : List TodoS} {t : TodoS} (h : GoodB l n ⟨N, K, S ++ [t]⟩) : GoodB l n (stepQ l N K S t) ∧ muS (stepQ l N K S t).S < muS (S ++ [t]) := by
  obtain ⟨h1, h2, h3, h4⟩ := h
  dsimp only at h1 h2 h3 h4
  obtain ⟨t1, t2, t3, t4⟩ := h3 t (by simp)
  have hS : ∀ x ∈ S, x.node < N.length ∧ 1 ≤ x.count ∧ x.first + x.count ≤ n ∧ x.deep + x.count ≤ n + 1 := fun x hx => h3 x (by simp [hx])
  have hol : ((K.drop t.first).take t.count).length = t.count := by simp; omega
  obtain ⟨p1, p2, _, p3⟩ := partL_lt l ((K.drop t.first).take t.count) t.deep
  rw [hol] at p1 p3
  have hKl : (K.take t.first ++ ((partK l K t).2 ++ K.drop (t.first + t.count))).length = n := by
    simp only [List.length_append, List.length_take, List.length_drop]
    unfold partK
    rw [p1]; omega
  have hKd : ∀ k ∈ K.take t.first ++ ((partK l K t).2 ++ K.drop (t.first + t.count)), k < l.length := by
    intro k hk
    simp only [List.mem_append] at hk
    rcases hk with hk | hk | hk
    · exact h2 k (List.mem_of_mem_take hk)
    · exact h2 k (List.mem_of_mem_drop (List.mem_of_mem_take ((p2 k).1 hk)))
    · exact h2 k (List.mem_of_mem_drop hk)
  rw [muS_app] at h4 ⊢
  have m1 : muS [t] = 2 * t.count - 1 := by simp [muS]
  rw [m1] at h4 ⊢
  unfold stepQ
  split
  · rename_i hp
    have p3 := p3 hp
    have hat : (partK l K t).1.toNat < t.count ∧ 0 < (partK l K t).1.toNat := by unfold partK at *; omega
    have m2 : ∀ a b : TodoS, muS [a, b] = (2 * a.count - 1) + (2 * b.count - 1) := fun a b => by simp [muS]
    refine ⟨⟨hKl, hKd, fun x hx => ?_, ?_⟩, ?_⟩
    · dsimp only at hx ⊢
      rw [List.length_set, List.length_append, List.length_cons, List.length_cons, List.length_nil]
      simp only [List.mem_append, List.mem_cons, List.not_mem_nil, or_false] at hx
      rcases hx with hx | rfl | rfl
      · have := hS x hx; omega
      · dsimp only; omega
      · dsimp only; omega
    · dsimp only
      rw [List.length_set, List.length_append, List.length_cons, List.length_cons, List.length_nil, muS_app, m2]
      dsimp only
      omega
    · dsimp only
      rw [muS_app, m2]
      dsimp only
      omega
  · refine ⟨⟨hKl, hKd, fun x hx => ?_, ?_⟩, ?_⟩
    · dsimp only at hx ⊢
      rw [List.length_set]
      exact hS x hx
    · dsimp only
      rw [List.length_set]
      omega
    · dsimp only
      omega
/-- The tree of some triangles: its nodes, its order. -/
def treeL (l : List TriS) : List NodeS × List Nat := if l.length = 0 then ([], []) else ((runB l (2 * l.length) ⟨[zN], List.range l.length, [⟨0, 0, l.length, 1⟩]⟩).N, (runB l (2 * l.length) ⟨[zN], List.range l.length, [⟨0, 0, l.length, 1⟩]⟩).K)
theorem good_start (l : List TriS) (h : 0 < l.length) : GoodB l l.length ⟨[zN], List.range l.length, [⟨0, 0, l.length, 1⟩]⟩ := by
  refine ⟨List.length_range, fun k hk => List.mem_range.1 hk, fun t ht => ?_, ?_⟩
  · simp only [List.mem_singleton] at ht
    subst ht
    simp
    omega
  · simp [muS]; omega
end Go.Proofs.Ytcgmapioelfneaa
