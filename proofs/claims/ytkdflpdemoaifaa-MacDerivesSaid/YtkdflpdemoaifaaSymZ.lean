/- A slice of slices that grows, some of them of the run's own. No condition. -/
import Derived.Test.YtkdflpdemoaifaaSymQ
import Derived.Test.YtkdflpdemoaifaaSymX
namespace Go.Proofs.Ytkdflpdemoaifaa
open Go.RowKit
set_option maxRecDepth 100000
set_option maxHeartbeats 1000000
theorem fs_row {w : World} {T size n : Nat} {xs : List Value} {p : Value} (h : w.ownsRow 0 T size p n xs) : FS w size p n xs := by
  rcases h.2 with ⟨h1, h2⟩ | ⟨g, cap, cur, h1, _, h3, h4, _, _, _⟩
  · subst h1 h2; exact ⟨⟨h.1, none, 0, rfl, .inl rfl⟩, none, 0, rfl, Nat.le_refl _⟩
  · subst h1
    refine ⟨⟨h.1, some ⟨g, 0, none⟩, cap, rfl, .inr ⟨g, 0, rfl, fun j u hu => ?_⟩⟩, _, _, rfl, h4⟩
    have := h.cells (g := g) rfl j u hu
    rwa [add_place] at this
theorem row_loc {w w' : World} {T size n : Nat} {xs : List Value} {p : Value} (h : w.ownsRow 0 T size p n xs) (hb : ∀ b, p.ownBlock = some b → w'.heap[b]? = w.heap[b]?) : w'.ownsRow 0 T size p n xs := by
  refine ⟨h.1, ?_⟩
  rcases h.2 with hn | ⟨g, cap, cur, hv, hb2, hgg, rest⟩
  · exact .inl hn
  · exact .inr ⟨g, cap, cur, hv, hb2, (hb g (by rw [hv]; rfl)).trans hgg, rest⟩
/-- An element: one that lay there, or one that is read as long as no marked block is changed. -/
def El (w0 : World) (_U c : Nat) (w : World) (p : Value) (d : List (BitVec 8)) : Prop := FSX w0 [] 1 p d.length (valsL .u8 d) ∨ ∀ w' : World, (∀ b, c.testBit b = true → w'.heap[b]? = w.heap[b]?) → FS w' 1 p d.length (valsL .u8 d)
def Els (w0 : World) (U c : Nat) (w : World) (ps : List Value) (ds : List (List (BitVec 8))) : Prop := ∀ (i : Nat) d, ds[i]? = some d → ∃ p, ps[i]? = some p ∧ El w0 U c w p d
theorem El.later {w0 : World} {U c c' : Nat} {w w' : World} {p : Value} {d : List (BitVec 8)} (h : El w0 U c w p d) (hc : ∀ b, c.testBit b = true → c'.testBit b = true) (hb : ∀ b, c.testBit b = true → w'.heap[b]? = w.heap[b]?) : El w0 U c' w' p d := by
  rcases h with h | h
  · exact .inl h
  · exact .inr fun w'' hw => h w'' fun b hb2 => (hw b (hc b hb2)).trans (hb b hb2)
/-- New bytes of a string, that are never written. -/
def Res.fz (n : Nat) (T : TypeId) (l : List (BitVec 8)) : Res where
  foot e b := b = (e n).b
  ok e w := l.length ≤ (e n).c ∧ ∃ fr, w.heap[(e n).b]? = some (.cells (vals .u8 l ++ Array.replicate ((e n).c - l.length) (.int .u8 0)) T fr)
  sup := [n]
  wr := true
  ind e e' h := by have h1 := h n (by simp); simp only [h1, and_self]
  loc e w w' h hok := by obtain ⟨h1, fr, h2⟩ := hok; exact ⟨h1, fr, (h _ rfl).trans h2⟩
  lt e w b hok hf := by
    obtain ⟨_, fr, h1⟩ := hok
    subst hf
    exact (Array.getElem?_eq_some_iff.1 h1).1
theorem fs_fz {w : World} {b c T : Nat} {l : List (BitVec 8)} {fr : Nat × Nat} (h1 : l.length ≤ c) (h : w.heap[b]? = some (.cells (vals .u8 l ++ Array.replicate (c - l.length) (.int .u8 0)) T fr)) : FS w 1 (.slice (some ⟨b, 0, none⟩) l.length c) l.length (valsL .u8 l) := by
  refine ⟨⟨by rw [valsL_length, Nat.mul_one], _, _, rfl, .inr ⟨b, 0, rfl, fun j u hu => ?_⟩⟩, _, _, rfl, h1⟩
  obtain ⟨hj, rfl⟩ := valsL_get hu
  rw [cell_of_row w _ _ _ _ _ h, Nat.zero_add, Array.getElem?_append_left (by rw [vals_size]; exact hj)]
  exact vals_get hj
/-- What name n stands for is an own slice of slices of bytes. -/
def Res.slr (n : Nat) (T U : TypeId) (ds : List (List (BitVec 8))) (w0 : World) : Res where
  foot e b := (e n).v.ownBlock = some b ∨ (e n).c.testBit b = true
  ok e w := (∃ ps, w.ownsRow 0 T 1 (e n).v ds.length ps ∧ Els w0 U (e n).c w ps ds) ∧ (∀ b, (e n).c.testBit b = true → b < w.heap.size) ∧ ∀ g, (e n).v.ownBlock = some g → (e n).c.testBit g = false
  sup := [n]
  wr := true
  ind e e' h := by have h1 := h n (by simp); simp only [h1, and_self]
  loc e w w' h hok := by
    obtain ⟨⟨ps, h1, h2⟩, h3, h4⟩ := hok
    refine ⟨⟨ps, row_loc h1 fun b hb => h b (.inl hb), fun i d hd => ?_⟩, fun b hb => ?_, h4⟩
    · obtain ⟨p, hp, hel⟩ := h2 i d hd
      exact ⟨p, hp, hel.later (fun _ h => h) fun b hb => h b (.inr hb)⟩
    · have h5 := h3 b hb
      have h6 := h b (.inr hb)
      rw [Array.getElem?_eq_getElem h5] at h6
      exact (Array.getElem?_eq_some_iff.1 h6).1
  lt e w b hok hf := by
    obtain ⟨⟨ps, h1, h2⟩, h3, h4⟩ := hok
    rcases hf with h | h
    · exact (h1.lt b h).2
    · exact h3 b h
variable {C : Ctx} {ops : Array Oper} {S : St} {o : Oper}
def bitOf (v : Value) : Nat := match v.ownBlock with | some g => 2 ^ g | none => 0
theorem bitOf_test {v : Value} {b : Nat} : (bitOf v).testBit b = true ↔ v.ownBlock = some b := by
  unfold bitOf
  cases h : v.ownBlock with
  | none => simp
  | some g => simp [Nat.testBit_two_pow]
theorem or_bit {c : Nat} {v : Value} {b : Nat} : (c ||| bitOf v).testBit b = true ↔ c.testBit b = true ∨ v.ownBlock = some b := by
  rw [Nat.testBit_or, Bool.or_eq_true, bitOf_test]
theorem cells_slice {v : Value} (h : ∃ a n c, v = .slice a n c) : v.oneCell' = true := by
  obtain ⟨a, n, c, rfl⟩ := h; rfl
/-- An own slice and one that lay there are appended. -/
theorem op_appendSl {x y : Operand} {t T U m n q a0 by_ k : Nat} {T0 : TypeId} {wr : Bool} {ds : List (List (BitVec 8))} {da dp : List (BitVec 8)} {pa : Option Addr} {pn pc : Nat} {A : Array Value} {ty : TypeId} {pos : String} {after : Array Edge} (hd : dstB (some n) C.nt = true) (hx : S.ev x = some (.v m)) (hr : S.res m = some (.slr m T U ds C.w0)) (hy : S.ev y = some (.s q 0 2 2))
    (hq : S.res q = some (.blk q T0 (.l [.v a0, .c (.slice pa pn pc)]) wr)) (ha : S.res a0 = some (.own a0 U 1 k (valsL .u8 da))) (hp : FSX C.w0 [] 1 (.slice pa pn pc) dp.length (valsL .u8 dp)) (hu' : tabLook undT t = some (.slice T)) (hs' : tabLook sizT T = some 1) (hy' : tabLook bytT T = some by_) (hz' : tabLook zerT T = some A) (hA : A.size = 1)
    (hmax : ds.length + 2 ≤ 1099511627776 ∧ (ds.length + 2) * by_ ≤ 140737488355328) (hmn : Nat.beq m n = false) (hma : Nat.beq m a0 = false) :
    OpG C Try.prog ops ⟨some n, .call { callee := .builtin .append, args := #[x, y], argTypes := #[t, t] }, ty, pos, after, none⟩ S ⟨opT x ++ opT y, [m, q, a0], [(n, .v n)], [(n, some (.slr n T U (ds ++ [da, dp]) C.w0)), (m, none), (a0, none)], [n]⟩ := by
  refine opG_mk rfl fun S' h1 h2 h3 e a w hS => ?_
  have hevx : a.eval x = (e m).v := hS.ev ((ev_like h1 fun _ h => List.mem_append_left _ h).trans hx)
  have hevy : a.eval y = .slice (some ⟨(e q).b, 0, none⟩) 2 2 := hS.ev ((ev_like h1 fun _ h => List.mem_append_right _ h).trans hy)
  have hr' := (h2 m (by simp)).trans hr
  have hq' := (h2 q (by simp)).trans hq
  have ha' := (h2 a0 (by simp)).trans ha
  have hne : m ≠ a0 := fun he => by subst he; simp at hma
  obtain ⟨⟨ps, hps, hel⟩, hlt, hbit⟩ := hS.res m _ hr'
  have hoa : w.ownsRow 0 U 1 (e a0).v k (valsL .u8 da) := hS.res a0 _ ha'
  have hk : k = da.length := by have := hoa.1; rw [valsL_length] at this; omega
  subst hk
  obtain ⟨fr, hb, _⟩ := res_blk hS hq'
  have hrd : RdV w 1 (.slice (some ⟨(e q).b, 0, none⟩) 2 2) 2 [(e a0).v, .slice pa pn pc] := by
    refine ⟨rfl, some ⟨(e q).b, 0, none⟩, 2, rfl, .inr ⟨(e q).b, 0, rfl, fun j u hu => ?_⟩⟩
    rw [cell_of_row w _ _ _ _ _ hb, Nat.zero_add]
    simpa [SA.l, SV.v, SV.c] using hu
  have hone : ∀ u ∈ [(e a0).v, Value.slice pa pn pc], u.oneCell' = true := fun u hu => by
    simp only [List.mem_cons, List.not_mem_nil, or_false] at hu
    rcases hu with rfl | rfl
    · obtain ⟨_, a1, c1, h1, _⟩ := fs_row hoa
      exact cells_slice (by
        obtain ⟨⟨_, a1, c1, h1, _⟩, _⟩ := fs_row hoa
        exact ⟨_, _, _, h1⟩)
    · rfl
  obtain ⟨v', w', hrun, hown, hg, hvb⟩ := own_fresh (t := t) (ty := ty) hu' hs' hy' hz' hA (by omega) hps hrd hone (by simp only [maxLen]; omega) hmax.2
  have hpl : ps.length = ds.length := by have := hps.1; omega
  have hsepA : ∀ b, (e a0).v.ownBlock = some b → (e m).v.ownBlock ≠ some b ∧ (e m).c.testBit b = false := fun b hb => by
    have hs := hS.sep m a0 _ _ hr' ha' hne rfl b
    refine ⟨fun h => hs (.inl h) hb, ?_⟩
    cases ht : (e m).c.testBit b with
    | false => rfl
    | true => exact absurd hb (hs (.inr ht))
  have hkeep : ∀ b, (e m).c.testBit b = true → w'.heap[b]? = w.heap[b]? := fun b hb => hg.block b (hlt b hb) fun he => by
    have := hbit b he.symm
    rw [hb] at this; cases this
  have hkeepA : ∀ b, (e a0).v.ownBlock = some b → w'.heap[b]? = w.heap[b]? := fun b hb => hg.block b (hoa.lt b hb).2 fun he => (hsepA b hb).1 he.symm
  have hn : ∀ (x : Ent), (e.set n x) n = x := fun x => Env.set_self ..
  have hH := hS.chg [(n, .slr n T U (ds ++ [da, dp]) C.w0)] [m, a0] (h3 n (by simp)) ⟨0, (e m).c ||| bitOf (e a0).v, v'⟩ hg.os hg.tape hg.output hg.size
    (fun k hk r hr2 => by
      simp only [List.mem_cons, List.not_mem_nil, or_false] at hk
      rcases hk with rfl | rfl
      · rw [hr'] at hr2; cases hr2; rfl
      · rw [ha'] at hr2; cases hr2; rfl)
    (fun b hb hno => hg.block b hb fun he => hno m (by simp) _ hr' (.inl he.symm))
    (fun p hp => by
      simp only [List.mem_cons, List.not_mem_nil, or_false] at hp
      subst hp
      show (∃ ps, w'.ownsRow 0 T 1 ((e.set n _) n).v _ ps ∧ Els C.w0 U ((e.set n _) n).c w' ps _) ∧ (∀ b, ((e.set n _) n).c.testBit b = true → _) ∧ ∀ g, ((e.set n _) n).v.ownBlock = some g → ((e.set n _) n).c.testBit g = false
      simp only [hn]
      refine ⟨⟨ps ++ [(e a0).v, .slice pa pn pc], by rw [List.length_append]; exact hown, fun i d hd => ?_⟩, fun b hb => ?_, fun g hgv => ?_⟩
      · rcases Nat.lt_or_ge i ds.length with hi | hi
        · rw [List.getElem?_append_left hi] at hd
          obtain ⟨p, hp, he⟩ := hel i d hd
          exact ⟨p, by rw [List.getElem?_append_left (by omega)]; exact hp, he.later (fun b hb => or_bit.2 (.inl hb)) hkeep⟩
        · rw [List.getElem?_append_right hi] at hd
          rw [List.getElem?_append_right (by omega), hpl]
          match hi2 : i - ds.length, hd with
          | 0, hd =>
            simp at hd
            subst hd
            exact ⟨_, rfl, .inr fun w'' hw'' => fs_row (row_loc hoa fun b hb => (hw'' b (or_bit.2 (.inr hb))).trans (hkeepA b hb))⟩
          | 1, hd =>
            simp at hd
            subst hd
            exact ⟨_, rfl, .inl hp⟩
          | j + 2, hd => simp at hd
      · rcases or_bit.1 hb with h | h
        · exact Nat.lt_of_lt_of_le (hlt b h) hg.size
        · exact Nat.lt_of_lt_of_le (hoa.lt b h).2 hg.size
      · cases ht : ((e m).c ||| bitOf (e a0).v).testBit g with
        | false => rfl
        | true =>
          exfalso
          rcases or_bit.1 ht with h | h
          · rcases hvb g hgv with h5 | h5
            · have := hbit g h5
              rw [h] at this; cases this
            · have := hlt g h
              omega
          · rcases hvb g hgv with h5 | h5
            · exact (hsepA g h).1 h5
            · have := (hoa.lt g h).2
              omega)
    (fun p hp b hb => by
      simp only [List.mem_cons, List.not_mem_nil, or_false] at hp
      subst hp
      have hb : ((e.set n _) n).v.ownBlock = some b ∨ ((e.set n _) n).c.testBit b = true := hb
      simp only [hn] at hb
      rcases hb with h | h
      · rcases hvb b h with h5 | h5
        · exact .inl ⟨m, by simp, _, hr', .inl h5⟩
        · exact .inr h5
      · rcases or_bit.1 h with h5 | h5
        · exact .inl ⟨m, by simp, _, hr', .inr h5⟩
        · exact .inl ⟨a0, by simp, _, ha', h5⟩)
    (fun p hp q hq hne => by
      simp only [List.mem_cons, List.not_mem_nil, or_false] at hp hq
      subst hp hq
      exact absurd rfl hne)
  have hop : (execOp a.eval ⟨some n, .call { callee := .builtin .append, args := #[x, y], argTypes := #[t, t] }, ty, pos, after, none⟩).run Try.prog w = .ok (.value v') w' := by
    simp only [execOp, resolve, invoke, builtin, Sem.run_bind, Sem.run_pure, Result.andThen_ok, List.map_toArray, List.map_cons, List.map_nil, hevx, hevy, hrun]
  refine wp_value hop ⟨e.set n ⟨0, (e m).c ||| bitOf (e a0).v, v'⟩, ?_⟩
  have := hH.put hd (.v n)
  simp only [SV.v, Env.set_self] at this
  exact this
theorem walk1_appendSl {P : Program} {l : List Oper} {t : List (Nat × SV)} {h : List (Nat × Option Res)} {K : St → Prop} {rt rb : List Nat} {n m a0 : Nat} {v : SV} {r : Res} (ho : OpG C P ops o ⟨t, h⟩ ⟨rt, rb, [(n, v)], [(n, some r), (m, none), (a0, none)], [n]⟩) (hf : freshB ⟨t, h⟩ n = true) (ht : Walk1 C P ops l ⟨(n, v) :: t, (n, some r) :: (m, none) :: (a0, none) :: h⟩ K) : Walk1 C P ops (o :: l) ⟨t, h⟩ K := ⟨_, ho, by simp [hf], ht⟩
theorem op_cvtSF {src dst e0 : TypeId} {x : Operand} {n : Nat} {s : ByteArray} {l : List (BitVec 8)} (ho : o.op = .convert src dst x) (hdn : o.dst = some n) (hg : o.guard = none) (hd : dstB o.dst C.nt = true) (hx : S.ev x = some (.c (.string s))) (hs' : tabLook undT src = some .string) (hd' : tabLook undT dst = some (.slice e0)) (he' : tabLook undT e0 = some (.int .u8)) (hs : s = strL l := by first | with_reducible rfl | assumption) :
    OpG C Try.prog ops o S ⟨opT x, [], [(n, .sc n l.length)], [(n, some (.fz n e0 l))], [n]⟩ := by
  subst hs
  refine opG_mk hg fun S' h1 h2 h3 e a w hS => ?_
  have hev : a.eval x = .string (strL l) := hS.ev ((ev_like h1 fun _ h => h).trans hx)
  have us := tabAll_look undT_ok hs'
  have ud := tabAll_look undT_ok hd'
  have ue := tabAll_look undT_ok he'
  have hrun := run_bytes_of_string (P := Try.prog) w src dst e0 (strL l) us ud ue
  have hG : (strL l).size ≤ grownCap w (strL l).size 0 e0 := grownCap_ge w _ _ _
  generalize hcap : grownCap w (strL l).size 0 e0 = cap at hrun hG
  rw [strL_size] at hG
  rw [strL_size, bytesRow_strL] at hrun
  generalize hfr : ((vals .u8 l ++ Array.replicate (cap - l.length) (Value.int .u8 0)).size, (vals .u8 l ++ Array.replicate (cap - l.length) (Value.int .u8 0)).size + 1) = fr at hrun
  have hb : Below w.heap.size w (w.drew.alloc (.cells (vals .u8 l ++ Array.replicate (cap - l.length) (.int .u8 0)) e0 fr)) := ((Below.refl _ _).drew).alloc (Nat.le_refl _) _
  have hn : ∀ (x : Ent), (e.set n x) n = x := fun x => Env.set_self ..
  have hH := hS.chg [(n, .fz n e0 l)] [] (h3 n (by simp)) ⟨w.heap.size, cap, undef⟩ hb.os hb.tape hb.output hb.size (fun k hk => by cases hk) (fun b hb2 _ => hb.block b hb2)
    (fun p hp => by
      simp only [List.mem_cons, List.not_mem_nil, or_false] at hp
      subst hp
      show l.length ≤ ((e.set n _) n).c ∧ ∃ fr', (w.drew.alloc _).heap[((e.set n _) n).b]? = some (.cells (vals .u8 l ++ Array.replicate (((e.set n _) n).c - l.length) (.int .u8 0)) e0 fr')
      simp only [hn]
      exact ⟨hG, fr, heap_alloc_new w.drew _⟩)
    (fun p hp b hb2 => by
      simp only [List.mem_cons, List.not_mem_nil, or_false] at hp
      subst hp
      have hb2 : b = ((e.set n _) n).b := hb2
      rw [hn] at hb2
      exact .inr (Nat.le_of_eq hb2.symm))
    (fun p hp q hq hne => by
      simp only [List.mem_cons, List.not_mem_nil, or_false] at hp hq
      subst hp hq
      exact absurd rfl hne)
  refine wp_value (v := .slice (some ⟨w.heap.size, 0, none⟩) l.length cap) (w' := w.drew.alloc (.cells (vals .u8 l ++ Array.replicate (cap - l.length) (.int .u8 0)) e0 fr)) ?_ ⟨e.set n ⟨w.heap.size, cap, undef⟩, ?_⟩
  · simp [execOp, ho, hev, hrun]
  · rw [hdn]
    have hd2 : dstB (some n) C.nt = true := by rw [← hdn]; exact hd
    have := hH.put hd2 (.sc n l.length)
    simp only [SV.sc, Env.set_self] at this
    exact this
theorem ones_sc {n len : Nat} {rb : List Nat} {vs : List SV} (h2 : OneS C S rb vs) : OneS C S rb (.sc n len :: vs) := ones_one (fun _ => rfl) h2
/-- A slice that was built of two: an own one, and new bytes of a string. -/
theorem ent_slr {t : List (Nat × SV)} {h : List (Nat × Option Res)} {i q a0 b0 k1 T2 : Nat} {T U : TypeId} {da db : List (BitVec 8)} (n : Nat) (hv : look t i = some (.s q 0 2 2)) (hq : (St.mk t h).res q = some (.blk q T (.l [.v a0, .sc b0 db.length]))) (ha : (St.mk t h).res a0 = some (.own a0 U 1 k1 (valsL .u8 da))) (hb : (St.mk t h).res b0 = some (.fz b0 T2 db))
    (hd : (Nat.beq q a0 || Nat.beq q b0 || Nat.beq a0 b0) = false) (hf : freshB ⟨t, h⟩ n = true) : Ents C ⟨t, h⟩ ⟨(i, .v n) :: t, (n, some (.slr n T U [da, db] C.w0)) :: (q, none) :: (a0, none) :: (b0, none) :: h⟩ := fun e a w hS => by
  simp only [Bool.or_eq_false_iff] at hd
  obtain ⟨⟨hd1, hd2⟩, hd3⟩ := hd
  have n1 : q ≠ a0 := fun he => by subst he; simp at hd1
  have n2 : q ≠ b0 := fun he => by subst he; simp at hd2
  have n3 : a0 ≠ b0 := fun he => by subst he; simp at hd3
  have hoa : w.ownsRow 0 U 1 (e a0).v k1 (valsL .u8 da) := hS.res a0 _ ha
  obtain ⟨hbc, frb, hob⟩ : db.length ≤ (e b0).c ∧ ∃ fr : Nat × Nat, w.heap[(e b0).b]? = some (.cells (vals .u8 db ++ Array.replicate ((e b0).c - db.length) (Value.int .u8 0)) T2 fr) := hS.res b0 _ hb
  have hk1 : k1 = da.length := by have := hoa.1; rw [valsL_length] at this; omega
  subst hk1
  have hobl : (e b0).b < w.heap.size := (Array.getElem?_eq_some_iff.1 hob).1
  obtain ⟨fr, hbl, hfr⟩ := res_blk hS hq
  rw [hfr rfl] at hbl
  have hsA : ∀ g, (e a0).v.ownBlock = some g → g ≠ (e q).b := fun g hg he => hS.sep q a0 _ _ hq ha n1 rfl g he hg
  have hsB : (e b0).b ≠ (e q).b := fun he => hS.sep q b0 _ _ hq hb n2 rfl (e q).b rfl he.symm
  have hbB : bitOf (.slice (some ⟨(e b0).b, 0, none⟩) 0 0) = 2 ^ (e b0).b := rfl
  have hn : ∀ (x : Ent), (e.set n x) n = x := fun x => Env.set_self ..
  have hH := hS.chg [(n, .slr n T U [da, db] C.w0)] [q, a0, b0] (freshB_spec hf) ⟨0, bitOf (e a0).v ||| bitOf (.slice (some ⟨(e b0).b, 0, none⟩) 0 0), .slice (some ⟨(e q).b, 0, none⟩) 2 2⟩ rfl rfl rfl (Nat.le_refl _)
    (fun k hk r hr2 => by
      simp only [List.mem_cons, List.not_mem_nil, or_false] at hk
      rcases hk with rfl | rfl | rfl
      · rw [hq] at hr2; cases hr2; rfl
      · rw [ha] at hr2; cases hr2; rfl
      · rw [hb] at hr2; cases hr2; rfl)
    (fun _ _ _ => rfl)
    (fun p hp => by
      simp only [List.mem_cons, List.not_mem_nil, or_false] at hp
      subst hp
      show (∃ ps, w.ownsRow 0 T 1 ((e.set n _) n).v _ ps ∧ Els C.w0 U ((e.set n _) n).c w ps _) ∧ (∀ b, ((e.set n _) n).c.testBit b = true → _) ∧ ∀ g, ((e.set n _) n).v.ownBlock = some g → ((e.set n _) n).c.testBit g = false
      simp only [hn]
      refine ⟨⟨[(e a0).v, .slice (some ⟨(e b0).b, 0, none⟩) db.length (e b0).c], ⟨rfl, .inr ⟨(e q).b, 2, _, rfl, Nat.zero_le _, hbl, Nat.le_refl _, by simp [maxLen], by simp [SA.l], by simp [SA.l, SV.v, SV.sc]⟩⟩, fun j d hd => ?_⟩, fun b hb2 => ?_, fun g hg => ?_⟩
      · match j, hd with
        | 0, hd =>
          simp at hd
          subst hd
          exact ⟨_, rfl, .inr fun w'' hw'' => fs_row (row_loc hoa fun b hb => hw'' b (or_bit.2 (.inl (bitOf_test.2 hb))))⟩
        | 1, hd =>
          simp at hd
          subst hd
          exact ⟨_, rfl, .inr fun w'' hw'' => fs_fz hbc ((hw'' (e b0).b (or_bit.2 (.inr rfl))).trans hob)⟩
        | j + 2, hd => simp at hd
      · rcases or_bit.1 hb2 with h5 | h5
        · exact (hoa.lt b (bitOf_test.1 h5)).2
        · have h5 : b = (e b0).b := by simpa [Value.ownBlock] using h5.symm
          omega
      · have hg : g = (e q).b := by simpa [Value.ownBlock] using hg.symm
        cases ht : (bitOf (e a0).v ||| bitOf (.slice (some ⟨(e b0).b, 0, none⟩) 0 0)).testBit g with
        | false => rfl
        | true =>
          exfalso
          rcases or_bit.1 ht with h5 | h5
          · exact hsA g (bitOf_test.1 h5) hg
          · have h5 : g = (e b0).b := by simpa [Value.ownBlock] using h5.symm
            exact hsB (h5.symm.trans hg))
    (fun p hp b hb2 => by
      simp only [List.mem_cons, List.not_mem_nil, or_false] at hp
      subst hp
      have hb2 : ((e.set n _) n).v.ownBlock = some b ∨ ((e.set n _) n).c.testBit b = true := hb2
      simp only [hn] at hb2
      rcases hb2 with h5 | h5
      · have hg : b = (e q).b := by simpa [Value.ownBlock] using h5.symm
        exact .inl ⟨q, by simp, _, hq, hg⟩
      · rcases or_bit.1 h5 with h6 | h6
        · exact .inl ⟨a0, by simp, _, ha, bitOf_test.1 h6⟩
        · have h6 : b = (e b0).b := by simpa [Value.ownBlock] using h6.symm
          exact .inl ⟨b0, by simp, _, hb, h6⟩)
    (fun p hp q2 hq2 hne => by
      simp only [List.mem_cons, List.not_mem_nil, or_false] at hp hq2
      subst hp hq2
      exact absurd rfl hne)
  refine ⟨_, hH.defers, hH.size, fun j u hj => ?_, hH.res, hH.mine, hH.sep, hH.frame⟩
  have hj2 : look ((i, SV.v n) :: t) j = some u := hj
  rw [look_cons] at hj2
  by_cases e0 : i = j
  · rw [if_pos e0] at hj2
    have hj3 : SV.v n = u := by simpa using hj2
    subst hj3
    subst e0
    show a.tmps[i]? = some ((e.set n _) n).v
    rw [hn]
    exact hS.tmp i _ hv
  · rw [if_neg e0] at hj2
    exact hH.tmp j u hj2
/-- A key, and such a slice. -/
theorem callM_sl {j : FuncId} {vs : List SV} {u : Value} {d : List (BitVec 8)} {ns1 : List Nat} {v1 : SV} {n T U : Nat} {ds : List (List (BitVec 8))} (h1 : FSQ C S ns1 v1 d) (hr : S.res n = some (.slr n T U ds C.w0)) (hm : C.m = []) (h : ∀ (e : Env) w, FS w 1 (v1.den e) d.length (valsL .u8 d) → SlcL w (e n).v ds → Calls Try.prog j (vs.map (·.den e)).toArray w fun r w' => r = .returned u ∧ Below w.heap.size w w') : CallM C S (ns1 ++ [n]) j vs u := fun S' e a w hS hq => by
  refine h e w (h1 S' e a w (fun q hq' => hq q (List.mem_append_left _ hq')) hS) ?_
  obtain ⟨⟨ps, hps, hel⟩, _⟩ := hS.res n _ ((hq n (List.mem_append_right _ (by simp))).trans hr)
  refine ⟨ps, (fs_row hps).1, fun i d hd => ?_⟩
  obtain ⟨p, hp, he⟩ := hel i d hd
  refine ⟨p, hp, ?_⟩
  rcases he with he | he
  · have hbx := hS.frame.belowX
    rw [hm] at hbx
    exact he w hbx
  · exact he w fun _ _ => rfl
end Go.Proofs.Ytkdflpdemoaifaa
