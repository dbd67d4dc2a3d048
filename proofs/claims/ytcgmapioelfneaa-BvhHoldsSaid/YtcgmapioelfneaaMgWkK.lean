/- The tree that is made of some triangles: plain. No condition. A tree made of triangles: small leaves, no great depth, places that rise: plain. No condition. What a tree made of triangles answers to those that look whether it is sound: plain. No condition. A tree made of triangles is sound: plain. No condition. A walk begun anew from a later world in which nothing that was made is written any more: own slices and blocks become given ones. No condition. -/
import Derived.Test.YtcgmapioelfneaaMgWkE
import Derived.Test.YtcgmapioelfneaaSymX
namespace Go.Proofs.Ytcgmapioelfneaa
open Go.RowKit
set_option maxRecDepth 100000
set_option maxHeartbeats 1000000
/-- The box of some triangles, whatever their order. -/
def BBx (l : List TriS) (ks : List Nat) (B : P3 × P3) : Prop := (∀ k ∈ ks, ∀ a, axP B.1 a ≤ axP (tbox (l.getD k zT)).1 a ∧ axP (tbox (l.getD k zT)).2 a ≤ axP B.2 a) ∧ (∀ a, (∃ k ∈ ks, axP (tbox (l.getD k zT)).1 a = axP B.1 a) ∧ ∃ k ∈ ks, axP (tbox (l.getD k zT)).2 a = axP B.2 a)
theorem BBx.same {l : List TriS} {ks ks' : List Nat} {B : P3 × P3} (h : BBx l ks B) (hp : ∀ k, k ∈ ks ↔ k ∈ ks') : BBx l ks' B := by
  refine ⟨fun k hk => h.1 k ((hp k).2 hk), fun a => ?_⟩
  obtain ⟨⟨k1, h1, e1⟩, k2, h2, e2⟩ := h.2 a
  exact ⟨⟨k1, (hp k1).1 h1, e1⟩, k2, (hp k2).1 h2, e2⟩
theorem p3_ax {p q : P3} (h : ∀ a, axP p a = axP q a) : p = q := by
  have h0 := h 0
  have h1 := h 1
  have h2 := h 2
  simp only [axP, if_true, if_false, show ¬ (1 : Nat) = 0 by decide, show ¬ (2 : Nat) = 0 by decide, show ¬ (2 : Nat) = 1 by decide] at h0 h1 h2
  cases p; cases q
  simp_all
theorem BBx.uniq {l : List TriS} {ks : List Nat} {B B' : P3 × P3} (h : BBx l ks B) (h' : BBx l ks B') : B = B' := by
  have h1 : B.1 = B'.1 := p3_ax fun a => by
    obtain ⟨⟨k1, m1, e1⟩, _⟩ := h.2 a
    obtain ⟨⟨k2, m2, e2⟩, _⟩ := h'.2 a
    have := (h.1 k2 m2 a).1
    have := (h'.1 k1 m1 a).1
    omega
  have h2 : B.2 = B'.2 := p3_ax fun a => by
    obtain ⟨_, k1, m1, e1⟩ := h.2 a
    obtain ⟨_, k2, m2, e2⟩ := h'.2 a
    have := (h.1 k2 m2 a).2
    have := (h'.1 k1 m1 a).2
    omega
  cases B; cases B'
  simp_all
theorem bbN_x (l : List TriS) (ks : List Nat) : ∀ j, j < ks.length → BBx l (ks.take (j + 1)) (bbN l ks (j + 1))
  | 0, h => by
    obtain ⟨x, xs, rfl⟩ : ∃ x xs, ks = x :: xs := by
      cases ks with
      | nil => simp at h
      | cons x xs => exact ⟨x, xs, rfl⟩
    rw [bbN, if_pos rfl]
    simp only [Nat.zero_add, List.take_succ_cons, List.take_zero, List.getD_cons_zero]
    refine ⟨fun k hk a => ?_, fun a => ⟨⟨x, by simp, rfl⟩, x, by simp, rfl⟩⟩
    obtain rfl := List.mem_singleton.1 hk
    exact ⟨Int.le_refl _, Int.le_refl _⟩
  | j + 1, h => by
    have ih := bbN_x l ks j (by omega)
    obtain ⟨k, hk⟩ : ∃ k, ks[j + 1]? = some k := ⟨_, List.getElem?_eq_getElem h⟩
    have hg : ks.getD (j + 1) 0 = k := by rw [List.getD_eq_getElem?_getD, hk]; rfl
    rw [bbN, if_neg (by omega), hg, List.take_add_one, hk, Option.toList_some]
    generalize bbN l ks (j + 1) = B at *
    generalize ks.take (j + 1) = A at *
    obtain ⟨h1, h2⟩ := ih
    have m1 : B.1 ∈ [B.1, (tbox (l.getD k zT)).1] := by simp
    have m2 : (tbox (l.getD k zT)).1 ∈ [B.1, (tbox (l.getD k zT)).1] := by simp
    have m3 : B.2 ∈ [B.2, (tbox (l.getD k zT)).2] := by simp
    have m4 : (tbox (l.getD k zT)).2 ∈ [B.2, (tbox (l.getD k zT)).2] := by simp
    refine ⟨fun k' hk' a => ?_, fun a => ⟨?_, ?_⟩⟩
    · dsimp only
      have q1 := (boxP_le m1 a).1
      have q2 := (boxP_le m2 a).1
      have q3 := (boxP_le m3 a).2
      have q4 := (boxP_le m4 a).2
      rcases List.mem_append.1 hk' with hk' | hk'
      · have := h1 k' hk' a
        omega
      · obtain rfl := List.mem_singleton.1 hk'
        omega
    · obtain ⟨⟨p, hp, e⟩, _⟩ := boxP_at (ps := [B.1, (tbox (l.getD k zT)).1]) (by simp) a
      simp only [List.mem_cons, List.not_mem_nil, or_false] at hp
      rcases hp with rfl | rfl
      · obtain ⟨⟨k1, hk1, e1⟩, _⟩ := h2 a
        exact ⟨k1, List.mem_append_left _ hk1, e1.trans e⟩
      · exact ⟨k, List.mem_append_right _ (by simp), e⟩
    · obtain ⟨_, p, hp, e⟩ := boxP_at (ps := [B.2, (tbox (l.getD k zT)).2]) (by simp) a
      simp only [List.mem_cons, List.not_mem_nil, or_false] at hp
      rcases hp with rfl | rfl
      · obtain ⟨_, k1, hk1, e1⟩ := h2 a
        exact ⟨k1, List.mem_append_left _ hk1, e1.trans e⟩
      · exact ⟨k, List.mem_append_right _ (by simp), e⟩
theorem bbN_all (l : List TriS) (ks : List Nat) (h : 1 ≤ ks.length) : BBx l ks (bbN l ks ks.length) := by
  have := bbN_x l ks (ks.length - 1) (by omega)
  rwa [show ks.length - 1 + 1 = ks.length by omega, List.take_length] at this
theorem BBx.sm {l : List TriS} {ks : List Nat} {B : P3 × P3} (h : BBx l ks B) (hn : ∀ k ∈ ks, nearT (l.getD k zT)) : smB 1048576 B.1 ∧ smB 1048576 B.2 := by
  rw [smB_ax, smB_ax]
  constructor
  · intro a ha
    obtain ⟨⟨k, hk, e⟩, _⟩ := h.2 a
    rw [← e]
    exact smB_ax.1 (hn k hk).1 a ha
  · intro a ha
    obtain ⟨_, k, hk, e⟩ := h.2 a
    rw [← e]
    exact smB_ax.1 (hn k hk).2 a ha
def Tr.ixs : Tr → List Nat
  | .leaf i _ _ _ _ => [i]
  | .node i _ _ L R => i :: (L.ixs ++ R.ixs)
def Tr.nodes : Tr → Nat
  | .leaf _ _ _ _ _ => 1
  | .node _ _ _ L R => 1 + (L.nodes + R.nodes)
theorem Tr.ix_mem (t : Tr) : t.ix ∈ t.ixs := by cases t <;> simp [Tr.ix, Tr.ixs]
theorem Tr.in_mono {N N' : List NodeS} {K K' : List Nat} : ∀ {t : Tr}, (∀ i ∈ t.ixs, N'[i]? = N[i]?) → K'.length = K.length → t.In N K → t.In N' K'
  | .leaf i f c lo hi, hN, hK, h => by
    refine ⟨(hN i (by simp [Tr.ixs])).trans h.1, by rw [hK]; exact h.2⟩
  | .node i lo hi L R, hN, hK, h => by
    refine ⟨(hN i (by simp [Tr.ixs])).trans h.1, Tr.in_mono (fun j hj => hN j (by simp [Tr.ixs, hj])) hK h.2.1, Tr.in_mono (fun j hj => hN j (by simp [Tr.ixs, hj])) hK h.2.2⟩
def smN (x : NodeS) : Prop := smB 1048576 x.lo ∧ smB 1048576 x.hi
end Go.Proofs.Ytcgmapioelfneaa
namespace Go.Proofs.Ytcgmapioelfneaa
open Go.RowKit
set_option maxRecDepth 100000
set_option maxHeartbeats 1000000
/-- All these triangles have one middle. -/
def sameM (l : List TriS) (M : List Nat) : Prop := ∃ p, ∀ k ∈ M, midT (l.getD k zT) = p
theorem axN_max (lo hi : P3) : ∀ j a, a ≤ j → axP hi a - axP lo a ≤ axP hi (axN lo hi j) - axP lo (axN lo hi j)
  | 0, a, h => by obtain rfl : a = 0 := by omega
                  exact Int.le_refl _
  | j + 1, a, h => by
    rw [axN]
    by_cases ha : a = j + 1
    · subst ha
      split <;> omega
    · have := axN_max lo hi j a (by omega)
      split <;> omega
theorem axP_big (p : P3) (a : Nat) (h : 2 ≤ a) : axP p a = axP p 2 := by
  unfold axP
  rw [if_neg (by omega), if_neg (by omega), if_neg (by omega), if_neg (by omega)]
theorem idxL_found {c : Nat → Bool} : ∀ {ks : List Nat} {j : Nat}, (∃ i ∈ ks, c i = true) → (j : Int) ≤ idxL c ks j
  | [], j, h => by obtain ⟨i, hi, _⟩ := h; cases hi
  | x :: t, j, h => by
    rw [idxL]
    split
    · exact Int.le_refl _
    · rename_i hx
      obtain ⟨i, hi, hc⟩ := h
      rcases List.mem_cons.1 hi with rfl | hi
      · exact absurd hc hx
      · have := idxL_found (c := c) (ks := t) (j := j + 1) ⟨i, hi, hc⟩
        omega
theorem partL_more (l : List TriS) (ks : List Nat) (d : Nat) : (0 < (partL l ks d).1 → 4 < ks.length ∧ (31 < d → (partL l ks d).1 = ((ks.length / 2 : Nat) : Int))) ∧ (¬ 0 < (partL l ks d).1 → ks.length ≤ 4 ∨ sameM l ks) := by
  obtain ⟨B, hB⟩ : ∃ B, boxP (msL l ks) = B := ⟨_, rfl⟩
  rw [partL_eq l ks d hB rfl rfl rfl]
  have hin := fun (i : Nat) (hi : i ∈ ks) (k : Nat) => kyL_in (l := l) hi k
  have hat : 4 < ks.length → ∀ k, _ := fun h k => boxP_at (ps := msL l ks) (by rw [msL]; intro he; rw [List.map_eq_nil_iff] at he; rw [he] at h; cases h) k
  rw [hB] at hin hat
  obtain ⟨lo, hi⟩ := B
  dsimp only at hin hat ⊢
  have hmx := axN_max lo hi 2
  generalize axN lo hi 2 = k at *
  by_cases h4 : ks.length ≤ 4
  · rw [if_pos h4]
    exact ⟨fun h => absurd h (Int.lt_irrefl 0), fun _ => .inl h4⟩
  rw [if_neg h4]
  by_cases hft : axP lo k = axP hi k
  · rw [if_pos hft]
    refine ⟨fun h => absurd h (Int.lt_irrefl 0), fun _ => .inr ⟨lo, fun i hi' => p3_ax fun a => ?_⟩⟩
    have key : ∀ a, a ≤ 2 → axP (midT (l.getD i zT)) a = axP lo a := fun a ha => by
      have h1 := hmx a ha
      have h2 := hin i hi' a
      unfold kyL at h2
      omega
    by_cases ha : a ≤ 2
    · exact key a ha
    · rw [axP_big _ a (by omega), axP_big lo a (by omega)]
      exact key 2 (by omega)
  rw [if_neg hft]
  by_cases hd : d > 31
  · rw [if_pos hd]
    dsimp only
    exact ⟨fun _ => ⟨by omega, fun _ => rfl⟩, fun h => absurd (by omega) h⟩
  rw [if_neg hd]
  dsimp only
  refine ⟨fun _ => ⟨by omega, fun h => absurd h (by omega)⟩, fun h => ?_⟩
  exfalso
  apply h
  obtain ⟨⟨p1, hp1, e1⟩, p2, hp2, e2⟩ := hat (by omega) k
  obtain ⟨i1, hi1, rfl⟩ := List.mem_map.1 hp1
  obtain ⟨i2, hi2, rfl⟩ := List.mem_map.1 hp2
  have c1 := bwN_in (allN l ks k (axP lo k) (axP hi k) ks.length) 7
  have hlt : axP lo k < axP hi k := by have := hin i1 hi1 k; omega
  rw [show (bwN (allN l ks k (axP lo k) (axP hi k) ks.length) 7).2 = cutL l ks k (axP lo k) (axP hi k) from rfl] at c1
  generalize cutL l ks k (axP lo k) (axP hi k) = c at *
  have r1 : rgL l k (axP lo k) (axP hi k) ((c : Nat) : Int) i1 = false := by
    unfold rgL
    have : binI (kyL l k i1) (axP lo k) (axP hi k) = 0 := by
      unfold binI kyL
      rw [e1, Int.sub_self, Int.zero_mul, Int.zero_tdiv]
      rfl
    rw [this]
    exact decide_eq_false (by omega)
  have r2 : rgL l k (axP lo k) (axP hi k) ((c : Nat) : Int) i2 = true := by
    unfold rgL
    have : binI (kyL l k i2) (axP lo k) (axP hi k) = 7 := by
      unfold binI kyL
      rw [e2, Int.mul_comm, Int.mul_tdiv_cancel _ (by omega)]
      rfl
    rw [this]
    exact decide_eq_true (by omega)
  generalize rgL l k (axP lo k) (axP hi k) ((c : Nat) : Int) = r at *
  have hs := (sortK_ok (key := rkL r) ks).1
  have m1 : i1 ∈ sortK (rkL r) ks := sortK_mem.2 hi1
  have m2 : i2 ∈ sortK (rkL r) ks := sortK_mem.2 hi2
  generalize sortK (rkL r) ks = s at *
  cases s with
  | nil => cases m1
  | cons x t =>
    unfold SrtK at hs
    rw [List.pairwise_cons] at hs
    have hx : r x = false := by
      cases hx : r x with
      | false => rfl
      | true =>
        exfalso
        rcases List.mem_cons.1 m1 with rfl | m1
        · rw [r1] at hx; cases hx
        · have := hs.1 i1 m1
          unfold rkL at this
          rw [hx, r1] at this
          exact absurd this (by decide)
    rw [idxL, if_neg (by rw [hx]; decide)]
    have m2 : i2 ∈ t := by
      rcases List.mem_cons.1 m2 with rfl | m2
      · rw [r2] at hx; cases hx
      · exact m2
    have := idxL_found (c := r) (ks := t) (j := 0 + 1) ⟨i2, m2, r2⟩
    omega
/-- The tree parts these triangles; its leaves are small, and so on. -/
def Tr.Nic (l : List TriS) : Tr → Nat → List Nat → Nat → Prop
  | .leaf _ f c lo hi, f0, M, _ => (f = f0 ∧ c = M.length ∧ 1 ≤ c ∧ BBx l M (lo, hi)) ∧ (M.length ≤ 4 ∨ sameM l M)
  | .node i lo hi L R, f0, M, d => ∃ X Y, M = X ++ Y ∧ L.Nic l f0 X (d + 1) ∧ R.Nic l (f0 + X.length) Y (d + 1) ∧ BBx l M (lo, hi) ∧ i < L.ix ∧ i < R.ix ∧ 4 < M.length ∧ (31 < d → X.length = M.length / 2)
theorem run_nic (l : List TriS) (n : Nat) (hnr : ∀ t ∈ l, nearT t) : ∀ (c : Nat) (N : List NodeS) (A M B : List Nat) (S : List TodoS) (t : TodoS), t.count = c → GoodB l n ⟨N, A ++ (M ++ B), S ++ [t]⟩ → t.first = A.length → t.count = M.length →
    ∃ (j : Nat) (N' : List NodeS) (M' : List Nat) (T : Tr), j ≤ 2 * c - 1 ∧ (∀ f, runB l (j + f) ⟨N, A ++ (M ++ B), S ++ [t]⟩ = runB l f ⟨N', A ++ (M' ++ B), S⟩) ∧ GoodB l n ⟨N', A ++ (M' ++ B), S⟩ ∧ T.In N' (A ++ (M' ++ B)) ∧ T.ix = t.node ∧ T.Nic l A.length M' t.deep ∧ M'.Perm M ∧ (∀ i, i < N.length → i ≠ t.node → N'[i]? = N[i]?) ∧ (∀ i ∈ T.ixs, i = t.node ∨ (N.length ≤ i ∧ i < N'.length)) ∧ N'.length + 1 = N.length + T.nodes ∧ (∀ x ∈ N', x ∈ N ∨ smN x) ∧ (∀ i, N.length ≤ i → i < N'.length → i ∈ T.ixs) ∧ T.ixs.Nodup := by
  intro c
  induction c using Nat.strongRecOn with
  | ind c ih =>
  intro N A M B S t htc hG htf htm
  have hstep := runB_step l
  obtain ⟨g1, g2⟩ := good_step hG
  obtain ⟨nd, fi, co, de⟩ := t
  dsimp only at htc htf htm
  obtain ⟨t1, t2, t3, t4⟩ := hG.todo ⟨nd, fi, co, de⟩ (by simp)
  have hKl := hG.len
  have hdom := hG.dom
  dsimp only at t1 t2 t3 t4 hKl hdom
  have hseg : ((A ++ (M ++ B)).drop fi).take co = M := by
    rw [htf, List.drop_left, htm, List.take_left]
  have hMn : ∀ k ∈ M, nearT (l.getD k zT) := fun k hk => by
    have hkl := hdom k (by simp [hk])
    rw [List.getD_eq_getElem?_getD, List.getElem?_eq_getElem hkl]
    exact hnr _ (List.getElem_mem hkl)
  obtain ⟨p1, p2, p3, p4⟩ := partL_lt l M de
  obtain ⟨p5, p6⟩ := partL_more l M de
  have hP : partK l (A ++ (M ++ B)) ⟨nd, fi, co, de⟩ = partL l M de := by
    unfold partK
    dsimp only
    rw [hseg]
  have hBx : boxK l (A ++ (M ++ B)) ⟨nd, fi, co, de⟩ = bbN l M M.length := by
    unfold boxK
    dsimp only
    rw [hseg, htm]
  have hbb := bbN_all l M (by omega)
  generalize bbN l M M.length = BX at *
  obtain ⟨blo, bhi⟩ := BX
  have hq : stepQ l N (A ++ (M ++ B)) S ⟨nd, fi, co, de⟩ = _ := rfl
  conv at hq => rhs; unfold stepQ
  rw [hP, hBx] at hq
  dsimp only at hq
  generalize partL l M de = P at *
  obtain ⟨P1, P2⟩ := P
  dsimp only at *
  have hKn : (A ++ (M ++ B)).take fi ++ (P2 ++ (A ++ (M ++ B)).drop (fi + co)) = A ++ (P2 ++ B) := by
    rw [htf, List.take_left, htm, ← List.drop_drop, List.drop_left, List.drop_left]
  rw [hKn] at hq
  by_cases hp : 0 < P1
  · rw [if_pos hp] at hq
    obtain ⟨at', rfl⟩ : ∃ a : Nat, P1 = (a : Int) := ⟨P1.toNat, by omega⟩
    simp only [Int.toNat_natCast] at hq
    have p4 := p4 hp
    obtain ⟨p7, p8⟩ := p5 hp
    have hat : at' < M.length := by omega
    have hat0 : 0 < at' := by omega
    rw [hq] at g1 g2
    have hXl : (P2.take at').length = at' := by rw [List.length_take]; omega
    have hYl : (P2.drop at').length = co - at' := by rw [List.length_drop]; omega
    have hXY : P2 = P2.take at' ++ P2.drop at' := (List.take_append_drop at' P2).symm
    generalize P2.take at' = X at *
    generalize P2.drop at' = Y at *
    subst hXY
    obtain ⟨N1, hN1⟩ : ∃ N1, N1 = (N ++ [zN, zN]).set nd ⟨blo, bhi, ((N.length : Nat) : Int), ((N.length + 1 : Nat) : Int), 0, 0⟩ := ⟨_, rfl⟩
    rw [← hN1] at hq g1 g2
    have hN1l : N1.length = N.length + 2 := by rw [hN1]; simp
    have hN1o : ∀ i, i < N.length → i ≠ nd → N1[i]? = N[i]? := fun i hi hne => by
      rw [hN1, List.getElem?_set_ne (Ne.symm hne), List.getElem?_append_left hi]
    have hN1n : N1[nd]? = some ⟨blo, bhi, ((N.length : Nat) : Int), ((N.length + 1 : Nat) : Int), 0, 0⟩ := by
      rw [hN1, List.getElem?_set_self]
      rw [List.length_append]; omega
    have hN1m : ∀ x ∈ N1, x ∈ N ∨ smN x := fun x hx => by
      rw [hN1] at hx
      rcases List.mem_or_eq_of_mem_set hx with hx | rfl
      · rcases List.mem_append.1 hx with hx | hx
        · exact .inl hx
        · right
          have : x = zN := by simpa using hx
          rw [this]
          constructor <;> (unfold smB; decide)
      · exact .inr (hbb.sm hMn)
    have e1 : A ++ ((X ++ Y) ++ B) = A ++ (X ++ (Y ++ B)) := by rw [List.append_assoc X Y B]
    have e2 : ∀ a b : TodoS, S ++ [a, b] = (S ++ [a]) ++ [b] := fun a b => by simp
    rw [e1, e2] at hq g1
    obtain ⟨j1, N2, X', L, b1, b2, b3, b4, b5, b6, b7, b8, b9, b10, b11, b12, b13⟩ := ih at' (by omega) N1 A X (Y ++ B) (S ++ [⟨N.length + 1, fi + at', co - at', de + 1⟩]) ⟨N.length, fi, at', de + 1⟩ rfl g1 htf hXl.symm
    have hX'l : X'.length = at' := by rw [← hXl]; exact b7.length_eq
    have e3 : A ++ (X' ++ (Y ++ B)) = (A ++ X') ++ (Y ++ B) := by rw [List.append_assoc]
    rw [e3] at b3 b4
    have b2' := fun f => (b2 f).trans (congrArg (fun z => runB l f ⟨N2, z, S ++ [⟨N.length + 1, fi + at', co - at', de + 1⟩]⟩) e3)
    obtain ⟨j2, N3, Y', R, c1, c2, c3, c4, c5, c6, c7, c8, c9, c10, c11, c12, c13⟩ := ih (co - at') (by omega) N2 (A ++ X') Y B S ⟨N.length + 1, fi + at', co - at', de + 1⟩ rfl b3 (by dsimp only; rw [List.length_append, htf, hX'l]) hYl.symm
    have e4 : (A ++ X') ++ (Y' ++ B) = A ++ ((X' ++ Y') ++ B) := by simp
    have hLp := L.cost_pos
    have hnL : 1 ≤ L.nodes := by cases L <;> unfold Tr.nodes <;> omega
    have hnR : 1 ≤ R.nodes := by cases R <;> unfold Tr.nodes <;> omega
    dsimp only at b5 b8 b9 c5 c8 c9
    rw [e4] at c3 c4
    have hY'l : Y'.length = Y.length := c7.length_eq
    refine ⟨1 + (j1 + j2), N3, X' ++ Y', .node nd blo bhi L R, by omega, fun f => ?_, c3, ?_, rfl, ?_, ?_, ?_, ?_, ?_, ?_, ?_, ?_⟩
    · rw [show 1 + (j1 + j2) + f = (j1 + (j2 + f)) + 1 by omega, runB_step, hq, b2', c2, e4]
    · refine ⟨?_, ?_, c4⟩
      · rw [c8 nd (by omega) (by omega), b8 nd (by omega) (by omega), hN1n, b5, c5]
      · refine Tr.in_mono (fun i hi => c8 i ?_ ?_) ?_ b4
        · rcases b9 i hi with rfl | h <;> omega
        · rcases b9 i hi with rfl | h <;> omega
        · simp only [List.length_append]; omega
    · refine ⟨X', Y', rfl, b6, ?_, ?_, ?_, ?_, ?_, ?_⟩
      · rw [List.length_append] at c6
        exact c6
      · exact hbb.same fun k => by
          have h1 := (b7.append c7).mem_iff (a := k)
          have h2 := p3.mem_iff (a := k)
          exact (h1.trans h2).symm
      · rw [b5]; exact t1
      · rw [c5]; omega
      · rw [List.length_append, hX'l, hY'l, hYl]; omega
      · intro h31
        have := p8 h31
        rw [List.length_append, hX'l, hY'l, hYl]
        omega
    · exact (b7.append c7).trans p3
    · intro i hi hne
      rw [c8 i (by omega) (by omega), b8 i (by omega) (by omega), hN1o i hi hne]
    · intro i hi
      simp only [Tr.ixs, List.mem_cons, List.mem_append] at hi
      rcases hi with rfl | hi | hi
      · exact .inl rfl
      · rcases b9 i hi with rfl | h <;> (right; omega)
      · rcases c9 i hi with rfl | h <;> (right; omega)
    · rw [Tr.nodes]; omega
    · intro x hx
      rcases c11 x hx with hx | hx
      · rcases b11 x hx with hx | hx
        · exact hN1m x hx
        · exact .inr hx
      · exact .inr hx
    · intro i h1 h2
      simp only [Tr.ixs, List.mem_cons, List.mem_append]
      by_cases e0 : i = N.length
      · exact .inr (.inl (by rw [e0, ← b5]; exact L.ix_mem))
      · by_cases e1 : i = N.length + 1
        · exact .inr (.inr (by rw [e1, ← c5]; exact R.ix_mem))
        · by_cases e2 : i < N2.length
          · exact .inr (.inl (b12 i (by omega) e2))
          · exact .inr (.inr (c12 i (by omega) h2))
    · rw [Tr.ixs, List.nodup_cons, List.nodup_append]
      refine ⟨fun hm => ?_, b13, c13, fun a ha b hb hab => ?_⟩
      · rcases List.mem_append.1 hm with hm | hm
        · rcases b9 nd hm with h | h <;> omega
        · rcases c9 nd hm with h | h <;> omega
      · subst hab
        rcases b9 a ha with h | h <;> rcases c9 a hb with h' | h' <;> omega
  · rw [if_neg hp] at hq
    rw [hq] at g1
    have hP2l : P2.length = M.length := p1
    refine ⟨1, N.set nd ⟨blo, bhi, -1, -1, ((fi : Nat) : Int), ((co : Nat) : Int)⟩, P2, .leaf nd fi co blo bhi, by omega, fun f => ?_, g1, ?_, rfl, ?_, p3, ?_, ?_, ?_, ?_, ?_, ?_⟩
    · rw [show 1 + f = f + 1 by omega, runB_step, hq]
    · refine ⟨?_, ?_⟩
      · rw [List.getElem?_set_self t1]
      · simp only [List.length_append]; omega
    · refine ⟨⟨htf, by omega, by omega, hbb.same fun k => (p3.mem_iff (a := k)).symm⟩, ?_⟩
      rcases p6 hp with h4 | ⟨p, h4⟩
      · exact .inl (by omega)
      · exact .inr ⟨p, fun k hk => h4 k ((p3.mem_iff (a := k)).1 hk)⟩
    · intro i hi hne
      rw [List.getElem?_set_ne (Ne.symm hne)]
    · intro i hi
      simp only [Tr.ixs, List.mem_singleton] at hi
      exact .inl hi
    · rw [List.length_set, Tr.nodes]
    · intro x hx
      rcases List.mem_or_eq_of_mem_set hx with hx | rfl
      · exact .inl hx
      · exact .inr (hbb.sm hMn)
    · intro i h1 h2
      rw [List.length_set] at h2
      omega
    · rw [Tr.ixs]; exact List.nodup_cons.2 ⟨fun h => (by cases h), List.nodup_nil⟩
theorem in_some {N : List NodeS} {K : List Nat} {t : Tr} (h : t.In N K) : ∃ c, N[t.ix]? = some c := by
  cases t with
  | leaf i f c lo hi => exact ⟨_, h.1⟩
  | node i lo hi L R => exact ⟨_, h.1⟩
/-- The tree of some triangles. -/
theorem nic_of (l : List TriS) (h0 : 0 < l.length) (hnr : ∀ t ∈ l, nearT t) : ∃ T : Tr, T.In (treeL l).1 (treeL l).2 ∧ T.ix = 0 ∧ T.Nic l 0 (treeL l).2 1 ∧ (treeL l).2.Perm (List.range l.length) ∧ (treeL l).1.length = T.nodes ∧ (∀ x ∈ (treeL l).1, smN x) ∧ T.ixs.Perm (List.range (treeL l).1.length) := by
  have hG := good_start l h0
  have hG2 : GoodB l l.length ⟨[zN], [] ++ (List.range l.length ++ []), [] ++ [⟨0, 0, l.length, 1⟩]⟩ := by simpa using hG
  obtain ⟨j, N', M', T, a1, a2, a3, a4, a5, a6, a7, a8, a9, a10, a11, a12, a13⟩ := run_nic l l.length hnr l.length [zN] [] (List.range l.length) [] [] ⟨0, 0, l.length, 1⟩ rfl hG2 rfl (by simp)
  have hT : treeL l = (N', M') := by
    unfold treeL
    rw [if_neg (by omega)]
    have := a2 (2 * l.length - j)
    rw [show j + (2 * l.length - j) = 2 * l.length by omega, runB_end] at this
    simp only [List.nil_append, List.append_nil] at this
    rw [this]
  rw [hT]
  simp only [List.nil_append, List.append_nil] at a4
  have hall : ∀ i, i < N'.length → i ∈ T.ixs := fun i hi => by
    by_cases h0 : i = 0
    · have hm := T.ix_mem
      rw [show T.ix = 0 from a5] at hm
      rw [h0]
      exact hm
    · exact a12 i (by simp; omega) hi
  refine ⟨T, a4, a5, a6, a7, ?_, fun x hx => ?_, (List.perm_ext_iff_of_nodup a13 List.nodup_range).2 fun i => ⟨fun hi => ?_, fun hi => hall i (List.mem_range.1 hi)⟩⟩
  · simp only [List.length_singleton] at a10
    dsimp only
    omega
  · rcases a11 x hx with h | h
    · rw [List.mem_singleton.1 h]
      constructor <;> (unfold smB; decide)
    · exact h
  · rw [List.mem_range]
    have hl : 0 < N'.length := (List.getElem?_eq_some_iff.1 (in_some a4).choose_spec).1 |> Nat.lt_of_le_of_lt (Nat.zero_le _)
    rcases a9 i hi with h | h
    · have h : i = 0 := h
      show i < N'.length
      omega
    · exact h.2
end Go.Proofs.Ytcgmapioelfneaa
namespace Go.Proofs.Ytcgmapioelfneaa
open Go.RowKit
set_option maxRecDepth 100000
set_option maxHeartbeats 1000000
/-! ### how deep -/
def Tr.deep : Tr → Nat
  | .leaf _ _ _ _ _ => 1
  | .node _ _ _ L R => 1 + max L.deep R.deep
theorem deep_late {l : List TriS} : ∀ (t : Tr) (f : Nat) (M : List Nat) (d h : Nat), 31 < d → t.Nic l f M d → M.length ≤ 4 * 2 ^ h → t.deep ≤ h + 1
  | .leaf _ _ _ _ _, _, _, _, h, _, _, _ => by rw [Tr.deep]; omega
  | .node _ _ _ L R, _, M, d, h, hd, hN, hM => by
    obtain ⟨X, Y, rfl, h1, h2, _, _, _, h4, h5⟩ := hN
    have h5 := h5 hd
    rw [List.length_append] at h4 h5 hM
    cases h with
    | zero => rw [Nat.pow_zero] at hM; omega
    | succ h =>
      rw [Nat.pow_succ] at hM
      have a1 := deep_late L _ X (d + 1) h (by omega) h1 (by omega)
      have a2 := deep_late R _ Y (d + 1) h (by omega) h2 (by omega)
      rw [Tr.deep]
      omega
theorem deep_early {l : List TriS} : ∀ (t : Tr) (f : Nat) (M : List Nat) (d : Nat), d ≤ 32 → t.Nic l f M d → M.length ≤ 4096 → t.deep ≤ (32 - d) + 11
  | .leaf _ _ _ _ _, _, _, _, _, _, _ => by rw [Tr.deep]; omega
  | .node i lo hi L R, f, M, d, hd, hN, hM => by
    by_cases h : 31 < d
    · have := deep_late (.node i lo hi L R) f M d 10 h hN (by omega)
      omega
    · obtain ⟨X, Y, rfl, h1, h2, _⟩ := hN
      rw [List.length_append] at hM
      have a1 := deep_early L _ X (d + 1) (by omega) h1 (by omega)
      have a2 := deep_early R _ Y (d + 1) (by omega) h2 (by omega)
      rw [Tr.deep]
      omega
theorem in_one {N : List NodeS} {K : List Nat} : ∀ (t t' : Tr), t.In N K → t'.In N K → t.ix = t'.ix → t = t'
  | .leaf i f c lo hi, .leaf i' f' c' lo' hi', h, h', he => by
    have he : i = i' := he
    subst he
    have := Option.some.inj (h.1.symm.trans h'.1)
    injection this with e1 e2 _ _ e5 e6
    obtain rfl : f = f' := by omega
    obtain rfl : c = c' := by omega
    subst e1 e2
    rfl
  | .leaf i f c lo hi, .node i' lo' hi' L R, h, h', he => by
    have he : i = i' := he
    subst he
    have := Option.some.inj (h.1.symm.trans h'.1)
    injection this with _ _ e3
    omega
  | .node i lo hi L R, .leaf i' f' c' lo' hi', h, h', he => by
    have he : i = i' := he
    subst he
    have := Option.some.inj (h.1.symm.trans h'.1)
    injection this with _ _ e3
    omega
  | .node i lo hi L R, .node i' lo' hi' L' R', h, h', he => by
    have he : i = i' := he
    subst he
    have := Option.some.inj (h.1.symm.trans h'.1)
    injection this with e1 e2 e3 e4
    rw [in_one L L' h.2.1 h'.2.1 (by omega), in_one R R' h.2.2 h'.2.2 (by omega), e1, e2]
/-! ### what lies at a node -/
theorem nic_at {N : List NodeS} {K : List Nat} {l : List TriS} : ∀ (T : Tr) (P M Q : List Nat) (d i : Nat), i ∈ T.ixs → T.In N K → T.Nic l P.length M d → K = P ++ (M ++ Q) →
    ∃ (t : Tr) (P' M' Q' : List Nat) (d' : Nat), t.ix = i ∧ t.In N K ∧ t.Nic l P'.length M' d' ∧ K = P' ++ (M' ++ Q') ∧ (∀ j ∈ t.ixs, j ∈ T.ixs)
  | .leaf j f c lo hi, P, M, Q, d, i, hi', hI, hG, hK => by
    simp only [Tr.ixs, List.mem_singleton] at hi'
    subst hi'
    exact ⟨_, P, M, Q, d, rfl, hI, hG, hK, fun _ h => h⟩
  | .node j lo hi L R, P, M, Q, d, i, hi', hI, hG, hK => by
    simp only [Tr.ixs, List.mem_cons, List.mem_append] at hi'
    rcases hi' with rfl | hi' | hi'
    · exact ⟨_, P, M, Q, d, rfl, hI, hG, hK, fun _ h => h⟩
    · obtain ⟨X, Y, rfl, hL, hR, _⟩ := hG
      obtain ⟨t, P', M', Q', d', h1, h2, h3, h4, h5⟩ := nic_at L P X (Y ++ Q) (d + 1) i hi' hI.2.1 hL (by rw [hK]; simp)
      exact ⟨t, P', M', Q', d', h1, h2, h3, h4, fun j hj => by simp only [Tr.ixs, List.mem_cons, List.mem_append]; exact .inr (.inl (h5 j hj))⟩
    · obtain ⟨X, Y, rfl, hL, hR, _⟩ := hG
      obtain ⟨t, P', M', Q', d', h1, h2, h3, h4, h5⟩ := nic_at R (P ++ X) Y Q (d + 1) i hi' hI.2.2 (by rw [List.length_append]; exact hR) (by rw [hK]; simp)
      exact ⟨t, P', M', Q', d', h1, h2, h3, h4, fun j hj => by simp only [Tr.ixs, List.mem_cons, List.mem_append]; exact .inr (.inr (h5 j hj))⟩
/-! ### how often led on to, how often covered -/
def sumF (f : Nat → Nat) (l : List Nat) : Nat := (l.map f).sum
theorem sumF_cons (f : Nat → Nat) (x : Nat) (l : List Nat) : sumF f (x :: l) = f x + sumF f l := by simp [sumF]
theorem sumF_app (f : Nat → Nat) (l r : List Nat) : sumF f (l ++ r) = sumF f l + sumF f r := by simp [sumF]
theorem sumF_perm {f : Nat → Nat} {l r : List Nat} (h : l.Perm r) : sumF f l = sumF f r := (h.map f).sum_nat
theorem sumF_zero {f : Nat → Nat} : ∀ {l : List Nat}, (∀ x ∈ l, f x = 0) → sumF f l = 0
  | [], _ => rfl
  | x :: l, h => by rw [sumF_cons, h x (by simp), sumF_zero fun y hy => h y (by simp [hy])]
def nodeAt (N : List NodeS) (i : Nat) : NodeS := N.getD i zN
theorem nodeAt_of {N : List NodeS} {i : Nat} {n : NodeS} (h : N[i]? = some n) : nodeAt N i = n := by unfold nodeAt; rw [List.getD_eq_getElem?_getD, h]; rfl
/-- How often node i leads on to node q. -/
def parF (N : List NodeS) (q i : Nat) : Nat := (if (nodeAt N i).left = (q : Int) then 1 else 0) + (if (nodeAt N i).right = (q : Int) then 1 else 0)
/-- Does the leaf i cover place k of the order? -/
def covF (N : List NodeS) (k i : Nat) : Nat := if (nodeAt N i).left = -1 ∧ (nodeAt N i).first ≤ (k : Int) ∧ (k : Int) < (nodeAt N i).first + (nodeAt N i).count then 1 else 0
theorem par_tree {N : List NodeS} {K : List Nat} (q : Nat) : ∀ t : Tr, t.In N K → t.ixs.Nodup → sumF (parF N q) t.ixs = if q ∈ t.ixs ∧ q ≠ t.ix then 1 else 0
  | .leaf i f c lo hi, h, _ => by
    have hn := nodeAt_of h.1
    rw [Tr.ixs, sumF_cons, if_neg (by simp [Tr.ix])]
    unfold parF
    rw [hn, if_neg (by dsimp only; omega)]
    rfl
  | .node i lo hi L R, h, hd => by
    have hn := nodeAt_of h.1
    rw [Tr.ixs, List.nodup_cons, List.nodup_append] at hd
    obtain ⟨d1, d2, d3, d4⟩ := hd
    have hL := par_tree q L h.2.1 d2
    have hR := par_tree q R h.2.2 d3
    rw [Tr.ixs, sumF_cons, sumF_app, hL, hR]
    have mL := L.ix_mem
    have mR := R.ix_mem
    have hne : L.ix ≠ R.ix := d4 _ mL _ mR
    have hiL : i ≠ L.ix := fun he => d1 (List.mem_append.2 (.inl (by rw [he]; exact mL)))
    have hiR : i ≠ R.ix := fun he => d1 (List.mem_append.2 (.inr (by rw [he]; exact mR)))
    have hp : parF N q i = (if L.ix = q then 1 else 0) + (if R.ix = q then 1 else 0) := by
      unfold parF
      rw [hn]
      simp only [Int.ofNat_inj]
    rw [hp]
    have one : ∀ t : Tr, (if q ∈ t.ixs ∧ q ≠ t.ix then 1 else 0) + (if t.ix = q then 1 else 0) = if q ∈ t.ixs then 1 else 0 := fun t => by
      by_cases h1 : q ∈ t.ixs
      · by_cases h2 : t.ix = q
        · rw [if_neg (fun h => h.2 h2.symm), if_pos h2, if_pos h1]
        · rw [if_pos ⟨h1, fun h => h2 h.symm⟩, if_neg h2, if_pos h1]
      · rw [if_neg (fun h => h1 h.1), if_neg (fun h => h1 (by rw [← h]; exact t.ix_mem)), if_neg h1]
    have o1 := one L
    have o2 := one R
    have o3 : (if q ∈ i :: (L.ixs ++ R.ixs) ∧ q ≠ (Tr.node i lo hi L R).ix then 1 else 0) = (if q ∈ L.ixs then 1 else 0) + (if q ∈ R.ixs then 1 else 0) := by
      by_cases q1 : q ∈ L.ixs
      · have q2 : q ∉ R.ixs := fun hq => d4 q q1 q hq rfl
        have q3 : q ≠ i := fun he => d1 (List.mem_append.2 (.inl (by rw [← he]; exact q1)))
        rw [if_pos ⟨by simp [q1], q3⟩, if_pos q1, if_neg q2]
      · by_cases q2 : q ∈ R.ixs
        · have q3 : q ≠ i := fun he => d1 (List.mem_append.2 (.inr (by rw [← he]; exact q2)))
          rw [if_pos ⟨by simp [q2], q3⟩, if_neg q1, if_pos q2]
        · rw [if_neg (fun h => ?_), if_neg q1, if_neg q2]
          rcases List.mem_cons.1 h.1 with h1 | h1
          · exact h.2 h1
          · rcases List.mem_append.1 h1 with h1 | h1
            · exact q1 h1
            · exact q2 h1
    rw [o3, ← o1, ← o2]
    omega
theorem cov_tree {N : List NodeS} {K : List Nat} {l : List TriS} (k : Nat) : ∀ (t : Tr) (f : Nat) (M : List Nat) (d : Nat), t.In N K → t.Nic l f M d → sumF (covF N k) t.ixs = if f ≤ k ∧ k < f + M.length then 1 else 0
  | .leaf i f c lo hi, f0, M, d, h, hN => by
    have hn := nodeAt_of h.1
    obtain ⟨⟨rfl, rfl, _⟩, _⟩ := hN
    rw [Tr.ixs, sumF_cons]
    unfold covF
    rw [hn]
    dsimp only
    show _ + 0 = _
    rw [Nat.add_zero]
    by_cases hk : f ≤ k ∧ k < f + M.length
    · rw [if_pos hk, if_pos ⟨rfl, by omega, by omega⟩]
    · rw [if_neg hk, if_neg fun hh => hk ⟨by omega, by omega⟩]
  | .node i lo hi L R, f, M, d, h, hN => by
    have hn := nodeAt_of h.1
    obtain ⟨X, Y, rfl, h1, h2, _⟩ := hN
    have hL := cov_tree k L _ _ _ h.2.1 h1
    have hR := cov_tree k R _ _ _ h.2.2 h2
    rw [Tr.ixs, sumF_cons, sumF_app, hL, hR, List.length_append]
    have : covF N k i = 0 := by
      unfold covF
      rw [hn, if_neg fun hh => (by have := hh.1; dsimp only at this; omega)]
    rw [this]
    by_cases a1 : f ≤ k ∧ k < f + X.length
    · rw [if_pos a1, if_neg (by omega), if_pos (by omega)]
    · by_cases a2 : f + X.length ≤ k ∧ k < f + X.length + Y.length
      · rw [if_neg a1, if_pos a2, if_pos (by omega)]
      · rw [if_neg a1, if_neg a2, if_neg (by omega)]
end Go.Proofs.Ytcgmapioelfneaa
namespace Go.Proofs.Ytcgmapioelfneaa
open Go.RowKit
set_option maxRecDepth 100000
set_option maxHeartbeats 1000000
def Tr.fst : Tr → Nat
  | .leaf _ f _ _ _ => f
  | .node _ _ _ L _ => L.fst
def Tr.cnt : Tr → Nat
  | .leaf _ _ c _ _ => c
  | .node _ _ _ L R => L.cnt + R.cnt
theorem nic_fst {l : List TriS} : ∀ (t : Tr) (f : Nat) (M : List Nat) (d : Nat), t.Nic l f M d → t.fst = f ∧ t.cnt = M.length
  | .leaf _ _ _ _ _, _, _, _, h => ⟨h.1.1, h.1.2.1⟩
  | .node _ _ _ L R, f, M, d, h => by
    obtain ⟨X, Y, rfl, h1, h2, _⟩ := h
    have a1 := nic_fst L _ _ _ h1
    have a2 := nic_fst R _ _ _ h2
    rw [Tr.fst, Tr.cnt, List.length_append, a1.1, a1.2, a2.2]
    exact ⟨rfl, rfl⟩
open Classical in
noncomputable def subT (N : List NodeS) (K : List Nat) (i : Nat) : Tr := if h : ∃ t : Tr, t.In N K ∧ t.ix = i then h.choose else .leaf 0 0 0 zP zP
theorem subT_of {N : List NodeS} {K : List Nat} {t : Tr} (h : t.In N K) : subT N K t.ix = t := by
  unfold subT
  have hx : ∃ t' : Tr, t'.In N K ∧ t'.ix = t.ix := ⟨t, h, rfl⟩
  rw [dif_pos hx]
  exact in_one _ _ hx.choose_spec.1 h hx.choose_spec.2
/-- A leaf, or a node that leads on. -/
def LeafN (l : List TriS) (K : List Nat) (n : NodeS) (f c : Nat) : Prop := n.left = -1 ∧ n.right = -1 ∧ n.first = (f : Int) ∧ n.count = (c : Int) ∧ 1 ≤ c ∧ f + c ≤ l.length ∧ (c ≤ 4 ∨ sameM l ((K.drop f).take c))
def ForkN (N : List NodeS) (i : Nat) (n : NodeS) (L R : Nat) : Prop := n.left = (L : Int) ∧ n.right = (R : Int) ∧ n.first = 0 ∧ n.count = 0 ∧ i < L ∧ i < R ∧ L < N.length ∧ R < N.length
structure SoundF (l : List TriS) (N : List NodeS) (K : List Nat) (M : Nat → List Nat) (D : Nat → Nat) : Prop where
  nodes : ∀ (i : Nat) (n : NodeS), N[i]? = some n → (∃ f c, LeafN l K n f c ∧ M i = (K.drop f).take c ∧ D i = 1) ∨ (∃ L R, ForkN N i n L R ∧ M i = M L ++ M R ∧ D i = 1 + max (D L) (D R))
  box : ∀ (i : Nat) (n : NodeS), N[i]? = some n → BBx l (M i) (n.lo, n.hi)
  small : ∀ (i : Nat) (n : NodeS), N[i]? = some n → smN n
  perm : K.Perm (List.range l.length)
  par : ∀ q, sumF (parF N q) (List.range N.length) = if q < N.length ∧ q ≠ 0 then 1 else 0
  cov : ∀ k, sumF (covF N k) (List.range N.length) = if k < l.length then 1 else 0
  nz : N.length = 0 ↔ l.length = 0
  nl : N.length ≤ 2 * l.length
  deep : D 0 ≤ 64
  deeps : ∀ i, D i ≤ 1000000
  sub : ∀ i, (M i).Sublist K
theorem sound_of (l : List TriS) (hnr : ∀ t ∈ l, nearT t) (h4 : l.length ≤ 4096) : ∃ M D, SoundF l (treeL l).1 (treeL l).2 M D := by
  by_cases h0 : 0 < l.length
  · obtain ⟨T, a1, a2, a3, a4, a5, a6, a7⟩ := nic_of l h0 hnr
    generalize (treeL l).1 = N at *
    generalize (treeL l).2 = K at *
    have hKl : K.length = l.length := by rw [a4.length_eq, List.length_range]
    have hnod : T.ixs.Nodup := a7.nodup_iff.2 List.nodup_range
    have hmem : ∀ j, j ∈ T.ixs ↔ j < N.length := fun j => (a7.mem_iff (a := j)).trans List.mem_range
    have hat : ∀ (i : Nat) (n : NodeS), N[i]? = some n → ∃ (t : Tr) (P M Q : List Nat) (d : Nat), t.ix = i ∧ t.In N K ∧ t.Nic l P.length M d ∧ K = P ++ (M ++ Q) ∧ (∀ j ∈ t.ixs, j < N.length) ∧ subT N K i = t ∧ (K.drop t.fst).take t.cnt = M := by
      intro i n hn
      obtain ⟨t, P, M, Q, d, h1, h2, h3, h4, h5⟩ := nic_at T [] K [] 1 i ((hmem i).2 (List.getElem?_eq_some_iff.1 hn).1) a1 a3 (by simp)
      obtain ⟨e1, e2⟩ := nic_fst t _ _ _ h3
      exact ⟨t, P, M, Q, d, h1, h2, h3, h4, fun j hj => (hmem j).1 (h5 j hj), by rw [← h1]; exact subT_of h2, by rw [e1, e2, h4, List.drop_left, List.take_left]⟩
    have hnic : ∀ (T : Tr) (f : Nat) (M : List Nat) (d : Nat), T.Nic l f M d → T.nodes ≤ 2 * M.length - 1 ∧ 1 ≤ M.length := by
      intro T
      induction T with
      | leaf i f c lo hi =>
        intro f0 M d h
        obtain ⟨⟨_, h2, h3, _⟩, _⟩ := h
        rw [Tr.nodes]
        omega
      | node i lo hi L R ihL ihR =>
        intro f0 M d h
        obtain ⟨X, Y, rfl, h1, h2, _⟩ := h
        have := ihL _ _ _ h1
        have := ihR _ _ _ h2
        rw [Tr.nodes, List.length_append]
        omega
    have hnodes : N.length ≤ 2 * l.length := by
      have := hnic T 0 K 1 a3
      omega
    refine ⟨fun i => (K.drop (subT N K i).fst).take (subT N K i).cnt, fun i => if i < N.length then (subT N K i).deep else 0, ⟨fun i n hn => ?_, fun i n hn => ?_, fun i n hn => a6 n (List.mem_of_getElem? hn), a4, fun q => ?_, fun k => ?_, ?_, hnodes, ?_, fun i => ?_, fun i => (List.take_sublist _ _).trans (List.drop_sublist _ _)⟩⟩
    · obtain ⟨t, P, M, Q, d, rfl, h2, h3, h4', h5, h6, h7⟩ := hat i n hn
      rw [h6, if_pos (List.getElem?_eq_some_iff.1 hn).1]
      cases t with
      | leaf i f c lo hi =>
        left
        have hh := Option.some.inj (hn.symm.trans h2.1)
        subst hh
        obtain ⟨⟨rfl, rfl, c1, _⟩, c2⟩ := h3
        refine ⟨P.length, M.length, ⟨rfl, rfl, rfl, rfl, c1, by rw [← hKl]; exact h2.2, ?_⟩, rfl, rfl⟩
        rw [show (K.drop P.length).take M.length = M by rw [h4', List.drop_left, List.take_left]]
        exact c2
      | node i lo hi L R =>
        right
        have hh := Option.some.inj (hn.symm.trans h2.1)
        subst hh
        have hcK : ∀ (t : Tr) (f : Nat) (X A B : List Nat) (d : Nat), t.Nic l f X d → K = A ++ (X ++ B) → f = A.length → (K.drop t.fst).take t.cnt = X := fun t f X A B d hN hK hf => by
          obtain ⟨e1, e2⟩ := nic_fst t _ _ _ hN
          rw [e1, e2, hf, hK, List.drop_left, List.take_left]
        obtain ⟨X, Y, rfl, b1, b2, b3, b4, b5, b6, b7⟩ := h3
        refine ⟨L.ix, R.ix, ⟨rfl, rfl, rfl, rfl, b4, b5, h5 _ (by simp [Tr.ixs, L.ix_mem]), h5 _ (by simp [Tr.ixs, R.ix_mem])⟩, ?_, ?_⟩
        · rw [h7, subT_of h2.2.1, subT_of h2.2.2, hcK L _ X P (Y ++ Q) _ b1 (by rw [h4']; simp) rfl, hcK R _ Y (P ++ X) Q _ b2 (by rw [h4']; simp) (by rw [List.length_append])]
        · rw [if_pos (h5 _ (by simp [Tr.ixs, L.ix_mem])), if_pos (h5 _ (by simp [Tr.ixs, R.ix_mem])), subT_of h2.2.1, subT_of h2.2.2]
          rfl
    · obtain ⟨t, P, M, Q, d, rfl, h2, h3, h4', h5, h6, h7⟩ := hat i n hn
      rw [h6, h7]
      cases t with
      | leaf i f c lo hi =>
        have hh := Option.some.inj (hn.symm.trans h2.1)
        subst hh
        exact h3.1.2.2.2
      | node i lo hi L R =>
        have hh := Option.some.inj (hn.symm.trans h2.1)
        subst hh
        obtain ⟨X, Y, rfl, _, _, b3, _⟩ := h3
        exact b3
    · rw [← sumF_perm a7, par_tree q T a1 hnod, a2]
      by_cases hq : q ∈ T.ixs ∧ q ≠ 0
      · rw [if_pos hq, if_pos ⟨(hmem q).1 hq.1, hq.2⟩]
      · rw [if_neg hq, if_neg fun hh => hq ⟨(hmem q).2 hh.1, hh.2⟩]
    · rw [← sumF_perm a7, cov_tree k T 0 K 1 a1 a3, hKl]
      by_cases hk : k < l.length
      · rw [if_pos hk, if_pos (by omega)]
      · rw [if_neg hk, if_neg (by omega)]
    · have : 0 < N.length := by
        have := (hmem T.ix).1 T.ix_mem
        omega
      omega
    · have hs := subT_of a1
      rw [a2] at hs
      rw [hs]
      have := deep_early T 0 K 1 (by omega) a3 (by omega)
      split <;> omega
    · have hdn : ∀ t : Tr, t.deep ≤ t.nodes := fun t => by
        induction t with
        | leaf i f c lo hi => exact Nat.le_refl _
        | node i lo hi L R ihL ihR => rw [Tr.deep, Tr.nodes]; omega
      split
      · obtain ⟨n, hn⟩ : ∃ n, N[i]? = some n := ⟨_, List.getElem?_eq_getElem (by assumption)⟩
        obtain ⟨t, P, M, Q, d, rfl, h2, h3, h4', h5, h6, h7⟩ := hat i n hn
        rw [h6]
        have h8 := hnic t _ _ _ h3
        have h9 : K.length = P.length + (M.length + Q.length) := by rw [h4', List.length_append, List.length_append]
        have := hdn t
        omega
      · omega
  · obtain rfl := List.eq_nil_of_length_eq_zero (show l.length = 0 by omega)
    exact ⟨fun _ => [], fun _ => 0, fun i n hn => (by cases i <;> cases hn), fun i n hn => (by cases i <;> cases hn), fun i n hn => (by cases i <;> cases hn), List.Perm.refl _, fun q => rfl, fun k => rfl, Iff.rfl, Nat.le_refl _, by decide, fun i => Nat.zero_le _, fun i => List.nil_sublist _⟩
end Go.Proofs.Ytcgmapioelfneaa
namespace Go.Proofs.Ytcgmapioelfneaa
open Go.RowKit
set_option maxRecDepth 100000
set_option maxHeartbeats 1000000
/-- All values as they are now. -/
def closeT (e : Env) (t : List (Nat × SV)) : List (Nat × SV) := t.map fun p => (p.1, SV.c (p.2.den e))
theorem look_closeT (e : Env) (i : Nat) : ∀ t : List (Nat × SV), look (closeT e t) i = (look t i).map fun v => SV.c (v.den e)
  | [] => rfl
  | (j, x) :: l => by
    show look ((j, SV.c (x.den e)) :: closeT e l) i = _
    rw [look_cons, look_cons, look_closeT e i l]
    split <;> rfl
section
variable {C : Ctx} {S : St}
theorem tri_close {P : Program} {c : Code} {Q : Exit → Act → World → Prop} (hm : C.m = []) (h : ∀ (e : Env) (w : World), Below C.w0.heap.size C.w0 w → (∀ n r, S.res n = some r → r.ok e w) → Tri ⟨C.nt, w, []⟩ P ⟨closeT e S.t, []⟩ c Q) : Tri C P S c Q := fun e a w hS => by
  refine h e w (hS.frame.below hm) hS.res e a w ⟨hS.defers, hS.size, fun i v hv => ?_, fun n r hr => (by cases hr), fun n r hr => (by cases hr), fun n m r r' hr => (by cases hr), ⟨rfl, rfl, rfl, Nat.le_refl _, fun _ _ _ => rfl⟩⟩
  have hv : look (closeT e S.t) i = some v := hv
  rw [look_closeT] at hv
  cases hl : look S.t i with
  | none => rw [hl] at hv; cases hv
  | some u =>
    rw [hl] at hv
    obtain rfl := Option.some.inj hv
    exact hS.tmp i u hl
end
theorem below_andThen {w w' w'' : World} (h : Below w.heap.size w w') (h' : Below w'.heap.size w' w'') : Below w.heap.size w w'' :=
  ⟨h'.os.trans h.os, h'.tape.trans h.tape, h'.output.trans h.output, Nat.le_trans h.size h'.size, fun k hk => (h'.block k (Nat.lt_of_lt_of_le hk h.size)).trans (h.block k hk)⟩
theorem FS.anew {w w' : World} {size : Nat} {v : Value} {n : Nat} {xs : List Value} (h : FS w size v n xs) (hs : 0 < size) (hb : Below w.heap.size w w') : FS w' size v n xs := h.later hs hb.block
theorem fs_ownN {w : World} {T size len : Nat} {v : Value} {xs : List Value} (h : w.ownsRow 0 T size v len xs) : FS w size v len xs := by
  refine ⟨⟨h.1, ?_⟩, ?_⟩
  · rcases h.2 with ⟨h1, h2⟩ | ⟨g, cap, cur, h1, _, h3, _, _, _, h4⟩
    · exact ⟨none, 0, by rw [h1, h2], .inl h2⟩
    · refine ⟨some ⟨g, 0, none⟩, cap, h1, .inr ⟨g, 0, rfl, fun j u hu => ?_⟩⟩
      have := h.cells (g := g) (by rw [h1]; rfl) j u hu
      rwa [add_place] at this
  · rcases h.2 with ⟨h1, h2⟩ | ⟨g, cap, cur, h1, _, h3, hle, _, _, h4⟩
    · exact ⟨none, 0, by rw [h1, h2], by omega⟩
    · exact ⟨_, cap, h1, hle⟩
/-- A block, told as a slice of one row. -/
def blkV (b : Nat) : Value := .slice (some ⟨b, 0, none⟩) 1 1
theorem fs_blkN {e : Env} {w : World} {n T : Nat} {A : SA} {cells : Array Value} (h : (Res.blk n T A).ok e w) (hA : A.den e = cells) : FS w cells.size (blkV (e n).b) 1 cells.toList := by
  obtain ⟨fr, h1, _⟩ := h
  rw [hA] at h1
  refine ⟨⟨by simp, some ⟨(e n).b, 0, none⟩, 1, rfl, .inr ⟨(e n).b, 0, rfl, fun j u hu => ?_⟩⟩, some ⟨(e n).b, 0, none⟩, 1, rfl, Nat.le_refl 1⟩
  rw [Nat.zero_add]
  refine (cell_of_row w (e n).b j cells T fr h1).trans ?_
  rw [← Array.getElem?_toList]; exact hu
/-- The end of a walk that was begun anew. -/
theorem fin_anew {S : St} {u : Value} {V : SV} {w0 w1 : World} {n : Nat} (hb : Below w0.heap.size w0 w1) (h : ∀ e, V.den e = u) : ∀ e a w, Holds ⟨n, w1, []⟩ S e a w → (fun r w' => r = Ending.returned u ∧ Below w0.heap.size w0 w') (.returned (V.den e)) w := fun e a w hS =>
  ⟨by rw [h e], below_andThen hb (hS.frame.below rfl)⟩
end Go.Proofs.Ytcgmapioelfneaa
