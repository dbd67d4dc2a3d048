/- A tree of a few triangles is one leaf: walked. No condition. The first that answers yes; the part of an axis; a coordinate; the middle of a triangle: walked. No condition. -/
import Derived.Test.YtcgmapioelfneaaMgTre2
import Derived.Test.YtcgmapioelfneaaMgSwp7
import Derived.Test.YtcgmapioelfneaaMgSymAH
import Derived.Test.YtcgmapioelfneaaMgSrt7
namespace Go.Proofs.Ytcgmapioelfneaa
open Go.RowKit
set_option maxRecDepth 100000
set_option maxHeartbeats 1000000
/-- Handed back: a struct that holds two new slices, and a value. -/
def RetB (w : World) (T1 s1 n1 : Nat) (xs1 : List Value) (T2 s2 n2 : Nat) (xs2 : List Value) (G : Value → Value → Array Value) (u : Value) : Ending → World → Prop := fun r w' => ∃ v1 v2, r = .returned (.tuple #[.agg (G v1 v2), u]) ∧ w'.ownsRow w.heap.size T1 s1 v1 n1 xs1 ∧ w'.ownsRow w.heap.size T2 s2 v2 n2 xs2 ∧ (∀ x, v1.ownBlock = some x → v2.ownBlock ≠ some x) ∧ Below w.heap.size w w'
section
variable {C : Ctx} {S : St}
theorem own_high {nt q T size len : Nat} {xs : List Value} {w0 w : World} {e : Env} {a : Act} (hS : Holds ⟨nt, w0, []⟩ S e a w) (hr : S.res q = some (.own q T size len xs)) : w.ownsRow w0.heap.size T size (e q).v len xs := by
  have hok : w.ownsRow 0 T size (e q).v len xs := hS.res q _ hr
  refine ⟨hok.1, ?_⟩
  rcases hok.2 with h | ⟨g, cap, cur, hv, _, h⟩
  · exact .inl h
  · refine .inr ⟨g, cap, cur, hv, ?_, h⟩
    rcases hS.mine q _ hr rfl g (by show (e q).v.ownBlock = some g; rw [hv]; rfl) with h | h
    · exact h
    · cases h
theorem fin_B {nt q1 q2 T1 s1 n1 T2 s2 n2 : Nat} {xs1 xs2 : List Value} {w0 : World} {G : Value → Value → Array Value} {V : SV} {u : Value} (h1 : S.res q1 = some (.own q1 T1 s1 n1 xs1)) (h2 : S.res q2 = some (.own q2 T2 s2 n2 xs2)) (hne : Nat.beq q1 q2 = false) (hV : ∀ e : Env, V.den e = .tuple #[.agg (G (e q1).v (e q2).v), u]) : ∀ e a w, Holds ⟨nt, w0, []⟩ S e a w → RetB w0 T1 s1 n1 xs1 T2 s2 n2 xs2 G u (.returned (V.den e)) w := fun e a w hS => by
  have hq : q1 ≠ q2 := by intro h; subst h; simp at hne
  refine ⟨(e q1).v, (e q2).v, by rw [hV e], own_high hS h1, own_high hS h2, fun x hx hx2 => ?_, hS.frame.below rfl⟩
  exact hS.sep q1 q2 _ _ h1 h2 hq rfl x hx hx2
theorem ent_nilG {t : List (Nat × SV)} {h : List (Nat × Option Res)} {n q : Nat} {T T0 : TypeId} {A : SA} (size : Nat) (A' : SA) (hr : (St.mk t h).res n = some (.blk n T A)) (hA : ∀ e : Env, (e q).v = .slice none 0 0 → A'.den e = A.den e) (hf : freshB ⟨t, h⟩ q = true) (hnq : Nat.beq n q = false) : Ents C ⟨t, h⟩ ⟨t, (n, some (.blk n T A')) :: (q, some (.own q T0 size 0 [])) :: h⟩ := fun e a w hS => by
  have hfr := freshB_spec hf
  have hne : n ≠ q := by intro h; subst h; simp at hnq
  have h1 := hS.rename hfr ⟨0, 0, .slice none 0 0⟩
  have hnb : (e.set q ⟨0, 0, .slice none 0 0⟩) n = e n := Env.set_ne _ _ hne
  have hfo : ∀ b, ¬ (Res.own q T0 size 0 []).foot (e.set q ⟨0, 0, .slice none 0 0⟩) b := by
    intro b hb
    have hb : ((e.set q ⟨0, 0, .slice none 0 0⟩) q).v.ownBlock = some b := hb
    rw [Env.set_self] at hb; cases hb
  have hres : ∀ k r, (St.mk t ((n, some (.blk n T A')) :: (q, some (.own q T0 size 0 [])) :: h)).res k = some r → (k = n ∧ r = .blk n T A') ∨ (k = q ∧ r = .own q T0 size 0 []) ∨ (St.mk t h).res k = some r := fun k r hk => by
    rw [St.res_cons] at hk
    split at hk
    · rename_i h; cases hk; exact .inl ⟨h.symm, rfl⟩
    · rw [St.res_cons] at hk
      split at hk
      · rename_i h; cases hk; exact .inr (.inl ⟨h.symm, rfl⟩)
      · exact .inr (.inr hk)
  have hold : ∀ k r, (St.mk t h).res k = some r → ∃ r0, (St.mk t h).res k = some r0 ∧ r0 = r := fun k r hk => ⟨r, hk, rfl⟩
  obtain ⟨fr, hB0, hfz⟩ := res_blk h1 hr
  have hden : A'.den (e.set q ⟨0, 0, .slice none 0 0⟩) = A.den (e.set q ⟨0, 0, .slice none 0 0⟩) := hA _ (by rw [Env.set_self])
  have hbl : (Res.blk n T A').ok (e.set q ⟨0, 0, .slice none 0 0⟩) w := by
    refine ⟨fr, ?_, hfz⟩
    rw [hden]
    exact hB0
  have hbf : ∀ b, (Res.blk n T A').foot (e.set q ⟨0, 0, .slice none 0 0⟩) b → (Res.blk n T A).foot (e.set q ⟨0, 0, .slice none 0 0⟩) b := fun b hb => hb
  refine ⟨e.set q ⟨0, 0, .slice none 0 0⟩, h1.defers, h1.size, h1.tmp, fun k r hk => ?_, fun k r hk hw b hb => ?_, fun k m r r' hk hm hkm hw b hb hb' => ?_, h1.frame⟩
  · rcases hres k r hk with ⟨rfl, rfl⟩ | ⟨rfl, rfl⟩ | h
    · exact hbl
    · show w.ownsRow 0 T0 size _ 0 []
      rw [Env.set_self]
      exact ⟨by simp, .inl ⟨rfl, rfl⟩⟩
    · exact h1.res k r h
  · rcases hres k r hk with ⟨rfl, rfl⟩ | ⟨rfl, rfl⟩ | h
    · exact h1.mine _ _ hr rfl b (hbf b hb)
    · exact (hfo b hb).elim
    · exact h1.mine k r h hw b hb
  · rcases hres k r hk with ⟨rfl, rfl⟩ | ⟨rfl, rfl⟩ | h
    · rcases hres m r' hm with ⟨rfl, rfl⟩ | ⟨rfl, rfl⟩ | h'
      · exact hkm rfl
      · exact hfo b hb'
      · exact h1.sep _ m _ r' hr h' hkm rfl b (hbf b hb) hb'
    · exact hfo b hb
    · rcases hres m r' hm with ⟨rfl, rfl⟩ | ⟨rfl, rfl⟩ | h'
      · exact h1.sep k _ r _ h hr hkm hw b hb (hbf b hb')
      · exact hfo b hb'
      · exact h1.sep k m r r' h h' hkm hw b hb hb'
theorem ent_ownB {t : List (Nat × SV)} {h : List (Nat × Option Res)} {n m0 q sz len : Nat} {T T0 : TypeId} {A : Array Value} {A0 : SA} (A0' : SA) (hr : (St.mk t h).res n = some (.blk n T (.c A))) (hr0 : (St.mk t h).res m0 = some (.blk m0 T0 A0)) (hA : A.size = len * sz) (hf : freshB ⟨t, h⟩ q = true) (hmn : Nat.beq m0 n = false) (hmax : len ≤ 1099511627776)
    (h0 : ∀ e : Env, (e q).v = .slice (some ⟨(e n).b, 0, none⟩) len len → A0'.den e = A0.den e) :
    Ents C ⟨t, h⟩ ⟨t, (n, none) :: (m0, some (.blk m0 T0 A0')) :: (q, some (.own q T sz len A.toList)) :: h⟩ := fun e a w hS => by
  have hfr := freshB_spec hf
  obtain ⟨V, hVe⟩ : ∃ V : Value, V = .slice (some ⟨(e n).b, 0, none⟩) len len := ⟨_, rfl⟩
  have h1 := hS.rename hfr ⟨0, 0, V⟩
  obtain ⟨fr, hb, hfr2⟩ := res_blk hS hr
  rw [hfr2 rfl] at hb
  have hqn : q ≠ n := fun he => hfr.2 n _ hr (by rw [he]; exact List.mem_cons_self)
  have hqm : q ≠ m0 := fun he => hfr.2 m0 _ hr0 (by rw [he]; exact List.mem_cons_self)
  have hmn1 : m0 ≠ n := by intro h; subst h; simp at hmn
  have hen : (e.set q ⟨0, 0, V⟩) n = e n := Env.set_ne e _ (Ne.symm hqn)
  have hfo : ∀ b, (Res.own q T sz len A.toList).foot (e.set q ⟨0, 0, V⟩) b → (Res.blk n T (.c A)).foot (e.set q ⟨0, 0, V⟩) b := by
    intro b hb
    have hb : ((e.set q ⟨0, 0, V⟩) q).v.ownBlock = some b := hb
    rw [Env.set_self, hVe] at hb
    show b = ((e.set q ⟨0, 0, V⟩) n).b
    rw [hen]
    exact (Option.some.inj hb).symm
  have hres : ∀ k r, (St.mk t ((n, none) :: (m0, some (.blk m0 T0 A0')) :: (q, some (.own q T sz len A.toList)) :: h)).res k = some r → (k = m0 ∧ r = .blk m0 T0 A0') ∨ (k = q ∧ r = .own q T sz len A.toList) ∨ (k ≠ n ∧ k ≠ m0 ∧ k ≠ q ∧ (St.mk t h).res k = some r) := fun k r hk => by
    rw [St.res_cons] at hk
    split at hk
    · cases hk
    · rename_i g1
      rw [St.res_cons] at hk
      split at hk
      · rename_i g2; cases hk; exact .inl ⟨g2.symm, rfl⟩
      · rename_i g2
        rw [St.res_cons] at hk
        split at hk
        · rename_i g3; cases hk; exact .inr (.inl ⟨g3.symm, rfl⟩)
        · rename_i g3
          exact .inr (.inr ⟨fun x => g1 x.symm, fun x => g2 x.symm, fun x => g3 x.symm, hk⟩)
  refine ⟨e.set q ⟨0, 0, V⟩, h1.defers, h1.size, h1.tmp, fun k r hk => ?_, fun k r hk hw b hb => ?_, fun k m r r' hk hm hne hw b hb hb' => ?_, h1.frame⟩
  · rcases hres k r hk with ⟨rfl, rfl⟩ | ⟨rfl, rfl⟩ | ⟨_, _, _, hk2⟩
    · obtain ⟨fr0, hB0, hfz⟩ := res_blk h1 hr0
      refine ⟨fr0, ?_, hfz⟩
      rw [h0 _ (by rw [Env.set_self, hen, hVe])]
      exact hB0
    · show w.ownsRow 0 T sz ((e.set k ⟨0, 0, V⟩) k).v len A.toList
      rw [Env.set_self, hVe]
      exact ⟨by rw [Array.length_toList, hA], .inr ⟨(e n).b, len, A, rfl, Nat.zero_le _, hb, Nat.le_refl _, by simp only [maxLen]; omega, hA, List.take_of_length_le (show A.toList.length ≤ len * sz from Nat.le_of_eq (by rw [Array.length_toList, hA]))⟩⟩
    · exact h1.res k r hk2
  · rcases hres k r hk with ⟨rfl, rfl⟩ | ⟨rfl, rfl⟩ | ⟨_, _, _, hk2⟩
    · exact h1.mine k _ hr0 rfl b hb
    · exact h1.mine n _ hr rfl b (hfo b hb)
    · exact h1.mine k r hk2 hw b hb
  · rcases hres k r hk with ⟨rfl, rfl⟩ | ⟨rfl, rfl⟩ | ⟨k1, k2, k3, hk2⟩
    · rcases hres m r' hm with ⟨rfl, rfl⟩ | ⟨rfl, rfl⟩ | ⟨m1, m2, m3, hm2⟩
      · exact hne rfl
      · exact h1.sep k n _ _ hr0 hr hmn1 rfl b hb (hfo b hb')
      · exact h1.sep k m _ r' hr0 hm2 hne rfl b hb hb'
    · rcases hres m r' hm with ⟨rfl, rfl⟩ | ⟨rfl, rfl⟩ | ⟨m1, m2, m3, hm2⟩
      · exact h1.sep n m _ _ hr hr0 (Ne.symm hmn1) rfl b (hfo b hb) hb'
      · exact hne rfl
      · exact h1.sep n m _ r' hr hm2 (Ne.symm m1) rfl b (hfo b hb) hb'
    · rcases hres m r' hm with ⟨rfl, rfl⟩ | ⟨rfl, rfl⟩ | ⟨m1, m2, m3, hm2⟩
      · exact h1.sep k m r _ hk2 hr0 k2 hw b hb hb'
      · exact h1.sep k n r _ hk2 hr k1 hw b hb (hfo b hb')
      · exact h1.sep k m r r' hk2 hm2 hne hw b hb hb'
theorem rdn_part {n size off : Nat} {T : TypeId} {wr : Bool} {k cap : Nat} {a : Array Value} (us : List Value) (hr : S.res n = some (.blk n T (.c a) wr)) (ha : (a.toList.drop off).take us.length = us) (hk : us.length = k * size) : RdN C S [n] size (.s n off k cap) k us := by
  intro S' e aa w h hS
  obtain ⟨fr, hb, _⟩ := res_blk hS ((h n (by simp)).trans hr)
  refine ⟨hk, some ⟨(e n).b, off, none⟩, cap, rfl, .inr ⟨(e n).b, off, rfl, fun j u hu => ?_⟩⟩
  have hj : j < us.length := (List.getElem?_eq_some_iff.1 hu).1
  rw [cell_of_row w _ _ _ _ _ hb]
  rw [← ha, List.getElem?_take_of_lt hj, List.getElem?_drop] at hu
  simpa [SA.c] using hu
theorem rdn_subV {n sz : Nat} {T : TypeId} {len cnt : Nat} {xs : List Value} (hr : S.res n = some (.own n T sz len xs)) (hc : cnt ≤ len) : RdN C S [n] sz (.sub n 0 cnt) cnt (xs.take (cnt * sz)) := by
  intro S' e a w h hS
  have hok : w.ownsRow 0 T sz (e n).v len xs := hS.res n _ ((h n (by simp)).trans hr)
  have hm := Nat.mul_le_mul_right sz hc
  refine ⟨by rw [List.length_take, hok.1]; omega, ?_⟩
  show ∃ a c, cutV (e n).v 0 cnt = .slice a cnt c ∧ _
  rcases hok.2 with ⟨h1, h2⟩ | ⟨g, cap, cur, h1, _, h3, _, _, _, h4⟩
  · rw [h1]; exact ⟨_, _, rfl, .inl (by omega)⟩
  · rw [h1]
    refine ⟨_, _, rfl, ?_⟩
    by_cases hcl : cap = 0
    · left; omega
    · right
      refine ⟨g, 0, by rw [if_neg hcl]; rfl, fun j u hu => ?_⟩
      rw [List.getElem?_take] at hu
      split at hu
      · rename_i hj
        rw [← h4, List.getElem?_take] at hu
        split at hu
        · rw [Nat.zero_add, cell_of_row w g j cur T (0, 0) h3, ← Array.getElem?_toList]
          exact hu
        · cases hu
      · cases hu
theorem op_storeB {ty : TypeId} {x y : Operand} {n q1 q2 : Nat} {T T1 s1 n1 T2 s2 n2 : Nat} {xs1 xs2 : List Value} {A : SA} {v : SV} {o : Oper} {ops : Array Oper} (ho : o.op = .store ty x y) (hg : o.guard = none) (hdst : o.dst = none) (hx : S.ev x = some (.p n 0)) (hy : S.ev y = some v) (hv : ∀ e : Env, v.den e = .agg #[(e q1).v, (e q2).v]) (hr : S.res n = some (.blk n T A)) (h1 : S.res q1 = some (.own q1 T1 s1 n1 xs1)) (h2 : S.res q2 = some (.own q2 T2 s2 n2 xs2))
    (hi' : tabLook sizT ty = some 2) (hm : ∀ e, (A.den e).size = 2 := by (fail_if_success (with_reducible apply trap_sm)); first | ((with_reducible apply sm_vals); exact (by first | omega | (simp; omega) | (simp <;> fail) | omega)) | ((with_reducible apply sm_c); first | (with_reducible assumption) | rfl) | ((with_reducible apply sm_l); rfl)) :
    OpG C Try.prog ops o S ⟨opT x ++ opT y, [n, q1, q2], [], [(n, some (.blk n T (.l [.v q1, .v q2])))], []⟩ := by
  have hi := tabAll_look sizT_ok hi'
  refine opG_mk hg fun S' g1 g2 g3 e a w hS => ?_
  have hev : a.eval x = .pointer (some ⟨(e n).b, 0, none⟩) := hS.ev ((ev_like g1 fun _ h => List.mem_append_left _ h).trans hx)
  have hevy : a.eval y = .agg #[(e q1).v, (e q2).v] := (hS.ev ((ev_like g1 fun _ h => List.mem_append_right _ h).trans hy)).trans (hv e)
  have hr' := (g2 n (by simp)).trans hr
  have o1 : (e q1).v.oneCell' = true := one_own ((g2 q1 (by simp)).trans h1) S' e a w (C := C) hS (fun _ _ => rfl) |>.2
  have o2 : (e q2).v.oneCell' = true := one_own ((g2 q2 (by simp)).trans h2) S' e a w (C := C) hS (fun _ _ => rfl) |>.2
  obtain ⟨fr, hb, hfr⟩ := res_blk hS hr'
  rw [hfr rfl] at hb
  refine wp_store_row ty x y ho (e n).b #[(e q1).v, (e q2).v] hev hevy T (A.den e) hb (by rw [hi]; rfl) (by rw [hm e]; rfl) (by simp [o1, o2]) ⟨e, ?_⟩
  rw [hdst]
  refine hS.write hr' rfl rfl rfl (by simp) ?_ (fun k hk => setRow_other w _ k _ hk)
  exact setRow_heap w _ _ _ _ _ hb
end
/-- What lies too far off. -/
def farT (t : TriS) : Bool := decide (min3 (tbox t).1.x (tbox t).1.y (tbox t).1.z < -1048576) || decide (max3 (tbox t).2.x (tbox t).2.y (tbox t).2.z > 1048576)
attribute [local irreducible] Calls Walk1 WalkTo Tri EndA
end Go.Proofs.Ytcgmapioelfneaa
namespace Go.Proofs.Ytcgmapioelfneaa
open Go.RowKit
set_option maxRecDepth 100000
set_option maxHeartbeats 1000000
/-- Where the first number that answers yes is, from i on. -/
def idxL (c : Nat → Bool) : List Nat → Nat → Int
  | [], _ => -1
  | x :: l, i => if c x then ((i : Nat) : Int) else idxL c l (i + 1)
attribute [local irreducible] Calls Walk1 WalkTo Tri EndA
theorem indexF_any (pre post : List Value) (ks : List Nat) (N cap b : Nat) (cv : Value) (w : World) (c : Nat → Bool) (M : Nat) (hM : 0 < M) (hd : ∀ x ∈ ks, x < M) (hN : N = ks.length) (hs : N ≤ 1099511627776) (hC : AskOK w [b] cv M c)
    (hB : Blk w b (segA pre post ks) 3) :
    Calls Try.prog 38 #[.slice (some ⟨b, pre.length, none⟩) N cap, cv] w (RetP w b 3 (segA pre post ks) (.int .i64 (idxL c ks 0))) := by
  have hdg : ∀ j, gtN ks j < M := fun j => gtN_lt hM hd j
  have hstep : ∀ j, j < ks.length → idxL c (ks.drop j) j = if c (gtN ks j) then ((j : Nat) : Int) else idxL c (ks.drop (j + 1)) (j + 1) := fun j hj => by
    obtain ⟨A1, x, A2, rfl, hA⟩ := split_at ks j hj
    subst hA
    rw [gtN_at _ _ _ _ rfl, List.drop_left, List.drop_length_add_append]
    rfl
  have hend : idxL c (ks.drop N) N = -1 := by rw [List.drop_of_length_le (by omega)]; rfl
  refine calls_triI hB Try.func38 rfl Try.ntmps38 rfl ?_
  repeat (first | (show Walk1 _ _ _ (_ :: _) _ _; first | (show HW1 (.move _); first | refine wz40 ?_ | refine wz1 ?_) | (show HW1 (.assign _); refine wz13 ?_) | (show HW1 (.call ⟨.builtin .len, _, _⟩); refine wz39 ?_)) | refine go1 ?_ | refine end_block_other rfl ?_ | refine end_scope (fun _ h => by cases h) ?_ | (refine walk_endD ?_ ?_; (· kernel_rfl)) | refine tri_yesA rfl ?_ | refine tri_noA rfl ?_ | refine tri_trueA rfl ?_ | refine tri_falseA rfl ?_)
  refine tri_loop (X := Nat) (fun j => ⟨[(8, SV.c (.int .i64 ((j : Nat) : Int))), (7, SV.c (.int .i64 ((N : Nat) : Int))), (0, .c (.slice (some ⟨b, pre.length, none⟩) N cap)), (1, .c cv)], [(1000, some (.blk 1000 3 (.c (segA pre post ks)))), (1001, some (.is 1000 b))]⟩)
    (fun j => j ≤ N ∧ idxL c (ks.drop j) j = idxL c ks 0) (fun j => N - j) 0 ⟨by omega, rfl⟩ (by exact ent_kp) ?_
  rintro j ⟨h1, h2⟩ K next
  by_cases h : j < N
  · have d1 := hdg j
    have hj := hstep j (by omega)
    have hlen : j < ks.length := by omega
    have nx := fun S' => next S' (j + 1)
    cases hcj : c (gtN ks j) with
    | true =>
      rw [hcj, if_pos rfl] at hj
      rw [← h2, hj]
      clear next nx hstep hend hd
      repeat (first | (show Walk1 _ _ _ (_ :: _) _ _; first | (show HW1 (.move _); refine wz1 ?_) | (show HW1 (.assign _); refine wz2 ?_) | (show HW1 (.binOp .lss _ _ _ _); refine wz5 ?_) | (show HW1 (.indexAddr _ _ _); refine wz104 ?_) | (show HW1 (.load _ _); refine wz101 ?_) | (show HW1 (.call ⟨.value (.tmp _), _, _⟩); refine wz118 ?_)) | refine go1 ?_ | refine end_block_other rfl ?_ | refine end_scope (fun _ h => by cases h) ?_ | (refine walk_endD ?_ ?_; (· kernel_rfl)) | refine tri_yesA rfl ?_ | refine tri_noA rfl ?_ | refine tri_trueA rfl ?_ | refine tri_falseA rfl ?_)
      refine end_ret _ (res_tmp rfl rfl) ?_
      exact fin_obj rfl rfl (fun _ => rfl) (fun _ => rfl)
    | false =>
      rw [hcj, if_neg (by decide)] at hj
      clear next hstep hend hd
      repeat (first | (show Walk1 _ _ _ (_ :: _) _ _; first | (show HW1 (.move _); refine wz1 ?_) | (show HW1 (.assign _); refine wz2 ?_) | (show HW1 (.binOp .add _ _ _ _); refine wz10 ?_) | (show HW1 (.binOp .lss _ _ _ _); refine wz5 ?_) | (show HW1 (.indexAddr _ _ _); refine wz104 ?_) | (show HW1 (.load _ _); refine wz101 ?_) | (show HW1 (.call ⟨.value (.tmp _), _, _⟩); refine wz118 ?_)) | refine go1 ?_ | refine end_block_other rfl ?_ | refine end_scope (fun _ h => by cases h) ?_ | (refine walk_endD ?_ ?_; (· kernel_rfl)) | refine tri_yesA rfl ?_ | refine tri_noA rfl ?_ | refine tri_trueA rfl ?_ | refine tri_falseA rfl ?_)
      exact nx _ ⟨by omega, by rw [← hj, h2]⟩ (by omega) (by exact ent_kp)
  · obtain rfl : j = N := by omega
    rw [← h2, hend]
    clear next hstep hend hd
    repeat (first | (show Walk1 _ _ _ (_ :: _) _ _; first | (show HW1 (.assign _); refine wz2 ?_) | (show HW1 (.binOp .lss _ _ _ _); refine wz5 ?_)) | refine go1 ?_ | refine end_block_other rfl ?_ | refine end_scope (fun _ h => by cases h) ?_ | (refine walk_endD ?_ ?_; (· kernel_rfl)) | refine tri_yesA rfl ?_ | refine tri_noA rfl ?_ | refine tri_trueA rfl ?_ | refine tri_falseA rfl ?_)
    refine end_ret _ (res_tmp rfl rfl) ?_
    exact fin_obj rfl rfl (fun _ => rfl) (fun _ => rfl)
def binI (n lo hi : Int) : Int := min (((n - lo) * 8).tdiv (hi - lo)) 7
theorem op_divI {C : Ctx} {ops : Array Oper} {S : St} {o : Oper} {ty yt : TypeId} {x y : Operand} {a b : Int} (ho : o.op = .binOp .quo ty x y yt) (hg : o.guard = none) (hd : dstB o.dst C.nt = true) (hx : EvI S x a) (hy : EvI S y b) (h : b ≠ 0) (hb : -1000000000 ≤ a ∧ a ≤ 1000000000) : OpG C Try.prog ops o S ⟨opT x ++ opT y, [], dw o.dst (.c (.int .i64 (a.tdiv b))), [], []⟩ :=
  op_int2 ho hg hd hx hy fun w => by
    rw [(run_div h).1, wrapI]
    have h1 := Int.natAbs_tdiv_le_natAbs a b
    omega
theorem bin_any (n lo hi : Int) (hn : -2097152 ≤ n ∧ n ≤ 2097152) (hl : -2097152 ≤ lo ∧ lo ≤ 2097152) (hh : -2097152 ≤ hi ∧ hi ≤ 2097152) (hne : hi - lo ≠ 0) (w : World) : Calls Try.prog 36 #[.int .i64 n, .int .i64 lo, .int .i64 hi] w fun e w' => e = .returned (.int .i64 (binI n lo hi)) ∧ Below w.heap.size w w' := by
  unfold binI
  refine calls_tri Try.func36 rfl Try.ntmps36 rfl ?_
  repeat (first | (show Walk1 _ _ _ (_ :: _) _ _; first | (show HW1 (.move _); refine wz1 ?_) | (show HW1 (.assign _); refine wz13 ?_) | (show HW1 (.binOp .sub _ _ _ _); refine walk1_t (op_subI rfl rfl rfl rfl rfl (by omega)) ?_) | (show HW1 (.binOp .mul _ _ _ _); refine wz125 ?_)) | refine go1 ?_ | refine end_block_other rfl ?_ | refine end_scope (fun _ h => by cases h) ?_ | (refine walk_endD ?_ ?_; (· kernel_rfl)) | refine tri_yesA rfl ?_ | refine tri_noA rfl ?_ | refine tri_trueA rfl ?_ | refine tri_falseA rfl ?_)
  refine walk1_t (op_divI rfl rfl rfl rfl rfl hne (by omega)) ?_
  repeat (first | (show Walk1 _ _ _ (_ :: _) _ _; first | (show HW1 (.assign _); refine wz2 ?_) | (show HW1 (.call ⟨.builtin .min, _, _⟩); refine wz105 ?_)) | refine go1 ?_ | refine end_block_other rfl ?_ | refine end_scope (fun _ h => by cases h) ?_ | (refine walk_endD ?_ ?_; (· kernel_rfl)) | refine tri_yesA rfl ?_ | refine tri_noA rfl ?_ | refine tri_trueA rfl ?_ | refine tri_falseA rfl ?_)
  refine end_ret _ (res_tmp rfl rfl) ?_
  exact fin_below fun _ => rfl
end Go.Proofs.Ytcgmapioelfneaa
