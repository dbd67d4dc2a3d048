/- A Reader newly made: the walk begun anew with the bytes told. No condition. -/
import Derived.Test.YtlhedoodbadmgaaRecE0
import Derived.Test.YtlhedoodbadmgaaSymAH
namespace Go.Proofs.Ytlhedoodbadmgaa
open Go.RowKit
set_option maxRecDepth 100000
set_option maxHeartbeats 1000000
/-- The value does not hang on what name n has but its block. -/
def Inv (n : Nat) (v : SV) : Prop := ∀ (e : Env) (x : Value), v.den (e.set n ⟨(e n).b, 0, x⟩) = v.den e
def InvA (n : Nat) (A : SA) : Prop := ∀ (e : Env) (x : Value), A.den (e.set n ⟨(e n).b, 0, x⟩) = A.den e
theorem set_b (e : Env) (n m : Nat) (x : Value) : ((e.set n ⟨(e n).b, 0, x⟩) m).b = (e m).b := by
  unfold Env.set
  split
  · rename_i h; rw [h]
  · rfl
theorem inv_c {n : Nat} {v : Value} : Inv n (.c v) := fun _ _ => rfl
theorem inv_p {n m off : Nat} : Inv n (.p m off) := fun e x => by
  show Value.pointer (some ⟨((e.set n ⟨(e n).b, 0, x⟩) m).b, off, none⟩) = _
  rw [set_b]; rfl
theorem invA_c {n : Nat} {a : Array Value} : InvA n (.c a) := fun _ _ => rfl
theorem invA_l {n : Nat} {l : List SV} (h : ∀ v ∈ l, Inv n v) : InvA n (.l l) := fun e x => by
  show (l.map (·.den (e.set n ⟨(e n).b, 0, x⟩))).toArray = (l.map (·.den e)).toArray
  rw [List.map_congr_left fun v hv => h v hv e x]
section
variable {C : Ctx} {S : St}
theorem rd_anew {L : List (BitVec 8)} {P : Program} {c : Code} {Q : Exit → Act → World → Prop} (n q k : Nat) (ns : List Nat) (t' : List (Nat × SV)) (h' : List (Nat × Option Res))
    (hr : S.res n = some (.blk n 143 (.l [.v q, .c (.int .i64 0), .c (.bool true)]))) (hq : S.res q = some (.own q 5 1 L.length (valsL .u8 L))) (hnq : n ≠ q) (hns : ∀ i ∈ ns, i ≠ n ∧ i ≠ q ∧ i ≠ k) 
    (ht : ∀ x ∈ t', S.tmp x.1 = some x.2 ∧ Inv n x.2) (hh : ∀ x ∈ h', ∃ T A, x.2 = some (.blk x.1 T A) ∧ S.res x.1 = some (.blk x.1 T A) ∧ x.1 ∈ ns ∧ InvA n A)
    (hc : ∀ (w : World) (m : List Nat) (u : Value), (RS.mk u L 0).rd w m → C.frame w → (∀ x ∈ m, C.mine x) → Tri ⟨C.nt, w, m⟩ P ⟨t', (k, some (.obj n rdO ⟨u, L, 0⟩)) :: h'⟩ c Q) : Tri C P S c Q := by
  refine tri_anew fun e a w hS => ?_
  obtain ⟨fr, hB, hfr⟩ := res_blk hS hr
  rw [hfr rfl] at hB
  have hB2 : Blk w (e n).b (rdC (e q).v 0) 143 := hB
  have hfs := fs_own hq hS
  have hown : w.ownsRow 0 5 1 (e q).v L.length (valsL .u8 L) := hS.res q _ hq
  have hres : ∀ i ∈ (n :: ns), ∀ x ∈ h', x.1 = i → True := fun _ _ _ _ _ => trivial
  have hsep : ∀ i, i ≠ q → ∀ T A, S.res i = some (.blk i T A) → ∀ x, (e q).v.ownBlock = some x → x ≠ (e i).b := fun i hi T A hiA x hx hxe =>
    hS.sep q i _ _ hq hiA (Ne.symm hi) rfl x hx hxe
  -- the blocks that may be written
  let nsL := (h'.map (·.1))
  refine ⟨⟨C.nt, w, (e n).b :: nsL.map fun i => (e i).b⟩, _, e.set n ⟨(e n).b, 0, undef⟩, ?_, hc w ((e n).b :: nsL.map fun i => (e i).b) (e q).v ?_ hS.frame ?_⟩
  · have hkey : ∀ i r, (St.mk t' ((k, some (.obj n rdO ⟨(e q).v, L, 0⟩)) :: h')).res i = some r → (i = k ∧ r = .obj n rdO ⟨(e q).v, L, 0⟩) ∨ ∃ T A, r = .blk i T A ∧ S.res i = some (.blk i T A) ∧ i ∈ ns ∧ i ∈ nsL ∧ InvA n A := fun i r hi => by
      rw [St.res_cons] at hi
      split at hi
      · rename_i h1; cases hi; exact .inl ⟨h1.symm, rfl⟩
      · right
        unfold St.res at hi
        cases hl : look h' i with
        | none => rw [hl] at hi; cases hi
        | some o =>
          rw [hl] at hi
          have hm := look_some_mem hl
          obtain ⟨T, A, h1, h2, h3, h4⟩ := hh _ hm
          have : o = some r := hi
          rw [this] at h1
          have h1 : r = .blk i T A := by simpa using h1
          exact ⟨T, A, h1, h2, h3, List.mem_map.2 ⟨_, hm, rfl⟩, h4⟩
    have hokO : rdO.ok w ((e.set n ⟨(e n).b, 0, undef⟩) n).b ((e.set n ⟨(e n).b, 0, undef⟩) n).v ⟨(e q).v, L, 0⟩ := by
      rw [Env.set_self]
      exact ⟨hB2, fun x hx => by cases hx⟩
    have hfootB : ∀ i T A x, (Res.blk i T A).foot (e.set n ⟨(e n).b, 0, undef⟩) x → x = (e i).b := fun i T A x hx => by
      have hx : x = ((e.set n ⟨(e n).b, 0, undef⟩) i).b := hx
      rw [set_b] at hx; exact hx
    have hfootO : ∀ x, (Res.obj n rdO ⟨(e q).v, L, 0⟩).foot (e.set n ⟨(e n).b, 0, undef⟩) x → x = (e n).b := fun x hx => by
      have hx : x = ((e.set n ⟨(e n).b, 0, undef⟩) n).b ∨ x ∈ vblk ((e.set n ⟨(e n).b, 0, undef⟩) n).v := hx
      rw [Env.set_self] at hx
      rcases hx with h | h
      · exact h
      · cases h
    refine ⟨hS.defers, hS.size, fun i v hv => ?_, fun i r hi => ?_, fun i r hi hw x hx => ?_, fun i j r r' hi hj hij hw x hx hx' => ?_, ⟨rfl, rfl, rfl, Nat.le_refl _, fun _ _ _ => rfl⟩⟩
    · obtain ⟨h1, h2⟩ := ht _ (look_some_mem hv)
      rw [hS.tmp i v h1, h2 e undef]
    · rcases hkey i r hi with ⟨rfl, rfl⟩ | ⟨T, A, rfl, h2, _, _, h4⟩
      · exact hokO
      · obtain ⟨fr, g1, g2⟩ := res_blk hS h2
        refine ⟨fr, ?_, g2⟩
        rw [set_b, h4 e undef]
        exact g1
    · refine .inr ?_
      rcases hkey i r hi with ⟨rfl, rfl⟩ | ⟨T, A, rfl, _, _, h3, _⟩
      · rw [hfootO x hx]; exact List.mem_cons_self
      · rw [hfootB i T A x hx]
        exact List.mem_cons_of_mem _ (List.mem_map.2 ⟨i, h3, rfl⟩)
    · rcases hkey i r hi with ⟨rfl, rfl⟩ | ⟨T, A, rfl, h2, h3, _, _⟩
      · rcases hkey j r' hj with ⟨rfl, rfl⟩ | ⟨T', A', rfl, g2, g3, _, _⟩
        · exact hij rfl
        · exact hS.sep n j _ _ hr g2 (Ne.symm (hns j g3).1) rfl (e n).b rfl (by rw [← hfootO x hx]; exact hfootB j T' A' x hx')
      · rcases hkey j r' hj with ⟨rfl, rfl⟩ | ⟨T', A', rfl, g2, g3, _, _⟩
        · exact hS.sep n i _ _ hr h2 (Ne.symm (hns i h3).1) rfl (e n).b rfl (by rw [← hfootO x hx']; exact hfootB i T A x hx)
        · exact hS.sep i j _ _ h2 g2 hij rfl (e i).b rfl (by rw [← hfootB i T A x hx]; exact hfootB j T' A' x hx')
  · refine FS.fsx hfs fun x hx => ⟨(hown.lt x hx).2, fun hxm => ?_⟩
    rcases List.mem_cons.1 hxm with h | h
    · exact hsep n hnq _ _ hr x hx h
    · obtain ⟨i, hi, rfl⟩ := List.mem_map.1 h
      obtain ⟨y, hy, rfl⟩ := List.mem_map.1 hi
      obtain ⟨T, A, _, h2, h3, _⟩ := hh y hy
      exact hsep y.1 (hns _ h3).2.1 T A h2 _ hx rfl
  · intro x hx
    rcases List.mem_cons.1 hx with rfl | h
    · exact hS.mine n _ hr rfl _ rfl
    · obtain ⟨i, hi, rfl⟩ := List.mem_map.1 h
      obtain ⟨y, hy, rfl⟩ := List.mem_map.1 hi
      obtain ⟨T, A, _, h2, _, _⟩ := hh y hy
      exact hS.mine y.1 _ h2 rfl _ rfl
end
end Go.Proofs.Ytlhedoodbadmgaa
