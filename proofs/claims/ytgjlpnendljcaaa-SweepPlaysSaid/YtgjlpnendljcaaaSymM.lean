/- A slice that was built is an own one. No condition. -/
import Derived.Test.YtgjlpnendljcaaaSymL
namespace Go.Proofs.Ytgjlpnendljcaaa
open Go.RowKit
set_option maxRecDepth 100000
variable {C : Ctx} {ops : Array Oper} {S : St} {o : Oper}
theorem ent_own {t : List (Nat × SV)} {h : List (Nat × Option Res)} {i n q len : Nat} {T : TypeId} {A : SA} {k : IntKind} {m : Nat} (l : List (BitVec m)) (hv : look t i = some (.s n 0 len len)) (hr : (St.mk t h).res n = some (.blk n T A)) (hA : ∀ e, A.den e = vals k l) (hl : l.length = len) (hf : freshB ⟨t, h⟩ q = true) (hmax : len ≤ 1099511627776) :
    Ents C ⟨t, h⟩ ⟨(i, .v q) :: t, (n, none) :: (q, some (.own q T 1 len (valsL k l))) :: h⟩ := fun e a w hS => by
  subst hl
  have hfr := freshB_spec hf
  obtain ⟨V, hVe⟩ : ∃ V : Value, V = .slice (some ⟨(e n).b, 0, none⟩) l.length l.length := ⟨_, rfl⟩
  have h1 := hS.rename hfr ⟨0, 0, V⟩
  obtain ⟨fr, hb, hfr2⟩ := res_blk hS hr
  rw [hfr2 rfl, hA] at hb
  have hqn : q ≠ n := fun he => hfr.2 n _ hr (by rw [he]; exact List.mem_cons_self)
  have hfoot : ∀ b, (Res.own q T 1 l.length (valsL k l)).foot (e.set q ⟨0, 0, V⟩) b → b = (e n).b := by
    intro b hb
    have hb : ((e.set q ⟨0, 0, V⟩) q).v.ownBlock = some b := hb
    rw [Env.set_self, hVe] at hb
    exact (Option.some.inj hb).symm
  have hfn : (Res.blk n T A).foot (e.set q ⟨0, 0, V⟩) (e n).b := by
    show (e n).b = ((e.set q ⟨0, 0, V⟩) n).b
    rw [Env.set_ne e _ (Ne.symm hqn)]
  refine ⟨e.set q ⟨0, 0, V⟩, h1.defers, h1.size, fun j v hj => ?_, fun m' r hm => ?_, fun m' r hm hw b hb => ?_, fun m' q' r r' hm hq hne hw b hb hb' => ?_, h1.frame⟩
  · have hj2 : look ((i, SV.v q) :: t) j = some v := hj
    rw [look_cons] at hj2
    by_cases e0 : i = j
    · rw [if_pos e0] at hj2
      have hj3 : SV.v q = v := by simpa using hj2
      subst hj3
      subst e0
      show a.tmps[i]? = some ((e.set q ⟨0, 0, V⟩) q).v
      rw [Env.set_self, hVe]
      exact hS.tmp i _ hv
    · rw [if_neg e0] at hj2
      exact h1.tmp j v hj2
  · rw [St.res_cons] at hm
    split at hm
    · cases hm
    · rw [St.res_cons] at hm
      split at hm
      · cases hm
        show w.ownsRow 0 T 1 ((e.set q ⟨0, 0, V⟩) q).v l.length (valsL k l)
        rw [Env.set_self, hVe]
        have hsz : (vals k l).size = l.length := vals_size
        exact ⟨by rw [valsL_length, Nat.mul_one], .inr ⟨(e n).b, l.length, vals k l, rfl, Nat.zero_le _, hb, Nat.le_refl _, by simp only [maxLen]; omega, by rw [hsz, Nat.mul_one], by show (valsL k l).take (l.length * 1) = _; rw [Nat.mul_one]; exact List.take_of_length_le (by simp [valsL])⟩⟩
      · exact h1.res m' r hm
  · rw [St.res_cons] at hm
    split at hm
    · cases hm
    · rw [St.res_cons] at hm
      split at hm
      · cases hm
        rw [hfoot b hb]
        exact h1.mine n _ hr rfl _ hfn
      · exact h1.mine m' r hm hw b hb
  · rw [St.res_cons] at hm hq
    split at hm
    · cases hm
    · rename_i hm0
      split at hq
      · cases hq
      · rename_i hq0
        rw [St.res_cons] at hm hq
        split at hm
        · rename_i hm1
          cases hm
          split at hq
          · rename_i hq1; exact hne (hm1.symm.trans hq1)
          · rw [hfoot b hb] at hb'
            exact h1.sep n q' _ r' hr hq hq0 rfl _ hfn hb'
        · split at hq
          · cases hq
            rw [hfoot b hb'] at hb
            exact h1.sep n m' _ r hr hm hm0 rfl _ hfn hb
          · exact h1.sep m' q' r r' hm hq hne hw b hb hb'
/-! ### guards whose operation did not run -/
section
variable {P : Program} {dst : Option Tmp} {op : Op} {ty : TypeId} {pos : String} {after : Array Edge} {j : Nat} {want : Bool} {g d : Nat} {l : List Oper} {t : List (Nat × SV)} {h : List (Nat × Option Res)}
theorem opG_noU (hj : (ops[j]?).bind (·.dst) = some g) (hv : S.tmp g = some (.c undef)) (hd : dstB dst C.nt = true) : OpG C P ops ⟨dst, op, ty, pos, after, some (j, want)⟩ S ⟨[g], [], dw dst (.c undef), [], []⟩ := by
  intro S' h1 h2 h3 e a w hS
  have hy : yielded ops a.tmps j = none := by
    have := hS.tmp g _ ((h1 g (by simp)).trans hv)
    unfold yielded
    rw [hj]
    simp only [Option.bind_some, this]
    rfl
  rw [if_neg (by simp [Region.wanted, hy])]
  exact ⟨e, hS.put hd (.c undef)⟩
theorem walk1_noU {K : St → Prop} (hj : (ops[j]?).bind (·.dst) = some g) (hv : look t g = some (.c undef)) (hd : dstB (some d) C.nt = true) (hK : Walk1 C P ops l ⟨(d, .c undef) :: t, h⟩ K) : Walk1 C P ops (⟨some d, op, ty, pos, after, some (j, want)⟩ :: l) ⟨t, h⟩ K :=
  walk1_t (opG_noU (S := ⟨t, h⟩) hj hv hd) hK
theorem walk_noU {acc : List OS} {K : St → List OS → Prop} (hj : (ops[j]?).bind (·.dst) = some g) (hv : look t g = some (.c undef)) (hd : dstB (some d) C.nt = true) (hK : WalkTo C P ops [] l ⟨(d, .c undef) :: t, h⟩ (⟨[] ++ [g], [], [(d, .c undef)], [], []⟩ :: acc) K) : WalkTo C P ops [] (⟨some d, op, ty, pos, after, some (j, want)⟩ :: l) ⟨t, h⟩ acc K :=
  walk_t (x := []) (opG_noU (S := ⟨t, h⟩) hj hv hd) hK
end
end Go.Proofs.Ytgjlpnendljcaaa
