/- Slices of a few values and of rows; methods with a slice beside the object's own; rows read beside an object. No condition. -/
import Derived.Test.YtihbiejgebmeaaaSymSX
namespace Go.Proofs.Ytihbiejgebmeaaa
open Go.RowKit
set_option maxRecDepth 100000
set_option maxHeartbeats 1000000
section
variable {C : Ctx} {ops : Array Oper} {S : St} {o : Oper}
theorem rdn_ls {n : Nat} {T : TypeId} {wr : Bool} {k cap : Nat} (us : List Value) (hr : S.res n = some (.blk n T (.l (us.map SV.c)) wr)) (hk : k = us.length) : RdN C S [n] 1 (.s n 0 k cap) k us := by
  subst hk
  intro S' e a w h hS
  obtain ⟨fr, hb, _⟩ := res_blk hS ((h n (by simp)).trans hr)
  refine ⟨by simp, some ⟨(e n).b, 0, none⟩, cap, rfl, .inr ⟨(e n).b, 0, rfl, fun j u hu => ?_⟩⟩
  rw [cell_of_row w _ _ _ _ _ hb, Nat.zero_add]
  simpa [SA.l, SV.c] using hu
theorem rdn_cells {n size : Nat} {T : TypeId} {wr : Bool} {k cap : Nat} {a : Array Value} (us : List Value) (hr : S.res n = some (.blk n T (.c a) wr)) (ha : a.toList = us) (hk : us.length = k * size) : RdN C S [n] size (.s n 0 k cap) k us := by
  subst ha
  intro S' e aa w h hS
  obtain ⟨fr, hb, _⟩ := res_blk hS ((h n (by simp)).trans hr)
  refine ⟨hk, some ⟨(e n).b, 0, none⟩, cap, rfl, .inr ⟨(e n).b, 0, rfl, fun j u hu => ?_⟩⟩
  rw [cell_of_row w _ _ _ _ _ hb, Nat.zero_add]
  simpa [SA.c] using hu
theorem fsq_part {n off m cap : Nat} {T : TypeId} {wr : Bool} {a : Array Value} {l : List (BitVec 8)} (hr : S.res n = some (.blk n T (.c a) wr)) (hs : Sub (.c a) off m (.c (vals .u8 l))) (hm : l.length = m) (hc : m ≤ cap) : FSQ C S [n] (.s n off m cap) l := fun S' e aa w hq hS => by
  subst hm
  obtain ⟨fr, hb, _⟩ := res_blk hS ((hq n (by simp)).trans hr)
  obtain ⟨pre, post, h1, h2, h3⟩ := hs e
  refine ⟨⟨by rw [valsL_length, Nat.mul_one], some ⟨(e n).b, off, none⟩, cap, rfl, .inr ⟨(e n).b, off, rfl, fun j u hu => ?_⟩⟩, _, _, rfl, hc⟩
  rw [cell_of_row w _ _ _ _ _ hb, h1, Array.append_assoc, Array.getElem?_append_right (by omega), h2, Nat.add_sub_cancel_left, Array.getElem?_append_left]
  · simpa [SA.c, vals] using hu
  · have := (List.getElem?_eq_some_iff.1 hu).1
    simpa [SA.c, vals] using this
theorem callPL_1 {n q T j size k : Nat} {vs : List SV} {A : SA} {R : Res} {cells0 cells : Value → Array Value} {K0 K : World → Value → Prop} {u : Value} {ns : List Nat} {v1 : SV} {xs : List Value} (hr : S.res n = some (.blk n T A)) (hq : S.res q = some R) (hR : IsOwn R q K0) (hn : Nat.beq q n = false) (hA : ∀ e, A.den e = cells0 (e q).v) (h1 : RdN C S ns size v1 k xs) (hns : (ns.any fun y => Nat.beq n y || Nat.beq q y) = false)
    (h : ∀ (e : Env) w v, Blk w (e n).b (cells0 v) T → K0 w v → v.ownBlock ≠ some (e n).b → RdX w ((e n).b :: v.ownBlock.toList) size (v1.den e) k xs → Calls Try.prog j (vs.map (·.den e)).toArray w (RetPL w (e n).b v.ownBlock T cells K u)) : CallPL C S (n :: q :: ns) n q T j vs cells K u := fun S' e a w hS hx => by
  have hr' := (hx n (by simp)).trans hr
  have hq' := (hx q (by simp)).trans hq
  obtain ⟨fr, hb, hfr⟩ := res_blk hS hr'
  rw [hfr rfl, hA] at hb
  have hok := hS.res q _ hq'
  rw [hR.ok] at hok
  have hnm : ∀ x ∈ ns, n ≠ x ∧ q ≠ x := fun x hx => by
    have := List.any_eq_false.1 hns x hx
    simp at this
    exact ⟨this.1, this.2⟩
  refine h e w (e q).v hb hok (fun hxb => ?_) (fun w' hw => ?_)
  · exact hS.sep q n _ _ hq' hr' (by intro h; subst h; simp at hn) hR.wr (e n).b (by rw [hR.foot]; exact hxb) rfl
  · obtain ⟨d, x, _, h2, h3⟩ := hS.loseL hr' hq' hR hw
    rw [h3] at h2
    exact h1 _ e a w' (fun x hx' => by
      rw [St.res_cons, if_neg (hnm x hx').1, St.res_cons, if_neg (hnm x hx').2]
      exact hx x (List.mem_cons_of_mem _ (List.mem_cons_of_mem _ hx'))) h2
theorem ent_nilF {t : List (Nat × SV)} {h : List (Nat × Option Res)} {n q : Nat} {T T0 : TypeId} (size : Nat) (hr : (St.mk t h).res n = some (.blk n T (.l [.c (.slice none 0 0)]))) (hf : freshB ⟨t, h⟩ q = true) (hnq : Nat.beq n q = false) : Ents C ⟨t, h⟩ ⟨t, (n, some (.blk n T (.l [.v q]))) :: (q, some (.own q T0 size 0 [])) :: h⟩ := fun e a w hS => by
  have hfr := freshB_spec hf
  have hne : n ≠ q := by intro h; subst h; simp at hnq
  have h1 := hS.rename hfr ⟨0, 0, .slice none 0 0⟩
  have hnb : (e.set q ⟨0, 0, .slice none 0 0⟩) n = e n := Env.set_ne _ _ hne
  have hfo : ∀ b, ¬ (Res.own q T0 size 0 []).foot (e.set q ⟨0, 0, .slice none 0 0⟩) b := by
    intro b hb
    have hb : ((e.set q ⟨0, 0, .slice none 0 0⟩) q).v.ownBlock = some b := hb
    rw [Env.set_self] at hb; cases hb
  have hres : ∀ k r, (St.mk t ((n, some (.blk n T (.l [.v q]))) :: (q, some (.own q T0 size 0 [])) :: h)).res k = some r → (k = n ∧ r = .blk n T (.l [.v q])) ∨ (k = q ∧ r = .own q T0 size 0 []) ∨ (St.mk t h).res k = some r := fun k r hk => by
    rw [St.res_cons] at hk
    split at hk
    · rename_i h; cases hk; exact .inl ⟨h.symm, rfl⟩
    · rw [St.res_cons] at hk
      split at hk
      · rename_i h; cases hk; exact .inr (.inl ⟨h.symm, rfl⟩)
      · exact .inr (.inr hk)
  have hold : ∀ k r, (St.mk t h).res k = some r → ∃ r0, (St.mk t h).res k = some r0 ∧ r0 = r := fun k r hk => ⟨r, hk, rfl⟩
  obtain ⟨fr, hB0, hfz⟩ := res_blk h1 hr
  have hden : (SA.l [SV.v q]).den (e.set q ⟨0, 0, .slice none 0 0⟩) = (SA.l [SV.c (.slice none 0 0)]).den (e.set q ⟨0, 0, .slice none 0 0⟩) := by
    simp only [SA.l, SV.v, SV.c, List.map_cons, List.map_nil, Env.set_self]
  have hbl : (Res.blk n T (.l [.v q])).ok (e.set q ⟨0, 0, .slice none 0 0⟩) w := by
    refine ⟨fr, ?_, hfz⟩
    rw [hden]
    exact hB0
  have hbf : ∀ b, (Res.blk n T (.l [.v q])).foot (e.set q ⟨0, 0, .slice none 0 0⟩) b → (Res.blk n T (.l [.c (.slice none 0 0)])).foot (e.set q ⟨0, 0, .slice none 0 0⟩) b := fun b hb => hb
  refine ⟨e.set q ⟨0, 0, .slice none 0 0⟩, h1.defers, h1.size, h1.tmp, fun k r hk => ?_, fun k r hk hw b hb => ?_, fun k m r r' hk hm hkm hw b hb hb' => ?_, h1.frame⟩
  · rcases hres k r hk with ⟨rfl, rfl⟩ | ⟨rfl, rfl⟩ | h
    · exact hbl
    · show w.ownsRow 0 T0 size _ 0 []
      rw [Env.set_self]
      exact ⟨by simp, .inl ⟨rfl, rfl⟩⟩
    · exact h1.res k r h
  · rcases hres k r hk with ⟨rfl, rfl⟩ | ⟨rfl, rfl⟩ | h
    · exact h1.mine _ _ hr rfl b (hbf b hb)
    · exact (hfo b hb).elim
    · exact h1.mine k r h hw b hb
  · rcases hres k r hk with ⟨rfl, rfl⟩ | ⟨rfl, rfl⟩ | h
    · rcases hres m r' hm with ⟨rfl, rfl⟩ | ⟨rfl, rfl⟩ | h'
      · exact hkm rfl
      · exact hfo b hb'
      · exact h1.sep _ m _ r' hr h' hkm rfl b (hbf b hb) hb'
    · exact hfo b hb
    · rcases hres m r' hm with ⟨rfl, rfl⟩ | ⟨rfl, rfl⟩ | h'
      · exact h1.sep k _ r _ h hr hkm hw b hb (hbf b hb')
      · exact hfo b hb'
      · exact h1.sep k m r r' h h' hkm hw b hb hb'
theorem op_loadsX {ty : TypeId} {x : Operand} {v : Value} {n off sz m : Nat} {xs : List Value} {B : List Value} {d : TypeDesc} (ho : o.op = .load ty x) (hg : o.guard = none) (hd : dstB o.dst C.nt = true) (hx : S.ev x = some (.c (ptrV v off))) (hf : RdX C.w0 C.m sz v n xs) (hu' : tabLook undT ty = some d) (hda : d.isRow = true) (hi' : tabLook sizT ty = some m) (hm : 0 < m) (hb : off + m ≤ xs.length) (hB : (xs.drop off).take m = B) :
    OpG C Try.prog ops o S ⟨opT x, [], dw o.dst (.c (.agg B.toArray)), [], []⟩ := by
  have hu := tabAll_look undT_ok hu'
  have hi := tabAll_look sizT_ok hi'
  have hBl : B.length = m := by rw [← hB, List.length_take, List.length_drop]; omega
  have := op_value (C := C) (P := Try.prog) (ops := ops) (S := S) hg hd [x] [] (.c (.agg B.toArray)) fun S' e a w hS h1 h2 => by
    have hev : a.eval x = ptrV v off := hS.ev ((h1 x (by simp)).trans hx)
    obtain ⟨hl, ad, c, rfl, hr⟩ := hf w hS.frame.belowX
    rcases hr with h3 | ⟨b, o2, rfl, hr⟩
    · subst h3; omega
    · have hra : w.rangeAt b (o2 + off) B := fun j u hj => by
        have hjl : j < m := by have := (List.getElem?_eq_some_iff.1 hj).1; omega
        rw [← hB, List.getElem?_take, if_pos hjl, List.getElem?_drop] at hj
        have hc := hr (off + j) u hj
        rw [Nat.add_assoc]
        exact hc
      have hl := run_loadVar_mid (P := Try.prog) w b (o2 + off) ty B d hra hu hda (by rw [hi, hBl])
      have hev : a.eval x = .pointer (some ⟨b, o2 + off, none⟩) := hev
      simp [execOp, ho, hev, Instr.loadAt, Instr.sureAddr, Sem.run_bind, hl, SV.c]
  simpa using this
end
end Go.Proofs.Ytihbiejgebmeaaa
