/- The document's Decode: walked. No condition. -/
import Derived.Test.YtlhedoodbadmgaaRecD9
import Derived.Test.YtlhedoodbadmgaaRecFR
namespace Go.Proofs.Ytlhedoodbadmgaa
open Go.RowKit
set_option maxRecDepth 100000
set_option maxHeartbeats 4000000
theorem refNum_step {w : World} {m : List Nat} {s : RT} {a : RdS} (i k : Nat) (hk : ksL[i]? = some k) (hk1 : 1 ≤ k) (hk8 : k ≤ 8) (he : s.abs = aAt i a) (hrd : s.rd w m) : ∃ s' : RT, s'.abs = aAt (i + 1) a ∧ s'.rd w m ∧ ObjR rfO s.rd 54 (fun b => #[.pointer (some ⟨b, 0, none⟩), .int .i64 (k : Int)]) s s' (.int .u64 (bvi (nAt i a))) :=
  ⟨s.nx k, by rw [RT.nx_abs k hrd.2.1, he, aAt_step a hk], RT.rd_nx k hrd, by have := refNum_obj k hk1 hk8 s; rw [he, ← nAt_eq a hk] at this; exact this⟩
theorem refRead_step {w : World} {m : List Nat} {s : RT} {a : RdS} (i : Nat) (h1 : ksL[i]? = some 4) (h2 : ksL[i + 1]? = some 4) (h3 : ksL[i + 2]? = some 4) (he : s.abs = aAt i a) (hrd : s.rd w m) : ∃ s' : RT, s'.abs = aAt (i + 3) a ∧ s'.rd w m ∧ ObjR rfO s.rd 55 (fun b => #[.pointer (some ⟨b, 0, none⟩)]) s s' (.agg #[.int .i64 (ptAt i a).x, .int .i64 (ptAt i a).y, .int .i64 (ptAt i a).z]) := by
  have q1 := RT.rd_nx 4 hrd
  have q2 := RT.rd_nx 4 q1
  refine ⟨((s.nx 4).nx 4).nx 4, by rw [RT.nx_abs 4 q2.2.1, RT.nx_abs 4 q1.2.1, RT.nx_abs 4 hrd.2.1, he, aAt_step a h3, aAt_step a h2, aAt_step a h1], RT.rd_nx 4 q2, ?_⟩
  have := refRead_obj s
  simp only [RT.nx_abs 4 q1.2.1, RT.nx_abs 4 hrd.2.1, he] at this
  rw [← aAt_step a h1, ← aAt_step a h2, ← nAt_eq a h1, ← nAt_eq a h2, ← nAt_eq a h3] at this
  exact this
section
variable {C : Ctx} {ops : Array Oper} {S : St} {o : Oper}
theorem op_loadObj {σ : Type} {ty : TypeId} {x : Operand} {n off k : Nat} {O : Obj σ} {s : σ} {d : TypeDesc} {u : Value} (ho : o.op = .load ty x) (hg : o.guard = none) (hd : dstB o.dst C.nt = true) (hx : S.ev x = some (.p n off)) (hr : S.res k = some (.obj n O s)) (hu' : tabLook undT ty = some d) (hda : d.isRow = false) (hc : ∀ w b v, O.ok w b v s → w.cell? ⟨b, off, none⟩ = some u) : OpG C Try.prog ops o S ⟨opT x, [k, n], dw o.dst (.c u), [], []⟩ := by
  have hu := tabAll_look undT_ok hu'
  have := op_value (C := C) (P := Try.prog) (ops := ops) (S := S) hg hd [x] [k, n] (.c u) fun S' e a w hS h1 h2 => by
    have hev : a.eval x = .pointer (some ⟨(e n).b, off, none⟩) := hS.ev ((h1 x (by simp)).trans hx)
    have hok : O.ok w (e n).b (e n).v s := hS.res k _ ((h2 k (by simp)).trans hr)
    have hcell := hc w _ _ hok
    have hagg : (isAgg ty).run Try.prog w = .ok false w := (run_isAgg hu w).trans (by rw [hda])
    simp [execOp, ho, hev, Instr.loadAt, Instr.sureAddr, loadVar, Sem.run_bind, hagg, hcell, SV.c]
  simpa using this
theorem set_appO {A R R' : SA} {i k : Nat} {v : SV} (hk : ∀ e, (A.den e).size = k) (hle : k ≤ i) (h : ∀ e, (R.den e).setIfInBounds (i - k) (v.den e) = R'.den e) : ∀ e, ((A.app R).den e).setIfInBounds i (v.den e) = (A.app R').den e := set_appR hk (Nat.ble_eq_true_of_le hle) h
theorem rf_anew {L : List (BitVec 8)} {v : Value} {A : SA} {P : Program} {c : Code} {Q : Exit → Act → World → Prop} (n k : Nat) (ns : List Nat) (t' : List (Nat × SV)) (h' : List (Nat × Option Res))
    (hr : S.res n = some (.blk n 125 A)) (hA : ∀ e, A.den e = rfC v 0 0) (hns : ∀ i ∈ ns, i ≠ n ∧ i ≠ k)
    (ht : ∀ x ∈ t', S.tmp x.1 = some x.2 ∧ Inv n x.2) (hh : ∀ x ∈ h', ∃ T A, x.2 = some (.blk x.1 T A) ∧ S.res x.1 = some (.blk x.1 T A) ∧ x.1 ∈ ns ∧ InvA n A)
    (hc : Tri C P ⟨t', (k, some (.obj n rfO ⟨v, L, 0, 0⟩)) :: h'⟩ c Q) : Tri C P S c Q := by
  refine tri_anew fun e a w hS => ?_
  obtain ⟨fr, hB, hfr⟩ := res_blk hS hr
  rw [hfr rfl, hA] at hB
  refine ⟨C, _, e.set n ⟨(e n).b, 0, undef⟩, ?_, hc⟩
  have hkey : ∀ i r, (St.mk t' ((k, some (.obj n rfO ⟨v, L, 0, 0⟩)) :: h')).res i = some r → (i = k ∧ r = .obj n rfO ⟨v, L, 0, 0⟩) ∨ ∃ T A, r = .blk i T A ∧ S.res i = some (.blk i T A) ∧ i ∈ ns ∧ InvA n A := fun i r hi => by
    rw [St.res_cons] at hi
    split at hi
    · rename_i h1; cases hi; exact .inl ⟨h1.symm, rfl⟩
    · right
      unfold St.res at hi
      cases hl : look h' i with
      | none => rw [hl] at hi; cases hi
      | some o =>
        rw [hl] at hi
        have hm := look_some_mem hl
        obtain ⟨T, A, h1, h2, h3, h4⟩ := hh _ hm
        have : o = some r := hi
        rw [this] at h1
        have h1 : r = .blk i T A := by simpa using h1
        exact ⟨T, A, h1, h2, h3, h4⟩
  have hokO : rfO.ok w ((e.set n ⟨(e n).b, 0, undef⟩) n).b ((e.set n ⟨(e n).b, 0, undef⟩) n).v ⟨v, L, 0, 0⟩ := by
    rw [Env.set_self]
    exact ⟨hB, fun x hx => by cases hx⟩
  have hfootB : ∀ i T A x, (Res.blk i T A).foot (e.set n ⟨(e n).b, 0, undef⟩) x → x = (e i).b := fun i T A x hx => by
    have hx : x = ((e.set n ⟨(e n).b, 0, undef⟩) i).b := hx
    rw [set_b] at hx; exact hx
  have hfootO : ∀ x, (Res.obj n rfO ⟨v, L, 0, 0⟩).foot (e.set n ⟨(e n).b, 0, undef⟩) x → x = (e n).b := fun x hx => by
    have hx : x = ((e.set n ⟨(e n).b, 0, undef⟩) n).b ∨ x ∈ vblk ((e.set n ⟨(e n).b, 0, undef⟩) n).v := hx
    rw [Env.set_self] at hx
    rcases hx with h | h
    · exact h
    · cases h
  refine ⟨hS.defers, hS.size, fun i v hv => ?_, fun i r hi => ?_, fun i r hi hw x hx => ?_, fun i j r r' hi hj hij hw x hx hx' => ?_, hS.frame⟩
  · obtain ⟨h1, h2⟩ := ht _ (look_some_mem hv)
    rw [hS.tmp i v h1, h2 e undef]
  · rcases hkey i r hi with ⟨rfl, rfl⟩ | ⟨T, A, rfl, h2, _, h4⟩
    · exact hokO
    · obtain ⟨fr, g1, g2⟩ := res_blk hS h2
      refine ⟨fr, ?_, g2⟩
      rw [set_b, h4 e undef]
      exact g1
  · rcases hkey i r hi with ⟨rfl, rfl⟩ | ⟨T, A, rfl, h2, _, _⟩
    · rw [hfootO x hx]; exact hS.mine n _ hr rfl _ rfl
    · rw [hfootB i T A x hx]; exact hS.mine i _ h2 rfl _ rfl
  · rcases hkey i r hi with ⟨rfl, rfl⟩ | ⟨T, A, rfl, h2, h3, _⟩
    · rcases hkey j r' hj with ⟨rfl, rfl⟩ | ⟨T', A', rfl, g2, g3, _⟩
      · exact hij rfl
      · exact hS.sep n j _ _ hr g2 (Ne.symm (hns j g3).1) rfl (e n).b rfl (by rw [← hfootO x hx]; exact hfootB j T' A' x hx')
    · rcases hkey j r' hj with ⟨rfl, rfl⟩ | ⟨T', A', rfl, g2, g3, _⟩
      · exact hS.sep n i _ _ hr h2 (Ne.symm (hns i h3).1) rfl (e n).b rfl (by rw [← hfootO x hx']; exact hfootB i T A x hx)
      · exact hS.sep i j _ _ h2 g2 hij rfl (e i).b rfl (by rw [← hfootB i T A x hx]; exact hfootB j T' A' x hx')
end
section
variable {C : Ctx}
theorem ent_nilB {t : List (Nat × SV)} {h : List (Nat × Option Res)} {T T0 : TypeId} {A : SA} (n q size : Nat) (A' : SA) (hr : (St.mk t h).res n = some (.blk n T A)) (hf : freshB ⟨t, h⟩ q = true) (hnq : Nat.beq n q = false) (hA : ∀ e : Env, (e q).v = .slice none 0 0 → A'.den e = A.den e) : Ents C ⟨t, h⟩ ⟨t, (n, some (.blk n T A')) :: (q, some (.own q T0 size 0 [])) :: h⟩ := fun e a w hS => by
  have hfr := freshB_spec hf
  have hne : n ≠ q := by intro h; subst h; simp at hnq
  have h1 := hS.rename hfr ⟨0, 0, .slice none 0 0⟩
  have hfo : ∀ b, ¬ (Res.own q T0 size 0 []).foot (e.set q ⟨0, 0, .slice none 0 0⟩) b := by
    intro b hb
    have hb : ((e.set q ⟨0, 0, .slice none 0 0⟩) q).v.ownBlock = some b := hb
    rw [Env.set_self] at hb; cases hb
  have hres : ∀ k r, (St.mk t ((n, some (.blk n T A')) :: (q, some (.own q T0 size 0 [])) :: h)).res k = some r → (k = n ∧ r = .blk n T A') ∨ (k = q ∧ r = .own q T0 size 0 []) ∨ (St.mk t h).res k = some r := fun k r hk => by
    rw [St.res_cons] at hk
    split at hk
    · rename_i h; cases hk; exact .inl ⟨h.symm, rfl⟩
    · rw [St.res_cons] at hk
      split at hk
      · rename_i h; cases hk; exact .inr (.inl ⟨h.symm, rfl⟩)
      · exact .inr (.inr hk)
  obtain ⟨fr, hB0, hfz⟩ := res_blk h1 hr
  have hbl : (Res.blk n T A').ok (e.set q ⟨0, 0, .slice none 0 0⟩) w := by
    refine ⟨fr, ?_, hfz⟩
    rw [hA _ (by rw [Env.set_self])]
    exact hB0
  have hbf : ∀ b, (Res.blk n T A').foot (e.set q ⟨0, 0, .slice none 0 0⟩) b → (Res.blk n T A).foot (e.set q ⟨0, 0, .slice none 0 0⟩) b := fun b hb => hb
  refine ⟨e.set q ⟨0, 0, .slice none 0 0⟩, h1.defers, h1.size, h1.tmp, fun k r hk => ?_, fun k r hk hw b hb => ?_, fun k m r r' hk hm hkm hw b hb hb' => ?_, h1.frame⟩
  · rcases hres k r hk with ⟨rfl, rfl⟩ | ⟨rfl, rfl⟩ | h
    · exact hbl
    · show w.ownsRow 0 T0 size _ 0 []
      rw [Env.set_self]
      exact ⟨by simp, .inl ⟨rfl, rfl⟩⟩
    · exact h1.res k r h
  · rcases hres k r hk with ⟨rfl, rfl⟩ | ⟨rfl, rfl⟩ | h
    · exact h1.mine _ _ hr rfl b (hbf b hb)
    · exact (hfo b hb).elim
    · exact h1.mine k r h hw b hb
  · rcases hres k r hk with ⟨rfl, rfl⟩ | ⟨rfl, rfl⟩ | h
    · rcases hres m r' hm with ⟨rfl, rfl⟩ | ⟨rfl, rfl⟩ | h'
      · exact hkm rfl
      · exact hfo b hb'
      · exact h1.sep _ m _ r' hr h' hkm rfl b (hbf b hb) hb'
    · exact hfo b hb
    · rcases hres m r' hm with ⟨rfl, rfl⟩ | ⟨rfl, rfl⟩ | h'
      · exact h1.sep k _ r _ h hr hkm hw b hb (hbf b hb')
      · exact hfo b hb'
      · exact h1.sep k m r r' h h' hkm hw b hb hb'
end
def rseq : Nat → RT → RT
  | 0, s => s
  | n + 1, s => (rseq n s).nx 1
theorem rseq_rd {w : World} {m : List Nat} {s : RT} (h : s.rd w m) (n : Nat) : (rseq n s).rd w m := by
  induction n with
  | zero => exact h
  | succ n ih => exact RT.rd_nx 1 ih
theorem rseq_abs {w : World} {m : List Nat} {s : RT} (h : s.rd w m) (n : Nat) : (rseq n s).abs = bseq n s.abs := by
  induction n with
  | zero => rfl
  | succ n ih => show ((rseq n s).nx 1).abs = nextR 1 (bseq n s.abs); rw [RT.nx_abs 1 (rseq_rd h n).2.1, ih]
theorem nAt_lt3 (a : RdS) : (nAt 25 a).toNat < 65536 := numR_lt 2 (by omega) (aAt 25 a)
attribute [local irreducible] Calls Walk1 WalkTo Tri EndA
theorem refDecode_any (L : List (BitVec 8)) (hL : L.length ≤ 500) (v : Value) (w : World) (hv : FS w 1 v L.length (valsL .u8 L)) : Calls Try.prog 25 #[v] w (RetG w 27 1 (decI ⟨L, 0⟩).length (valsL .u64 (decI ⟨L, 0⟩)) (fun u => recA (decR ⟨L, 0⟩) (slV u)) (.int .i64 (errR ⟨L, 0⟩))) := by
  have r0 : (RT.mk v L 0 0).rd w [] := ⟨fsx_of hv (by omega), Nat.zero_le _, by show L.length ≤ 100000; omega⟩
  have hae : (⟨L, 0⟩ : RdS).e = 0 ∨ (⟨L, 0⟩ : RdS).e = 4 := .inl rfl
  have hlen : (⟨L, 0⟩ : RdS).rest.length ≤ 500 := hL
  have e0 : (RT.mk v L 0 0).abs = aAt 0 ⟨L, 0⟩ := rfl
  generalize (⟨L, 0⟩ : RdS) = a at *
  obtain ⟨x0, c0, rfl, _⟩ := hv.2
  clear hv
  refine calls_tri Try.func25 rfl Try.ntmps25 rfl ?_
  iterate 14 (try (first | (show Walk1 _ _ _ (_ :: _) _ _; first | (show Walk1 _ _ _ (⟨_, .move _, _, _, _, _⟩ :: _) _ _; refine walk1_t (op_move rfl rfl rfl rfl) ?_) | (show Walk1 _ _ _ (⟨_, .assign _, _, _, _, _⟩ :: _) _ _; first | refine walk1_t (op_assignN rfl rfl rfl rfl) ?_ | refine walk1_t (op_assign rfl rfl rfl rfl) ?_) | (show Walk1 _ _ _ (⟨_, .alloc _, _, _, _, _⟩ :: _) _ _; refine walk1_n (op_alloc rfl rfl rfl rfl rfl) (by kernel_rfl) ?_) | (show Walk1 _ _ _ (⟨_, .box _ _, _, _, _, _⟩ :: _) _ _; refine walk1_n (op_box rfl rfl rfl rfl rfl) (by kernel_rfl) ?_) | (show Walk1 _ _ _ (⟨_, .build _ _, _, _, _, _⟩ :: _) _ _; refine walk1_t (op_buildS rfl rfl rfl rfl) ?_)) | refine go1 ?_ | refine end_block_other rfl ?_ | refine end_scope (fun _ h => by cases h) ?_ | (refine walk_endD ?_ ?_; (· kernel_rfl)) | refine tri_yesA rfl ?_ | refine tri_noA rfl ?_ | refine tri_trueA rfl ?_ | refine tri_falseA rfl ?_))
  refine rf_anew (L := L) (v := .slice x0 L.length c0) 15 7010 [2] [(2, .p 2 0), (3, .c (.int .i64 0)), (4, .p 15 0)] [(2, some (.blk 2 46 (.c (recA zeroRec (.slice none 0 0)))))] rfl (fun _ => by kernel_rfl) (by decide)
    (by intro x hx; simp only [List.mem_cons, List.not_mem_nil, or_false] at hx; rcases hx with rfl | rfl | rfl <;> first | exact ⟨rfl, inv_p⟩ | exact ⟨rfl, inv_c⟩)
    (by
      intro x hx
      simp only [List.mem_cons, List.not_mem_nil, or_false] at hx
      subst hx
      exact ⟨_, _, rfl, by kernel_rfl, by decide, invA_c⟩) ?_
  generalize RT.mk (.slice x0 L.length c0) L 0 0 = s0 at *
  obtain ⟨s1, e1, r1, c1⟩ := refNum_step 0 1 rfl (by omega) (by omega) e0 r0
  obtain ⟨s2, e2, r2, c2⟩ := refNum_step 1 1 rfl (by omega) (by omega) e1 r1
  obtain ⟨s3, e3, r3, c3⟩ := refNum_step 2 1 rfl (by omega) (by omega) e2 r2
  obtain ⟨s4, e4, r4, c4⟩ := refNum_step 3 1 rfl (by omega) (by omega) e3 r3
  obtain ⟨s5, e5, r5, c5⟩ := refNum_step 4 1 rfl (by omega) (by omega) e4 r4
  obtain ⟨s6, e6, r6, c6⟩ := refNum_step 5 1 rfl (by omega) (by omega) e5 r5
  obtain ⟨s7, e7, r7, c7⟩ := refNum_step 6 8 rfl (by omega) (by omega) e6 r6
  obtain ⟨s8, e8, r8, c8⟩ := refRead_step 7 rfl rfl rfl e7 r7
  obtain ⟨s9, e9, r9, c9⟩ := refRead_step 10 rfl rfl rfl e8 r8
  obtain ⟨s10, e10, r10, c10⟩ := refRead_step 13 rfl rfl rfl e9 r9
  obtain ⟨s11, e11, r11, c11⟩ := refRead_step 16 rfl rfl rfl e10 r10
  obtain ⟨s12, e12, r12, c12⟩ := refNum_step 19 4 rfl (by omega) (by omega) e11 r11
  obtain ⟨s13, e13, r13, c13⟩ := refNum_step 20 4 rfl (by omega) (by omega) e12 r12
  obtain ⟨s14, e14, r14, c14⟩ := refNum_step 21 1 rfl (by omega) (by omega) e13 r13
  obtain ⟨s15, e15, r15, c15⟩ := refNum_step 22 8 rfl (by omega) (by omega) e14 r14
  obtain ⟨s16, e16, r16, c16⟩ := refNum_step 23 8 rfl (by omega) (by omega) e15 r15
  obtain ⟨s17, e17, r17, c17⟩ := refNum_step 24 8 rfl (by omega) (by omega) e16 r16
  obtain ⟨s18, e18, r18, c18⟩ := refNum_step 25 2 rfl (by omega) (by omega) e17 r17
  iterate 5 (try (first | (show Walk1 _ _ _ (_ :: _) _ _; (show Walk1 _ _ _ (⟨_, .alloc _, _, _, _, _⟩ :: _) _ _; refine walk1_n (op_alloc rfl rfl rfl rfl rfl) (by kernel_rfl) ?_)) | refine go1 ?_ | refine end_block_other rfl ?_ | refine end_scope (fun _ h => by cases h) ?_ | (refine walk_endD ?_ ?_; (· kernel_rfl)) | refine tri_yesA rfl ?_ | refine tri_noA rfl ?_ | refine tri_trueA rfl ?_ | refine tri_falseA rfl ?_))
  refine tri_ent (ent_nilB (T0 := 27) 5 2001 1 ((SA.l [.c (.int .i64 0), .c (.int .i64 0), .c (.int .i64 0), .c (.int .i64 0), .c (.int .i64 0), .c (.int .i64 0), .c (.int .u64 (bvi 0#64))]).app ((SA.c #[.int .i64 0, .int .i64 0, .int .i64 0]).app ((SA.c #[.int .i64 0, .int .i64 0, .int .i64 0]).app ((SA.c #[.int .i64 0, .int .i64 0, .int .i64 0]).app ((SA.c #[.int .i64 0, .int .i64 0, .int .i64 0]).app ((SA.l [.c (.int .i64 0), .c (.int .i64 0), .c (.bool false), .c (.int .i64 0), .c (.int .i64 0), .c (.int .i64 0)]).app ((SA.l [.v 2001]).app ((SA.l [.c (.int .u32 (bvi 0#32)), .c (.int .u32 (bvi 0#32)), .c (.int .u32 (bvi 0#32))]).app ((SA.c (vals .u8 (List.replicate 32 (0#8)))).app (SA.c (vals .u8 (List.replicate 32 (0#8))))))))))))) rfl (by kernel_rfl) rfl
    (fun e h => by simp only [SA.app, SA.l, SA.c, SV.v, SV.c, List.map_cons, List.map_nil, h]; kernel_rfl)) ?_
  have z32 : (List.replicate 32 (0#8)).length = 32 := rfl
  have hp0 : (q0A a).size = 25 := rfl
  have hp7 : (#[.int .i64 (ptAt 7 a).x, .int .i64 (ptAt 7 a).y, .int .i64 (ptAt 7 a).z] : Array Value).size = 3 := rfl
  have hp10 : (#[.int .i64 (ptAt 10 a).x, .int .i64 (ptAt 10 a).y, .int .i64 (ptAt 10 a).z] : Array Value).size = 3 := rfl
  have hp13 : (#[.int .i64 (ptAt 13 a).x, .int .i64 (ptAt 13 a).y, .int .i64 (ptAt 13 a).z] : Array Value).size = 3 := rfl
  have hp16 : (#[.int .i64 (ptAt 16 a).x, .int .i64 (ptAt 16 a).y, .int .i64 (ptAt 16 a).z] : Array Value).size = 3 := rfl
  have hpz : (#[.int .i64 0, .int .i64 0, .int .i64 0] : Array Value).size = 3 := rfl
  generalize hZ : List.replicate 32 (0#8) = Z32 at *
  repeat (first | (show Walk1 _ _ _ (_ :: _) _ _; first | (show Walk1 _ _ _ (⟨_, .move _, _, _, _, _⟩ :: _) _ _; refine walk1_t (op_move rfl rfl rfl rfl) ?_) | (show Walk1 _ _ _ (⟨_, .assign _, _, _, _, _⟩ :: _) _ _; first | refine walk1_t (op_assignN rfl rfl rfl rfl) ?_ | refine walk1_t (op_assign rfl rfl rfl rfl) ?_) | (show Walk1 _ _ _ (⟨_, .binOp .eql _ _ _ _, _, _, _, _⟩ :: _) _ _; refine walk1_t (op_eqB rfl rfl rfl (by (first | exact evB_tmp rfl | exact evB_lit rfl rfl)) (by (first | exact evB_tmp rfl | exact evB_lit rfl rfl))) ?_) | (show Walk1 _ _ _ (⟨_, .store _ _ _, _, _, _, _⟩ :: _) _ _; first | refine walk1_b (op_store rfl rfl rfl rfl rfl rfl rfl) ?_ | refine walk1_b (op_storesM rfl rfl rfl rfl rfl rfl rfl) ?_) | (show Walk1 _ _ _ (⟨_, .fieldAddr _ _ _, _, _, _, _⟩ :: _) _ _; first | refine walk1_t (op_fldT rfl rfl rfl rfl rfl rfl off_zero) ?_ | refine walk1_t (op_fldT rfl rfl rfl rfl rfl rfl rfl) ?_) | (show Walk1 _ _ _ (⟨_, .convert _ _ _, _, _, _, _⟩ :: _) _ _; refine walk1_t (op_cvtBZ rfl rfl rfl (by (first | exact evB_tmp rfl | exact evB_lit rfl rfl)) rfl rfl) ?_) | (show Walk1 _ _ _ (⟨_, .call ⟨.value (.func 54), _, _⟩, _, _, _, _⟩ :: _) _ _; (refine walk1_callObjR 7010 (c1) rfl rfl rfl rfl (by repeat (first | exact evs_nil | apply evs_cons rfl)) rfl rfl (fun _ => rfl) (s0.rd_later) (r0) ?_)) | (show Walk1 _ _ _ (⟨_, .call ⟨.value (.func 54), _, _⟩, _, _, _, _⟩ :: _) _ _; (refine walk1_callObjR 7010 (c2) rfl rfl rfl rfl (by repeat (first | exact evs_nil | apply evs_cons rfl)) rfl rfl (fun _ => rfl) (s1.rd_later) (r1) ?_)) | (show Walk1 _ _ _ (⟨_, .call ⟨.value (.func 54), _, _⟩, _, _, _, _⟩ :: _) _ _; (refine walk1_callObjR 7010 (c3) rfl rfl rfl rfl (by repeat (first | exact evs_nil | apply evs_cons rfl)) rfl rfl (fun _ => rfl) (s2.rd_later) (r2) ?_)) | (show Walk1 _ _ _ (⟨_, .call ⟨.value (.func 54), _, _⟩, _, _, _, _⟩ :: _) _ _; (refine walk1_callObjR 7010 (c4) rfl rfl rfl rfl (by repeat (first | exact evs_nil | apply evs_cons rfl)) rfl rfl (fun _ => rfl) (s3.rd_later) (r3) ?_)) | (show Walk1 _ _ _ (⟨_, .call ⟨.value (.func 54), _, _⟩, _, _, _, _⟩ :: _) _ _; (refine walk1_callObjR 7010 (c5) rfl rfl rfl rfl (by repeat (first | exact evs_nil | apply evs_cons rfl)) rfl rfl (fun _ => rfl) (s4.rd_later) (r4) ?_)) | (show Walk1 _ _ _ (⟨_, .call ⟨.value (.func 54), _, _⟩, _, _, _, _⟩ :: _) _ _; (refine walk1_callObjR 7010 (c6) rfl rfl rfl rfl (by repeat (first | exact evs_nil | apply evs_cons rfl)) rfl rfl (fun _ => rfl) (s5.rd_later) (r5) ?_)) | (show Walk1 _ _ _ (⟨_, .call ⟨.value (.func 54), _, _⟩, _, _, _, _⟩ :: _) _ _; (refine walk1_callObjR 7010 (c7) rfl rfl rfl rfl (by repeat (first | exact evs_nil | apply evs_cons rfl)) rfl rfl (fun _ => rfl) (s6.rd_later) (r6) ?_)) | (show Walk1 _ _ _ (⟨_, .call ⟨.value (.func 55), _, _⟩, _, _, _, _⟩ :: _) _ _; (refine walk1_callObjR 7010 (c8) rfl rfl rfl rfl (by repeat (first | exact evs_nil | apply evs_cons rfl)) rfl rfl (fun _ => rfl) (s7.rd_later) (r7) ?_)) | (show Walk1 _ _ _ (⟨_, .call ⟨.value (.func 55), _, _⟩, _, _, _, _⟩ :: _) _ _; (refine walk1_callObjR 7010 (c9) rfl rfl rfl rfl (by repeat (first | exact evs_nil | apply evs_cons rfl)) rfl rfl (fun _ => rfl) (s8.rd_later) (r8) ?_)) | (show Walk1 _ _ _ (⟨_, .call ⟨.value (.func 55), _, _⟩, _, _, _, _⟩ :: _) _ _; (refine walk1_callObjR 7010 (c10) rfl rfl rfl rfl (by repeat (first | exact evs_nil | apply evs_cons rfl)) rfl rfl (fun _ => rfl) (s9.rd_later) (r9) ?_)) | (show Walk1 _ _ _ (⟨_, .call ⟨.value (.func 55), _, _⟩, _, _, _, _⟩ :: _) _ _; (refine walk1_callObjR 7010 (c11) rfl rfl rfl rfl (by repeat (first | exact evs_nil | apply evs_cons rfl)) rfl rfl (fun _ => rfl) (s10.rd_later) (r10) ?_)) | (show Walk1 _ _ _ (⟨_, .call ⟨.value (.func 54), _, _⟩, _, _, _, _⟩ :: _) _ _; (refine walk1_callObjR 7010 (c12) rfl rfl rfl rfl (by repeat (first | exact evs_nil | apply evs_cons rfl)) rfl rfl (fun _ => rfl) (s11.rd_later) (r11) ?_)) | (show Walk1 _ _ _ (⟨_, .call ⟨.value (.func 54), _, _⟩, _, _, _, _⟩ :: _) _ _; (refine walk1_callObjR 7010 (c13) rfl rfl rfl rfl (by repeat (first | exact evs_nil | apply evs_cons rfl)) rfl rfl (fun _ => rfl) (s12.rd_later) (r12) ?_)) | (show Walk1 _ _ _ (⟨_, .call ⟨.value (.func 54), _, _⟩, _, _, _, _⟩ :: _) _ _; (refine walk1_callObjR 7010 (c14) rfl rfl rfl rfl (by repeat (first | exact evs_nil | apply evs_cons rfl)) rfl rfl (fun _ => rfl) (s13.rd_later) (r13) ?_)) | (show Walk1 _ _ _ (⟨_, .call ⟨.value (.func 54), _, _⟩, _, _, _, _⟩ :: _) _ _; (refine walk1_callObjR 7010 (c15) rfl rfl rfl rfl (by repeat (first | exact evs_nil | apply evs_cons rfl)) rfl rfl (fun _ => rfl) (s14.rd_later) (r14) ?_)) | (show Walk1 _ _ _ (⟨_, .call ⟨.value (.func 54), _, _⟩, _, _, _, _⟩ :: _) _ _; (refine walk1_callObjR 7010 (c16) rfl rfl rfl rfl (by repeat (first | exact evs_nil | apply evs_cons rfl)) rfl rfl (fun _ => rfl) (s15.rd_later) (r15) ?_)) | (show Walk1 _ _ _ (⟨_, .call ⟨.value (.func 54), _, _⟩, _, _, _, _⟩ :: _) _ _; (refine walk1_callObjR 7010 (c17) rfl rfl rfl rfl (by repeat (first | exact evs_nil | apply evs_cons rfl)) rfl rfl (fun _ => rfl) (s16.rd_later) (r16) ?_)) | (show Walk1 _ _ _ (⟨_, .call ⟨.value (.func 54), _, _⟩, _, _, _, _⟩ :: _) _ _; (refine walk1_callObjR 7010 (c18) rfl rfl rfl rfl (by repeat (first | exact evs_nil | apply evs_cons rfl)) rfl rfl (fun _ => rfl) (s17.rd_later) (r17) ?_))) | ((fail_if_success (show Tri _ _ _ (.block _ _) _)); refine go1 ?_) | refine end_block_other rfl ?_ | refine end_scope (fun _ h => by cases h) ?_ | (refine walk_endD ?_ ?_; (· kernel_rfl)) | refine tri_yesA rfl ?_ | refine tri_noA rfl ?_ | refine tri_trueA rfl ?_ | refine tri_falseA rfl ?_)
  have hc8 : (nAt 21 a).toNat < 256 := numR_lt 1 (by omega) (aAt 21 a)
  have hcI : nI 21 a = ((nAt 21 a).toNat : Int) := by
    unfold nI
    rw [BitVec.toInt_eq_toNat_cond, if_pos (by omega)]
  have hcb : (nAt 21 a == BitVec.ofInt 64 1) = decide (nI 21 a = 1) := by
    rw [Bool.eq_iff_iff]
    simp only [beq_iff_eq, decide_eq_true_eq]
    constructor
    · intro h
      rw [hcI, h]
      rfl
    · intro h
      apply BitVec.eq_of_toNat_eq
      show _ = 1
      omega
  rw [hcb]
  refine tri_ent (ent_blkA 5 ((SA.c (q0A a)).app ((SA.l [.v 2001]).app ((SA.l [.c (.int .u32 (bvi 0#32)), .c (.int .u32 (bvi 0#32)), .c (.int .u32 (bvi 0#32))]).app ((SA.c (vals .u8 Z32)).app (SA.c (vals .u8 Z32)))))) rfl (fun e => by kernel_rfl)) ?_
  have hNv : (nAt 25 a).toInt = ((nAt 25 a).toNat : Int) := by
    have := nAt_lt3 a
    rw [BitVec.toInt_eq_toNat_cond, if_pos (by omega)]
  have hNb := nAt_lt3 a
  have hids : loopR (nAt 25 a).toNat (aAt 26 a) [] = idsR a := rfl
  rw [← e18] at hids
  generalize (nAt 25 a).toNat = N at *
  refine tri_normX (fun (x : RT × List (BitVec 64)) => ⟨[(2, .p 2 0), (3, .c (.int .i64 0)), (4, .p 15 0), (5, .p 5 0), (6, .c (.int .u64 (bvi (nAt 21 a))))], [(7010, some (.obj 15 rfO x.1)), (5, some (.blk 5 46 ((SA.c (q0A a)).app ((SA.l [.v 2001]).app ((SA.l [.c (.int .u32 (bvi 0#32)), .c (.int .u32 (bvi 0#32)), .c (.int .u32 (bvi 0#32))]).app ((SA.c (vals .u8 Z32)).app (SA.c (vals .u8 Z32)))))))), (2001, some (.own 2001 27 1 x.2.length (valsL .u64 x.2))), (2, some (.blk 2 46 (.c (recA zeroRec (.slice none 0 0)))))]⟩) (fun x => x.1.rd w [] ∧ (x.2, x.1.abs) = idsR a) ?_ ?_
  · rintro ⟨s, acc⟩ ⟨rs, hs⟩
    dsimp only
    have hacc : acc = (idsR a).1 := congrArg Prod.fst hs
    have hab : s.abs = b0R a := congrArg Prod.snd hs
    have q1 := RT.rd_nx 4 rs
    have q2 := RT.rd_nx 4 q1
    have q3 := RT.rd_nx 4 q2
    have g1 := refNum_obj 4 (by omega) (by omega) s
    have g2 := refNum_obj 4 (by omega) (by omega) (s.nx 4)
    have g3 := refNum_obj 4 (by omega) (by omega) ((s.nx 4).nx 4)
    simp only [RT.nx_abs 4 q1.2.1, RT.nx_abs 4 rs.2.1, hab] at g1 g2 g3
    have hz3 : (((s.nx 4).nx 4).nx 4).abs = b3R a := by rw [RT.nx_abs 4 q2.2.1, RT.nx_abs 4 q1.2.1, RT.nx_abs 4 rs.2.1, hab]; rfl
    generalize ((s.nx 4).nx 4).nx 4 = z3 at *
    generalize (s.nx 4).nx 4 = z2 at *
    generalize s.nx 4 = z1 at *
    clear hs hids hNv hNb e18 hp7 hp10 hp13 hp16 hpz
    repeat (first | (show Walk1 _ _ _ (_ :: _) _ _; first | (show Walk1 _ _ _ (⟨_, .move _, _, _, _, _⟩ :: _) _ _; refine walk1_t (op_move rfl rfl rfl rfl) ?_) | (show Walk1 _ _ _ (⟨_, .assign _, _, _, _, _⟩ :: _) _ _; refine walk1_t (op_assignN rfl rfl rfl rfl) ?_) | (show Walk1 _ _ _ (⟨_, .store _ _ _, _, _, _, _⟩ :: _) _ _; refine walk1_b (op_store rfl rfl rfl rfl rfl rfl rfl) ?_) | (show Walk1 _ _ _ (⟨_, .fieldAddr _ _ _, _, _, _, _⟩ :: _) _ _; refine walk1_t (op_fldT rfl rfl rfl rfl rfl rfl off_zero) ?_) | (show Walk1 _ _ _ (⟨_, .convert _ _ _, _, _, _, _⟩ :: _) _ _; refine walk1_t (op_convBB rfl rfl rfl (by (first | exact evB_tmp rfl | exact evB_lit rfl rfl)) rfl rfl) ?_) | (show Walk1 _ _ _ (⟨_, .call ⟨.value (.func 54), _, _⟩, _, _, _, _⟩ :: _) _ _; (refine walk1_callObjR 7010 (g1) rfl rfl rfl rfl (by repeat (first | exact evs_nil | apply evs_cons rfl)) rfl rfl (fun _ => rfl) (s.rd_later) (rs) ?_)) | (show Walk1 _ _ _ (⟨_, .call ⟨.value (.func 54), _, _⟩, _, _, _, _⟩ :: _) _ _; (refine walk1_callObjR 7010 (g2) rfl rfl rfl rfl (by repeat (first | exact evs_nil | apply evs_cons rfl)) rfl rfl (fun _ => rfl) (z1.rd_later) (q1) ?_)) | (show Walk1 _ _ _ (⟨_, .call ⟨.value (.func 54), _, _⟩, _, _, _, _⟩ :: _) _ _; (refine walk1_callObjR 7010 (g3) rfl rfl rfl rfl (by repeat (first | exact evs_nil | apply evs_cons rfl)) rfl rfl (fun _ => rfl) (z2.rd_later) (q2) ?_))) | ((fail_if_success (show Tri _ _ _ (.block _ _) _)); refine go1 ?_) | refine end_block_other rfl ?_ | refine end_scope (fun _ h => by cases h) ?_ | (refine walk_endD ?_ ?_; (· kernel_rfl)) | refine tri_yesA rfl ?_ | refine tri_noA rfl ?_ | refine tri_trueA rfl ?_ | refine tri_falseA rfl ?_)
    have hqa := rseq_abs q3
    have hqr := rseq_rd q3
    rw [hz3] at hqa
    have hZl : ∀ (b : RdS) (j : Nat), (putB b j Z32).length = 32 := fun b j => by rw [putB_length, z32]
    iterate 1 (try (first | refine go1 ?_ | refine end_block_other rfl ?_ | refine end_scope (fun _ h => by cases h) ?_ | (refine walk_endD ?_ ?_; (· kernel_rfl)) | refine tri_yesA rfl ?_ | refine tri_noA rfl ?_ | refine tri_trueA rfl ?_ | refine tri_falseA rfl ?_))
    refine tri_loop (X := Nat) (fun j => ⟨[(9, SV.c (.int .i64 ((j : Nat) : Int))), (2, .p 2 0), (3, .c (.int .i64 0)), (4, .p 15 0), (5, .p 5 0), (6, .c (.int .u64 (bvi (nAt 21 a))))], [(7010, some (.obj 15 rfO (rseq j z3))), (5, some (.blk 5 46 ((SA.c (q0A a)).app ((SA.l [.v 2001]).app ((SA.l [.c (.int .u32 (bvi ((numR 4 (b0R a)).setWidth 32))), .c (.int .u32 (bvi ((numR 4 (nextR 4 (b0R a))).setWidth 32))), .c (.int .u32 (bvi ((numR 4 (nextR 4 (nextR 4 (b0R a)))).setWidth 32)))]).app ((SA.c (vals .u8 (putB (b3R a) j Z32))).app (SA.c (vals .u8 Z32)))))))), (2001, some (.own 2001 27 1 acc.length (valsL .u64 acc))), (2, some (.blk 2 46 (.c (recA zeroRec (.slice none 0 0)))))]⟩)
      (fun j => j ≤ 32) (fun j => 32 - j) 0 (by omega) (by exact ent_keep (by repeat (first | exact hasT_nil | refine hasT_cons rfl ?_ | refine hasT_eq rfl (svi (by omega)) ?_)) (by repeat (first | exact hasR_nil | refine hasR_cons rfl ?_))) ?_
    intro j hj K next
    by_cases hjl : j < 32
    · have cN := refNum_obj 1 (by omega) (by omega) (rseq j z3)
      have hr1 := hqr j
      have hst : (putB (b3R a) j Z32).set j ((numR 1 (rseq j z3).abs).setWidth 8) = putB (b3R a) (j + 1) Z32 := by rw [hqa j]; rfl
      have hlj := hZl (b3R a) j
      have hrs : (rseq j z3).nx 1 = rseq (j + 1) z3 := rfl
      rw [hrs] at cN
      have nx := fun S' => next S' (j + 1)
      clear next
      generalize putB (b3R a) (j + 1) Z32 = Y1 at *
      generalize putB (b3R a) j Z32 = Y at *
      generalize rseq (j + 1) z3 = y1 at *
      generalize rseq j z3 = y at *
      repeat (first | (show Walk1 _ _ _ (_ :: _) _ _; first | (show Walk1 _ _ _ (⟨_, .move _, _, _, _, _⟩ :: _) _ _; refine walk1_t (op_move rfl rfl rfl rfl) ?_) | (show Walk1 _ _ _ (⟨_, .binOp .lss _ _ _ _, _, _, _, _⟩ :: _) _ _; refine walk1_t (op_ltN rfl rfl rfl (by first | exact evN_const rfl | exact rfl) (by first | exact evN_const rfl | exact rfl)) ?_) | (show Walk1 _ _ _ (⟨_, .indexAddr _ _ _, _, _, _, _⟩ :: _) _ _; refine walk1_t (op_idxP rfl rfl rfl rfl (by first | exact evK_const rfl | exact evK_tmp rfl) rfl rfl (by first | omega | decide) rfl) ?_) | (show Walk1 _ _ _ (⟨_, .fieldAddr _ _ _, _, _, _, _⟩ :: _) _ _; refine walk1_t (op_fldT rfl rfl rfl rfl rfl rfl off_zero) ?_) | (show Walk1 _ _ _ (⟨_, .convert _ _ _, _, _, _, _⟩ :: _) _ _; refine walk1_t (op_convBB rfl rfl rfl (by (first | exact evB_tmp rfl | exact evB_lit rfl rfl)) rfl rfl) ?_) | (show Walk1 _ _ _ (⟨_, .call ⟨.value (.func 54), _, _⟩, _, _, _, _⟩ :: _) _ _; (refine walk1_callObjR 7010 (cN) rfl rfl rfl rfl (by repeat (first | exact evs_nil | apply evs_cons rfl)) rfl rfl (fun _ => rfl) (y.rd_later) (hr1) ?_))) | refine go1 ?_ | refine end_block_other rfl ?_ | refine end_scope (fun _ h => by cases h) ?_ | (refine walk_endD ?_ ?_; (· kernel_rfl)) | refine tri_yesA rfl ?_ | refine tri_noA rfl ?_ | refine tri_trueA rfl ?_ | refine tri_falseA rfl ?_)
      refine walk1_b (op_store rfl rfl rfl rfl rfl rfl rfl (fun _ => rfl) (sz_appR (k := 25) (sm_c hp0) (sz_appR (k := 1) (sm_l rfl) (sz_appR (k := 3) (sm_l rfl) (sz_appL (sz_vals (by omega)))))) (set_appO (k := 25) (sm_c hp0) (by omega) (set_appO (k := 1) (sm_l rfl) (by omega) (set_appO (k := 3) (sm_l rfl) (by omega) (set_appL (sz_vals (by omega)) st_vals))))) ?_
      repeat (first | (show Walk1 _ _ _ (_ :: _) _ _; first | (show Walk1 _ _ _ (⟨_, .move _, _, _, _, _⟩ :: _) _ _; refine walk1_t (op_move rfl rfl rfl rfl) ?_) | (show Walk1 _ _ _ (⟨_, .assign _, _, _, _, _⟩ :: _) _ _; refine walk1_t (op_assign rfl rfl rfl rfl) ?_) | (show Walk1 _ _ _ (⟨_, .binOp .add _ _ _ _, _, _, _, _⟩ :: _) _ _; refine walk1_t (op_addN rfl rfl rfl (by first | exact evN_const rfl | exact rfl) (by first | exact evN_const rfl | exact rfl) (by omega)) ?_)) | refine go1 ?_ | refine end_block_other rfl ?_ | refine end_scope (fun _ h => by cases h) ?_ | (refine walk_endD ?_ ?_; (· kernel_rfl)) | refine tri_yesA rfl ?_ | refine tri_noA rfl ?_ | refine tri_trueA rfl ?_ | refine tri_falseA rfl ?_)
      rw [show 29 + j * 1 - 25 - 1 - 3 = j by omega, hst]
      exact nx _ (by omega) (by omega) (ent_keep (by repeat (first | exact hasT_nil | refine hasT_cons rfl ?_ | refine hasT_eq rfl (svi (by omega)) ?_)) (by repeat (first | exact hasR_nil | refine hasR_cons rfl ?_)))
    obtain rfl : j = 32 := by omega
    have hq32 := hqa 32
    have hr32 := hqr 32
    clear next hqa hqr
    generalize rseq 32 z3 = z4 at *
    have hqa := rseq_abs hr32
    have hqr := rseq_rd hr32
    rw [hq32] at hqa
    have hY1 : (putB (b3R a) 32 Z32).length = 32 := hZl _ _
    have hYd : putB (b3R a) 32 Z32 = putB (b3R a) 32 (List.replicate 32 0#8) := by rw [hZ]
    generalize putB (b3R a) 32 Z32 = Y at *
    repeat (first | (show Walk1 _ _ _ (_ :: _) _ _; first | (show Walk1 _ _ _ (⟨_, .move _, _, _, _, _⟩ :: _) _ _; refine walk1_t (op_move rfl rfl rfl rfl) ?_) | (show Walk1 _ _ _ (⟨_, .assign _, _, _, _, _⟩ :: _) _ _; refine walk1_t (op_assignN rfl rfl rfl rfl) ?_) | (show Walk1 _ _ _ (⟨_, .binOp .lss _ _ _ _, _, _, _, _⟩ :: _) _ _; refine walk1_t (op_ltN rfl rfl rfl (by first | exact evN_const rfl | exact rfl) (by first | exact evN_const rfl | exact rfl)) ?_)) | ((fail_if_success (show Tri _ _ _ (.block _ _) _)); refine go1 ?_) | refine end_block_other rfl ?_ | refine end_scope (fun _ h => by cases h) ?_ | (refine walk_endD ?_ ?_; (· kernel_rfl)) | refine tri_yesA rfl ?_ | refine tri_noA rfl ?_ | refine tri_trueA rfl ?_ | refine tri_falseA rfl ?_)
    iterate 1 (try (first | refine go1 ?_ | refine end_block_other rfl ?_ | refine end_scope (fun _ h => by cases h) ?_ | (refine walk_endD ?_ ?_; (· kernel_rfl)) | refine tri_yesA rfl ?_ | refine tri_noA rfl ?_ | refine tri_trueA rfl ?_ | refine tri_falseA rfl ?_))
    refine tri_loop (X := Nat) (fun j => ⟨[(10, SV.c (.int .i64 ((j : Nat) : Int))), (2, .p 2 0), (3, .c (.int .i64 0)), (4, .p 15 0), (5, .p 5 0), (6, .c (.int .u64 (bvi (nAt 21 a))))], [(7010, some (.obj 15 rfO (rseq j z4))), (5, some (.blk 5 46 ((SA.c (q0A a)).app ((SA.l [.v 2001]).app ((SA.l [.c (.int .u32 (bvi ((numR 4 (b0R a)).setWidth 32))), .c (.int .u32 (bvi ((numR 4 (nextR 4 (b0R a))).setWidth 32))), .c (.int .u32 (bvi ((numR 4 (nextR 4 (nextR 4 (b0R a)))).setWidth 32)))]).app ((SA.c (vals .u8 Y)).app (SA.c (vals .u8 (putB (bseq 32 (b3R a)) j Z32))))))))), (2001, some (.own 2001 27 1 acc.length (valsL .u64 acc))), (2, some (.blk 2 46 (.c (recA zeroRec (.slice none 0 0)))))]⟩)
      (fun j => j ≤ 32) (fun j => 32 - j) 0 (by omega) (by exact ent_keep (by repeat (first | exact hasT_nil | refine hasT_cons rfl ?_ | refine hasT_eq rfl (svi (by omega)) ?_)) (by repeat (first | exact hasR_nil | refine hasR_cons rfl ?_))) ?_
    intro j hj K next
    by_cases hjl : j < 32
    · have cN := refNum_obj 1 (by omega) (by omega) (rseq j z4)
      have hr1 := hqr j
      have hst : (putB (bseq 32 (b3R a)) j Z32).set j ((numR 1 (rseq j z4).abs).setWidth 8) = putB (bseq 32 (b3R a)) (j + 1) Z32 := by rw [hqa j]; rfl
      have hlj := hZl (bseq 32 (b3R a)) j
      have hrs : (rseq j z4).nx 1 = rseq (j + 1) z4 := rfl
      rw [hrs] at cN
      have nx := fun S' => next S' (j + 1)
      clear next
      generalize putB (bseq 32 (b3R a)) (j + 1) Z32 = W1 at *
      generalize putB (bseq 32 (b3R a)) j Z32 = W at *
      generalize rseq (j + 1) z4 = y1 at *
      generalize rseq j z4 = y at *
      repeat (first | (show Walk1 _ _ _ (_ :: _) _ _; first | (show Walk1 _ _ _ (⟨_, .move _, _, _, _, _⟩ :: _) _ _; refine walk1_t (op_move rfl rfl rfl rfl) ?_) | (show Walk1 _ _ _ (⟨_, .binOp .lss _ _ _ _, _, _, _, _⟩ :: _) _ _; refine walk1_t (op_ltN rfl rfl rfl (by first | exact evN_const rfl | exact rfl) (by first | exact evN_const rfl | exact rfl)) ?_) | (show Walk1 _ _ _ (⟨_, .indexAddr _ _ _, _, _, _, _⟩ :: _) _ _; refine walk1_t (op_idxP rfl rfl rfl rfl (by first | exact evK_const rfl | exact evK_tmp rfl) rfl rfl (by first | omega | decide) rfl) ?_) | (show Walk1 _ _ _ (⟨_, .fieldAddr _ _ _, _, _, _, _⟩ :: _) _ _; refine walk1_t (op_fldT rfl rfl rfl rfl rfl rfl off_zero) ?_) | (show Walk1 _ _ _ (⟨_, .convert _ _ _, _, _, _, _⟩ :: _) _ _; refine walk1_t (op_convBB rfl rfl rfl (by (first | exact evB_tmp rfl | exact evB_lit rfl rfl)) rfl rfl) ?_) | (show Walk1 _ _ _ (⟨_, .call ⟨.value (.func 54), _, _⟩, _, _, _, _⟩ :: _) _ _; (refine walk1_callObjR 7010 (cN) rfl rfl rfl rfl (by repeat (first | exact evs_nil | apply evs_cons rfl)) rfl rfl (fun _ => rfl) (y.rd_later) (hr1) ?_))) | refine go1 ?_ | refine end_block_other rfl ?_ | refine end_scope (fun _ h => by cases h) ?_ | (refine walk_endD ?_ ?_; (· kernel_rfl)) | refine tri_yesA rfl ?_ | refine tri_noA rfl ?_ | refine tri_trueA rfl ?_ | refine tri_falseA rfl ?_)
      refine walk1_b (op_store rfl rfl rfl rfl rfl rfl rfl (fun _ => rfl) (sz_appR (k := 25) (sm_c hp0) (sz_appR (k := 1) (sm_l rfl) (sz_appR (k := 3) (sm_l rfl) (sz_appR (k := 32) (sm_vals hY1) (sz_vals (by omega)))))) (set_appO (k := 25) (sm_c hp0) (by omega) (set_appO (k := 1) (sm_l rfl) (by omega) (set_appO (k := 3) (sm_l rfl) (by omega) (set_appO (k := 32) (sm_vals hY1) (by omega) st_vals))))) ?_
      repeat (first | (show Walk1 _ _ _ (_ :: _) _ _; first | (show Walk1 _ _ _ (⟨_, .move _, _, _, _, _⟩ :: _) _ _; refine walk1_t (op_move rfl rfl rfl rfl) ?_) | (show Walk1 _ _ _ (⟨_, .assign _, _, _, _, _⟩ :: _) _ _; refine walk1_t (op_assign rfl rfl rfl rfl) ?_) | (show Walk1 _ _ _ (⟨_, .binOp .add _ _ _ _, _, _, _, _⟩ :: _) _ _; refine walk1_t (op_addN rfl rfl rfl (by first | exact evN_const rfl | exact rfl) (by first | exact evN_const rfl | exact rfl) (by omega)) ?_)) | refine go1 ?_ | refine end_block_other rfl ?_ | refine end_scope (fun _ h => by cases h) ?_ | (refine walk_endD ?_ ?_; (· kernel_rfl)) | refine tri_yesA rfl ?_ | refine tri_noA rfl ?_ | refine tri_trueA rfl ?_ | refine tri_falseA rfl ?_)
      rw [show 61 + j * 1 - 25 - 1 - 3 - 32 = j by omega, hst]
      exact nx _ (by omega) (by omega) (ent_keep (by repeat (first | exact hasT_nil | refine hasT_cons rfl ?_ | refine hasT_eq rfl (svi (by omega)) ?_)) (by repeat (first | exact hasR_nil | refine hasR_cons rfl ?_)))
    obtain rfl : j = 32 := by omega
    have hWd : putB (bseq 32 (b3R a)) 32 Z32 = putB (bseq 32 (b3R a)) 32 (List.replicate 32 0#8) := by rw [hZ]
    rw [hWd, hYd]
    refine tri_ent (ent_blkO (n := 5) (q := 2001) (.fn 2001 (fun v => recA (recRD a) (slV v))) rfl rfl (fun e h => by
      show _ = recA (recRD a) (slV (e 2001).v)
      obtain ⟨x, c, hx⟩ := h
      rw [slV_slice ⟨x, _, c, hx⟩, recRD_chain]
      kernel_rfl)) ?_
    have hG1 : ∀ v, ((fun v => recA (recRD a) (slV v)) v).size = 93 := fun v => recA_size _ (recRD_ok a) _
    have hG2 : ∀ v, ((fun v => recA (recRD a) (slV v)) v).all (·.oneCell') = true := fun v => recA_all _ _ (slV_one v).1
    have hlen3 : acc.length ≤ 4096 := by rw [hacc]; have := idsR_len a; omega
    have cC : ∀ (e : Env) w, (∃ x c, (e 2001).v = .slice x acc.length c) → Calls Try.prog 21 #[.agg (recA (recRD a) (slV (e 2001).v))] w fun r w' => r = .returned (.int .i64 (recE (recR a))) ∧ Below w.heap.size w w' := fun e w h => by
      obtain ⟨x, c, hx⟩ := h
      rw [← recE_RD]
      exact refRecCheck_any (recRD a) (slV (e 2001).v) _ acc.length ⟨x, c, by rw [hx]; rfl⟩ hlen3 (recF (recRD a) (recRD_ok a) _) w
    have hF0 : ∀ (x : Int), errR a = x → x ≠ 0 → decR a = zeroRec ∧ decI a = [] := fun x h1 h2 => by
      unfold decR decI
      rw [h1]
      exact ⟨if_neg h2, if_neg h2⟩
    have hF1 : errR a = 0 → decR a = recR a ∧ decI a = acc := fun h1 => by
      unfold decR decI
      rw [h1, hacc]
      exact ⟨if_pos rfl, if_pos rfl⟩
    have hE0 : errR a = if endR (b5R a) ≠ 0 then endR (b5R a) else if 1 < nI 21 a then 5 else recE (recR a) := rfl
    have hbs : endR (bseq 64 (b3R a)) = endR (b5R a) := (end64 (b3R a) (b3R_e a hae)).symm
    have hrr : endR (b5R a) = 0 → recRD a = recR a := fun h => recRD_eq a hae (by rw [hbs]; exact h)
    have g6 := refEnd_obj (rseq 32 z4)
    rw [hqa 32, bseq_add, show 32 + 32 = 64 from rfl, hbs] at g6
    have hr6 := hqr 32
    generalize hGd : (fun v => recA (recRD a) (slV v)) = G at *
    have cC2 : ∀ (e : Env) w, (∃ x c, (e 2001).v = .slice x acc.length c) → Calls Try.prog 21 #[.agg (G (e 2001).v)] w fun r w' => r = .returned (.int .i64 (recE (recR a))) ∧ Below w.heap.size w w' := fun e w h => by rw [← hGd]; exact cC e w h
    have hgt : (1 < nI 21 a) = ((BitVec.ofInt 64 1).toNat < (nAt 21 a).toNat) := by
      rw [hcI]
      show ((1 : Int) < _) = (1 < _)
      exact propext ⟨fun h => by omega, fun h => by omega⟩
    have hF : (Ctx.mk 172 w []).frame w := ⟨rfl, rfl, rfl, Nat.le_refl _, fun _ _ _ => rfl⟩
    have hm : ∀ x ∈ ([] : List Nat), (Ctx.mk 172 w []).mine x := fun x hx => by cases hx
    clear next hqa hqr cC hYd hWd hY1 hacc g1 g2 g3 hbs
    generalize rseq 32 z4 = z5 at *
    generalize recE (recR a) = E2 at *
    generalize hEd : endR (b5R a) = E at *
    clear hcI hcb hc8
    generalize nI 21 a = CI at *
    generalize nAt 21 a = CN at *
    by_cases hE : E = 0
    · subst hE
      rw [if_neg (by simp)] at hE0
      have hrr := hrr rfl
      by_cases hc1 : 1 < CI
      · rw [if_pos hc1] at hE0
        have hc : (BitVec.ofInt 64 1).toNat < CN.toNat := by rw [← hgt]; exact hc1
        obtain ⟨k1, k2⟩ := hF0 5 hE0 (by decide)
        rw [hE0, k1, k2]
        repeat (first | (show Walk1 _ _ _ (_ :: _) _ _; first | (show Walk1 _ _ _ (⟨_, .move _, _, _, _, _⟩ :: _) _ _; refine walk1_t (op_move rfl rfl rfl rfl) ?_) | (show Walk1 _ _ _ (⟨_, .assign _, _, _, _, _⟩ :: _) _ _; refine walk1_t (op_assign rfl rfl rfl rfl) ?_) | (show Walk1 _ _ _ (⟨_, .binOp .lss _ _ _ _, _, _, _, _⟩ :: _) _ _; refine walk1_t (op_ltN rfl rfl rfl (by first | exact evN_const rfl | exact rfl) (by first | exact evN_const rfl | exact rfl)) ?_) | (show Walk1 _ _ _ (⟨_, .binOp .gtr _ _ _ _, _, _, _, _⟩ :: _) _ _; refine walk1_t (op_gtB rfl rfl rfl (by (first | exact evB_tmp rfl | exact evB_lit rfl rfl)) (by (first | exact evB_tmp rfl | exact evB_lit rfl rfl))) ?_) | (show Walk1 _ _ _ (⟨_, .binOp .neq _ _ _ _, _, _, _, _⟩ :: _) _ _; refine walk1_t (op_neN rfl rfl rfl (by first | exact evN_const rfl | exact rfl) (by first | exact evN_const rfl | exact rfl)) ?_) | (show Walk1 _ _ _ (⟨_, .call ⟨.value (.func 56), _, _⟩, _, _, _, _⟩ :: _) _ _; (refine walk1_callObjR 7010 (g6) rfl rfl rfl rfl (by repeat (first | exact evs_nil | apply evs_cons rfl)) rfl rfl (fun _ => rfl) (z5.rd_later) (hr6) ?_))) | refine go1 ?_ | refine end_block_other rfl ?_ | refine end_scope (fun _ h => by cases h) ?_ | (refine walk_endD ?_ ?_; (· kernel_rfl)) | refine tri_yesA rfl ?_ | refine tri_noA rfl ?_ | refine tri_trueA rfl ?_ | refine tri_falseA rfl ?_)
        refine walk1_t (op_buildC (parts := []) (vs := []) (recA zeroRec (.slice none 0 0)) rfl rfl rfl rfl rfl rfl (by kernel_rfl) (by kernel_rfl)) ?_
        refine walk1_b (op_storesC rfl rfl rfl rfl rfl rfl rfl (by kernel_rfl) (by kernel_rfl) (sm_c (by kernel_rfl))) ?_
        repeat (first | (show Walk1 _ _ _ (_ :: _) _ _; (show Walk1 _ _ _ (⟨_, .assign _, _, _, _, _⟩ :: _) _ _; refine walk1_t (op_assignN rfl rfl rfl rfl) ?_)) | refine go1 ?_ | refine end_block_other rfl ?_ | refine end_scope (fun _ h => by cases h) ?_ | (refine walk_endD ?_ ?_; (· kernel_rfl)) | refine tri_yesA rfl ?_ | refine tri_noA rfl ?_ | refine tri_trueA rfl ?_ | refine tri_falseA rfl ?_)
        refine end_ret _ (res_cellS rfl rfl rfl rfl rfl rfl rfl (sm_c (by kernel_rfl))) ?_
        exact fin_GX0 hF hm (fun e => rfl)
      · rw [if_neg hc1] at hE0
        have hc : ¬ ((BitVec.ofInt 64 1).toNat < CN.toNat) := by rw [← hgt]; exact hc1
        by_cases h2 : E2 = 0
        · subst h2
          obtain ⟨k1, k2⟩ := hF1 hE0
          rw [hE0, k1, k2, ← hrr, hGd]
          repeat (first | (show Walk1 _ _ _ (_ :: _) _ _; first | (show Walk1 _ _ _ (⟨_, .move _, _, _, _, _⟩ :: _) _ _; refine walk1_t (op_move rfl rfl rfl rfl) ?_) | (show Walk1 _ _ _ (⟨_, .assign _, _, _, _, _⟩ :: _) _ _; first | refine walk1_t (op_assignN rfl rfl rfl rfl) ?_ | refine walk1_t (op_assign rfl rfl rfl rfl) ?_) | (show Walk1 _ _ _ (⟨_, .binOp .lss _ _ _ _, _, _, _, _⟩ :: _) _ _; refine walk1_t (op_ltN rfl rfl rfl (by first | exact evN_const rfl | exact rfl) (by first | exact evN_const rfl | exact rfl)) ?_) | (show Walk1 _ _ _ (⟨_, .binOp .gtr _ _ _ _, _, _, _, _⟩ :: _) _ _; refine walk1_t (op_gtB rfl rfl rfl (by (first | exact evB_tmp rfl | exact evB_lit rfl rfl)) (by (first | exact evB_tmp rfl | exact evB_lit rfl rfl))) ?_) | (show Walk1 _ _ _ (⟨_, .binOp .neq _ _ _ _, _, _, _, _⟩ :: _) _ _; refine walk1_t (op_neN rfl rfl rfl (by first | exact evN_const rfl | exact rfl) (by first | exact evN_const rfl | exact rfl)) ?_) | (show Walk1 _ _ _ (⟨_, .load _ _, _, _, _, _⟩ :: _) _ _; refine walk1_t (op_loadsG rfl rfl rfl rfl rfl rfl rfl rfl (by with_reducible assumption)) ?_) | (show Walk1 _ _ _ (⟨_, .store _ _ _, _, _, _, _⟩ :: _) _ _; refine walk1_b (op_storeG rfl rfl rfl rfl rfl rfl rfl (by with_reducible assumption) (by with_reducible assumption)) ?_) | (show Walk1 _ _ _ (⟨_, .call ⟨.value (.func 56), _, _⟩, _, _, _, _⟩ :: _) _ _; (refine walk1_callObjR 7010 (g6) rfl rfl rfl rfl (by repeat (first | exact evs_nil | apply evs_cons rfl)) rfl rfl (fun _ => rfl) (z5.rd_later) (hr6) ?_)) | (show Walk1 _ _ _ (⟨_, .call ⟨.value (.func 21), _, _⟩, _, _, _, _⟩ :: _) _ _; (refine walk1_callM rfl rfl rfl rfl (by repeat (first | exact evs_nil | apply evs_cons rfl)) rfl ?_; refine ⟨_, _, callM_ow (q := 2001) rfl (fun e w h1 => cC2 e w h1), ?_⟩))) | refine go1 ?_ | refine end_block_other rfl ?_ | refine end_scope (fun _ h => by cases h) ?_ | (refine walk_endD ?_ ?_; (· kernel_rfl)) | refine tri_yesA rfl ?_ | refine tri_noA rfl ?_ | refine tri_trueA rfl ?_ | refine tri_falseA rfl ?_)
          refine end_ret _ (res_cellS rfl rfl rfl rfl rfl rfl rfl (fun e => hG1 _)) ?_
          exact fin_GX hF hm (q := 2001) rfl (fun e h => rfl)
        · obtain ⟨k1, k2⟩ := hF0 E2 hE0 h2
          rw [hE0, k1, k2]
          repeat (first | (show Walk1 _ _ _ (_ :: _) _ _; first | (show Walk1 _ _ _ (⟨_, .move _, _, _, _, _⟩ :: _) _ _; refine walk1_t (op_move rfl rfl rfl rfl) ?_) | (show Walk1 _ _ _ (⟨_, .assign _, _, _, _, _⟩ :: _) _ _; refine walk1_t (op_assign rfl rfl rfl rfl) ?_) | (show Walk1 _ _ _ (⟨_, .binOp .lss _ _ _ _, _, _, _, _⟩ :: _) _ _; refine walk1_t (op_ltN rfl rfl rfl (by first | exact evN_const rfl | exact rfl) (by first | exact evN_const rfl | exact rfl)) ?_) | (show Walk1 _ _ _ (⟨_, .binOp .gtr _ _ _ _, _, _, _, _⟩ :: _) _ _; refine walk1_t (op_gtB rfl rfl rfl (by (first | exact evB_tmp rfl | exact evB_lit rfl rfl)) (by (first | exact evB_tmp rfl | exact evB_lit rfl rfl))) ?_) | (show Walk1 _ _ _ (⟨_, .binOp .neq _ _ _ _, _, _, _, _⟩ :: _) _ _; first | refine walk1_t (op_neN rfl rfl rfl (by first | exact evN_const rfl | exact rfl) (by first | exact evN_const rfl | exact rfl)) ?_ | refine walk1_t (op_neI rfl rfl rfl rfl rfl) ?_) | (show Walk1 _ _ _ (⟨_, .load _ _, _, _, _, _⟩ :: _) _ _; refine walk1_t (op_loadsG rfl rfl rfl rfl rfl rfl rfl rfl (by with_reducible assumption)) ?_) | (show Walk1 _ _ _ (⟨_, .call ⟨.value (.func 56), _, _⟩, _, _, _, _⟩ :: _) _ _; (refine walk1_callObjR 7010 (g6) rfl rfl rfl rfl (by repeat (first | exact evs_nil | apply evs_cons rfl)) rfl rfl (fun _ => rfl) (z5.rd_later) (hr6) ?_)) | (show Walk1 _ _ _ (⟨_, .call ⟨.value (.func 21), _, _⟩, _, _, _, _⟩ :: _) _ _; (refine walk1_callM rfl rfl rfl rfl (by repeat (first | exact evs_nil | apply evs_cons rfl)) rfl ?_; refine ⟨_, _, callM_ow (q := 2001) rfl (fun e w h1 => cC2 e w h1), ?_⟩))) | refine go1 ?_ | refine end_block_other rfl ?_ | refine end_scope (fun _ h => by cases h) ?_ | (refine walk_endD ?_ ?_; (· kernel_rfl)) | refine tri_yesA rfl ?_ | refine tri_noA rfl ?_ | refine tri_trueA rfl ?_ | refine tri_falseA rfl ?_)
          refine walk1_t (op_buildC (parts := []) (vs := []) (recA zeroRec (.slice none 0 0)) rfl rfl rfl rfl rfl rfl (by kernel_rfl) (by kernel_rfl)) ?_
          iterate 1 (try (first | (show Walk1 _ _ _ (_ :: _) _ _; (show Walk1 _ _ _ (⟨_, .move _, _, _, _, _⟩ :: _) _ _; refine walk1_t (op_move rfl rfl rfl rfl) ?_)) | refine go1 ?_ | refine end_block_other rfl ?_ | refine end_scope (fun _ h => by cases h) ?_ | (refine walk_endD ?_ ?_; (· kernel_rfl)) | refine tri_yesA rfl ?_ | refine tri_noA rfl ?_ | refine tri_trueA rfl ?_ | refine tri_falseA rfl ?_))
          refine walk1_b (op_storesC rfl rfl rfl rfl rfl rfl rfl (by kernel_rfl) (by kernel_rfl) (sm_c (by kernel_rfl))) ?_
          repeat (first | (show Walk1 _ _ _ (_ :: _) _ _; (show Walk1 _ _ _ (⟨_, .assign _, _, _, _, _⟩ :: _) _ _; refine walk1_t (op_assign rfl rfl rfl rfl) ?_)) | refine go1 ?_ | refine end_block_other rfl ?_ | refine end_scope (fun _ h => by cases h) ?_ | (refine walk_endD ?_ ?_; (· kernel_rfl)) | refine tri_yesA rfl ?_ | refine tri_noA rfl ?_ | refine tri_trueA rfl ?_ | refine tri_falseA rfl ?_)
          refine end_ret _ (res_cellS rfl rfl rfl rfl rfl rfl rfl (sm_c (by kernel_rfl))) ?_
          exact fin_GX0 hF hm (fun e => rfl)
    · rw [if_pos hE] at hE0
      obtain ⟨k1, k2⟩ := hF0 E hE0 hE
      rw [hE0, k1, k2]
      repeat (first | (show Walk1 _ _ _ (_ :: _) _ _; first | (show Walk1 _ _ _ (⟨_, .move _, _, _, _, _⟩ :: _) _ _; refine walk1_t (op_move rfl rfl rfl rfl) ?_) | (show Walk1 _ _ _ (⟨_, .assign _, _, _, _, _⟩ :: _) _ _; refine walk1_t (op_assign rfl rfl rfl rfl) ?_) | (show Walk1 _ _ _ (⟨_, .binOp .lss _ _ _ _, _, _, _, _⟩ :: _) _ _; refine walk1_t (op_ltN rfl rfl rfl (by first | exact evN_const rfl | exact rfl) (by first | exact evN_const rfl | exact rfl)) ?_) | (show Walk1 _ _ _ (⟨_, .binOp .neq _ _ _ _, _, _, _, _⟩ :: _) _ _; refine walk1_t (op_neI rfl rfl rfl rfl rfl) ?_) | (show Walk1 _ _ _ (⟨_, .call ⟨.value (.func 56), _, _⟩, _, _, _, _⟩ :: _) _ _; (refine walk1_callObjR 7010 (g6) rfl rfl rfl rfl (by repeat (first | exact evs_nil | apply evs_cons rfl)) rfl rfl (fun _ => rfl) (z5.rd_later) (hr6) ?_))) | refine go1 ?_ | refine end_block_other rfl ?_ | refine end_scope (fun _ h => by cases h) ?_ | (refine walk_endD ?_ ?_; (· kernel_rfl)) | refine tri_yesA rfl ?_ | refine tri_noA rfl ?_ | refine tri_trueA rfl ?_ | refine tri_falseA rfl ?_)
      refine walk1_t (op_buildC (parts := []) (vs := []) (recA zeroRec (.slice none 0 0)) rfl rfl rfl rfl rfl rfl (by kernel_rfl) (by kernel_rfl)) ?_
      iterate 1 (try (first | (show Walk1 _ _ _ (_ :: _) _ _; (show Walk1 _ _ _ (⟨_, .move _, _, _, _, _⟩ :: _) _ _; refine walk1_t (op_move rfl rfl rfl rfl) ?_)) | refine go1 ?_ | refine end_block_other rfl ?_ | refine end_scope (fun _ h => by cases h) ?_ | (refine walk_endD ?_ ?_; (· kernel_rfl)) | refine tri_yesA rfl ?_ | refine tri_noA rfl ?_ | refine tri_trueA rfl ?_ | refine tri_falseA rfl ?_))
      refine walk1_b (op_storesC rfl rfl rfl rfl rfl rfl rfl (by kernel_rfl) (by kernel_rfl) (sm_c (by kernel_rfl))) ?_
      repeat (first | (show Walk1 _ _ _ (_ :: _) _ _; (show Walk1 _ _ _ (⟨_, .assign _, _, _, _, _⟩ :: _) _ _; refine walk1_t (op_assign rfl rfl rfl rfl) ?_)) | refine go1 ?_ | refine end_block_other rfl ?_ | refine end_scope (fun _ h => by cases h) ?_ | (refine walk_endD ?_ ?_; (· kernel_rfl)) | refine tri_yesA rfl ?_ | refine tri_noA rfl ?_ | refine tri_trueA rfl ?_ | refine tri_falseA rfl ?_)
      refine end_ret _ (res_cellS rfl rfl rfl rfl rfl rfl rfl (sm_c (by kernel_rfl))) ?_
      exact fin_GX0 hF hm (fun e => rfl)
  · intro Q' hQ _
    iterate 1 (try (first | refine go1 ?_ | refine end_block_other rfl ?_ | refine end_scope (fun _ h => by cases h) ?_ | (refine walk_endD ?_ ?_; (· kernel_rfl)) | refine tri_yesA rfl ?_ | refine tri_noA rfl ?_ | refine tri_trueA rfl ?_ | refine tri_falseA rfl ?_))
    refine tri_loop (X := Nat × RT × List (BitVec 64)) (fun x => ⟨[(8, SV.c (.int .i64 ((x.1 : Nat) : Int))), (7, SV.c (.int .i64 ((N : Nat) : Int))), (2, .p 2 0), (3, .c (.int .i64 0)), (4, .p 15 0), (5, .p 5 0), (6, .c (.int .u64 (bvi (nAt 21 a))))], [(7010, some (.obj 15 rfO x.2.1)), (5, some (.blk 5 46 ((SA.c (q0A a)).app ((SA.l [.v 2001]).app ((SA.l [.c (.int .u32 (bvi 0#32)), .c (.int .u32 (bvi 0#32)), .c (.int .u32 (bvi 0#32))]).app ((SA.c (vals .u8 Z32)).app (SA.c (vals .u8 Z32)))))))), (2001, some (.own 2001 27 1 x.2.2.length (valsL .u64 x.2.2))), (2, some (.blk 2 46 (.c (recA zeroRec (.slice none 0 0)))))]⟩)
      (fun x => x.1 ≤ N ∧ x.2.1.rd w [] ∧ loopR (N - x.1) x.2.1.abs x.2.2 = idsR a ∧ x.2.2.length = x.1) (fun x => N - x.1) (0, s18, []) ⟨by omega, r18, hids, rfl⟩ (by exact ent_keep (by repeat (first | exact hasT_nil | refine hasT_cons rfl ?_ | refine hasT_eq rfl (svi (by omega)) ?_)) (by repeat (first | exact hasR_nil | refine hasR_cons rfl ?_))) ?_
    rintro ⟨j, s, acc⟩ ⟨hj, rs, hl, hlen2⟩ K next
    dsimp only at *
    have cN := refNum_obj 8 (by omega) (by omega) s
    have hce : ∀ (w : World) (b : Nat) (v : Value), rfO.ok w b v s → w.cell? ⟨b, 2, none⟩ = some (.int .i64 s.e) := fun w b v h => (cell_of_row w b 2 _ _ _ h.1).trans rfl
    by_cases hjN : j < N
    · by_cases he : s.e = 0
      · repeat (first | (show Walk1 _ _ _ (_ :: _) _ _; first | (show Walk1 _ _ _ (⟨_, _, _, _, _, some _⟩ :: _) _ _; refine walk1_yes rfl rfl (by first | exact decide_eq_true (by omega) | exact decide_eq_false (by omega) | rfl | (show _ = true; with_reducible assumption) | (show _ = false; with_reducible assumption) | (simp <;> fail) | omega) ?_) | (show Walk1 _ _ _ (⟨_, .move _, _, _, _, _⟩ :: _) _ _; refine walk1_t (op_move rfl rfl rfl rfl) ?_) | (show Walk1 _ _ _ (⟨_, .assign _, _, _, _, _⟩ :: _) _ _; refine walk1_t (op_assign rfl rfl rfl rfl) ?_) | (show Walk1 _ _ _ (⟨_, .binOp .add _ _ _ _, _, _, _, _⟩ :: _) _ _; refine walk1_t (op_addN rfl rfl rfl (by first | exact evN_const rfl | exact rfl) (by first | exact evN_const rfl | exact rfl) (by omega)) ?_) | (show Walk1 _ _ _ (⟨_, .binOp .lss _ _ _ _, _, _, _, _⟩ :: _) _ _; refine walk1_t (op_ltN rfl rfl rfl (by first | exact evN_const rfl | exact rfl) (by first | exact evN_const rfl | exact rfl)) ?_) | (show Walk1 _ _ _ (⟨_, .binOp .eql _ _ _ _, _, _, _, _⟩ :: _) _ _; refine walk1_t (op_eqI rfl rfl rfl rfl rfl) ?_) | (show Walk1 _ _ _ (⟨_, .pick _ _ _, _, _, _, _⟩ :: _) _ _; refine walk1_t (op_pickY rfl rfl rfl rfl (by first | exact decide_eq_true (by omega) | exact decide_eq_false (by omega) | rfl | (show _ = true; with_reducible assumption) | (show _ = false; with_reducible assumption) | (simp <;> fail) | omega) rfl) ?_) | (show Walk1 _ _ _ (⟨_, .load _ _, _, _, _, _⟩ :: _) _ _; refine walk1_t (op_loadObj (k := 7010) rfl rfl rfl rfl rfl rfl rfl (by with_reducible assumption)) ?_) | (show Walk1 _ _ _ (⟨_, .nilCheck _, _, _, _, _⟩ :: _) _ _; refine walk1_t (op_nilP rfl rfl rfl rfl) ?_) | (show Walk1 _ _ _ (⟨_, .fieldAddr _ _ _, _, _, _, _⟩ :: _) _ _; refine walk1_t (op_fldT rfl rfl rfl rfl rfl rfl off_zero) ?_)) | (show WalkTo _ _ _ _ (_ :: _) _ _ _; first | (show WalkTo _ _ _ _ (⟨_, .move _, _, _, _, _⟩ :: _) _ _ _; refine walk_t (op_move rfl rfl rfl rfl) ?_) | (show WalkTo _ _ _ _ (⟨_, .load _ _, _, _, _, _⟩ :: _) _ _ _; refine walk_t (op_load rfl rfl rfl rfl rfl rfl rfl) ?_) | (show WalkTo _ _ _ _ (⟨_, .store _ _ _, _, _, _, _⟩ :: _) _ _ _; refine walk_b (op_storeO rfl rfl rfl rfl rfl rfl rfl (by first | exact one_own rfl | exact one_osub rfl)) ?_) | (show WalkTo _ _ _ _ (⟨_, .fieldAddr _ _ _, _, _, _, _⟩ :: _) _ _ _; refine walk_t (op_fldT rfl rfl rfl rfl rfl rfl off_zero) ?_) | (show WalkTo _ _ _ _ (⟨_, .call ⟨.builtin .append, _, _⟩, _, _, _, _⟩ :: _) _ _ _; refine walk_g (op_appendB rfl rfl rfl rfl rfl rfl rfl rfl rfl) (by kernel_rfl) ?_) | (show WalkTo _ _ _ _ (⟨_, .buildSlice _ _ _, _, _, _, _⟩ :: _) _ _ _; refine walk_n (op_bslice1 rfl rfl rfl rfl rfl rfl rfl rfl rfl rfl rfl (ce_one fun _ => rfl) (sm_l rfl) (by kernel_rfl)) (by kernel_rfl) ?_) | (show WalkTo _ _ _ _ (⟨_, .call ⟨.value (.func 54), _, _⟩, _, _, _, _⟩ :: _) _ _ _; (refine walk_callObjR 7010 (cN) rfl rfl rfl rfl (by repeat (first | exact evs_nil | apply evs_cons rfl)) rfl rfl (fun _ => rfl) (s.rd_later) (rs) ?_))) | refine go1 ?_ | refine end_block_other rfl ?_ | refine end_scope (fun _ h => by cases h) ?_ | (refine walk_endD ?_ ?_; (· kernel_rfl)) | refine tri_yesA rfl ?_ | refine tri_noA rfl ?_ | refine tri_trueA rfl ?_ | refine tri_falseA rfl ?_)
        refine next _ (j + 1, s.nx 8, acc ++ [numR 8 s.abs]) ⟨by omega, RT.rd_nx 8 rs, ?_, by rw [List.length_append, hlen2]; rfl⟩ (by show N - (j + 1) < N - j; omega) ?_
        · show loopR (N - (j + 1)) (s.nx 8).abs (acc ++ [numR 8 s.abs]) = idsR a
          have h1 : s.abs.e = 0 := he
          rw [← hl, RT.nx_abs 8 rs.2.1, show N - j = (N - (j + 1)) + 1 by omega]
          conv => rhs; unfold loopR
          rw [if_pos h1]
        · rw [show acc.length + 1 = (acc ++ [numR 8 s.abs]).length by simp]
          exact (ent_ren (fun n => cond (Nat.beq n 2001) 122 n) (by repeat (first | exact hasTm_nil | refine hasTm_cons rfl (fun _ => rfl) ?_)) (by repeat (first | exact hasRm_nil | refine hasRm_cons rfl (fun _ => rfl) (fun _ _ h => h) rfl ?_)) (by kernel_rfl))
      · repeat (first | (show Walk1 _ _ _ (_ :: _) _ _; first | (show Walk1 _ _ _ (⟨_, _, _, _, _, some _⟩ :: _) _ _; refine walk1_yes rfl rfl (by first | exact decide_eq_true (by omega) | exact decide_eq_false (by omega) | rfl | (show _ = true; with_reducible assumption) | (show _ = false; with_reducible assumption) | (simp <;> fail) | omega) ?_) | (show Walk1 _ _ _ (⟨_, .move _, _, _, _, _⟩ :: _) _ _; refine walk1_t (op_move rfl rfl rfl rfl) ?_) | (show Walk1 _ _ _ (⟨_, .binOp .lss _ _ _ _, _, _, _, _⟩ :: _) _ _; refine walk1_t (op_ltN rfl rfl rfl (by first | exact evN_const rfl | exact rfl) (by first | exact evN_const rfl | exact rfl)) ?_) | (show Walk1 _ _ _ (⟨_, .binOp .eql _ _ _ _, _, _, _, _⟩ :: _) _ _; refine walk1_t (op_eqI rfl rfl rfl rfl rfl) ?_) | (show Walk1 _ _ _ (⟨_, .pick _ _ _, _, _, _, _⟩ :: _) _ _; refine walk1_t (op_pickY rfl rfl rfl rfl (by first | exact decide_eq_true (by omega) | exact decide_eq_false (by omega) | rfl | (show _ = true; with_reducible assumption) | (show _ = false; with_reducible assumption) | (simp <;> fail) | omega) rfl) ?_) | (show Walk1 _ _ _ (⟨_, .load _ _, _, _, _, _⟩ :: _) _ _; refine walk1_t (op_loadObj (k := 7010) rfl rfl rfl rfl rfl rfl rfl (by with_reducible assumption)) ?_) | (show Walk1 _ _ _ (⟨_, .nilCheck _, _, _, _, _⟩ :: _) _ _; refine walk1_t (op_nilP rfl rfl rfl rfl) ?_) | (show Walk1 _ _ _ (⟨_, .fieldAddr _ _ _, _, _, _, _⟩ :: _) _ _; refine walk1_t (op_fldT rfl rfl rfl rfl rfl rfl off_zero) ?_)) | refine go1 ?_ | refine end_block_other rfl ?_ | refine end_scope (fun _ h => by cases h) ?_ | (refine walk_endD ?_ ?_; (· kernel_rfl)) | refine tri_yesA rfl ?_ | refine tri_noA rfl ?_ | refine tri_trueA rfl ?_ | refine tri_falseA rfl ?_)
        refine hQ _ (s, acc) ⟨rs, ?_⟩ (by exact ent_keep (by repeat (first | exact hasT_nil | refine hasT_cons rfl ?_ | refine hasT_eq rfl (svi (by omega)) ?_)) (by repeat (first | exact hasR_nil | refine hasR_cons rfl ?_)))
        rw [← hl]
        have h1 : ¬ (s.abs.e = 0) := he
        obtain ⟨q, hq⟩ : ∃ q, N - j = q + 1 := ⟨N - j - 1, by omega⟩
        rw [hq]
        unfold loopR
        rw [if_neg h1]
    · repeat (first | (show Walk1 _ _ _ (_ :: _) _ _; first | (show Walk1 _ _ _ (⟨_, _, _, _, _, some _⟩ :: _) _ _; refine walk1_no rfl rfl (by first | exact decide_eq_true (by omega) | exact decide_eq_false (by omega) | rfl | (show _ = true; with_reducible assumption) | (show _ = false; with_reducible assumption) | (simp <;> fail) | omega) rfl ?_) | (show Walk1 _ _ _ (⟨_, .move _, _, _, _, _⟩ :: _) _ _; refine walk1_t (op_move rfl rfl rfl rfl) ?_) | (show Walk1 _ _ _ (⟨_, .binOp .lss _ _ _ _, _, _, _, _⟩ :: _) _ _; refine walk1_t (op_ltN rfl rfl rfl (by first | exact evN_const rfl | exact rfl) (by first | exact evN_const rfl | exact rfl)) ?_) | (show Walk1 _ _ _ (⟨_, .pick _ _ _, _, _, _, _⟩ :: _) _ _; refine walk1_t (op_pickN rfl rfl rfl rfl (by first | exact decide_eq_true (by omega) | exact decide_eq_false (by omega) | rfl | (show _ = true; with_reducible assumption) | (show _ = false; with_reducible assumption) | (simp <;> fail) | omega) rfl) ?_)) | refine go1 ?_ | refine end_block_other rfl ?_ | refine end_scope (fun _ h => by cases h) ?_ | (refine walk_endD ?_ ?_; (· kernel_rfl)) | refine tri_yesA rfl ?_ | refine tri_noA rfl ?_ | refine tri_trueA rfl ?_ | refine tri_falseA rfl ?_)
      refine hQ _ (s, acc) ⟨rs, ?_⟩ (by exact ent_keep (by repeat (first | exact hasT_nil | refine hasT_cons rfl ?_ | refine hasT_eq rfl (svi (by omega)) ?_)) (by repeat (first | exact hasR_nil | refine hasR_cons rfl ?_)))
      rw [← hl, show N - j = 0 by omega]
      rfl
end Go.Proofs.Ytlhedoodbadmgaa
