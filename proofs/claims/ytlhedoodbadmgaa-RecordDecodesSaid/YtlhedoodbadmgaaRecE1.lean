/- record.Decode: walked. No condition. -/
import Derived.Test.YtlhedoodbadmgaaRecD9
import Derived.Test.YtlhedoodbadmgaaRec6
namespace Go.Proofs.Ytlhedoodbadmgaa
open Go.RowKit
set_option maxRecDepth 100000
set_option maxHeartbeats 4000000
section
variable {C : Ctx}
theorem ent_nilA {t : List (Nat × SV)} {h : List (Nat × Option Res)} {T T0 : TypeId} {A : SA} (n q size : Nat) (A' : SA) (hr : (St.mk t h).res n = some (.blk n T A)) (hf : freshB ⟨t, h⟩ q = true) (hnq : Nat.beq n q = false) (hA : ∀ e : Env, (e q).v = .slice none 0 0 → A'.den e = A.den e) : Ents C ⟨t, h⟩ ⟨t, (n, some (.blk n T A')) :: (q, some (.own q T0 size 0 [])) :: h⟩ := fun e a w hS => by
  have hfr := freshB_spec hf
  have hne : n ≠ q := by intro h; subst h; simp at hnq
  have h1 := hS.rename hfr ⟨0, 0, .slice none 0 0⟩
  have hfo : ∀ b, ¬ (Res.own q T0 size 0 []).foot (e.set q ⟨0, 0, .slice none 0 0⟩) b := by
    intro b hb
    have hb : ((e.set q ⟨0, 0, .slice none 0 0⟩) q).v.ownBlock = some b := hb
    rw [Env.set_self] at hb; cases hb
  have hres : ∀ k r, (St.mk t ((n, some (.blk n T A')) :: (q, some (.own q T0 size 0 [])) :: h)).res k = some r → (k = n ∧ r = .blk n T A') ∨ (k = q ∧ r = .own q T0 size 0 []) ∨ (St.mk t h).res k = some r := fun k r hk => by
    rw [St.res_cons] at hk
    split at hk
    · rename_i h; cases hk; exact .inl ⟨h.symm, rfl⟩
    · rw [St.res_cons] at hk
      split at hk
      · rename_i h; cases hk; exact .inr (.inl ⟨h.symm, rfl⟩)
      · exact .inr (.inr hk)
  obtain ⟨fr, hB0, hfz⟩ := res_blk h1 hr
  have hbl : (Res.blk n T A').ok (e.set q ⟨0, 0, .slice none 0 0⟩) w := by
    refine ⟨fr, ?_, hfz⟩
    rw [hA _ (by rw [Env.set_self])]
    exact hB0
  have hbf : ∀ b, (Res.blk n T A').foot (e.set q ⟨0, 0, .slice none 0 0⟩) b → (Res.blk n T A).foot (e.set q ⟨0, 0, .slice none 0 0⟩) b := fun b hb => hb
  refine ⟨e.set q ⟨0, 0, .slice none 0 0⟩, h1.defers, h1.size, h1.tmp, fun k r hk => ?_, fun k r hk hw b hb => ?_, fun k m r r' hk hm hkm hw b hb hb' => ?_, h1.frame⟩
  · rcases hres k r hk with ⟨rfl, rfl⟩ | ⟨rfl, rfl⟩ | h
    · exact hbl
    · show w.ownsRow 0 T0 size _ 0 []
      rw [Env.set_self]
      exact ⟨by simp, .inl ⟨rfl, rfl⟩⟩
    · exact h1.res k r h
  · rcases hres k r hk with ⟨rfl, rfl⟩ | ⟨rfl, rfl⟩ | h
    · exact h1.mine _ _ hr rfl b (hbf b hb)
    · exact (hfo b hb).elim
    · exact h1.mine k r h hw b hb
  · rcases hres k r hk with ⟨rfl, rfl⟩ | ⟨rfl, rfl⟩ | h
    · rcases hres m r' hm with ⟨rfl, rfl⟩ | ⟨rfl, rfl⟩ | h'
      · exact hkm rfl
      · exact hfo b hb'
      · exact h1.sep _ m _ r' hr h' hkm rfl b (hbf b hb) hb'
    · exact hfo b hb
    · rcases hres m r' hm with ⟨rfl, rfl⟩ | ⟨rfl, rfl⟩ | h'
      · exact h1.sep k _ r _ h hr hkm hw b hb (hbf b hb')
      · exact hfo b hb'
      · exact h1.sep k m r r' h h' hkm hw b hb hb'
end
theorem uint_step {w : World} {m : List Nat} {s : RS} {a : RdS} (i k : Nat) (hk : ksL[i]? = some k) (hk1 : 1 ≤ k) (hk8 : k ≤ 8) (he : s.abs = aAt i a) (hrd : s.rd w m) : ∃ s' : RS, s'.abs = aAt (i + 1) a ∧ s'.rd w m ∧ ObjR rdO s.rd 48 (fun b => #[.agg #[.pointer (some ⟨b, 0, none⟩)], .int .i64 (k : Int)]) s s' (.int .i64 (nI i a)) :=
  ⟨s.nx k, by rw [RS.nx_abs, he, aAt_step a hk], RS.rd_nx k hrd, by have := uint_obj k hk1 hk8 s; rw [he, ← nAt_eq a hk] at this; exact this⟩
theorem num_step {w : World} {m : List Nat} {s : RS} {a : RdS} (i k : Nat) (hk : ksL[i]? = some k) (hk1 : 1 ≤ k) (hk8 : k ≤ 8) (he : s.abs = aAt i a) (hrd : s.rd w m) : ∃ s' : RS, s'.abs = aAt (i + 1) a ∧ s'.rd w m ∧ ObjR rdO s.rd 49 (fun b => #[.pointer (some ⟨b, 0, none⟩), .int .i64 (k : Int)]) s s' (.int .u64 (bvi (nAt i a))) :=
  ⟨s.nx k, by rw [RS.nx_abs, he, aAt_step a hk], RS.rd_nx k hrd, by have := num_obj k hk1 hk8 s; rw [he, ← nAt_eq a hk] at this; exact this⟩
theorem point_step {w : World} {m : List Nat} {s : RS} {a : RdS} (i : Nat) (h1 : ksL[i]? = some 4) (h2 : ksL[i + 1]? = some 4) (h3 : ksL[i + 2]? = some 4) (he : s.abs = aAt i a) (hrd : s.rd w m) : ∃ s' : RS, s'.abs = aAt (i + 3) a ∧ s'.rd w m ∧ ObjR rdO s.rd 50 (fun b => #[.agg #[.pointer (some ⟨b, 0, none⟩)]]) s s' (.agg #[.int .i64 (ptAt i a).x, .int .i64 (ptAt i a).y, .int .i64 (ptAt i a).z]) :=
  ⟨((s.nx 4).nx 4).nx 4, by rw [RS.nx_abs, RS.nx_abs, RS.nx_abs, he, aAt_step a h3, aAt_step a h2, aAt_step a h1], RS.rd_nx 4 (RS.rd_nx 4 (RS.rd_nx 4 hrd)), by
    have := point_obj s
    simp only [RS.nx_abs, he] at this
    rw [← aAt_step a h1, ← aAt_step a h2, ← nAt_eq a h1, ← nAt_eq a h2, ← nAt_eq a h3] at this
    exact this⟩
def camR (a : RdS) : CamS := { eye := ptAt 7 a, right := ptAt 10 a, up := ptAt 13 a, ahead := ptAt 16 a, lens := nI 19 a, focus := nI 20 a }
theorem nAt_lt2 (a : RdS) : (nAt 25 a).toNat < 65536 := numR_lt 2 (by omega) (aAt 25 a)
def recL (x : Int) : RecS := { zeroRec with layer := x }
attribute [local irreducible] Calls Walk1 WalkTo Tri EndA
theorem decode_any (L : List (BitVec 8)) (hL : L.length ≤ 500) (v : Value) (w : World) (hv : FS w 1 v L.length (valsL .u8 L)) : Calls Try.prog 24 #[v] w (RetG w 27 1 (decI ⟨L, 0⟩).length (valsL .u64 (decI ⟨L, 0⟩)) (fun u => recA (decR ⟨L, 0⟩) (slV u)) (.int .i64 (errR ⟨L, 0⟩))) := by
  have cn := fun w h => rdNew_any v L w h (by omega)
  have hrv := hv.rd
  have hlen : (⟨L, 0⟩ : RdS).rest.length ≤ 500 := hL
  have hs0 : ∀ u, (RS.mk u L 0).abs = aAt 0 ⟨L, 0⟩ := fun _ => rfl
  generalize (⟨L, 0⟩ : RdS) = a at *
  refine calls_tri Try.func24 rfl Try.ntmps24 rfl ?_
  iterate 15 (try (first | (show Walk1 _ _ _ (_ :: _) _ _; first | (show Walk1 _ _ _ (⟨_, .move _, _, _, _, _⟩ :: _) _ _; refine walk1_t (op_move rfl rfl rfl rfl) ?_) | (show Walk1 _ _ _ (⟨_, .assign _, _, _, _, _⟩ :: _) _ _; refine walk1_t (op_assignN rfl rfl rfl rfl) ?_) | (show Walk1 _ _ _ (⟨_, .store _ _ _, _, _, _, _⟩ :: _) _ _; refine walk1_b (op_stores rfl rfl rfl rfl rfl rfl rfl) ?_) | (show Walk1 _ _ _ (⟨_, .alloc _, _, _, _, _⟩ :: _) _ _; refine walk1_n (op_alloc rfl rfl rfl rfl rfl) (by kernel_rfl) ?_) | (show Walk1 _ _ _ (⟨_, .build _ _, _, _, _, _⟩ :: _) _ _; refine walk1_t (op_buildS rfl rfl rfl rfl) ?_) | (show Walk1 _ _ _ (⟨_, .call ⟨.value (.func 47), _, _⟩, _, _, _, _⟩ :: _) _ _; (refine walk1_callNL 3000 (.l [.v 3000, .c (.int .i64 0), .c (.bool true)]) rfl rfl rfl rfl (by kernel_rfl) (by kernel_rfl) (by kernel_rfl) (by kernel_rfl) (by repeat (first | exact evs_nil | apply evs_cons rfl)) rfl ?_; refine ⟨_, _, _, _, _, callNL_1 (rdn_old hrv (by omega) rfl) (fun e w h1 => cn w h1), (fun _ => rfl), (by first | exact isOwn_own | exact isOwn_sub), ?_⟩))) | refine go1 ?_ | refine end_block_other rfl ?_ | refine end_scope (fun _ h => by cases h) ?_ | (refine walk_endD ?_ ?_; (· kernel_rfl)) | refine tri_yesA rfl ?_ | refine tri_noA rfl ?_ | refine tri_trueA rfl ?_ | refine tri_falseA rfl ?_))
  refine rd_anew 10 3000 7010 [2, 4] [(2, .p 2 0), (3, .c (.int .i64 0)), (4, .p 4 0)] [(4, some (.blk 4 116 (.l [.p 10 0]))), (2, some (.blk 2 46 (.c (recA zeroRec (.slice none 0 0)))))] rfl rfl (by decide) (by decide)
    (by intro x hx; simp only [List.mem_cons, List.not_mem_nil, or_false] at hx; rcases hx with rfl | rfl | rfl <;> first | exact ⟨rfl, inv_p⟩ | exact ⟨rfl, inv_c⟩)
    (by
      intro x hx
      simp only [List.mem_cons, List.not_mem_nil, or_false] at hx
      rcases hx with rfl | rfl
      · exact ⟨_, _, rfl, rfl, by decide, invA_l (by intro v hv; simp only [List.mem_cons, List.not_mem_nil, or_false] at hv; subst hv; exact inv_p)⟩
      · exact ⟨_, _, rfl, by kernel_rfl, by decide, invA_c⟩) ?_

  intro w1 m u hrd0 hF hm
  have hs0 := hs0 u
  clear hv hrv cn
  generalize RS.mk u L 0 = s0 at *
  obtain ⟨s1, e1, r1, c1⟩ := uint_step 0 1 rfl (by omega) (by omega) hs0 hrd0
  obtain ⟨s2, e2, r2, c2⟩ := uint_step 1 1 rfl (by omega) (by omega) e1 r1
  obtain ⟨s3, e3, r3, c3⟩ := uint_step 2 1 rfl (by omega) (by omega) e2 r2
  obtain ⟨s4, e4, r4, c4⟩ := uint_step 3 1 rfl (by omega) (by omega) e3 r3
  obtain ⟨s5, e5, r5, c5⟩ := uint_step 4 1 rfl (by omega) (by omega) e4 r4
  obtain ⟨s6, e6, r6, c6⟩ := uint_step 5 1 rfl (by omega) (by omega) e5 r5
  obtain ⟨s7, e7, r7, c7⟩ := num_step 6 8 rfl (by omega) (by omega) e6 r6
  obtain ⟨s8, e8, r8, c8⟩ := point_step 7 rfl rfl rfl e7 r7
  obtain ⟨s9, e9, r9, c9⟩ := point_step 10 rfl rfl rfl e8 r8
  obtain ⟨s10, e10, r10, c10⟩ := point_step 13 rfl rfl rfl e9 r9
  obtain ⟨s11, e11, r11, c11⟩ := point_step 16 rfl rfl rfl e10 r10
  obtain ⟨s12, e12, r12, c12⟩ := uint_step 19 4 rfl (by omega) (by omega) e11 r11
  obtain ⟨s13, e13, r13, c13⟩ := uint_step 20 4 rfl (by omega) (by omega) e12 r12
  obtain ⟨s14, e14, r14, c14⟩ := uint_step 21 1 rfl (by omega) (by omega) e13 r13
  obtain ⟨s15, e15, r15, c15⟩ := uint_step 22 8 rfl (by omega) (by omega) e14 r14
  obtain ⟨s16, e16, r16, c16⟩ := uint_step 23 8 rfl (by omega) (by omega) e15 r15
  obtain ⟨s17, e17, r17, c17⟩ := uint_step 24 8 rfl (by omega) (by omega) e16 r16
  obtain ⟨s18, e18, r18, c18⟩ := uint_step 25 2 rfl (by omega) (by omega) e17 r17
  iterate 4 (try (first | (show Walk1 _ _ _ (_ :: _) _ _; first | (show Walk1 _ _ _ (⟨_, .load _ _, _, _, _, _⟩ :: _) _ _; refine walk1_t (op_loads rfl rfl rfl rfl rfl rfl rfl rfl) ?_) | (show Walk1 _ _ _ (⟨_, .call ⟨.value (.func 48), _, _⟩, _, _, _, _⟩ :: _) _ _; (refine walk1_callObjR 7010 (c1) rfl rfl rfl rfl (by repeat (first | exact evs_nil | apply evs_cons rfl)) rfl rfl (fun _ => rfl) (s0.rd_later) (hrd0) ?_))) | refine go1 ?_ | refine end_block_other rfl ?_ | refine end_scope (fun _ h => by cases h) ?_ | (refine walk_endD ?_ ?_; (· kernel_rfl)) | refine tri_yesA rfl ?_ | refine tri_noA rfl ?_ | refine tri_trueA rfl ?_ | refine tri_falseA rfl ?_))
  refine walk1_t (op_buildC (parts := [(0, .tmp 13)]) (vs := [.int .i64 (nI 0 a)]) (recA (recL (nI 0 a)) (.slice none 0 0)) rfl rfl rfl rfl rfl rfl (by kernel_rfl) (by kernel_rfl)) ?_
  iterate 1 (try (first | (show Walk1 _ _ _ (_ :: _) _ _; (show Walk1 _ _ _ (⟨_, .alloc _, _, _, _, _⟩ :: _) _ _; refine walk1_n (op_alloc rfl rfl rfl rfl rfl) (by kernel_rfl) ?_)) | refine go1 ?_ | refine end_block_other rfl ?_ | refine end_scope (fun _ h => by cases h) ?_ | (refine walk_endD ?_ ?_; (· kernel_rfl)) | refine tri_yesA rfl ?_ | refine tri_noA rfl ?_ | refine tri_trueA rfl ?_ | refine tri_falseA rfl ?_))
  refine walk1_b (op_storesC rfl rfl rfl rfl rfl rfl rfl (by kernel_rfl) (by kernel_rfl) (sm_c (by kernel_rfl))) ?_
  iterate 2 (try (first | refine go1 ?_ | refine end_block_other rfl ?_ | refine end_scope (fun _ h => by cases h) ?_ | (refine walk_endD ?_ ?_; (· kernel_rfl)) | refine tri_yesA rfl ?_ | refine tri_noA rfl ?_ | refine tri_trueA rfl ?_ | refine tri_falseA rfl ?_))
  refine tri_ent (ent_nilA (T0 := 27) 5 2001 1 ((SA.l [.c (.int .i64 (nI 0 a))]).app ((SA.l [.c (.int .i64 0), .c (.int .i64 0), .c (.int .i64 0), .c (.int .i64 0), .c (.int .i64 0), .c (.int .u64 (bvi 0#64))]).app ((SA.c zeroRec.view.cam.c).app ((SA.l [.c (.bool false)]).app ((SA.c zS.c).app ((SA.l [.v 2001]).app ((SA.l [.c (.int .u32 (bvi 0#32)), .c (.int .u32 (bvi 0#32)), .c (.int .u32 (bvi 0#32))]).app ((SA.c (vals .u8 (List.replicate 32 (0#8)))).app (SA.c (vals .u8 (List.replicate 32 (0#8)))))))))))) rfl (by kernel_rfl) rfl
    (fun e h => by simp only [SA.app, SA.l, SA.c, SV.v, SV.c, List.map_cons, List.map_nil, h]; kernel_rfl)) ?_
  have z32 : (List.replicate 32 (0#8)).length = 32 := rfl
  have zcs : zeroRec.view.cam.c.size = 14 := rfl
  have zss : zS.c.size = 3 := rfl
  generalize hZ : List.replicate 32 (0#8) = Z32 at *
  iterate 6 (try (first | (show Walk1 _ _ _ (_ :: _) _ _; first | (show Walk1 _ _ _ (⟨_, .assign _, _, _, _, _⟩ :: _) _ _; refine walk1_t (op_assign rfl rfl rfl rfl) ?_) | (show Walk1 _ _ _ (⟨_, .fieldAddr _ _ _, _, _, _, _⟩ :: _) _ _; refine walk1_t (op_fldT rfl rfl rfl rfl rfl rfl off_zero) ?_)) | refine go1 ?_ | refine end_block_other rfl ?_ | refine end_scope (fun _ h => by cases h) ?_ | (refine walk_endD ?_ ?_; (· kernel_rfl)) | refine tri_yesA rfl ?_ | refine tri_noA rfl ?_ | refine tri_trueA rfl ?_ | refine tri_falseA rfl ?_))
  refine tri_is 5 1001 6 1 rfl ?_
  intro b5
  iterate 60 (try (first | (show Walk1 _ _ _ (_ :: _) _ _; first | (show Walk1 _ _ _ (⟨_, .move _, _, _, _, _⟩ :: _) _ _; refine walk1_t (op_move rfl rfl rfl rfl) ?_) | (show Walk1 _ _ _ (⟨_, .load _ _, _, _, _, _⟩ :: _) _ _; refine walk1_t (op_load rfl rfl rfl rfl rfl rfl rfl) ?_) | (show Walk1 _ _ _ (⟨_, .store _ _ _, _, _, _, _⟩ :: _) _ _; refine walk1_b (op_store rfl rfl rfl rfl rfl rfl rfl) ?_) | (show Walk1 _ _ _ (⟨_, .nilCheck _, _, _, _, _⟩ :: _) _ _; refine walk1_t (op_nilR 1001 rfl rfl rfl rfl rfl) ?_) | (show Walk1 _ _ _ (⟨_, .fieldAddr _ _ _, _, _, _, _⟩ :: _) _ _; first | refine walk1_t (op_fldT rfl rfl rfl rfl rfl rfl off_zero) ?_ | refine walk1_t (op_fldT rfl rfl rfl rfl rfl rfl rfl) ?_) | (show Walk1 _ _ _ (⟨_, .call ⟨.value (.func 49), _, _⟩, _, _, _, _⟩ :: _) _ _; (refine walk1_callObjR 7010 (c7) rfl rfl rfl rfl (by repeat (first | exact evs_nil | apply evs_cons rfl)) rfl rfl (fun _ => rfl) (s6.rd_later) (r6) ?_))) | (show WalkTo _ _ _ _ (_ :: _) _ _ _; first | (show WalkTo _ _ _ _ (⟨_, .move _, _, _, _, _⟩ :: _) _ _ _; refine walk_t (op_move rfl rfl rfl rfl) ?_) | (show WalkTo _ _ _ _ (⟨_, .load _ _, _, _, _, _⟩ :: _) _ _ _; refine walk_t (op_loads rfl rfl rfl rfl rfl rfl rfl rfl) ?_) | (show WalkTo _ _ _ _ (⟨_, .store _ _ _, _, _, _, _⟩ :: _) _ _ _; refine walk_b (op_store rfl rfl rfl rfl rfl rfl rfl) ?_) | (show WalkTo _ _ _ _ (⟨_, .nilCheck _, _, _, _, _⟩ :: _) _ _ _; refine walk_t (op_nilR 1001 rfl rfl rfl rfl rfl) ?_) | (show WalkTo _ _ _ _ (⟨_, .fieldAddr _ _ _, _, _, _, _⟩ :: _) _ _ _; refine walk_t (op_fldT rfl rfl rfl rfl rfl rfl rfl) ?_) | (show WalkTo _ _ _ _ (⟨_, .call ⟨.value (.func 48), _, _⟩, _, _, _, _⟩ :: _) _ _ _; (refine walk_callObjR 7010 (c2) rfl rfl rfl rfl (by repeat (first | exact evs_nil | apply evs_cons rfl)) rfl rfl (fun _ => rfl) (s1.rd_later) (r1) ?_)) | (show WalkTo _ _ _ _ (⟨_, .call ⟨.value (.func 48), _, _⟩, _, _, _, _⟩ :: _) _ _ _; (refine walk_callObjR 7010 (c3) rfl rfl rfl rfl (by repeat (first | exact evs_nil | apply evs_cons rfl)) rfl rfl (fun _ => rfl) (s2.rd_later) (r2) ?_)) | (show WalkTo _ _ _ _ (⟨_, .call ⟨.value (.func 48), _, _⟩, _, _, _, _⟩ :: _) _ _ _; (refine walk_callObjR 7010 (c4) rfl rfl rfl rfl (by repeat (first | exact evs_nil | apply evs_cons rfl)) rfl rfl (fun _ => rfl) (s3.rd_later) (r3) ?_)) | (show WalkTo _ _ _ _ (⟨_, .call ⟨.value (.func 48), _, _⟩, _, _, _, _⟩ :: _) _ _ _; (refine walk_callObjR 7010 (c5) rfl rfl rfl rfl (by repeat (first | exact evs_nil | apply evs_cons rfl)) rfl rfl (fun _ => rfl) (s4.rd_later) (r4) ?_)) | (show WalkTo _ _ _ _ (⟨_, .call ⟨.value (.func 48), _, _⟩, _, _, _, _⟩ :: _) _ _ _; (refine walk_callObjR 7010 (c6) rfl rfl rfl rfl (by repeat (first | exact evs_nil | apply evs_cons rfl)) rfl rfl (fun _ => rfl) (s5.rd_later) (r5) ?_)) | (show WalkTo _ _ _ _ (⟨_, .call ⟨.value (.func 50), _, _⟩, _, _, _, _⟩ :: _) _ _ _; (refine walk_callObjR 7010 (c8) rfl rfl rfl rfl (by repeat (first | exact evs_nil | apply evs_cons rfl)) rfl rfl (fun _ => rfl) (s7.rd_later) (r7) ?_)) | (show WalkTo _ _ _ _ (⟨_, .call ⟨.value (.func 50), _, _⟩, _, _, _, _⟩ :: _) _ _ _; (refine walk_callObjR 7010 (c9) rfl rfl rfl rfl (by repeat (first | exact evs_nil | apply evs_cons rfl)) rfl rfl (fun _ => rfl) (s8.rd_later) (r8) ?_)) | (show WalkTo _ _ _ _ (⟨_, .call ⟨.value (.func 50), _, _⟩, _, _, _, _⟩ :: _) _ _ _; (refine walk_callObjR 7010 (c10) rfl rfl rfl rfl (by repeat (first | exact evs_nil | apply evs_cons rfl)) rfl rfl (fun _ => rfl) (s9.rd_later) (r9) ?_)) | (show WalkTo _ _ _ _ (⟨_, .call ⟨.value (.func 50), _, _⟩, _, _, _, _⟩ :: _) _ _ _; (refine walk_callObjR 7010 (c11) rfl rfl rfl rfl (by repeat (first | exact evs_nil | apply evs_cons rfl)) rfl rfl (fun _ => rfl) (s10.rd_later) (r10) ?_)) | (show WalkTo _ _ _ _ (⟨_, .call ⟨.value (.func 48), _, _⟩, _, _, _, _⟩ :: _) _ _ _; (refine walk_callObjR 7010 (c12) rfl rfl rfl rfl (by repeat (first | exact evs_nil | apply evs_cons rfl)) rfl rfl (fun _ => rfl) (s11.rd_later) (r11) ?_)) | (show WalkTo _ _ _ _ (⟨_, .call ⟨.value (.func 48), _, _⟩, _, _, _, _⟩ :: _) _ _ _; (refine walk_callObjR 7010 (c13) rfl rfl rfl rfl (by repeat (first | exact evs_nil | apply evs_cons rfl)) rfl rfl (fun _ => rfl) (s12.rd_later) (r12) ?_))) | refine go1 ?_ | refine end_block_other rfl ?_ | refine end_scope (fun _ h => by cases h) ?_ | (refine walk_endD ?_ ?_; (· kernel_rfl)) | refine tri_yesA rfl ?_ | refine tri_noA rfl ?_ | refine tri_trueA rfl ?_ | refine tri_falseA rfl ?_))
  have hCs : (camR a).c.size = 14 := rfl
  have hCo : (camR a).c.all (·.oneCell') = true := by kernel_rfl
  refine walk_t (op_buildC (parts := [(0, .tmp 49), (1, .tmp 51), (2, .tmp 53), (3, .tmp 55), (4, .tmp 57), (5, .tmp 59)]) (vs := [.agg #[.int .i64 (ptAt 7 a).x, .int .i64 (ptAt 7 a).y, .int .i64 (ptAt 7 a).z], .agg #[.int .i64 (ptAt 10 a).x, .int .i64 (ptAt 10 a).y, .int .i64 (ptAt 10 a).z], .agg #[.int .i64 (ptAt 13 a).x, .int .i64 (ptAt 13 a).y, .int .i64 (ptAt 13 a).z], .agg #[.int .i64 (ptAt 16 a).x, .int .i64 (ptAt 16 a).y, .int .i64 (ptAt 16 a).z], .int .i64 (nI 19 a), .int .i64 (nI 20 a)]) (camR a).c rfl rfl rfl rfl rfl rfl (by kernel_rfl) (by kernel_rfl)) ?_
  iterate 2 (try (first | (show WalkTo _ _ _ _ (_ :: _) _ _ _; first | (show WalkTo _ _ _ _ (⟨_, .nilCheck _, _, _, _, _⟩ :: _) _ _ _; refine walk_t (op_nilR 1001 rfl rfl rfl rfl rfl) ?_) | (show WalkTo _ _ _ _ (⟨_, .fieldAddr _ _ _, _, _, _, _⟩ :: _) _ _ _; refine walk_t (op_fldT rfl rfl rfl rfl rfl rfl rfl) ?_)) | refine go1 ?_ | refine end_block_other rfl ?_ | refine end_scope (fun _ h => by cases h) ?_ | (refine walk_endD ?_ ?_; (· kernel_rfl)) | refine tri_yesA rfl ?_ | refine tri_noA rfl ?_ | refine tri_trueA rfl ?_ | refine tri_falseA rfl ?_))
  refine walk_b (op_storesM rfl rfl rfl rfl rfl rfl rfl (fun _ => rfl) (upd_skip (sm_l rfl) rfl (upd_skip (sm_l rfl) rfl (upd_here' rfl (drop_here (sm_c zcs)) (sm_c hCs)))) (oc_c hCo)) ?_
  iterate 40 (try (first | (show Walk1 _ _ _ (_ :: _) _ _; first | (show Walk1 _ _ _ (⟨_, .move _, _, _, _, _⟩ :: _) _ _; first | refine walk1_t (op_moveN rfl rfl rfl rfl) ?_ | refine walk1_t (op_move rfl rfl rfl rfl) ?_) | (show Walk1 _ _ _ (⟨_, .assign _, _, _, _, _⟩ :: _) _ _; refine walk1_t (op_assign rfl rfl rfl rfl) ?_) | (show Walk1 _ _ _ (⟨_, .binOp .eql _ _ _ _, _, _, _, _⟩ :: _) _ _; refine walk1_t (op_eqI rfl rfl rfl rfl rfl) ?_) | (show Walk1 _ _ _ (⟨_, .load _ _, _, _, _, _⟩ :: _) _ _; refine walk1_t (op_loads rfl rfl rfl rfl rfl rfl rfl rfl) ?_) | (show Walk1 _ _ _ (⟨_, .store _ _ _, _, _, _, _⟩ :: _) _ _; refine walk1_b (op_store rfl rfl rfl rfl rfl rfl rfl) ?_) | (show Walk1 _ _ _ (⟨_, .nilCheck _, _, _, _, _⟩ :: _) _ _; refine walk1_t (op_nilR 1001 rfl rfl rfl rfl rfl) ?_) | (show Walk1 _ _ _ (⟨_, .fieldAddr _ _ _, _, _, _, _⟩ :: _) _ _; refine walk1_t (op_fldT rfl rfl rfl rfl rfl rfl rfl) ?_) | (show Walk1 _ _ _ (⟨_, .call ⟨.value (.func 48), _, _⟩, _, _, _, _⟩ :: _) _ _; (refine walk1_callObjR 7010 (c14) rfl rfl rfl rfl (by repeat (first | exact evs_nil | apply evs_cons rfl)) rfl rfl (fun _ => rfl) (s13.rd_later) (r13) ?_)) | (show Walk1 _ _ _ (⟨_, .call ⟨.value (.func 48), _, _⟩, _, _, _, _⟩ :: _) _ _; (refine walk1_callObjR 7010 (c15) rfl rfl rfl rfl (by repeat (first | exact evs_nil | apply evs_cons rfl)) rfl rfl (fun _ => rfl) (s14.rd_later) (r14) ?_)) | (show Walk1 _ _ _ (⟨_, .call ⟨.value (.func 48), _, _⟩, _, _, _, _⟩ :: _) _ _; (refine walk1_callObjR 7010 (c16) rfl rfl rfl rfl (by repeat (first | exact evs_nil | apply evs_cons rfl)) rfl rfl (fun _ => rfl) (s15.rd_later) (r15) ?_)) | (show Walk1 _ _ _ (⟨_, .call ⟨.value (.func 48), _, _⟩, _, _, _, _⟩ :: _) _ _; (refine walk1_callObjR 7010 (c17) rfl rfl rfl rfl (by repeat (first | exact evs_nil | apply evs_cons rfl)) rfl rfl (fun _ => rfl) (s16.rd_later) (r16) ?_)) | (show Walk1 _ _ _ (⟨_, .call ⟨.value (.func 48), _, _⟩, _, _, _, _⟩ :: _) _ _; (refine walk1_callObjR 7010 (c18) rfl rfl rfl rfl (by repeat (first | exact evs_nil | apply evs_cons rfl)) rfl rfl (fun _ => rfl) (s17.rd_later) (r17) ?_))) | (show WalkTo _ _ _ _ (_ :: _) _ _ _; first | (show WalkTo _ _ _ _ (⟨_, .load _ _, _, _, _, _⟩ :: _) _ _ _; refine walk_t (op_loads rfl rfl rfl rfl rfl rfl rfl rfl) ?_) | (show WalkTo _ _ _ _ (⟨_, .store _ _ _, _, _, _, _⟩ :: _) _ _ _; refine walk_b (op_storesM rfl rfl rfl rfl rfl rfl rfl) ?_) | (show WalkTo _ _ _ _ (⟨_, .fieldAddr _ _ _, _, _, _, _⟩ :: _) _ _ _; refine walk_t (op_fldT rfl rfl rfl rfl rfl rfl off_zero) ?_) | (show WalkTo _ _ _ _ (⟨_, .build _ _, _, _, _, _⟩ :: _) _ _ _; refine walk_t (op_buildS rfl rfl rfl rfl) ?_) | (show WalkTo _ _ _ _ (⟨_, .call ⟨.value (.func 48), _, _⟩, _, _, _, _⟩ :: _) _ _ _; (refine walk_callObjR 7010 (c14) rfl rfl rfl rfl (by repeat (first | exact evs_nil | apply evs_cons rfl)) rfl rfl (fun _ => rfl) (s13.rd_later) (r13) ?_)) | (show WalkTo _ _ _ _ (⟨_, .call ⟨.value (.func 48), _, _⟩, _, _, _, _⟩ :: _) _ _ _; (refine walk_callObjR 7010 (c15) rfl rfl rfl rfl (by repeat (first | exact evs_nil | apply evs_cons rfl)) rfl rfl (fun _ => rfl) (s14.rd_later) (r14) ?_)) | (show WalkTo _ _ _ _ (⟨_, .call ⟨.value (.func 48), _, _⟩, _, _, _, _⟩ :: _) _ _ _; (refine walk_callObjR 7010 (c16) rfl rfl rfl rfl (by repeat (first | exact evs_nil | apply evs_cons rfl)) rfl rfl (fun _ => rfl) (s15.rd_later) (r15) ?_)) | (show WalkTo _ _ _ _ (⟨_, .call ⟨.value (.func 48), _, _⟩, _, _, _, _⟩ :: _) _ _ _; (refine walk_callObjR 7010 (c17) rfl rfl rfl rfl (by repeat (first | exact evs_nil | apply evs_cons rfl)) rfl rfl (fun _ => rfl) (s16.rd_later) (r16) ?_)) | (show WalkTo _ _ _ _ (⟨_, .call ⟨.value (.func 48), _, _⟩, _, _, _, _⟩ :: _) _ _ _; (refine walk_callObjR 7010 (c18) rfl rfl rfl rfl (by repeat (first | exact evs_nil | apply evs_cons rfl)) rfl rfl (fun _ => rfl) (s17.rd_later) (r17) ?_))) | refine go1 ?_ | refine end_block_other rfl ?_ | refine end_scope (fun _ h => by cases h) ?_ | (refine walk_endD ?_ ?_; (· kernel_rfl)) | refine tri_yesA rfl ?_ | refine tri_noA rfl ?_ | refine tri_trueA rfl ?_ | refine tri_falseA rfl ?_))
  refine tri_ent (ent_blkA 5 ((SA.l [.c (.int .i64 (nI 0 a)), .c (.int .i64 (nI 1 a)), .c (.int .i64 (nI 2 a)), .c (.int .i64 (nI 3 a)), .c (.int .i64 (nI 4 a)), .c (.int .i64 (nI 5 a)), .c (.int .u64 (bvi (nAt 6 a))), .c (.int .i64 (ptAt 7 a).x), .c (.int .i64 (ptAt 7 a).y), .c (.int .i64 (ptAt 7 a).z), .c (.int .i64 (ptAt 10 a).x), .c (.int .i64 (ptAt 10 a).y), .c (.int .i64 (ptAt 10 a).z), .c (.int .i64 (ptAt 13 a).x), .c (.int .i64 (ptAt 13 a).y), .c (.int .i64 (ptAt 13 a).z), .c (.int .i64 (ptAt 16 a).x), .c (.int .i64 (ptAt 16 a).y), .c (.int .i64 (ptAt 16 a).z), .c (.int .i64 (nI 19 a)), .c (.int .i64 (nI 20 a)), .c (.bool (decide (nI 21 a = 1))), .c (.int .i64 (nI 22 a)), .c (.int .i64 (nI 23 a)), .c (.int .i64 (nI 24 a))]).app ((SA.l [.v 2001]).app ((SA.l [.c (.int .u32 (bvi 0#32)), .c (.int .u32 (bvi 0#32)), .c (.int .u32 (bvi 0#32))]).app ((SA.c (vals .u8 Z32)).app (SA.c (vals .u8 Z32)))))) rfl (fun e => by kernel_rfl)) ?_
  have hNv : nI 25 a = ((nAt 25 a).toNat : Int) := by
    have := nAt_lt2 a
    unfold nI
    rw [BitVec.toInt_eq_toNat_cond, if_pos (by omega)]
  have hNb := nAt_lt2 a
  have hids : loopR (nAt 25 a).toNat (aAt 26 a) [] = idsR a := rfl
  rw [← e18] at hids
  generalize (nAt 25 a).toNat = N at *
  refine tri_normX (fun (x : RS × List (BitVec 64)) => ⟨[(2, .p 2 0), (3, .c (.int .i64 0)), (4, .p 4 0), (5, .p 5 0), (7, .c (.int .i64 (nI 21 a)))], [(7010, some (.obj 10 rdO x.1)), (5, some (.blk 5 46 ((SA.l [.c (.int .i64 (nI 0 a)), .c (.int .i64 (nI 1 a)), .c (.int .i64 (nI 2 a)), .c (.int .i64 (nI 3 a)), .c (.int .i64 (nI 4 a)), .c (.int .i64 (nI 5 a)), .c (.int .u64 (bvi (nAt 6 a))), .c (.int .i64 (ptAt 7 a).x), .c (.int .i64 (ptAt 7 a).y), .c (.int .i64 (ptAt 7 a).z), .c (.int .i64 (ptAt 10 a).x), .c (.int .i64 (ptAt 10 a).y), .c (.int .i64 (ptAt 10 a).z), .c (.int .i64 (ptAt 13 a).x), .c (.int .i64 (ptAt 13 a).y), .c (.int .i64 (ptAt 13 a).z), .c (.int .i64 (ptAt 16 a).x), .c (.int .i64 (ptAt 16 a).y), .c (.int .i64 (ptAt 16 a).z), .c (.int .i64 (nI 19 a)), .c (.int .i64 (nI 20 a)), .c (.bool (decide (nI 21 a = 1))), .c (.int .i64 (nI 22 a)), .c (.int .i64 (nI 23 a)), .c (.int .i64 (nI 24 a))]).app ((SA.l [.v 2001]).app ((SA.l [.c (.int .u32 (bvi 0#32)), .c (.int .u32 (bvi 0#32)), .c (.int .u32 (bvi 0#32))]).app ((SA.c (vals .u8 Z32)).app (SA.c (vals .u8 Z32)))))))), (2001, some (.own 2001 27 1 x.2.length (valsL .u64 x.2))), (4, some (.blk 4 116 (.l [.p 10 0]))), (2, some (.blk 2 46 (.c (recA zeroRec (.slice none 0 0)))))]⟩) (fun x => x.1.rd w1 m ∧ (x.2, x.1.abs) = idsR a) ?_ ?_
  · rintro ⟨s, acc⟩ ⟨rs, hs⟩
    dsimp only
    have hacc : acc = (idsR a).1 := congrArg Prod.fst hs
    have hab : s.abs = b0R a := congrArg Prod.snd hs
    have g1 := num_obj 4 (by omega) (by omega) s
    have g2 := num_obj 4 (by omega) (by omega) (s.nx 4)
    have g3 := num_obj 4 (by omega) (by omega) ((s.nx 4).nx 4)
    have g4 := take_obj 32 (((s.nx 4).nx 4).nx 4)
    have g5 := take_obj 32 ((((s.nx 4).nx 4).nx 4).nx 32)
    have g6 := end_obj (((((s.nx 4).nx 4).nx 4).nx 32).nx 32)
    have q1 := RS.rd_nx 4 rs
    have q2 := RS.rd_nx 4 q1
    have q3 := RS.rd_nx 4 q2
    have q4 := RS.rd_nx 32 q3
    have q5 := RS.rd_nx 32 q4
    have t1 := RS.rd_tk 32 q3
    have t2 := RS.rd_tk 32 q4
    simp only [RS.nx_abs, hab] at g1 g2 g3 g4 g5 g6 t1 t2
    rw [show nextR 4 (nextR 4 (nextR 4 (b0R a))) = b3R a from rfl] at g6 t1 t2
    rw [show nextR 32 (nextR 32 (b3R a)) = b5R a from rfl] at g6
    generalize ((((s.nx 4).nx 4).nx 4).nx 32).nx 32 = z5 at *
    generalize RS.tk 32 ((((s.nx 4).nx 4).nx 4).nx 32) = P2 at *
    generalize (((s.nx 4).nx 4).nx 4).nx 32 = z4 at *
    generalize RS.tk 32 (((s.nx 4).nx 4).nx 4) = P1 at *
    generalize ((s.nx 4).nx 4).nx 4 = z3 at *
    generalize (s.nx 4).nx 4 = z2 at *
    generalize s.nx 4 = z1 at *
    clear hs hids hNv hNb e18
    repeat (first | (show WalkTo _ _ _ _ (_ :: _) _ _ _; first | (show WalkTo _ _ _ _ (⟨_, .load _ _, _, _, _, _⟩ :: _) _ _ _; refine walk_t (op_load rfl rfl rfl rfl rfl rfl rfl) ?_) | (show WalkTo _ _ _ _ (⟨_, .store _ _ _, _, _, _, _⟩ :: _) _ _ _; refine walk_b (op_store rfl rfl rfl rfl rfl rfl rfl) ?_) | (show WalkTo _ _ _ _ (⟨_, .fieldAddr _ _ _, _, _, _, _⟩ :: _) _ _ _; refine walk_t (op_fldT rfl rfl rfl rfl rfl rfl off_zero) ?_) | (show WalkTo _ _ _ _ (⟨_, .convert _ _ _, _, _, _, _⟩ :: _) _ _ _; refine walk_t (op_convBB rfl rfl rfl (by (first | exact evB_tmp rfl | exact evB_lit rfl rfl)) rfl rfl) ?_) | (show WalkTo _ _ _ _ (⟨_, .slice _ _ _ _ _, _, _, _, _⟩ :: _) _ _ _; refine walk_t (op_cutP0 rfl rfl rfl rfl rfl rfl (by first | exact evO_none | exact evO_some (by first | exact evK_const rfl | exact evK_tmp rfl)) (by first | omega | decide)) ?_) | (show WalkTo _ _ _ _ (⟨_, .call ⟨.value (.func 49), _, _⟩, _, _, _, _⟩ :: _) _ _ _; (refine walk_callObjR 7010 (g1) rfl rfl rfl rfl (by repeat (first | exact evs_nil | apply evs_cons rfl)) rfl rfl (fun _ => rfl) (s.rd_later) (rs) ?_)) | (show WalkTo _ _ _ _ (⟨_, .call ⟨.value (.func 49), _, _⟩, _, _, _, _⟩ :: _) _ _ _; (refine walk_callObjR 7010 (g2) rfl rfl rfl rfl (by repeat (first | exact evs_nil | apply evs_cons rfl)) rfl rfl (fun _ => rfl) (z1.rd_later) (q1) ?_)) | (show WalkTo _ _ _ _ (⟨_, .call ⟨.value (.func 49), _, _⟩, _, _, _, _⟩ :: _) _ _ _; (refine walk_callObjR 7010 (g3) rfl rfl rfl rfl (by repeat (first | exact evs_nil | apply evs_cons rfl)) rfl rfl (fun _ => rfl) (z2.rd_later) (q2) ?_)) | (show WalkTo _ _ _ _ (⟨_, .call ⟨.value (.func 52), _, _⟩, _, _, _, _⟩ :: _) _ _ _; (refine walk_callObjR 7010 (g4) rfl rfl rfl rfl (by repeat (first | exact evs_nil | apply evs_cons rfl)) rfl rfl (fun _ => rfl) (z3.rd_later) (q3) ?_)) | (show WalkTo _ _ _ _ (⟨_, .call ⟨.value (.func 52), _, _⟩, _, _, _, _⟩ :: _) _ _ _; (refine walk_callObjR 7010 (g5) rfl rfl rfl rfl (by repeat (first | exact evs_nil | apply evs_cons rfl)) rfl rfl (fun _ => rfl) (z4.rd_later) (q4) ?_))) | refine go1 ?_ | refine end_block_other rfl ?_ | refine end_scope (fun _ h => by cases h) ?_ | (refine walk_endD ?_ ?_; (· kernel_rfl)) | refine tri_yesA rfl ?_ | refine tri_noA rfl ?_ | refine tri_trueA rfl ?_ | refine tri_falseA rfl ?_)
    generalize hT1 : takeR 32 (b3R a) = T1 at *
    generalize hT2 : takeR 32 (nextR 32 (b3R a)) = T2 at *
    have hm1 : min T1.length 32 ≤ 32 := Nat.min_le_right _ _
    have hm2 : min T2.length 32 ≤ 32 := Nat.min_le_right _ _
    refine walk_tb (op_copyB rfl rfl rfl rfl rfl rfl (rdn_oldX t1) (upd_skipO (k := 25) (sm_l rfl) (by decide) (upd_skipO (k := 1) (sm_l rfl) (by decide) (upd_skipO (k := 3) (sm_l rfl) (by decide) (upd_inL (k := 32) (sm_vals z32) (by omega) (upd_vals (by omega) (by rw [List.length_take]; omega))))))) ?_
    repeat (first | (show WalkTo _ _ _ _ (_ :: _) _ _ _; first | (show WalkTo _ _ _ _ (⟨_, .load _ _, _, _, _, _⟩ :: _) _ _ _; refine walk_t (op_load rfl rfl rfl rfl rfl rfl rfl) ?_) | (show WalkTo _ _ _ _ (⟨_, .fieldAddr _ _ _, _, _, _, _⟩ :: _) _ _ _; refine walk_t (op_fldT rfl rfl rfl rfl rfl rfl off_zero) ?_) | (show WalkTo _ _ _ _ (⟨_, .slice _ _ _ _ _, _, _, _, _⟩ :: _) _ _ _; refine walk_t (op_cutP0 rfl rfl rfl rfl rfl rfl (by first | exact evO_none | exact evO_some (by first | exact evK_const rfl | exact evK_tmp rfl)) (by first | omega | decide)) ?_) | (show WalkTo _ _ _ _ (⟨_, .call ⟨.value (.func 52), _, _⟩, _, _, _, _⟩ :: _) _ _ _; (refine walk_callObjR 7010 (g5) rfl rfl rfl rfl (by repeat (first | exact evs_nil | apply evs_cons rfl)) rfl rfl (fun _ => rfl) (z4.rd_later) (q4) ?_))) | refine go1 ?_ | refine end_block_other rfl ?_ | refine end_scope (fun _ h => by cases h) ?_ | (refine walk_endD ?_ ?_; (· kernel_rfl)) | refine tri_yesA rfl ?_ | refine tri_noA rfl ?_ | refine tri_trueA rfl ?_ | refine tri_falseA rfl ?_)
    refine walk_tb (op_copyB rfl rfl rfl rfl rfl rfl (rdn_oldX t2) (upd_skipO (k := 25) (sm_l rfl) (by decide) (upd_skipO (k := 1) (sm_l rfl) (by decide) (upd_skipO (k := 3) (sm_l rfl) (by decide) (upd_skipO (k := 32) (sm_vals (by simp only [List.length_append, List.length_take, List.length_drop, z32]; omega)) (by decide) (upd_vals (by omega) (by rw [List.length_take]; omega))))))) ?_
    iterate 2 (try (first | refine go1 ?_ | refine end_block_other rfl ?_ | refine end_scope (fun _ h => by cases h) ?_ | (refine walk_endD ?_ ?_; (· kernel_rfl)) | refine tri_yesA rfl ?_ | refine tri_noA rfl ?_ | refine tri_trueA rfl ?_ | refine tri_falseA rfl ?_))
    have hsc : Z32.take (29 - 25 - 1 - 3) ++ (T1.take (min T1.length 32) ++ Z32.drop (29 - 25 - 1 - 3 + min T1.length 32)) = padZ T1 := by
      rw [← hZ]; unfold padZ; simp
    have hsc2 : Z32.take (61 - 25 - 1 - 3 - 32) ++ (T2.take (min T2.length 32) ++ Z32.drop (61 - 25 - 1 - 3 - 32 + min T2.length 32)) = padZ T2 := by
      rw [← hZ]; unfold padZ; simp
    rw [hsc, hsc2, ← hT1, ← hT2]
    refine tri_ent (ent_blkO (n := 5) (q := 2001) (.fn 2001 (fun v => recA (recR a) (slV v))) rfl rfl (fun e h => by
      show _ = recA (recR a) (slV (e 2001).v)
      obtain ⟨x, c, hx⟩ := h
      rw [slV_slice ⟨x, _, c, hx⟩, recA_chain]
      kernel_rfl)) ?_
    have hG1 : ∀ v, ((fun v => recA (recR a) (slV v)) v).size = 93 := fun v => recA_size _ (recR_ok a) _
    have hG2 : ∀ v, ((fun v => recA (recR a) (slV v)) v).all (·.oneCell') = true := fun v => recA_all _ _ (slV_one v).1
    have hlen3 : acc.length ≤ 4096 := by rw [hacc]; have := idsR_len a; omega
    have cC : ∀ (e : Env) w, (∃ x c, (e 2001).v = .slice x acc.length c) → Calls Try.prog 20 #[.agg (recA (recR a) (slV (e 2001).v))] w fun r w' => r = .returned (.int .i64 (recE (recR a))) ∧ Below w.heap.size w w' := fun e w h => by
      obtain ⟨x, c, hx⟩ := h
      exact recCheck_any (recR a) (slV (e 2001).v) _ acc.length ⟨x, c, by rw [hx]; rfl⟩ hlen3 (recF (recR a) (recR_ok a) _) w
    have hF0 : ∀ (x : Int), errR a = x → x ≠ 0 → decR a = zeroRec ∧ decI a = [] := fun x h1 h2 => by
      unfold decR decI
      rw [h1]
      exact ⟨if_neg h2, if_neg h2⟩
    have hF1 : errR a = 0 → decR a = recR a ∧ decI a = acc := fun h1 => by
      unfold decR decI
      rw [h1, hacc]
      exact ⟨if_pos rfl, if_pos rfl⟩
    have hE0 : errR a = if endR (b5R a) ≠ 0 then endR (b5R a) else if 1 < nI 21 a then 5 else recE (recR a) := rfl
    have hslN : slV (.slice none 0 0) = .slice none 0 0 := rfl
    generalize hGd : (fun v => recA (recR a) (slV v)) = G at *
    have cC2 : ∀ (e : Env) w, (∃ x c, (e 2001).v = .slice x acc.length c) → Calls Try.prog 20 #[.agg (G (e 2001).v)] w fun r w' => r = .returned (.int .i64 (recE (recR a))) ∧ Below w.heap.size w w' := fun e w h => by rw [← hGd]; exact cC e w h
    clear cC hsc hsc2 t1 t2 hT1 hT2 hm1 hm2 hacc g1 g2 g3 g4 g5
    generalize recE (recR a) = E2 at *
    generalize hEd : endR (b5R a) = E at *
    generalize nI 21 a = CN at *
    by_cases hE : E = 0
    · subst hE
      rw [if_neg (by simp)] at hE0
      by_cases hc : 1 < CN
      · rw [if_pos hc] at hE0
        obtain ⟨k1, k2⟩ := hF0 5 hE0 (by decide)
        rw [hE0, k1, k2]
        repeat (first | (show Walk1 _ _ _ (_ :: _) _ _; first | (show Walk1 _ _ _ (⟨_, _, _, _, _, some _⟩ :: _) _ _; refine walk1_yes rfl rfl (by first | exact decide_eq_true (by omega) | exact decide_eq_false (by omega) | rfl | (show _ = true; with_reducible assumption) | (show _ = false; with_reducible assumption) | (simp <;> fail) | omega) ?_) | (show Walk1 _ _ _ (⟨_, .move _, _, _, _, _⟩ :: _) _ _; refine walk1_t (op_move rfl rfl rfl rfl) ?_) | (show Walk1 _ _ _ (⟨_, .assign _, _, _, _, _⟩ :: _) _ _; first | refine walk1_t (op_assignN rfl rfl rfl rfl) ?_ | refine walk1_t (op_assign rfl rfl rfl rfl) ?_) | (show Walk1 _ _ _ (⟨_, .binOp .gtr _ _ _ _, _, _, _, _⟩ :: _) _ _; refine walk1_t (op_gtI rfl rfl rfl rfl rfl) ?_) | (show Walk1 _ _ _ (⟨_, .binOp .eql _ _ _ _, _, _, _, _⟩ :: _) _ _; refine walk1_t (op_eqN rfl rfl rfl (by first | exact evN_const rfl | exact rfl) (by first | exact evN_const rfl | exact rfl)) ?_) | (show Walk1 _ _ _ (⟨_, .binOp .neq _ _ _ _, _, _, _, _⟩ :: _) _ _; refine walk1_t (op_neN rfl rfl rfl (by first | exact evN_const rfl | exact rfl) (by first | exact evN_const rfl | exact rfl)) ?_) | (show Walk1 _ _ _ (⟨_, .pick _ _ _, _, _, _, _⟩ :: _) _ _; refine walk1_t (op_pickY rfl rfl rfl rfl (by first | exact decide_eq_true (by omega) | exact decide_eq_false (by omega) | rfl | (show _ = true; with_reducible assumption) | (show _ = false; with_reducible assumption) | (simp <;> fail) | omega) rfl) ?_) | (show Walk1 _ _ _ (⟨_, .load _ _, _, _, _, _⟩ :: _) _ _; refine walk1_t (op_load rfl rfl rfl rfl rfl rfl rfl) ?_) | (show Walk1 _ _ _ (⟨_, .fieldAddr _ _ _, _, _, _, _⟩ :: _) _ _; refine walk1_t (op_fldT rfl rfl rfl rfl rfl rfl off_zero) ?_) | (show Walk1 _ _ _ (⟨_, .call ⟨.value (.func 53), _, _⟩, _, _, _, _⟩ :: _) _ _; (refine walk1_callObjR 7010 (g6) rfl rfl rfl rfl (by repeat (first | exact evs_nil | apply evs_cons rfl)) rfl rfl (fun _ => rfl) (z5.rd_later) (q5) ?_))) | refine go1 ?_ | refine end_block_other rfl ?_ | refine end_scope (fun _ h => by cases h) ?_ | (refine walk_endD ?_ ?_; (· kernel_rfl)) | refine tri_yesA rfl ?_ | refine tri_noA rfl ?_ | refine tri_trueA rfl ?_ | refine tri_falseA rfl ?_)
        refine walk1_t (op_buildC (parts := []) (vs := []) (recA zeroRec (.slice none 0 0)) rfl rfl rfl rfl rfl rfl (by kernel_rfl) (by kernel_rfl)) ?_
        iterate 1 (try (first | (show Walk1 _ _ _ (_ :: _) _ _; (show Walk1 _ _ _ (⟨_, .move _, _, _, _, _⟩ :: _) _ _; refine walk1_t (op_move rfl rfl rfl rfl) ?_)) | refine go1 ?_ | refine end_block_other rfl ?_ | refine end_scope (fun _ h => by cases h) ?_ | (refine walk_endD ?_ ?_; (· kernel_rfl)) | refine tri_yesA rfl ?_ | refine tri_noA rfl ?_ | refine tri_trueA rfl ?_ | refine tri_falseA rfl ?_))
        refine walk1_b (op_storesC rfl rfl rfl rfl rfl rfl rfl (by kernel_rfl) (by kernel_rfl) (sm_c (by kernel_rfl))) ?_
        repeat (first | (show Walk1 _ _ _ (_ :: _) _ _; (show Walk1 _ _ _ (⟨_, .assign _, _, _, _, _⟩ :: _) _ _; refine walk1_t (op_assign rfl rfl rfl rfl) ?_)) | refine go1 ?_ | refine end_block_other rfl ?_ | refine end_scope (fun _ h => by cases h) ?_ | (refine walk_endD ?_ ?_; (· kernel_rfl)) | refine tri_yesA rfl ?_ | refine tri_noA rfl ?_ | refine tri_trueA rfl ?_ | refine tri_falseA rfl ?_)
        refine end_ret _ (res_cellS rfl rfl rfl rfl rfl rfl rfl (sm_c (by kernel_rfl))) ?_
        exact fin_GX0 hF hm (fun e => rfl)
      · rw [if_neg hc] at hE0
        by_cases h2 : E2 = 0
        · subst h2
          obtain ⟨k1, k2⟩ := hF1 hE0
          rw [hE0, k1, k2]
          repeat (first | (show Walk1 _ _ _ (_ :: _) _ _; first | (show Walk1 _ _ _ (⟨_, _, _, _, _, some _⟩ :: _) _ _; refine walk1_yes rfl rfl (by first | exact decide_eq_true (by omega) | exact decide_eq_false (by omega) | rfl | (show _ = true; with_reducible assumption) | (show _ = false; with_reducible assumption) | (simp <;> fail) | omega) ?_) | (show Walk1 _ _ _ (⟨_, .move _, _, _, _, _⟩ :: _) _ _; refine walk1_t (op_move rfl rfl rfl rfl) ?_) | (show Walk1 _ _ _ (⟨_, .assign _, _, _, _, _⟩ :: _) _ _; first | refine walk1_t (op_assignN rfl rfl rfl rfl) ?_ | refine walk1_t (op_assign rfl rfl rfl rfl) ?_) | (show Walk1 _ _ _ (⟨_, .binOp .gtr _ _ _ _, _, _, _, _⟩ :: _) _ _; refine walk1_t (op_gtI rfl rfl rfl rfl rfl) ?_) | (show Walk1 _ _ _ (⟨_, .binOp .eql _ _ _ _, _, _, _, _⟩ :: _) _ _; refine walk1_t (op_eqN rfl rfl rfl (by first | exact evN_const rfl | exact rfl) (by first | exact evN_const rfl | exact rfl)) ?_) | (show Walk1 _ _ _ (⟨_, .binOp .neq _ _ _ _, _, _, _, _⟩ :: _) _ _; refine walk1_t (op_neN rfl rfl rfl (by first | exact evN_const rfl | exact rfl) (by first | exact evN_const rfl | exact rfl)) ?_) | (show Walk1 _ _ _ (⟨_, .pick _ _ _, _, _, _, _⟩ :: _) _ _; refine walk1_t (op_pickY rfl rfl rfl rfl (by first | exact decide_eq_true (by omega) | exact decide_eq_false (by omega) | rfl | (show _ = true; with_reducible assumption) | (show _ = false; with_reducible assumption) | (simp <;> fail) | omega) rfl) ?_) | (show Walk1 _ _ _ (⟨_, .load _ _, _, _, _, _⟩ :: _) _ _; first | refine walk1_t (op_load rfl rfl rfl rfl rfl rfl rfl) ?_ | refine walk1_t (op_loadsG rfl rfl rfl rfl rfl rfl rfl rfl (by with_reducible assumption)) ?_) | (show Walk1 _ _ _ (⟨_, .store _ _ _, _, _, _, _⟩ :: _) _ _; refine walk1_b (op_storeG rfl rfl rfl rfl rfl rfl rfl (by with_reducible assumption) (by with_reducible assumption)) ?_) | (show Walk1 _ _ _ (⟨_, .fieldAddr _ _ _, _, _, _, _⟩ :: _) _ _; refine walk1_t (op_fldT rfl rfl rfl rfl rfl rfl off_zero) ?_) | (show Walk1 _ _ _ (⟨_, .call ⟨.value (.func 53), _, _⟩, _, _, _, _⟩ :: _) _ _; (refine walk1_callObjR 7010 (g6) rfl rfl rfl rfl (by repeat (first | exact evs_nil | apply evs_cons rfl)) rfl rfl (fun _ => rfl) (z5.rd_later) (q5) ?_)) | (show Walk1 _ _ _ (⟨_, .call ⟨.value (.func 20), _, _⟩, _, _, _, _⟩ :: _) _ _; (refine walk1_callM rfl rfl rfl rfl (by repeat (first | exact evs_nil | apply evs_cons rfl)) rfl ?_; refine ⟨_, _, callM_ow (q := 2001) rfl (fun e w h1 => cC2 e w h1), ?_⟩))) | refine go1 ?_ | refine end_block_other rfl ?_ | refine end_scope (fun _ h => by cases h) ?_ | (refine walk_endD ?_ ?_; (· kernel_rfl)) | refine tri_yesA rfl ?_ | refine tri_noA rfl ?_ | refine tri_trueA rfl ?_ | refine tri_falseA rfl ?_)
          refine end_ret _ (res_cellS rfl rfl rfl rfl rfl rfl rfl (fun e => hG1 _)) ?_
          exact fin_GX hF hm (q := 2001) rfl (fun e h => by rw [← hGd]; rfl)
        · obtain ⟨k1, k2⟩ := hF0 E2 hE0 h2
          rw [hE0, k1, k2]
          repeat (first | (show Walk1 _ _ _ (_ :: _) _ _; first | (show Walk1 _ _ _ (⟨_, _, _, _, _, some _⟩ :: _) _ _; refine walk1_yes rfl rfl (by first | exact decide_eq_true (by omega) | exact decide_eq_false (by omega) | rfl | (show _ = true; with_reducible assumption) | (show _ = false; with_reducible assumption) | (simp <;> fail) | omega) ?_) | (show Walk1 _ _ _ (⟨_, .move _, _, _, _, _⟩ :: _) _ _; refine walk1_t (op_move rfl rfl rfl rfl) ?_) | (show Walk1 _ _ _ (⟨_, .assign _, _, _, _, _⟩ :: _) _ _; refine walk1_t (op_assign rfl rfl rfl rfl) ?_) | (show Walk1 _ _ _ (⟨_, .binOp .gtr _ _ _ _, _, _, _, _⟩ :: _) _ _; refine walk1_t (op_gtI rfl rfl rfl rfl rfl) ?_) | (show Walk1 _ _ _ (⟨_, .binOp .eql _ _ _ _, _, _, _, _⟩ :: _) _ _; refine walk1_t (op_eqN rfl rfl rfl (by first | exact evN_const rfl | exact rfl) (by first | exact evN_const rfl | exact rfl)) ?_) | (show Walk1 _ _ _ (⟨_, .binOp .neq _ _ _ _, _, _, _, _⟩ :: _) _ _; refine walk1_t (op_neI rfl rfl rfl rfl rfl) ?_) | (show Walk1 _ _ _ (⟨_, .pick _ _ _, _, _, _, _⟩ :: _) _ _; refine walk1_t (op_pickY rfl rfl rfl rfl (by first | exact decide_eq_true (by omega) | exact decide_eq_false (by omega) | rfl | (show _ = true; with_reducible assumption) | (show _ = false; with_reducible assumption) | (simp <;> fail) | omega) rfl) ?_) | (show Walk1 _ _ _ (⟨_, .load _ _, _, _, _, _⟩ :: _) _ _; first | refine walk1_t (op_load rfl rfl rfl rfl rfl rfl rfl) ?_ | refine walk1_t (op_loadsG rfl rfl rfl rfl rfl rfl rfl rfl (by with_reducible assumption)) ?_) | (show Walk1 _ _ _ (⟨_, .fieldAddr _ _ _, _, _, _, _⟩ :: _) _ _; refine walk1_t (op_fldT rfl rfl rfl rfl rfl rfl off_zero) ?_) | (show Walk1 _ _ _ (⟨_, .call ⟨.value (.func 53), _, _⟩, _, _, _, _⟩ :: _) _ _; (refine walk1_callObjR 7010 (g6) rfl rfl rfl rfl (by repeat (first | exact evs_nil | apply evs_cons rfl)) rfl rfl (fun _ => rfl) (z5.rd_later) (q5) ?_)) | (show Walk1 _ _ _ (⟨_, .call ⟨.value (.func 20), _, _⟩, _, _, _, _⟩ :: _) _ _; (refine walk1_callM rfl rfl rfl rfl (by repeat (first | exact evs_nil | apply evs_cons rfl)) rfl ?_; refine ⟨_, _, callM_ow (q := 2001) rfl (fun e w h1 => cC2 e w h1), ?_⟩))) | refine go1 ?_ | refine end_block_other rfl ?_ | refine end_scope (fun _ h => by cases h) ?_ | (refine walk_endD ?_ ?_; (· kernel_rfl)) | refine tri_yesA rfl ?_ | refine tri_noA rfl ?_ | refine tri_trueA rfl ?_ | refine tri_falseA rfl ?_)
          refine walk1_t (op_buildC (parts := []) (vs := []) (recA zeroRec (.slice none 0 0)) rfl rfl rfl rfl rfl rfl (by kernel_rfl) (by kernel_rfl)) ?_
          iterate 1 (try (first | (show Walk1 _ _ _ (_ :: _) _ _; (show Walk1 _ _ _ (⟨_, .move _, _, _, _, _⟩ :: _) _ _; refine walk1_t (op_move rfl rfl rfl rfl) ?_)) | refine go1 ?_ | refine end_block_other rfl ?_ | refine end_scope (fun _ h => by cases h) ?_ | (refine walk_endD ?_ ?_; (· kernel_rfl)) | refine tri_yesA rfl ?_ | refine tri_noA rfl ?_ | refine tri_trueA rfl ?_ | refine tri_falseA rfl ?_))
          refine walk1_b (op_storesC rfl rfl rfl rfl rfl rfl rfl (by kernel_rfl) (by kernel_rfl) (sm_c (by kernel_rfl))) ?_
          repeat (first | (show Walk1 _ _ _ (_ :: _) _ _; (show Walk1 _ _ _ (⟨_, .assign _, _, _, _, _⟩ :: _) _ _; refine walk1_t (op_assign rfl rfl rfl rfl) ?_)) | refine go1 ?_ | refine end_block_other rfl ?_ | refine end_scope (fun _ h => by cases h) ?_ | (refine walk_endD ?_ ?_; (· kernel_rfl)) | refine tri_yesA rfl ?_ | refine tri_noA rfl ?_ | refine tri_trueA rfl ?_ | refine tri_falseA rfl ?_)
          refine end_ret _ (res_cellS rfl rfl rfl rfl rfl rfl rfl (sm_c (by kernel_rfl))) ?_
          exact fin_GX0 hF hm (fun e => rfl)
    · rw [if_pos hE] at hE0
      obtain ⟨k1, k2⟩ := hF0 E hE0 hE
      rw [hE0, k1, k2]
      repeat (first | (show Walk1 _ _ _ (_ :: _) _ _; first | (show Walk1 _ _ _ (⟨_, _, _, _, _, some _⟩ :: _) _ _; refine walk1_no rfl rfl (by first | exact decide_eq_true (by omega) | exact decide_eq_false (by omega) | rfl | (show _ = true; with_reducible assumption) | (show _ = false; with_reducible assumption) | (simp <;> fail) | omega) rfl ?_) | (show Walk1 _ _ _ (⟨_, .move _, _, _, _, _⟩ :: _) _ _; refine walk1_t (op_move rfl rfl rfl rfl) ?_) | (show Walk1 _ _ _ (⟨_, .assign _, _, _, _, _⟩ :: _) _ _; refine walk1_t (op_assign rfl rfl rfl rfl) ?_) | (show Walk1 _ _ _ (⟨_, .binOp .eql _ _ _ _, _, _, _, _⟩ :: _) _ _; refine walk1_t (op_eqI rfl rfl rfl rfl rfl) ?_) | (show Walk1 _ _ _ (⟨_, .binOp .neq _ _ _ _, _, _, _, _⟩ :: _) _ _; refine walk1_t (op_neI rfl rfl rfl rfl rfl) ?_) | (show Walk1 _ _ _ (⟨_, .pick _ _ _, _, _, _, _⟩ :: _) _ _; refine walk1_t (op_pickN rfl rfl rfl rfl (by first | exact decide_eq_true (by omega) | exact decide_eq_false (by omega) | rfl | (show _ = true; with_reducible assumption) | (show _ = false; with_reducible assumption) | (simp <;> fail) | omega) rfl) ?_) | (show Walk1 _ _ _ (⟨_, .load _ _, _, _, _, _⟩ :: _) _ _; refine walk1_t (op_load rfl rfl rfl rfl rfl rfl rfl) ?_) | (show Walk1 _ _ _ (⟨_, .fieldAddr _ _ _, _, _, _, _⟩ :: _) _ _; refine walk1_t (op_fldT rfl rfl rfl rfl rfl rfl off_zero) ?_) | (show Walk1 _ _ _ (⟨_, .call ⟨.value (.func 53), _, _⟩, _, _, _, _⟩ :: _) _ _; (refine walk1_callObjR 7010 (g6) rfl rfl rfl rfl (by repeat (first | exact evs_nil | apply evs_cons rfl)) rfl rfl (fun _ => rfl) (z5.rd_later) (q5) ?_))) | refine go1 ?_ | refine end_block_other rfl ?_ | refine end_scope (fun _ h => by cases h) ?_ | (refine walk_endD ?_ ?_; (· kernel_rfl)) | refine tri_yesA rfl ?_ | refine tri_noA rfl ?_ | refine tri_trueA rfl ?_ | refine tri_falseA rfl ?_)
      refine walk1_t (op_buildC (parts := []) (vs := []) (recA zeroRec (.slice none 0 0)) rfl rfl rfl rfl rfl rfl (by kernel_rfl) (by kernel_rfl)) ?_
      iterate 1 (try (first | (show Walk1 _ _ _ (_ :: _) _ _; (show Walk1 _ _ _ (⟨_, .move _, _, _, _, _⟩ :: _) _ _; refine walk1_t (op_move rfl rfl rfl rfl) ?_)) | refine go1 ?_ | refine end_block_other rfl ?_ | refine end_scope (fun _ h => by cases h) ?_ | (refine walk_endD ?_ ?_; (· kernel_rfl)) | refine tri_yesA rfl ?_ | refine tri_noA rfl ?_ | refine tri_trueA rfl ?_ | refine tri_falseA rfl ?_))
      refine walk1_b (op_storesC rfl rfl rfl rfl rfl rfl rfl (by kernel_rfl) (by kernel_rfl) (sm_c (by kernel_rfl))) ?_
      repeat (first | (show Walk1 _ _ _ (_ :: _) _ _; (show Walk1 _ _ _ (⟨_, .assign _, _, _, _, _⟩ :: _) _ _; refine walk1_t (op_assign rfl rfl rfl rfl) ?_)) | refine go1 ?_ | refine end_block_other rfl ?_ | refine end_scope (fun _ h => by cases h) ?_ | (refine walk_endD ?_ ?_; (· kernel_rfl)) | refine tri_yesA rfl ?_ | refine tri_noA rfl ?_ | refine tri_trueA rfl ?_ | refine tri_falseA rfl ?_)
      refine end_ret _ (res_cellS rfl rfl rfl rfl rfl rfl rfl (sm_c (by kernel_rfl))) ?_
      exact fin_GX0 hF hm (fun e => rfl)
  · intro Q' hQ _
    iterate 1 (try (first | refine go1 ?_ | refine end_block_other rfl ?_ | refine end_scope (fun _ h => by cases h) ?_ | (refine walk_endD ?_ ?_; (· kernel_rfl)) | refine tri_yesA rfl ?_ | refine tri_noA rfl ?_ | refine tri_trueA rfl ?_ | refine tri_falseA rfl ?_))
    refine tri_loop (X := Nat × RS × List (BitVec 64)) (fun x => ⟨[(80, SV.c (.int .i64 ((x.1 : Nat) : Int))), (79, SV.c (.int .i64 ((N : Nat) : Int))), (2, .p 2 0), (3, .c (.int .i64 0)), (4, .p 4 0), (5, .p 5 0), (7, .c (.int .i64 (nI 21 a)))], [(7010, some (.obj 10 rdO x.2.1)), (5, some (.blk 5 46 ((SA.l [.c (.int .i64 (nI 0 a)), .c (.int .i64 (nI 1 a)), .c (.int .i64 (nI 2 a)), .c (.int .i64 (nI 3 a)), .c (.int .i64 (nI 4 a)), .c (.int .i64 (nI 5 a)), .c (.int .u64 (bvi (nAt 6 a))), .c (.int .i64 (ptAt 7 a).x), .c (.int .i64 (ptAt 7 a).y), .c (.int .i64 (ptAt 7 a).z), .c (.int .i64 (ptAt 10 a).x), .c (.int .i64 (ptAt 10 a).y), .c (.int .i64 (ptAt 10 a).z), .c (.int .i64 (ptAt 13 a).x), .c (.int .i64 (ptAt 13 a).y), .c (.int .i64 (ptAt 13 a).z), .c (.int .i64 (ptAt 16 a).x), .c (.int .i64 (ptAt 16 a).y), .c (.int .i64 (ptAt 16 a).z), .c (.int .i64 (nI 19 a)), .c (.int .i64 (nI 20 a)), .c (.bool (decide (nI 21 a = 1))), .c (.int .i64 (nI 22 a)), .c (.int .i64 (nI 23 a)), .c (.int .i64 (nI 24 a))]).app ((SA.l [.v 2001]).app ((SA.l [.c (.int .u32 (bvi 0#32)), .c (.int .u32 (bvi 0#32)), .c (.int .u32 (bvi 0#32))]).app ((SA.c (vals .u8 Z32)).app (SA.c (vals .u8 Z32)))))))), (2001, some (.own 2001 27 1 x.2.2.length (valsL .u64 x.2.2))), (4, some (.blk 4 116 (.l [.p 10 0]))), (2, some (.blk 2 46 (.c (recA zeroRec (.slice none 0 0)))))]⟩)
      (fun x => x.1 ≤ N ∧ x.2.1.rd w1 m ∧ loopR (N - x.1) x.2.1.abs x.2.2 = idsR a ∧ x.2.2.length = x.1) (fun x => N - x.1) (0, s18, []) ⟨by omega, r18, hids, rfl⟩ (by exact ent_keep (by repeat (first | exact hasT_nil | refine hasT_cons rfl ?_ | refine hasT_eq rfl (svi (by omega)) ?_)) (by repeat (first | exact hasR_nil | refine hasR_cons rfl ?_))) ?_
    rintro ⟨j, s, acc⟩ ⟨hj, rs, hl, hlen2⟩ K next
    dsimp only at *
    have cE := err_obj s
    have cN := num_obj 8 (by omega) (by omega) s
    by_cases hjN : j < N
    · by_cases he : s.e = 0
      · repeat (first | (show Walk1 _ _ _ (_ :: _) _ _; first | (show Walk1 _ _ _ (⟨_, .move _, _, _, _, _⟩ :: _) _ _; refine walk1_t (op_move rfl rfl rfl rfl) ?_) | (show Walk1 _ _ _ (⟨_, .binOp .add _ _ _ _, _, _, _, _⟩ :: _) _ _; refine walk1_t (op_addN rfl rfl rfl (by first | exact evN_const rfl | exact rfl) (by first | exact evN_const rfl | exact rfl) (by omega)) ?_) | (show Walk1 _ _ _ (⟨_, .binOp .lss _ _ _ _, _, _, _, _⟩ :: _) _ _; refine walk1_t (op_ltN rfl rfl rfl (by first | exact evN_const rfl | exact rfl) (by first | exact evN_const rfl | exact rfl)) ?_) | (show Walk1 _ _ _ (⟨_, .binOp .neq _ _ _ _, _, _, _, _⟩ :: _) _ _; refine walk1_t (op_neI rfl rfl rfl rfl rfl) ?_) | (show Walk1 _ _ _ (⟨_, .load _ _, _, _, _, _⟩ :: _) _ _; refine walk1_t (op_load rfl rfl rfl rfl rfl rfl rfl) ?_) | (show Walk1 _ _ _ (⟨_, .fieldAddr _ _ _, _, _, _, _⟩ :: _) _ _; refine walk1_t (op_fldT rfl rfl rfl rfl rfl rfl off_zero) ?_) | (show Walk1 _ _ _ (⟨_, .call ⟨.value (.func 51), _, _⟩, _, _, _, _⟩ :: _) _ _; (refine walk1_callObjR 7010 (cE) rfl rfl rfl rfl (by repeat (first | exact evs_nil | apply evs_cons rfl)) rfl rfl (fun _ => rfl) (s.rd_later) (rs) ?_))) | (show WalkTo _ _ _ _ (_ :: _) _ _ _; first | (show WalkTo _ _ _ _ (⟨_, .load _ _, _, _, _, _⟩ :: _) _ _ _; refine walk_t (op_load rfl rfl rfl rfl rfl rfl rfl) ?_) | (show WalkTo _ _ _ _ (⟨_, .store _ _ _, _, _, _, _⟩ :: _) _ _ _; refine walk_b (op_storeO rfl rfl rfl rfl rfl rfl rfl (by first | exact one_own rfl | exact one_osub rfl)) ?_) | (show WalkTo _ _ _ _ (⟨_, .fieldAddr _ _ _, _, _, _, _⟩ :: _) _ _ _; refine walk_t (op_fldT rfl rfl rfl rfl rfl rfl off_zero) ?_) | (show WalkTo _ _ _ _ (⟨_, .call ⟨.builtin .append, _, _⟩, _, _, _, _⟩ :: _) _ _ _; refine walk_g (op_appendB rfl rfl rfl rfl rfl rfl rfl rfl rfl) (by kernel_rfl) ?_) | (show WalkTo _ _ _ _ (⟨_, .buildSlice _ _ _, _, _, _, _⟩ :: _) _ _ _; refine walk_n (op_bslice1 rfl rfl rfl rfl rfl rfl rfl rfl rfl rfl rfl (ce_one fun _ => rfl) (sm_l rfl) (by kernel_rfl)) (by kernel_rfl) ?_) | (show WalkTo _ _ _ _ (⟨_, .call ⟨.value (.func 49), _, _⟩, _, _, _, _⟩ :: _) _ _ _; (refine walk_callObjR 7010 (cN) rfl rfl rfl rfl (by repeat (first | exact evs_nil | apply evs_cons rfl)) rfl rfl (fun _ => rfl) (s.rd_later) (rs) ?_))) | refine go1 ?_ | refine end_block_other rfl ?_ | refine end_scope (fun _ h => by cases h) ?_ | (refine walk_endD ?_ ?_; (· kernel_rfl)) | refine tri_yesA rfl ?_ | refine tri_noA rfl ?_ | refine tri_trueA rfl ?_ | refine tri_falseA rfl ?_)
        refine next _ (j + 1, s.nx 8, acc ++ [numR 8 s.abs]) ⟨by omega, RS.rd_nx 8 rs, ?_, by rw [List.length_append, hlen2]; rfl⟩ (by show N - (j + 1) < N - j; omega) ?_
        · show loopR (N - (j + 1)) (s.nx 8).abs (acc ++ [numR 8 s.abs]) = idsR a
          have h1 : s.abs.e = 0 := he
          rw [← hl, RS.nx_abs, show N - j = (N - (j + 1)) + 1 by omega]
          conv => rhs; unfold loopR
          rw [if_pos h1]
        · rw [show acc.length + 1 = (acc ++ [numR 8 s.abs]).length by simp]
          exact (ent_ren (fun n => cond (Nat.beq n 2001) 92 n) (by repeat (first | exact hasTm_nil | refine hasTm_cons rfl (fun _ => rfl) ?_)) (by repeat (first | exact hasRm_nil | refine hasRm_cons rfl (fun _ => rfl) (fun _ _ h => h) rfl ?_)) (by kernel_rfl))
      · repeat (first | (show Walk1 _ _ _ (_ :: _) _ _; first | (show Walk1 _ _ _ (⟨_, .binOp .lss _ _ _ _, _, _, _, _⟩ :: _) _ _; refine walk1_t (op_ltN rfl rfl rfl (by first | exact evN_const rfl | exact rfl) (by first | exact evN_const rfl | exact rfl)) ?_) | (show Walk1 _ _ _ (⟨_, .binOp .neq _ _ _ _, _, _, _, _⟩ :: _) _ _; refine walk1_t (op_neI rfl rfl rfl rfl rfl) ?_) | (show Walk1 _ _ _ (⟨_, .load _ _, _, _, _, _⟩ :: _) _ _; refine walk1_t (op_load rfl rfl rfl rfl rfl rfl rfl) ?_) | (show Walk1 _ _ _ (⟨_, .fieldAddr _ _ _, _, _, _, _⟩ :: _) _ _; refine walk1_t (op_fldT rfl rfl rfl rfl rfl rfl off_zero) ?_) | (show Walk1 _ _ _ (⟨_, .call ⟨.value (.func 51), _, _⟩, _, _, _, _⟩ :: _) _ _; (refine walk1_callObjR 7010 (cE) rfl rfl rfl rfl (by repeat (first | exact evs_nil | apply evs_cons rfl)) rfl rfl (fun _ => rfl) (s.rd_later) (rs) ?_))) | refine go1 ?_ | refine end_block_other rfl ?_ | refine end_scope (fun _ h => by cases h) ?_ | (refine walk_endD ?_ ?_; (· kernel_rfl)) | refine tri_yesA rfl ?_ | refine tri_noA rfl ?_ | refine tri_trueA rfl ?_ | refine tri_falseA rfl ?_)
        refine hQ _ (s, acc) ⟨rs, ?_⟩ (by exact ent_keep (by repeat (first | exact hasT_nil | refine hasT_cons rfl ?_ | refine hasT_eq rfl (svi (by omega)) ?_)) (by repeat (first | exact hasR_nil | refine hasR_cons rfl ?_)))
        rw [← hl]
        have h1 : ¬ (s.abs.e = 0) := he
        obtain ⟨q, hq⟩ : ∃ q, N - j = q + 1 := ⟨N - j - 1, by omega⟩
        rw [hq]
        unfold loopR
        rw [if_neg h1]
    · repeat (first | (show Walk1 _ _ _ (_ :: _) _ _; (show Walk1 _ _ _ (⟨_, .binOp .lss _ _ _ _, _, _, _, _⟩ :: _) _ _; refine walk1_t (op_ltN rfl rfl rfl (by first | exact evN_const rfl | exact rfl) (by first | exact evN_const rfl | exact rfl)) ?_)) | refine go1 ?_ | refine end_block_other rfl ?_ | refine end_scope (fun _ h => by cases h) ?_ | (refine walk_endD ?_ ?_; (· kernel_rfl)) | refine tri_yesA rfl ?_ | refine tri_noA rfl ?_ | refine tri_trueA rfl ?_ | refine tri_falseA rfl ?_)
      refine hQ _ (s, acc) ⟨rs, ?_⟩ (by exact ent_keep (by repeat (first | exact hasT_nil | refine hasT_cons rfl ?_ | refine hasT_eq rfl (svi (by omega)) ?_)) (by repeat (first | exact hasR_nil | refine hasR_cons rfl ?_)))
      rw [← hl, show N - j = 0 by omega]
      rfl
end Go.Proofs.Ytlhedoodbadmgaa
