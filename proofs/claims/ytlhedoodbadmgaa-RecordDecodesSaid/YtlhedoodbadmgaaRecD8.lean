/- The document's Reader as an object: Num, Int, End, three numbers. No condition. -/
import Derived.Test.YtlhedoodbadmgaaRecDC
namespace Go.Proofs.Ytlhedoodbadmgaa
open Go.RowKit
set_option maxRecDepth 100000
set_option maxHeartbeats 1000000
structure RT where
  v : Value
  L0 : List (BitVec 8)
  p : Nat
  e : Int
def RT.abs (s : RT) : RdS := ⟨s.L0.drop s.p, s.e⟩
def RT.nx (k : Nat) (s : RT) : RT := if s.e = 0 then (if s.p + k ≤ s.L0.length then ⟨s.v, s.L0, s.p + k, 0⟩ else ⟨s.v, s.L0, s.p, 4⟩) else s
def RT.rd (s : RT) : World → List Nat → Prop := fun w m => FSX w m 1 s.v s.L0.length (valsL .u8 s.L0) ∧ (s.p ≤ s.L0.length ∧ s.L0.length ≤ 100000)
theorem RT.rd_later (s : RT) : Later s.rd := later_and later_fsx fun _ _ _ _ h _ _ => h
theorem RT.rd_nx {s : RT} {w : World} {m : List Nat} (k : Nat) (h : s.rd w m) : (s.nx k).rd w m := by
  unfold RT.nx
  split
  · split
    · rename_i h2
      exact ⟨h.1, h2, h.2.2⟩
    · exact h
  · exact h
theorem RT.nx_abs {s : RT} (k : Nat) (hp : s.p ≤ s.L0.length) : (s.nx k).abs = nextR k s.abs := by
  unfold RT.nx nextR RT.abs
  have h1 : (s.L0.drop s.p).length = s.L0.length - s.p := List.length_drop
  by_cases he : s.e = 0
  · rw [if_pos he]
    dsimp only
    rw [if_pos he]
    by_cases hk : s.p + k ≤ s.L0.length
    · rw [if_pos hk, if_pos (by omega), List.drop_drop]
    · rw [if_neg hk, if_neg (by omega)]
  · rw [if_neg he]
    dsimp only
    rw [if_neg he]
def rfO : Obj RT where
  ok w b v s := Blk w b (rfC s.v s.p s.e) 125 ∧ ∀ x ∈ vblk v, x < w.heap.size
  loc := fun {w w' b v s} h hok => by
    refine ⟨(h b (.inl rfl)).trans hok.1, fun x hx => ?_⟩
    have h1 := hok.2 x hx
    have h2 : w'.heap[x]? = w.heap[x]? := h x (.inr hx)
    rw [Array.getElem?_eq_getElem h1] at h2
    exact (Array.getElem?_eq_some_iff.1 h2).1
  lt := fun {w b v s x} hok hx => by
    rcases hx with rfl | hx
    · exact (Array.getElem?_eq_some_iff.1 hok.1).1
    · exact hok.2 x hx
theorem rfO_of {w : World} {b j : Nat} {v u : Value} {args : Array Value} {s s' : RT} (hok : rfO.ok w b v s) (h : Calls Try.prog j args w (RetP w b 125 (rfC s'.v s'.p s'.e) u)) : Calls Try.prog j args w (RetO rfO w b v s' u) := by
  refine h.mono ?_
  rintro r w' ⟨rfl, hB, hx⟩
  exact ⟨rfl, ⟨hB, fun x hxv => Nat.lt_of_lt_of_le (hok.2 x hxv) hx.size⟩, hx.more fun x hx => by rw [List.mem_singleton.1 hx]; exact List.mem_cons_self⟩
theorem refNumG_any (k : Nat) (hk1 : 1 ≤ k) (hk8 : k ≤ 8) (s : RT) (w : World) (b : Nat) (hB : Blk w b (rfC s.v s.p s.e) 125) (hrd : s.rd w [b]) : Calls Try.prog 54 #[.pointer (some ⟨b, 0, none⟩), .int .i64 (k : Int)] w (RetP w b 125 (rfC (s.nx k).v (s.nx k).p (s.nx k).e) (.int .u64 (bvi (numR k s.abs)))) := by
  obtain ⟨hr, hp, hn⟩ := hrd
  obtain ⟨a, c, hv, hc⟩ := hr.fs.2
  have hl : (s.L0.drop s.p).length = s.L0.length - s.p := List.length_drop
  by_cases he : s.e = 0
  · by_cases hk : s.p + k ≤ s.L0.length
    · have h2 : s.nx k = ⟨s.v, s.L0, s.p + k, 0⟩ := by unfold RT.nx; rw [if_pos he, if_pos hk]
      have h3 : numR k s.abs = rdV k (s.L0.drop s.p) := by unfold numR; exact if_pos ⟨he, by show k ≤ (s.L0.drop s.p).length; omega⟩
      rw [h2, h3]
      rw [he, hv] at hB
      rw [hv] at hr
      show Calls Try.prog _ _ w (RetP w b _ (rfC s.v (s.p + k) 0) _)
      rw [hv]
      exact refNumO_any k hk1 hk8 s.p a s.L0.length c s.L0 rfl hn hk w b hB hr
    · have h2 : s.nx k = ⟨s.v, s.L0, s.p, 4⟩ := by unfold RT.nx; rw [if_pos he, if_neg hk]
      have h3 : numR k s.abs = BitVec.ofInt 64 0 := by unfold numR; exact if_neg (fun h => by have : k ≤ (s.L0.drop s.p).length := h.2; omega)
      rw [h2, h3]
      rw [he, hv] at hB
      show Calls Try.prog _ _ w (RetP w b _ (rfC s.v s.p 4) _)
      rw [hv]
      exact refNumS_any k hk1 hk8 s.p a s.L0.length c hp hn (by omega) w b hB
  · have h1 := refNumE_any k hk1 hk8 s.p s.v s.e he w b hB
    have h2 : s.nx k = s := by unfold RT.nx; exact if_neg he
    have h3 : numR k s.abs = BitVec.ofInt 64 0 := by unfold numR; exact if_neg (fun h => he h.1)
    rw [h2, h3]
    exact h1
theorem rd_one {s : RT} {w : World} {b : Nat} {v : Value} (h : s.rd w (b :: vblk v)) : s.rd w [b] := ⟨fun w' hw => h.1 w' (hw.more fun x hx => by rw [List.mem_singleton.1 hx]; exact List.mem_cons_self), h.2⟩
theorem refNum_obj (k : Nat) (hk1 : 1 ≤ k) (hk8 : k ≤ 8) (s : RT) : ObjR rfO s.rd 54 (fun b => #[.pointer (some ⟨b, 0, none⟩), .int .i64 (k : Int)]) s (s.nx k) (.int .u64 (bvi (numR k s.abs))) := fun w b _ hok hrd => rfO_of hok (refNumG_any k hk1 hk8 s w b hok.1 (rd_one hrd))
def mostD : Nat → BitVec 64
  | 0 => 0#64
  | k + 1 => mostD k * BitVec.ofInt 64 256 + BitVec.ofInt 64 255
attribute [local irreducible] Calls Walk1 WalkTo Tri EndA
theorem refMostD_any (n : Nat) (hn : n ≤ 8) (w : World) : Calls Try.prog 68 #[.int .i64 (n : Int)] w fun e w' => e = .returned (.int .u64 (bvi (mostD n))) ∧ Below w.heap.size w w' := by
  refine calls_tri Try.func68 rfl Try.ntmps68 rfl ?_
  repeat (first | (show Walk1 _ _ _ (_ :: _) _ _; (show Walk1 _ _ _ (⟨_, .assign _, _, _, _, _⟩ :: _) _ _; first | refine walk1_t (op_assignN rfl rfl rfl rfl) ?_ | refine walk1_t (op_assign rfl rfl rfl rfl) ?_)) | refine go1 ?_ | refine end_block_other rfl ?_ | refine end_scope (fun _ h => by cases h) ?_ | (refine walk_endD ?_ ?_; (· kernel_rfl)) | refine tri_yesA rfl ?_ | refine tri_noA rfl ?_ | refine tri_trueA rfl ?_ | refine tri_falseA rfl ?_)
  refine tri_loop (X := Nat) (fun k => ⟨[(4, SV.c (.int .i64 ((k : Nat) : Int))), (3, .c (.int .u64 (bvi (mostD k)))), (0, .c (.int .i64 (n : Int)))], []⟩)
    (fun k => k ≤ n) (fun k => n - k) 0 (by omega) (ent_keep (by repeat (first | exact hasT_nil | refine hasT_cons rfl ?_ | refine hasT_eq rfl (svi (by omega)) ?_)) (by repeat (first | exact hasR_nil | refine hasR_cons rfl ?_))) ?_
  intro k hk K next
  by_cases h : k < n
  · have e1 : mostD k * BitVec.ofInt 64 256 + BitVec.ofInt 64 255 = mostD (k + 1) := rfl
    generalize hm1 : mostD (k + 1) = m1 at *
    generalize mostD k = m at *
    repeat (first | (show Walk1 _ _ _ (_ :: _) _ _; first | (show Walk1 _ _ _ (⟨_, .move _, _, _, _, _⟩ :: _) _ _; refine walk1_t (op_move rfl rfl rfl rfl) ?_) | (show Walk1 _ _ _ (⟨_, .assign _, _, _, _, _⟩ :: _) _ _; refine walk1_t (op_assign rfl rfl rfl rfl) ?_) | (show Walk1 _ _ _ (⟨_, .binOp .add _ _ _ _, _, _, _, _⟩ :: _) _ _; first | refine walk1_t (op_addN rfl rfl rfl (by first | exact evN_const rfl | exact rfl) (by first | exact evN_const rfl | exact rfl) (by omega)) ?_ | refine walk1_t (op_addB rfl rfl rfl (by (first | exact evB_tmp rfl | exact evB_lit rfl rfl)) (by (first | exact evB_tmp rfl | exact evB_lit rfl rfl))) ?_) | (show Walk1 _ _ _ (⟨_, .binOp .mul _ _ _ _, _, _, _, _⟩ :: _) _ _; refine walk1_t (op_mulB rfl rfl rfl (by (first | exact evB_tmp rfl | exact evB_lit rfl rfl)) (by (first | exact evB_tmp rfl | exact evB_lit rfl rfl))) ?_) | (show Walk1 _ _ _ (⟨_, .binOp .lss _ _ _ _, _, _, _, _⟩ :: _) _ _; refine walk1_t (op_ltN rfl rfl rfl (by first | exact evN_const rfl | exact rfl) (by first | exact evN_const rfl | exact rfl)) ?_)) | refine go1 ?_ | refine end_block_other rfl ?_ | refine end_scope (fun _ h => by cases h) ?_ | (refine walk_endD ?_ ?_; (· kernel_rfl)) | refine tri_yesA rfl ?_ | refine tri_noA rfl ?_ | refine tri_trueA rfl ?_ | refine tri_falseA rfl ?_)
    rw [e1, ← hm1]
    exact next _ (k + 1) (by omega) (by omega) (ent_keep (by repeat (first | exact hasT_nil | refine hasT_cons rfl ?_ | refine hasT_eq rfl (svi (by omega)) ?_)) (by repeat (first | exact hasR_nil | refine hasR_cons rfl ?_)))
  · obtain rfl : k = n := by omega
    generalize mostD k = m at *
    repeat (first | (show Walk1 _ _ _ (_ :: _) _ _; first | (show Walk1 _ _ _ (⟨_, .move _, _, _, _, _⟩ :: _) _ _; refine walk1_t (op_move rfl rfl rfl rfl) ?_) | (show Walk1 _ _ _ (⟨_, .assign _, _, _, _, _⟩ :: _) _ _; refine walk1_t (op_assign rfl rfl rfl rfl) ?_) | (show Walk1 _ _ _ (⟨_, .binOp .lss _ _ _ _, _, _, _, _⟩ :: _) _ _; refine walk1_t (op_ltN rfl rfl rfl (by first | exact evN_const rfl | exact rfl) (by first | exact evN_const rfl | exact rfl)) ?_)) | refine go1 ?_ | refine end_block_other rfl ?_ | refine end_scope (fun _ h => by cases h) ?_ | (refine walk_endD ?_ ?_; (· kernel_rfl)) | refine tri_yesA rfl ?_ | refine tri_noA rfl ?_ | refine tri_trueA rfl ?_ | refine tri_falseA rfl ?_)
    refine end_ret _ (res_tmp rfl rfl) ?_
    exact fin_below fun _ => rfl
theorem numR_err (k : Nat) (hk : 1 ≤ k) (a : RdS) (h : (nextR k a).e ≠ 0) : numR k a = 0#64 := by
  unfold numR
  refine if_neg fun h1 => h ?_
  unfold nextR
  rw [if_pos h1.1, if_pos h1.2]
theorem refInt_any (s : RT) (w : World) (b : Nat) (hB : Blk w b (rfC s.v s.p s.e) 125) (hrd : s.rd w [b]) :
    Calls Try.prog 74 #[.pointer (some ⟨b, 0, none⟩), .int .i64 4] w (RetP w b 125 (rfC (s.nx 4).v (s.nx 4).p (s.nx 4).e) (.int .i64 (sxI (numR 4 s.abs).toInt))) := by
  have cn := fun w b hB h1 => refNumG_any 4 (by omega) (by omega) s w b hB h1
  have cm := fun w => refMostD_any 4 (by omega) w
  have hm : mostD 4 = BitVec.ofInt 64 4294967295 := by decide
  have hx : (numR 4 s.abs).toNat < 4294967296 := numR_lt 4 (by omega) s.abs
  have h0 := numR_err 4 (by omega) s.abs
  rw [← RT.nx_abs 4 hrd.2.1] at h0
  have h0 : (s.nx 4).e ≠ 0 → numR 4 s.abs = 0#64 := h0
  have hv : (s.nx 4).v = s.v := by
    unfold RT.nx
    split
    · split <;> rfl
    · rfl
  have hr1 := hrd.1
  have hst := hrd.2
  have hrd2 : ∀ w', RdX w' [b] 1 s.v s.L0.length (valsL .u8 s.L0) → s.rd w' [b] := fun w' h => ⟨fun w2 h2 => ⟨h w2 h2, hrd.1.fs.2⟩, hrd.2⟩
  have hrd3 : ∀ w' b', RdX w' [b'] 1 s.v s.L0.length (valsL .u8 s.L0) → s.rd w' [b'] := fun w' b' h => ⟨fun w2 h2 => ⟨h w2 h2, hrd.1.fs.2⟩, hrd.2⟩
  rw [hv] at cn ⊢
  have hxi : (numR 4 s.abs).toInt = ((numR 4 s.abs).toNat : Int) := by rw [BitVec.toInt_eq_toNat_cond, if_pos (by omega)]
  have hsx : sxI (numR 4 s.abs).toInt = if 2147483647 < (numR 4 s.abs).toNat then ((numR 4 s.abs).toNat : Int) - 4294967296 else ((numR 4 s.abs).toNat : Int) := by
    rw [hxi]
    unfold sxI
    split <;> split <;> omega
  rw [hsx]
  have hM : (mostD 4).toNat = 4294967295 := by rw [hm]; decide
  have hq : (mostD 4 / BitVec.ofInt 64 2).toNat = 2147483647 := by rw [hm]; decide
  clear hm
  generalize mostD 4 = M at *
  generalize numR 4 s.abs = x at *
  generalize (s.nx 4).p = p1 at *
  generalize (s.nx 4).e = e1 at *
  by_cases he : e1 = 0
  · subst he
    by_cases hc : 2147483647 < x.toNat
    · rw [if_pos hc]
      have hd : decide ((M / BitVec.ofInt 64 2).toNat < x.toNat) = true := by rw [hq]; simpa using hc
      have hsi : (M - x).toInt = 4294967295 - (x.toNat : Int) := by
        have hsub : (M - x).toNat = 4294967295 - x.toNat := by
          rw [BitVec.toNat_sub, hM]
          omega
        rw [BitVec.toInt_eq_toNat_cond, if_pos (by omega), hsub]; omega
      have hfin : -(M - x).toInt - 1 = (x.toNat : Int) - 4294967296 := by omega
      have hb1 : -9223372036854775808 < (M - x).toInt ∧ (M - x).toInt ≤ 9223372036854775808 := by omega
      have hb2 : -9223372036854775808 ≤ -(M - x).toInt - 1 ∧ -(M - x).toInt - 1 < 9223372036854775808 := by omega
      rw [← hfin]
      clear hq hM hsi hfin hx h0 hc hxi hsx hrd hst hrd2
      refine calls_triP (b := b) (125) (.l [.c s.v, SV.c (.int .i64 ((s.p : Nat) : Int)), .c (.int .i64 s.e)]) Try.func74 rfl Try.ntmps74 rfl rfl (hB) (fun _ => rfl) ?_
      simp only [rfC] at *
      repeat (first | (show Walk1 _ _ _ (_ :: _) _ _; first | (show Walk1 _ _ _ (⟨_, .move _, _, _, _, _⟩ :: _) _ _; refine walk1_t (op_move rfl rfl rfl rfl) ?_) | (show Walk1 _ _ _ (⟨_, .assign _, _, _, _, _⟩ :: _) _ _; first | refine walk1_t (op_assignN rfl rfl rfl rfl) ?_ | refine walk1_t (op_assign rfl rfl rfl rfl) ?_) | (show Walk1 _ _ _ (⟨_, .binOp .sub _ _ _ _, _, _, _, _⟩ :: _) _ _; first | refine walk1_t (op_subB rfl rfl rfl (by (first | exact evB_tmp rfl | exact evB_lit rfl rfl)) (by (first | exact evB_tmp rfl | exact evB_lit rfl rfl))) ?_ | refine walk1_t (op_subI rfl rfl rfl rfl rfl (by omega)) ?_) | (show Walk1 _ _ _ (⟨_, .binOp .quo _ _ _ _, _, _, _, _⟩ :: _) _ _; refine walk1_t (op_divB rfl rfl rfl (by (first | exact evB_tmp rfl | exact evB_lit rfl rfl)) (by (first | exact evB_tmp rfl | exact evB_lit rfl rfl)) (by first | omega | decide)) ?_) | (show Walk1 _ _ _ (⟨_, .binOp .gtr _ _ _ _, _, _, _, _⟩ :: _) _ _; refine walk1_t (op_gtB rfl rfl rfl (by (first | exact evB_tmp rfl | exact evB_lit rfl rfl)) (by (first | exact evB_tmp rfl | exact evB_lit rfl rfl))) ?_) | (show Walk1 _ _ _ (⟨_, .binOp .neq _ _ _ _, _, _, _, _⟩ :: _) _ _; refine walk1_t (op_neN rfl rfl rfl (by first | exact evN_const rfl | exact rfl) (by first | exact evN_const rfl | exact rfl)) ?_) | (show Walk1 _ _ _ (⟨_, .unOp _ _ _, _, _, _, _⟩ :: _) _ _; refine walk1_t (op_negI rfl rfl rfl rfl (by omega)) ?_) | (show Walk1 _ _ _ (⟨_, .load _ _, _, _, _, _⟩ :: _) _ _; refine walk1_t (op_load rfl rfl rfl rfl rfl rfl rfl) ?_) | (show Walk1 _ _ _ (⟨_, .nilCheck _, _, _, _, _⟩ :: _) _ _; refine walk1_t (op_nilP rfl rfl rfl rfl) ?_) | (show Walk1 _ _ _ (⟨_, .fieldAddr _ _ _, _, _, _, _⟩ :: _) _ _; refine walk1_t (op_fldT rfl rfl rfl rfl rfl rfl off_zero) ?_) | (show Walk1 _ _ _ (⟨_, .convert _ _ _, _, _, _, _⟩ :: _) _ _; refine walk1_t (op_cvtBZ rfl rfl rfl (by (first | exact evB_tmp rfl | exact evB_lit rfl rfl)) rfl rfl) ?_) | (show Walk1 _ _ _ (⟨_, .call ⟨.value (.func 54), _, _⟩, _, _, _, _⟩ :: _) _ _; ((first | refine walk1_callP (.l [.c s.v, SV.c (.int .i64 ((p1 : Nat) : Int)), .c (.int .i64 0)]) rfl rfl rfl rfl (by repeat (first | exact evs_nil | apply evs_cons rfl)) rfl rfl rfl ?_ | refine walk1_callP0 (.l [.c s.v, SV.c (.int .i64 ((p1 : Nat) : Int)), .c (.int .i64 0)]) rfl rfl rfl (by repeat (first | exact evs_nil | apply evs_cons rfl)) rfl rfl rfl ?_); refine ⟨_, _, _, callP_1 (cells0 := #[s.v, .int .i64 ((s.p : Nat) : Int), .int .i64 s.e]) rfl (fun _ => rfl) (rdn_oldX hr1) (by kernel_rfl) (fun e w h h1 => cn w _ h (hrd3 w _ h1)), (fun _ => rfl), ?_⟩)) | (show Walk1 _ _ _ (⟨_, .call ⟨.value (.func 68), _, _⟩, _, _, _, _⟩ :: _) _ _; ((first | refine walk1_call rfl rfl rfl rfl (by repeat (first | exact evs_nil | apply evs_cons rfl)) rfl ?_ | refine walk1_call0 rfl rfl rfl (by repeat (first | exact evs_nil | apply evs_cons rfl)) rfl ?_); refine ⟨_, fun e w => cm w, ?_⟩))) | refine go1 ?_ | refine end_block_other rfl ?_ | refine end_scope (fun _ h => by cases h) ?_ | (refine walk_endD ?_ ?_; (· kernel_rfl)) | refine tri_yesA rfl ?_ | refine tri_noA rfl ?_ | refine tri_trueA rfl ?_ | refine tri_falseA rfl ?_)
      refine end_ret _ (res_tmp rfl rfl) ?_
      exact fin_obj rfl rfl (fun _ => rfl) (fun _ => rfl)
    · rw [if_neg hc]
      have hd : decide ((M / BitVec.ofInt 64 2).toNat < x.toNat) = false := by rw [hq]; simpa using hc
      rw [← hxi]
      clear hq hM hx h0 hc hxi hsx hrd hst hrd2
      refine calls_triP (b := b) (125) (.l [.c s.v, SV.c (.int .i64 ((s.p : Nat) : Int)), .c (.int .i64 s.e)]) Try.func74 rfl Try.ntmps74 rfl rfl (hB) (fun _ => rfl) ?_
      simp only [rfC] at *
      repeat (first | (show Walk1 _ _ _ (_ :: _) _ _; first | (show Walk1 _ _ _ (⟨_, .move _, _, _, _, _⟩ :: _) _ _; refine walk1_t (op_move rfl rfl rfl rfl) ?_) | (show Walk1 _ _ _ (⟨_, .assign _, _, _, _, _⟩ :: _) _ _; first | refine walk1_t (op_assignN rfl rfl rfl rfl) ?_ | refine walk1_t (op_assign rfl rfl rfl rfl) ?_) | (show Walk1 _ _ _ (⟨_, .binOp .quo _ _ _ _, _, _, _, _⟩ :: _) _ _; refine walk1_t (op_divB rfl rfl rfl (by (first | exact evB_tmp rfl | exact evB_lit rfl rfl)) (by (first | exact evB_tmp rfl | exact evB_lit rfl rfl)) (by first | omega | decide)) ?_) | (show Walk1 _ _ _ (⟨_, .binOp .gtr _ _ _ _, _, _, _, _⟩ :: _) _ _; refine walk1_t (op_gtB rfl rfl rfl (by (first | exact evB_tmp rfl | exact evB_lit rfl rfl)) (by (first | exact evB_tmp rfl | exact evB_lit rfl rfl))) ?_) | (show Walk1 _ _ _ (⟨_, .binOp .neq _ _ _ _, _, _, _, _⟩ :: _) _ _; refine walk1_t (op_neN rfl rfl rfl (by first | exact evN_const rfl | exact rfl) (by first | exact evN_const rfl | exact rfl)) ?_) | (show Walk1 _ _ _ (⟨_, .load _ _, _, _, _, _⟩ :: _) _ _; refine walk1_t (op_load rfl rfl rfl rfl rfl rfl rfl) ?_) | (show Walk1 _ _ _ (⟨_, .nilCheck _, _, _, _, _⟩ :: _) _ _; refine walk1_t (op_nilP rfl rfl rfl rfl) ?_) | (show Walk1 _ _ _ (⟨_, .fieldAddr _ _ _, _, _, _, _⟩ :: _) _ _; refine walk1_t (op_fldT rfl rfl rfl rfl rfl rfl off_zero) ?_) | (show Walk1 _ _ _ (⟨_, .convert _ _ _, _, _, _, _⟩ :: _) _ _; refine walk1_t (op_cvtBZ rfl rfl rfl (by (first | exact evB_tmp rfl | exact evB_lit rfl rfl)) rfl rfl) ?_) | (show Walk1 _ _ _ (⟨_, .call ⟨.value (.func 54), _, _⟩, _, _, _, _⟩ :: _) _ _; ((first | refine walk1_callP (.l [.c s.v, SV.c (.int .i64 ((p1 : Nat) : Int)), .c (.int .i64 0)]) rfl rfl rfl rfl (by repeat (first | exact evs_nil | apply evs_cons rfl)) rfl rfl rfl ?_ | refine walk1_callP0 (.l [.c s.v, SV.c (.int .i64 ((p1 : Nat) : Int)), .c (.int .i64 0)]) rfl rfl rfl (by repeat (first | exact evs_nil | apply evs_cons rfl)) rfl rfl rfl ?_); refine ⟨_, _, _, callP_1 (cells0 := #[s.v, .int .i64 ((s.p : Nat) : Int), .int .i64 s.e]) rfl (fun _ => rfl) (rdn_oldX hr1) (by kernel_rfl) (fun e w h h1 => cn w _ h (hrd3 w _ h1)), (fun _ => rfl), ?_⟩)) | (show Walk1 _ _ _ (⟨_, .call ⟨.value (.func 68), _, _⟩, _, _, _, _⟩ :: _) _ _; ((first | refine walk1_call rfl rfl rfl rfl (by repeat (first | exact evs_nil | apply evs_cons rfl)) rfl ?_ | refine walk1_call0 rfl rfl rfl (by repeat (first | exact evs_nil | apply evs_cons rfl)) rfl ?_); refine ⟨_, fun e w => cm w, ?_⟩))) | refine go1 ?_ | refine end_block_other rfl ?_ | refine end_scope (fun _ h => by cases h) ?_ | (refine walk_endD ?_ ?_; (· kernel_rfl)) | refine tri_yesA rfl ?_ | refine tri_noA rfl ?_ | refine tri_trueA rfl ?_ | refine tri_falseA rfl ?_)
      refine end_ret _ (res_tmp rfl rfl) ?_
      exact fin_obj rfl rfl (fun _ => rfl) (fun _ => rfl)
  · have hx0 := h0 he
    subst hx0
    have hd : decide (e1 ≠ 0) = true := by simpa using he
    rw [show (if 2147483647 < (0#64).toNat then ((0#64).toNat : Int) - 4294967296 else ((0#64).toNat : Int)) = 0 from rfl]
    clear hq hM hx h0 hxi hsx hrd hst hrd2
    refine calls_triP (b := b) (125) (.l [.c s.v, SV.c (.int .i64 ((s.p : Nat) : Int)), .c (.int .i64 s.e)]) Try.func74 rfl Try.ntmps74 rfl rfl (hB) (fun _ => rfl) ?_
    simp only [rfC] at *
    repeat (first | (show Walk1 _ _ _ (_ :: _) _ _; first | (show Walk1 _ _ _ (⟨_, .move _, _, _, _, _⟩ :: _) _ _; refine walk1_t (op_move rfl rfl rfl rfl) ?_) | (show Walk1 _ _ _ (⟨_, .assign _, _, _, _, _⟩ :: _) _ _; first | refine walk1_t (op_assignN rfl rfl rfl rfl) ?_ | refine walk1_t (op_assign rfl rfl rfl rfl) ?_) | (show Walk1 _ _ _ (⟨_, .binOp .neq _ _ _ _, _, _, _, _⟩ :: _) _ _; refine walk1_t (op_neI rfl rfl rfl rfl rfl) ?_) | (show Walk1 _ _ _ (⟨_, .load _ _, _, _, _, _⟩ :: _) _ _; refine walk1_t (op_load rfl rfl rfl rfl rfl rfl rfl) ?_) | (show Walk1 _ _ _ (⟨_, .nilCheck _, _, _, _, _⟩ :: _) _ _; refine walk1_t (op_nilP rfl rfl rfl rfl) ?_) | (show Walk1 _ _ _ (⟨_, .fieldAddr _ _ _, _, _, _, _⟩ :: _) _ _; refine walk1_t (op_fldT rfl rfl rfl rfl rfl rfl off_zero) ?_) | (show Walk1 _ _ _ (⟨_, .call ⟨.value (.func 54), _, _⟩, _, _, _, _⟩ :: _) _ _; ((first | refine walk1_callP (.l [.c s.v, SV.c (.int .i64 ((p1 : Nat) : Int)), .c (.int .i64 e1)]) rfl rfl rfl rfl (by repeat (first | exact evs_nil | apply evs_cons rfl)) rfl rfl rfl ?_ | refine walk1_callP0 (.l [.c s.v, SV.c (.int .i64 ((p1 : Nat) : Int)), .c (.int .i64 e1)]) rfl rfl rfl (by repeat (first | exact evs_nil | apply evs_cons rfl)) rfl rfl rfl ?_); refine ⟨_, _, _, callP_1 (cells0 := #[s.v, .int .i64 ((s.p : Nat) : Int), .int .i64 s.e]) rfl (fun _ => rfl) (rdn_oldX hr1) (by kernel_rfl) (fun e w h h1 => cn w _ h (hrd3 w _ h1)), (fun _ => rfl), ?_⟩))) | refine go1 ?_ | refine end_block_other rfl ?_ | refine end_scope (fun _ h => by cases h) ?_ | (refine walk_endD ?_ ?_; (· kernel_rfl)) | refine tri_yesA rfl ?_ | refine tri_noA rfl ?_ | refine tri_trueA rfl ?_ | refine tri_falseA rfl ?_)
    refine end_ret (.c (.int .i64 0)) (res_tmp rfl rfl) ?_
    exact fin_obj rfl rfl (fun _ => rfl) (fun _ => rfl)
theorem refInt_obj (s : RT) : ObjR rfO s.rd 74 (fun b => #[.pointer (some ⟨b, 0, none⟩), .int .i64 4]) s (s.nx 4) (.int .i64 (sxI (numR 4 s.abs).toInt)) := fun w b _ hok hrd => rfO_of hok (refInt_any s w b hok.1 (rd_one hrd))
theorem refRead_obj (s : RT) : ObjR rfO s.rd 55 (fun b => #[.pointer (some ⟨b, 0, none⟩)]) s (((s.nx 4).nx 4).nx 4) (ptV (sxI (numR 4 s.abs).toInt) (sxI (numR 4 (s.nx 4).abs).toInt) (sxI (numR 4 ((s.nx 4).nx 4).abs).toInt)) := by
  intro w b v hok hrd
  have c1 := refInt_obj s
  have c2 := refInt_obj (s.nx 4)
  have c3 := refInt_obj ((s.nx 4).nx 4)
  have h2 := RT.rd_nx 4 hrd
  have h3 := RT.rd_nx 4 h2
  unfold ptV
  generalize sxI (numR 4 ((s.nx 4).nx 4).abs).toInt = z at *
  generalize ((s.nx 4).nx 4).nx 4 = s3 at *
  generalize sxI (numR 4 (s.nx 4).abs).toInt = y at *
  generalize (s.nx 4).nx 4 = s2 at *
  generalize sxI (numR 4 s.abs).toInt = x at *
  generalize s.nx 4 = s1 at *
  refine calls_triO (.p 1000 0) (hok) Try.func55 rfl Try.ntmps55 rfl rfl ?_
  repeat (first | (show Walk1 _ _ _ (_ :: _) _ _; first | (show Walk1 _ _ _ (⟨_, .move _, _, _, _, _⟩ :: _) _ _; refine walk1_t (op_move rfl rfl rfl rfl) ?_) | (show Walk1 _ _ _ (⟨_, .assign _, _, _, _, _⟩ :: _) _ _; refine walk1_t (op_assign rfl rfl rfl rfl) ?_) | (show Walk1 _ _ _ (⟨_, .store _ _ _, _, _, _, _⟩ :: _) _ _; refine walk1_b (op_storesM rfl rfl rfl rfl rfl rfl rfl) ?_) | (show Walk1 _ _ _ (⟨_, .alloc _, _, _, _, _⟩ :: _) _ _; refine walk1_n (op_alloc rfl rfl rfl rfl rfl) (by kernel_rfl) ?_) | (show Walk1 _ _ _ (⟨_, .build _ _, _, _, _, _⟩ :: _) _ _; refine walk1_t (op_buildS rfl rfl rfl rfl) ?_) | (show Walk1 _ _ _ (⟨_, .call ⟨.value (.func 74), _, _⟩, _, _, _, _⟩ :: _) _ _; (refine walk1_callObjR 1003 (c1) rfl rfl rfl rfl (by repeat (first | exact evs_nil | apply evs_cons rfl)) rfl rfl (fun _ => rfl) (s.rd_later) (hrd) ?_)) | (show Walk1 _ _ _ (⟨_, .call ⟨.value (.func 74), _, _⟩, _, _, _, _⟩ :: _) _ _; (refine walk1_callObjR 1003 (c2) rfl rfl rfl rfl (by repeat (first | exact evs_nil | apply evs_cons rfl)) rfl rfl (fun _ => rfl) (s1.rd_later) (h2) ?_)) | (show Walk1 _ _ _ (⟨_, .call ⟨.value (.func 74), _, _⟩, _, _, _, _⟩ :: _) _ _; (refine walk1_callObjR 1003 (c3) rfl rfl rfl rfl (by repeat (first | exact evs_nil | apply evs_cons rfl)) rfl rfl (fun _ => rfl) (s2.rd_later) (h3) ?_))) | refine go1 ?_ | refine end_block_other rfl ?_ | refine end_scope (fun _ h => by cases h) ?_ | (refine walk_endD ?_ ?_; (· kernel_rfl)) | refine tri_yesA rfl ?_ | refine tri_noA rfl ?_ | refine tri_trueA rfl ?_ | refine tri_falseA rfl ?_)
  refine end_ret (.row (.l [.c (.int .i64 x), .c (.int .i64 y), .c (.int .i64 z)])) (res_cells rfl rfl rfl rfl rfl rfl (fun _ => rfl) (fun _ => rfl)) ?_
  exact fin_O rfl rfl (fun _ => rfl)
theorem refEnd_any (a : Option Addr) (n c p : Nat) (e : Int) (w : World) (b : Nat) (hB : Blk w b (rfC (.slice a n c) p e) 125) : Calls Try.prog 56 #[.pointer (some ⟨b, 0, none⟩)] w (RetP w b 125 (rfC (.slice a n c) p e) (.int .i64 (if e = 0 then (if p < n then 5 else 0) else e))) := by
  by_cases he : e = 0
  · subst he
    rw [if_pos rfl]
    by_cases hn : p < n
    · rw [if_pos hn]
      refine calls_triP (b := b) (125) (.l [.c (.slice a n c), SV.c (.int .i64 ((p : Nat) : Int)), .c (.int .i64 0)]) Try.func56 rfl Try.ntmps56 rfl rfl (hB) (fun _ => rfl) ?_
      simp only [rfC] at *
      repeat (first | (show Walk1 _ _ _ (_ :: _) _ _; (show Walk1 _ _ _ (⟨_, .assign _, _, _, _, _⟩ :: _) _ _; refine walk1_t (op_assignN rfl rfl rfl rfl) ?_)) | (show WalkTo _ _ _ _ (_ :: _) _ _ _; first | (show WalkTo _ _ _ _ (⟨_, _, _, _, _, some _⟩ :: _) _ _ _; refine walk_yes rfl rfl (by first | exact decide_eq_true (by omega) | exact decide_eq_false (by omega) | rfl | (show _ = true; with_reducible assumption) | (show _ = false; with_reducible assumption) | (simp <;> fail) | omega) ?_) | (show WalkTo _ _ _ _ (⟨_, .move _, _, _, _, _⟩ :: _) _ _ _; refine walk_t (op_move rfl rfl rfl rfl) ?_) | (show WalkTo _ _ _ _ (⟨_, .binOp .lss _ _ _ _, _, _, _, _⟩ :: _) _ _ _; refine walk_t (op_ltN rfl rfl rfl (by first | exact evN_const rfl | exact rfl) (by first | exact evN_const rfl | exact rfl)) ?_) | (show WalkTo _ _ _ _ (⟨_, .binOp .eql _ _ _ _, _, _, _, _⟩ :: _) _ _ _; refine walk_t (op_eqN rfl rfl rfl (by first | exact evN_const rfl | exact rfl) (by first | exact evN_const rfl | exact rfl)) ?_) | (show WalkTo _ _ _ _ (⟨_, .pick _ _ _, _, _, _, _⟩ :: _) _ _ _; refine walk_t (op_pickY rfl rfl rfl rfl (by first | exact decide_eq_true (by omega) | exact decide_eq_false (by omega) | rfl | (show _ = true; with_reducible assumption) | (show _ = false; with_reducible assumption) | (simp <;> fail) | omega) rfl) ?_) | (show WalkTo _ _ _ _ (⟨_, .load _ _, _, _, _, _⟩ :: _) _ _ _; refine walk_t (op_load rfl rfl rfl rfl rfl rfl rfl) ?_) | (show WalkTo _ _ _ _ (⟨_, .nilCheck _, _, _, _, _⟩ :: _) _ _ _; refine walk_t (op_nilP rfl rfl rfl rfl) ?_) | (show WalkTo _ _ _ _ (⟨_, .fieldAddr _ _ _, _, _, _, _⟩ :: _) _ _ _; refine walk_t (op_fldT rfl rfl rfl rfl rfl rfl off_zero) ?_) | (show WalkTo _ _ _ _ (⟨_, .call ⟨.builtin .len, _, _⟩, _, _, _, _⟩ :: _) _ _ _; refine walk_t (op_lenC rfl rfl rfl) ?_)) | refine go1 ?_ | refine end_block_other rfl ?_ | refine end_scope (fun _ h => by cases h) ?_ | (refine walk_endD ?_ ?_; (· kernel_rfl)) | refine tri_yesA rfl ?_ | refine tri_noA rfl ?_ | refine tri_trueA rfl ?_ | refine tri_falseA rfl ?_)
      refine end_ret _ (res_tmp rfl rfl) ?_
      exact fin_obj rfl rfl (fun _ => rfl) (fun _ => rfl)
    · rw [if_neg hn]
      refine calls_triP (b := b) (125) (.l [.c (.slice a n c), SV.c (.int .i64 ((p : Nat) : Int)), .c (.int .i64 0)]) Try.func56 rfl Try.ntmps56 rfl rfl (hB) (fun _ => rfl) ?_
      simp only [rfC] at *
      repeat (first | (show Walk1 _ _ _ (_ :: _) _ _; first | (show Walk1 _ _ _ (⟨_, .move _, _, _, _, _⟩ :: _) _ _; refine walk1_t (op_move rfl rfl rfl rfl) ?_) | (show Walk1 _ _ _ (⟨_, .assign _, _, _, _, _⟩ :: _) _ _; first | refine walk1_t (op_assignN rfl rfl rfl rfl) ?_ | refine walk1_t (op_assign rfl rfl rfl rfl) ?_) | (show Walk1 _ _ _ (⟨_, .load _ _, _, _, _, _⟩ :: _) _ _; refine walk1_t (op_load rfl rfl rfl rfl rfl rfl rfl) ?_) | (show Walk1 _ _ _ (⟨_, .nilCheck _, _, _, _, _⟩ :: _) _ _; refine walk1_t (op_nilP rfl rfl rfl rfl) ?_) | (show Walk1 _ _ _ (⟨_, .fieldAddr _ _ _, _, _, _, _⟩ :: _) _ _; refine walk1_t (op_fldT rfl rfl rfl rfl rfl rfl off_zero) ?_)) | (show WalkTo _ _ _ _ (_ :: _) _ _ _; first | (show WalkTo _ _ _ _ (⟨_, _, _, _, _, some _⟩ :: _) _ _ _; refine walk_yes rfl rfl (by first | exact decide_eq_true (by omega) | exact decide_eq_false (by omega) | rfl | (show _ = true; with_reducible assumption) | (show _ = false; with_reducible assumption) | (simp <;> fail) | omega) ?_) | (show WalkTo _ _ _ _ (⟨_, .move _, _, _, _, _⟩ :: _) _ _ _; refine walk_t (op_move rfl rfl rfl rfl) ?_) | (show WalkTo _ _ _ _ (⟨_, .binOp .lss _ _ _ _, _, _, _, _⟩ :: _) _ _ _; refine walk_t (op_ltN rfl rfl rfl (by first | exact evN_const rfl | exact rfl) (by first | exact evN_const rfl | exact rfl)) ?_) | (show WalkTo _ _ _ _ (⟨_, .binOp .eql _ _ _ _, _, _, _, _⟩ :: _) _ _ _; refine walk_t (op_eqN rfl rfl rfl (by first | exact evN_const rfl | exact rfl) (by first | exact evN_const rfl | exact rfl)) ?_) | (show WalkTo _ _ _ _ (⟨_, .pick _ _ _, _, _, _, _⟩ :: _) _ _ _; refine walk_t (op_pickY rfl rfl rfl rfl (by first | exact decide_eq_true (by omega) | exact decide_eq_false (by omega) | rfl | (show _ = true; with_reducible assumption) | (show _ = false; with_reducible assumption) | (simp <;> fail) | omega) rfl) ?_) | (show WalkTo _ _ _ _ (⟨_, .load _ _, _, _, _, _⟩ :: _) _ _ _; refine walk_t (op_load rfl rfl rfl rfl rfl rfl rfl) ?_) | (show WalkTo _ _ _ _ (⟨_, .nilCheck _, _, _, _, _⟩ :: _) _ _ _; refine walk_t (op_nilP rfl rfl rfl rfl) ?_) | (show WalkTo _ _ _ _ (⟨_, .fieldAddr _ _ _, _, _, _, _⟩ :: _) _ _ _; refine walk_t (op_fldT rfl rfl rfl rfl rfl rfl off_zero) ?_) | (show WalkTo _ _ _ _ (⟨_, .call ⟨.builtin .len, _, _⟩, _, _, _, _⟩ :: _) _ _ _; refine walk_t (op_lenC rfl rfl rfl) ?_)) | refine go1 ?_ | refine end_block_other rfl ?_ | refine end_scope (fun _ h => by cases h) ?_ | (refine walk_endD ?_ ?_; (· kernel_rfl)) | refine tri_yesA rfl ?_ | refine tri_noA rfl ?_ | refine tri_trueA rfl ?_ | refine tri_falseA rfl ?_)
      refine end_ret _ (res_tmp rfl rfl) ?_
      exact fin_obj rfl rfl (fun _ => rfl) (fun _ => rfl)
  · rw [if_neg he]
    have he1 : decide (e = 0) = false := by simpa using he
    refine calls_triP (b := b) (125) (.l [.c (.slice a n c), SV.c (.int .i64 ((p : Nat) : Int)), .c (.int .i64 e)]) Try.func56 rfl Try.ntmps56 rfl rfl (hB) (fun _ => rfl) ?_
    simp only [rfC] at *
    repeat (first | (show Walk1 _ _ _ (_ :: _) _ _; first | (show Walk1 _ _ _ (⟨_, .move _, _, _, _, _⟩ :: _) _ _; refine walk1_t (op_move rfl rfl rfl rfl) ?_) | (show Walk1 _ _ _ (⟨_, .assign _, _, _, _, _⟩ :: _) _ _; first | refine walk1_t (op_assignN rfl rfl rfl rfl) ?_ | refine walk1_t (op_assign rfl rfl rfl rfl) ?_) | (show Walk1 _ _ _ (⟨_, .load _ _, _, _, _, _⟩ :: _) _ _; refine walk1_t (op_load rfl rfl rfl rfl rfl rfl rfl) ?_) | (show Walk1 _ _ _ (⟨_, .nilCheck _, _, _, _, _⟩ :: _) _ _; refine walk1_t (op_nilP rfl rfl rfl rfl) ?_) | (show Walk1 _ _ _ (⟨_, .fieldAddr _ _ _, _, _, _, _⟩ :: _) _ _; refine walk1_t (op_fldT rfl rfl rfl rfl rfl rfl off_zero) ?_)) | (show WalkTo _ _ _ _ (_ :: _) _ _ _; first | (show WalkTo _ _ _ _ (⟨_, _, _, _, _, some _⟩ :: _) _ _ _; refine walk_no rfl rfl (by first | exact decide_eq_true (by omega) | exact decide_eq_false (by omega) | rfl | (show _ = true; with_reducible assumption) | (show _ = false; with_reducible assumption) | (simp <;> fail) | omega) rfl ?_) | (show WalkTo _ _ _ _ (⟨_, .move _, _, _, _, _⟩ :: _) _ _ _; refine walk_t (op_move rfl rfl rfl rfl) ?_) | (show WalkTo _ _ _ _ (⟨_, .binOp .eql _ _ _ _, _, _, _, _⟩ :: _) _ _ _; refine walk_t (op_eqI rfl rfl rfl rfl rfl) ?_) | (show WalkTo _ _ _ _ (⟨_, .pick _ _ _, _, _, _, _⟩ :: _) _ _ _; refine walk_t (op_pickN rfl rfl rfl rfl (by first | exact decide_eq_true (by omega) | exact decide_eq_false (by omega) | rfl | (show _ = true; with_reducible assumption) | (show _ = false; with_reducible assumption) | (simp <;> fail) | omega) rfl) ?_) | (show WalkTo _ _ _ _ (⟨_, .load _ _, _, _, _, _⟩ :: _) _ _ _; refine walk_t (op_load rfl rfl rfl rfl rfl rfl rfl) ?_) | (show WalkTo _ _ _ _ (⟨_, .nilCheck _, _, _, _, _⟩ :: _) _ _ _; refine walk_t (op_nilP rfl rfl rfl rfl) ?_) | (show WalkTo _ _ _ _ (⟨_, .fieldAddr _ _ _, _, _, _, _⟩ :: _) _ _ _; refine walk_t (op_fldT rfl rfl rfl rfl rfl rfl off_zero) ?_)) | refine go1 ?_ | refine end_block_other rfl ?_ | refine end_scope (fun _ h => by cases h) ?_ | (refine walk_endD ?_ ?_; (· kernel_rfl)) | refine tri_yesA rfl ?_ | refine tri_noA rfl ?_ | refine tri_trueA rfl ?_ | refine tri_falseA rfl ?_)
    refine end_ret _ (res_tmp rfl rfl) ?_
    exact fin_obj rfl rfl (fun _ => rfl) (fun _ => rfl)
theorem refEnd_obj (s : RT) : ObjR rfO s.rd 56 (fun b => #[.pointer (some ⟨b, 0, none⟩)]) s s (.int .i64 (endR s.abs)) := fun w b _ hok hrd => by
  refine rfO_of hok ?_
  obtain ⟨a, c, hv, _⟩ := (hrd.1 w (BelowX.refl _ _)).2
  have hB := hok.1
  have hl : (s.L0.drop s.p).length = s.L0.length - s.p := List.length_drop
  have h1 : endR s.abs = if s.e = 0 then (if s.p < s.L0.length then 5 else 0) else s.e := by
    show (if s.e = 0 then (if 0 < (s.L0.drop s.p).length then (5 : Int) else 0) else s.e) = _
    have : (0 < (s.L0.drop s.p).length) = (s.p < s.L0.length) := by rw [hl]; exact propext ⟨fun h => by omega, fun h => by omega⟩
    simp only [this]
  rw [h1]
  show Calls Try.prog _ _ w (RetP w b _ (rfC s.v s.p s.e) _)
  rw [hv] at hB ⊢
  exact refEnd_any a s.L0.length c s.p s.e w b hB
end Go.Proofs.Ytlhedoodbadmgaa
