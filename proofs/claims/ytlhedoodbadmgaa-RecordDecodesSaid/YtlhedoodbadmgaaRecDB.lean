/- codec's Reader as an object: Num, Int, Err, End; the decoder's uint and point. No condition. The decoder's uint and point, Err and End, by the program. No condition. -/
import Derived.Test.YtlhedoodbadmgaaRecD2
import Derived.Test.YtlhedoodbadmgaaRecQ1
import Derived.Test.YtlhedoodbadmgaaSymAEF
import Derived.Test.YtlhedoodbadmgaaSymYD
namespace Go.Proofs.Ytlhedoodbadmgaa
open Go.RowKit
set_option maxRecDepth 100000
set_option maxHeartbeats 1000000
section
variable {C : Ctx} {ops : Array Oper} {S : St} {o : Oper}
theorem op_cvtBZ {s d : TypeId} {x : Operand} {b : BitVec 64} {ds : TypeDesc} (ho : o.op = .convert s d x) (hg : o.guard = none) (hd : dstB o.dst C.nt = true) (hx : EvB S x .u64 b) (hs' : tabLook undT s = some ds) (hu' : tabLook undT d = some (.int .i64)) :
    OpG C Try.prog ops o S ⟨opT x, [], dw o.dst (.c (.int .i64 b.toInt)), [], []⟩ :=
  op_conv ho hg hd hx.ev hs' hu' (by
    have hb := b.isLt
    unfold bvi
    rw [BitVec.toInt_eq_toNat_cond]
    rcases Nat.lt_or_ge b.toNat 9223372036854775808 with h | h
    · rw [if_pos (by omega)]
      exact wrapI (by omega)
    · rw [if_neg (by omega)]
      rw [IntKind.wrap_i64]; omega)
def sxI (z : Int) : Int := if z < 2147483648 then z else z - 4294967296
theorem op_shlY {ty yt : TypeId} {x y : Operand} {z : Int} {b : Nat} (ho : o.op = .binOp .shl ty x y yt) (hg : o.guard = none) (hd : dstB o.dst C.nt = true) (hx : S.ev x = some (.c (.int .i64 z))) (hy : EvK S y b) (hb : b = 32) (hz : 0 ≤ z ∧ z < 4294967296) : OpG C Try.prog ops o S ⟨opT x ++ opT y, [], dw o.dst (.c (.int .i64 (sxI z * 4294967296))), [], []⟩ := by
  subst hb
  obtain ⟨k, hy⟩ := hy
  refine op_int2 ho hg hd hx hy fun w => ?_
  rw [run_shift.1, show min 32 IntKind.i64.bits = 32 from rfl, show (2 : Int) ^ 32 = 4294967296 from rfl]
  congr 1
  unfold sxI
  split
  · rw [wrapI (by omega)]
  · rw [show IntKind.i64.wrap (z * 4294967296) = (z - 4294967296) * 4294967296 from ?_]
    rw [IntKind.wrap_i64]; omega
end
/-- What a Reader has left, and the error that it keeps. -/
structure RS where
  v : Value
  L : List (BitVec 8)
  e : Int
def RS.abs (s : RS) : RdS := ⟨s.L, s.e⟩
def RS.nx (k : Nat) (s : RS) : RS := if s.e = 0 then (if k ≤ s.L.length then ⟨cutV s.v k (s.L.length - k), s.L.drop k, 0⟩ else ⟨s.v, s.L, 4⟩) else s
theorem RS.nx_abs (k : Nat) (s : RS) : (s.nx k).abs = nextR k s.abs := by
  unfold RS.nx nextR RS.abs
  split <;> first | rfl | (split <;> rfl)
def RS.rd (s : RS) : World → List Nat → Prop := fun w m => FSX w m 1 s.v s.L.length (valsL .u8 s.L)
theorem RS.rd_later (s : RS) : Later s.rd := later_fsx
theorem RS.rd_nx {s : RS} {w : World} {m : List Nat} (k : Nat) (h : s.rd w m) : (s.nx k).rd w m := by
  unfold RS.nx
  split
  · split
    · rename_i h2
      have h1 := FSX.cutB (lo := k) (len := s.L.length - k) h (by omega)
      rw [List.take_of_length_le (by rw [List.length_drop]; omega)] at h1
      have h3 : (s.L.drop k).length = s.L.length - k := List.length_drop
      show FSX w m 1 (cutV s.v k (s.L.length - k)) (s.L.drop k).length (valsL .u8 (s.L.drop k))
      rw [h3]
      exact h1
    · exact h
  · exact h
def rdO : Obj RS where
  ok w b v s := Blk w b (rdC s.v s.e) 143 ∧ ∀ x ∈ vblk v, x < w.heap.size
  loc := fun {w w' b v s} h hok => by
    refine ⟨(h b (.inl rfl)).trans hok.1, fun x hx => ?_⟩
    have h1 := hok.2 x hx
    have h2 : w'.heap[x]? = w.heap[x]? := h x (.inr hx)
    rw [Array.getElem?_eq_getElem h1] at h2
    exact (Array.getElem?_eq_some_iff.1 h2).1
  lt := fun {w b v s x} hok hx => by
    rcases hx with rfl | hx
    · exact (Array.getElem?_eq_some_iff.1 hok.1).1
    · exact hok.2 x hx
theorem rdO_of {w : World} {b j : Nat} {v u : Value} {args : Array Value} {s s' : RS} (hok : rdO.ok w b v s) (h : Calls Try.prog j args w (RetP w b 143 (rdC s'.v s'.e) u)) : Calls Try.prog j args w (RetO rdO w b v s' u) := by
  refine h.mono ?_
  rintro r w' ⟨rfl, hB, hx⟩
  exact ⟨rfl, ⟨hB, fun x hxv => Nat.lt_of_lt_of_le (hok.2 x hxv) hx.size⟩, hx.more fun x hx => by rw [List.mem_singleton.1 hx]; exact List.mem_cons_self⟩
theorem num_obj (k : Nat) (hk1 : 1 ≤ k) (hk8 : k ≤ 8) (s : RS) : ObjR rdO s.rd 49 (fun b => #[.pointer (some ⟨b, 0, none⟩), .int .i64 (k : Int)]) s (s.nx k) (.int .u64 (bvi (numR k s.abs))) := by
  intro w b v hok hrd
  refine rdO_of hok ?_
  have hr : FSX w [b] 1 s.v s.L.length (valsL .u8 s.L) := fun w' hw => hrd w' (hw.more fun x hx => by rw [List.mem_singleton.1 hx]; exact List.mem_cons_self)
  have hc := hr.fs.2
  have hB := hok.1
  by_cases he : s.e = 0
  · by_cases hk : k ≤ s.L.length
    · have h1 := numO_any k hk1 hk8 s.v s.L hk w b (by rw [← he]; exact hB) hr.rdx hc
      have h2 : s.nx k = ⟨cutV s.v k (s.L.length - k), s.L.drop k, 0⟩ := by unfold RS.nx; rw [if_pos he, if_pos hk]
      have h3 : numR k s.abs = rdV k s.L := by unfold numR; exact if_pos ⟨he, hk⟩
      rw [h2, h3]
      exact h1
    · have h1 := numS_any k hk1 hk8 s.v s.L (by omega) w b (by rw [← he]; exact hB) hr.rdx hc
      have h2 : s.nx k = ⟨s.v, s.L, 4⟩ := by unfold RS.nx; rw [if_pos he, if_neg hk]
      have h3 : numR k s.abs = BitVec.ofInt 64 0 := by unfold numR; exact if_neg (fun h => hk h.2)
      rw [h2, h3]
      exact h1
  · have h1 := numE_any k hk1 hk8 s.v s.e he w b hB
    have h2 : s.nx k = s := by unfold RS.nx; exact if_neg he
    have h3 : numR k s.abs = BitVec.ofInt 64 0 := by unfold numR; exact if_neg (fun h => he h.1)
    rw [h2, h3]
    exact h1
theorem numR_lt (k : Nat) (hk8 : k ≤ 8) (a : RdS) : (numR k a).toNat < 256 ^ k := by
  unfold numR
  split
  · rw [(rdV_lt k a.rest hk8).1]; exact (rdV_lt k a.rest hk8).2
  · exact Nat.pow_pos (by omega)
attribute [local irreducible] Calls Walk1 WalkTo Tri EndA
theorem int_obj (s : RS) : ObjR rdO s.rd 71 (fun b => #[.pointer (some ⟨b, 0, none⟩), .int .i64 4]) s (s.nx 4) (.int .i64 (sxI (numR 4 s.abs).toInt)) := by
  intro w b v hok hrd
  have hlt := numR_lt 4 (by omega) s.abs
  have hz : 0 ≤ (numR 4 s.abs).toInt ∧ (numR 4 s.abs).toInt < 4294967296 := by
    rw [BitVec.toInt_eq_toNat_cond]
    have : (numR 4 s.abs).toNat < 4294967296 := hlt
    split <;> omega
  have cn := num_obj 4 (by omega) (by omega) s
  generalize numR 4 s.abs = x at *
  generalize s.nx 4 = s1 at *
  clear hlt
  refine calls_triO (.p 1000 0) (hok) Try.func71 rfl Try.ntmps71 rfl rfl ?_
  repeat (first | (show Walk1 _ _ _ (_ :: _) _ _; first | (show Walk1 _ _ _ (⟨_, _, _, _, _, some _⟩ :: _) _ _; first | refine walk1_yes rfl rfl (by first | exact decide_eq_true (by omega) | exact decide_eq_false (by omega) | rfl | (show _ = true; with_reducible assumption) | (show _ = false; with_reducible assumption) | (simp <;> fail) | omega) ?_ | refine walk1_no rfl rfl (by first | exact decide_eq_true (by omega) | exact decide_eq_false (by omega) | rfl | (show _ = true; with_reducible assumption) | (show _ = false; with_reducible assumption) | (simp <;> fail) | omega) rfl ?_ | refine walk1_no0 rfl rfl (by first | exact decide_eq_true (by omega) | exact decide_eq_false (by omega) | rfl | (show _ = true; with_reducible assumption) | (show _ = false; with_reducible assumption) | (simp <;> fail) | omega) ?_ | refine walk1_noU rfl rfl rfl ?_) | (show Walk1 _ _ _ (⟨_, .move _, _, _, _, _⟩ :: _) _ _; first | refine walk1_t (op_moveN rfl rfl rfl rfl) ?_ | refine walk1_t (op_move rfl rfl rfl rfl) ?_) | (show Walk1 _ _ _ (⟨_, .assign _, _, _, _, _⟩ :: _) _ _; first | refine walk1_t (op_assignN rfl rfl rfl rfl) ?_ | refine walk1_t (op_assign rfl rfl rfl rfl) ?_) | (show Walk1 _ _ _ (⟨_, .binOp .sub _ _ _ _, _, _, _, _⟩ :: _) _ _; first | refine walk1_t (op_subN rfl rfl rfl (by first | exact evN_const rfl | exact rfl) (by first | exact evN_const rfl | exact rfl) (by omega)) ?_ | refine walk1_t (op_subI rfl rfl rfl rfl rfl (by omega)) ?_) | (show Walk1 _ _ _ (⟨_, .binOp .mul _ _ _ _, _, _, _, _⟩ :: _) _ _; first | refine walk1_t (op_mulN rfl rfl rfl (by first | exact evN_const rfl | exact rfl) (by first | exact evN_const rfl | exact rfl) (by omega)) ?_ | refine walk1_t (op_mulI rfl rfl rfl rfl rfl (by omega)) ?_) | (show Walk1 _ _ _ (⟨_, .binOp .lss _ _ _ _, _, _, _, _⟩ :: _) _ _; first | refine walk1_t (op_ltN rfl rfl rfl (by first | exact evN_const rfl | exact rfl) (by first | exact evN_const rfl | exact rfl)) ?_ | refine walk1_t (op_ltI rfl rfl rfl rfl rfl) ?_) | (show Walk1 _ _ _ (⟨_, .binOp .gtr _ _ _ _, _, _, _, _⟩ :: _) _ _; first | refine walk1_t (op_gtN rfl rfl rfl (by first | exact evN_const rfl | exact rfl) (by first | exact evN_const rfl | exact rfl)) ?_ | refine walk1_t (op_gtI rfl rfl rfl rfl rfl) ?_) | (show Walk1 _ _ _ (⟨_, .binOp .shr _ _ _ _, _, _, _, _⟩ :: _) _ _; first | refine walk1_t (op_shrZ rfl rfl rfl rfl (by first | exact evK_const rfl | exact evK_tmp rfl) rfl) ?_ | refine walk1_t (op_shrN rfl rfl rfl (by first | exact evN_const rfl | exact rfl) (by first | exact evK_const rfl | exact evK_tmp rfl) (by omega)) ?_) | (show Walk1 _ _ _ (⟨_, .binOp .shl _ _ _ _, _, _, _, _⟩ :: _) _ _; first | refine walk1_t (op_shlY rfl rfl rfl rfl (by first | exact evK_const rfl | exact evK_tmp rfl) rfl (by omega)) ?_ | refine walk1_t (op_shlN rfl rfl rfl (by first | exact evN_const rfl | exact rfl) (by first | exact evK_const rfl | exact evK_tmp rfl) (by omega) (by omega)) ?_) | (show Walk1 _ _ _ (⟨_, .pick _ _ _, _, _, _, _⟩ :: _) _ _; first | refine walk1_t (op_pickY rfl rfl rfl rfl (by first | exact decide_eq_true (by omega) | exact decide_eq_false (by omega) | rfl | (show _ = true; with_reducible assumption) | (show _ = false; with_reducible assumption) | (simp <;> fail) | omega) rfl) ?_ | refine walk1_t (op_pickN rfl rfl rfl rfl (by first | exact decide_eq_true (by omega) | exact decide_eq_false (by omega) | rfl | (show _ = true; with_reducible assumption) | (show _ = false; with_reducible assumption) | (simp <;> fail) | omega) rfl) ?_) | (show Walk1 _ _ _ (⟨_, .convert _ _ _, _, _, _, _⟩ :: _) _ _; first | refine walk1_t (op_cvtBZ rfl rfl rfl (by (first | exact evB_tmp rfl | exact evB_lit rfl rfl)) rfl rfl) ?_ | refine walk1_t (op_convBN rfl rfl rfl (by (first | exact evB_tmp rfl | exact evB_lit rfl rfl)) rfl rfl (by omega)) ?_ | refine walk1_t (op_cvtBS rfl rfl rfl rfl rfl rfl rfl) ?_ | (first | refine walk1_tb (op_convSelf rfl rfl rfl rfl rfl rfl rfl) ?_ | refine walk1_b (op_convSelf rfl rfl rfl rfl rfl rfl rfl) ?_) | refine walk1_n (op_cvtSB rfl rfl rfl rfl rfl rfl rfl rfl) (by kernel_rfl) ?_) | (show Walk1 _ _ _ (⟨_, .call ⟨.value (.func 49), _, _⟩, _, _, _, _⟩ :: _) _ _; (refine walk1_callObjR 1003 (cn) rfl rfl rfl rfl (by repeat (first | exact evs_nil | apply evs_cons rfl)) rfl rfl (fun _ => rfl) (s.rd_later) (hrd) ?_))) | refine go1 ?_ | refine end_block_other rfl ?_ | refine end_scope (fun _ h => by cases h) ?_ | (refine walk_endD ?_ ?_; (· kernel_rfl)) | refine tri_yesA rfl ?_ | refine tri_noA rfl ?_ | refine tri_trueA rfl ?_ | refine tri_falseA rfl ?_)
  refine end_ret _ (res_tmp rfl rfl) ?_
  exact fin_O rfl rfl (fun _ => rfl)
end Go.Proofs.Ytlhedoodbadmgaa
namespace Go.Proofs.Ytlhedoodbadmgaa
open Go.RowKit
set_option maxRecDepth 100000
set_option maxHeartbeats 1000000
attribute [local irreducible] Calls Walk1 WalkTo Tri EndA
theorem uint_obj (k : Nat) (hk1 : 1 ≤ k) (hk8 : k ≤ 8) (s : RS) : ObjR rdO s.rd 48 (fun b => #[.agg #[.pointer (some ⟨b, 0, none⟩)], .int .i64 (k : Int)]) s (s.nx k) (.int .i64 (numR k s.abs).toInt) := by
  intro w b v hok hrd
  have cn := num_obj k hk1 hk8 s
  generalize numR k s.abs = x at *
  generalize s.nx k = s1 at *
  refine calls_triO (.row (.l [.p 1000 0])) (hok) Try.func48 rfl Try.ntmps48 rfl rfl ?_
  repeat (first | (show Walk1 _ _ _ (_ :: _) _ _; first | (show Walk1 _ _ _ (⟨_, .move _, _, _, _, _⟩ :: _) _ _; first | refine walk1_t (op_moveN rfl rfl rfl rfl) ?_ | refine walk1_t (op_move rfl rfl rfl rfl) ?_) | (show Walk1 _ _ _ (⟨_, .assign _, _, _, _, _⟩ :: _) _ _; first | refine walk1_t (op_assignN rfl rfl rfl rfl) ?_ | refine walk1_t (op_assign rfl rfl rfl rfl) ?_) | (show Walk1 _ _ _ (⟨_, .load _ _, _, _, _, _⟩ :: _) _ _; first | refine walk1_t (op_load rfl rfl rfl rfl rfl rfl rfl) ?_ | refine walk1_t (op_loadV rfl rfl rfl rfl rfl rfl rfl (getV (by first | omega | (simp; omega) | (simp <;> fail) | omega))) ?_ | refine walk1_t (op_loadV rfl rfl rfl rfl rfl rfl rfl (by assumption)) ?_ | refine walk1_t (op_loadF rfl rfl rfl rfl rfl rfl rfl (by first | assumption | exact FS.rd (by first | assumption | exact FSX.fs (by assumption) | (refine FS.cutB (by assumption) ?_; omega) | (refine FS.cut (by assumption) ?_; omega))) (by omega) (getV (by first | omega | (simp; omega) | (simp <;> fail) | omega))) ?_ | refine walk1_t (op_loadF rfl rfl rfl rfl rfl rfl rfl (by first | assumption | exact FS.rd (by first | assumption | exact FSX.fs (by assumption) | (refine FS.cutB (by assumption) ?_; omega) | (refine FS.cut (by assumption) ?_; omega))) (by omega) (by assumption)) ?_ | refine walk1_t (op_loads rfl rfl rfl rfl rfl rfl rfl rfl) ?_ | refine walk1_t (op_loadsM rfl rfl rfl rfl rfl rfl rfl rfl) ?_ | refine walk1_t (op_load rfl rfl rfl rfl rfl rfl rfl (ld_any (by with_reducible assumption))) ?_ | refine walk1_t (op_loadX rfl rfl rfl rfl rfl rfl (by first | assumption | exact FSX.rdx (by assumption) | exact FSX.rdx (FSX.cutB (by assumption) (by omega))) (by omega) (getV (by first | omega | (simp; omega) | (simp <;> fail) | omega))) ?_ | refine walk1_t (op_loadX rfl rfl rfl rfl rfl rfl (by first | assumption | exact FSX.rdx (by assumption) | exact FSX.rdx (FSX.cutB (by assumption) (by omega))) (by omega) (by assumption)) ?_ | refine walk1_t (op_loadsC rfl rfl rfl rfl rfl rfl rfl rfl (sm_c (by assumption)) ag_c) ?_ | refine walk1_t (op_loadsR rfl rfl rfl rfl rfl rfl rfl rfl (by decide) (by first | omega | (simp; omega))) ?_ | refine walk1_t (op_loadsV rfl rfl rfl rfl rfl rfl rfl rfl (by decide) (by first | omega | (simp; omega)) rfl) ?_) | (show Walk1 _ _ _ (⟨_, .box _ _, _, _, _, _⟩ :: _) _ _; refine walk1_n (op_box rfl rfl rfl rfl rfl) (by kernel_rfl) ?_) | (show Walk1 _ _ _ (⟨_, .fieldAddr _ _ _, _, _, _, _⟩ :: _) _ _; first | refine walk1_t (op_fldT rfl rfl rfl rfl rfl rfl off_zero) ?_ | refine walk1_t (op_fldT rfl rfl rfl rfl rfl rfl rfl) ?_) | (show Walk1 _ _ _ (⟨_, .convert _ _ _, _, _, _, _⟩ :: _) _ _; first | refine walk1_t (op_cvtBZ rfl rfl rfl (by (first | exact evB_tmp rfl | exact evB_lit rfl rfl)) rfl rfl) ?_ | refine walk1_t (op_convBN rfl rfl rfl (by (first | exact evB_tmp rfl | exact evB_lit rfl rfl)) rfl rfl (by omega)) ?_ | refine walk1_t (op_cvtBS rfl rfl rfl rfl rfl rfl rfl) ?_ | (first | refine walk1_tb (op_convSelf rfl rfl rfl rfl rfl rfl rfl) ?_ | refine walk1_b (op_convSelf rfl rfl rfl rfl rfl rfl rfl) ?_) | refine walk1_n (op_cvtSB rfl rfl rfl rfl rfl rfl rfl rfl) (by kernel_rfl) ?_) | (show Walk1 _ _ _ (⟨_, .call ⟨.value (.func 49), _, _⟩, _, _, _, _⟩ :: _) _ _; (refine walk1_callObjR 1003 (cn) rfl rfl rfl rfl (by repeat (first | exact evs_nil | apply evs_cons rfl)) rfl rfl (fun _ => rfl) (s.rd_later) (hrd) ?_))) | refine go1 ?_ | refine end_block_other rfl ?_ | refine end_scope (fun _ h => by cases h) ?_ | (refine walk_endD ?_ ?_; (· kernel_rfl)) | refine tri_yesA rfl ?_ | refine tri_noA rfl ?_ | refine tri_trueA rfl ?_ | refine tri_falseA rfl ?_)
  refine end_ret _ (res_tmp rfl rfl) ?_
  exact fin_O rfl rfl (fun _ => rfl)
def ptV (x y z : Int) : Value := .agg #[.int .i64 x, .int .i64 y, .int .i64 z]
theorem point_obj (s : RS) : ObjR rdO s.rd 50 (fun b => #[.agg #[.pointer (some ⟨b, 0, none⟩)]]) s (((s.nx 4).nx 4).nx 4) (ptV (sxI (numR 4 s.abs).toInt) (sxI (numR 4 (s.nx 4).abs).toInt) (sxI (numR 4 ((s.nx 4).nx 4).abs).toInt)) := by
  intro w b v hok hrd
  have c1 := int_obj s
  have c2 := int_obj (s.nx 4)
  have c3 := int_obj ((s.nx 4).nx 4)
  have h2 := RS.rd_nx 4 hrd
  have h3 := RS.rd_nx 4 h2
  unfold ptV
  generalize sxI (numR 4 ((s.nx 4).nx 4).abs).toInt = z at *
  generalize ((s.nx 4).nx 4).nx 4 = s3 at *
  generalize sxI (numR 4 (s.nx 4).abs).toInt = y at *
  generalize (s.nx 4).nx 4 = s2 at *
  generalize sxI (numR 4 s.abs).toInt = x at *
  generalize s.nx 4 = s1 at *
  refine calls_triO (.row (.l [.p 1000 0])) (hok) Try.func50 rfl Try.ntmps50 rfl rfl ?_
  repeat (first | (show Walk1 _ _ _ (_ :: _) _ _; first | (show Walk1 _ _ _ (⟨_, .alloc _, _, _, _, _⟩ :: _) _ _; refine walk1_n (op_alloc rfl rfl rfl rfl rfl) (by kernel_rfl) ?_) | (show Walk1 _ _ _ (⟨_, .box _ _, _, _, _, _⟩ :: _) _ _; refine walk1_n (op_box rfl rfl rfl rfl rfl) (by kernel_rfl) ?_)) | (show WalkTo _ _ _ _ (_ :: _) _ _ _; first | (show WalkTo _ _ _ _ (⟨_, .load _ _, _, _, _, _⟩ :: _) _ _ _; first | refine walk_t (op_load rfl rfl rfl rfl rfl rfl rfl) ?_ | refine walk_t (op_loadV rfl rfl rfl rfl rfl rfl rfl (getV (by first | omega | (simp; omega) | (simp <;> fail) | omega))) ?_ | refine walk_t (op_loadV rfl rfl rfl rfl rfl rfl rfl (by assumption)) ?_ | refine walk_t (op_loadF rfl rfl rfl rfl rfl rfl rfl (by first | assumption | exact FS.rd (by first | assumption | exact FSX.fs (by assumption) | (refine FS.cutB (by assumption) ?_; omega) | (refine FS.cut (by assumption) ?_; omega))) (by omega) (getV (by first | omega | (simp; omega) | (simp <;> fail) | omega))) ?_ | refine walk_t (op_loadF rfl rfl rfl rfl rfl rfl rfl (by first | assumption | exact FS.rd (by first | assumption | exact FSX.fs (by assumption) | (refine FS.cutB (by assumption) ?_; omega) | (refine FS.cut (by assumption) ?_; omega))) (by omega) (by assumption)) ?_ | refine walk_t (op_loads rfl rfl rfl rfl rfl rfl rfl rfl) ?_ | refine walk_t (op_loadsM rfl rfl rfl rfl rfl rfl rfl rfl) ?_ | refine walk_t (op_load rfl rfl rfl rfl rfl rfl rfl (ld_any (by with_reducible assumption))) ?_ | refine walk_t (op_loadX rfl rfl rfl rfl rfl rfl (by first | assumption | exact FSX.rdx (by assumption) | exact FSX.rdx (FSX.cutB (by assumption) (by omega))) (by omega) (getV (by first | omega | (simp; omega) | (simp <;> fail) | omega))) ?_ | refine walk_t (op_loadX rfl rfl rfl rfl rfl rfl (by first | assumption | exact FSX.rdx (by assumption) | exact FSX.rdx (FSX.cutB (by assumption) (by omega))) (by omega) (by assumption)) ?_ | refine walk_t (op_loadsC rfl rfl rfl rfl rfl rfl rfl rfl (sm_c (by assumption)) ag_c) ?_ | refine walk_t (op_loadsR rfl rfl rfl rfl rfl rfl rfl rfl (by decide) (by first | omega | (simp; omega))) ?_ | refine walk_t (op_loadsV rfl rfl rfl rfl rfl rfl rfl rfl (by decide) (by first | omega | (simp; omega)) rfl) ?_) | (show WalkTo _ _ _ _ (⟨_, .store _ _ _, _, _, _, _⟩ :: _) _ _ _; first | refine walk_b (op_store rfl rfl rfl rfl rfl rfl rfl) ?_ | refine walk_b (op_storeO rfl rfl rfl rfl rfl rfl rfl (by first | exact one_own rfl | exact one_osub rfl)) ?_ | refine walk_b (op_storeV rfl rfl rfl rfl rfl rfl rfl rfl rfl (by first | omega | decide) valsL_set) ?_ | refine walk_b (op_storeV rfl rfl rfl rfl rfl rfl rfl rfl rfl (by first | omega | decide) (valsL_setz rfl)) ?_ | refine walk_b (op_stores rfl rfl rfl rfl rfl rfl rfl) ?_ | refine walk_b (op_storesM rfl rfl rfl rfl rfl rfl rfl) ?_) | (show WalkTo _ _ _ _ (⟨_, .fieldAddr _ _ _, _, _, _, _⟩ :: _) _ _ _; first | refine walk_t (op_fldT rfl rfl rfl rfl rfl rfl off_zero) ?_ | refine walk_t (op_fldT rfl rfl rfl rfl rfl rfl rfl) ?_) | (show WalkTo _ _ _ _ (⟨_, .build _ _, _, _, _, _⟩ :: _) _ _ _; first | refine walk_t (op_build0 rfl rfl rfl rfl rfl rfl) ?_ | refine walk_t (op_buildV rfl rfl rfl rfl rfl rfl (by repeat (first | exact evl_nil | (apply evl_cons; (· (first | exact evB_tmp rfl | exact evB_lit rfl rfl))))) rfl) ?_ | refine walk_t (op_buildS rfl rfl rfl rfl) ?_) | (show WalkTo _ _ _ _ (⟨_, .call ⟨.value (.func 71), _, _⟩, _, _, _, _⟩ :: _) _ _ _; (refine walk_callObjR 1003 (c1) rfl rfl rfl rfl (by repeat (first | exact evs_nil | apply evs_cons rfl)) rfl rfl (fun _ => rfl) (s.rd_later) (hrd) ?_)) | (show WalkTo _ _ _ _ (⟨_, .call ⟨.value (.func 71), _, _⟩, _, _, _, _⟩ :: _) _ _ _; (refine walk_callObjR 1003 (c2) rfl rfl rfl rfl (by repeat (first | exact evs_nil | apply evs_cons rfl)) rfl rfl (fun _ => rfl) (s1.rd_later) (h2) ?_)) | (show WalkTo _ _ _ _ (⟨_, .call ⟨.value (.func 71), _, _⟩, _, _, _, _⟩ :: _) _ _ _; (refine walk_callObjR 1003 (c3) rfl rfl rfl rfl (by repeat (first | exact evs_nil | apply evs_cons rfl)) rfl rfl (fun _ => rfl) (s2.rd_later) (h3) ?_))) | refine go1 ?_ | refine end_block_other rfl ?_ | refine end_scope (fun _ h => by cases h) ?_ | (refine walk_endD ?_ ?_; (· kernel_rfl)) | refine tri_yesA rfl ?_ | refine tri_noA rfl ?_ | refine tri_trueA rfl ?_ | refine tri_falseA rfl ?_)

  refine end_ret (.row (.l [.c (.int .i64 x), .c (.int .i64 y), .c (.int .i64 z)])) (res_cells rfl rfl rfl rfl rfl rfl (fun _ => rfl) (fun _ => rfl)) ?_
  exact fin_O rfl rfl (fun _ => rfl)
end Go.Proofs.Ytlhedoodbadmgaa
