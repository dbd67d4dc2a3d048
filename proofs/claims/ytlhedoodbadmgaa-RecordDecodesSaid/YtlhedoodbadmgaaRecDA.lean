/- Bytes read: in plain; a slice cut with its capacity. No condition. codec's Reader: none, Take, Num: walked. No condition. -/
import Derived.Test.YtlhedoodbadmgaaSymSX
import Derived.Test.YtlhedoodbadmgaaPoly1
import Derived.Test.YtlhedoodbadmgaaSymYD
namespace Go.Proofs.Ytlhedoodbadmgaa
open Go.RowKit
set_option maxRecDepth 100000
section
variable {C : Ctx} {ops : Array Oper} {S : St} {o : Oper}
/-- The first bytes of a slice, with no room behind. -/
def cut3 : Value → Nat → Value
  | .slice a _ _, n => .slice a n n
  | v, _ => v
theorem run_cut3 {a : Option Addr} {len cap sz hi : Nat} {T t : TypeId} {k1 k2 : IntKind} (hu' : tabLook undT t = some (.slice T)) (hs' : tabLook sizT T = some sz) (h2 : hi ≤ cap) (w : World) :
    (Instr.sliceAt t (.slice a len cap) none (some (.int k1 ((hi : Nat) : Int))) (some (.int k2 ((hi : Nat) : Int)))).run Try.prog w = .ok (.slice a hi hi) w := by
  have hu := tabAll_look undT_ok hu'
  have e2 : (0 : Int) ≤ (hi : Int) ∧ (hi : Int) ≤ (cap : Int) := by omega
  have ha : (if hi = 0 then a else a.map fun x => x.add 0) = a := by
    split
    · rfl
    · cases a <;> simp [Addr.add]
  simp [Instr.sliceAt, Instr.slice, Instr.sliceBounds, Instr.sliceBound, asIntOf, run_underlying hu, run_sizeT hs', e2, h2, ha]
theorem op_cut3 {t T : TypeId} {sz n hi : Nat} {v : Value} {xs : List Value} {x yh ym : Operand} (ho : o.op = .slice t x none (some yh) (some ym)) (hg : o.guard = none) (hd : dstB o.dst C.nt = true) (hx : S.ev x = some (.c v)) (hu' : tabLook undT t = some (.slice T)) (hs' : tabLook sizT T = some sz) (hh : EvK S yh hi) (hm : EvK S ym hi) (hf : FS C.w0 1 v n xs) (h1 : hi ≤ n) :
    OpG C Try.prog ops o S ⟨opT x ++ (opT yh ++ opT ym), [], dw o.dst (.c (cut3 v hi)), [], []⟩ := by
  obtain ⟨_, a, c, rfl, hc⟩ := hf
  obtain ⟨k1, hh⟩ := hh
  obtain ⟨k2, hm⟩ := hm
  refine opG_mk hg fun S' g1 g2 _ e aa w hS => ?_
  have e0 : aa.eval x = .slice a n c := hS.ev ((ev_like g1 fun _ h => List.mem_append_left _ h).trans hx)
  have e1 : aa.eval yh = .int k1 ((hi : Nat) : Int) := hS.ev ((ev_like g1 fun _ h => List.mem_append_right _ (List.mem_append_left _ h)).trans hh)
  have e2 : aa.eval ym = .int k2 ((hi : Nat) : Int) := hS.ev ((ev_like g1 fun _ h => List.mem_append_right _ (List.mem_append_right _ h)).trans hm)
  have hrun := run_cut3 (a := a) (len := n) (cap := c) (hi := hi) (k1 := k1) (k2 := k2) hu' hs' (by omega) w
  refine wp_value (v := .slice a hi hi) (w' := w) ?_ ⟨e, hS.put hd (.c (.slice a hi hi))⟩
  simp only [execOp, ho, e0, e1, e2, Option.map_none, Option.map_some, Sem.run_bind, hrun, Result.andThen_ok, Sem.run_pure]
end
theorem FS.cut3 {w : World} {v : Value} {n : Nat} {L : List (BitVec 8)} (h : FS w 1 v n (valsL .u8 L)) {k : Nat} (hk : k ≤ n) : FS w 1 (cut3 v k) k (valsL .u8 (L.take k)) := by
  obtain ⟨⟨hl, a, c, rfl, hr⟩, _⟩ := h
  rw [valsL_length, Nat.mul_one] at hl
  refine ⟨⟨by rw [valsL_length, List.length_take]; omega, a, k, rfl, ?_⟩, a, k, rfl, Nat.le_refl _⟩
  rcases hr with h0 | ⟨b, off, rfl, hr⟩
  · left; omega
  · refine .inr ⟨b, off, rfl, fun j u hu => hr j u ?_⟩
    rw [valsL, List.map_take, List.getElem?_take] at hu
    split at hu
    · exact hu
    · cases hu
/-- A number of some bytes, the least first. -/
def rdV (k : Nat) (L : List (BitVec 8)) : BitVec 64 := BitVec.ofNat 64 (leN (L.take k))
/-- What is left to read, and the error that was kept. -/
structure RdS where
  rest : List (BitVec 8)
  e : Int
def numR (k : Nat) (s : RdS) : BitVec 64 := if s.e = 0 ∧ k ≤ s.rest.length then rdV k s.rest else 0
def nextR (k : Nat) (s : RdS) : RdS := if s.e = 0 then (if k ≤ s.rest.length then ⟨s.rest.drop k, 0⟩ else ⟨s.rest, 4⟩) else s
theorem rdV_lt (k : Nat) (L : List (BitVec 8)) (hk : k ≤ 8) : (rdV k L).toNat = leN (L.take k) ∧ leN (L.take k) < 256 ^ k := by
  have h1 := leN_lt (L.take k)
  have h2 : (L.take k).length ≤ k := by rw [List.length_take]; omega
  have h3 : 256 ^ (L.take k).length ≤ 256 ^ k := Nat.pow_le_pow_right (by omega) h2
  have h4 : 256 ^ k ≤ 256 ^ 8 := Nat.pow_le_pow_right (by omega) hk
  refine ⟨?_, by omega⟩
  rw [rdV, BitVec.toNat_ofNat, Nat.mod_eq_of_lt]
  have : (256 : Nat) ^ 8 = 2 ^ 64 := by decide
  omega
end Go.Proofs.Ytlhedoodbadmgaa
namespace Go.Proofs.Ytlhedoodbadmgaa
open Go.RowKit
set_option maxRecDepth 100000
set_option maxHeartbeats 1000000
theorem FSX.cut3 {w : World} {m : List Nat} {v : Value} {n : Nat} {L : List (BitVec 8)} (h : FSX w m 1 v n (valsL .u8 L)) {k : Nat} (hk : k ≤ n) : FSX w m 1 (Go.Proofs.Ytlhedoodbadmgaa.cut3 v k) k (valsL .u8 (L.take k)) := fun w' hw => FS.cut3 (h w' hw) hk
theorem rdV_num8 (k : Nat) (L : List (BitVec 8)) (hk : k ≤ 8) (hl : k ≤ L.length) : num8 L k = rdV k L := by
  apply BitVec.eq_of_toNat_eq
  rw [num8_nat L k hk hl, (rdV_lt k L hk).1]
def rdC (v : Value) (e : Int) : Array Value := #[v, .int .i64 e, .bool true]
attribute [local irreducible] Calls Walk1 WalkTo Tri EndA
theorem rdNone_any (v : Value) (e : Int) (w : World) (b : Nat) (hB : Blk w b (rdC v e) 143) : Calls Try.prog 72 #[.pointer (some ⟨b, 0, none⟩)] w (RetP w b 143 (rdC v e) (.bool false)) := by
  refine calls_triP (b := b) (143) (.l [.c v, .c (.int .i64 e), .c (.bool true)]) Try.func72 rfl Try.ntmps72 rfl rfl (hB) (fun _ => rfl) ?_
  simp only [rdC]
  repeat (first | (show Walk1 _ _ _ (_ :: _) _ _; first | (show Walk1 _ _ _ (⟨_, _, _, _, _, some _⟩ :: _) _ _; refine walk1_yes rfl rfl (by first | exact decide_eq_true (by omega) | exact decide_eq_false (by omega) | rfl | (show _ = true; with_reducible assumption) | (show _ = false; with_reducible assumption) | (simp <;> fail) | omega) ?_) | (show Walk1 _ _ _ (⟨_, .move _, _, _, _, _⟩ :: _) _ _; refine walk1_t (op_move rfl rfl rfl rfl) ?_) | (show Walk1 _ _ _ (⟨_, .assign _, _, _, _, _⟩ :: _) _ _; refine walk1_t (op_assign rfl rfl rfl rfl) ?_) | (show Walk1 _ _ _ (⟨_, .binOp .eql _ _ _ _, _, _, _, _⟩ :: _) _ _; refine walk1_t (op_eqNil rfl rfl rfl rfl rfl rfl) ?_) | (show Walk1 _ _ _ (⟨_, .pick _ _ _, _, _, _, _⟩ :: _) _ _; refine walk1_t (op_pickN rfl rfl rfl rfl (by first | exact decide_eq_true (by omega) | exact decide_eq_false (by omega) | rfl | (show _ = true; with_reducible assumption) | (show _ = false; with_reducible assumption) | (simp <;> fail) | omega) rfl) ?_) | (show Walk1 _ _ _ (⟨_, .unOp _ _ _, _, _, _, _⟩ :: _) _ _; refine walk1_t (op_not rfl rfl rfl rfl) ?_) | (show Walk1 _ _ _ (⟨_, .load _ _, _, _, _, _⟩ :: _) _ _; refine walk1_t (op_load rfl rfl rfl rfl rfl rfl rfl) ?_) | (show Walk1 _ _ _ (⟨_, .nilCheck _, _, _, _, _⟩ :: _) _ _; refine walk1_t (op_nilP rfl rfl rfl rfl) ?_) | (show Walk1 _ _ _ (⟨_, .fieldAddr _ _ _, _, _, _, _⟩ :: _) _ _; refine walk1_t (op_fldT rfl rfl rfl rfl rfl rfl off_zero) ?_)) | refine go1 ?_ | refine end_block_other rfl ?_ | refine end_scope (fun _ h => by cases h) ?_ | (refine walk_endD ?_ ?_; (· kernel_rfl)) | refine tri_yesA rfl ?_ | refine tri_noA rfl ?_ | refine tri_trueA rfl ?_ | refine tri_falseA rfl ?_)
  refine end_ret (.c (.bool false)) (res_tmp rfl rfl) ?_
  exact fin_obj rfl rfl (fun _ => rfl) (fun _ => rfl)
theorem takeE_any (k : Nat) (v : Value) (e : Int) (he : e ≠ 0) (w : World) (b : Nat) (hB : Blk w b (rdC v e) 143) : Calls Try.prog 52 #[.pointer (some ⟨b, 0, none⟩), .int .i64 (k : Int)] w (RetP w b 143 (rdC v e) (.slice none 0 0)) := by
  have cn := fun w b h => rdNone_any v e w b h
  have he1 : decide (e = 0) = false := by simpa using he
  refine calls_triP (b := b) (143) (.l [.c v, .c (.int .i64 e), .c (.bool true)]) Try.func52 rfl Try.ntmps52 rfl rfl (hB) (fun _ => rfl) ?_
  simp only [rdC] at *
  repeat (first | (show Walk1 _ _ _ (_ :: _) _ _; first | (show Walk1 _ _ _ (⟨_, _, _, _, _, some _⟩ :: _) _ _; refine walk1_yes rfl rfl (by first | exact decide_eq_true (by omega) | exact decide_eq_false (by omega) | rfl | (show _ = true; with_reducible assumption) | (show _ = false; with_reducible assumption) | (simp <;> fail) | omega) ?_) | (show Walk1 _ _ _ (⟨_, .move _, _, _, _, _⟩ :: _) _ _; refine walk1_t (op_move rfl rfl rfl rfl) ?_) | (show Walk1 _ _ _ (⟨_, .assign _, _, _, _, _⟩ :: _) _ _; refine walk1_t (op_assign rfl rfl rfl rfl) ?_) | (show Walk1 _ _ _ (⟨_, .binOp .neq _ _ _ _, _, _, _, _⟩ :: _) _ _; refine walk1_t (op_neI rfl rfl rfl rfl rfl) ?_) | (show Walk1 _ _ _ (⟨_, .pick _ _ _, _, _, _, _⟩ :: _) _ _; refine walk1_t (op_pickN rfl rfl rfl rfl (by first | exact decide_eq_true (by omega) | exact decide_eq_false (by omega) | rfl | (show _ = true; with_reducible assumption) | (show _ = false; with_reducible assumption) | (simp <;> fail) | omega) rfl) ?_) | (show Walk1 _ _ _ (⟨_, .load _ _, _, _, _, _⟩ :: _) _ _; refine walk1_t (op_load rfl rfl rfl rfl rfl rfl rfl) ?_) | (show Walk1 _ _ _ (⟨_, .nilCheck _, _, _, _, _⟩ :: _) _ _; refine walk1_t (op_nilP rfl rfl rfl rfl) ?_) | (show Walk1 _ _ _ (⟨_, .fieldAddr _ _ _, _, _, _, _⟩ :: _) _ _; refine walk1_t (op_fldT rfl rfl rfl rfl rfl rfl off_zero) ?_) | (show Walk1 _ _ _ (⟨_, .call ⟨.value (.func 72), _, _⟩, _, _, _, _⟩ :: _) _ _; ((first | refine walk1_callP (.l [.c v, .c (.int .i64 e), .c (.bool true)]) rfl rfl rfl rfl (by repeat (first | exact evs_nil | apply evs_cons rfl)) rfl rfl rfl ?_ | refine walk1_callP0 (.l [.c v, .c (.int .i64 e), .c (.bool true)]) rfl rfl rfl (by repeat (first | exact evs_nil | apply evs_cons rfl)) rfl rfl rfl ?_); refine ⟨_, _, _, callP_0 (cells0 := #[v, .int .i64 e, .bool true]) rfl (fun _ => rfl) (fun e w h => cn w _ h), (fun _ => rfl), ?_⟩))) | refine go1 ?_ | refine end_block_other rfl ?_ | refine end_scope (fun _ h => by cases h) ?_ | (refine walk_endD ?_ ?_; (· kernel_rfl)) | refine tri_yesA rfl ?_ | refine tri_noA rfl ?_ | refine tri_trueA rfl ?_ | refine tri_falseA rfl ?_)
  refine end_ret (.c (.slice none 0 0)) (res_tmp rfl rfl) ?_
  exact fin_obj rfl rfl (fun _ => rfl) (fun _ => rfl)
theorem takeS_any (k : Nat) (v : Value) (L : List (BitVec 8)) (hk : L.length < k) (w : World) (b : Nat) (hB : Blk w b (rdC v 0) 143) (hr : RdX w [b] 1 v L.length (valsL .u8 L)) (hc : ∃ a c, v = .slice a L.length c ∧ L.length ≤ c) : Calls Try.prog 52 #[.pointer (some ⟨b, 0, none⟩), .int .i64 (k : Int)] w (RetP w b 143 (rdC v 4) (.slice none 0 0)) := by
  have cn := fun w b h => rdNone_any v 0 w b h
  have hv : FSX w [b] 1 v L.length (valsL .u8 L) := fun w' hw => ⟨hr w' hw, hc⟩
  have hfs := hv.fs
  clear hr hc
  generalize L.length = n at *
  refine calls_triP (b := b) (143) (.l [.c v, .c (.int .i64 0), .c (.bool true)]) Try.func52 rfl Try.ntmps52 rfl rfl (hB) (fun _ => rfl) ?_
  simp only [rdC] at *
  repeat (first | (show Walk1 _ _ _ (_ :: _) _ _; first | (show Walk1 _ _ _ (⟨_, _, _, _, _, some _⟩ :: _) _ _; refine walk1_yes rfl rfl (by first | exact decide_eq_true (by omega) | exact decide_eq_false (by omega) | rfl | (show _ = true; with_reducible assumption) | (show _ = false; with_reducible assumption) | (simp <;> fail) | omega) ?_) | (show Walk1 _ _ _ (⟨_, .move _, _, _, _, _⟩ :: _) _ _; refine walk1_t (op_move rfl rfl rfl rfl) ?_) | (show Walk1 _ _ _ (⟨_, .assign _, _, _, _, _⟩ :: _) _ _; refine walk1_t (op_assign rfl rfl rfl rfl) ?_) | (show Walk1 _ _ _ (⟨_, .binOp .lss _ _ _ _, _, _, _, _⟩ :: _) _ _; refine walk1_t (op_ltN rfl rfl rfl (by first | exact evN_const rfl | exact rfl) (by first | exact evN_const rfl | exact rfl)) ?_) | (show Walk1 _ _ _ (⟨_, .binOp .gtr _ _ _ _, _, _, _, _⟩ :: _) _ _; refine walk1_t (op_gtN rfl rfl rfl (by first | exact evN_const rfl | exact rfl) (by first | exact evN_const rfl | exact rfl)) ?_) | (show Walk1 _ _ _ (⟨_, .binOp .neq _ _ _ _, _, _, _, _⟩ :: _) _ _; refine walk1_t (op_neN rfl rfl rfl (by first | exact evN_const rfl | exact rfl) (by first | exact evN_const rfl | exact rfl)) ?_) | (show Walk1 _ _ _ (⟨_, .pick _ _ _, _, _, _, _⟩ :: _) _ _; refine walk1_t (op_pickN rfl rfl rfl rfl (by first | exact decide_eq_true (by omega) | exact decide_eq_false (by omega) | rfl | (show _ = true; with_reducible assumption) | (show _ = false; with_reducible assumption) | (simp <;> fail) | omega) rfl) ?_) | (show Walk1 _ _ _ (⟨_, .load _ _, _, _, _, _⟩ :: _) _ _; refine walk1_t (op_load rfl rfl rfl rfl rfl rfl rfl) ?_) | (show Walk1 _ _ _ (⟨_, .store _ _ _, _, _, _, _⟩ :: _) _ _; refine walk1_b (op_store rfl rfl rfl rfl rfl rfl rfl) ?_) | (show Walk1 _ _ _ (⟨_, .nilCheck _, _, _, _, _⟩ :: _) _ _; refine walk1_t (op_nilP rfl rfl rfl rfl) ?_) | (show Walk1 _ _ _ (⟨_, .fieldAddr _ _ _, _, _, _, _⟩ :: _) _ _; refine walk1_t (op_fldT rfl rfl rfl rfl rfl rfl off_zero) ?_) | (show Walk1 _ _ _ (⟨_, .call ⟨.builtin .len, _, _⟩, _, _, _, _⟩ :: _) _ _; refine walk1_t (op_lenF rfl rfl rfl (by first | assumption | exact FS.rd (by first | assumption | exact FSX.fs (by assumption) | (refine FS.cutB (by assumption) ?_; omega) | (refine FS.cut (by assumption) ?_; omega)))) ?_) | (show Walk1 _ _ _ (⟨_, .call ⟨.value (.func 72), _, _⟩, _, _, _, _⟩ :: _) _ _; ((first | refine walk1_callP (.l [.c v, .c (.int .i64 0), .c (.bool true)]) rfl rfl rfl rfl (by repeat (first | exact evs_nil | apply evs_cons rfl)) rfl rfl rfl ?_ | refine walk1_callP0 (.l [.c v, .c (.int .i64 0), .c (.bool true)]) rfl rfl rfl (by repeat (first | exact evs_nil | apply evs_cons rfl)) rfl rfl rfl ?_); refine ⟨_, _, _, callP_0 (cells0 := #[v, .int .i64 0, .bool true]) rfl (fun _ => rfl) (fun e w h => cn w _ h), (fun _ => rfl), ?_⟩))) | refine go1 ?_ | refine end_block_other rfl ?_ | refine end_scope (fun _ h => by cases h) ?_ | (refine walk_endD ?_ ?_; (· kernel_rfl)) | refine tri_yesA rfl ?_ | refine tri_noA rfl ?_ | refine tri_trueA rfl ?_ | refine tri_falseA rfl ?_)
  refine end_ret (.c (.slice none 0 0)) (res_tmp rfl rfl) ?_
  exact fin_obj rfl rfl (fun _ => rfl) (fun _ => rfl)
theorem takeO_any (k : Nat) (v : Value) (L : List (BitVec 8)) (hk : k ≤ L.length) (w : World) (b : Nat) (hB : Blk w b (rdC v 0) 143) (hr : RdX w [b] 1 v L.length (valsL .u8 L)) (hc : ∃ a c, v = .slice a L.length c ∧ L.length ≤ c) : Calls Try.prog 52 #[.pointer (some ⟨b, 0, none⟩), .int .i64 (k : Int)] w (RetP w b 143 (rdC (cutV v k (L.length - k)) 0) (cut3 v k)) := by
  have cn := fun v w b h => rdNone_any v 0 w b h
  have hv : FSX w [b] 1 v L.length (valsL .u8 L) := fun w' hw => ⟨hr w' hw, hc⟩
  have hfs := hv.fs
  clear hr
  generalize L.length = n at *
  obtain ⟨a, c, rfl, _⟩ := hc
  refine calls_triP (b := b) (143) (.l [.c (.slice a n c), .c (.int .i64 0), .c (.bool true)]) Try.func52 rfl Try.ntmps52 rfl rfl (hB) (fun _ => rfl) ?_
  simp only [rdC] at *
  repeat (first | (show Walk1 _ _ _ (_ :: _) _ _; first | (show Walk1 _ _ _ (⟨_, _, _, _, _, some _⟩ :: _) _ _; refine walk1_yes rfl rfl (by first | exact decide_eq_true (by omega) | exact decide_eq_false (by omega) | rfl | (show _ = true; with_reducible assumption) | (show _ = false; with_reducible assumption) | (simp <;> fail) | omega) ?_) | (show Walk1 _ _ _ (⟨_, .move _, _, _, _, _⟩ :: _) _ _; refine walk1_t (op_move rfl rfl rfl rfl) ?_) | (show Walk1 _ _ _ (⟨_, .assign _, _, _, _, _⟩ :: _) _ _; refine walk1_t (op_assign rfl rfl rfl rfl) ?_) | (show Walk1 _ _ _ (⟨_, .binOp .lss _ _ _ _, _, _, _, _⟩ :: _) _ _; refine walk1_t (op_ltN rfl rfl rfl (by first | exact evN_const rfl | exact rfl) (by first | exact evN_const rfl | exact rfl)) ?_) | (show Walk1 _ _ _ (⟨_, .binOp .gtr _ _ _ _, _, _, _, _⟩ :: _) _ _; refine walk1_t (op_gtN rfl rfl rfl (by first | exact evN_const rfl | exact rfl) (by first | exact evN_const rfl | exact rfl)) ?_) | (show Walk1 _ _ _ (⟨_, .binOp .neq _ _ _ _, _, _, _, _⟩ :: _) _ _; refine walk1_t (op_neN rfl rfl rfl (by first | exact evN_const rfl | exact rfl) (by first | exact evN_const rfl | exact rfl)) ?_) | (show Walk1 _ _ _ (⟨_, .pick _ _ _, _, _, _, _⟩ :: _) _ _; refine walk1_t (op_pickN rfl rfl rfl rfl (by first | exact decide_eq_true (by omega) | exact decide_eq_false (by omega) | rfl | (show _ = true; with_reducible assumption) | (show _ = false; with_reducible assumption) | (simp <;> fail) | omega) rfl) ?_) | (show Walk1 _ _ _ (⟨_, .load _ _, _, _, _, _⟩ :: _) _ _; refine walk1_t (op_load rfl rfl rfl rfl rfl rfl rfl) ?_) | (show Walk1 _ _ _ (⟨_, .store _ _ _, _, _, _, _⟩ :: _) _ _; refine walk1_b (op_store rfl rfl rfl rfl rfl rfl rfl) ?_) | (show Walk1 _ _ _ (⟨_, .nilCheck _, _, _, _, _⟩ :: _) _ _; refine walk1_t (op_nilP rfl rfl rfl rfl) ?_) | (show Walk1 _ _ _ (⟨_, .fieldAddr _ _ _, _, _, _, _⟩ :: _) _ _; refine walk1_t (op_fldT rfl rfl rfl rfl rfl rfl off_zero) ?_) | (show Walk1 _ _ _ (⟨_, .call ⟨.builtin .len, _, _⟩, _, _, _, _⟩ :: _) _ _; refine walk1_t (op_lenC rfl rfl rfl) ?_) | (show Walk1 _ _ _ (⟨_, .slice _ _ _ _ _, _, _, _, _⟩ :: _) _ _; first | refine walk1_t (op_cut3 rfl rfl rfl rfl rfl rfl (by first | exact evK_const rfl | exact evK_tmp rfl) (by first | exact evK_const rfl | exact evK_tmp rfl) (by first | assumption | exact FSX.fs (by assumption) | (refine FS.cutB (by assumption) ?_; omega) | (refine FS.cut (by assumption) ?_; omega)) (by first | omega | decide)) ?_ | refine walk1_t (op_cutF rfl rfl rfl rfl rfl rfl) ?_) | (show Walk1 _ _ _ (⟨_, .call ⟨.value (.func 72), _, _⟩, _, _, _, _⟩ :: _) _ _; ((first | refine walk1_callP (.l [.c (.slice a n c), .c (.int .i64 0), .c (.bool true)]) rfl rfl rfl rfl (by repeat (first | exact evs_nil | apply evs_cons rfl)) rfl rfl rfl ?_ | refine walk1_callP0 (.l [.c (.slice a n c), .c (.int .i64 0), .c (.bool true)]) rfl rfl rfl (by repeat (first | exact evs_nil | apply evs_cons rfl)) rfl rfl rfl ?_); refine ⟨_, _, _, callP_0 (cells0 := #[.slice a n c, .int .i64 0, .bool true]) rfl (fun _ => rfl) (fun e w h => cn _ w _ h), (fun _ => rfl), ?_⟩))) | refine go1 ?_ | refine end_block_other rfl ?_ | refine end_scope (fun _ h => by cases h) ?_ | (refine walk_endD ?_ ?_; (· kernel_rfl)) | refine tri_yesA rfl ?_ | refine tri_noA rfl ?_ | refine tri_trueA rfl ?_ | refine tri_falseA rfl ?_)
  refine end_ret (.c (cut3 (.slice a n c) k)) (res_tmp rfl rfl) ?_
  exact fin_obj rfl rfl (fun _ => rfl) (fun _ => rfl)
end Go.Proofs.Ytlhedoodbadmgaa
