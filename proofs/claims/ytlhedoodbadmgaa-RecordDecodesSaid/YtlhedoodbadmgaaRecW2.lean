/- A record's writer: walked. No condition. -/
import Derived.Test.YtlhedoodbadmgaaRecW0
import Derived.Test.YtlhedoodbadmgaaRecQ3
import Derived.Test.YtlhedoodbadmgaaSymYD
namespace Go.Proofs.Ytlhedoodbadmgaa
open Go.RowKit
set_option maxRecDepth 100000
set_option maxHeartbeats 2000000
def wrC (v : Value) : Array Value := #[v]
def wrK (B : List (BitVec 8)) : World → Value → Prop := ownK 5 1 B.length (valsL .u8 B)
def sgW (zs : List Int) : List (BitVec 64) := zs.map fun z => BitVec.ofInt 64 z
theorem sgW_take (zs : List Int) (j : Nat) (z : Int) (h : zs[j]? = some z) : sgW (zs.take (j + 1)) = sgW (zs.take j) ++ [BitVec.ofInt 64 z] := by
  unfold sgW
  rw [List.take_add_one, h, List.map_append]
  rfl
attribute [local irreducible] Calls Walk1 WalkTo Tri EndA
theorem wrPut_any (k : Nat) (hk1 : 1 ≤ k) (hk8 : k ≤ 8) (B : List (BitVec 8)) (zs : List Int) (hf : fitW k (sgW zs)) (hB : B.length ≤ 2000) (hl : zs.length ≤ 100) (v2 : Value) (w : World) (b : Nat) (v : Value) (hB0 : Blk w b (wrC v) 104) (hK : wrK B w v) (hne : v.ownBlock ≠ some b) (hv2 : RdX w (b :: v.ownBlock.toList) 1 v2 zs.length (zs.map (.int .i64))) :
    Calls Try.prog 37 #[.pointer (some ⟨b, 0, none⟩), .int .i64 (k : Int), v2] w (RetPL w b v.ownBlock 104 wrC (wrK (B ++ putW k (sgW zs))) (.tuple #[])) := by
  have cp := fun (j : Nat) (z : Int) (hz : zs[j]? = some z) (vb v : Value) (w : World) h h2 => putG_any k hk1 hk8 vb (B ++ putW k (sgW (zs.take j))) v [BitVec.ofInt 64 z] (fun x hx => by
    rw [List.mem_singleton] at hx
    rw [hx]
    exact hf _ (List.mem_map.2 ⟨z, List.mem_of_getElem? hz, rfl⟩)) w h (by
      rw [List.length_append, putW_length, sgW, List.length_map, List.length_take]
      have : k * min j zs.length ≤ 8 * 100 := Nat.mul_le_mul hk8 (by omega)
      omega) h2 (by simp)
  have hrd2 := hv2.rd
  have hp0 : B ++ putW k (sgW (zs.take 0)) = B := by simp [sgW, putW]
  unfold wrK at *
  refine calls_triL (b := b) (104) (SA.l [SV.v 1002]) Try.func37 rfl Try.ntmps37 rfl rfl (hB0) (fun _ => rfl) isOwn_own hK hne ?_
  repeat (first | (show Walk1 _ _ _ (_ :: _) _ _; first | (show Walk1 _ _ _ (⟨_, .move _, _, _, _, _⟩ :: _) _ _; first | refine walk1_t (op_moveN rfl rfl rfl rfl) ?_ | refine walk1_t (op_move rfl rfl rfl rfl) ?_) | (show Walk1 _ _ _ (⟨_, .call ⟨.builtin .len, _, _⟩, _, _, _, _⟩ :: _) _ _; refine walk1_t (op_lenF rfl rfl rfl (by first | assumption | exact FS.rd (by first | assumption | exact FSX.fs (by assumption) | (refine FS.cutB (by assumption) ?_; omega) | (refine FS.cut (by assumption) ?_; omega)))) ?_)) | refine go1 ?_ | refine end_block_other rfl ?_ | refine end_scope (fun _ h => by cases h) ?_ | (refine walk_endD ?_ ?_; (· kernel_rfl)) | refine tri_yesA rfl ?_ | refine tri_noA rfl ?_ | refine tri_trueA rfl ?_ | refine tri_falseA rfl ?_)
  refine tri_loop (X := Nat) (fun j => ⟨[(10, SV.c (.int .i64 ((j : Nat) : Int))), (9, SV.c (.int .i64 ((zs.length : Nat) : Int))), (8, .c v2), (0, .p 1000 0), (1, .c (.int .i64 (k : Int)))], [(1000, some (.blk 1000 104 (SA.l [SV.v 1002]))), (1001, some (.is 1000 b)), (1002, some (.own 1002 5 1 (B ++ putW k (sgW (zs.take j))).length (valsL .u8 (B ++ putW k (sgW (zs.take j))))))]⟩)
    (fun j => j ≤ zs.length) (fun j => zs.length - j) 0 (by omega) (by rw [hp0]; exact ent_keep (by repeat (first | exact hasT_nil | refine hasT_cons rfl ?_ | refine hasT_eq rfl (svi (by omega)) ?_)) (by repeat (first | exact hasR_nil | refine hasR_cons rfl ?_))) ?_
  intro j hj K next
  by_cases h : j < zs.length
  · obtain ⟨z, hzj⟩ : ∃ z, zs[j]? = some z := ⟨_, List.getElem?_eq_getElem h⟩
    have hzm : (zs.map (Value.int .i64))[j]? = some (.int .i64 z) := by rw [List.getElem?_map, hzj]; rfl
    have cp1 := fun vb v w h h2 => cp j z hzj vb v w h h2
    have hst : B ++ putW k (sgW (zs.take (j + 1))) = (B ++ putW k (sgW (zs.take j))) ++ putW k [BitVec.ofInt 64 z] := by rw [sgW_take zs j z hzj, putW_app, List.append_assoc]
    have nx := fun S' => next S' (j + 1)
    rw [hst] at nx
    clear next cp hst hp0
    generalize B ++ putW k (sgW (zs.take j)) = P at *
    generalize hQ : P ++ putW k [BitVec.ofInt 64 z] = Q at *
    repeat (first | (show Walk1 _ _ _ (_ :: _) _ _; first | (show Walk1 _ _ _ (⟨_, .move _, _, _, _, _⟩ :: _) _ _; refine walk1_t (op_move rfl rfl rfl rfl) ?_) | (show Walk1 _ _ _ (⟨_, .assign _, _, _, _, _⟩ :: _) _ _; refine walk1_t (op_assign rfl rfl rfl rfl) ?_) | (show Walk1 _ _ _ (⟨_, .binOp .add _ _ _ _, _, _, _, _⟩ :: _) _ _; refine walk1_t (op_addN rfl rfl rfl (by first | exact evN_const rfl | exact rfl) (by first | exact evN_const rfl | exact rfl) (by omega)) ?_) | (show Walk1 _ _ _ (⟨_, .binOp .lss _ _ _ _, _, _, _, _⟩ :: _) _ _; refine walk1_t (op_ltN rfl rfl rfl (by first | exact evN_const rfl | exact rfl) (by first | exact evN_const rfl | exact rfl)) ?_) | (show Walk1 _ _ _ (⟨_, .indexAddr _ _ _, _, _, _, _⟩ :: _) _ _; refine walk1_t (op_idxF rfl rfl rfl rfl (by first | exact evK_const rfl | exact evK_tmp rfl) rfl rfl (by first | assumption | exact FS.rd (by first | assumption | exact FSX.fs (by assumption) | (refine FS.cutB (by assumption) ?_; omega) | (refine FS.cut (by assumption) ?_; omega))) (by first | omega | decide) off_one) ?_) | (show Walk1 _ _ _ (⟨_, .load _ _, _, _, _, _⟩ :: _) _ _; first | refine walk1_t (op_load rfl rfl rfl rfl rfl rfl rfl) ?_ | refine walk1_t (op_loadX rfl rfl rfl rfl rfl rfl (by first | assumption | exact FSX.rdx (by assumption) | exact FSX.rdx (FSX.cutB (by assumption) (by omega))) (by omega) (by assumption)) ?_) | (show Walk1 _ _ _ (⟨_, .store _ _ _, _, _, _, _⟩ :: _) _ _; refine walk1_b (op_storeO rfl rfl rfl rfl rfl rfl rfl (by first | exact one_own rfl | exact one_osub rfl)) ?_) | (show Walk1 _ _ _ (⟨_, .nilCheck _, _, _, _, _⟩ :: _) _ _; refine walk1_t (op_nilP rfl rfl rfl rfl) ?_) | (show Walk1 _ _ _ (⟨_, .fieldAddr _ _ _, _, _, _, _⟩ :: _) _ _; refine walk1_t (op_fldT rfl rfl rfl rfl rfl rfl off_zero) ?_) | (show Walk1 _ _ _ (⟨_, .extract _ _, _, _, _, _⟩ :: _) _ _; refine walk1_t (op_extract rfl rfl rfl rfl rfl) ?_) | (show Walk1 _ _ _ (⟨_, .convert _ _ _, _, _, _, _⟩ :: _) _ _; refine walk1_t (op_convIB rfl rfl rfl rfl rfl rfl) ?_) | (show Walk1 _ _ _ (⟨_, .buildSlice _ _ _, _, _, _, _⟩ :: _) _ _; refine walk1_n (op_bslice1 rfl rfl rfl rfl rfl rfl rfl rfl rfl rfl rfl (ce_one fun _ => rfl) (sm_l rfl) (by kernel_rfl)) (by kernel_rfl) ?_) | (show Walk1 _ _ _ (⟨_, .call ⟨.value (.func 38), _, _⟩, _, _, _, _⟩ :: _) _ _; (refine walk1_callOT rfl rfl rfl rfl (by kernel_rfl) (by repeat (first | exact evs_nil | apply evs_cons rfl)) rfl ?_; refine ⟨_, _, _, _, _, _, callOT_2 (rdn_own (n := 1002) rfl) ((show RdN _ _ _ 1 (SV.s 23 0 1 1) 1 (valsL .u64 [BitVec.ofInt 64 z]) from rdn_ls [.int .u64 (bvi (BitVec.ofInt 64 z))] rfl rfl)) (fun e w h1 h2 => cp1 _ _ w h1 h2), ?_⟩))) | refine go1 ?_ | refine end_block_other rfl ?_ | refine end_scope (fun _ h => by cases h) ?_ | (refine walk_endD ?_ ?_; (· kernel_rfl)) | refine tri_yesA rfl ?_ | refine tri_noA rfl ?_ | refine tri_trueA rfl ?_ | refine tri_falseA rfl ?_)
    repeat (first | refine go1 ?_ | refine end_block_other rfl ?_ | refine end_scope (fun _ h => by cases h) ?_ | (refine walk_endD ?_ ?_; (· kernel_rfl)) | refine tri_yesA rfl ?_ | refine tri_noA rfl ?_ | refine tri_trueA rfl ?_ | refine tri_falseA rfl ?_)
    exact nx _ (by omega) (by omega) (ent_ren (fun n => cond (Nat.beq n 1002) 24 n) (by repeat (first | exact hasTm_nil | refine hasTm_cons rfl (fun _ => rfl) ?_)) (by repeat (first | exact hasRm_nil | refine hasRm_cons rfl (fun _ => rfl) (fun _ _ h => h) rfl ?_)) (by kernel_rfl))
  · obtain rfl : j = zs.length := by omega
    rw [List.take_of_length_le (Nat.le_refl _)]
    clear next cp
    repeat (first | (show Walk1 _ _ _ (_ :: _) _ _; (show Walk1 _ _ _ (⟨_, .binOp .lss _ _ _ _, _, _, _, _⟩ :: _) _ _; refine walk1_t (op_ltN rfl rfl rfl (by first | exact evN_const rfl | exact rfl) (by first | exact evN_const rfl | exact rfl)) ?_)) | refine go1 ?_ | refine end_block_other rfl ?_ | refine end_scope (fun _ h => by cases h) ?_ | (refine walk_endD ?_ ?_; (· kernel_rfl)) | refine tri_yesA rfl ?_ | refine tri_noA rfl ?_ | refine tri_trueA rfl ?_ | refine tri_falseA rfl ?_)
    refine end_normal (.c (.tuple #[])) (res_none rfl) ?_
    exact fin_objL rfl rfl rfl isOwn_own rfl (fun _ => rfl) (fun _ => rfl)
def ptsL (ps : List P3) : List Value := ps.flatMap fun p => p.c.toList
def okP (p : P3) : Prop := ∀ z ∈ p.l, -2147483648 ≤ z ∧ z < 2147483648
def putP (ps : List P3) : List (BitVec 8) := ps.flatMap fun p => putW 4 (sg4L p.l)
theorem putP_take (ps : List P3) (j : Nat) (p : P3) (h : ps[j]? = some p) : putP (ps.take (j + 1)) = putP (ps.take j) ++ putW 4 (sg4L p.l) := by
  unfold putP
  rw [List.take_add_one, h, List.flatMap_append]
  simp
theorem putP_length (ps : List P3) : (putP ps).length = 12 * ps.length := by
  unfold putP
  induction ps with
  | nil => rfl
  | cons p ps ih => rw [List.flatMap_cons, List.length_append, ih, putW_length, List.length_cons]; simp [sg4L, P3.l]; omega
theorem wrPoints_any (B : List (BitVec 8)) (ps : List P3) (hok : ∀ p ∈ ps, okP p) (hB : B.length ≤ 2000) (hl : ps.length ≤ 10) (v2 : Value) (w : World) (b : Nat) (v : Value) (hB0 : Blk w b (wrC v) 104) (hK : wrK B w v) (hne : v.ownBlock ≠ some b) (hv2 : RdX w (b :: v.ownBlock.toList) 3 v2 ps.length (ptsL ps)) :
    Calls Try.prog 39 #[.pointer (some ⟨b, 0, none⟩), v2] w (RetPL w b v.ownBlock 104 wrC (wrK (B ++ putP ps)) (.tuple #[])) := by
  have cp := fun (j : Nat) (p : P3) (hp : ps[j]? = some p) (vb v : Value) (w : World) h h2 => signedG_any vb (B ++ putP (ps.take j)) v p.l (hok p (List.mem_of_getElem? hp)) w h (by
      rw [List.length_append, putP_length, List.length_take]
      omega) h2 (by simp [P3.l])
  have hrd2 := hv2.rd
  have hrow : ∀ j p, ps[j]? = some p → ((ptsL ps).drop (0 + j * 3)).take 3 = p.c.toList := fun j p h => by
    rw [Nat.zero_add]
    exact flat_row (sz := 3) (f := fun p : P3 => p.c.toList) ps (fun _ _ => rfl) j p h
  have hpl : (ptsL ps).length = ps.length * 3 := flat_length (sz := 3) (f := fun p : P3 => p.c.toList) ps fun _ _ => rfl
  have hp0 : B ++ putP (ps.take 0) = B := by simp [putP]
  generalize ptsL ps = XS at *
  unfold wrK at *
  refine calls_triL (b := b) (104) (SA.l [SV.v 1002]) Try.func39 rfl Try.ntmps39 rfl rfl (hB0) (fun _ => rfl) isOwn_own hK hne ?_
  repeat (first | (show Walk1 _ _ _ (_ :: _) _ _; first | (show Walk1 _ _ _ (⟨_, .move _, _, _, _, _⟩ :: _) _ _; first | refine walk1_t (op_moveN rfl rfl rfl rfl) ?_ | refine walk1_t (op_move rfl rfl rfl rfl) ?_) | (show Walk1 _ _ _ (⟨_, .call ⟨.builtin .len, _, _⟩, _, _, _, _⟩ :: _) _ _; refine walk1_t (op_lenF rfl rfl rfl (by first | assumption | exact FS.rd (by first | assumption | exact FSX.fs (by assumption) | (refine FS.cutB (by assumption) ?_; omega) | (refine FS.cut (by assumption) ?_; omega)))) ?_)) | refine go1 ?_ | refine end_block_other rfl ?_ | refine end_scope (fun _ h => by cases h) ?_ | (refine walk_endD ?_ ?_; (· kernel_rfl)) | refine tri_yesA rfl ?_ | refine tri_noA rfl ?_ | refine tri_trueA rfl ?_ | refine tri_falseA rfl ?_)
  refine tri_loop (X := Nat) (fun j => ⟨[(8, SV.c (.int .i64 ((j : Nat) : Int))), (7, SV.c (.int .i64 ((ps.length : Nat) : Int))), (6, .c v2), (0, .p 1000 0)], [(1000, some (.blk 1000 104 (SA.l [SV.v 1002]))), (1001, some (.is 1000 b)), (1002, some (.own 1002 5 1 (B ++ putP (ps.take j)).length (valsL .u8 (B ++ putP (ps.take j)))))]⟩)
    (fun j => j ≤ ps.length) (fun j => ps.length - j) 0 (by omega) (by rw [hp0]; exact ent_keep (by repeat (first | exact hasT_nil | refine hasT_cons rfl ?_ | refine hasT_eq rfl (svi (by omega)) ?_)) (by repeat (first | exact hasR_nil | refine hasR_cons rfl ?_))) ?_
  intro j hj K next
  by_cases h : j < ps.length
  · obtain ⟨p, hpj⟩ : ∃ p, ps[j]? = some p := ⟨_, List.getElem?_eq_getElem h⟩
    have hr := hrow j p hpj
    have hlt : j * 3 + 3 ≤ XS.length := by rw [hpl]; omega
    have cp1 := fun vb v w h h2 => cp j p hpj vb v w h h2
    have hst : B ++ putP (ps.take (j + 1)) = (B ++ putP (ps.take j)) ++ putW 4 (sg4L p.l) := by rw [putP_take ps j p hpj, List.append_assoc]
    have nx := fun S' => next S' (j + 1)
    rw [hst] at nx
    clear next cp hst hp0 hrow
    generalize B ++ putP (ps.take j) = P at *
    obtain ⟨x, y, z⟩ := p
    simp only [P3.l, P3.c] at *
    generalize hQ : P ++ putW 4 (sg4L [x, y, z]) = Q at *
    repeat (first | (show Walk1 _ _ _ (_ :: _) _ _; first | (show Walk1 _ _ _ (⟨_, .move _, _, _, _, _⟩ :: _) _ _; refine walk1_t (op_move rfl rfl rfl rfl) ?_) | (show Walk1 _ _ _ (⟨_, .binOp .add _ _ _ _, _, _, _, _⟩ :: _) _ _; refine walk1_t (op_addN rfl rfl rfl (by first | exact evN_const rfl | exact rfl) (by first | exact evN_const rfl | exact rfl) (by omega)) ?_) | (show Walk1 _ _ _ (⟨_, .binOp .lss _ _ _ _, _, _, _, _⟩ :: _) _ _; refine walk1_t (op_ltN rfl rfl rfl (by first | exact evN_const rfl | exact rfl) (by first | exact evN_const rfl | exact rfl)) ?_) | (show Walk1 _ _ _ (⟨_, .indexAddr _ _ _, _, _, _, _⟩ :: _) _ _; refine walk1_t (op_idxF rfl rfl rfl rfl (by first | exact evK_const rfl | exact evK_tmp rfl) rfl rfl (by first | assumption | exact FS.rd (by first | assumption | exact FSX.fs (by assumption) | (refine FS.cutB (by assumption) ?_; omega) | (refine FS.cut (by assumption) ?_; omega))) (by first | omega | decide) rfl) ?_) | (show Walk1 _ _ _ (⟨_, .load _ _, _, _, _, _⟩ :: _) _ _; refine walk1_t (op_loadsX rfl rfl rfl rfl (by first | assumption | exact FSX.rdx (by assumption) | exact FSX.rdx (FSX.cutB (by assumption) (by omega))) rfl rfl rfl (by decide) (by first | omega | decide) (by with_reducible assumption)) ?_) | (show Walk1 _ _ _ (⟨_, .store _ _ _, _, _, _, _⟩ :: _) _ _; refine walk1_b (op_stores rfl rfl rfl rfl rfl rfl rfl) ?_) | (show Walk1 _ _ _ (⟨_, .alloc _, _, _, _, _⟩ :: _) _ _; refine walk1_n (op_alloc rfl rfl rfl rfl rfl) (by kernel_rfl) ?_)) | (show WalkTo _ _ _ _ (_ :: _) _ _ _; first | (show WalkTo _ _ _ _ (⟨_, .move _, _, _, _, _⟩ :: _) _ _ _; refine walk_t (op_move rfl rfl rfl rfl) ?_) | (show WalkTo _ _ _ _ (⟨_, .load _ _, _, _, _, _⟩ :: _) _ _ _; refine walk_t (op_load rfl rfl rfl rfl rfl rfl rfl) ?_) | (show WalkTo _ _ _ _ (⟨_, .store _ _ _, _, _, _, _⟩ :: _) _ _ _; refine walk_b (op_storeO rfl rfl rfl rfl rfl rfl rfl (by first | exact one_own rfl | exact one_osub rfl)) ?_) | (show WalkTo _ _ _ _ (⟨_, .nilCheck _, _, _, _, _⟩ :: _) _ _ _; refine walk_t (op_nilP rfl rfl rfl rfl) ?_) | (show WalkTo _ _ _ _ (⟨_, .fieldAddr _ _ _, _, _, _, _⟩ :: _) _ _ _; refine walk_t (op_fldT rfl rfl rfl rfl rfl rfl off_zero) ?_) | (show WalkTo _ _ _ _ (⟨_, .extract _ _, _, _, _, _⟩ :: _) _ _ _; refine walk_t (op_extract rfl rfl rfl rfl rfl) ?_) | (show WalkTo _ _ _ _ (⟨_, .buildSlice _ _ _, _, _, _, _⟩ :: _) _ _ _; refine walk_n (op_bsliceL rfl (by repeat (first | exact evl1_nil | apply evl1_cons rfl)) rfl rfl rfl rfl rfl rfl rfl rfl (by decide) (by repeat (first | exact ones_nil | apply ones_own rfl | apply ones_sub rfl | apply ones_one (fun _ => rfl))) (by kernel_rfl)) (by kernel_rfl) ?_) | (show WalkTo _ _ _ _ (⟨_, .call ⟨.value (.func 65), _, _⟩, _, _, _, _⟩ :: _) _ _ _; (refine walk_callOT rfl rfl rfl rfl (by kernel_rfl) (by repeat (first | exact evs_nil | apply evs_cons rfl)) rfl ?_; refine ⟨_, _, _, _, _, _, callOT_2 (rdn_own (n := 1002) rfl) ((show RdN _ _ _ 1 (SV.s 24 0 3 3) 3 ([x, y, z].map (Value.int .i64)) from rdn_ls [.int .i64 x, .int .i64 y, .int .i64 z] rfl rfl)) (fun e w h1 h2 => cp1 _ _ w h1 h2), ?_⟩))) | refine go1 ?_ | refine end_block_other rfl ?_ | refine end_scope (fun _ h => by cases h) ?_ | (refine walk_endD ?_ ?_; (· kernel_rfl)) | refine tri_yesA rfl ?_ | refine tri_noA rfl ?_ | refine tri_trueA rfl ?_ | refine tri_falseA rfl ?_)
    repeat (first | refine go1 ?_ | refine end_block_other rfl ?_ | refine end_scope (fun _ h => by cases h) ?_ | (refine walk_endD ?_ ?_; (· kernel_rfl)) | refine tri_yesA rfl ?_ | refine tri_noA rfl ?_ | refine tri_trueA rfl ?_ | refine tri_falseA rfl ?_)
    exact nx _ (by omega) (by omega) (ent_ren (fun n => cond (Nat.beq n 1002) 25 n) (by repeat (first | exact hasTm_nil | refine hasTm_cons rfl (fun _ => rfl) ?_)) (by repeat (first | exact hasRm_nil | refine hasRm_cons rfl (fun _ => rfl) (fun _ _ h => h) rfl ?_)) (by kernel_rfl))
  · obtain rfl : j = ps.length := by omega
    rw [List.take_of_length_le (Nat.le_refl _)]
    clear next cp
    repeat (first | (show Walk1 _ _ _ (_ :: _) _ _; (show Walk1 _ _ _ (⟨_, .binOp .lss _ _ _ _, _, _, _, _⟩ :: _) _ _; refine walk1_t (op_ltN rfl rfl rfl (by first | exact evN_const rfl | exact rfl) (by first | exact evN_const rfl | exact rfl)) ?_)) | refine go1 ?_ | refine end_block_other rfl ?_ | refine end_scope (fun _ h => by cases h) ?_ | (refine walk_endD ?_ ?_; (· kernel_rfl)) | refine tri_yesA rfl ?_ | refine tri_noA rfl ?_ | refine tri_trueA rfl ?_ | refine tri_falseA rfl ?_)
    refine end_normal (.c (.tuple #[])) (res_none rfl) ?_
    exact fin_objL rfl rfl rfl isOwn_own rfl (fun _ => rfl) (fun _ => rfl)
end Go.Proofs.Ytlhedoodbadmgaa
