/- A record's writer: walked. No condition. What a record's bytes are; slices built of four places. No condition. slices.Grow and slices.Concat of bytes: walked. No condition. -/
import Derived.Test.YtihbiejgebmeaaaRecW0
import Derived.Test.YtihbiejgebmeaaaRecQAC
import Derived.Test.YtihbiejgebmeaaaSymYD
import Derived.Test.YtihbiejgebmeaaaRecP
import Derived.Test.YtihbiejgebmeaaaSymLR
namespace Go.Proofs.Ytihbiejgebmeaaa
open Go.RowKit
set_option maxRecDepth 100000
set_option maxHeartbeats 2000000
def wrC (v : Value) : Array Value := #[v]
def wrK (B : List (BitVec 8)) : World → Value → Prop := ownK 5 1 B.length (valsL .u8 B)
def sgW (zs : List Int) : List (BitVec 64) := zs.map fun z => BitVec.ofInt 64 z
theorem sgW_take (zs : List Int) (j : Nat) (z : Int) (h : zs[j]? = some z) : sgW (zs.take (j + 1)) = sgW (zs.take j) ++ [BitVec.ofInt 64 z] := by
  unfold sgW
  rw [List.take_add_one, h, List.map_append]
  rfl
attribute [local irreducible] Calls Walk1 WalkTo Tri EndA
theorem wrPut_any (k : Nat) (hk1 : 1 ≤ k) (hk8 : k ≤ 8) (B : List (BitVec 8)) (zs : List Int) (hf : fitW k (sgW zs)) (hB : B.length ≤ 2000) (hl : zs.length ≤ 100) (v2 : Value) (w : World) (b : Nat) (v : Value) (hB0 : Blk w b (wrC v) 102) (hK : wrK B w v) (hne : v.ownBlock ≠ some b) (hv2 : RdX w (b :: v.ownBlock.toList) 1 v2 zs.length (zs.map (.int .i64))) :
    Calls Try.prog 33 #[.pointer (some ⟨b, 0, none⟩), .int .i64 (k : Int), v2] w (RetPL w b v.ownBlock 102 wrC (wrK (B ++ putW k (sgW zs))) (.tuple #[])) := by
  have cp := fun (j : Nat) (z : Int) (hz : zs[j]? = some z) (vb v : Value) (w : World) h h2 => putG_any k hk1 hk8 vb (B ++ putW k (sgW (zs.take j))) v [BitVec.ofInt 64 z] (fun x hx => by
    rw [List.mem_singleton] at hx
    rw [hx]
    exact hf _ (List.mem_map.2 ⟨z, List.mem_of_getElem? hz, rfl⟩)) w h (by
      rw [List.length_append, putW_length, sgW, List.length_map, List.length_take]
      have : k * min j zs.length ≤ 8 * 100 := Nat.mul_le_mul hk8 (by omega)
      omega) h2 (by simp)
  have hrd2 := hv2.rd
  have hp0 : B ++ putW k (sgW (zs.take 0)) = B := by simp [sgW, putW]
  unfold wrK at *
  refine calls_triL (b := b) (102) (SA.l [SV.v 1002]) Try.func33 rfl Try.ntmps33 rfl rfl (hB0) (fun _ => rfl) isOwn_own hK hne ?_
  repeat (first | (show Walk1 _ _ _ (_ :: _) _ _; first | (show Walk1 _ _ _ (⟨_, .move _, _, _, _, _⟩ :: _) _ _; first | refine walk1_t (op_moveN rfl rfl rfl rfl) ?_ | refine walk1_t (op_move rfl rfl rfl rfl) ?_) | (show Walk1 _ _ _ (⟨_, .call ⟨.builtin .len, _, _⟩, _, _, _, _⟩ :: _) _ _; refine walk1_t (op_lenF rfl rfl rfl (by first | assumption | exact FS.rd (by first | assumption | exact FSX.fs (by assumption) | (refine FS.cutB (by assumption) ?_; omega) | (refine FS.cut (by assumption) ?_; omega)))) ?_)) | refine go1 ?_ | refine end_block_other rfl ?_ | refine end_scope (fun _ h => by cases h) ?_ | (refine walk_endD ?_ ?_; (· kernel_rfl)) | refine tri_yesA rfl ?_ | refine tri_noA rfl ?_ | refine tri_trueA rfl ?_ | refine tri_falseA rfl ?_)
  refine tri_loop (X := Nat) (fun j => ⟨[(10, SV.c (.int .i64 ((j : Nat) : Int))), (9, SV.c (.int .i64 ((zs.length : Nat) : Int))), (8, .c v2), (0, .p 1000 0), (1, .c (.int .i64 (k : Int)))], [(1000, some (.blk 1000 102 (SA.l [SV.v 1002]))), (1001, some (.is 1000 b)), (1002, some (.own 1002 5 1 (B ++ putW k (sgW (zs.take j))).length (valsL .u8 (B ++ putW k (sgW (zs.take j))))))]⟩)
    (fun j => j ≤ zs.length) (fun j => zs.length - j) 0 (by omega) (by rw [hp0]; exact ent_keep (by repeat (first | exact hasT_nil | refine hasT_cons rfl ?_ | refine hasT_eq rfl (svi (by omega)) ?_)) (by repeat (first | exact hasR_nil | refine hasR_cons rfl ?_))) ?_
  intro j hj K next
  by_cases h : j < zs.length
  · obtain ⟨z, hzj⟩ : ∃ z, zs[j]? = some z := ⟨_, List.getElem?_eq_getElem h⟩
    have hzm : (zs.map (Value.int .i64))[j]? = some (.int .i64 z) := by rw [List.getElem?_map, hzj]; rfl
    have cp1 := fun vb v w h h2 => cp j z hzj vb v w h h2
    have hst : B ++ putW k (sgW (zs.take (j + 1))) = (B ++ putW k (sgW (zs.take j))) ++ putW k [BitVec.ofInt 64 z] := by rw [sgW_take zs j z hzj, putW_app, List.append_assoc]
    have nx := fun S' => next S' (j + 1)
    rw [hst] at nx
    clear next cp hst hp0
    generalize B ++ putW k (sgW (zs.take j)) = P at *
    generalize hQ : P ++ putW k [BitVec.ofInt 64 z] = Q at *
    repeat (first | (show Walk1 _ _ _ (_ :: _) _ _; first | (show Walk1 _ _ _ (⟨_, .move _, _, _, _, _⟩ :: _) _ _; refine walk1_t (op_move rfl rfl rfl rfl) ?_) | (show Walk1 _ _ _ (⟨_, .assign _, _, _, _, _⟩ :: _) _ _; refine walk1_t (op_assign rfl rfl rfl rfl) ?_) | (show Walk1 _ _ _ (⟨_, .binOp .add _ _ _ _, _, _, _, _⟩ :: _) _ _; refine walk1_t (op_addN rfl rfl rfl (by first | exact evN_const rfl | exact rfl) (by first | exact evN_const rfl | exact rfl) (by omega)) ?_) | (show Walk1 _ _ _ (⟨_, .binOp .lss _ _ _ _, _, _, _, _⟩ :: _) _ _; refine walk1_t (op_ltN rfl rfl rfl (by first | exact evN_const rfl | exact rfl) (by first | exact evN_const rfl | exact rfl)) ?_) | (show Walk1 _ _ _ (⟨_, .indexAddr _ _ _, _, _, _, _⟩ :: _) _ _; refine walk1_t (op_idxF rfl rfl rfl rfl (by first | exact evK_const rfl | exact evK_tmp rfl) rfl rfl (by first | assumption | exact FS.rd (by first | assumption | exact FSX.fs (by assumption) | (refine FS.cutB (by assumption) ?_; omega) | (refine FS.cut (by assumption) ?_; omega))) (by first | omega | decide) off_one) ?_) | (show Walk1 _ _ _ (⟨_, .load _ _, _, _, _, _⟩ :: _) _ _; first | refine walk1_t (op_load rfl rfl rfl rfl rfl rfl rfl) ?_ | refine walk1_t (op_loadX rfl rfl rfl rfl rfl rfl (by first | assumption | exact FSX.rdx (by assumption) | exact FSX.rdx (FSX.cutB (by assumption) (by omega))) (by omega) (by assumption)) ?_) | (show Walk1 _ _ _ (⟨_, .store _ _ _, _, _, _, _⟩ :: _) _ _; refine walk1_b (op_storeO rfl rfl rfl rfl rfl rfl rfl (by first | exact one_own rfl | exact one_osub rfl)) ?_) | (show Walk1 _ _ _ (⟨_, .nilCheck _, _, _, _, _⟩ :: _) _ _; refine walk1_t (op_nilP rfl rfl rfl rfl) ?_) | (show Walk1 _ _ _ (⟨_, .fieldAddr _ _ _, _, _, _, _⟩ :: _) _ _; refine walk1_t (op_fldT rfl rfl rfl rfl rfl rfl off_zero) ?_) | (show Walk1 _ _ _ (⟨_, .extract _ _, _, _, _, _⟩ :: _) _ _; refine walk1_t (op_extract rfl rfl rfl rfl rfl) ?_) | (show Walk1 _ _ _ (⟨_, .convert _ _ _, _, _, _, _⟩ :: _) _ _; refine walk1_t (op_convIB rfl rfl rfl rfl rfl rfl) ?_) | (show Walk1 _ _ _ (⟨_, .buildSlice _ _ _, _, _, _, _⟩ :: _) _ _; refine walk1_n (op_bslice1 rfl rfl rfl rfl rfl rfl rfl rfl rfl rfl rfl (ce_one fun _ => rfl) (sm_l rfl) (by kernel_rfl)) (by kernel_rfl) ?_) | (show Walk1 _ _ _ (⟨_, .call ⟨.value (.func 34), _, _⟩, _, _, _, _⟩ :: _) _ _; (refine walk1_callOT rfl rfl rfl rfl (by kernel_rfl) (by repeat (first | exact evs_nil | apply evs_cons rfl)) rfl ?_; refine ⟨_, _, _, _, _, _, callOT_2 (rdn_own (n := 1002) rfl) ((show RdN _ _ _ 1 (SV.s 23 0 1 1) 1 (valsL .u64 [BitVec.ofInt 64 z]) from rdn_ls [.int .u64 (bvi (BitVec.ofInt 64 z))] rfl rfl)) (fun e w h1 h2 => cp1 _ _ w h1 h2), ?_⟩))) | refine go1 ?_ | refine end_block_other rfl ?_ | refine end_scope (fun _ h => by cases h) ?_ | (refine walk_endD ?_ ?_; (· kernel_rfl)) | refine tri_yesA rfl ?_ | refine tri_noA rfl ?_ | refine tri_trueA rfl ?_ | refine tri_falseA rfl ?_)
    repeat (first | refine go1 ?_ | refine end_block_other rfl ?_ | refine end_scope (fun _ h => by cases h) ?_ | (refine walk_endD ?_ ?_; (· kernel_rfl)) | refine tri_yesA rfl ?_ | refine tri_noA rfl ?_ | refine tri_trueA rfl ?_ | refine tri_falseA rfl ?_)
    exact nx _ (by omega) (by omega) (ent_ren (fun n => cond (Nat.beq n 1002) 24 n) (by repeat (first | exact hasTm_nil | refine hasTm_cons rfl (fun _ => rfl) ?_)) (by repeat (first | exact hasRm_nil | refine hasRm_cons rfl (fun _ => rfl) (fun _ _ h => h) rfl ?_)) (by kernel_rfl))
  · obtain rfl : j = zs.length := by omega
    rw [List.take_of_length_le (Nat.le_refl _)]
    clear next cp
    repeat (first | (show Walk1 _ _ _ (_ :: _) _ _; (show Walk1 _ _ _ (⟨_, .binOp .lss _ _ _ _, _, _, _, _⟩ :: _) _ _; refine walk1_t (op_ltN rfl rfl rfl (by first | exact evN_const rfl | exact rfl) (by first | exact evN_const rfl | exact rfl)) ?_)) | refine go1 ?_ | refine end_block_other rfl ?_ | refine end_scope (fun _ h => by cases h) ?_ | (refine walk_endD ?_ ?_; (· kernel_rfl)) | refine tri_yesA rfl ?_ | refine tri_noA rfl ?_ | refine tri_trueA rfl ?_ | refine tri_falseA rfl ?_)
    refine end_normal (.c (.tuple #[])) (res_none rfl) ?_
    exact fin_objL rfl rfl rfl isOwn_own rfl (fun _ => rfl) (fun _ => rfl)
def ptsL (ps : List P3) : List Value := ps.flatMap fun p => p.c.toList
def okP (p : P3) : Prop := ∀ z ∈ p.l, -2147483648 ≤ z ∧ z < 2147483648
def putP (ps : List P3) : List (BitVec 8) := ps.flatMap fun p => putW 4 (sg4L p.l)
theorem putP_take (ps : List P3) (j : Nat) (p : P3) (h : ps[j]? = some p) : putP (ps.take (j + 1)) = putP (ps.take j) ++ putW 4 (sg4L p.l) := by
  unfold putP
  rw [List.take_add_one, h, List.flatMap_append]
  simp
theorem putP_length (ps : List P3) : (putP ps).length = 12 * ps.length := by
  unfold putP
  induction ps with
  | nil => rfl
  | cons p ps ih => rw [List.flatMap_cons, List.length_append, ih, putW_length, List.length_cons]; simp [sg4L, P3.l]; omega
theorem wrPoints_any (B : List (BitVec 8)) (ps : List P3) (hok : ∀ p ∈ ps, okP p) (hB : B.length ≤ 2000) (hl : ps.length ≤ 10) (v2 : Value) (w : World) (b : Nat) (v : Value) (hB0 : Blk w b (wrC v) 102) (hK : wrK B w v) (hne : v.ownBlock ≠ some b) (hv2 : RdX w (b :: v.ownBlock.toList) 3 v2 ps.length (ptsL ps)) :
    Calls Try.prog 35 #[.pointer (some ⟨b, 0, none⟩), v2] w (RetPL w b v.ownBlock 102 wrC (wrK (B ++ putP ps)) (.tuple #[])) := by
  have cp := fun (j : Nat) (p : P3) (hp : ps[j]? = some p) (vb v : Value) (w : World) h h2 => signedG_any vb (B ++ putP (ps.take j)) v p.l (hok p (List.mem_of_getElem? hp)) w h (by
      rw [List.length_append, putP_length, List.length_take]
      omega) h2 (by simp [P3.l])
  have hrd2 := hv2.rd
  have hrow : ∀ j p, ps[j]? = some p → ((ptsL ps).drop (0 + j * 3)).take 3 = p.c.toList := fun j p h => by
    rw [Nat.zero_add]
    exact flat_row (sz := 3) (f := fun p : P3 => p.c.toList) ps (fun _ _ => rfl) j p h
  have hpl : (ptsL ps).length = ps.length * 3 := flat_length (sz := 3) (f := fun p : P3 => p.c.toList) ps fun _ _ => rfl
  have hp0 : B ++ putP (ps.take 0) = B := by simp [putP]
  generalize ptsL ps = XS at *
  unfold wrK at *
  refine calls_triL (b := b) (102) (SA.l [SV.v 1002]) Try.func35 rfl Try.ntmps35 rfl rfl (hB0) (fun _ => rfl) isOwn_own hK hne ?_
  repeat (first | (show Walk1 _ _ _ (_ :: _) _ _; first | (show Walk1 _ _ _ (⟨_, .move _, _, _, _, _⟩ :: _) _ _; first | refine walk1_t (op_moveN rfl rfl rfl rfl) ?_ | refine walk1_t (op_move rfl rfl rfl rfl) ?_) | (show Walk1 _ _ _ (⟨_, .call ⟨.builtin .len, _, _⟩, _, _, _, _⟩ :: _) _ _; refine walk1_t (op_lenF rfl rfl rfl (by first | assumption | exact FS.rd (by first | assumption | exact FSX.fs (by assumption) | (refine FS.cutB (by assumption) ?_; omega) | (refine FS.cut (by assumption) ?_; omega)))) ?_)) | refine go1 ?_ | refine end_block_other rfl ?_ | refine end_scope (fun _ h => by cases h) ?_ | (refine walk_endD ?_ ?_; (· kernel_rfl)) | refine tri_yesA rfl ?_ | refine tri_noA rfl ?_ | refine tri_trueA rfl ?_ | refine tri_falseA rfl ?_)
  refine tri_loop (X := Nat) (fun j => ⟨[(8, SV.c (.int .i64 ((j : Nat) : Int))), (7, SV.c (.int .i64 ((ps.length : Nat) : Int))), (6, .c v2), (0, .p 1000 0)], [(1000, some (.blk 1000 102 (SA.l [SV.v 1002]))), (1001, some (.is 1000 b)), (1002, some (.own 1002 5 1 (B ++ putP (ps.take j)).length (valsL .u8 (B ++ putP (ps.take j)))))]⟩)
    (fun j => j ≤ ps.length) (fun j => ps.length - j) 0 (by omega) (by rw [hp0]; exact ent_keep (by repeat (first | exact hasT_nil | refine hasT_cons rfl ?_ | refine hasT_eq rfl (svi (by omega)) ?_)) (by repeat (first | exact hasR_nil | refine hasR_cons rfl ?_))) ?_
  intro j hj K next
  by_cases h : j < ps.length
  · obtain ⟨p, hpj⟩ : ∃ p, ps[j]? = some p := ⟨_, List.getElem?_eq_getElem h⟩
    have hr := hrow j p hpj
    have hlt : j * 3 + 3 ≤ XS.length := by rw [hpl]; omega
    have cp1 := fun vb v w h h2 => cp j p hpj vb v w h h2
    have hst : B ++ putP (ps.take (j + 1)) = (B ++ putP (ps.take j)) ++ putW 4 (sg4L p.l) := by rw [putP_take ps j p hpj, List.append_assoc]
    have nx := fun S' => next S' (j + 1)
    rw [hst] at nx
    clear next cp hst hp0 hrow
    generalize B ++ putP (ps.take j) = P at *
    obtain ⟨x, y, z⟩ := p
    simp only [P3.l, P3.c] at *
    generalize hQ : P ++ putW 4 (sg4L [x, y, z]) = Q at *
    repeat (first | (show Walk1 _ _ _ (_ :: _) _ _; first | (show Walk1 _ _ _ (⟨_, .move _, _, _, _, _⟩ :: _) _ _; refine walk1_t (op_move rfl rfl rfl rfl) ?_) | (show Walk1 _ _ _ (⟨_, .binOp .add _ _ _ _, _, _, _, _⟩ :: _) _ _; refine walk1_t (op_addN rfl rfl rfl (by first | exact evN_const rfl | exact rfl) (by first | exact evN_const rfl | exact rfl) (by omega)) ?_) | (show Walk1 _ _ _ (⟨_, .binOp .lss _ _ _ _, _, _, _, _⟩ :: _) _ _; refine walk1_t (op_ltN rfl rfl rfl (by first | exact evN_const rfl | exact rfl) (by first | exact evN_const rfl | exact rfl)) ?_) | (show Walk1 _ _ _ (⟨_, .indexAddr _ _ _, _, _, _, _⟩ :: _) _ _; refine walk1_t (op_idxF rfl rfl rfl rfl (by first | exact evK_const rfl | exact evK_tmp rfl) rfl rfl (by first | assumption | exact FS.rd (by first | assumption | exact FSX.fs (by assumption) | (refine FS.cutB (by assumption) ?_; omega) | (refine FS.cut (by assumption) ?_; omega))) (by first | omega | decide) rfl) ?_) | (show Walk1 _ _ _ (⟨_, .load _ _, _, _, _, _⟩ :: _) _ _; refine walk1_t (op_loadsX rfl rfl rfl rfl (by first | assumption | exact FSX.rdx (by assumption) | exact FSX.rdx (FSX.cutB (by assumption) (by omega))) rfl rfl rfl (by decide) (by first | omega | decide) (by with_reducible assumption)) ?_) | (show Walk1 _ _ _ (⟨_, .store _ _ _, _, _, _, _⟩ :: _) _ _; refine walk1_b (op_stores rfl rfl rfl rfl rfl rfl rfl) ?_) | (show Walk1 _ _ _ (⟨_, .alloc _, _, _, _, _⟩ :: _) _ _; refine walk1_n (op_alloc rfl rfl rfl rfl rfl) (by kernel_rfl) ?_)) | (show WalkTo _ _ _ _ (_ :: _) _ _ _; first | (show WalkTo _ _ _ _ (⟨_, .move _, _, _, _, _⟩ :: _) _ _ _; refine walk_t (op_move rfl rfl rfl rfl) ?_) | (show WalkTo _ _ _ _ (⟨_, .load _ _, _, _, _, _⟩ :: _) _ _ _; refine walk_t (op_load rfl rfl rfl rfl rfl rfl rfl) ?_) | (show WalkTo _ _ _ _ (⟨_, .store _ _ _, _, _, _, _⟩ :: _) _ _ _; refine walk_b (op_storeO rfl rfl rfl rfl rfl rfl rfl (by first | exact one_own rfl | exact one_osub rfl)) ?_) | (show WalkTo _ _ _ _ (⟨_, .nilCheck _, _, _, _, _⟩ :: _) _ _ _; refine walk_t (op_nilP rfl rfl rfl rfl) ?_) | (show WalkTo _ _ _ _ (⟨_, .fieldAddr _ _ _, _, _, _, _⟩ :: _) _ _ _; refine walk_t (op_fldT rfl rfl rfl rfl rfl rfl off_zero) ?_) | (show WalkTo _ _ _ _ (⟨_, .extract _ _, _, _, _, _⟩ :: _) _ _ _; refine walk_t (op_extract rfl rfl rfl rfl rfl) ?_) | (show WalkTo _ _ _ _ (⟨_, .buildSlice _ _ _, _, _, _, _⟩ :: _) _ _ _; refine walk_n (op_bsliceL rfl (by repeat (first | exact evl1_nil | apply evl1_cons rfl)) rfl rfl rfl rfl rfl rfl rfl rfl (by decide) (by repeat (first | exact ones_nil | apply ones_own rfl | apply ones_sub rfl | apply ones_one (fun _ => rfl))) (by kernel_rfl)) (by kernel_rfl) ?_) | (show WalkTo _ _ _ _ (⟨_, .call ⟨.value (.func 42), _, _⟩, _, _, _, _⟩ :: _) _ _ _; (refine walk_callOT rfl rfl rfl rfl (by kernel_rfl) (by repeat (first | exact evs_nil | apply evs_cons rfl)) rfl ?_; refine ⟨_, _, _, _, _, _, callOT_2 (rdn_own (n := 1002) rfl) ((show RdN _ _ _ 1 (SV.s 24 0 3 3) 3 ([x, y, z].map (Value.int .i64)) from rdn_ls [.int .i64 x, .int .i64 y, .int .i64 z] rfl rfl)) (fun e w h1 h2 => cp1 _ _ w h1 h2), ?_⟩))) | refine go1 ?_ | refine end_block_other rfl ?_ | refine end_scope (fun _ h => by cases h) ?_ | (refine walk_endD ?_ ?_; (· kernel_rfl)) | refine tri_yesA rfl ?_ | refine tri_noA rfl ?_ | refine tri_trueA rfl ?_ | refine tri_falseA rfl ?_)
    repeat (first | refine go1 ?_ | refine end_block_other rfl ?_ | refine end_scope (fun _ h => by cases h) ?_ | (refine walk_endD ?_ ?_; (· kernel_rfl)) | refine tri_yesA rfl ?_ | refine tri_noA rfl ?_ | refine tri_trueA rfl ?_ | refine tri_falseA rfl ?_)
    exact nx _ (by omega) (by omega) (ent_ren (fun n => cond (Nat.beq n 1002) 25 n) (by repeat (first | exact hasTm_nil | refine hasTm_cons rfl (fun _ => rfl) ?_)) (by repeat (first | exact hasRm_nil | refine hasRm_cons rfl (fun _ => rfl) (fun _ _ h => h) rfl ?_)) (by kernel_rfl))
  · obtain rfl : j = ps.length := by omega
    rw [List.take_of_length_le (Nat.le_refl _)]
    clear next cp
    repeat (first | (show Walk1 _ _ _ (_ :: _) _ _; (show Walk1 _ _ _ (⟨_, .binOp .lss _ _ _ _, _, _, _, _⟩ :: _) _ _; refine walk1_t (op_ltN rfl rfl rfl (by first | exact evN_const rfl | exact rfl) (by first | exact evN_const rfl | exact rfl)) ?_)) | refine go1 ?_ | refine end_block_other rfl ?_ | refine end_scope (fun _ h => by cases h) ?_ | (refine walk_endD ?_ ?_; (· kernel_rfl)) | refine tri_yesA rfl ?_ | refine tri_noA rfl ?_ | refine tri_trueA rfl ?_ | refine tri_falseA rfl ?_)
    refine end_normal (.c (.tuple #[])) (res_none rfl) ?_
    exact fin_objL rfl rfl rfl isOwn_own rfl (fun _ => rfl) (fun _ => rfl)
end Go.Proofs.Ytihbiejgebmeaaa
namespace Go.Proofs.Ytihbiejgebmeaaa
open Go.RowKit
set_option maxRecDepth 100000
set_option maxHeartbeats 1000000
section
variable {C : Ctx} {ops : Array Oper} {S : St} {o : Oper}
theorem arr3 (A : Array Value) (h : A.size = 3) : ∃ a b c, A = #[a, b, c] := by
  obtain ⟨l⟩ := A
  match l, h with
  | [a, b, c], _ => exact ⟨a, b, c, rfl⟩
theorem op_bsliceP {t T n : Nat} {parts : Array (Nat × Operand)} {x0 x1 x2 x3 : Operand} {A0 A1 A2 A3 : Array Value} {Z : Array Value} (ho : o.op = .buildSlice t 4 parts) (hp : parts = #[(0, x0), (1, x1), (2, x2), (3, x3)]) (hdn : o.dst = some n) (hg : o.guard = none) (hd : dstB o.dst C.nt = true)
    (h0 : S.ev x0 = some (.c (.agg A0))) (h1 : S.ev x1 = some (.c (.agg A1))) (h2 : S.ev x2 = some (.c (.agg A2))) (h3 : S.ev x3 = some (.c (.agg A3))) (hu' : tabLook undT t = some (.slice T)) (hs' : tabLook sizT T = some 3) (hz' : tabLook zerT T = some Z) (hZ : Z.size = 3) (s0 : A0.size = 3) (s1 : A1.size = 3) (s2 : A2.size = 3) (s3 : A3.size = 3) :
    OpG C Try.prog ops o S ⟨[x0, x1, x2, x3].flatMap opT, [], [(n, .s n 0 4 4)], [(n, some (.blk n T (.c (A0 ++ A1 ++ A2 ++ A3))))], [n]⟩ := by
  refine opG_mk hg fun S' g1 g2 g3 e a w hS => ?_
  have hN := hS.newBlk (g3 n (by simp)) T (.c (A0 ++ A1 ++ A2 ++ A3)) (by simp [SA.c])
  have e0 : a.eval x0 = .agg A0 := hS.ev ((ev_like g1 fun _ h => List.mem_flatMap.2 ⟨x0, by simp, h⟩).trans h0)
  have e1 : a.eval x1 = .agg A1 := hS.ev ((ev_like g1 fun _ h => List.mem_flatMap.2 ⟨x1, by simp, h⟩).trans h1)
  have e2 : a.eval x2 = .agg A2 := hS.ev ((ev_like g1 fun _ h => List.mem_flatMap.2 ⟨x2, by simp, h⟩).trans h2)
  have e3 : a.eval x3 = .agg A3 := hS.ev ((ev_like g1 fun _ h => List.mem_flatMap.2 ⟨x3, by simp, h⟩).trans h3)
  have hu := tabAll_look undT_ok hu'
  have hz := tabAll_look zerT_ok hz'
  obtain ⟨zv, hz3, hzc⟩ : ∃ zv, (zeroValue T).run Try.prog w = .ok zv w ∧ zv.cells = Z := by
    cases hb : (Try.prog.info? T) with
    | none => simp [hb] at hz
    | some i =>
      cases hc : i.zero with
      | none => simp [hb, hc] at hz
      | some zz => exact ⟨zz, by simp [zeroValue, typeInfo, hb, hc], by simpa [hb, hc] using hz⟩
  refine wp_value (v := .slice (some ⟨w.heap.size, 0, none⟩) 4 4) (w' := w.alloc (.cells (A0 ++ A1 ++ A2 ++ A3) T)) ?_ ⟨e.set n ⟨w.heap.size, 0, undef⟩, ?_⟩
  · simp only [execOp, ho, hp, Instr.buildSlice, Sem.run_bind, run_underlying hu w, Result.andThen_ok, run_sizeT hs' w, Sem.run_ite]
    simp only [show ¬ (4 * 3 > 2 ^ 24) from by omega, if_false, show ¬ (3 = 0) from by omega, Sem.run_bind, hz3, Result.andThen_ok, Sem.run_pure, hzc, List.map_toArray, List.map_cons, List.map_nil, e0, e1, e2, e3]
    obtain ⟨z0, z1, z2, rfl⟩ := arr3 Z hZ
    obtain ⟨a0, a1, a2, rfl⟩ := arr3 A0 s0
    obtain ⟨b0, b1, b2, rfl⟩ := arr3 A1 s1
    obtain ⟨c0, c1, c2, rfl⟩ := arr3 A2 s2
    obtain ⟨d0, d1, d2, rfl⟩ := arr3 A3 s3
    rw [show Instr.fill (fun i => some (i * 3, 3)) ((Array.range (4 * 3)).map fun x => (#[z0, z1, z2] : Array Value)[x % (#[z0, z1, z2] : Array Value).size]!) [(0, .agg #[a0, a1, a2]), (1, .agg #[b0, b1, b2]), (2, .agg #[c0, c1, c2]), (3, .agg #[d0, d1, d2])] = some (#[a0, a1, a2] ++ #[b0, b1, b2] ++ #[c0, c1, c2] ++ #[d0, d1, d2]) from by kernel_rfl]
    simp [newRow]
  · rw [hdn]
    have hd' : dstB (some n) C.nt = true := by rw [← hdn]; exact hd
    have := hN.put hd' (.s n 0 4 4)
    simp only [SV.s, Env.set_self] at this
    exact this
end
theorem fit8 (l : List (BitVec 64)) : fitW 8 l := fun x _ => x.isLt
theorem sgW_fit (k : Nat) (hk : k ≤ 7) (zs : List Int) (h : ∀ z ∈ zs, 0 ≤ z ∧ z < 2 ^ (8 * k)) : fitW k (sgW zs) := fun x hx => by
  obtain ⟨z, hz, rfl⟩ := List.mem_map.1 hx
  obtain ⟨h1, h2⟩ := h z hz
  have h3 : (2 : Int) ^ (8 * k) = ((2 ^ (8 * k) : Nat) : Int) := by push_cast; rfl
  have h4 : 2 ^ (8 * k) ≤ 2 ^ 56 := Nat.pow_le_pow_right (by omega) (by omega)
  rw [BitVec.toNat_ofInt]
  rw [h3] at h2
  generalize 2 ^ (8 * k) = M at *
  simp only [Nat.reducePow] at h4 ⊢
  omega
def b2i (b : Bool) : Int := if b then 1 else 0
def encZ1 (r : RecS) : List Int := [r.layer, r.view.w, r.view.h, r.view.samples, r.view.depth, r.view.cls]
def encPs (r : RecS) : List P3 := [r.view.cam.eye, r.view.cam.right, r.view.cam.up, r.view.cam.ahead]
def encZ4 (r : RecS) : List Int := [r.view.cam.lens, r.view.cam.focus]
def encZ6 (r : RecS) : List Int := [r.steps.walk, r.steps.texel, r.steps.bounce]
def encZ9 (r : RecS) : List Int := [(r.label.toNat : Int), (r.frm.toNat : Int), (r.til.toNat : Int)]
def enc1 (r : RecS) : List (BitVec 8) := [] ++ putW 1 (sgW (encZ1 r))
def enc2 (r : RecS) : List (BitVec 8) := enc1 r ++ putW 8 [r.view.seed]
def enc3 (r : RecS) : List (BitVec 8) := enc2 r ++ putP (encPs r)
def enc4 (r : RecS) : List (BitVec 8) := enc3 r ++ putW 4 (sgW (encZ4 r))
def enc5 (r : RecS) : List (BitVec 8) := enc4 r ++ putW 1 (sgW [b2i r.view.constant])
def enc6 (r : RecS) : List (BitVec 8) := enc5 r ++ putW 8 (sgW (encZ6 r))
def enc7 (r : RecS) (n : Nat) : List (BitVec 8) := enc6 r ++ putW 2 (sgW [(n : Int)])
def enc8 (r : RecS) (ids : List (BitVec 64)) : List (BitVec 8) := enc7 r ids.length ++ putW 8 ids
def enc9 (r : RecS) (ids : List (BitVec 64)) : List (BitVec 8) := enc8 r ids ++ putW 4 (sgW (encZ9 r))
def encB (r : RecS) (ids : List (BitVec 64)) : List (BitVec 8) := [enc9 r ids, r.scene, r.planes].flatten
def encL (r : RecS) (ids : List (BitVec 64)) : List (BitVec 8) := if recE r = 0 then encB r ids else []
theorem rec_bounds (r : RecS) (h : recE r = 0) : 0 ≤ r.layer ∧ r.layer ≤ 7 ∧ viewE r.view = 0 ∧ (r.steps.l == (wantS r.view).l) = true := by
  unfold recE at h
  by_cases h1 : r.layer < 0 ∨ 7 < r.layer
  · rw [if_pos h1] at h; cases h
  · rw [if_neg h1] at h
    by_cases h2 : viewE r.view ≠ 0
    · rw [if_pos h2] at h; exact absurd h h2
    · rw [if_neg h2] at h
      by_cases h3 : (r.steps.l == (wantS r.view).l) = false
      · rw [if_pos h3] at h; cases h
      · simp at h2 h3
        exact ⟨by omega, by omega, h2, by simpa using h3⟩
/-- What is written fits. -/
structure EncFit (r : RecS) : Prop where
  f1 : fitW 1 (sgW (encZ1 r))
  f3 : ∀ p ∈ encPs r, okP p
  f4 : fitW 4 (sgW (encZ4 r))
  f5 : fitW 1 (sgW [b2i r.view.constant])
  f9 : fitW 4 (sgW (encZ9 r))
theorem enc_fit (r : RecS) (h : recE r = 0) : EncFit r := by
  obtain ⟨l0, l7, hv, _⟩ := rec_bounds r h
  obtain ⟨he, hr, hu, ha, ⟨s1, s2, s3, s4, s5, s6, s7, s8⟩, ⟨v1, v2, v3, v4, v5, v6⟩⟩ := view_bounds r.view hv
  have e := in_bounds he
  have e1 := dir_bounds hr
  have e2 := dir_bounds hu
  have e3 := dir_bounds ha
  refine ⟨sgW_fit 1 (by omega) _ fun z hz => ?_, fun p hp => ?_, sgW_fit 4 (by omega) _ fun z hz => ?_, sgW_fit 1 (by omega) _ fun z hz => ?_, sgW_fit 4 (by omega) _ fun z hz => ?_⟩
  · simp only [encZ1, List.mem_cons, List.not_mem_nil, or_false] at hz
    rcases hz with rfl | rfl | rfl | rfl | rfl | rfl <;> (show _ ∧ _ < (256 : Int); omega)
  · simp only [encPs, List.mem_cons, List.not_mem_nil, or_false] at hp
    rcases hp with rfl | rfl | rfl | rfl <;> intro z hz <;> simp only [P3.l, List.mem_cons, List.not_mem_nil, or_false] at hz <;> rcases hz with rfl | rfl | rfl <;> omega
  · simp only [encZ4, List.mem_cons, List.not_mem_nil, or_false] at hz
    rcases hz with rfl | rfl <;> (show _ ∧ _ < (4294967296 : Int); omega)
  · rw [List.mem_singleton] at hz
    subst hz
    show _ ∧ _ < (256 : Int)
    unfold b2i
    split <;> omega
  · simp only [encZ9, List.mem_cons, List.not_mem_nil, or_false] at hz
    have a1 := r.label.isLt
    have a2 := r.frm.isLt
    have a3 := r.til.isLt
    rcases hz with rfl | rfl | rfl <;> (show _ ∧ _ < (4294967296 : Int); omega)
theorem enc_len (r : RecS) (n : Nat) : (enc1 r).length = 6 ∧ (enc2 r).length = 14 ∧ (enc3 r).length = 62 ∧ (enc4 r).length = 70 ∧ (enc5 r).length = 71 ∧ (enc6 r).length = 95 ∧ (enc7 r n).length = 97 := by
  have a1 : (enc1 r).length = 6 := by rw [enc1, List.length_append, putW_length]; rfl
  have a2 : (enc2 r).length = 14 := by rw [enc2, List.length_append, putW_length, a1]; rfl
  have a3 : (enc3 r).length = 62 := by rw [enc3, List.length_append, putP_length, a2]; rfl
  have a4 : (enc4 r).length = 70 := by rw [enc4, List.length_append, putW_length, a3]; rfl
  have a5 : (enc5 r).length = 71 := by rw [enc5, List.length_append, putW_length, a4]; rfl
  have a6 : (enc6 r).length = 95 := by rw [enc6, List.length_append, putW_length, a5]; rfl
  exact ⟨a1, a2, a3, a4, a5, a6, by rw [enc7, List.length_append, putW_length, a6]; rfl⟩
theorem enc_len2 (r : RecS) (ids : List (BitVec 64)) : (enc8 r ids).length = 97 + 8 * ids.length ∧ (enc9 r ids).length = 109 + 8 * ids.length := by
  have a7 := (enc_len r ids.length).2.2.2.2.2.2
  have a8 : (enc8 r ids).length = 97 + 8 * ids.length := by rw [enc8, List.length_append, putW_length, a7]
  exact ⟨a8, by rw [enc9, List.length_append, putW_length, a8]; show 97 + 8 * ids.length + 4 * 3 = _; omega⟩
theorem encB_length (r : RecS) (hok : r.ok) (ids : List (BitVec 64)) : (encB r ids).length = 173 + 8 * ids.length := by
  obtain ⟨h1, h2⟩ := hok
  rw [encB]
  simp only [List.flatten_cons, List.flatten_nil, List.append_nil, List.length_append, (enc_len2 r ids).2, h1, h2]
  omega
end Go.Proofs.Ytihbiejgebmeaaa
namespace Go.Proofs.Ytihbiejgebmeaaa
open Go.RowKit
set_option maxRecDepth 100000
set_option maxHeartbeats 1000000
theorem flat_takeP (ds : List (List (BitVec 8))) (i : Nat) (d : List (BitVec 8)) (h : ds[i]? = some d) : (ds.take (i + 1)).flatten = (ds.take i).flatten ++ d := by
  rw [List.take_add_one, h]; simp
theorem flat_leP (ds : List (List (BitVec 8))) (i : Nat) : (ds.take i).flatten.length ≤ ds.flatten.length := by
  conv => rhs; rw [← List.take_append_drop i ds, List.flatten_append, List.length_append]
  omega
attribute [local irreducible] Calls Walk1 WalkTo Tri EndA
theorem grow_any (n : Nat) (w : World) (hn : n ≤ 100000) : Calls Try.prog 47 #[.slice none 0 0, .int .i64 (n : Int)] w (RetOwn w 5 1 0 (valsL .u8 ([] : List (BitVec 8)))) := by
  have hnil : FS w 1 (.slice none 0 0) 0 [] := ⟨⟨rfl, none, 0, rfl, .inl rfl⟩, none, 0, rfl, Nat.le_refl _⟩
  by_cases h : 0 < n
  · refine calls_tri Try.func47 rfl Try.ntmps47 rfl ?_
    repeat (first | (show Walk1 _ _ _ (_ :: _) _ _; first | (show Walk1 _ _ _ (⟨_, .move _, _, _, _, _⟩ :: _) _ _; refine walk1_t (op_move rfl rfl rfl rfl) ?_) | (show Walk1 _ _ _ (⟨_, .assign _, _, _, _, _⟩ :: _) _ _; refine walk1_t (op_assign rfl rfl rfl rfl) ?_) | (show Walk1 _ _ _ (⟨_, .binOp .sub _ _ _ _, _, _, _, _⟩ :: _) _ _; refine walk1_t (op_subN rfl rfl rfl (by first | exact evN_const rfl | exact rfl) (by first | exact evN_const rfl | exact rfl) (by omega)) ?_) | (show Walk1 _ _ _ (⟨_, .binOp .lss _ _ _ _, _, _, _, _⟩ :: _) _ _; refine walk1_t (op_ltN rfl rfl rfl (by first | exact evN_const rfl | exact rfl) (by first | exact evN_const rfl | exact rfl)) ?_) | (show Walk1 _ _ _ (⟨_, .binOp .gtr _ _ _ _, _, _, _, _⟩ :: _) _ _; refine walk1_t (op_gtN rfl rfl rfl (by first | exact evN_const rfl | exact rfl) (by first | exact evN_const rfl | exact rfl)) ?_) | (show Walk1 _ _ _ (⟨_, .call ⟨.builtin .cap, _, _⟩, _, _, _, _⟩ :: _) _ _; refine walk1_t (op_capC rfl rfl rfl) ?_) | (show Walk1 _ _ _ (⟨_, .call ⟨.builtin .len, _, _⟩, _, _, _, _⟩ :: _) _ _; refine walk1_t (op_lenC rfl rfl rfl) ?_) | (show Walk1 _ _ _ (⟨_, .call ⟨.builtin .append, _, _⟩, _, _, _, _⟩ :: _) _ _; refine walk1_n (op_appendZ (m := 8) rfl rfl (by first | exact evN_const rfl | exact rfl) rfl rfl rfl rfl rfl (by omega) (by omega)) (by kernel_rfl) ?_) | (show Walk1 _ _ _ (⟨_, .slice _ _ _ _ _, _, _, _, _⟩ :: _) _ _; first | refine walk1_t (op_cutV rfl rfl rfl rfl rfl rfl rfl (by first | exact evO_none | exact evO_some (by first | exact evK_const rfl | exact evK_tmp rfl)) (by first | exact evO_none | exact evO_some (by first | exact evK_const rfl | exact evK_tmp rfl)) (by first | omega | decide) (by first | omega | decide)) ?_ | refine walk1_t (op_cutF rfl rfl rfl rfl rfl rfl) ?_)) | refine go1 ?_ | refine end_block_other rfl ?_ | refine end_scope (fun _ h => by cases h) ?_ | (refine walk_endD ?_ ?_; (· kernel_rfl)) | refine tri_yesA rfl ?_ | refine tri_noA rfl ?_ | refine tri_trueA rfl ?_ | refine tri_falseA rfl ?_)
    refine end_ent (ent_cut (i := 4) 99 rfl rfl (by omega) rfl (by kernel_rfl)) ?_
    refine end_ret (.v 99) (res_tmp rfl rfl) ?_
    exact fin_own rfl
  · obtain rfl : n = 0 := by omega
    refine calls_tri Try.func47 rfl Try.ntmps47 rfl ?_
    repeat (first | (show Walk1 _ _ _ (_ :: _) _ _; first | (show Walk1 _ _ _ (⟨_, .move _, _, _, _, _⟩ :: _) _ _; refine walk1_t (op_move rfl rfl rfl rfl) ?_) | (show Walk1 _ _ _ (⟨_, .assign _, _, _, _, _⟩ :: _) _ _; refine walk1_t (op_assign rfl rfl rfl rfl) ?_) | (show Walk1 _ _ _ (⟨_, .binOp .sub _ _ _ _, _, _, _, _⟩ :: _) _ _; refine walk1_t (op_subN rfl rfl rfl (by first | exact evN_const rfl | exact rfl) (by first | exact evN_const rfl | exact rfl) (by omega)) ?_) | (show Walk1 _ _ _ (⟨_, .binOp .lss _ _ _ _, _, _, _, _⟩ :: _) _ _; refine walk1_t (op_ltN rfl rfl rfl (by first | exact evN_const rfl | exact rfl) (by first | exact evN_const rfl | exact rfl)) ?_) | (show Walk1 _ _ _ (⟨_, .binOp .gtr _ _ _ _, _, _, _, _⟩ :: _) _ _; refine walk1_t (op_gtN rfl rfl rfl (by first | exact evN_const rfl | exact rfl) (by first | exact evN_const rfl | exact rfl)) ?_) | (show Walk1 _ _ _ (⟨_, .call ⟨.builtin .cap, _, _⟩, _, _, _, _⟩ :: _) _ _; refine walk1_t (op_capC rfl rfl rfl) ?_) | (show Walk1 _ _ _ (⟨_, .call ⟨.builtin .len, _, _⟩, _, _, _, _⟩ :: _) _ _; refine walk1_t (op_lenC rfl rfl rfl) ?_)) | refine go1 ?_ | refine end_block_other rfl ?_ | refine end_scope (fun _ h => by cases h) ?_ | (refine walk_endD ?_ ?_; (· kernel_rfl)) | refine tri_yesA rfl ?_ | refine tri_noA rfl ?_ | refine tri_trueA rfl ?_ | refine tri_falseA rfl ?_)
    refine end_ent (ent_nil (i := 4) (n := 99) 5 1 rfl (by kernel_rfl)) ?_
    refine end_ret (.v 99) (res_tmp rfl rfl) ?_
    exact fin_own rfl
theorem concat_any (dv : Value) (ds : List (List (BitVec 8))) (w : World) (hv : SlcL w dv ds) (hn : ds.flatten.length ≤ 100000) (hdl : ds.length ≤ 100000) :
    Calls Try.prog 36 #[dv] w (RetOwn w 5 1 ds.flatten.length (valsL .u8 ds.flatten)) := by
  obtain ⟨ps, hps, hel⟩ := hv
  have cg := fun n w hn => grow_any n w hn
  refine calls_tri Try.func36 rfl Try.ntmps36 rfl ?_
  repeat (first | (show Walk1 _ _ _ (_ :: _) _ _; first | (show Walk1 _ _ _ (⟨_, .move _, _, _, _, _⟩ :: _) _ _; first | refine walk1_t (op_moveN rfl rfl rfl rfl) ?_ | refine walk1_t (op_move rfl rfl rfl rfl) ?_) | (show Walk1 _ _ _ (⟨_, .assign _, _, _, _, _⟩ :: _) _ _; first | refine walk1_t (op_assignN rfl rfl rfl rfl) ?_ | refine walk1_t (op_assign rfl rfl rfl rfl) ?_) | (show Walk1 _ _ _ (⟨_, .call ⟨.builtin .len, _, _⟩, _, _, _, _⟩ :: _) _ _; refine walk1_t (op_lenF rfl rfl rfl (by first | assumption | exact FS.rd (by first | assumption | exact FSX.fs (by assumption) | (refine FS.cutB (by assumption) ?_; omega) | (refine FS.cut (by assumption) ?_; omega)))) ?_)) | refine go1 ?_ | refine end_block_other rfl ?_ | refine end_scope (fun _ h => by cases h) ?_ | (refine walk_endD ?_ ?_; (· kernel_rfl)) | refine tri_yesA rfl ?_ | refine tri_noA rfl ?_ | refine tri_trueA rfl ?_ | refine tri_falseA rfl ?_)
  refine tri_loop (X := Nat) (fun j => ⟨[(11, SV.c (.int .i64 ((j : Nat) : Int))), (10, SV.c (.int .i64 ((ds.length : Nat) : Int))), (9, .c dv), (0, .c dv), (3, SV.c (.int .i64 (((ds.take j).flatten.length : Nat) : Int)))], []⟩)
    (fun j => j ≤ ds.length) (fun j => ds.length - j) 0 (by omega) (ent_keep (by repeat (first | exact hasT_nil | refine hasT_cons rfl ?_ | refine hasT_eq rfl (svi (by omega)) ?_)) (by repeat (first | exact hasR_nil | refine hasR_cons rfl ?_))) ?_
  intro j hj K next
  by_cases h : j < ds.length
  · obtain ⟨p, hp, hfs⟩ := hel j ds[j] (List.getElem?_eq_getElem h)
    have hft := flat_takeP ds j ds[j] (List.getElem?_eq_getElem h)
    have hfl := flat_leP ds (j + 1)
    have hlen : (ds.take (j + 1)).flatten.length = (ds.take j).flatten.length + ds[j].length := by rw [hft, List.length_append]
    generalize ds[j] = d at *
    generalize (ds.take j).flatten.length = F at *
    repeat (first | (show Walk1 _ _ _ (_ :: _) _ _; first | (show Walk1 _ _ _ (⟨_, .move _, _, _, _, _⟩ :: _) _ _; refine walk1_t (op_move rfl rfl rfl rfl) ?_) | (show Walk1 _ _ _ (⟨_, .assign _, _, _, _, _⟩ :: _) _ _; refine walk1_t (op_assign rfl rfl rfl rfl) ?_) | (show Walk1 _ _ _ (⟨_, .binOp .add _ _ _ _, _, _, _, _⟩ :: _) _ _; refine walk1_t (op_addN rfl rfl rfl (by first | exact evN_const rfl | exact rfl) (by first | exact evN_const rfl | exact rfl) (by omega)) ?_) | (show Walk1 _ _ _ (⟨_, .binOp .lss _ _ _ _, _, _, _, _⟩ :: _) _ _; refine walk1_t (op_ltN rfl rfl rfl (by first | exact evN_const rfl | exact rfl) (by first | exact evN_const rfl | exact rfl)) ?_) | (show Walk1 _ _ _ (⟨_, .indexAddr _ _ _, _, _, _, _⟩ :: _) _ _; refine walk1_t (op_idxF rfl rfl rfl rfl (by first | exact evK_const rfl | exact evK_tmp rfl) rfl rfl (by first | assumption | exact FS.rd (by first | assumption | exact FSX.fs (by assumption) | (refine FS.cutB (by assumption) ?_; omega) | (refine FS.cut (by assumption) ?_; omega))) (by first | omega | decide) off_one) ?_) | (show Walk1 _ _ _ (⟨_, .load _ _, _, _, _, _⟩ :: _) _ _; refine walk1_t (op_loadF rfl rfl rfl rfl rfl rfl rfl (by first | assumption | exact FS.rd (by first | assumption | exact FSX.fs (by assumption) | (refine FS.cutB (by assumption) ?_; omega) | (refine FS.cut (by assumption) ?_; omega))) (by omega) (by assumption)) ?_) | (show Walk1 _ _ _ (⟨_, .call ⟨.builtin .len, _, _⟩, _, _, _, _⟩ :: _) _ _; refine walk1_t (op_lenF rfl rfl rfl (by first | assumption | exact FS.rd (by first | assumption | exact FSX.fs (by assumption) | (refine FS.cutB (by assumption) ?_; omega) | (refine FS.cut (by assumption) ?_; omega)))) ?_)) | refine go1 ?_ | refine end_block_other rfl ?_ | refine end_scope (fun _ h => by cases h) ?_ | (refine walk_endD ?_ ?_; (· kernel_rfl)) | refine tri_yesA rfl ?_ | refine tri_noA rfl ?_ | refine tri_trueA rfl ?_ | refine tri_falseA rfl ?_)
    rw [← hlen]
    exact next _ (j + 1) (by omega) (by omega) (ent_keep (by repeat (first | exact hasT_nil | refine hasT_cons rfl ?_ | refine hasT_eq rfl (svi (by omega)) ?_)) (by repeat (first | exact hasR_nil | refine hasR_cons rfl ?_)))
  obtain rfl : j = ds.length := by omega
  rw [List.take_of_length_le (Nat.le_refl _)]
  have cg1 := fun w => cg ds.flatten.length w hn
  clear next cg
  repeat (first | (show Walk1 _ _ _ (_ :: _) _ _; first | (show Walk1 _ _ _ (⟨_, .move _, _, _, _, _⟩ :: _) _ _; first | refine walk1_t (op_moveN rfl rfl rfl rfl) ?_ | refine walk1_t (op_move rfl rfl rfl rfl) ?_) | (show Walk1 _ _ _ (⟨_, .assign _, _, _, _, _⟩ :: _) _ _; refine walk1_t (op_assign rfl rfl rfl rfl) ?_) | (show Walk1 _ _ _ (⟨_, .binOp .lss _ _ _ _, _, _, _, _⟩ :: _) _ _; refine walk1_t (op_ltN rfl rfl rfl (by first | exact evN_const rfl | exact rfl) (by first | exact evN_const rfl | exact rfl)) ?_) | (show Walk1 _ _ _ (⟨_, .call ⟨.builtin .len, _, _⟩, _, _, _, _⟩ :: _) _ _; refine walk1_t (op_lenF rfl rfl rfl (by first | assumption | exact FS.rd (by first | assumption | exact FSX.fs (by assumption) | (refine FS.cutB (by assumption) ?_; omega) | (refine FS.cut (by assumption) ?_; omega)))) ?_) | (show Walk1 _ _ _ (⟨_, .call ⟨.value (.func 47), _, _⟩, _, _, _, _⟩ :: _) _ _; (refine walk1_callO rfl rfl rfl rfl (by kernel_rfl) (by repeat (first | exact evs_nil | apply evs_cons rfl)) rfl ?_; refine ⟨_, _, _, _, _, callO_0  (fun e w  => cg1 w), ?_⟩))) | refine go1 ?_ | refine end_block_other rfl ?_ | refine end_scope (fun _ h => by cases h) ?_ | (refine walk_endD ?_ ?_; (· kernel_rfl)) | refine tri_yesA rfl ?_ | refine tri_noA rfl ?_ | refine tri_trueA rfl ?_ | refine tri_falseA rfl ?_)
  refine tri_loop (X := Nat) (fun j => ⟨[(27, SV.c (.int .i64 ((j : Nat) : Int))), (26, SV.c (.int .i64 ((ds.length : Nat) : Int))), (25, .c dv), (6, .v 24)], [(24, some (.own 24 5 1 ((ds.take j).flatten.length) (valsL .u8 ((ds.take j).flatten))))]⟩)
    (fun j => j ≤ ds.length) (fun j => ds.length - j) 0 (by omega) (ent_keep (by repeat (first | exact hasT_nil | refine hasT_cons rfl ?_ | refine hasT_eq rfl (svi (by omega)) ?_)) (by repeat (first | exact hasR_nil | refine hasR_cons rfl ?_))) ?_
  intro j hj K next
  by_cases h : j < ds.length
  · obtain ⟨p, hp, hfs⟩ := hel j ds[j] (List.getElem?_eq_getElem h)
    have hft := flat_takeP ds j ds[j] (List.getElem?_eq_getElem h)
    have hfl := flat_leP ds (j + 1)
    have hlen : (ds.take (j + 1)).flatten.length = (ds.take j).flatten.length + ds[j].length := by rw [hft, List.length_append]
    generalize ds[j] = d at *
    generalize (ds.take j).flatten = F at *
    repeat (first | (show Walk1 _ _ _ (_ :: _) _ _; first | (show Walk1 _ _ _ (⟨_, .move _, _, _, _, _⟩ :: _) _ _; refine walk1_t (op_move rfl rfl rfl rfl) ?_) | (show Walk1 _ _ _ (⟨_, .assign _, _, _, _, _⟩ :: _) _ _; refine walk1_t (op_assign rfl rfl rfl rfl) ?_) | (show Walk1 _ _ _ (⟨_, .binOp .add _ _ _ _, _, _, _, _⟩ :: _) _ _; refine walk1_t (op_addN rfl rfl rfl (by first | exact evN_const rfl | exact rfl) (by first | exact evN_const rfl | exact rfl) (by omega)) ?_) | (show Walk1 _ _ _ (⟨_, .binOp .lss _ _ _ _, _, _, _, _⟩ :: _) _ _; refine walk1_t (op_ltN rfl rfl rfl (by first | exact evN_const rfl | exact rfl) (by first | exact evN_const rfl | exact rfl)) ?_) | (show Walk1 _ _ _ (⟨_, .indexAddr _ _ _, _, _, _, _⟩ :: _) _ _; refine walk1_t (op_idxF rfl rfl rfl rfl (by first | exact evK_const rfl | exact evK_tmp rfl) rfl rfl (by first | assumption | exact FS.rd (by first | assumption | exact FSX.fs (by assumption) | (refine FS.cutB (by assumption) ?_; omega) | (refine FS.cut (by assumption) ?_; omega))) (by first | omega | decide) off_one) ?_) | (show Walk1 _ _ _ (⟨_, .load _ _, _, _, _, _⟩ :: _) _ _; refine walk1_t (op_loadF rfl rfl rfl rfl rfl rfl rfl (by first | assumption | exact FS.rd (by first | assumption | exact FSX.fs (by assumption) | (refine FS.cutB (by assumption) ?_; omega) | (refine FS.cut (by assumption) ?_; omega))) (by omega) (by assumption)) ?_) | (show Walk1 _ _ _ (⟨_, .call ⟨.builtin .append, _, _⟩, _, _, _, _⟩ :: _) _ _; refine walk1_g (op_appendB rfl rfl rfl rfl rfl rfl rfl rfl rfl) (by kernel_rfl) ?_)) | refine go1 ?_ | refine end_block_other rfl ?_ | refine end_scope (fun _ h => by cases h) ?_ | (refine walk_endD ?_ ?_; (· kernel_rfl)) | refine tri_yesA rfl ?_ | refine tri_noA rfl ?_ | refine tri_trueA rfl ?_ | refine tri_falseA rfl ?_)
    rw [← hlen, ← hft]
    exact next _ (j + 1) (by omega) (by omega) (ent_ren (fun n => cond (Nat.beq n 24) 33 n) (by repeat (first | exact hasTm_nil | refine hasTm_cons rfl (fun _ => rfl) ?_)) (by repeat (first | exact hasRm_nil | refine hasRm_cons rfl (fun _ => rfl) (fun _ _ h => h) rfl ?_)) (by kernel_rfl))
  · obtain rfl : j = ds.length := by omega
    rw [List.take_of_length_le (Nat.le_refl _)]
    repeat (first | (show Walk1 _ _ _ (_ :: _) _ _; first | (show Walk1 _ _ _ (⟨_, .move _, _, _, _, _⟩ :: _) _ _; refine walk1_t (op_move rfl rfl rfl rfl) ?_) | (show Walk1 _ _ _ (⟨_, .assign _, _, _, _, _⟩ :: _) _ _; refine walk1_t (op_assign rfl rfl rfl rfl) ?_) | (show Walk1 _ _ _ (⟨_, .binOp .lss _ _ _ _, _, _, _, _⟩ :: _) _ _; refine walk1_t (op_ltN rfl rfl rfl (by first | exact evN_const rfl | exact rfl) (by first | exact evN_const rfl | exact rfl)) ?_)) | refine go1 ?_ | refine end_block_other rfl ?_ | refine end_scope (fun _ h => by cases h) ?_ | (refine walk_endD ?_ ?_; (· kernel_rfl)) | refine tri_yesA rfl ?_ | refine tri_noA rfl ?_ | refine tri_trueA rfl ?_ | refine tri_falseA rfl ?_)
    refine end_ret (.v 24) (res_tmp rfl rfl) ?_
    exact fin_own rfl
end Go.Proofs.Ytihbiejgebmeaaa
