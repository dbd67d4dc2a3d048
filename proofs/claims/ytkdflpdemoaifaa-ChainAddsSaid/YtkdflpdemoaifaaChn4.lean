/- chain.Start, Bytes, Next: walked. No condition. -/
import Derived.Test.YtkdflpdemoaifaaChn3
import Derived.Test.YtkdflpdemoaifaaSha6
namespace Go.Proofs.Ytkdflpdemoaifaa
open Go.RowKit
set_option maxRecDepth 100000
set_option maxHeartbeats 4000000
section
variable {C : Ctx} {ops : Array Oper} {S : St} {o : Oper}
theorem rdn_ls {n : Nat} {T : TypeId} {wr : Bool} {k cap : Nat} (us : List Value) (hr : S.res n = some (.blk n T (.l (us.map SV.c)) wr)) (hk : k = us.length) : RdN C S [n] 1 (.s n 0 k cap) k us := by
  subst hk
  intro S' e a w h hS
  obtain ⟨fr, hb, _⟩ := res_blk hS ((h n (by simp)).trans hr)
  refine ⟨by simp, some ⟨(e n).b, 0, none⟩, cap, rfl, .inr ⟨(e n).b, 0, rfl, fun j u hu => ?_⟩⟩
  rw [cell_of_row w _ _ _ _ _ hb, Nat.zero_add]
  simpa [SA.l, SV.c] using hu
theorem rdn_appR {n : Nat} {T : TypeId} {wr : Bool} {k : IntKind} {m : Nat} {us : List SV} {l : List (BitVec m)} {off len cap : Nat} (hr : S.res n = some (.blk n T ((SA.l us).app (.c (vals k l))) wr)) (ho : off = us.length) (hl : l.length = len) : RdN C S [n] 1 (.s n off len cap) len (valsL k l) := by
  subst ho hl
  intro S' e a w h hS
  obtain ⟨fr, hb, _⟩ := res_blk hS ((h n (by simp)).trans hr)
  refine ⟨by rw [valsL_length, Nat.mul_one], some ⟨(e n).b, us.length, none⟩, cap, rfl, .inr ⟨(e n).b, us.length, rfl, fun j u hu => ?_⟩⟩
  rw [cell_of_row w _ _ _ _ _ hb]
  simp only [SA.app, SA.l, SA.c]
  rw [Array.getElem?_append_right (by simp)]
  simpa [vals] using hu
theorem op_loadsC {ty : TypeId} {x : Operand} {n : Nat} {T : TypeId} {a : Array Value} {wr : Bool} {d : TypeDesc} {m : Nat} (ho : o.op = .load ty x) (hg : o.guard = none) (hd : dstB o.dst C.nt = true) (hx : S.ev x = some (.p n 0)) (hr : S.res n = some (.blk n T (.c a) wr))
    (hu' : tabLook undT ty = some d) (hda : d.isRow = true) (hi' : tabLook sizT ty = some m) (hm : ∀ e, ((SA.c a).den e).size = m) (hv : ∀ e, .agg ((SA.c a).den e) = (SV.c (.agg a)).den e) : OpG C Try.prog ops o S ⟨opT x, n :: (SV.c (.agg a)).sup, dw o.dst (.c (.agg a)), [], []⟩ := op_loads ho hg hd hx hr hu' hda hi' hm hv
theorem op_appendA {x y : Operand} {t T len cnt by_ m n b : Nat} {k : IntKind} {l l2 : List (BitVec b)} {A : Array Value} {v2 : SV} {ns : List Nat} {ty : TypeId} {pos : String} {after : Array Edge} (hd : dstB (some n) C.nt = true) (hx : S.ev x = some (.v m)) (hr : S.res m = some (.own m T 1 len (valsL k l))) (hy : S.ev y = some v2)
    (hu' : tabLook undT t = some (.slice T)) (hs' : tabLook sizT T = some 1) (hy' : tabLook bytT T = some by_) (hz' : tabLook zerT T = some A) (hA : A.size = 1) (hrd : RdN C S ns 1 v2 cnt (valsL k l2))
    (hmax : len + cnt ≤ 1099511627776 ∧ (len + cnt) * by_ ≤ 140737488355328 := by omega) (hmn : Nat.beq m n = false := by exact rfl) :
    OpG C Try.prog ops ⟨some n, .call { callee := .builtin .append, args := #[x, y], argTypes := #[t, t] }, ty, pos, after, none⟩ S ⟨opT x ++ opT y, m :: (v2.sup ++ ns), [(n, .v n)], [(m, none), (n, some (.own n T 1 (len + cnt) (valsL k (l ++ l2))))], [n]⟩ :=
  op_appendB hd hx hr hy hu' hs' hy' hz' hA hrd hmax hmn
end
/-- An entry. -/
structure Ent32 where
  seq : Int
  clk : BitVec 32
  who : Int
  err : Int
  sum : List (BitVec 8)
def Ent32.ok (e : Ent32) : Prop := okI e.seq ∧ okI e.who ∧ okI e.err ∧ e.sum.length = 32
def entC (e : Ent32) : List Value := [.int .i64 e.seq, .int .u32 (bvi e.clk), .int .i64 e.who, .int .i64 e.err] ++ valsL .u8 e.sum
def entA (e : Ent32) : SA := (SA.l [.c (.int .i64 e.seq), .c (.int .u32 (bvi e.clk)), .c (.int .i64 e.who), .c (.int .i64 e.err)]).app (.c (vals .u8 e.sum))
theorem entA_den (e : Ent32) (ev : Env) : (entC e).toArray = (entA e).den ev := by
  simp [entC, entA, SA.app, SA.l, SA.c, SV.c, vals]
theorem entC_length (e : Ent32) (h : e.ok) : (entC e).length = 36 := by
  rw [entC, List.length_append, valsL_length, h.2.2.2]
  rfl
def auditL : List (BitVec 8) := [BitVec.ofInt 8 117, BitVec.ofInt 8 109, BitVec.ofInt 8 98, BitVec.ofInt 8 114, BitVec.ofInt 8 97, BitVec.ofInt 8 32, BitVec.ofInt 8 97, BitVec.ofInt 8 117, BitVec.ofInt 8 100, BitVec.ofInt 8 105, BitVec.ofInt 8 116, BitVec.ofInt 8 32, BitVec.ofInt 8 99, BitVec.ofInt 8 104, BitVec.ofInt 8 97, BitVec.ofInt 8 105, BitVec.ofInt 8 110]
def startB (layer : Int) : List (BitVec 8) := auditL ++ putL (sgL [layer])
def entB (e : Ent32) : List (BitVec 8) := putL (sgL [e.seq, (e.clk.toNat : Int), e.who, e.err]) ++ e.sum
def startL (layer : Int) : List (BitVec 8) := shaL (startB layer)
def nextL (head : List (BitVec 8)) (e : Ent32) : List (BitVec 8) := shaL (head ++ entB e)
attribute [local irreducible] Calls Walk1 WalkTo Tri EndA
theorem chBytes_any (e : Ent32) (he : e.ok) (w : World) : Calls Try.prog 58 #[.agg (entC e).toArray] w (RetOwn w 5 1 (entB e).length (valsL .u8 (entB e))) := by
  obtain ⟨h1, h2, h3, h4⟩ := he
  have hz : ∀ z ∈ [e.seq, (e.clk.toNat : Int), e.who, e.err], okI z := by
    intro z hz
    simp only [List.mem_cons, List.not_mem_nil, or_false] at hz
    have := e.clk.isLt
    rcases hz with rfl | rfl | rfl | rfl
    · exact h1
    · constructor <;> omega
    · exact h2
    · exact h3
  have cs := fun v w h => signedNil_any v 4 [e.seq, (e.clk.toNat : Int), e.who, e.err] w h hz (by simp)
  have hel : (entB e).length = (putL (sgL [e.seq, (e.clk.toNat : Int), e.who, e.err])).length + 32 := by rw [entB, List.length_append, h4]
  have hB : entB e = putL (sgL [e.seq, (e.clk.toNat : Int), e.who, e.err]) ++ e.sum := rfl
  have hpl : (putL (sgL [e.seq, (e.clk.toNat : Int), e.who, e.err])).length = 32 := by rw [putL_length]; rfl
  rw [hel, hB]
  generalize putL (sgL [e.seq, (e.clk.toNat : Int), e.who, e.err]) = P at *
  clear hel hB hz
  obtain ⟨seq, clk, who, err, sum⟩ := e
  refine calls_tri Try.func58 rfl Try.ntmps58 rfl ?_
  iterate 5 (try (first | (show Walk1 _ _ _ (_ :: _) _ _; first | (show Walk1 _ _ _ (⟨_, .assign _, _, _, _, _⟩ :: _) _ _; first | refine walk1_t (op_assign rfl rfl rfl rfl) ?_) | (show Walk1 _ _ _ (⟨_, .box _ _, _, _, _, _⟩ :: _) _ _; first | refine walk1_n (op_box rfl rfl rfl rfl rfl) (by kernel_rfl) ?_)) | refine tri_seq ?_ | refine tri_block ?_ | refine tri_scope ?_ | refine tri_skip ?_ | refine tri_label ?_ | refine tri_ret ?_ | refine tri_exit ?_ | refine end_seq ?_ | refine end_block_exit ?_ | refine end_block_other rfl ?_ | refine end_block ?_ | refine end_block_ret ?_ | refine end_then_exit ?_ | refine end_then_ret ?_ | refine end_then ?_ | refine end_scope (fun _ h => by cases h) ?_ | refine tri_reg ?_ | refine tri_draw ?_ | refine walk1_end ?_ | (refine walk_endD ?_ ?_; (· kernel_rfl)) | refine tri_yes rfl (by first | omega | (simp <;> fail) | assumption) ?_ | refine tri_no rfl (by first | omega | (simp <;> fail) | assumption) ?_ | refine tri_true rfl (by first | with_reducible rfl | with_reducible exact Bool.not_false | with_reducible assumption) ?_ | refine tri_false rfl (by first | with_reducible rfl | with_reducible exact Bool.not_true | with_reducible assumption) ?_))
  refine end_ent (ent_blkA 1 (entA ⟨seq, clk, who, err, sum⟩) rfl (fun ev => entA_den _ ev)) ?_
  simp only [entA]
  have h4 : sum.length = 32 := h4
  repeat (first | (show Walk1 _ _ _ (_ :: _) _ _; first | (show Walk1 _ _ _ (⟨_, .move _, _, _, _, _⟩ :: _) _ _; first | refine walk1_t (op_move rfl rfl rfl rfl) ?_) | (show Walk1 _ _ _ (⟨_, .assign _, _, _, _, _⟩ :: _) _ _; first | refine walk1_t (op_assign rfl rfl rfl rfl) ?_) | (show Walk1 _ _ _ (⟨_, .load _ _, _, _, _, _⟩ :: _) _ _; first | refine walk1_t (op_load rfl rfl rfl rfl rfl rfl rfl) ?_) | (show Walk1 _ _ _ (⟨_, .fieldAddr _ _ _, _, _, _, _⟩ :: _) _ _; first | refine walk1_t (op_fldT rfl rfl rfl rfl rfl rfl off_zero) ?_) | (show Walk1 _ _ _ (⟨_, .extract _ _, _, _, _, _⟩ :: _) _ _; first | refine walk1_t (op_extract rfl rfl rfl rfl rfl) ?_) | (show Walk1 _ _ _ (⟨_, .convert _ _ _, _, _, _, _⟩ :: _) _ _; first | refine walk1_t (op_convBN rfl rfl rfl (by (first | exact evB_tmp rfl | exact evB_lit rfl rfl)) rfl rfl (by omega)) ?_) | (show Walk1 _ _ _ (⟨_, .call ⟨.builtin .append, _, _⟩, _, _, _, _⟩ :: _) _ _; first | refine walk1_g (op_appendA rfl rfl rfl rfl rfl rfl rfl rfl rfl (rdn_appR rfl rfl (by first | omega | assumption))) (by kernel_rfl) ?_) | (show Walk1 _ _ _ (⟨_, .slice _ _ _ _ _, _, _, _, _⟩ :: _) _ _; first | refine walk1_t (op_cutP0 rfl rfl rfl rfl rfl rfl (by first | exact evO_none | exact evO_some (by first | exact evK_const rfl | exact evK_tmp rfl)) (by first | omega | decide)) ?_) | (show Walk1 _ _ _ (⟨_, .buildSlice _ _ _, _, _, _, _⟩ :: _) _ _; first | refine walk1_n (op_bsliceL rfl (by repeat (first | exact evl1_nil | apply evl1_cons rfl)) rfl rfl rfl rfl rfl rfl rfl rfl (by decide) (by repeat (first | exact ones_nil | apply ones_own rfl | apply ones_sub rfl | apply ones_one (fun _ => rfl))) (by kernel_rfl)) (by kernel_rfl) ?_) | (show Walk1 _ _ _ (⟨_, .call ⟨.value (.func 98), _, _⟩, _, _, _, _⟩ :: _) _ _; first | (refine walk1_callOT rfl rfl rfl rfl (by kernel_rfl) (by repeat (first | exact evs_nil | apply evs_cons rfl)) rfl ?_; refine ⟨_, _, _, _, _, _, callOT_1 (rdn_ls [.int .i64 seq, .int .i64 (clk.toNat : Int), .int .i64 who, .int .i64 err] rfl rfl) (fun e w h1 => cs _ w h1), ?_⟩))) | refine tri_seq ?_ | refine tri_block ?_ | refine tri_scope ?_ | refine tri_skip ?_ | refine tri_label ?_ | refine tri_ret ?_ | refine tri_exit ?_ | refine end_seq ?_ | refine end_block_exit ?_ | refine end_block_other rfl ?_ | refine end_block ?_ | refine end_block_ret ?_ | refine end_then_exit ?_ | refine end_then_ret ?_ | refine end_then ?_ | refine end_scope (fun _ h => by cases h) ?_ | refine tri_reg ?_ | refine tri_draw ?_ | refine walk1_end ?_ | (refine walk_endD ?_ ?_; (· kernel_rfl)) | refine tri_yes rfl (by first | omega | (simp <;> fail) | assumption) ?_ | refine tri_no rfl (by first | omega | (simp <;> fail) | assumption) ?_ | refine tri_true rfl (by first | with_reducible rfl | with_reducible exact Bool.not_false | with_reducible assumption) ?_ | refine tri_false rfl (by first | with_reducible rfl | with_reducible exact Bool.not_true | with_reducible assumption) ?_)
  refine end_ret (.v 22) (res_tmp rfl rfl) ?_
  exact fin_own rfl
theorem shaOne (D : List (BitVec 8)) (hD : D.length ≤ 100000) (v : Value) (w : World) (h : SlcL w v [D]) : Calls Try.prog 29 #[v] w fun e w' => e = .returned (.agg (vals .u8 (shaL D))) ∧ Below w.heap.size w w' := by
  have := shaSum_any v [D] w h (by simp; omega) (by simp)
  simpa using this
theorem shaTwo (D E : List (BitVec 8)) (hD : D.length ≤ 100000) (hE : E.length ≤ 100000) (v : Value) (w : World) (h : SlcL w v [D, E]) : Calls Try.prog 29 #[v] w fun e w' => e = .returned (.agg (vals .u8 (shaL (D ++ E)))) ∧ Below w.heap.size w w' := by
  have := shaSum_any v [D, E] w h (by simp; omega) (by simp)
  simpa using this
theorem entB_length (e : Ent32) (he : e.ok) : (entB e).length = 64 := by
  rw [entB, List.length_append, putL_length, he.2.2.2]
  rfl
theorem chNext_any (head : List (BitVec 8)) (hh : head.length = 32) (e : Ent32) (he : e.ok) (w : World) : Calls Try.prog 55 #[.agg (vals .u8 head), .agg (entC e).toArray] w fun r w' => r = .returned (.agg (vals .u8 (nextL head e))) ∧ Below w.heap.size w w' := by
  have hel := entB_length e he
  have cb := fun w => chBytes_any e he w
  have cs := fun v w h => shaTwo head (entB e) (by omega) (by omega) v w h
  have hcl : (entC e).toArray.size = 36 := by rw [List.size_toArray]; exact entC_length e he
  have hdl := shaL_length (head ++ entB e)
  unfold nextL
  generalize shaL (head ++ entB e) = R at *
  generalize entB e = B at *
  generalize (entC e).toArray = E at *
  refine calls_tri Try.func55 rfl Try.ntmps55 rfl ?_
  repeat (first | (show Walk1 _ _ _ (_ :: _) _ _; first | (show Walk1 _ _ _ (⟨_, .alloc _, _, _, _, _⟩ :: _) _ _; first | refine walk1_n (op_allocV rfl rfl rfl rfl rfl rfl rfl) (by kernel_rfl) ?_) | (show Walk1 _ _ _ (⟨_, .box _ _, _, _, _, _⟩ :: _) _ _; first | refine walk1_n (op_box rfl rfl rfl rfl rfl) (by kernel_rfl) ?_)) | (show WalkTo _ _ _ _ (_ :: _) _ _ _; first | (show WalkTo _ _ _ _ (⟨_, .load _ _, _, _, _, _⟩ :: _) _ _ _; first | refine walk_t (op_loadsC rfl rfl rfl rfl rfl rfl rfl rfl (sm_c (by assumption)) ag_c) ?_) | (show WalkTo _ _ _ _ (⟨_, .store _ _ _, _, _, _, _⟩ :: _) _ _ _; first | refine walk_b (op_stores rfl rfl rfl rfl rfl rfl rfl) ?_) | (show WalkTo _ _ _ _ (⟨_, .slice _ _ _ _ _, _, _, _, _⟩ :: _) _ _ _; first | refine walk_t (op_cutP0 rfl rfl rfl rfl rfl rfl (by first | exact evO_none | exact evO_some (by first | exact evK_const rfl | exact evK_tmp rfl)) (by first | omega | decide)) ?_) | (show WalkTo _ _ _ _ (⟨_, .buildSlice _ _ _, _, _, _, _⟩ :: _) _ _ _; first | refine walk_n (op_bsliceL rfl (by repeat (first | exact evl1_nil | apply evl1_cons rfl)) rfl rfl rfl rfl rfl rfl rfl rfl (by decide) (by repeat (first | exact ones_nil | apply ones_own rfl | apply ones_sub rfl | apply ones_one (fun _ => rfl))) (by kernel_rfl)) (by kernel_rfl) ?_) | (show WalkTo _ _ _ _ (⟨_, .call ⟨.value (.func 58), _, _⟩, _, _, _, _⟩ :: _) _ _ _; first | (refine walk_callO rfl rfl rfl rfl (by kernel_rfl) (by repeat (first | exact evs_nil | apply evs_cons rfl)) rfl ?_; refine ⟨_, _, _, _, _, callO_0  (fun e w  => cb w), ?_⟩)) | (show WalkTo _ _ _ _ (⟨_, .call ⟨.value (.func 29), _, _⟩, _, _, _, _⟩ :: _) _ _ _; first | (refine walk_callM rfl rfl rfl rfl (by repeat (first | exact evs_nil | apply evs_cons rfl)) rfl ?_; refine ⟨_, _, callM_s (by first | exact slcq_old (by first | assumption | exact slcx_of (by assumption)) | exact slcq_row rfl (by first | rfl | omega) (by assumption) | exact slcq_list rfl (by repeat (first | exact fsqs_nil | apply fsqs_cons (by first | exact fsq_own rfl | exact fsq_osub rfl | exact fsq_subU rfl (by omega) rfl | exact fsq_ones rfl rfl (by omega) | exact fsq_one rfl (by omega) | exact fsq_lit rfl (by repeat (first | exact litl_nil | apply litl_bv | refine litl_z rfl ?_)) rfl (by omega) | exact fsq_whole rfl (by first | (with_reducible assumption) | rfl | (simp <;> fail) | omega) (by omega) | exact fsq_old (by first | assumption | exact fsx_of (by assumption) (by omega) | exact FSX.cutB (by assumption) (by omega) | exact fsx_of (FS.cutB (by assumption) (by omega)) (by omega)) | exact fsq_nil))) rfl) (fun e w h1 => cs _ w h1), ?_⟩))) | refine tri_seq ?_ | refine tri_block ?_ | refine tri_scope ?_ | refine tri_skip ?_ | refine tri_label ?_ | refine tri_ret ?_ | refine tri_exit ?_ | refine end_seq ?_ | refine end_block_exit ?_ | refine end_block_other rfl ?_ | refine end_block ?_ | refine end_block_ret ?_ | refine end_then_exit ?_ | refine end_then_ret ?_ | refine end_then ?_ | refine end_scope (fun _ h => by cases h) ?_ | refine tri_reg ?_ | refine tri_draw ?_ | refine walk1_end ?_ | (refine walk_endD ?_ ?_; (· kernel_rfl)) | refine tri_yes rfl (by first | omega | (simp <;> fail) | assumption) ?_ | refine tri_no rfl (by first | omega | (simp <;> fail) | assumption) ?_ | refine tri_true rfl (by first | with_reducible rfl | with_reducible exact Bool.not_false | with_reducible assumption) ?_ | refine tri_false rfl (by first | with_reducible rfl | with_reducible exact Bool.not_true | with_reducible assumption) ?_)
  refine end_ret _ (res_cells rfl rfl rfl rfl rfl rfl (sm_vals (by omega)) ag_c) ?_
  exact fin_below fun _ => rfl
theorem chStart_any (layer : Int) (hl : okI layer) (w : World) : Calls Try.prog 56 #[.int .i64 layer] w fun r w' => r = .returned (.agg (vals .u8 (startL layer))) ∧ Below w.heap.size w w' := by
  have hz : ∀ z ∈ [layer], okI z := fun z hz => by rw [List.mem_singleton] at hz; rw [hz]; exact hl
  have hpl : (startB layer).length = 25 := by rw [startB, List.length_append, putL_length]; rfl
  have cs := fun v w h => shaOne (startB layer) (by omega) v w h
  have cg := fun b v w h h2 => signedB_any b 0 17 17 auditL v 1 [layer] w h hz (by simp) h2 (by omega)
  have hdl := shaL_length (startB layer)
  unfold startL
  generalize shaL (startB layer) = R at *
  have hB : startB layer = auditL ++ putL (sgL [layer]) := rfl
  rw [← hB] at cg
  clear hB
  generalize startB layer = B at *
  unfold auditL at cg
  refine calls_tri Try.func56 rfl Try.ntmps56 rfl ?_
  repeat (first | (show Walk1 _ _ _ (_ :: _) _ _; first | (show Walk1 _ _ _ (⟨_, .move _, _, _, _, _⟩ :: _) _ _; first | refine walk1_t (op_move rfl rfl rfl rfl) ?_) | (show Walk1 _ _ _ (⟨_, .assign _, _, _, _, _⟩ :: _) _ _; first | refine walk1_t (op_assign rfl rfl rfl rfl) ?_) | (show Walk1 _ _ _ (⟨_, .store _ _ _, _, _, _, _⟩ :: _) _ _; first | refine walk1_b (op_stores rfl rfl rfl rfl rfl rfl rfl) ?_) | (show Walk1 _ _ _ (⟨_, .alloc _, _, _, _, _⟩ :: _) _ _; first | refine walk1_n (op_allocV rfl rfl rfl rfl rfl rfl rfl) (by kernel_rfl) ?_) | (show Walk1 _ _ _ (⟨_, .extract _ _, _, _, _, _⟩ :: _) _ _; first | refine walk1_t (op_extract rfl rfl rfl rfl rfl) ?_) | (show Walk1 _ _ _ (⟨_, .convert _ _ _, _, _, _, _⟩ :: _) _ _; first | (first | refine walk1_tb (op_convSelf rfl rfl rfl rfl rfl rfl rfl) ?_ | refine walk1_b (op_convSelf rfl rfl rfl rfl rfl rfl rfl) ?_)) | (show Walk1 _ _ _ (⟨_, .buildSlice _ _ _, _, _, _, _⟩ :: _) _ _; first | refine walk1_n (op_bsliceV rfl rfl rfl rfl rfl rfl rfl rfl rfl rfl rfl rfl) (by kernel_rfl) ?_ | refine walk1_n (op_bslice1 rfl rfl rfl rfl rfl rfl rfl rfl rfl rfl rfl (ce_one fun _ => rfl) (sm_l rfl) (by kernel_rfl)) (by kernel_rfl) ?_ | refine walk1_n (op_bsliceL rfl (by repeat (first | exact evl1_nil | apply evl1_cons rfl)) rfl rfl rfl rfl rfl rfl rfl rfl (by decide) (by repeat (first | exact ones_nil | apply ones_own rfl | apply ones_sub rfl | apply ones_one (fun _ => rfl))) (by kernel_rfl)) (by kernel_rfl) ?_) | (show Walk1 _ _ _ (⟨_, .call ⟨.value (.func 98), _, _⟩, _, _, _, _⟩ :: _) _ _; first | (refine walk1_callOT rfl rfl rfl rfl (by kernel_rfl) (by repeat (first | exact evs_nil | apply evs_cons rfl)) rfl ?_; refine ⟨_, _, _, _, _, _, callOT_2 (rdn_ls [.int .i64 layer] rfl rfl) ((show RdN _ _ _ 1 (SV.s 6 0 17 17) 17 _ from rdn_lit rfl (by repeat (first | exact litl_nil | apply litl_bv | refine litl_z rfl ?_)) rfl)) (fun e w h1 h2 => cg (e 6).b _ w h1 h2), ?_⟩)) | (show Walk1 _ _ _ (⟨_, .call ⟨.value (.func 29), _, _⟩, _, _, _, _⟩ :: _) _ _; first | (refine walk1_callM rfl rfl rfl rfl (by repeat (first | exact evs_nil | apply evs_cons rfl)) rfl ?_; refine ⟨_, _, callM_s (by first | exact slcq_old (by first | assumption | exact slcx_of (by assumption)) | exact slcq_row rfl (by first | rfl | omega) (by assumption) | exact slcq_list rfl (by repeat (first | exact fsqs_nil | apply fsqs_cons (by first | exact fsq_own rfl | exact fsq_osub rfl | exact fsq_subU rfl (by omega) rfl | exact fsq_ones rfl rfl (by omega) | exact fsq_one rfl (by omega) | exact fsq_lit rfl (by repeat (first | exact litl_nil | apply litl_bv | refine litl_z rfl ?_)) rfl (by omega) | exact fsq_whole rfl (by first | (with_reducible assumption) | rfl | (simp <;> fail) | omega) (by omega) | exact fsq_old (by first | assumption | exact fsx_of (by assumption) (by omega) | exact FSX.cutB (by assumption) (by omega) | exact fsx_of (FS.cutB (by assumption) (by omega)) (by omega)) | exact fsq_nil))) rfl) (fun e w h1 => cs _ w h1), ?_⟩))) | refine tri_seq ?_ | refine tri_block ?_ | refine tri_scope ?_ | refine tri_skip ?_ | refine tri_label ?_ | refine tri_ret ?_ | refine tri_exit ?_ | refine end_seq ?_ | refine end_block_exit ?_ | refine end_block_other rfl ?_ | refine end_block ?_ | refine end_block_ret ?_ | refine end_then_exit ?_ | refine end_then_ret ?_ | refine end_then ?_ | refine end_scope (fun _ h => by cases h) ?_ | refine tri_reg ?_ | refine tri_draw ?_ | refine walk1_end ?_ | (refine walk_endD ?_ ?_; (· kernel_rfl)) | refine tri_yes rfl (by first | omega | (simp <;> fail) | assumption) ?_ | refine tri_no rfl (by first | omega | (simp <;> fail) | assumption) ?_ | refine tri_true rfl (by first | with_reducible rfl | with_reducible exact Bool.not_false | with_reducible assumption) ?_ | refine tri_false rfl (by first | with_reducible rfl | with_reducible exact Bool.not_true | with_reducible assumption) ?_)
  refine end_ret _ (res_cells rfl rfl rfl rfl rfl rfl (sm_vals (by omega)) ag_c) ?_
  exact fin_below fun _ => rfl
end Go.Proofs.Ytkdflpdemoaifaa
