/- Numbers written in some bytes: in plain; whole numbers shifted. No condition. slices.Clone and codec.Put, of any width: walked. No condition. codec.Signed in four bytes: walked. No condition. -/
import Derived.Test.YtihbiejgebmeaaaSymSX
namespace Go.Proofs.Ytihbiejgebmeaaa
open Go.RowKit
set_option maxRecDepth 100000
section
variable {C : Ctx} {ops : Array Oper} {S : St} {o : Oper}
theorem op_eqNilC {x y : Operand} {ty yt e0 : TypeId} {ad : Addr} {len cap : Nat} (hu' : tabLook undT ty = some (.slice e0)) (ho : o.op = .binOp .eql ty x y yt) (hg : o.guard = none) (hd : dstB o.dst C.nt = true) (hx : S.ev x = some (.c (.slice (some ad) len cap))) (hy : S.ev y = some (.c (.slice none 0 0))) : OpG C Try.prog ops o S ⟨opT x ++ opT y, [], dw o.dst (.c (.bool false)), [], []⟩ :=
  op_two (v := .c (.bool false)) hg hd hx hy fun e ρ w h1 h2 => by
    have h1' : ρ x = .slice (some ad) len cap := h1
    have h2' : ρ y = .slice none 0 0 := h2
    have hu := tabAll_look undT_ok hu'
    simp [execOp, ho, h1', h2', binOp, eqGuard, SV.c, run_equal_slice_nil w ty e0 _ _ _ hu]
theorem op_shlZ {ty yt : TypeId} {x y : Operand} {z : Int} {b : Nat} (ho : o.op = .binOp .shl ty x y yt) (hg : o.guard = none) (hd : dstB o.dst C.nt = true) (hx : S.ev x = some (.c (.int .i64 z))) (hy : EvK S y b) (hb : b = 32) (hz : -2147483648 ≤ z ∧ z < 2147483648) : OpG C Try.prog ops o S ⟨opT x ++ opT y, [], dw o.dst (.c (.int .i64 (z * 4294967296))), [], []⟩ := by
  subst hb
  obtain ⟨k, hy⟩ := hy
  refine op_int2 ho hg hd hx hy fun w => ?_
  rw [run_shift.1, show min 32 IntKind.i64.bits = 32 from rfl, show (2 : Int) ^ 32 = 4294967296 from rfl, wrapI (by omega)]
theorem op_shrZ {ty yt : TypeId} {x y : Operand} {z : Int} {b : Nat} (ho : o.op = .binOp .shr ty x y yt) (hg : o.guard = none) (hd : dstB o.dst C.nt = true) (hx : S.ev x = some (.c (.int .i64 (z * 4294967296)))) (hy : EvK S y b) (hb : b = 32) : OpG C Try.prog ops o S ⟨opT x ++ opT y, [], dw o.dst (.c (.int .i64 z)), [], []⟩ := by
  subst hb
  obtain ⟨k, hy⟩ := hy
  refine op_int2 ho hg hd hx hy fun w => ?_
  rw [run_shift.2, show min 32 IntKind.i64.bits = 32 from rfl, show (2 : Int) ^ 32 = 4294967296 from rfl, Int.fdiv_eq_ediv_of_nonneg _ (by omega), Int.mul_ediv_cancel _ (by omega)]
theorem fin_ownNil {nt T size : Nat} {w0 : World} : ∀ e a w, Holds ⟨nt, w0, []⟩ S e a w → RetOwn w0 T size 0 [] (.returned ((SV.c (.slice none 0 0)).den e)) w := fun e a w hS => ⟨_, rfl, ⟨by simp, .inl ⟨rfl, rfl⟩⟩, hS.frame.below rfl⟩
end
theorem take_gtQ {m : Nat} (l : List (BitVec m)) (i : Nat) (h : i < l.length) : l.take i ++ [gt l i] = l.take (i + 1) := by
  rw [List.take_add_one, List.getElem?_eq_getElem h, gt_lt l i h]
  rfl
def leW (k : Nat) (x : BitVec 64) : List (BitVec 8) := (List.range k).map fun i => (x >>> (8 * i)).setWidth 8
theorem leW_length (k : Nat) (x : BitVec 64) : (leW k x).length = k := by simp [leW]
theorem leW_gt (k : Nat) (x : BitVec 64) (i : Nat) (h : i < k) : gt (leW k x) i = (x >>> (8 * i)).setWidth 8 := by
  rw [gt_lt _ i (by rw [leW_length]; exact h)]
  simp [leW]
def putW (k : Nat) (l : List (BitVec 64)) : List (BitVec 8) := (l.map (leW k)).flatten
theorem putW_take (k : Nat) (l : List (BitVec 64)) (j : Nat) (h : j < l.length) : putW k (l.take (j + 1)) = putW k (l.take j) ++ leW k (gt l j) := by
  unfold putW
  rw [List.take_add_one, List.getElem?_eq_getElem h, gt_lt l j h, List.map_append, List.flatten_append]
  simp only [Option.toList_some, List.map_cons, List.map_nil, List.flatten_cons, List.flatten_nil, List.append_nil]
theorem putW_length (k : Nat) (l : List (BitVec 64)) : (putW k l).length = k * l.length := by
  unfold putW
  induction l with
  | nil => simp
  | cons x l ih => simp only [List.map_cons, List.flatten_cons, List.length_append, leW_length, ih, List.length_cons, Nat.mul_add, Nat.mul_one]; omega
theorem putW_app (k : Nat) (l l' : List (BitVec 64)) : putW k (l ++ l') = putW k l ++ putW k l' := by
  unfold putW
  rw [List.map_append, List.flatten_append]
/-- The numbers fit. -/
def fitW (k : Nat) (l : List (BitVec 64)) : Prop := ∀ x ∈ l, x.toNat < 2 ^ (8 * k)
theorem fit_shr {k : Nat} {x : BitVec 64} (h : x.toNat < 2 ^ (8 * k)) : x >>> (8 * k) = 0#64 := by
  apply BitVec.eq_of_toNat_eq
  rw [BitVec.toNat_ushiftRight, Nat.shiftRight_eq_div_pow, Nat.div_eq_of_lt h]
  rfl
/-- A whole number in four bytes. -/
def sg4 (z : Int) : BitVec 64 := (BitVec.ofInt 64 z <<< 32) >>> 32
def sg4L (zs : List Int) : List (BitVec 64) := zs.map sg4
theorem sg4L_take (zs : List Int) (j : Nat) (z : Int) (h : zs[j]? = some z) : sg4L (zs.take (j + 1)) = sg4L (zs.take j) ++ [sg4 z] := by
  unfold sg4L
  rw [List.take_add_one, h, List.map_append]
  rfl
theorem sg4_val (z : Int) (h : -2147483648 ≤ z ∧ z < 2147483648) : (sg4 z).toNat = (z % 4294967296).toNat := by
  unfold sg4
  rw [BitVec.toNat_ushiftRight, Nat.shiftRight_eq_div_pow, BitVec.toNat_shiftLeft, Nat.shiftLeft_eq, BitVec.toNat_ofInt]
  simp only [Nat.reducePow]
  omega
theorem sg4_fit (zs : List Int) (h : ∀ z ∈ zs, -2147483648 ≤ z ∧ z < 2147483648) : fitW 4 (sg4L zs) := fun x hx => by
  obtain ⟨z, hz, rfl⟩ := List.mem_map.1 hx
  rw [sg4_val z (h z hz)]
  show _ < 2 ^ 32
  omega
end Go.Proofs.Ytihbiejgebmeaaa
namespace Go.Proofs.Ytihbiejgebmeaaa
open Go.RowKit
set_option maxRecDepth 100000
set_option maxHeartbeats 4000000
attribute [local irreducible] Calls Walk1 WalkTo Tri EndA
theorem cloneG_any (v : Value) (l : List (BitVec 8)) (w : World) (hv : RdV w 1 v l.length (valsL .u8 l)) (hn : l.length ≤ 1000000) :
    Calls Try.prog 46 #[v] w (RetOwn w 5 1 l.length (valsL .u8 l)) := by
  have hv0 := hv
  obtain ⟨_, a, c, rfl, h⟩ := hv0
  cases a with
  | none =>
    have h0 : l.length = 0 := by
      rcases h with h | ⟨b, off, h, _⟩
      · exact h
      · cases h
    obtain rfl : l = [] := List.eq_nil_of_length_eq_zero h0
    refine calls_tri Try.func46 rfl Try.ntmps46 rfl ?_
    repeat (first | (show Walk1 _ _ _ (_ :: _) _ _; first | (show Walk1 _ _ _ (⟨_, .move _, _, _, _, _⟩ :: _) _ _; refine walk1_t (op_move rfl rfl rfl rfl) ?_) | (show Walk1 _ _ _ (⟨_, .assign _, _, _, _, _⟩ :: _) _ _; refine walk1_t (op_assign rfl rfl rfl rfl) ?_) | (show Walk1 _ _ _ (⟨_, .binOp .eql _ _ _ _, _, _, _, _⟩ :: _) _ _; refine walk1_t (op_eqNilG rfl rfl rfl rfl rfl rfl) ?_)) | refine go1 ?_ | refine end_block_other rfl ?_ | refine end_scope (fun _ h => by cases h) ?_ | (refine walk_endD ?_ ?_; (· kernel_rfl)) | refine tri_yesA rfl ?_ | refine tri_noA rfl ?_ | refine tri_trueA rfl ?_ | refine tri_falseA rfl ?_)
    refine end_ret (.c (.slice none 0 0)) (res_tmp rfl rfl) ?_
    exact fin_ownNil
  | some ad =>
    generalize l.length = n at *
    refine calls_tri Try.func46 rfl Try.ntmps46 rfl ?_
    repeat (first | (show Walk1 _ _ _ (_ :: _) _ _; first | (show Walk1 _ _ _ (⟨_, .move _, _, _, _, _⟩ :: _) _ _; refine walk1_t (op_move rfl rfl rfl rfl) ?_) | (show Walk1 _ _ _ (⟨_, .assign _, _, _, _, _⟩ :: _) _ _; refine walk1_t (op_assign rfl rfl rfl rfl) ?_) | (show Walk1 _ _ _ (⟨_, .binOp .eql _ _ _ _, _, _, _, _⟩ :: _) _ _; refine walk1_t (op_eqNilC rfl rfl rfl rfl rfl rfl) ?_) | (show Walk1 _ _ _ (⟨_, .call ⟨.builtin .append, _, _⟩, _, _, _, _⟩ :: _) _ _; refine walk1_g (op_appendB rfl rfl rfl rfl rfl rfl rfl rfl rfl) (by kernel_rfl) ?_) | (show Walk1 _ _ _ (⟨_, .buildSlice _ _ _, _, _, _, _⟩ :: _) _ _; refine walk1_n (op_bslice0 (k := .u8) (m := 8) rfl rfl rfl rfl rfl rfl rfl) (by kernel_rfl) ?_)) | refine go1 ?_ | refine end_block_other rfl ?_ | refine end_scope (fun _ h => by cases h) ?_ | (refine walk_endD ?_ ?_; (· kernel_rfl)) | refine tri_yesA rfl ?_ | refine tri_noA rfl ?_ | refine tri_trueA rfl ?_ | refine tri_falseA rfl ?_)
    rw [List.nil_append, Nat.zero_add]
    refine end_ret (.v 7) (res_tmp rfl rfl) ?_
    exact fin_own rfl
theorem putG_any (k : Nat) (hk1 : 1 ≤ k) (hk8 : k ≤ 8) (vb : Value) (B : List (BitVec 8)) (v : Value) (l : List (BitVec 64)) (hf : fitW k l) (w : World) (hb : RdV w 1 vb B.length (valsL .u8 B)) (hbl : B.length ≤ 10000) (hv : RdV w 1 v l.length (valsL .u64 l)) (hl : l.length ≤ 1000) :
    Calls Try.prog 34 #[vb, .int .i64 (k : Int), v] w (RetOT w 5 1 (B ++ putW k l).length (valsL .u8 (B ++ putW k l)) (.int .i64 0)) := by
  have cl := fun w h => cloneG_any vb B w h (by omega)
  have hpl := fun j => (show (B ++ putW k (l.take j)).length = B.length + k * (l.take j).length by rw [List.length_append, putW_length])
  have hp0 : B ++ putW k (l.take 0) = B := by rw [List.take_zero]; show B ++ [] = _; simp
  refine calls_tri Try.func34 rfl Try.ntmps34 rfl ?_
  repeat (first | (show Walk1 _ _ _ (_ :: _) _ _; first | (show Walk1 _ _ _ (⟨_, _, _, _, _, some _⟩ :: _) _ _; refine walk1_yes rfl rfl (by first | exact decide_eq_true (by omega) | exact decide_eq_false (by omega) | rfl | (show _ = true; with_reducible assumption) | (show _ = false; with_reducible assumption) | (simp <;> fail) | omega) ?_) | (show Walk1 _ _ _ (⟨_, .move _, _, _, _, _⟩ :: _) _ _; first | refine walk1_t (op_moveN rfl rfl rfl rfl) ?_ | refine walk1_t (op_move rfl rfl rfl rfl) ?_) | (show Walk1 _ _ _ (⟨_, .assign _, _, _, _, _⟩ :: _) _ _; first | refine walk1_t (op_assignN rfl rfl rfl rfl) ?_ | refine walk1_t (op_assign rfl rfl rfl rfl) ?_) | (show Walk1 _ _ _ (⟨_, .binOp .lss _ _ _ _, _, _, _, _⟩ :: _) _ _; refine walk1_t (op_ltN rfl rfl rfl (by first | exact evN_const rfl | exact rfl) (by first | exact evN_const rfl | exact rfl)) ?_) | (show Walk1 _ _ _ (⟨_, .binOp .gtr _ _ _ _, _, _, _, _⟩ :: _) _ _; refine walk1_t (op_gtN rfl rfl rfl (by first | exact evN_const rfl | exact rfl) (by first | exact evN_const rfl | exact rfl)) ?_) | (show Walk1 _ _ _ (⟨_, .pick _ _ _, _, _, _, _⟩ :: _) _ _; refine walk1_t (op_pickN rfl rfl rfl rfl (by first | exact decide_eq_true (by omega) | exact decide_eq_false (by omega) | rfl | (show _ = true; with_reducible assumption) | (show _ = false; with_reducible assumption) | (simp <;> fail) | omega) rfl) ?_) | (show Walk1 _ _ _ (⟨_, .call ⟨.builtin .len, _, _⟩, _, _, _, _⟩ :: _) _ _; refine walk1_t (op_lenF rfl rfl rfl (by first | assumption | exact FS.rd (by first | assumption | exact FSX.fs (by assumption) | (refine FS.cutB (by assumption) ?_; omega) | (refine FS.cut (by assumption) ?_; omega)))) ?_) | (show Walk1 _ _ _ (⟨_, .call ⟨.value (.func 46), _, _⟩, _, _, _, _⟩ :: _) _ _; (refine walk1_callO rfl rfl rfl rfl (by kernel_rfl) (by repeat (first | exact evs_nil | apply evs_cons rfl)) rfl ?_; refine ⟨_, _, _, _, _, callO_1 (rdn_old hb (by omega) rfl) (fun e w h1 => cl w h1), ?_⟩))) | refine go1 ?_ | refine end_block_other rfl ?_ | refine end_scope (fun _ h => by cases h) ?_ | (refine walk_endD ?_ ?_; (· kernel_rfl)) | refine tri_yesA rfl ?_ | refine tri_noA rfl ?_ | refine tri_trueA rfl ?_ | refine tri_falseA rfl ?_)
  refine tri_ent (S' := ⟨[(22, SV.c (.int .i64 ((0 : Nat) : Int))), (21, SV.c (.int .i64 ((l.length : Nat) : Int))), (20, .c v), (8, .v 8), (1, .c (.int .i64 (k : Int)))], [(8, some (.own 8 5 1 B.length (valsL .u8 B)))]⟩) (ent_ren (fun n => cond (Nat.beq n 8) 19 n) (by repeat (first | exact hasTm_nil | refine hasTm_cons rfl (fun _ => rfl) ?_)) (by repeat (first | exact hasRm_nil | refine hasRm_cons rfl (fun _ => rfl) (fun _ _ h => h) rfl ?_)) (by kernel_rfl)) ?_
  refine tri_loop (X := Nat) (fun j => ⟨[(22, SV.c (.int .i64 ((j : Nat) : Int))), (21, SV.c (.int .i64 ((l.length : Nat) : Int))), (20, .c v), (8, .v 8), (1, .c (.int .i64 (k : Int)))], [(8, some (.own 8 5 1 (B ++ putW k (l.take j)).length (valsL .u8 (B ++ putW k (l.take j)))))]⟩)
    (fun j => j ≤ l.length) (fun j => l.length - j) 0 (by omega) (by rw [hp0]; exact ent_keep (by repeat (first | exact hasT_nil | refine hasT_cons rfl ?_ | refine hasT_eq rfl (svi (by omega)) ?_)) (by repeat (first | exact hasR_nil | refine hasR_cons rfl ?_))) ?_
  intro j hj K next
  by_cases h : j < l.length
  · have hpj := hpl j
    rw [List.length_take] at hpj
    have hkj : k * min j l.length ≤ 8000 := Nat.le_trans (Nat.mul_le_mul hk8 (show min j l.length ≤ 1000 by omega)) (by omega)
    have hsj : B ++ putW k (l.take (j + 1)) = B ++ putW k (l.take j) ++ leW k (gt l j) := by rw [putW_take k l j h, List.append_assoc]
    have hxf : gt l j >>> (8 * k) = 0#64 := fit_shr (hf _ (by rw [gt_lt l j h]; exact List.getElem_mem h))
    have hxd : decide ((BitVec.ofInt 64 0).toNat < (gt l j >>> (8 * k)).toNat) = false := by rw [hxf]; rfl
    generalize hp1 : B ++ putW k (l.take (j + 1)) = P1 at *
    generalize B ++ putW k (l.take j) = P at *
    have hnx := next
    clear next hxf
    by_cases hk7 : k < 8
    all_goals
      repeat (first | (show Walk1 _ _ _ (_ :: _) _ _; first | (show Walk1 _ _ _ (⟨_, _, _, _, _, some _⟩ :: _) _ _; first | refine walk1_yes rfl rfl (by first | exact decide_eq_true (by omega) | exact decide_eq_false (by omega) | rfl | (show _ = true; with_reducible assumption) | (show _ = false; with_reducible assumption) | (simp <;> fail) | omega) ?_ | refine walk1_no rfl rfl (by first | exact decide_eq_true (by omega) | exact decide_eq_false (by omega) | rfl | (show _ = true; with_reducible assumption) | (show _ = false; with_reducible assumption) | (simp <;> fail) | omega) rfl ?_) | (show Walk1 _ _ _ (⟨_, .move _, _, _, _, _⟩ :: _) _ _; first | refine walk1_t (op_moveN rfl rfl rfl rfl) ?_ | refine walk1_t (op_move rfl rfl rfl rfl) ?_) | (show Walk1 _ _ _ (⟨_, .assign _, _, _, _, _⟩ :: _) _ _; refine walk1_t (op_assign rfl rfl rfl rfl) ?_) | (show Walk1 _ _ _ (⟨_, .binOp .mul _ _ _ _, _, _, _, _⟩ :: _) _ _; refine walk1_t (op_mulN rfl rfl rfl (by first | exact evN_const rfl | exact rfl) (by first | exact evN_const rfl | exact rfl) (by omega)) ?_) | (show Walk1 _ _ _ (⟨_, .binOp .lss _ _ _ _, _, _, _, _⟩ :: _) _ _; refine walk1_t (op_ltN rfl rfl rfl (by first | exact evN_const rfl | exact rfl) (by first | exact evN_const rfl | exact rfl)) ?_) | (show Walk1 _ _ _ (⟨_, .binOp .gtr _ _ _ _, _, _, _, _⟩ :: _) _ _; refine walk1_t (op_gtB rfl rfl rfl (by (first | exact evB_tmp rfl | exact evB_lit rfl rfl)) (by (first | exact evB_tmp rfl | exact evB_lit rfl rfl))) ?_) | (show Walk1 _ _ _ (⟨_, .binOp .shr _ _ _ _, _, _, _, _⟩ :: _) _ _; refine walk1_t (op_shrB rfl rfl rfl (by (first | exact evB_tmp rfl | exact evB_lit rfl rfl)) (by first | exact evK_const rfl | exact evK_tmp rfl)) ?_) | (show Walk1 _ _ _ (⟨_, .pick _ _ _, _, _, _, _⟩ :: _) _ _; first | refine walk1_t (op_pickY rfl rfl rfl rfl (by first | exact decide_eq_true (by omega) | exact decide_eq_false (by omega) | rfl | (show _ = true; with_reducible assumption) | (show _ = false; with_reducible assumption) | (simp <;> fail) | omega) rfl) ?_ | refine walk1_t (op_pickN rfl rfl rfl rfl (by first | exact decide_eq_true (by omega) | exact decide_eq_false (by omega) | rfl | (show _ = true; with_reducible assumption) | (show _ = false; with_reducible assumption) | (simp <;> fail) | omega) rfl) ?_) | (show Walk1 _ _ _ (⟨_, .indexAddr _ _ _, _, _, _, _⟩ :: _) _ _; refine walk1_t (op_idxF rfl rfl rfl rfl (by first | exact evK_const rfl | exact evK_tmp rfl) rfl rfl (by first | assumption | exact FS.rd (by first | assumption | exact FSX.fs (by assumption) | (refine FS.cutB (by assumption) ?_; omega) | (refine FS.cut (by assumption) ?_; omega))) (by first | omega | decide) off_one) ?_) | (show Walk1 _ _ _ (⟨_, .load _ _, _, _, _, _⟩ :: _) _ _; refine walk1_t (op_loadF rfl rfl rfl rfl rfl rfl rfl (by first | assumption | exact FS.rd (by first | assumption | exact FSX.fs (by assumption) | (refine FS.cutB (by assumption) ?_; omega) | (refine FS.cut (by assumption) ?_; omega))) (by omega) (getV (by first | omega | (simp; omega) | (simp <;> fail) | omega))) ?_)) | refine go1 ?_ | refine end_block_other rfl ?_ | refine end_scope (fun _ h => by cases h) ?_ | (refine walk_endD ?_ ?_; (· kernel_rfl)) | refine tri_yesA rfl ?_ | refine tri_noA rfl ?_ | refine tri_trueA rfl ?_ | refine tri_falseA rfl ?_)
      generalize gt l j = x at *
      have hll := leW_length k x
      have hlg := leW_gt k x
      refine tri_loop (X := Nat) (fun i => ⟨[(36, SV.c (.int .i64 ((i : Nat) : Int))), (35, .c (.int .i64 (k : Int))), (10, .c (.int .u64 (bvi x))), (22, SV.c (.int .i64 ((j : Nat) : Int))), (21, SV.c (.int .i64 ((l.length : Nat) : Int))), (20, .c v), (8, .v 8), (1, .c (.int .i64 (k : Int)))], [(8, some (.own 8 5 1 (P ++ (leW k x).take i).length (valsL .u8 (P ++ (leW k x).take i))))]⟩)
        (fun i => i ≤ k) (fun i => k - i) 0 (by omega) (by rw [List.take_zero, List.append_nil]; exact ent_keep (by repeat (first | exact hasT_nil | refine hasT_cons rfl ?_ | refine hasT_eq rfl (svi (by omega)) ?_)) (by repeat (first | exact hasR_nil | refine hasR_cons rfl ?_))) ?_
      intro i hi K1 next1
      have hQl : (P ++ (leW k x).take i).length = P.length + i := by rw [List.length_append, List.length_take]; omega
      by_cases h8 : i < k
      · have hg := hlg i h8
        have hQ1 : (P ++ (leW k x).take i) ++ [(x >>> (8 * i)).setWidth 8] = P ++ (leW k x).take (i + 1) := by
          rw [List.append_assoc, ← hg, take_gtQ (leW k x) i (by omega)]
        have hQ2 : (P ++ (leW k x).take i).length + 1 = (P ++ (leW k x).take (i + 1)).length := by rw [← hQ1, List.length_append (bs := [(x >>> (8 * i)).setWidth 8]), List.length_singleton]
        generalize hq1 : P ++ (leW k x).take (i + 1) = Q1 at *
        generalize P ++ (leW k x).take i = Q at *
        repeat (first | (show Walk1 _ _ _ (_ :: _) _ _; first | (show Walk1 _ _ _ (⟨_, .move _, _, _, _, _⟩ :: _) _ _; refine walk1_t (op_move rfl rfl rfl rfl) ?_) | (show Walk1 _ _ _ (⟨_, .assign _, _, _, _, _⟩ :: _) _ _; refine walk1_t (op_assign rfl rfl rfl rfl) ?_) | (show Walk1 _ _ _ (⟨_, .binOp .add _ _ _ _, _, _, _, _⟩ :: _) _ _; refine walk1_t (op_addN rfl rfl rfl (by first | exact evN_const rfl | exact rfl) (by first | exact evN_const rfl | exact rfl) (by omega)) ?_) | (show Walk1 _ _ _ (⟨_, .binOp .mul _ _ _ _, _, _, _, _⟩ :: _) _ _; refine walk1_t (op_mulN rfl rfl rfl (by first | exact evN_const rfl | exact rfl) (by first | exact evN_const rfl | exact rfl) (by omega)) ?_) | (show Walk1 _ _ _ (⟨_, .binOp .lss _ _ _ _, _, _, _, _⟩ :: _) _ _; refine walk1_t (op_ltN rfl rfl rfl (by first | exact evN_const rfl | exact rfl) (by first | exact evN_const rfl | exact rfl)) ?_) | (show Walk1 _ _ _ (⟨_, .binOp .shr _ _ _ _, _, _, _, _⟩ :: _) _ _; refine walk1_t (op_shrB rfl rfl rfl (by (first | exact evB_tmp rfl | exact evB_lit rfl rfl)) (by first | exact evK_const rfl | exact evK_tmp rfl)) ?_) | (show Walk1 _ _ _ (⟨_, .convert _ _ _, _, _, _, _⟩ :: _) _ _; refine walk1_t (op_convBB rfl rfl rfl (by (first | exact evB_tmp rfl | exact evB_lit rfl rfl)) rfl rfl) ?_) | (show Walk1 _ _ _ (⟨_, .call ⟨.builtin .append, _, _⟩, _, _, _, _⟩ :: _) _ _; refine walk1_g (op_appendB rfl rfl rfl rfl rfl rfl rfl rfl rfl) (by kernel_rfl) ?_) | (show Walk1 _ _ _ (⟨_, .buildSlice _ _ _, _, _, _, _⟩ :: _) _ _; refine walk1_n (op_bslice1 rfl rfl rfl rfl rfl rfl rfl rfl rfl rfl rfl (ce_one fun _ => rfl) (sm_l rfl) (by kernel_rfl)) (by kernel_rfl) ?_)) | refine go1 ?_ | refine end_block_other rfl ?_ | refine end_scope (fun _ h => by cases h) ?_ | (refine walk_endD ?_ ?_; (· kernel_rfl)) | refine tri_yesA rfl ?_ | refine tri_noA rfl ?_ | refine tri_trueA rfl ?_ | refine tri_falseA rfl ?_)
        rw [hQ1, hQ2, ← hq1]
        exact next1 _ (i + 1) (by omega) (by omega) (ent_ren (fun n => cond (Nat.beq n 8) 46 n) (by repeat (first | exact hasTm_nil | refine hasTm_cons rfl (fun _ => rfl) ?_)) (by repeat (first | exact hasRm_nil | refine hasRm_cons rfl (fun _ => rfl) (fun _ _ h => h) rfl ?_)) (by kernel_rfl))
      · obtain rfl : i = k := by omega
        rw [List.take_of_length_le (by omega), ← hsj, ← hp1]
        repeat (first | (show Walk1 _ _ _ (_ :: _) _ _; first | (show Walk1 _ _ _ (⟨_, .move _, _, _, _, _⟩ :: _) _ _; refine walk1_t (op_move rfl rfl rfl rfl) ?_) | (show Walk1 _ _ _ (⟨_, .binOp .add _ _ _ _, _, _, _, _⟩ :: _) _ _; refine walk1_t (op_addN rfl rfl rfl (by first | exact evN_const rfl | exact rfl) (by first | exact evN_const rfl | exact rfl) (by omega)) ?_) | (show Walk1 _ _ _ (⟨_, .binOp .lss _ _ _ _, _, _, _, _⟩ :: _) _ _; refine walk1_t (op_ltN rfl rfl rfl (by first | exact evN_const rfl | exact rfl) (by first | exact evN_const rfl | exact rfl)) ?_)) | refine go1 ?_ | refine end_block_other rfl ?_ | refine end_scope (fun _ h => by cases h) ?_ | (refine walk_endD ?_ ?_; (· kernel_rfl)) | refine tri_yesA rfl ?_ | refine tri_noA rfl ?_ | refine tri_trueA rfl ?_ | refine tri_falseA rfl ?_)
        exact hnx _ (j + 1) (by omega) (by omega) (ent_keep (by repeat (first | exact hasT_nil | refine hasT_cons rfl ?_ | refine hasT_eq rfl (svi (by omega)) ?_)) (by repeat (first | exact hasR_nil | refine hasR_cons rfl ?_)))
  · obtain rfl : j = l.length := by omega
    rw [List.take_of_length_le (Nat.le_refl _)]
    generalize B ++ putW k l = P at *
    repeat (first | (show Walk1 _ _ _ (_ :: _) _ _; first | (show Walk1 _ _ _ (⟨_, .move _, _, _, _, _⟩ :: _) _ _; refine walk1_t (op_move rfl rfl rfl rfl) ?_) | (show Walk1 _ _ _ (⟨_, .assign _, _, _, _, _⟩ :: _) _ _; first | refine walk1_t (op_assignN rfl rfl rfl rfl) ?_ | refine walk1_t (op_assign rfl rfl rfl rfl) ?_) | (show Walk1 _ _ _ (⟨_, .binOp .lss _ _ _ _, _, _, _, _⟩ :: _) _ _; refine walk1_t (op_ltN rfl rfl rfl (by first | exact evN_const rfl | exact rfl) (by first | exact evN_const rfl | exact rfl)) ?_)) | refine go1 ?_ | refine end_block_other rfl ?_ | refine end_scope (fun _ h => by cases h) ?_ | (refine walk_endD ?_ ?_; (· kernel_rfl)) | refine tri_yesA rfl ?_ | refine tri_noA rfl ?_ | refine tri_trueA rfl ?_ | refine tri_falseA rfl ?_)
    refine end_ret (.tup [.v 8, .c (.int .i64 0)]) (res_tmp2 rfl rfl rfl) ?_
    exact fin_ownT rfl
end Go.Proofs.Ytihbiejgebmeaaa
namespace Go.Proofs.Ytihbiejgebmeaaa
open Go.RowKit
set_option maxRecDepth 100000
set_option maxHeartbeats 4000000
attribute [local irreducible] Calls Walk1 WalkTo Tri EndA
theorem signedG_any (vb : Value) (B : List (BitVec 8)) (v : Value) (zs : List Int) (hz : ∀ z ∈ zs, -2147483648 ≤ z ∧ z < 2147483648) (w : World) (hb : RdV w 1 vb B.length (valsL .u8 B)) (hbl : B.length ≤ 10000) (hv : RdV w 1 v zs.length (zs.map (.int .i64))) (hl : zs.length ≤ 1000) :
    Calls Try.prog 42 #[vb, .int .i64 4, v] w (RetOT w 5 1 (B ++ putW 4 (sg4L zs)).length (valsL .u8 (B ++ putW 4 (sg4L zs))) (.int .i64 0)) := by
  have hsl : (sg4L zs).length = zs.length := by simp [sg4L]
  have cp := fun v w h h2 => putG_any 4 (by omega) (by omega) vb B v (sg4L zs) (sg4_fit zs hz) w h hbl h2 (by omega)
  refine calls_tri Try.func42 rfl Try.ntmps42 rfl ?_
  repeat (first | (show Walk1 _ _ _ (_ :: _) _ _; first | (show Walk1 _ _ _ (⟨_, _, _, _, _, some _⟩ :: _) _ _; refine walk1_yes rfl rfl (by first | exact decide_eq_true (by omega) | exact decide_eq_false (by omega) | rfl | (show _ = true; with_reducible assumption) | (show _ = false; with_reducible assumption) | (simp <;> fail) | omega) ?_) | (show Walk1 _ _ _ (⟨_, .move _, _, _, _, _⟩ :: _) _ _; first | refine walk1_t (op_moveN rfl rfl rfl rfl) ?_ | refine walk1_t (op_move rfl rfl rfl rfl) ?_) | (show Walk1 _ _ _ (⟨_, .assign _, _, _, _, _⟩ :: _) _ _; first | refine walk1_t (op_assignN rfl rfl rfl rfl) ?_ | refine walk1_t (op_assign rfl rfl rfl rfl) ?_) | (show Walk1 _ _ _ (⟨_, .binOp .lss _ _ _ _, _, _, _, _⟩ :: _) _ _; refine walk1_t (op_ltN rfl rfl rfl (by first | exact evN_const rfl | exact rfl) (by first | exact evN_const rfl | exact rfl)) ?_) | (show Walk1 _ _ _ (⟨_, .binOp .gtr _ _ _ _, _, _, _, _⟩ :: _) _ _; refine walk1_t (op_gtN rfl rfl rfl (by first | exact evN_const rfl | exact rfl) (by first | exact evN_const rfl | exact rfl)) ?_) | (show Walk1 _ _ _ (⟨_, .pick _ _ _, _, _, _, _⟩ :: _) _ _; refine walk1_t (op_pickN rfl rfl rfl rfl (by first | exact decide_eq_true (by omega) | exact decide_eq_false (by omega) | rfl | (show _ = true; with_reducible assumption) | (show _ = false; with_reducible assumption) | (simp <;> fail) | omega) rfl) ?_) | (show Walk1 _ _ _ (⟨_, .call ⟨.builtin .len, _, _⟩, _, _, _, _⟩ :: _) _ _; refine walk1_t (op_lenF rfl rfl rfl (by first | assumption | exact FS.rd (by first | assumption | exact FSX.fs (by assumption) | (refine FS.cutB (by assumption) ?_; omega) | (refine FS.cut (by assumption) ?_; omega)))) ?_)) | refine go1 ?_ | refine end_block_other rfl ?_ | refine end_scope (fun _ h => by cases h) ?_ | (refine walk_endD ?_ ?_; (· kernel_rfl)) | refine tri_yesA rfl ?_ | refine tri_noA rfl ?_ | refine tri_trueA rfl ?_ | refine tri_falseA rfl ?_)
  refine tri_ent (ent_nil (i := 8) (n := 8) 27 1 rfl (by kernel_rfl)) ?_
  refine tri_loop (X := Nat) (fun j => ⟨[(20, SV.c (.int .i64 ((j : Nat) : Int))), (19, SV.c (.int .i64 ((zs.length : Nat) : Int))), (18, .c v), (8, .v 8), (1, .c (.int .i64 4)), (0, .c vb)], [(8, some (.own 8 27 1 j (valsL .u64 (sg4L (zs.take j)))))]⟩)
    (fun j => j ≤ zs.length) (fun j => zs.length - j) 0 (by omega) (ent_keep (by repeat (first | exact hasT_nil | refine hasT_cons rfl ?_ | refine hasT_eq rfl (svi (by omega)) ?_)) (by repeat (first | exact hasR_nil | refine hasR_cons rfl ?_))) ?_
  intro j hj K next
  by_cases h : j < zs.length
  · obtain ⟨z, hzj⟩ : ∃ z, zs[j]? = some z := ⟨_, List.getElem?_eq_getElem h⟩
    have hzz := hz z (List.mem_of_getElem? hzj)
    have hzm : (zs.map (Value.int .i64))[j]? = some (.int .i64 z) := by rw [List.getElem?_map, hzj]; rfl
    have hst := sg4L_take zs j z hzj
    obtain ⟨q1, q2⟩ := hzz
    repeat (first | (show Walk1 _ _ _ (_ :: _) _ _; first | (show Walk1 _ _ _ (⟨_, .move _, _, _, _, _⟩ :: _) _ _; refine walk1_t (op_move rfl rfl rfl rfl) ?_) | (show Walk1 _ _ _ (⟨_, .assign _, _, _, _, _⟩ :: _) _ _; refine walk1_t (op_assign rfl rfl rfl rfl) ?_) | (show Walk1 _ _ _ (⟨_, .binOp .add _ _ _ _, _, _, _, _⟩ :: _) _ _; refine walk1_t (op_addN rfl rfl rfl (by first | exact evN_const rfl | exact rfl) (by first | exact evN_const rfl | exact rfl) (by omega)) ?_) | (show Walk1 _ _ _ (⟨_, .binOp .sub _ _ _ _, _, _, _, _⟩ :: _) _ _; refine walk1_t (op_subI rfl rfl rfl rfl rfl (by omega)) ?_) | (show Walk1 _ _ _ (⟨_, .binOp .mul _ _ _ _, _, _, _, _⟩ :: _) _ _; refine walk1_t (op_mulI rfl rfl rfl rfl rfl (by omega)) ?_) | (show Walk1 _ _ _ (⟨_, .binOp .lss _ _ _ _, _, _, _, _⟩ :: _) _ _; refine walk1_t (op_ltN rfl rfl rfl (by first | exact evN_const rfl | exact rfl) (by first | exact evN_const rfl | exact rfl)) ?_) | (show Walk1 _ _ _ (⟨_, .binOp .neq _ _ _ _, _, _, _, _⟩ :: _) _ _; refine walk1_t (op_neI rfl rfl rfl rfl rfl) ?_) | (show Walk1 _ _ _ (⟨_, .binOp .shr _ _ _ _, _, _, _, _⟩ :: _) _ _; first | refine walk1_t (op_shrZ rfl rfl rfl rfl (by first | exact evK_const rfl | exact evK_tmp rfl) rfl) ?_ | refine walk1_t (op_shrB rfl rfl rfl (by (first | exact evB_tmp rfl | exact evB_lit rfl rfl)) (by first | exact evK_const rfl | exact evK_tmp rfl)) ?_) | (show Walk1 _ _ _ (⟨_, .binOp .shl _ _ _ _, _, _, _, _⟩ :: _) _ _; first | refine walk1_t (op_shlZ rfl rfl rfl rfl (by first | exact evK_const rfl | exact evK_tmp rfl) rfl (by omega)) ?_ | refine walk1_t (op_shlB rfl rfl rfl (by (first | exact evB_tmp rfl | exact evB_lit rfl rfl)) (by first | exact evK_const rfl | exact evK_tmp rfl)) ?_) | (show Walk1 _ _ _ (⟨_, .indexAddr _ _ _, _, _, _, _⟩ :: _) _ _; refine walk1_t (op_idxF rfl rfl rfl rfl (by first | exact evK_const rfl | exact evK_tmp rfl) rfl rfl (by first | assumption | exact FS.rd (by first | assumption | exact FSX.fs (by assumption) | (refine FS.cutB (by assumption) ?_; omega) | (refine FS.cut (by assumption) ?_; omega))) (by first | omega | decide) off_one) ?_) | (show Walk1 _ _ _ (⟨_, .load _ _, _, _, _, _⟩ :: _) _ _; refine walk1_t (op_loadF rfl rfl rfl rfl rfl rfl rfl (by first | assumption | exact FS.rd (by first | assumption | exact FSX.fs (by assumption) | (refine FS.cutB (by assumption) ?_; omega) | (refine FS.cut (by assumption) ?_; omega))) (by omega) (by assumption)) ?_) | (show Walk1 _ _ _ (⟨_, .convert _ _ _, _, _, _, _⟩ :: _) _ _; refine walk1_t (op_convIB rfl rfl rfl rfl rfl rfl) ?_) | (show Walk1 _ _ _ (⟨_, .call ⟨.builtin .append, _, _⟩, _, _, _, _⟩ :: _) _ _; refine walk1_g (op_appendB rfl rfl rfl rfl rfl rfl rfl rfl rfl) (by kernel_rfl) ?_) | (show Walk1 _ _ _ (⟨_, .buildSlice _ _ _, _, _, _, _⟩ :: _) _ _; refine walk1_n (op_bslice1 rfl rfl rfl rfl rfl rfl rfl rfl rfl rfl rfl (ce_one fun _ => rfl) (sm_l rfl) (by kernel_rfl)) (by kernel_rfl) ?_)) | refine go1 ?_ | refine end_block_other rfl ?_ | refine end_scope (fun _ h => by cases h) ?_ | (refine walk_endD ?_ ?_; (· kernel_rfl)) | refine tri_yesA rfl ?_ | refine tri_noA rfl ?_ | refine tri_trueA rfl ?_ | refine tri_falseA rfl ?_)
    have hsh : (BitVec.ofInt 64 z) <<< (32) >>> (32) = sg4 z := rfl
    rw [show 64 - Nat.succ 31 = 32 from rfl, hsh, ← hst]
    exact next _ (j + 1) (by omega) (by omega) (ent_ren (fun n => cond (Nat.beq n 8) 48 n) (by repeat (first | exact hasTm_nil | refine hasTm_cons rfl (fun _ => rfl) ?_)) (by repeat (first | exact hasRm_nil | refine hasRm_cons rfl (fun _ => rfl) (fun _ _ h => h) rfl ?_)) (by kernel_rfl))
  · obtain rfl : j = zs.length := by omega
    rw [List.take_of_length_le (Nat.le_refl _)]
    repeat (first | (show Walk1 _ _ _ (_ :: _) _ _; first | (show Walk1 _ _ _ (⟨_, .move _, _, _, _, _⟩ :: _) _ _; refine walk1_t (op_move rfl rfl rfl rfl) ?_) | (show Walk1 _ _ _ (⟨_, .assign _, _, _, _, _⟩ :: _) _ _; refine walk1_t (op_assign rfl rfl rfl rfl) ?_) | (show Walk1 _ _ _ (⟨_, .binOp .lss _ _ _ _, _, _, _, _⟩ :: _) _ _; refine walk1_t (op_ltN rfl rfl rfl (by first | exact evN_const rfl | exact rfl) (by first | exact evN_const rfl | exact rfl)) ?_) | (show Walk1 _ _ _ (⟨_, .extract _ _, _, _, _, _⟩ :: _) _ _; refine walk1_t (op_extract rfl rfl rfl rfl rfl) ?_) | (show Walk1 _ _ _ (⟨_, .call ⟨.value (.func 34), _, _⟩, _, _, _, _⟩ :: _) _ _; (refine walk1_callOT rfl rfl rfl rfl (by kernel_rfl) (by repeat (first | exact evs_nil | apply evs_cons rfl)) rfl ?_; refine ⟨_, _, _, _, _, _, callOT_2 (rdn_old hb (by omega) rfl) (rdn_own (n := 8) rfl) (fun e w h1 h2 => cp _ w h1 (by rw [hsl]; exact h2)), ?_⟩))) | refine go1 ?_ | refine end_block_other rfl ?_ | refine end_scope (fun _ h => by cases h) ?_ | (refine walk_endD ?_ ?_; (· kernel_rfl)) | refine tri_yesA rfl ?_ | refine tri_noA rfl ?_ | refine tri_trueA rfl ?_ | refine tri_falseA rfl ?_)
    refine end_ret (.tup [.v 53, .c (.int .i64 0)]) (res_tmp2 rfl rfl rfl) ?_
    exact fin_ownT rfl
end Go.Proofs.Ytihbiejgebmeaaa
