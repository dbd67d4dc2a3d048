/- The law ChainOut: walked. No condition. -/
import Derived.Test.YtkdflpdemoaifaaChn13
namespace Go.Proofs.Ytkdflpdemoaifaa
open Go.RowKit
set_option maxRecDepth 100000
set_option maxHeartbeats 4000000
theorem op_storeK {C : Ctx} {ops : Array Oper} {S : St} {o : Oper} {ty : TypeId} {x y : Operand} {n off m : Nat} {T : TypeId} {a a' : Array Value} {u : Value} (ho : o.op = .store ty x y) (hg : o.guard = none) (hdst : o.dst = none) (hx : S.ev x = some (.p n off)) (hy : S.ev y = some (.c u)) (hr : S.res n = some (.blk n T (.c a)))
    (hi' : tabLook sizT ty = some 1) (hv : u.oneCell' = true) (hsz : a.size = m) (hlt : off < m) (hset : a.setIfInBounds off u = a') :
    OpG C Try.prog ops o S ⟨opT x ++ opT y, n :: (SA.c a').sup, [], [(n, some (.blk n T (.c a')))], []⟩ :=
  op_store ho hg hdst hx hy hr hi' (fun _ => hv) (fun _ => by show off < a.size; omega) (fun _ => hset)
def setSeq (e : Ent32) (z : Int) : Ent32 := ⟨z, e.clk, e.who, e.err, e.sum⟩
theorem setSeq_ok {e : Ent32} (h : e.ok) {z : Int} (hz : okI z) : (setSeq e z).ok := ⟨hz, h.2.1, h.2.2.1, h.2.2.2⟩
/-- The first j, each with its place's number. -/
def reS (D : List Ent32) (j : Nat) : List Ent32 := (D.take j).mapIdx fun i e => setSeq e (i : Int)
theorem reS_next (D : List Ent32) (j : Nat) (e : Ent32) (h : D[j]? = some e) : reS D (j + 1) = reS D j ++ [setSeq e (j : Int)] := by
  unfold reS
  have hj : j < D.length := (List.getElem?_eq_some_iff.1 h).1
  have hl : (D.take j).length = j := by rw [List.length_take]; omega
  rw [List.take_add_one, h, Option.toList_some, List.mapIdx_append, hl]
  simp
theorem reS_length (D : List Ent32) (j : Nat) (h : j ≤ D.length) : (reS D j).length = j := by
  unfold reS
  rw [List.length_mapIdx, List.length_take]; omega
theorem reS_get (D : List Ent32) (j : Nat) (e : Ent32) (h : D[j]? = some e) : (reS D D.length)[j]? = some (setSeq e (j : Int)) := by
  unfold reS
  rw [List.getElem?_mapIdx, List.take_of_length_le (Nat.le_refl _), h]
  rfl
theorem reS_ok (D : List Ent32) (hD : ∀ e ∈ D, e.ok) (hl : D.length ≤ 1000) : ∀ e ∈ reS D D.length, e.ok := by
  intro e he
  obtain ⟨j, hj, hje⟩ := List.mem_iff_getElem.1 he
  rw [reS_length D D.length (Nat.le_refl _)] at hj
  have h1 := reS_get D j _ (List.getElem?_eq_getElem hj)
  rw [List.getElem?_eq_some_iff] at h1
  obtain ⟨h2, h3⟩ := h1
  rw [← hje, h3]
  exact setSeq_ok (hD _ (List.getElem_mem hj)) (by constructor <;> omega)
theorem ents_set0 : ∀ (es : List Ent32) (hok : ∀ e ∈ es, e.ok) (k : Nat) (e : Ent32) (z : Int), es[k]? = some e → (entsC es).set (0 + k * 36) (.int .i64 z) = entsC (es.set k (setSeq e z))
  | [], _, k, e, z, h => by simp at h
  | a :: es, hok, 0, e, z, h => by
    simp at h
    subst h
    rfl
  | a :: es, hok, k + 1, e, z, h => by
    have ih := ents_set0 es (fun x hx => hok x (List.mem_cons_of_mem _ hx)) k e z (by simpa using h)
    have hl := entC_length a (hok a List.mem_cons_self)
    have e1 : entsC (a :: es) = entC a ++ entsC es := by simp [entsC]
    have e2 : entsC ((a :: es).set (k + 1) (setSeq e z)) = entC a ++ entsC (es.set k (setSeq e z)) := by simp [entsC]
    rw [e1, e2, ← ih, List.set_append_right _ _ (by omega)]
    congr 2
    omega
theorem ents_set (es : List Ent32) (hok : ∀ e ∈ es, e.ok) (k : Nat) (e : Ent32) (z : Int) (h : es[k]? = some e) : (entsC es).set (0 + k * 36 + 0) (.int .i64 z) = entsC (es.set k (setSeq e z)) := ents_set0 es hok k e z h
theorem set_set (es : List Ent32) (k : Nat) (e : Ent32) (z : Int) (h : es[k]? = some e) : (es.set k (setSeq e z)).set k (setSeq (setSeq e z) e.seq) = es := by
  rw [List.set_set]
  apply List.ext_getElem?
  intro i
  rw [List.getElem?_set]
  split
  · rename_i hi; subst hi
    have := (List.getElem?_eq_some_iff.1 h).1
    rw [if_pos this, h]
    rfl
  · rfl
theorem good_one (D : List Ent32) (h : 0 < D.length) : goodE (reS D D.length) 1 = true := by
  obtain ⟨e, he⟩ : ∃ e, D[0]? = some e := ⟨_, List.getElem?_eq_getElem h⟩
  rw [goodE, reS_get D 0 e he]
  simp [goodE, okE, setSeq]
theorem good_step (D : List Ent32) (j : Nat) (e p : Ent32) (h0 : 0 < j) (he : D[j]? = some e) (hp : D[j - 1]? = some p) : goodE (reS D D.length) (j + 1) = (goodE (reS D D.length) j && !decide (e.clk.toNat < p.clk.toNat)) := by
  rw [goodE, reS_get D j e he]
  congr 1
  have hd : (reS D D.length).getD (j - 1) (setSeq e (j : Int)) = setSeq p ((j - 1 : Nat) : Int) := by rw [List.getD_eq_getElem?_getD, reS_get D (j - 1) p hp]; rfl
  show okE _ j (setSeq e (j : Int)) = _
  rw [okE, hd]
  have h1 : decide ((setSeq e (j : Int)).seq = (j : Int)) = true := decide_eq_true rfl
  rw [h1, decide_eq_false (show ¬ j = 0 by omega), Bool.true_and, Bool.false_or]
  rfl
attribute [local irreducible] Calls Walk1 WalkTo Tri EndA
theorem chainOut_walk (layer : Int) (hl : okI layer) (v : Value) (es : List Ent32) (hok : ∀ e ∈ es, e.ok) (cut : Int) (hcu : okI cut) (w : World) (hv : FS w 36 v es.length (entsC es)) :
    Calls Try.prog 19 #[.int .i64 layer, v, .int .i64 cut] w fun e w' => e = .returned (.bool true) ∧ Below w.heap.size w w' := by
  obtain ⟨D, u, _, _, hD10, hDok, hfx, hcv⟩ := few32_cut hv hok
  have hrd := hv.rd
  have hsl := hv.2
  have cf := fun w h => few32_any v es.length (entsC es) w ⟨h, hsl⟩
  rw [hcv] at cf
  have hdr := hfx.rd
  have cw := fun w => works32_any w
  clear hcv hsl hfx
  by_cases hD0 : D.length = 0
  · refine calls_tri Try.func19 rfl Try.ntmps19 rfl ?_
    repeat (first | (show Walk1 _ _ _ (_ :: _) _ _; first | (show Walk1 _ _ _ (⟨_, .move _, _, _, _, _⟩ :: _) _ _; first | refine walk1_t (op_move rfl rfl rfl rfl) ?_) | (show Walk1 _ _ _ (⟨_, .assign _, _, _, _, _⟩ :: _) _ _; first | refine walk1_t (op_assign rfl rfl rfl rfl) ?_) | (show Walk1 _ _ _ (⟨_, .binOp .eql _ _ _ _, _, _, _, _⟩ :: _) _ _; first | refine walk1_t (op_eqN rfl rfl rfl (by first | exact evN_const rfl | exact rfl) (by first | exact evN_const rfl | exact rfl)) ?_) | (show Walk1 _ _ _ (⟨_, .call ⟨.builtin .len, _, _⟩, _, _, _, _⟩ :: _) _ _; first | refine walk1_t (op_lenF rfl rfl rfl (by first | assumption | exact FS.rd (by first | assumption | exact FSX.fs (by assumption) | (refine FS.cutB (by assumption) ?_; omega) | (refine FS.cut (by assumption) ?_; omega)))) ?_) | (show Walk1 _ _ _ (⟨_, .call ⟨.value (.func 53), _, _⟩, _, _, _, _⟩ :: _) _ _; first | (refine walk1_callM rfl rfl rfl rfl (by repeat (first | exact evs_nil | apply evs_cons rfl)) rfl ?_; refine ⟨_, _, callM_1 (rdn_old hrd (by omega) rfl) (fun e w h1 => cf w h1), ?_⟩)) | (show Walk1 _ _ _ (⟨_, .call ⟨.value (.func 57), _, _⟩, _, _, _, _⟩ :: _) _ _; first | ((first | refine walk1_call rfl rfl rfl rfl (by repeat (first | exact evs_nil | apply evs_cons rfl)) rfl ?_ | refine walk1_call0 rfl rfl rfl (by repeat (first | exact evs_nil | apply evs_cons rfl)) rfl ?_); refine ⟨_, fun e w => cw w, ?_⟩))) | refine tri_seq ?_ | refine tri_block ?_ | refine tri_scope ?_ | refine tri_skip ?_ | refine tri_label ?_ | refine tri_ret ?_ | refine tri_exit ?_ | refine end_seq ?_ | refine end_block_exit ?_ | refine end_block_other rfl ?_ | refine end_block ?_ | refine end_block_ret ?_ | refine end_then_exit ?_ | refine end_then_ret ?_ | refine end_then ?_ | refine end_scope (fun _ h => by cases h) ?_ | refine tri_reg ?_ | refine tri_draw ?_ | refine walk1_end ?_ | (refine walk_endD ?_ ?_; (· kernel_rfl)) | refine tri_yes rfl (by first | omega | (simp <;> fail) | assumption) ?_ | refine tri_no rfl (by first | omega | (simp <;> fail) | assumption) ?_ | refine tri_true rfl (by first | with_reducible rfl | with_reducible exact Bool.not_false | with_reducible assumption) ?_ | refine tri_false rfl (by first | with_reducible rfl | with_reducible exact Bool.not_true | with_reducible assumption) ?_)
    refine end_ret (.c (.bool true)) (res_tmp rfl (by first | rfl | simp)) ?_
    exact fin_below fun _ => rfl
  obtain ⟨_, k, hk, rfl, hz2, hz3, hz4⟩ := cut_mod cut D.length (by omega)
  -- the entries with their places' numbers; one number more
  have hMok := reS_ok D hDok (by omega)
  have hMl := reS_length D D.length (Nat.le_refl _)
  obtain ⟨ek, hek⟩ : ∃ e, D[k]? = some e := ⟨_, List.getElem?_eq_getElem hk⟩
  have hMk := reS_get D k ek hek
  have hM'ok : ∀ e ∈ (reS D D.length).set k (setSeq (setSeq ek k) ((k + 1 : Nat) : Int)), e.ok := fun e he => by
    rcases List.mem_or_eq_of_mem_set he with h | h
    · exact hMok e h
    · rw [h]
      exact setSeq_ok (hMok _ (List.mem_of_getElem? hMk)) (by constructor <;> omega)
  have hM'l : ((reS D D.length).set k (setSeq (setSeq ek k) ((k + 1 : Nat) : Int))).length = D.length := by rw [List.length_set, hMl]
  have hM'k : ((reS D D.length).set k (setSeq (setSeq ek k) ((k + 1 : Nat) : Int)))[k]? = some (setSeq (setSeq ek k) ((k + 1 : Nat) : Int)) := List.getElem?_set_self (by rw [hMl]; exact hk)
  have hget := ents_at _ hMok k 0 _ _ hMk (by omega) rfl
  have hget' := ents_at _ hM'ok k 0 _ _ hM'k (by omega) rfl
  rw [show k * 36 + 0 = 0 + k * 36 by omega] at hget hget'
  have hset := ents_set _ hMok k _ ((k + 1 : Nat) : Int) hMk
  have hset' := ents_set _ hM'ok k _ ((k + 1 - 1 : Nat) : Int) hM'k
  rw [show ((k + 1 - 1 : Nat) : Int) = (setSeq ek k).seq from rfl, set_set _ _ _ _ hMk, show (setSeq ek k).seq = ((k + 1 - 1 : Nat) : Int) from rfl] at hset'
  have hbad : verL layer ((reS D D.length).set k (setSeq (setSeq ek k) ((k + 1 : Nat) : Int))) (headL (startL layer) ((reS D D.length).set k (setSeq (setSeq ek k) ((k + 1 : Nat) : Int)))) = 20 := by
    refine verL_bad (goodE_lt _ k _ hM'k ?_ _ (by rw [hM'l]; exact hk))
    have : decide ((setSeq (setSeq ek k) ((k + 1 : Nat) : Int)).seq = (k : Int)) = false := decide_eq_false (by show ((k + 1 : Nat) : Int) ≠ _; omega)
    rw [okE, this, Bool.false_and]
  have hgs := good_step D
  have hg1 := good_one D (by omega)
  have hmclk := fun j e h => ents_clk _ hMok j _ (reS_get D j e h)
  have cH : ∀ M : List Ent32, M.length = D.length → (∀ e ∈ M, e.ok) → ∀ v w, RdV w 36 v D.length (entsC M) → Calls Try.prog 54 #[.int .i64 layer, v] w fun e w' => e = .returned (.agg (vals .u8 (headL (startL layer) M))) ∧ Below w.heap.size w w' := fun M hl' hok' v w h => chHead_any layer hl v M hok' (by omega) w (by rw [hl']; exact h)
  have cV : ∀ M : List Ent32, M.length = D.length → (∀ e ∈ M, e.ok) → ∀ v w, RdV w 36 v D.length (entsC M) → Calls Try.prog 70 #[.int .i64 layer, v, .agg (vals .u8 (headL (startL layer) M))] w fun e w' => e = .returned (.int .i64 (verL layer M (headL (startL layer) M))) ∧ Below w.heap.size w w' := fun M hl' hok' v w h => chVerify_any layer hl v M hok' (by omega) _ (headL_length _ _ (startL_length layer)) w (by rw [hl']; exact h)
  have hHl := fun M => headL_length (startL layer) M (startL_length layer)
  have cH1 := cH _ hM'l hM'ok
  have cV1 := cV _ hM'l hM'ok
  rw [hbad] at cV1
  have cH2 := cH _ hMl hMok
  have cV2 := cV _ hMl hMok
  have hv2 : verL layer (reS D D.length) (headL (startL layer) (reS D D.length)) = if goodE (reS D D.length) D.length then 0 else 20 := by
    rw [verL, hMl, beq_self_eq_true, Bool.and_true]
  have hMel := ents_len _ hMok
  have hM'el := ents_len _ hM'ok
  rw [hMl] at hMel
  rw [hM'l] at hM'el
  have hl1 := hHl (reS D D.length)
  have hl2 := hHl ((reS D D.length).set k (setSeq (setSeq ek k) ((k + 1 : Nat) : Int)))
  have hrow := ents_row D hDok
  have hel := ents_len D hDok
  have hnew := fun j e h => (entsC_snoc (reS D j) (setSeq e (j : Int))).trans (congrArg entsC (reS_next D j e h).symm)
  have hr0 : reS D 0 = [] := rfl
  clear cH cV hHl hMok hM'ok hMl hM'l hMk hM'k hbad hek hel
  have hel := ents_len D hDok
  generalize (reS D D.length).set k (setSeq (setSeq ek k) ((k + 1 : Nat) : Int)) = M' at *
  generalize verL layer (reS D D.length) (headL (startL layer) (reS D D.length)) = V2 at *
  generalize headL (startL layer) M' = H' at *
  generalize headL (startL layer) (reS D D.length) = H at *
  generalize hM : reS D D.length = M at *
  obtain ⟨q1, q2⟩ := hcu
  refine calls_tri Try.func19 rfl Try.ntmps19 rfl ?_
  repeat (first | (show Walk1 _ _ _ (_ :: _) _ _; first | (show Walk1 _ _ _ (⟨_, .move _, _, _, _, _⟩ :: _) _ _; first | refine walk1_t (op_moveN rfl rfl rfl rfl) ?_ | refine walk1_t (op_move rfl rfl rfl rfl) ?_) | (show Walk1 _ _ _ (⟨_, .assign _, _, _, _, _⟩ :: _) _ _; first | refine walk1_t (op_assign rfl rfl rfl rfl) ?_) | (show Walk1 _ _ _ (⟨_, .binOp .eql _ _ _ _, _, _, _, _⟩ :: _) _ _; first | refine walk1_t (op_eqN rfl rfl rfl (by first | exact evN_const rfl | exact rfl) (by first | exact evN_const rfl | exact rfl)) ?_) | (show Walk1 _ _ _ (⟨_, .call ⟨.builtin .len, _, _⟩, _, _, _, _⟩ :: _) _ _; first | refine walk1_t (op_lenF rfl rfl rfl (by first | assumption | exact FS.rd (by first | assumption | exact FSX.fs (by assumption) | (refine FS.cutB (by assumption) ?_; omega) | (refine FS.cut (by assumption) ?_; omega)))) ?_) | (show Walk1 _ _ _ (⟨_, .call ⟨.value (.func 53), _, _⟩, _, _, _, _⟩ :: _) _ _; first | (refine walk1_callM rfl rfl rfl rfl (by repeat (first | exact evs_nil | apply evs_cons rfl)) rfl ?_; refine ⟨_, _, callM_1 (rdn_old hrd (by omega) rfl) (fun e w h1 => cf w h1), ?_⟩))) | refine tri_seq ?_ | refine tri_block ?_ | refine tri_scope ?_ | refine tri_skip ?_ | refine tri_label ?_ | refine tri_ret ?_ | refine tri_exit ?_ | refine end_seq ?_ | refine end_block_exit ?_ | refine end_block_other rfl ?_ | refine end_block ?_ | refine end_block_ret ?_ | refine end_then_exit ?_ | refine end_then_ret ?_ | refine end_then ?_ | refine end_scope (fun _ h => by cases h) ?_ | refine tri_reg ?_ | refine tri_draw ?_ | refine walk1_end ?_ | (refine walk_endD ?_ ?_; (· kernel_rfl)) | refine tri_yes rfl (by first | omega | (simp <;> fail) | assumption) ?_ | refine tri_no rfl (by first | omega | (simp <;> fail) | assumption) ?_ | refine tri_true rfl (by first | with_reducible rfl | with_reducible exact Bool.not_false | with_reducible assumption) ?_ | refine tri_false rfl (by first | with_reducible rfl | with_reducible exact Bool.not_true | with_reducible assumption) ?_)
  refine tri_ent (ent_nil (i := 7) (n := 7) 74 36 rfl (by kernel_rfl)) ?_
  refine tri_loop (X := Nat) (fun j => ⟨[(21, SV.c (.int .i64 ((j : Nat) : Int))), (20, SV.c (.int .i64 ((D.length : Nat) : Int))), (19, .c u), (7, .v 7), (2, .c (.int .i64 cut)), (0, .c (.int .i64 layer))], [(7, some (.own 7 74 36 j (entsC (reS D j))))]⟩)
    (fun j => j ≤ D.length) (fun j => D.length - j) 0 (by omega) (by rw [hr0]; exact ent_keep (by repeat (first | exact hasT_nil | refine hasT_cons rfl ?_ | refine hasT_eq rfl (svi (by omega)) ?_)) (by repeat (first | exact hasR_nil | refine hasR_cons rfl ?_))) ?_
  intro j hj K next
  by_cases h : j < D.length
  · obtain ⟨e, hej⟩ : ∃ e, D[j]? = some e := ⟨_, List.getElem?_eq_getElem h⟩
    have he := hDok e (List.mem_of_getElem? hej)
    have hr := hrow j e hej
    have hn := hnew j e hej
    have he' : (setSeq e (j : Int)).ok := setSeq_ok he (by constructor <;> omega)
    have hsz : (entC e).toArray.size = 36 := by rw [List.size_toArray]; exact entC_length e he
    have hall := entC_all e
    have hsetE : (entC e).toArray.setIfInBounds 0 (.int .i64 ((j : Nat) : Int)) = (entC (setSeq e (j : Int))).toArray := by simp [entC, setSeq]
    have hel' := entC_length _ he'
    have hsz' : (entC (setSeq e (j : Int))).toArray.size = 36 := by rw [List.size_toArray]; exact hel'
    have hone' := entC_one (setSeq e (j : Int))
    rw [show j * 36 = 0 + j * 36 by omega] at hr
    generalize entC (setSeq e (j : Int)) = B' at *
    generalize entC e = B at *
    generalize hR1 : entsC (reS D (j + 1)) = R1 at *
    generalize entsC (reS D j) = R at *
    have hn' := next
    clear next hnew hrow hmclk hgs
    repeat (first | (show Walk1 _ _ _ (_ :: _) _ _; first | (show Walk1 _ _ _ (⟨_, .move _, _, _, _, _⟩ :: _) _ _; first | refine walk1_t (op_move rfl rfl rfl rfl) ?_) | (show Walk1 _ _ _ (⟨_, .assign _, _, _, _, _⟩ :: _) _ _; first | refine walk1_t (op_assign rfl rfl rfl rfl) ?_) | (show Walk1 _ _ _ (⟨_, .binOp .add _ _ _ _, _, _, _, _⟩ :: _) _ _; first | refine walk1_t (op_addN rfl rfl rfl (by first | exact evN_const rfl | exact rfl) (by first | exact evN_const rfl | exact rfl) (by omega)) ?_) | (show Walk1 _ _ _ (⟨_, .binOp .lss _ _ _ _, _, _, _, _⟩ :: _) _ _; first | refine walk1_t (op_ltN rfl rfl rfl (by first | exact evN_const rfl | exact rfl) (by first | exact evN_const rfl | exact rfl)) ?_) | (show Walk1 _ _ _ (⟨_, .indexAddr _ _ _, _, _, _, _⟩ :: _) _ _; first | refine walk1_t (op_idxF rfl rfl rfl rfl (by first | exact evK_const rfl | exact evK_tmp rfl) rfl rfl (by first | assumption | exact FS.rd (by first | assumption | exact FSX.fs (by assumption) | (refine FS.cutB (by assumption) ?_; omega) | (refine FS.cut (by assumption) ?_; omega))) (by first | omega | decide) rfl) ?_) | (show Walk1 _ _ _ (⟨_, .load _ _, _, _, _, _⟩ :: _) _ _; first | refine walk1_t (op_loadsC rfl rfl rfl rfl rfl rfl rfl rfl (sm_c (by assumption)) ag_c) ?_ | refine walk1_t (op_loadsF rfl rfl rfl rfl rfl (by first | assumption | exact FS.rd (by first | assumption | exact FSX.fs (by assumption) | (refine FS.cutB (by assumption) ?_; omega) | (refine FS.cut (by assumption) ?_; omega))) rfl rfl rfl (by decide) (by first | omega | decide) (by first | (with_reducible assumption) | rfl)) ?_) | (show Walk1 _ _ _ (⟨_, .store _ _ _, _, _, _, _⟩ :: _) _ _; first | refine walk1_b (op_storeK rfl rfl rfl rfl rfl rfl rfl rfl (by with_reducible assumption) (by decide) (by with_reducible assumption)) ?_ | refine walk1_b (op_storesC rfl rfl rfl rfl rfl rfl rfl (by with_reducible assumption) (by with_reducible assumption)) ?_) | (show Walk1 _ _ _ (⟨_, .alloc _, _, _, _, _⟩ :: _) _ _; first | refine walk1_n (op_alloc rfl rfl rfl rfl rfl) (by kernel_rfl) ?_) | (show Walk1 _ _ _ (⟨_, .fieldAddr _ _ _, _, _, _, _⟩ :: _) _ _; first | refine walk1_t (op_fldT rfl rfl rfl rfl rfl rfl off_zero) ?_) | (show Walk1 _ _ _ (⟨_, .call ⟨.builtin .append, _, _⟩, _, _, _, _⟩ :: _) _ _; first | refine walk1_g (op_appendE rfl rfl rfl rfl rfl rfl rfl rfl rfl rfl (by decide) (by first | (with_reducible assumption) | rfl) (by first | (with_reducible assumption) | rfl) (by omega) rfl) (by kernel_rfl) ?_) | (show Walk1 _ _ _ (⟨_, .buildSlice _ _ _, _, _, _, _⟩ :: _) _ _; first | refine walk1_n (op_bslice1 rfl rfl rfl rfl rfl rfl rfl rfl rfl rfl rfl ce_c (sm_c (by with_reducible assumption)) (by kernel_rfl)) (by kernel_rfl) ?_)) | refine tri_seq ?_ | refine tri_block ?_ | refine tri_scope ?_ | refine tri_skip ?_ | refine tri_label ?_ | refine tri_ret ?_ | refine tri_exit ?_ | refine end_seq ?_ | refine end_block_exit ?_ | refine end_block_other rfl ?_ | refine end_block ?_ | refine end_block_ret ?_ | refine end_then_exit ?_ | refine end_then_ret ?_ | refine end_then ?_ | refine end_scope (fun _ h => by cases h) ?_ | refine tri_reg ?_ | refine tri_draw ?_ | refine walk1_end ?_ | (refine walk_endD ?_ ?_; (· kernel_rfl)) | refine tri_yes rfl (by first | omega | (simp <;> fail) | assumption) ?_ | refine tri_no rfl (by first | omega | (simp <;> fail) | assumption) ?_ | refine tri_true rfl (by first | with_reducible rfl | with_reducible exact Bool.not_false | with_reducible assumption) ?_ | refine tri_false rfl (by first | with_reducible rfl | with_reducible exact Bool.not_true | with_reducible assumption) ?_)
    rw [hn, ← hR1]
    exact hn' _ (j + 1) (by omega) (by omega) (ent_ren (fun n => cond (Nat.beq n 7) 31 n) (by repeat (first | exact hasTm_nil | refine hasTm_cons rfl (fun _ => rfl) ?_)) (by repeat (first | exact hasRm_nil | refine hasRm_cons rfl (fun _ => rfl) (fun _ _ h => h) rfl ?_)) (by kernel_rfl))
  obtain rfl : j = D.length := by omega
  rw [hM]
  clear next hnew hrow hr0
  repeat (first | (show Walk1 _ _ _ (_ :: _) _ _; first | (show Walk1 _ _ _ (⟨_, .move _, _, _, _, _⟩ :: _) _ _; first | refine walk1_t (op_move rfl rfl rfl rfl) ?_) | (show Walk1 _ _ _ (⟨_, .assign _, _, _, _, _⟩ :: _) _ _; first | refine walk1_t (op_assignN rfl rfl rfl rfl) ?_ | refine walk1_t (op_assign rfl rfl rfl rfl) ?_) | (show Walk1 _ _ _ (⟨_, .binOp .add _ _ _ _, _, _, _, _⟩ :: _) _ _; first | refine walk1_t (op_addN rfl rfl rfl (by first | exact evN_const rfl | exact rfl) (by first | exact evN_const rfl | exact rfl) (by omega)) ?_ | refine walk1_t (op_addI rfl rfl rfl rfl rfl (by omega)) ?_) | (show Walk1 _ _ _ (⟨_, .binOp .sub _ _ _ _, _, _, _, _⟩ :: _) _ _; first | refine walk1_t (op_subN rfl rfl rfl (by first | exact evN_const rfl | exact rfl) (by first | exact evN_const rfl | exact rfl) (by omega)) ?_) | (show Walk1 _ _ _ (⟨_, .binOp .rem _ _ _ _, _, _, _, _⟩ :: _) _ _; first | refine walk1_t (op_remK rfl rfl rfl rfl rfl (by omega) (by with_reducible assumption)) ?_ | refine walk1_t (op_remI rfl rfl rfl rfl rfl (by omega)) ?_) | (show Walk1 _ _ _ (⟨_, .binOp .lss _ _ _ _, _, _, _, _⟩ :: _) _ _; first | refine walk1_t (op_ltN rfl rfl rfl (by first | exact evN_const rfl | exact rfl) (by first | exact evN_const rfl | exact rfl)) ?_) | (show Walk1 _ _ _ (⟨_, .binOp .neq _ _ _ _, _, _, _, _⟩ :: _) _ _; first | refine walk1_t (op_neN rfl rfl rfl (by first | exact evN_const rfl | exact rfl) (by first | exact evN_const rfl | exact rfl)) ?_) | (show Walk1 _ _ _ (⟨_, .indexAddr _ _ _, _, _, _, _⟩ :: _) _ _; first | refine walk1_t (op_idxV rfl rfl rfl rfl rfl (by first | exact evK_const rfl | exact evK_tmp rfl) rfl rfl (by first | omega | decide) rfl) ?_) | (show Walk1 _ _ _ (⟨_, .load _ _, _, _, _, _⟩ :: _) _ _; first | refine walk1_t (op_loadV rfl rfl rfl rfl rfl rfl rfl (by assumption)) ?_) | (show Walk1 _ _ _ (⟨_, .store _ _ _, _, _, _, _⟩ :: _) _ _; first | refine walk1_b (op_storeZ rfl rfl rfl rfl rfl rfl rfl rfl rfl (by first | omega | decide) (by with_reducible assumption)) ?_) | (show Walk1 _ _ _ (⟨_, .fieldAddr _ _ _, _, _, _, _⟩ :: _) _ _; first | refine walk1_t (op_fldV rfl rfl rfl rfl rfl (by omega) rfl rfl rfl) ?_) | (show Walk1 _ _ _ (⟨_, .call ⟨.builtin .len, _, _⟩, _, _, _, _⟩ :: _) _ _; first | refine walk1_t (op_lenV rfl rfl rfl rfl) ?_) | (show Walk1 _ _ _ (⟨_, .call ⟨.value (.func 54), _, _⟩, _, _, _, _⟩ :: _) _ _; first | (refine walk1_callM rfl rfl rfl rfl (by repeat (first | exact evs_nil | apply evs_cons rfl)) rfl ?_; refine ⟨_, _, callM_1 (rdn_own rfl) (fun e w h1 => cH1 _ w h1), ?_⟩)) | (show Walk1 _ _ _ (⟨_, .call ⟨.value (.func 70), _, _⟩, _, _, _, _⟩ :: _) _ _; first | (refine walk1_callM rfl rfl rfl rfl (by repeat (first | exact evs_nil | apply evs_cons rfl)) rfl ?_; refine ⟨_, _, callM_1 (rdn_own rfl) (fun e w h1 => cV1 _ w h1), ?_⟩))) | refine tri_seq ?_ | refine tri_block ?_ | refine tri_scope ?_ | refine tri_skip ?_ | refine tri_label ?_ | refine tri_ret ?_ | refine tri_exit ?_ | refine end_seq ?_ | refine end_block_exit ?_ | refine end_block_other rfl ?_ | refine end_block ?_ | refine end_block_ret ?_ | refine end_then_exit ?_ | refine end_then_ret ?_ | refine end_then ?_ | refine end_scope (fun _ h => by cases h) ?_ | refine tri_reg ?_ | refine tri_draw ?_ | refine walk1_end ?_ | (refine walk_endD ?_ ?_; (· kernel_rfl)) | refine tri_yes rfl (by first | omega | (simp <;> fail) | assumption) ?_ | refine tri_no rfl (by first | omega | (simp <;> fail) | assumption) ?_ | refine tri_true rfl (by first | with_reducible rfl | with_reducible exact Bool.not_false | with_reducible assumption) ?_ | refine tri_false rfl (by first | with_reducible rfl | with_reducible exact Bool.not_true | with_reducible assumption) ?_)
  refine tri_loop (X := Nat) (fun j => ⟨[(12, SV.c (.int .i64 ((j : Nat) : Int))), (11, .c (.bool (!goodE M j))), (7, .v 7), (0, .c (.int .i64 layer))], [(7, some (.own 7 74 36 D.length (entsC M)))]⟩)
    (fun j => 1 ≤ j ∧ j ≤ D.length) (fun j => D.length - j) 1 (by omega) (by rw [hg1]; exact ent_keep (by repeat (first | exact hasT_nil | refine hasT_cons rfl ?_ | refine hasT_eq rfl (svi (by omega)) ?_)) (by repeat (first | exact hasR_nil | refine hasR_cons rfl ?_))) ?_
  rintro j ⟨hj1, hj⟩ K next
  by_cases h : j < D.length
  · obtain ⟨e, hej⟩ : ∃ e, D[j]? = some e := ⟨_, List.getElem?_eq_getElem h⟩
    obtain ⟨p, hpj⟩ : ∃ p, D[j - 1]? = some p := ⟨_, List.getElem?_eq_getElem (by omega)⟩
    have c1 : (entsC M)[0 + j * 36 + 1]? = some (.int .u32 (bvi e.clk)) := by
      have := hmclk j e hej
      rw [show 0 + j * 36 + 1 = j * 36 + 1 by omega]
      exact this
    have c2 : (entsC M)[0 + (j - 1) * 36 + 1]? = some (.int .u32 (bvi p.clk)) := by
      have := hmclk (j - 1) p hpj
      rw [show 0 + (j - 1) * 36 + 1 = (j - 1) * 36 + 1 by omega]
      exact this
    have hst := hgs j e p (by omega) hej hpj
    have hn' := next
    clear next hmclk hgs
    generalize hg : goodE M j = g at *
    cases g
    · repeat (first | (show Walk1 _ _ _ (_ :: _) _ _; first | (show Walk1 _ _ _ (⟨_, .move _, _, _, _, _⟩ :: _) _ _; first | refine walk1_t (op_move rfl rfl rfl rfl) ?_) | (show Walk1 _ _ _ (⟨_, .assign _, _, _, _, _⟩ :: _) _ _; first | refine walk1_t (op_assign rfl rfl rfl rfl) ?_) | (show Walk1 _ _ _ (⟨_, .binOp .add _ _ _ _, _, _, _, _⟩ :: _) _ _; first | refine walk1_t (op_addN rfl rfl rfl (by first | exact evN_const rfl | exact rfl) (by first | exact evN_const rfl | exact rfl) (by omega)) ?_) | (show Walk1 _ _ _ (⟨_, .binOp .lss _ _ _ _, _, _, _, _⟩ :: _) _ _; first | refine walk1_t (op_ltN rfl rfl rfl (by first | exact evN_const rfl | exact rfl) (by first | exact evN_const rfl | exact rfl)) ?_) | (show Walk1 _ _ _ (⟨_, .call ⟨.builtin .len, _, _⟩, _, _, _, _⟩ :: _) _ _; first | refine walk1_t (op_lenV rfl rfl rfl rfl) ?_)) | (show WalkTo _ _ _ _ (_ :: _) _ _ _; first | (show WalkTo _ _ _ _ (⟨_, _, _, _, _, some _⟩ :: _) _ _ _; first | refine walk_no rfl rfl (by first | exact decide_eq_true (by omega) | exact decide_eq_false (by omega) | rfl | (show _ = true; with_reducible assumption) | (show _ = false; with_reducible assumption) | (simp <;> fail) | omega) rfl ?_) | (show WalkTo _ _ _ _ (⟨_, .move _, _, _, _, _⟩ :: _) _ _ _; first | refine walk_t (op_move rfl rfl rfl rfl) ?_) | (show WalkTo _ _ _ _ (⟨_, .assign _, _, _, _, _⟩ :: _) _ _ _; first | refine walk_t (op_assign rfl rfl rfl rfl) ?_) | (show WalkTo _ _ _ _ (⟨_, .pick _ _ _, _, _, _, _⟩ :: _) _ _ _; first | refine walk_t (op_pickY rfl rfl rfl rfl (by first | exact decide_eq_true (by omega) | exact decide_eq_false (by omega) | rfl | (show _ = true; with_reducible assumption) | (show _ = false; with_reducible assumption) | (simp <;> fail) | omega) rfl) ?_)) | refine tri_seq ?_ | refine tri_block ?_ | refine tri_scope ?_ | refine tri_skip ?_ | refine tri_label ?_ | refine tri_ret ?_ | refine tri_exit ?_ | refine end_seq ?_ | refine end_block_exit ?_ | refine end_block_other rfl ?_ | refine end_block ?_ | refine end_block_ret ?_ | refine end_then_exit ?_ | refine end_then_ret ?_ | refine end_then ?_ | refine end_scope (fun _ h => by cases h) ?_ | refine tri_reg ?_ | refine tri_draw ?_ | refine walk1_end ?_ | (refine walk_endD ?_ ?_; (· kernel_rfl)) | refine tri_yes rfl (by first | omega | (simp <;> fail) | assumption) ?_ | refine tri_no rfl (by first | omega | (simp <;> fail) | assumption) ?_ | refine tri_true rfl (by first | with_reducible rfl | with_reducible exact Bool.not_false | with_reducible assumption) ?_ | refine tri_false rfl (by first | with_reducible rfl | with_reducible exact Bool.not_true | with_reducible assumption) ?_)
      refine hn' _ (j + 1) ⟨by omega, by omega⟩ (by omega) ?_
      rw [hst]
      exact ent_keep (by repeat (first | exact hasT_nil | refine hasT_cons rfl ?_ | refine hasT_eq rfl (svi (by omega)) ?_)) (by repeat (first | exact hasR_nil | refine hasR_cons rfl ?_))
    · repeat (first | (show Walk1 _ _ _ (_ :: _) _ _; first | (show Walk1 _ _ _ (⟨_, .move _, _, _, _, _⟩ :: _) _ _; first | refine walk1_t (op_move rfl rfl rfl rfl) ?_) | (show Walk1 _ _ _ (⟨_, .assign _, _, _, _, _⟩ :: _) _ _; first | refine walk1_t (op_assign rfl rfl rfl rfl) ?_) | (show Walk1 _ _ _ (⟨_, .binOp .add _ _ _ _, _, _, _, _⟩ :: _) _ _; first | refine walk1_t (op_addN rfl rfl rfl (by first | exact evN_const rfl | exact rfl) (by first | exact evN_const rfl | exact rfl) (by omega)) ?_) | (show Walk1 _ _ _ (⟨_, .binOp .lss _ _ _ _, _, _, _, _⟩ :: _) _ _; first | refine walk1_t (op_ltN rfl rfl rfl (by first | exact evN_const rfl | exact rfl) (by first | exact evN_const rfl | exact rfl)) ?_) | (show Walk1 _ _ _ (⟨_, .call ⟨.builtin .len, _, _⟩, _, _, _, _⟩ :: _) _ _; first | refine walk1_t (op_lenV rfl rfl rfl rfl) ?_)) | (show WalkTo _ _ _ _ (_ :: _) _ _ _; first | (show WalkTo _ _ _ _ (⟨_, _, _, _, _, some _⟩ :: _) _ _ _; first | refine walk_yes rfl rfl (by first | exact decide_eq_true (by omega) | exact decide_eq_false (by omega) | rfl | (show _ = true; with_reducible assumption) | (show _ = false; with_reducible assumption) | (simp <;> fail) | omega) ?_) | (show WalkTo _ _ _ _ (⟨_, .move _, _, _, _, _⟩ :: _) _ _ _; first | refine walk_t (op_move rfl rfl rfl rfl) ?_) | (show WalkTo _ _ _ _ (⟨_, .assign _, _, _, _, _⟩ :: _) _ _ _; first | refine walk_t (op_assign rfl rfl rfl rfl) ?_) | (show WalkTo _ _ _ _ (⟨_, .binOp .sub _ _ _ _, _, _, _, _⟩ :: _) _ _ _; first | refine walk_t (op_subN rfl rfl rfl (by first | exact evN_const rfl | exact rfl) (by first | exact evN_const rfl | exact rfl) (by omega)) ?_) | (show WalkTo _ _ _ _ (⟨_, .binOp .lss _ _ _ _, _, _, _, _⟩ :: _) _ _ _; first | refine walk_t (op_ltB rfl rfl rfl (by (first | exact evB_tmp rfl | exact evB_lit rfl rfl)) (by (first | exact evB_tmp rfl | exact evB_lit rfl rfl))) ?_) | (show WalkTo _ _ _ _ (⟨_, .pick _ _ _, _, _, _, _⟩ :: _) _ _ _; first | refine walk_t (op_pickN rfl rfl rfl rfl (by first | exact decide_eq_true (by omega) | exact decide_eq_false (by omega) | rfl | (show _ = true; with_reducible assumption) | (show _ = false; with_reducible assumption) | (simp <;> fail) | omega) rfl) ?_) | (show WalkTo _ _ _ _ (⟨_, .indexAddr _ _ _, _, _, _, _⟩ :: _) _ _ _; first | refine walk_t (op_idxV rfl rfl rfl rfl rfl (by first | exact evK_const rfl | exact evK_tmp rfl) rfl rfl (by first | omega | decide) rfl) ?_) | (show WalkTo _ _ _ _ (⟨_, .load _ _, _, _, _, _⟩ :: _) _ _ _; first | refine walk_t (op_loadV rfl rfl rfl rfl rfl rfl rfl (by assumption)) ?_) | (show WalkTo _ _ _ _ (⟨_, .fieldAddr _ _ _, _, _, _, _⟩ :: _) _ _ _; first | refine walk_t (op_fldV rfl rfl rfl rfl rfl (by omega) rfl rfl rfl) ?_)) | refine tri_seq ?_ | refine tri_block ?_ | refine tri_scope ?_ | refine tri_skip ?_ | refine tri_label ?_ | refine tri_ret ?_ | refine tri_exit ?_ | refine end_seq ?_ | refine end_block_exit ?_ | refine end_block_other rfl ?_ | refine end_block ?_ | refine end_block_ret ?_ | refine end_then_exit ?_ | refine end_then_ret ?_ | refine end_then ?_ | refine end_scope (fun _ h => by cases h) ?_ | refine tri_reg ?_ | refine tri_draw ?_ | refine walk1_end ?_ | (refine walk_endD ?_ ?_; (· kernel_rfl)) | refine tri_yes rfl (by first | omega | (simp <;> fail) | assumption) ?_ | refine tri_no rfl (by first | omega | (simp <;> fail) | assumption) ?_ | refine tri_true rfl (by first | with_reducible rfl | with_reducible exact Bool.not_false | with_reducible assumption) ?_ | refine tri_false rfl (by first | with_reducible rfl | with_reducible exact Bool.not_true | with_reducible assumption) ?_)
      refine hn' _ (j + 1) ⟨by omega, by omega⟩ (by omega) ?_
      rw [hst, Bool.true_and, Bool.not_not]
      exact ent_keep (by repeat (first | exact hasT_nil | refine hasT_cons rfl ?_ | refine hasT_eq rfl (svi (by omega)) ?_)) (by repeat (first | exact hasR_nil | refine hasR_cons rfl ?_))
  · obtain rfl : j = D.length := by omega
    clear next hmclk hgs
    generalize goodE M D.length = g at *
    cases g
    · rw [if_neg (by decide)] at hv2
      subst hv2
      repeat (first | (show Walk1 _ _ _ (_ :: _) _ _; first | (show Walk1 _ _ _ (⟨_, _, _, _, _, some _⟩ :: _) _ _; first | refine walk1_yes rfl rfl (by first | exact decide_eq_true (by omega) | exact decide_eq_false (by omega) | rfl | (show _ = true; with_reducible assumption) | (show _ = false; with_reducible assumption) | (simp <;> fail) | omega) ?_) | (show Walk1 _ _ _ (⟨_, .move _, _, _, _, _⟩ :: _) _ _; first | refine walk1_t (op_move rfl rfl rfl rfl) ?_) | (show Walk1 _ _ _ (⟨_, .assign _, _, _, _, _⟩ :: _) _ _; first | refine walk1_t (op_assign rfl rfl rfl rfl) ?_) | (show Walk1 _ _ _ (⟨_, .binOp .lss _ _ _ _, _, _, _, _⟩ :: _) _ _; first | refine walk1_t (op_ltN rfl rfl rfl (by first | exact evN_const rfl | exact rfl) (by first | exact evN_const rfl | exact rfl)) ?_) | (show Walk1 _ _ _ (⟨_, .binOp .eql _ _ _ _, _, _, _, _⟩ :: _) _ _; first | refine walk1_t (op_eqN rfl rfl rfl (by first | exact evN_const rfl | exact rfl) (by first | exact evN_const rfl | exact rfl)) ?_ | refine walk1_t (op_eqT rfl rfl rfl rfl rfl rfl) ?_) | (show Walk1 _ _ _ (⟨_, .pick _ _ _, _, _, _, _⟩ :: _) _ _; first | refine walk1_t (op_pickY rfl rfl rfl rfl (by first | exact decide_eq_true (by omega) | exact decide_eq_false (by omega) | rfl | (show _ = true; with_reducible assumption) | (show _ = false; with_reducible assumption) | (simp <;> fail) | omega) rfl) ?_) | (show Walk1 _ _ _ (⟨_, .unOp _ _ _, _, _, _, _⟩ :: _) _ _; first | refine walk1_t (op_not rfl rfl rfl rfl) ?_) | (show Walk1 _ _ _ (⟨_, .call ⟨.builtin .len, _, _⟩, _, _, _, _⟩ :: _) _ _; first | refine walk1_t (op_lenV rfl rfl rfl rfl) ?_) | (show Walk1 _ _ _ (⟨_, .call ⟨.value (.func 54), _, _⟩, _, _, _, _⟩ :: _) _ _; first | (refine walk1_callM rfl rfl rfl rfl (by repeat (first | exact evs_nil | apply evs_cons rfl)) rfl ?_; refine ⟨_, _, callM_1 (rdn_own rfl) (fun e w h1 => cH2 _ w h1), ?_⟩)) | (show Walk1 _ _ _ (⟨_, .call ⟨.value (.func 70), _, _⟩, _, _, _, _⟩ :: _) _ _; first | (refine walk1_callM rfl rfl rfl rfl (by repeat (first | exact evs_nil | apply evs_cons rfl)) rfl ?_; refine ⟨_, _, callM_1 (rdn_own rfl) (fun e w h1 => cV2 _ w h1), ?_⟩)) | (show Walk1 _ _ _ (⟨_, .call ⟨.value (.func 57), _, _⟩, _, _, _, _⟩ :: _) _ _; first | ((first | refine walk1_call rfl rfl rfl rfl (by repeat (first | exact evs_nil | apply evs_cons rfl)) rfl ?_ | refine walk1_call0 rfl rfl rfl (by repeat (first | exact evs_nil | apply evs_cons rfl)) rfl ?_); refine ⟨_, fun e w => cw w, ?_⟩))) | refine tri_seq ?_ | refine tri_block ?_ | refine tri_scope ?_ | refine tri_skip ?_ | refine tri_label ?_ | refine tri_ret ?_ | refine tri_exit ?_ | refine end_seq ?_ | refine end_block_exit ?_ | refine end_block_other rfl ?_ | refine end_block ?_ | refine end_block_ret ?_ | refine end_then_exit ?_ | refine end_then_ret ?_ | refine end_then ?_ | refine end_scope (fun _ h => by cases h) ?_ | refine tri_reg ?_ | refine tri_draw ?_ | refine walk1_end ?_ | (refine walk_endD ?_ ?_; (· kernel_rfl)) | refine tri_yes rfl (by first | omega | (simp <;> fail) | assumption) ?_ | refine tri_no rfl (by first | omega | (simp <;> fail) | assumption) ?_ | refine tri_true rfl (by first | with_reducible rfl | with_reducible exact Bool.not_false | with_reducible assumption) ?_ | refine tri_false rfl (by first | with_reducible rfl | with_reducible exact Bool.not_true | with_reducible assumption) ?_)
      refine end_ret (.c (.bool true)) (res_tmp rfl (by first | rfl | simp)) ?_
      exact fin_below fun _ => rfl
    · rw [if_pos rfl] at hv2
      subst hv2
      repeat (first | (show Walk1 _ _ _ (_ :: _) _ _; first | (show Walk1 _ _ _ (⟨_, _, _, _, _, some _⟩ :: _) _ _; first | refine walk1_yes rfl rfl (by first | exact decide_eq_true (by omega) | exact decide_eq_false (by omega) | rfl | (show _ = true; with_reducible assumption) | (show _ = false; with_reducible assumption) | (simp <;> fail) | omega) ?_) | (show Walk1 _ _ _ (⟨_, .move _, _, _, _, _⟩ :: _) _ _; first | refine walk1_t (op_move rfl rfl rfl rfl) ?_) | (show Walk1 _ _ _ (⟨_, .assign _, _, _, _, _⟩ :: _) _ _; first | refine walk1_t (op_assign rfl rfl rfl rfl) ?_) | (show Walk1 _ _ _ (⟨_, .binOp .lss _ _ _ _, _, _, _, _⟩ :: _) _ _; first | refine walk1_t (op_ltN rfl rfl rfl (by first | exact evN_const rfl | exact rfl) (by first | exact evN_const rfl | exact rfl)) ?_) | (show Walk1 _ _ _ (⟨_, .binOp .eql _ _ _ _, _, _, _, _⟩ :: _) _ _; first | refine walk1_t (op_eqN rfl rfl rfl (by first | exact evN_const rfl | exact rfl) (by first | exact evN_const rfl | exact rfl)) ?_ | refine walk1_t (op_eqT rfl rfl rfl rfl rfl rfl) ?_) | (show Walk1 _ _ _ (⟨_, .pick _ _ _, _, _, _, _⟩ :: _) _ _; first | refine walk1_t (op_pickY rfl rfl rfl rfl (by first | exact decide_eq_true (by omega) | exact decide_eq_false (by omega) | rfl | (show _ = true; with_reducible assumption) | (show _ = false; with_reducible assumption) | (simp <;> fail) | omega) rfl) ?_) | (show Walk1 _ _ _ (⟨_, .unOp _ _ _, _, _, _, _⟩ :: _) _ _; first | refine walk1_t (op_not rfl rfl rfl rfl) ?_) | (show Walk1 _ _ _ (⟨_, .call ⟨.builtin .len, _, _⟩, _, _, _, _⟩ :: _) _ _; first | refine walk1_t (op_lenV rfl rfl rfl rfl) ?_) | (show Walk1 _ _ _ (⟨_, .call ⟨.value (.func 54), _, _⟩, _, _, _, _⟩ :: _) _ _; first | (refine walk1_callM rfl rfl rfl rfl (by repeat (first | exact evs_nil | apply evs_cons rfl)) rfl ?_; refine ⟨_, _, callM_1 (rdn_own rfl) (fun e w h1 => cH2 _ w h1), ?_⟩)) | (show Walk1 _ _ _ (⟨_, .call ⟨.value (.func 70), _, _⟩, _, _, _, _⟩ :: _) _ _; first | (refine walk1_callM rfl rfl rfl rfl (by repeat (first | exact evs_nil | apply evs_cons rfl)) rfl ?_; refine ⟨_, _, callM_1 (rdn_own rfl) (fun e w h1 => cV2 _ w h1), ?_⟩)) | (show Walk1 _ _ _ (⟨_, .call ⟨.value (.func 57), _, _⟩, _, _, _, _⟩ :: _) _ _; first | ((first | refine walk1_call rfl rfl rfl rfl (by repeat (first | exact evs_nil | apply evs_cons rfl)) rfl ?_ | refine walk1_call0 rfl rfl rfl (by repeat (first | exact evs_nil | apply evs_cons rfl)) rfl ?_); refine ⟨_, fun e w => cw w, ?_⟩))) | refine tri_seq ?_ | refine tri_block ?_ | refine tri_scope ?_ | refine tri_skip ?_ | refine tri_label ?_ | refine tri_ret ?_ | refine tri_exit ?_ | refine end_seq ?_ | refine end_block_exit ?_ | refine end_block_other rfl ?_ | refine end_block ?_ | refine end_block_ret ?_ | refine end_then_exit ?_ | refine end_then_ret ?_ | refine end_then ?_ | refine end_scope (fun _ h => by cases h) ?_ | refine tri_reg ?_ | refine tri_draw ?_ | refine walk1_end ?_ | (refine walk_endD ?_ ?_; (· kernel_rfl)) | refine tri_yes rfl (by first | omega | (simp <;> fail) | assumption) ?_ | refine tri_no rfl (by first | omega | (simp <;> fail) | assumption) ?_ | refine tri_true rfl (by first | with_reducible rfl | with_reducible exact Bool.not_false | with_reducible assumption) ?_ | refine tri_false rfl (by first | with_reducible rfl | with_reducible exact Bool.not_true | with_reducible assumption) ?_)
      refine end_ret (.c (.bool true)) (res_tmp rfl (by first | rfl | simp)) ?_
      exact fin_below fun _ => rfl
end Go.Proofs.Ytkdflpdemoaifaa
