/- Structs built of parts of which some are slices of their own. No condition. -/
import Derived.Test.YtlhedoodbadmgaaSymAEF
namespace Go.Proofs.Ytlhedoodbadmgaa
open Go.RowKit
set_option maxRecDepth 100000
set_option maxHeartbeats 1000000
section
variable {C : Ctx} {ops : Array Oper} {S : St} {o : Oper}
/-- In each state that is like S at these names the value has these cells. -/
def CellC (C : Ctx) (S : St) (rb : List Nat) (v : SV) (B : SA) : Prop := ∀ (S' : St) e a w, Holds C S' e a w → (∀ q ∈ rb, S'.res q = S.res q) → (v.den e).cells = B.den e
theorem cellC_ce {v : SV} {B : SA} (h : ∀ e, (v.den e).cells = B.den e) : CellC C S v.sup v B := fun _ e _ _ _ _ => h e
theorem cellC_own {n : Nat} {T : TypeId} {size len : Nat} {xs : List Value} (hr : S.res n = some (.own n T size len xs)) : CellC C S [n] (.v n) (.l [.v n]) := fun S' e a w hS hq => own_cells (hS.res n _ ((hq n (by simp)).trans hr))
def FillQ (C : Ctx) (S : St) (fs : Array Field) : SA → List (Nat × Operand) → SA → List Nat → Prop
  | A, [], A', l => A' = A ∧ l = []
  | A, p :: ps, A', l => ∃ fd sz v B A1 r q, fs[p.1]? = some fd ∧ tabLook sizT fd.type = some sz ∧ S.ev p.2 = some v ∧ CellC C S q v B ∧ Upd A fd.offset sz B A1 ∧ FillQ C S fs A1 ps A' r ∧ l = q ++ r
theorem fillq_nil {fs : Array Field} {A : SA} : FillQ C S fs A [] A [] := ⟨rfl, rfl⟩
theorem fillq_cons {fs : Array Field} {A A' A1 B : SA} {i sz : Nat} {x : Operand} {ps : List (Nat × Operand)} {fd : Field} {v : SV} {r q : List Nat} (hf : fs[i]? = some fd) (hs : tabLook sizT fd.type = some sz) (hx : S.ev x = some v) (hc : CellC C S q v B) (hu : Upd A fd.offset sz B A1) (h : FillQ C S fs A1 ps A' r) : FillQ C S fs A ((i, x) :: ps) A' (q ++ r) :=
  ⟨fd, sz, v, B, A1, r, q, hf, hs, hx, hc, hu, h, rfl⟩
theorem fillq_run {fs : Array Field} {S' : St} {e : Env} {a : Act} {w : World} (hS : Holds C S' e a w) {places : Nat → Option (Nat × Nat)} (hp : ∀ i fd sz, fs[i]? = some fd → tabLook sizT fd.type = some sz → places i = some (fd.offset, sz)) :
    ∀ (ps : List (Nat × Operand)) (A A' : SA) (l : List Nat), FillQ C S fs A ps A' l → (∀ p ∈ ps, S'.ev p.2 = S.ev p.2) → (∀ q ∈ l, S'.res q = S.res q) → Instr.fill places (A.den e) (ps.map fun p => (p.1, a.eval p.2)) = some (A'.den e)
  | [], A, A', l, ⟨h, _⟩, _, _ => by rw [h]; rfl
  | p :: ps, A, A', l, ⟨fd, sz, v, B, A1, r, q, hf, hs, hx, hc, hu, hr, hl⟩, hev, hq => by
    subst hl
    have hv : a.eval p.2 = v.den e := hS.ev ((hev p (by simp)).trans hx)
    have hcv := hc S' e a w hS fun x hx => hq x (List.mem_append_left _ hx)
    obtain ⟨pre, old, post, g1, g2, g3, g4, g5⟩ := hu e
    have ih := fillq_run hS hp ps A1 A' r hr (fun q hq => hev q (by simp [hq])) fun x hx => hq x (List.mem_append_right _ hx)
    rw [List.map_cons, Instr.fill]
    dsimp only
    rw [hp p.1 fd sz hf hs]
    dsimp only
    rw [hv, hcv]
    have hb1 : ¬ ((B.den e).size ≠ sz ∨ fd.offset + (B.den e).size > (A.den e).size) := by
      rw [g1]; simp only [Array.size_append]; omega
    rw [if_neg (by simpa using hb1)]
    have hfold : (B.den e).zipIdx.foldl (fun cs (x : Value × Nat) => cs.setIfInBounds (fd.offset + x.2) x.1) (A.den e) = A1.den e := by
      rw [g1, g5]
      have := fold_set (B.den e).toList fd.offset pre old post 0 (by omega) (by simp; omega)
      rw [← Array.foldl_toList, Array.toList_zipIdx]
      simpa using this
    rw [hfold]
    exact ih
theorem op_buildQ {ty : TypeId} {parts : Array (Nat × Operand)} {fs : Array Field} {Z : Array Value} {A0 A' : SA} {l : List Nat} (ho : o.op = .build ty parts) (hg : o.guard = none) (hd : dstB o.dst C.nt = true) (hu' : tabLook undT ty = some (.struct fs)) (hss : (fs.all fun f => (tabLook sizT f.type).isSome) = true := by kernel_rfl) (hz' : tabLook zerT ty = some Z := by exact rfl) {zc : Array Value} (hz0 : ZerR fs.toList A0 zc := by (fail_if_success (with_reducible apply trap_zer)); repeat (first | exact zer_one rfl | (apply zer_cons; (· rfl)))) (hzz : Z = zc := by kernel_rfl) (hf : FillQ C S fs A0 parts.toList A' l := by repeat (first | exact fillq_nil | (apply fillq_cons; (· rfl); (· rfl); (· rfl); (· first | exact cellC_own rfl | exact cellC_ce (by (fail_if_success (with_reducible apply trap_ce)); first | (with_reducible exact ce_row) | exact ce_c | exact ce_l | exact ce_row | exact (ce_one fun _ => rfl))); (· exact (by (fail_if_success (with_reducible apply trap_upd)); repeat (first | ((with_reducible apply upd_all'); (· rfl); (· exact (by (fail_if_success (with_reducible apply trap_sm)); first | ((with_reducible apply sm_vals); exact (by first | omega | (simp; omega) | (simp <;> fail) | omega)) | ((with_reducible apply sm_c); first | (with_reducible assumption) | rfl) | ((with_reducible apply sm_l); rfl))); (· exact (by (fail_if_success (with_reducible apply trap_sm)); repeat (first | ((with_reducible apply sm_vals); first | (with_reducible assumption) | exact (by first | omega | (simp; omega) | (simp <;> fail) | omega)) | ((with_reducible apply sm_c); first | (with_reducible assumption) | rfl) | ((with_reducible apply sm_l); rfl) | ((with_reducible apply sm_app); (· exact (by (fail_if_success (with_reducible apply trap_sm)); first | ((with_reducible apply sm_vals); first | (with_reducible assumption) | (simp <;> fail) | rfl) | ((with_reducible apply sm_c); first | (with_reducible assumption) | rfl) | ((with_reducible apply sm_l); rfl)))) | rfl)))) | ((first | with_reducible apply upd_here4 | with_reducible apply upd_here3 | with_reducible apply upd_here2 | with_reducible apply upd_here'); (· rfl); (· exact (by (fail_if_success (with_reducible apply trap_drop)); repeat (first | ((with_reducible apply drop_here); exact (by (fail_if_success (with_reducible apply trap_sm)); first | ((with_reducible apply sm_vals); exact (by first | omega | (simp; omega) | (simp <;> fail) | omega)) | ((with_reducible apply sm_c); first | (with_reducible assumption) | rfl) | ((with_reducible apply sm_l); rfl))) | ((with_reducible apply drop_skip); (· exact (by (fail_if_success (with_reducible apply trap_sm)); first | ((with_reducible apply sm_vals); first | (with_reducible assumption) | (simp <;> fail) | rfl) | ((with_reducible apply sm_c); first | (with_reducible assumption) | rfl) | ((with_reducible apply sm_l); rfl))); (· rfl))))); (· exact (by (fail_if_success (with_reducible apply trap_sm)); repeat (first | ((with_reducible apply sm_vals); first | (with_reducible assumption) | exact (by first | omega | (simp; omega) | (simp <;> fail) | omega)) | ((with_reducible apply sm_c); first | (with_reducible assumption) | rfl) | ((with_reducible apply sm_l); rfl) | ((with_reducible apply sm_app); (· exact (by (fail_if_success (with_reducible apply trap_sm)); first | ((with_reducible apply sm_vals); first | (with_reducible assumption) | (simp <;> fail) | rfl) | ((with_reducible apply sm_c); first | (with_reducible assumption) | rfl) | ((with_reducible apply sm_l); rfl)))) | rfl)))) | ((with_reducible apply upd_skip); (· exact (by (fail_if_success (with_reducible apply trap_sm)); first | ((with_reducible apply sm_vals); first | (with_reducible assumption) | (simp <;> fail) | rfl) | ((with_reducible apply sm_c); first | (with_reducible assumption) | rfl) | ((with_reducible apply sm_l); rfl))); (· rfl)))))))) (hl : subB A'.sup l = true := by kernel_rfl) :
    OpG C Try.prog ops o S ⟨(parts.toList.map (·.2)).flatMap opT, l, dw o.dst (.row A'), [], []⟩ := by
  refine opG_mk hg fun S' h1 h2 _ e a w hS => ?_
  refine wp_value (v := .agg (A'.den e)) (w' := w) ?_ ⟨e, hS.put hd (.row A')⟩
  have h1 : ∀ x ∈ parts.toList.map (·.2), S'.ev x = S.ev x := fun x hx => ev_like h1 fun i hi => List.mem_flatMap.2 ⟨x, hx, hi⟩
  have hu := tabAll_look undT_ok hu'
  have hz := tabAll_look zerT_ok hz'
  obtain ⟨zv, hz3, hzc⟩ : ∃ zv, (zeroValue ty).run Try.prog w = .ok zv w ∧ zv.cells = Z := by
    cases hb : (Try.prog.info? ty) with
    | none => simp [hb] at hz
    | some i =>
      cases hc : i.zero with
      | none => simp [hb, hc] at hz
      | some zz => exact ⟨zz, by simp [zeroValue, typeInfo, hb, hc], by simpa [hb, hc] using hz⟩
  have hall : ∀ f ∈ fs.toList, ∃ sz, tabLook sizT f.type = some sz := fun f hf => by
    have := Array.all_eq_true_iff_forall_mem.1 hss f (by simpa using hf)
    exact Option.isSome_iff_exists.1 this
  have hmap : ∀ l : List Field, (∀ f ∈ l, ∃ sz, tabLook sizT f.type = some sz) → (l.mapM fun (f : Field) => do pure (f.offset, ← sizeOf f.type)).run Try.prog w = .ok (l.map fun f => (f.offset, (tabLook sizT f.type).getD 0)) w := by
    intro l
    induction l with
    | nil => intro _; rfl
    | cons f l ih =>
      intro h
      obtain ⟨sz, hsz⟩ := h f (by simp)
      simp only [List.mapM_cons, Sem.run_bind, run_sizeT hsz w, Result.andThen_ok, Sem.run_pure, ih fun g hg => h g (by simp [hg]), List.map_cons, hsz, Option.getD_some]
  have hmapA : (fs.mapM fun (f : Field) => do pure (f.offset, ← sizeOf f.type)).run Try.prog w = .ok (fs.map fun f => (f.offset, (tabLook sizT f.type).getD 0)) w := by
    rw [Array.mapM_eq_mapM_toList]
    have e1 : (fs.toList.map fun f => (f.offset, (tabLook sizT f.type).getD 0)).toArray = fs.map fun f => (f.offset, (tabLook sizT f.type).getD 0) := by
      apply Array.ext'; simp
    simp only [map_eq_pure_bind, Sem.run_bind, hmap fs.toList hall, Result.andThen_ok, Sem.run_pure, e1]
  have hp : ∀ (i : Nat) (fd : Field) (sz : Nat), fs[i]? = some fd → tabLook sizT fd.type = some sz → (fun i => (fs.map fun f => (f.offset, (tabLook sizT f.type).getD 0))[i]?) i = some (fd.offset, sz) := by
    intro i fd sz h1 h2
    simp [h1, h2]
  have hfill := fillq_run hS hp parts.toList A0 A' l hf (fun p hp => h1 p.2 (List.mem_map.2 ⟨p, hp, rfl⟩)) h2
  have hpa : (parts.map fun (i, x) => (i, a.eval x)).toList = parts.toList.map fun p => (p.1, a.eval p.2) := by simp
  simp only [execOp, ho, Instr.build, Sem.run_bind, hz3, Result.andThen_ok, run_underlying hu w, hmapA, hzc, hpa, hzz.trans (zer_den hz0 e), hfill, Sem.run_pure]
theorem op_buildC {ty : TypeId} {parts : List (Nat × Operand)} {vs : List Value} {fs : Array Field} {Z : Array Value} (R : Array Value) (ho : o.op = .build ty parts.toArray) (hg : o.guard = none) (hd : dstB o.dst C.nt = true) (hx : (parts.map (·.2)).map S.ev = vs.map fun v => some (SV.c v)) (hu' : tabLook undT ty = some (.struct fs)) (hz' : tabLook zerT ty = some Z) (hss : (fs.all fun f => (tabLook sizT f.type).isSome) = true)
    (hf : Instr.fill (fun i => (fs.map fun f => (f.offset, (tabLook sizT f.type).getD 0))[i]?) Z ((parts.map (·.1)).zip vs) = some R) :
    OpG C Try.prog ops o S ⟨(parts.map (·.2)).flatMap opT, [], dw o.dst (.c (.agg R)), [], []⟩ := by
  have := op_value (C := C) (P := Try.prog) (ops := ops) (S := S) hg hd (parts.map (·.2)) [] (.c (.agg R)) fun S' e a w hS h1 h2 => by
    have hu := tabAll_look undT_ok hu'
    have hz := tabAll_look zerT_ok hz'
    have hev : ∀ (ps : List (Nat × Operand)) (us : List Value), (ps.map (·.2)).map S.ev = us.map (fun v => some (SV.c v)) → (∀ x ∈ ps.map (·.2), S'.ev x = S.ev x) → ps.map (fun p => (p.1, a.eval p.2)) = (ps.map (·.1)).zip us := by
      intro ps
      induction ps with
      | nil => intro us h _; cases us with
        | nil => rfl
        | cons u us => simp at h
      | cons p ps ih =>
        intro us h h3
        cases us with
        | nil => simp at h
        | cons u us =>
          simp only [List.map_cons, List.cons.injEq] at h
          have e1 : a.eval p.2 = u := hS.ev ((h3 p.2 (by simp)).trans h.1)
          simp only [List.map_cons, List.zip_cons_cons, e1]
          rw [ih us h.2 fun x hx => h3 x (by simp only [List.map_cons, List.mem_cons]; exact .inr hx)]
    have hev := hev parts vs hx h1
    obtain ⟨zv, hz3, hzc⟩ : ∃ zv, (zeroValue ty).run Try.prog w = .ok zv w ∧ zv.cells = Z := by
      cases hb : (Try.prog.info? ty) with
      | none => simp [hb] at hz
      | some i =>
        cases hc : i.zero with
        | none => simp [hb, hc] at hz
        | some zz => exact ⟨zz, by simp [zeroValue, typeInfo, hb, hc], by simpa [hb, hc] using hz⟩
    have hall : ∀ f ∈ fs.toList, ∃ sz, tabLook sizT f.type = some sz := fun f hf => by
      have := Array.all_eq_true_iff_forall_mem.1 hss f (by simpa using hf)
      exact Option.isSome_iff_exists.1 this
    have hmap : ∀ l : List Field, (∀ f ∈ l, ∃ sz, tabLook sizT f.type = some sz) → (l.mapM fun (f : Field) => do pure (f.offset, ← sizeOf f.type)).run Try.prog w = .ok (l.map fun f => (f.offset, (tabLook sizT f.type).getD 0)) w := by
      intro l
      induction l with
      | nil => intro _; rfl
      | cons f l ih =>
        intro h
        obtain ⟨sz, hsz⟩ := h f (by simp)
        simp only [List.mapM_cons, Sem.run_bind, run_sizeT hsz w, Result.andThen_ok, Sem.run_pure, ih fun g hg => h g (by simp [hg]), List.map_cons, hsz, Option.getD_some]
    have hmapA : (fs.mapM fun (f : Field) => do pure (f.offset, ← sizeOf f.type)).run Try.prog w = .ok (fs.map fun f => (f.offset, (tabLook sizT f.type).getD 0)) w := by
      rw [Array.mapM_eq_mapM_toList]
      have e1 : (fs.toList.map fun f => (f.offset, (tabLook sizT f.type).getD 0)).toArray = fs.map fun f => (f.offset, (tabLook sizT f.type).getD 0) := by
        apply Array.ext'; simp
      simp only [map_eq_pure_bind, Sem.run_bind, hmap fs.toList hall, Result.andThen_ok, Sem.run_pure, e1]
    simp only [execOp, ho, Instr.build, Sem.run_bind, hz3, Result.andThen_ok, run_underlying hu w, hmapA, hzc, List.map_toArray, hev, hf, Sem.run_pure]
    rfl
  simpa using this
/-- A pointer to a block whose number is known. -/
theorem op_nilR {x : Operand} {n b off : Nat} (q : Nat) (ho : o.op = .nilCheck x) (hg : o.guard = none) (hd : dstB o.dst C.nt = true) (hx : S.ev x = some (.c (.pointer (some ⟨b, off, none⟩)))) (hq : S.res q = some (.is n b)) :
    OpG C Try.prog ops o S ⟨opT x, [q, n], dw o.dst (.p n off), [], []⟩ := by
  have := op_value (C := C) (P := Try.prog) (ops := ops) (S := S) hg hd [x] [q, n] (.p n off) fun S' e a w hS h1 h2 => by
    have hev : a.eval x = .pointer (some ⟨b, off, none⟩) := hS.ev ((h1 x (by simp)).trans hx)
    have hb : (e n).b = b := hS.res q _ ((h2 q (by simp)).trans hq)
    have hden : (SV.p n off).den e = .pointer (some ⟨b, off, none⟩) := by rw [← hb]; rfl
    rw [hden]
    simp [execOp, ho, hev]
  simpa using this
/-- A block's number, told; a pointer to it, as a value. -/
theorem tri_is {P : Program} {c : Code} {Q : Exit → Act → World → Prop} {t : List (Nat × SV)} {h : List (Nat × Option Res)} (n q i off : Nat) (hi : look t i = some (.p n off)) (hc : ∀ b : Nat, Tri C P ⟨(i, .c (.pointer (some ⟨b, off, none⟩))) :: t, (q, some (.is n b)) :: h⟩ c Q) : Tri C P ⟨t, h⟩ c Q := fun e a w hS => by
  refine hc (e n).b e a w ⟨hS.defers, hS.size, fun j v hv => ?_, fun m r hr => ?_, fun m r hr hw => ?_, fun m k r r' hr hr' hne hw b hb hb' => ?_, hS.frame⟩
  · have hv : look ((i, SV.c (.pointer (some ⟨(e n).b, off, none⟩))) :: t) j = some v := hv
    rw [look_cons] at hv
    by_cases hij : i = j
    · rw [if_pos hij] at hv
      rw [← hij, ← Option.some.inj hv]
      exact hS.tmp i (.p n off) hi
    · rw [if_neg hij] at hv
      exact hS.tmp j v hv
  · rw [St.res_cons] at hr
    split at hr
    · cases hr; rfl
    · exact hS.res m r hr
  · rw [St.res_cons] at hr
    split at hr
    · cases hr; cases hw
    · exact hS.mine m r hr hw
  · rw [St.res_cons] at hr hr'
    split at hr
    · cases hr; cases hw
    · split at hr'
      · cases hr'; exact hb'
      · exact hS.sep m k r r' hr hr' hne hw b hb hb'
/-- The way on, walked once for all states that a loop may end in. -/
theorem tri_normX {ι : Type} (S1 : ι → St) (p : ι → Prop) {S0 : St} {c : Code} {P : Program} {Q : Exit → Act → World → Prop} (hex : ∀ i, p i → EndA C (S1 i) (Q .normal)) (h : ∀ Q' : Exit → Act → World → Prop, (∀ S i, p i → Ents C S (S1 i) → EndA C S (Q' .normal)) → (∀ S, EndA C S (Q .ret) → EndA C S (Q' .ret)) → Tri C P S0 c Q') : Tri C P S0 c Q :=
  h Q (fun _ i hp hS => end_ent hS (hex i hp)) fun _ h => h
end
end Go.Proofs.Ytlhedoodbadmgaa
