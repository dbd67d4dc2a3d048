/- Rows in parts; slices that lay there ahead of the run; bytes as text. No condition. -/
import Derived.Test.YtmpnkknocfaciaaSymE
import Derived.Deep.MidRow
import Derived.Laws.BytesString
namespace Go.Proofs.Ytmpnkknocfaciaa
open Go.RowKit

section
variable {C : Ctx} {ops : Array Oper} {S : St} {o : Oper}
/-! ### rows in parts -/
def Sub (A : SA) (off m : Nat) (B : SA) : Prop := ∀ e, ∃ pre post, A.den e = pre ++ B.den e ++ post ∧ pre.size = off ∧ (B.den e).size = m
theorem sub_all {A : SA} {m : Nat} (h : ∀ e, (A.den e).size = m) : Sub A 0 m A := fun e => ⟨#[], #[], by simp, rfl, h e⟩
theorem sub_here {A R : SA} {m : Nat} (h : ∀ e, (A.den e).size = m) : Sub (A.app R) 0 m A := fun e => ⟨#[], R.den e, by simp [SA.app], rfl, h e⟩
theorem sub_skip {A R B : SA} {off m k : Nat} (hk : ∀ e, (A.den e).size = k) (hle : Nat.ble k off = true) (h : Sub R (off - k) m B) : Sub (A.app R) off m B := fun e => by
  obtain ⟨pre, post, h1, h2, h3⟩ := h e
  have hle : k ≤ off := by simpa using hle
  exact ⟨A.den e ++ pre, post, by simp [SA.app, h1], by rw [Array.size_append, hk e, h2]; omega, h3⟩
theorem sub_more {A R B : SA} {m k : Nat} (hk : ∀ e, (A.den e).size = k) (hle : Nat.ble k m = true) (h : Sub R 0 (m - k) B) : Sub (A.app R) 0 m (A.app B) := fun e => by
  obtain ⟨pre, post, h1, h2, h3⟩ := h e
  have hle : k ≤ m := by simpa using hle
  have hp : pre = #[] := by simpa using h2
  subst hp
  exact ⟨#[], post, by simp [SA.app, h1], rfl, by simp only [SA.app, Array.size_append, hk e, h3]; omega⟩
theorem sub_c {a b : Array Value} {off m : Nat} (h : (decide (off + m ≤ a.size)) = true) (hb : a.extract off (off + m) = b) : Sub (.c a) off m (.c b) := fun e => by
  have h : off + m ≤ a.size := by simpa using h
  subst hb
  refine ⟨a.extract 0 off, a.extract (off + m), ?_, by simp; omega, by simp [SA.c]; omega⟩
  simp [SA.c, Nat.max_eq_right h]
/-- A cell of a row in parts. -/
theorem ld_appL {A R : SA} {i : Nat} {v : SV} (h : ∀ e, (A.den e)[i]? = some (v.den e)) : ∀ e, ((A.app R).den e)[i]? = some (v.den e) := fun e => by
  have h1 := h e
  have h2 := (Array.getElem?_eq_some_iff.1 h1).1
  simp only [SA.app]
  rw [Array.getElem?_append_left h2, h1]
theorem ld_appR {A R : SA} {i k : Nat} {v : SV} (hk : ∀ e, (A.den e).size = k) (hle : Nat.ble k i = true) (h : ∀ e, (R.den e)[i - k]? = some (v.den e)) : ∀ e, ((A.app R).den e)[i]? = some (v.den e) := fun e => by
  have hle : k ≤ i := by simpa using hle
  simp only [SA.app]
  rw [Array.getElem?_append_right (by rw [hk e]; exact hle), hk e, h e]
theorem set_appL {A R A' : SA} {i : Nat} {v : SV} (hlt : ∀ e, i < (A.den e).size) (h : ∀ e, (A.den e).setIfInBounds i (v.den e) = A'.den e) : ∀ e, ((A.app R).den e).setIfInBounds i (v.den e) = (A'.app R).den e := fun e => by
  simp only [SA.app]
  rw [← h e, Array.setIfInBounds_append, if_pos (hlt e)]
theorem set_appR {A R R' : SA} {i k : Nat} {v : SV} (hk : ∀ e, (A.den e).size = k) (hle : Nat.ble k i = true) (h : ∀ e, (R.den e).setIfInBounds (i - k) (v.den e) = R'.den e) : ∀ e, ((A.app R).den e).setIfInBounds i (v.den e) = (A.app R').den e := fun e => by
  have hle : k ≤ i := by simpa using hle
  simp only [SA.app]
  rw [Array.setIfInBounds_append, hk e, if_neg (by omega), h e]
theorem sz_appL {A R : SA} {i : Nat} (h : ∀ e, i < (A.den e).size) : ∀ e, i < ((A.app R).den e).size := fun e => by
  have := h e
  simp only [SA.app, Array.size_append]; omega
theorem sz_appR {A R : SA} {i k : Nat} (hk : ∀ e, (A.den e).size = k) (h : ∀ e, i - k < (R.den e).size) : ∀ e, i < ((A.app R).den e).size := fun e => by
  have := h e; have := hk e
  simp only [SA.app, Array.size_append]; omega
theorem sub_vals {k : IntKind} {q : Nat} {l : List (BitVec q)} {off m : Nat} (h : off + m ≤ l.length) : Sub (.c (vals k l)) off m (.c (vals k ((l.drop off).take m))) := fun e => by
  refine ⟨vals k (l.take off), vals k (l.drop (off + m)), ?_, ?_, ?_⟩
  · show vals k l = _
    have : l = l.take off ++ ((l.drop off).take m ++ l.drop (off + m)) := by rw [← List.drop_drop, List.take_append_drop, List.take_append_drop]
    conv => lhs; rw [this]
    simp [SA.c, vals, valsL]
  · simp [vals, valsL]; omega
  · simp [SA.c, vals, valsL]; omega
theorem sm_app {A R : SA} {k m n : Nat} (hk : ∀ e, (A.den e).size = k) (hm : ∀ e, (R.den e).size = m) (h : k + m = n) : ∀ e, ((A.app R).den e).size = n := fun e => by
  simp only [SA.app, Array.size_append, hk e, hm e, h]
theorem oc_app {A R : SA} (h : ∀ e, (A.den e).all (·.oneCell') = true) (h2 : ∀ e, (R.den e).all (·.oneCell') = true) : ∀ e, ((A.app R).den e).all (·.oneCell') = true := fun e => by
  simp only [SA.app, Array.all_append, h e, h2 e, Bool.and_self]
theorem oc_lnil : ∀ e, ((SA.l []).den e).all (·.oneCell') = true := fun _ => by simp [SA.l]
theorem oc_l {v : SV} {l : List SV} (hv : ∀ e, (v.den e).oneCell' = true) (h : ∀ e, ((SA.l l).den e).all (·.oneCell') = true) : ∀ e, ((SA.l (v :: l)).den e).all (·.oneCell') = true := fun e => by
  have := h e
  simp only [SA.l, List.map_cons, List.all_toArray] at this ⊢
  simp only [List.all_cons, hv e, this, Bool.and_self]
/-- A value that is a row. -/
def SV.row (A : SA) : SV := ⟨8, fun e => .agg (A.den e), A.sup, fun e e' h => by rw [A.ind e e' h]⟩
theorem ag_row {A : SA} : ∀ e, Value.agg (A.den e) = (SV.row A).den e := fun _ => rfl
theorem ga_row {A : SA} : ∀ e, (SV.row A).den e = Value.agg (A.den e) := fun _ => rfl
theorem ce_row {A : SA} : ∀ e, ((SV.row A).den e).cells = A.den e := fun _ => rfl
/-- A closed row, told in parts. -/
theorem ce_app {a : Array Value} {A : SA} (h : ∀ e, a = A.den e) : ∀ e, ((SV.c (.agg a)).den e).cells = A.den e := fun e => h e
theorem cea_one {a : Array Value} : ∀ e, a = (SA.c a).den e := fun _ => rfl
theorem cea_app {a b : Array Value} {R : SA} (h : ∀ e, b = R.den e) : ∀ e, a ++ b = ((SA.c a).app R).den e := fun e => by rw [h e]; rfl
/-- A part of a row, read. -/
theorem op_loadsM {ty : TypeId} {x : Operand} {n off : Nat} {T : TypeId} {A B : SA} {wr : Bool} {v : SV} {d : TypeDesc} {m : Nat} (ho : o.op = .load ty x) (hg : o.guard = none) (hd : dstB o.dst C.nt = true) (hx : S.ev x = some (.p n off)) (hr : S.res n = some (.blk n T A wr))
    (hu' : tabLook undT ty = some d) (hda : d.isRow = true) (hi' : tabLook sizT ty = some m) (hs : Sub A off m B := by (fail_if_success (with_reducible apply trap_sub)); repeat (first | ((with_reducible apply sub_all'); (· rfl); (· exact (by (fail_if_success (with_reducible apply trap_sm)); first | ((with_reducible apply sm_vals); exact (by first | omega | (simp; omega) | (simp <;> fail) | omega)) | ((with_reducible apply sm_c); first | (with_reducible assumption) | rfl) | ((with_reducible apply sm_l); rfl)))) | ((with_reducible apply sub_vals); first | omega | (simp; omega)) | ((with_reducible apply sub_here'); (· rfl); (· exact (by (fail_if_success (with_reducible apply trap_sm)); first | ((with_reducible apply sm_vals); exact (by first | omega | (simp; omega) | (simp <;> fail) | omega)) | ((with_reducible apply sm_c); first | (with_reducible assumption) | rfl) | ((with_reducible apply sm_l); rfl)))) | ((with_reducible apply sub_skip); (· exact (by (fail_if_success (with_reducible apply trap_sm)); first | ((with_reducible apply sm_vals); first | (with_reducible assumption) | (simp <;> fail) | rfl) | ((with_reducible apply sm_c); first | (with_reducible assumption) | rfl) | ((with_reducible apply sm_l); rfl))); (· rfl)) | ((with_reducible apply sub_more'); (· rfl); (· exact (by (fail_if_success (with_reducible apply trap_sm)); first | ((with_reducible apply sm_vals); first | (with_reducible assumption) | (simp <;> fail) | rfl) | ((with_reducible apply sm_c); first | (with_reducible assumption) | rfl) | ((with_reducible apply sm_l); rfl))); (· rfl)) | ((with_reducible apply sub_c); (· rfl); (· rfl)))) (hv : ∀ e, .agg (B.den e) = v.den e := by first | (with_reducible exact ag_c) | (with_reducible exact ag_l) | (with_reducible exact ag_row)) : OpG C Try.prog ops o S ⟨opT x, n :: v.sup, dw o.dst v, [], []⟩ := by
  have hu := tabAll_look undT_ok hu'
  have hi := tabAll_look sizT_ok hi'
  have := op_value (C := C) (P := Try.prog) (ops := ops) (S := S) hg hd [x] (n :: v.sup) v fun S' e a w hS h1 h2 => by
    have hev : a.eval x = .pointer (some ⟨(e n).b, off, none⟩) := hS.ev ((h1 x (by simp)).trans hx)
    obtain ⟨fr, hb, _⟩ := res_blk hS ((h2 n (by simp)).trans hr)
    obtain ⟨pre, post, g1, g2, g3⟩ := hs e
    have hra := World.rangeAt_of_block hb off m
    have hex : (A.den e).extract off (off + m) = B.den e := by
      rw [g1, ← g2, ← g3]
      apply Array.ext'
      simp
    rw [hex] at hra
    have hl := run_loadVar_mid (P := Try.prog) w (e n).b off ty (B.den e).toList d hra hu hda (by rw [hi]; simp [g3])
    rw [Array.toArray_toList] at hl
    simp [execOp, ho, hev, Instr.loadAt, Instr.sureAddr, Sem.run_bind, hl, hv e]
  simpa using this
/-- A part of a row, written. -/
def Upd (A : SA) (off m : Nat) (B A' : SA) : Prop := ∀ e, ∃ pre old post, A.den e = pre ++ old ++ post ∧ pre.size = off ∧ old.size = m ∧ (B.den e).size = m ∧ A'.den e = pre ++ B.den e ++ post
def Drop (A : SA) (m : Nat) (R : SA) : Prop := ∀ e, ∃ pre, A.den e = pre ++ R.den e ∧ pre.size = m
theorem drop_here {A R : SA} {m : Nat} (h : ∀ e, (A.den e).size = m) : Drop (A.app R) m R := fun e => ⟨A.den e, rfl, h e⟩
theorem drop_skip {A R R' : SA} {m k : Nat} (hk : ∀ e, (A.den e).size = k) (hle : Nat.ble k m = true) (h : Drop R (m - k) R') : Drop (A.app R) m R' := fun e => by
  obtain ⟨pre, h1, h2⟩ := h e
  have hle : k ≤ m := by simpa using hle
  exact ⟨A.den e ++ pre, by simp [SA.app, h1], by rw [Array.size_append, hk e, h2]; omega⟩
theorem upd_all {A B : SA} {m : Nat} (h : ∀ e, (A.den e).size = m) (hb : ∀ e, (B.den e).size = m) : Upd A 0 m B B := fun e => ⟨#[], A.den e, #[], by simp, rfl, h e, hb e, by simp⟩
theorem upd_here {A R B : SA} {m : Nat} (h : Drop A m R) (hb : ∀ e, (B.den e).size = m) : Upd A 0 m B (B.app R) := fun e => by
  obtain ⟨pre, h1, h2⟩ := h e
  exact ⟨#[], pre, R.den e, by simp [h1], rfl, h2, hb e, by simp [SA.app]⟩
theorem upd_skip {A R R' B : SA} {off m k : Nat} (hk : ∀ e, (A.den e).size = k) (hle : Nat.ble k off = true) (h : Upd R (off - k) m B R') : Upd (A.app R) off m B (A.app R') := fun e => by
  obtain ⟨pre, old, post, h1, h2, h3, h4, h5⟩ := h e
  have hle : k ≤ off := by simpa using hle
  exact ⟨A.den e ++ pre, old, post, by simp [SA.app, h1], by rw [Array.size_append, hk e, h2]; omega, h3, h4, by simp [SA.app, h5]⟩
theorem op_storesM {ty : TypeId} {x y : Operand} {n off : Nat} {T : TypeId} {A A' B : SA} {v : SV} {m : Nat} (ho : o.op = .store ty x y) (hg : o.guard = none) (hdst : o.dst = none) (hx : S.ev x = some (.p n off)) (hy : S.ev y = some v) (hr : S.res n = some (.blk n T A))
    (hi' : tabLook sizT ty = some m) (hv : ∀ e, v.den e = .agg (B.den e) := by first | (with_reducible exact ga_c) | (with_reducible exact ga_l) | (with_reducible exact ga_row)) (hup : Upd A off m B A' := by (fail_if_success (with_reducible apply trap_upd)); repeat (first | ((with_reducible apply upd_all'); (· rfl); (· exact (by (fail_if_success (with_reducible apply trap_sm)); first | ((with_reducible apply sm_vals); exact (by first | omega | (simp; omega) | (simp <;> fail) | omega)) | ((with_reducible apply sm_c); first | (with_reducible assumption) | rfl) | ((with_reducible apply sm_l); rfl))); (· exact (by (fail_if_success (with_reducible apply trap_sm)); repeat (first | ((with_reducible apply sm_vals); first | (with_reducible assumption) | exact (by first | omega | (simp; omega) | (simp <;> fail) | omega)) | ((with_reducible apply sm_c); first | (with_reducible assumption) | rfl) | ((with_reducible apply sm_l); rfl) | ((with_reducible apply sm_app); (· exact (by (fail_if_success (with_reducible apply trap_sm)); first | ((with_reducible apply sm_vals); first | (with_reducible assumption) | (simp <;> fail) | rfl) | ((with_reducible apply sm_c); first | (with_reducible assumption) | rfl) | ((with_reducible apply sm_l); rfl)))) | rfl)))) | ((first | with_reducible apply upd_here4 | with_reducible apply upd_here3 | with_reducible apply upd_here2 | with_reducible apply upd_here'); (· rfl); (· exact (by (fail_if_success (with_reducible apply trap_drop)); repeat (first | ((with_reducible apply drop_here); exact (by (fail_if_success (with_reducible apply trap_sm)); first | ((with_reducible apply sm_vals); exact (by first | omega | (simp; omega) | (simp <;> fail) | omega)) | ((with_reducible apply sm_c); first | (with_reducible assumption) | rfl) | ((with_reducible apply sm_l); rfl))) | ((with_reducible apply drop_skip); (· exact (by (fail_if_success (with_reducible apply trap_sm)); first | ((with_reducible apply sm_vals); first | (with_reducible assumption) | (simp <;> fail) | rfl) | ((with_reducible apply sm_c); first | (with_reducible assumption) | rfl) | ((with_reducible apply sm_l); rfl))); (· rfl))))); (· exact (by (fail_if_success (with_reducible apply trap_sm)); repeat (first | ((with_reducible apply sm_vals); first | (with_reducible assumption) | exact (by first | omega | (simp; omega) | (simp <;> fail) | omega)) | ((with_reducible apply sm_c); first | (with_reducible assumption) | rfl) | ((with_reducible apply sm_l); rfl) | ((with_reducible apply sm_app); (· exact (by (fail_if_success (with_reducible apply trap_sm)); first | ((with_reducible apply sm_vals); first | (with_reducible assumption) | (simp <;> fail) | rfl) | ((with_reducible apply sm_c); first | (with_reducible assumption) | rfl) | ((with_reducible apply sm_l); rfl)))) | rfl)))) | ((with_reducible apply upd_skip); (· exact (by (fail_if_success (with_reducible apply trap_sm)); first | ((with_reducible apply sm_vals); first | (with_reducible assumption) | (simp <;> fail) | rfl) | ((with_reducible apply sm_c); first | (with_reducible assumption) | rfl) | ((with_reducible apply sm_l); rfl))); (· rfl)))) (h1c : ∀ e, (B.den e).all (·.oneCell') = true := by (fail_if_success (with_reducible apply trap_oc)); repeat (first | (with_reducible exact oc_vals) | (with_reducible exact oc_lnil) | ((with_reducible apply oc_c); first | rfl | (simp [Value.oneCell'] <;> fail)) | ((with_reducible apply oc_l); (· exact fun _ => rfl)) | (with_reducible apply oc_app))) :
    OpG C Try.prog ops o S ⟨opT x ++ opT y, n :: A'.sup, [], [(n, some (.blk n T A'))], []⟩ := by
  have hi := tabAll_look sizT_ok hi'
  refine opG_mk hg fun S' h1 h2 h3 e a w hS => ?_
  have hev : a.eval x = .pointer (some ⟨(e n).b, off, none⟩) := hS.ev ((ev_like h1 fun _ h => List.mem_append_left _ h).trans hx)
  have hevy : a.eval y = .agg (B.den e) := (hS.ev ((ev_like h1 fun _ h => List.mem_append_right _ h).trans hy)).trans (hv e)
  have hr' := (h2 n (by simp)).trans hr
  obtain ⟨fr, hb, hfr⟩ := res_blk hS hr'
  rw [hfr rfl] at hb
  obtain ⟨pre, old, post, g1, g2, g3, g4, g5⟩ := hup e
  have hst := run_storeCells_at Try.prog (e n).b off T (B.den e).toList 0 (A.den e) w hb (by rw [g1]; simp only [Array.size_append, Array.length_toList]; omega) (fun u hu => Array.all_eq_true_iff_forall_mem.1 (h1c e) u (by simpa using hu))
  have hA : ((A.den e).toList.take (off + 0) ++ (B.den e).toList ++ (A.den e).toList.drop (off + 0 + (B.den e).toList.length)).toArray = A'.den e := by
    have l1 : pre.toList.length = off := by simpa using g2
    have l2 : old.toList.length = m := by simpa using g3
    have l3 : (B.den e).toList.length = m := by simpa using g4
    apply Array.ext'
    rw [g1, g5]
    simp only [Array.toList_append, Nat.add_zero, l3, List.append_assoc]
    rw [List.take_append_of_le_length (by omega), List.take_of_length_le (by omega), ← l1, ← l2, List.drop_append, List.drop_append]
    simp
    rw [List.drop_of_length_le (by simp), List.drop_of_length_le (by simp)]
    rfl
  rw [hA] at hst
  refine wp_skip' (w' := w.setRow (e n).b (A'.den e)) ?_ ⟨e, ?_⟩
  · cases hq : Try.prog.info? ty with
    | none => simp [hq] at hi
    | some i =>
      have hs : i.size = m := by simpa [hq] using hi
      have hcs : (Value.agg (B.den e)).cells = B.den e := rfl
      simp only [execOp, ho, hev, hevy, Instr.storeAt, Instr.sureAddr, storeVar, sizeOf, typeInfo, Sem.run_bind, Sem.run_pure, Result.andThen_ok, hcs]
      simp [hq, hs, g4, hst]
  · rw [hdst]
    refine hS.write hr' rfl rfl rfl (by simp) ?_ (fun k hk => setRow_other w _ k _ hk)
    exact setRow_heap w _ _ _ _ _ hb
theorem sub_all' {A : SA} {off m : Nat} (h0 : off = 0) (h : ∀ e, (A.den e).size = m) : Sub A off m A := h0 ▸ sub_all h
theorem sub_here' {A R : SA} {off m : Nat} (h0 : off = 0) (h : ∀ e, (A.den e).size = m) : Sub (A.app R) off m A := h0 ▸ sub_here h
theorem sub_more' {A R B : SA} {off m k : Nat} (h0 : off = 0) (hk : ∀ e, (A.den e).size = k) (hle : Nat.ble k m = true) (h : Sub R 0 (m - k) B) : Sub (A.app R) off m (A.app B) := h0 ▸ sub_more hk hle h
theorem upd_all' {A B : SA} {off m : Nat} (h0 : off = 0) (h : ∀ e, (A.den e).size = m) (hb : ∀ e, (B.den e).size = m) : Upd A off m B B := h0 ▸ upd_all h hb
theorem upd_here' {A R B : SA} {off m : Nat} (h0 : off = 0) (h : Drop A m R) (hb : ∀ e, (B.den e).size = m) : Upd A off m B (B.app R) := h0 ▸ upd_here h hb
theorem ld_cL {a : Array Value} {i : Nat} {v : Value} (h : a.toList[i]? = some v) : ∀ e, ((SA.c a).den e)[i]? = some ((SV.c v).den e) := fun _ => by simpa [SA.c, SV.c] using h
theorem cea_one1 {v : Value} {b : Array Value} {R : SA} (h : ∀ e, b = R.den e) : ∀ e, #[v] ++ b = ((SA.l [SV.c v]).app R).den e := fun e => by rw [h e]; rfl
/-! ### traps: a search that knows not yet what it looks at is to fail -/
def SA.trap : SA := SA.c #[]
def SV.trap : SV := SV.c undef
def trapF : List Field := []
theorem trap_sm (h : False) {k : Nat} : ∀ e, (SA.trap.den e).size = k := h.elim
theorem trap_sz (h : False) {i : Nat} : ∀ e, i < (SA.trap.den e).size := h.elim
theorem trap_ld (h : False) {i : Nat} {v : SV} : ∀ e, (SA.trap.den e)[i]? = some (v.den e) := h.elim
theorem trap_set (h : False) {i : Nat} {v : SV} {A : SA} : ∀ e, (SA.trap.den e).setIfInBounds i (v.den e) = A.den e := h.elim
theorem trap_sub (h : False) {off m : Nat} {B : SA} : Sub SA.trap off m B := h.elim
theorem trap_upd (h : False) {off m : Nat} {B A : SA} : Upd SA.trap off m B A := h.elim
theorem trap_drop (h : False) {m : Nat} {R : SA} : Drop SA.trap m R := h.elim
theorem trap_oc (h : False) : ∀ e, (SA.trap.den e).all (·.oneCell') = true := h.elim
theorem trap_ce (h : False) {A : SA} : ∀ e, (SV.trap.den e).cells = A.den e := h.elim
/-! ### structs, built of their parts -/
def FillR (S : St) (fs : Array Field) : SA → List (Nat × Operand) → SA → List Nat → Prop
  | A, [], A', l => A' = A ∧ l = []
  | A, p :: ps, A', l => ∃ fd sz v B A1 r, fs[p.1]? = some fd ∧ tabLook sizT fd.type = some sz ∧ S.ev p.2 = some v ∧ (∀ e, (v.den e).cells = B.den e) ∧ Upd A fd.offset sz B A1 ∧ FillR S fs A1 ps A' r ∧ l = v.sup ++ r
theorem fill_nil {fs : Array Field} {A : SA} : FillR S fs A [] A [] := ⟨rfl, rfl⟩
theorem fill_cons {fs : Array Field} {A A' A1 B : SA} {i sz : Nat} {x : Operand} {ps : List (Nat × Operand)} {fd : Field} {v : SV} {r : List Nat} (hf : fs[i]? = some fd) (hs : tabLook sizT fd.type = some sz) (hx : S.ev x = some v) (hc : ∀ e, (v.den e).cells = B.den e) (hu : Upd A fd.offset sz B A1) (h : FillR S fs A1 ps A' r) : FillR S fs A ((i, x) :: ps) A' (v.sup ++ r) :=
  ⟨fd, sz, v, B, A1, r, hf, hs, hx, hc, hu, h, rfl⟩
theorem fold_set : ∀ (l : List Value) (off : Nat) (pre old post : Array Value) (k : Nat), pre.size = off + k → old.size = l.length → (l.zipIdx k).foldl (fun cs (x : Value × Nat) => cs.setIfInBounds (off + x.2) x.1) (pre ++ old ++ post) = pre ++ l.toArray ++ post
  | [], off, pre, old, post, k, h, ho => by
    have : old = #[] := by simpa using ho
    subst this; simp
  | v :: l, off, pre, old, post, k, h, ho => by
    have hpos : 0 < old.size := by simp at ho; omega
    obtain ⟨x, rest, hx⟩ : ∃ x rest, old = #[x] ++ rest := by
      refine ⟨old[0], old.extract 1, ?_⟩
      apply Array.ext'
      obtain ⟨l0⟩ := old
      cases l0 with
      | nil => simp at hpos
      | cons y l0 => simp
    subst hx
    have e1 : (pre ++ (#[x] ++ rest) ++ post).setIfInBounds (off + k) v = (pre ++ #[v]) ++ rest ++ post := by
      apply Array.ext'
      simp only [Array.toList_setIfInBounds, Array.toList_append, ← h]
      rw [List.append_assoc, List.set_append_right _ _ (by simp)]
      simp
    rw [List.zipIdx_cons, List.foldl_cons]
    show List.foldl _ ((pre ++ (#[x] ++ rest) ++ post).setIfInBounds (off + k) v) _ = _
    rw [e1, fold_set l off (pre ++ #[v]) rest post (k + 1) (by simp [h]; omega) (by simp at ho; omega)]
    apply Array.ext'; simp
theorem fill_run {fs : Array Field} {S' : St} {e : Env} {a : Act} {w : World} (hS : Holds C S' e a w) {places : Nat → Option (Nat × Nat)} (hp : ∀ i fd sz, fs[i]? = some fd → tabLook sizT fd.type = some sz → places i = some (fd.offset, sz)) :
    ∀ (ps : List (Nat × Operand)) (A A' : SA) (l : List Nat), FillR S fs A ps A' l → (∀ p ∈ ps, S'.ev p.2 = S.ev p.2) → Instr.fill places (A.den e) (ps.map fun p => (p.1, a.eval p.2)) = some (A'.den e)
  | [], A, A', l, ⟨h, _⟩, _ => by rw [h]; rfl
  | p :: ps, A, A', l, ⟨fd, sz, v, B, A1, r, hf, hs, hx, hc, hu, hr, _⟩, hev => by
    have hv : a.eval p.2 = v.den e := hS.ev ((hev p (by simp)).trans hx)
    obtain ⟨pre, old, post, g1, g2, g3, g4, g5⟩ := hu e
    have ih := fill_run hS hp ps A1 A' r hr fun q hq => hev q (by simp [hq])
    rw [List.map_cons, Instr.fill]
    dsimp only
    rw [hp p.1 fd sz hf hs]
    dsimp only
    rw [hv, hc e]
    have hb1 : ¬ ((B.den e).size ≠ sz ∨ fd.offset + (B.den e).size > (A.den e).size) := by
      rw [g1]; simp only [Array.size_append]; omega
    rw [if_neg (by simpa using hb1)]
    have hfold : (B.den e).zipIdx.foldl (fun cs (x : Value × Nat) => cs.setIfInBounds (fd.offset + x.2) x.1) (A.den e) = A1.den e := by
      rw [g1, g5]
      have := fold_set (B.den e).toList fd.offset pre old post 0 (by omega) (by simp; omega)
      rw [← Array.foldl_toList, Array.toList_zipIdx]
      simpa using this
    rw [hfold]
    exact ih
def ZerR : List Field → SA → Array Value → Prop
  | [], _, _ => False
  | [f], A, zc => ∃ z, tabLook zerT f.type = some z ∧ A = .c z ∧ zc = z
  | f :: g :: fs, A, zc => ∃ z R zr, tabLook zerT f.type = some z ∧ A = (SA.c z).app R ∧ zc = z ++ zr ∧ ZerR (g :: fs) R zr
theorem zer_one {f : Field} {z : Array Value} (h : tabLook zerT f.type = some z) : ZerR [f] (.c z) z := ⟨z, h, rfl, rfl⟩
theorem zer_cons {f g : Field} {fs : List Field} {z zr : Array Value} {R : SA} (h : tabLook zerT f.type = some z) (h2 : ZerR (g :: fs) R zr) : ZerR (f :: g :: fs) ((SA.c z).app R) (z ++ zr) := ⟨z, R, zr, h, rfl, rfl, h2⟩
theorem zer_den : ∀ {fs : List Field} {A : SA} {zc : Array Value}, ZerR fs A zc → ∀ e, zc = A.den e
  | [], _, _, h, _ => h.elim
  | [_], _, _, ⟨_, _, h1, h2⟩, _ => by rw [h1, h2]; rfl
  | _ :: g :: fs, _, _, ⟨_, R, zr, _, h1, h2, h3⟩, e => by
    have h4 : zr = R.den e := zer_den h3 e
    rw [h1, h2, h4]; rfl
theorem trap_zer (h : False) {A : SA} {z : Array Value} : ZerR trapF A z := h.elim
theorem op_buildS {ty : TypeId} {parts : Array (Nat × Operand)} {fs : Array Field} {Z : Array Value} {A0 A' : SA} {l : List Nat} (ho : o.op = .build ty parts) (hg : o.guard = none) (hd : dstB o.dst C.nt = true) (hu' : tabLook undT ty = some (.struct fs)) (hss : (fs.all fun f => (tabLook sizT f.type).isSome) = true := by kernel_rfl) (hz' : tabLook zerT ty = some Z := by exact rfl) {zc : Array Value} (hz0 : ZerR fs.toList A0 zc := by (fail_if_success (with_reducible apply trap_zer)); repeat (first | exact zer_one rfl | (apply zer_cons; (· rfl)))) (hzz : Z = zc := by kernel_rfl) (hf : FillR S fs A0 parts.toList A' l := by repeat (first | exact fill_nil | (apply fill_cons; (· rfl); (· rfl); (· rfl); (· exact (by (fail_if_success (with_reducible apply trap_ce)); first | (with_reducible exact ce_row) | exact ce_c | exact ce_l | exact ce_row | exact (ce_one fun _ => rfl))); (· exact (by (fail_if_success (with_reducible apply trap_upd)); repeat (first | ((with_reducible apply upd_all'); (· rfl); (· exact (by (fail_if_success (with_reducible apply trap_sm)); first | ((with_reducible apply sm_vals); exact (by first | omega | (simp; omega) | (simp <;> fail) | omega)) | ((with_reducible apply sm_c); first | (with_reducible assumption) | rfl) | ((with_reducible apply sm_l); rfl))); (· exact (by (fail_if_success (with_reducible apply trap_sm)); repeat (first | ((with_reducible apply sm_vals); first | (with_reducible assumption) | exact (by first | omega | (simp; omega) | (simp <;> fail) | omega)) | ((with_reducible apply sm_c); first | (with_reducible assumption) | rfl) | ((with_reducible apply sm_l); rfl) | ((with_reducible apply sm_app); (· exact (by (fail_if_success (with_reducible apply trap_sm)); first | ((with_reducible apply sm_vals); first | (with_reducible assumption) | (simp <;> fail) | rfl) | ((with_reducible apply sm_c); first | (with_reducible assumption) | rfl) | ((with_reducible apply sm_l); rfl)))) | rfl)))) | ((first | with_reducible apply upd_here4 | with_reducible apply upd_here3 | with_reducible apply upd_here2 | with_reducible apply upd_here'); (· rfl); (· exact (by (fail_if_success (with_reducible apply trap_drop)); repeat (first | ((with_reducible apply drop_here); exact (by (fail_if_success (with_reducible apply trap_sm)); first | ((with_reducible apply sm_vals); exact (by first | omega | (simp; omega) | (simp <;> fail) | omega)) | ((with_reducible apply sm_c); first | (with_reducible assumption) | rfl) | ((with_reducible apply sm_l); rfl))) | ((with_reducible apply drop_skip); (· exact (by (fail_if_success (with_reducible apply trap_sm)); first | ((with_reducible apply sm_vals); first | (with_reducible assumption) | (simp <;> fail) | rfl) | ((with_reducible apply sm_c); first | (with_reducible assumption) | rfl) | ((with_reducible apply sm_l); rfl))); (· rfl))))); (· exact (by (fail_if_success (with_reducible apply trap_sm)); repeat (first | ((with_reducible apply sm_vals); first | (with_reducible assumption) | exact (by first | omega | (simp; omega) | (simp <;> fail) | omega)) | ((with_reducible apply sm_c); first | (with_reducible assumption) | rfl) | ((with_reducible apply sm_l); rfl) | ((with_reducible apply sm_app); (· exact (by (fail_if_success (with_reducible apply trap_sm)); first | ((with_reducible apply sm_vals); first | (with_reducible assumption) | (simp <;> fail) | rfl) | ((with_reducible apply sm_c); first | (with_reducible assumption) | rfl) | ((with_reducible apply sm_l); rfl)))) | rfl)))) | ((with_reducible apply upd_skip); (· exact (by (fail_if_success (with_reducible apply trap_sm)); first | ((with_reducible apply sm_vals); first | (with_reducible assumption) | (simp <;> fail) | rfl) | ((with_reducible apply sm_c); first | (with_reducible assumption) | rfl) | ((with_reducible apply sm_l); rfl))); (· rfl)))))))) (hl : subB A'.sup l = true := by kernel_rfl) :
    OpG C Try.prog ops o S ⟨(parts.toList.map (·.2)).flatMap opT, A'.sup, dw o.dst (.row A'), [], []⟩ := by
  refine op_value hg hd (parts.toList.map (·.2)) A'.sup (.row A') fun S' e a w hS h1 _ => ?_
  have hu := tabAll_look undT_ok hu'
  have hz := tabAll_look zerT_ok hz'
  obtain ⟨zv, hz3, hzc⟩ : ∃ zv, (zeroValue ty).run Try.prog w = .ok zv w ∧ zv.cells = Z := by
    cases hb : (Try.prog.info? ty) with
    | none => simp [hb] at hz
    | some i =>
      cases hc : i.zero with
      | none => simp [hb, hc] at hz
      | some zz => exact ⟨zz, by simp [zeroValue, typeInfo, hb, hc], by simpa [hb, hc] using hz⟩
  have hall : ∀ f ∈ fs.toList, ∃ sz, tabLook sizT f.type = some sz := fun f hf => by
    have := Array.all_eq_true_iff_forall_mem.1 hss f (by simpa using hf)
    exact Option.isSome_iff_exists.1 this
  have hmap : ∀ l : List Field, (∀ f ∈ l, ∃ sz, tabLook sizT f.type = some sz) → (l.mapM fun (f : Field) => do pure (f.offset, ← sizeOf f.type)).run Try.prog w = .ok (l.map fun f => (f.offset, (tabLook sizT f.type).getD 0)) w := by
    intro l
    induction l with
    | nil => intro _; rfl
    | cons f l ih =>
      intro h
      obtain ⟨sz, hsz⟩ := h f (by simp)
      simp only [List.mapM_cons, Sem.run_bind, run_sizeT hsz w, Result.andThen_ok, Sem.run_pure, ih fun g hg => h g (by simp [hg]), List.map_cons, hsz, Option.getD_some]
  have hmapA : (fs.mapM fun (f : Field) => do pure (f.offset, ← sizeOf f.type)).run Try.prog w = .ok (fs.map fun f => (f.offset, (tabLook sizT f.type).getD 0)) w := by
    rw [Array.mapM_eq_mapM_toList]
    have e1 : (fs.toList.map fun f => (f.offset, (tabLook sizT f.type).getD 0)).toArray = fs.map fun f => (f.offset, (tabLook sizT f.type).getD 0) := by
      apply Array.ext'; simp
    simp only [map_eq_pure_bind, Sem.run_bind, hmap fs.toList hall, Result.andThen_ok, Sem.run_pure, e1]
  have hp : ∀ (i : Nat) (fd : Field) (sz : Nat), fs[i]? = some fd → tabLook sizT fd.type = some sz → (fun i => (fs.map fun f => (f.offset, (tabLook sizT f.type).getD 0))[i]?) i = some (fd.offset, sz) := by
    intro i fd sz h1 h2
    simp [h1, h2]
  have hfill := fill_run hS hp parts.toList A0 A' l hf fun p hp => h1 p.2 (List.mem_map.2 ⟨p, hp, rfl⟩)
  have hpa : (parts.map fun (i, x) => (i, a.eval x)).toList = parts.toList.map fun p => (p.1, a.eval p.2) := by simp
  simp only [execOp, ho, Instr.build, Sem.run_bind, hz3, Result.andThen_ok, run_underlying hu w, hmapA, hzc, hpa, hzz.trans (zer_den hz0 e), hfill, Sem.run_pure]
  rfl
end
end Go.Proofs.Ytmpnkknocfaciaa
