/- Rows in slices: read out of closed ones, fields' addresses, appended, written. No condition. -/
import Derived.Test.YtgjlpnendljcaaaSymW
namespace Go.Proofs.Ytgjlpnendljcaaa
open Go.RowKit
set_option maxRecDepth 100000
/-! ### lists of rows -/
theorem flat_length {α β : Type} {f : α → List β} {sz : Nat} : ∀ (l : List α), (∀ a ∈ l, (f a).length = sz) → (l.flatMap f).length = l.length * sz
  | [], _ => by simp
  | a :: l, h => by
    rw [List.flatMap_cons, List.length_append, flat_length l fun b hb => h b (List.mem_cons_of_mem _ hb), h a List.mem_cons_self, List.length_cons, Nat.add_mul]
    omega
theorem flat_row {α β : Type} {f : α → List β} {sz : Nat} : ∀ (l : List α), (∀ a ∈ l, (f a).length = sz) → ∀ (i : Nat) a, l[i]? = some a → ((l.flatMap f).drop (i * sz)).take sz = f a
  | [], _, i, a, h => by simp at h
  | b :: l, hl, 0, a, h => by
    simp at h
    subst h
    rw [List.flatMap_cons, Nat.zero_mul, List.drop_zero, List.take_append_of_le_length (by rw [hl b List.mem_cons_self]; exact Nat.le_refl _), List.take_of_length_le (by rw [hl b List.mem_cons_self]; exact Nat.le_refl _)]
  | b :: l, hl, i + 1, a, h => by
    have hb := hl b List.mem_cons_self
    have := flat_row l (fun c hc => hl c (List.mem_cons_of_mem _ hc)) i a (by simpa using h)
    rw [List.flatMap_cons, show (i + 1) * sz = (f b).length + i * sz by rw [hb, Nat.add_mul]; omega, List.drop_append]
    simpa [List.drop_of_length_le] using this
theorem flat_get {α β : Type} {f : α → List β} {sz : Nat} (l : List α) (hl : ∀ a ∈ l, (f a).length = sz) (i k : Nat) (a : α) (h : l[i]? = some a) (hk : k < sz) : (l.flatMap f)[i * sz + k]? = (f a)[k]? := by
  rw [← flat_row l hl i a h, List.getElem?_take, if_pos hk, List.getElem?_drop]
theorem flat_take {α β : Type} {f : α → List β} (l : List α) (i : Nat) (a : α) (h : l[i]? = some a) : (l.take (i + 1)).flatMap f = (l.take i).flatMap f ++ f a := by
  rw [List.take_add_one, h]
  simp
theorem flat_cut {α β : Type} {f : α → List β} {sz : Nat} : ∀ (l : List α), (∀ a ∈ l, (f a).length = sz) → ∀ k, (l.take k).flatMap f = (l.flatMap f).take (k * sz) ∧ (l.drop k).flatMap f = (l.flatMap f).drop (k * sz)
  | [], _, k => by simp
  | a :: l, _, 0 => by simp
  | a :: l, hl, k + 1 => by
    have ha := hl a List.mem_cons_self
    obtain ⟨h1, h2⟩ := flat_cut l (fun c hc => hl c (List.mem_cons_of_mem _ hc)) k
    rw [List.take_succ_cons, List.drop_succ_cons, List.flatMap_cons, List.flatMap_cons, h1, h2, show (k + 1) * sz = (f a).length + k * sz by rw [ha, Nat.add_mul]; omega, List.take_length_add_append, List.drop_length_add_append]
    exact ⟨rfl, rfl⟩
variable {C : Ctx} {ops : Array Oper} {S : St} {o : Oper}
/-! ### rows read -/
theorem op_loadsF {ty : TypeId} {x : Operand} {v : Value} {n off sz m : Nat} {xs : List Value} {B : List Value} {d : TypeDesc} (ho : o.op = .load ty x) (hg : o.guard = none) (hd : dstB o.dst C.nt = true) (hx : S.ev x = some (.c (ptrV v off))) (hm0 : C.m = []) (hf : RdV C.w0 sz v n xs) (hu' : tabLook undT ty = some d) (hda : d.isRow = true) (hi' : tabLook sizT ty = some m) (hm : 0 < m) (hb : off + m ≤ xs.length) (hB : (xs.drop off).take m = B) :
    OpG C Try.prog ops o S ⟨opT x, [], dw o.dst (.c (.agg B.toArray)), [], []⟩ := by
  have hu := tabAll_look undT_ok hu'
  have hi := tabAll_look sizT_ok hi'
  have hBl : B.length = m := by rw [← hB, List.length_take, List.length_drop]; omega
  have := op_value (C := C) (P := Try.prog) (ops := ops) (S := S) hg hd [x] [] (.c (.agg B.toArray)) fun S' e a w hS h1 h2 => by
    have hev : a.eval x = ptrV v off := hS.ev ((h1 x (by simp)).trans hx)
    obtain ⟨hl, ad, c, rfl, hr⟩ := hf
    rcases hr with h3 | ⟨b, o2, rfl, hr⟩
    · subst h3; omega
    · have hra : w.rangeAt b (o2 + off) B := fun j u hj => by
        have hjl : j < m := by have := (List.getElem?_eq_some_iff.1 hj).1; omega
        rw [← hB, List.getElem?_take, if_pos hjl, List.getElem?_drop] at hj
        have hc := hr (off + j) u hj
        have hlt := World.block_lt_of_cell? C.w0 ⟨b, o2 + (off + j), none⟩ hc
        rw [Nat.add_assoc, World.cell?_of_block (hS.frame.block b hlt (by rw [hm0]; simp))]
        exact hc
      have hl := run_loadVar_mid (P := Try.prog) w b (o2 + off) ty B d hra hu hda (by rw [hi, hBl])
      have hev : a.eval x = .pointer (some ⟨b, o2 + off, none⟩) := hev
      simp [execOp, ho, hev, Instr.loadAt, Instr.sureAddr, Sem.run_bind, hl, SV.c]
  simpa using this
/-! ### addresses of fields -/
theorem op_fldF {ty f off k sz n size : Nat} {v : Value} {xs : List Value} {x : Operand} (ho : o.op = .fieldAddr ty x f) (hg : o.guard = none) (hd : dstB o.dst C.nt = true) (hx : S.ev x = some (.c (ptrV v off))) (hf : RdV C.w0 size v n xs) (hn : 0 < n) (hk : tabLook fldT (ty * 100 + f) = some (k, sz)) (hz : (decide (f < 100) && decide (sz ≠ 0)) = true) {off' : Nat} (hoff : off + k = off') :
    OpG C Try.prog ops o S ⟨opT x, [], dw o.dst (.c (ptrV v off')), [], []⟩ := by
  subst hoff
  obtain ⟨hl, ad, c, rfl, hr⟩ := hf
  rcases hr with h3 | ⟨b, o2, rfl, hr⟩
  · omega
  simp only [Bool.and_eq_true, decide_eq_true_eq] at hz
  have hkk := tabAll_look fldT_ok hk
  obtain ⟨fs, fd, hu, hf, h1, h2⟩ := hkk
  rw [show (ty * 100 + f) / 100 = ty by omega] at hu
  rw [show (ty * 100 + f) % 100 = f by omega] at hf
  simp only at h1
  subst h1
  refine op_one (v := .c (ptrV (.slice (some ⟨b, o2, none⟩) n c) (off + fd.offset))) hg hd hx fun e ρ w h1 => ?_
  have h1' : ρ x = .pointer (some ⟨b, o2 + off, none⟩) := h1
  have hs : (sizeOf fd.type).run Try.prog w = .ok sz w := by
    cases hq : Try.prog.info? fd.type with
    | none => simp [hq] at h2
    | some i =>
      have hi : i.size = sz := by simpa [hq] using h2
      simp [sizeOf, typeInfo, hq, hi]
  simp only [execOp, ho, h1', Instr.fieldAt, fieldPlace, Sem.run_bind, run_underlying hu w, Result.andThen_ok, hf, Sem.run_pure, Instr.sureAddr, Sem.run_ite, hs, if_neg hz.2, add_place, Nat.add_assoc]
  rfl
theorem op_fldV {ty f off k sz n len size T0 : Nat} {xs : List Value} {x : Operand} (ho : o.op = .fieldAddr ty x f) (hg : o.guard = none) (hd : dstB o.dst C.nt = true) (hx : S.ev x = some (.vp n off)) (hr : S.res n = some (.own n T0 size len xs)) (hn : 0 < len) (hk : tabLook fldT (ty * 100 + f) = some (k, sz)) (hz : (decide (f < 100) && decide (sz ≠ 0)) = true) {off' : Nat} (hoff : off + k = off') :
    OpG C Try.prog ops o S ⟨opT x, [n], dw o.dst (.vp n off'), [], []⟩ := by
  subst hoff
  simp only [Bool.and_eq_true, decide_eq_true_eq] at hz
  have hkk := tabAll_look fldT_ok hk
  obtain ⟨fs, fd, hu, hf, h1, h2⟩ := hkk
  rw [show (ty * 100 + f) / 100 = ty by omega] at hu
  rw [show (ty * 100 + f) % 100 = f by omega] at hf
  simp only at h1
  subst h1
  have hs : ∀ w, (sizeOf fd.type).run Try.prog w = .ok sz w := fun w => by
    cases hq : Try.prog.info? fd.type with
    | none => simp [hq] at h2
    | some i =>
      have hi : i.size = sz := by simpa [hq] using h2
      simp [sizeOf, typeInfo, hq, hi]
  have := op_value (C := C) (P := Try.prog) (ops := ops) (S := S) hg hd [x] [n] (.vp n (off + fd.offset)) fun S' e a w hS g1 g2 => by
    have hev : a.eval x = (SV.vp n off).den e := hS.ev ((g1 x (by simp)).trans hx)
    have hok : w.ownsRow 0 T0 size (e n).v len xs := hS.res n _ ((g2 n (by simp)).trans hr)
    rcases hok.2 with ⟨h3, h4⟩ | ⟨g, cap, cur, h4, _⟩
    · omega
    · have hden : ∀ q, (SV.vp n q).den e = .pointer (some ⟨g, q, none⟩) := fun q => by simp only [SV.vp, h4]
      rw [hden] at hev
      rw [hden]
      simp only [execOp, ho, hev, Instr.fieldAt, fieldPlace, Sem.run_bind, run_underlying hu w, Result.andThen_ok, hf, Sem.run_pure, Instr.sureAddr, Sem.run_ite, hs w, if_neg hz.2, add_place]
  simpa using this
/-! ### a row appended -/
theorem op_appendE {x y : Operand} {t T sz len by_ m n q cap : Nat} {T0 : TypeId} {wr : Bool} {xs news : List Value} {A : Array Value} {ty : TypeId} {pos : String} {after : Array Edge} (hd : dstB (some n) C.nt = true) (hx : S.ev x = some (.v m)) (hr : S.res m = some (.own m T sz len xs)) (hy : S.ev y = some (.s q 0 1 cap))
    (hq : S.res q = some (.blk q T0 (.c news.toArray) wr)) (hu' : tabLook undT t = some (.slice T)) (hs' : tabLook sizT T = some sz) (hy' : tabLook bytT T = some by_) (hz' : tabLook zerT T = some A) (hA : A.size = sz) (hsz : 0 < sz) (hl2 : news.length = sz) (h1 : ∀ u ∈ news, u.oneCell' = true)
    (hmax : len + 1 ≤ 1099511627776 ∧ (len + 1) * by_ ≤ 140737488355328) (hmn : Nat.beq m n = false) :
    OpG C Try.prog ops ⟨some n, .call { callee := .builtin .append, args := #[x, y], argTypes := #[t, t] }, ty, pos, after, none⟩ S ⟨opT x ++ opT y, m :: ((SV.s q 0 1 cap).sup ++ [q]), [(n, .v n)], [(m, none), (n, some (.own n T sz (len + 1) (xs ++ news)))], [n]⟩ := by
  refine op_append hd hx hr hy hu' hs' hy' hz' hA hsz ?_ h1 hmax hmn
  have := rdn_row (C := C) (S := S) (size := sz) (len := 1) (cap := cap) hq (by rw [List.size_toArray, hl2, Nat.one_mul])
  simpa using this
end Go.Proofs.Ytgjlpnendljcaaa
namespace Go.Proofs.Ytgjlpnendljcaaa
open Go.RowKit
set_option maxRecDepth 100000
/-- What is cut out of a slice of elements of sz cells. -/
def cutZ (sz : Nat) : Value → Nat → Nat → Value
  | .slice a _ c, lo, len => .slice (if c = lo then a else a.map (·.add (lo * sz))) len (c - lo)
  | v, _, _ => v
theorem FS.cutZ {w : World} {sz : Nat} {v : Value} {n : Nat} {xs : List Value} (h : FS w sz v n xs) {lo len : Nat} (hl : lo + len ≤ n) : FS w sz (cutZ sz v lo len) len ((xs.drop (lo * sz)).take (len * sz)) := by
  obtain ⟨⟨hlen, a, c, hv, hr⟩, a', c', hv', hc⟩ := h
  rw [hv] at hv'
  cases hv'
  subst hv
  have hm : lo * sz + len * sz ≤ n * sz := by rw [← Nat.add_mul]; exact Nat.mul_le_mul_right _ hl
  refine ⟨⟨by rw [List.length_take, List.length_drop]; omega, _, _, rfl, ?_⟩, _, _, rfl, by omega⟩
  rcases hr with h0 | ⟨b, off, rfl, hr⟩
  · exact .inl (by omega)
  · by_cases hcl : c = lo
    · left; omega
    · refine .inr ⟨b, off + lo * sz, by rw [if_neg hcl]; simp [add_place], fun j u hu => ?_⟩
      rw [List.getElem?_take] at hu
      split at hu
      · rw [List.getElem?_drop] at hu
        rw [Nat.add_assoc]
        exact hr _ u hu
      · cases hu
theorem FS.cutE {α : Type} {f : α → List Value} {w : World} {sz : Nat} {v : Value} {n : Nat} {es : List α} (h : FS w sz v n (es.flatMap f)) (hf : ∀ e ∈ es, (f e).length = sz) {lo len : Nat} (hl : lo + len ≤ n) : FS w sz (Go.Proofs.Ytgjlpnendljcaaa.cutZ sz v lo len) len (((es.drop lo).take len).flatMap f) := by
  have := h.cutZ hl
  rwa [← (flat_cut es hf lo).2, ← (flat_cut (es.drop lo) (fun e he => hf e (List.mem_of_mem_drop he)) len).1] at this
variable {C : Ctx} {ops : Array Oper} {S : St} {o : Oper}
theorem op_cutZ {t T : TypeId} {x : Operand} {v : Value} {ol oh : Option Operand} {lo hi sz n : Nat} {xs : List Value} (ho : o.op = .slice t x ol oh none) (hg : o.guard = none) (hd : dstB o.dst C.nt = true) (hx : S.ev x = some (.c v)) (hu' : tabLook undT t = some (.slice T)) (hs' : tabLook sizT T = some sz) (hf : FS C.w0 sz v n xs) (hl : EvO S ol 0 lo := by first | exact evO_none | exact evO_some (by first | exact evK_const rfl | exact evK_tmp rfl)) (hh : EvO S oh n hi := by first | exact evO_none | exact evO_some (by first | exact evK_const rfl | exact evK_tmp rfl)) (h1 : lo ≤ hi := by first | omega | decide) (h2 : hi ≤ n := by first | omega | decide) :
    OpG C Try.prog ops o S ⟨opT x ++ (opO ol ++ opO oh), [], dw o.dst (.c (cutZ sz v lo (hi - lo))), [], []⟩ := by
  obtain ⟨_, a, c, rfl, hc⟩ := hf
  exact op_cut ho hg hd hx hu' hs' hl hh h1 (fun S' e a' w _ hS => ⟨a, c, rfl, by omega, rfl⟩) rfl
theorem op_storesC {ty : TypeId} {x y : Operand} {n : Nat} {T : TypeId} {A : SA} {a : Array Value} {m : Nat} (ho : o.op = .store ty x y) (hg : o.guard = none) (hdst : o.dst = none) (hx : S.ev x = some (.p n 0)) (hy : S.ev y = some (.c (.agg a))) (hr : S.res n = some (.blk n T A))
    (hi' : tabLook sizT ty = some m) (hsz : a.size = m) (h1c : a.all (·.oneCell') = true) (hm : ∀ e, (A.den e).size = m := by (fail_if_success (with_reducible apply trap_sm)); first | ((with_reducible apply sm_vals); exact (by first | omega | (simp; omega) | (simp <;> fail) | omega)) | ((with_reducible apply sm_c); rfl) | ((with_reducible apply sm_l); rfl)) :
    OpG C Try.prog ops o S ⟨opT x ++ opT y, n :: (SA.c a).sup, [], [(n, some (.blk n T (.c a)))], []⟩ := op_stores ho hg hdst hx hy hr hi' hm (fun _ => rfl) (fun _ => hsz) (fun _ => h1c)
end Go.Proofs.Ytgjlpnendljcaaa
namespace Go.Proofs.Ytgjlpnendljcaaa
open Go.RowKit
set_option maxRecDepth 100000
section
variable {C : Ctx} {ops : Array Oper} {S : St} {o : Oper} {x y : Operand} {ty yt : TypeId}
theorem op_remI {a b : Int} (ho : o.op = .binOp .rem ty x y yt) (hg : o.guard = none) (hd : dstB o.dst C.nt = true) (hx : EvI S x a) (hy : EvI S y b) (h : b ≠ 0) : OpG C Try.prog ops o S ⟨opT x ++ opT y, [], dw o.dst (.c (.int .i64 (a.tmod b))), [], []⟩ :=
  op_int2 ho hg hd hx hy fun w => (run_div h).2
theorem op_remK {a b : Int} {k : Nat} (ho : o.op = .binOp .rem ty x y yt) (hg : o.guard = none) (hd : dstB o.dst C.nt = true) (hx : EvI S x a) (hy : EvI S y b) (h : b ≠ 0) (hk : a.tmod b = ((k : Nat) : Int)) : OpG C Try.prog ops o S ⟨opT x ++ opT y, [], dw o.dst (.c (.int .i64 ((k : Nat) : Int))), [], []⟩ := by
  rw [← hk]
  exact op_remI ho hg hd hx hy h
end
theorem cut_mod (c : Int) (n : Nat) (h : 0 < n) : ∃ z : Int, ∃ k : Nat, k < n ∧ c.tmod n = z ∧ -(n : Int) < z ∧ z < n ∧ (z + n).tmod n = (k : Int) := by
  have hn : (0 : Int) < n := by omega
  have h1 : -(n : Int) < c.tmod n := by
    rcases Int.le_total 0 c with h0 | h0
    · have := Int.tmod_nonneg (n : Int) h0
      omega
    · have h2 := Int.tmod_lt_of_pos (-c) hn
      rw [Int.neg_tmod] at h2
      omega
  have h2 := Int.tmod_lt_of_pos c hn
  refine ⟨c.tmod n, ((c.tmod n + n).tmod n).toNat, ?_, rfl, h1, h2, ?_⟩
  · have h3 := Int.tmod_lt_of_pos (c.tmod n + n) hn
    have h4 := Int.tmod_nonneg (n : Int) (show 0 ≤ c.tmod n + n by omega)
    omega
  · have h4 := Int.tmod_nonneg (n : Int) (show 0 ≤ c.tmod n + n by omega)
    omega
section
variable {C : Ctx} {ops : Array Oper} {S : St} {o : Oper}
theorem op_storeZ {sz : Nat} {x y : Operand} {t : TypeId} {n off len : Nat} {T0 : TypeId} {xs ys : List Value} {v : SV} {u : Value} (ho : o.op = .store t x y) (hg : o.guard = none) (hdst : o.dst = none) (hx : S.ev x = some (.vp n off)) (hy : S.ev y = some v) (hr : S.res n = some (.own n T0 sz len xs)) (hi' : tabLook sizT t = some 1) (hv : v = .c u) (h1c : u.oneCell' = true) (hoff : off < len * sz) (hys : xs.set off u = ys) :
    OpG C Try.prog ops o S ⟨opT x ++ opT y, [n], [], [(n, some (.own n T0 sz len ys))], []⟩ := by
  have hi := tabAll_look sizT_ok hi'
  subst hv hys
  refine opG_mk hg fun S' h1 h2 h3 e a w hS => ?_
  have hr' := (h2 n (by simp)).trans hr
  have hok : w.ownsRow 0 T0 sz (e n).v len xs := hS.res n _ hr'
  have hxl : xs.length = len * sz := hok.1
  rcases hok.2 with ⟨_, h0⟩ | ⟨g, cap, cur, hev, _, hb, hnc, hcm, hcs, htk⟩
  · subst h0; omega
  have hmul := Nat.mul_le_mul_right sz hnc
  have hevx : a.eval x = .pointer (some ⟨g, off, none⟩) := by
    rw [hS.ev ((ev_like h1 fun _ h => List.mem_append_left _ h).trans hx)]
    show (match (e n).v with | .slice (some a) _ _ => Value.pointer (some ⟨a.block, off, none⟩) | _ => undef) = _
    rw [hev]
  have hevy : a.eval y = u := hS.ev ((ev_like h1 fun _ h => List.mem_append_right _ h).trans hy)
  have hok2 := hok
  rw [hev] at hok2
  obtain ⟨hst, hgr⟩ := hok2.stored off u
  have hc : w.cell? ⟨g, off, none⟩ = some (cur[off]'(by omega)) := (cell_of_row w _ off _ _ _ hb).trans (by simp)
  have hf : w.frozen? ⟨g, off, none⟩ = false := frozen_of_row w _ off _ _ hb
  have hcells : u.cells = #[u] := by cases hh : u <;> rw [hh] at h1c <;> first | rfl | (simp [Value.oneCell'] at h1c)
  have hmine : ∀ b, (e n).v.ownBlock = some b → C.mine b := fun b hb => hS.mine n _ hr' rfl b hb
  have hg0 : (e n).v.ownBlock = some g := by rw [hev]; rfl
  refine wp_skip' (w' := w.setCell ⟨g, off, none⟩ u) ?_ ⟨e, ?_⟩
  · cases hq : Try.prog.info? t with
    | none => simp [hq] at hi
    | some i =>
      have hs : i.size = 1 := by simpa [hq] using hi
      simp [execOp, ho, hevx, hevy, Instr.storeAt, Instr.sureAddr, storeVar, sizeOf, typeInfo, hq, hs, hcells, storeCells, run_store Try.prog _ _ _ _ h1c, hc, hf, Addr.add]
  · rw [hdst]
    refine ⟨hS.defers, hS.size, hS.tmp, fun m r h => ?_, fun m r h hw b hb => ?_, fun m k r r' h h' hne hw b hb => ?_, ⟨hS.frame.os, hS.frame.tape, hS.frame.output, by simpa [World.setCell] using hS.frame.size, fun k hk hkm => ?_⟩⟩
    · have h : (St.mk S'.t ((n, some (.own n T0 sz len (xs.set off u))) :: S'.h)).res m = some r := h
      rw [St.res_cons] at h
      split at h
      · cases h
        show (w.setCell ⟨g, off, none⟩ u).ownsRow 0 T0 sz (e n).v len (xs.set off u)
        rw [hev]; exact hst
      · rename_i hne
        refine r.loc e w _ (fun b hfb => Below.heap_setCell w _ _ b fun he => ?_) (hS.res m r h)
        have he : b = g := he
        subst he
        exact hS.sep n m _ r hr' h hne rfl b hg0 hfb
    · have h : (St.mk S'.t ((n, some (.own n T0 sz len (xs.set off u))) :: S'.h)).res m = some r := h
      rw [St.res_cons] at h
      split at h
      · cases h; exact hmine b hb
      · exact hS.mine m r h hw b hb
    · have h : (St.mk S'.t ((n, some (.own n T0 sz len (xs.set off u))) :: S'.h)).res m = some r := h
      have h' : (St.mk S'.t ((n, some (.own n T0 sz len (xs.set off u))) :: S'.h)).res k = some r' := h'
      rw [St.res_cons] at h h'
      split at h
      · rename_i h1; cases h; subst h1
        split at h'
        · rename_i h2; exact absurd h2 hne
        · exact hS.sep n k _ r' hr' h' hne rfl b hb
      · split at h'
        · rename_i h2; cases h'; subst h2
          exact hS.sep m n r _ h hr' hne hw b hb
        · exact hS.sep m k r r' h h' hne hw b hb
    · refine (Below.heap_setCell w ⟨g, off, none⟩ u k fun he => ?_).trans (hS.frame.block k hk hkm)
      have he : k = g := he
      subst he
      rcases hmine k hg0 with h | h
      · omega
      · exact hkm h
end
end Go.Proofs.Ytgjlpnendljcaaa
