/- Rows in slices: read out of closed ones, fields' addresses, appended, written. No condition. -/
import Derived.Test.YtkdflpdemoaifaaSymW
namespace Go.Proofs.Ytkdflpdemoaifaa
open Go.RowKit
set_option maxRecDepth 100000
/-! ### lists of rows -/
theorem flat_length {α β : Type} {f : α → List β} {sz : Nat} : ∀ (l : List α), (∀ a ∈ l, (f a).length = sz) → (l.flatMap f).length = l.length * sz
  | [], _ => by simp
  | a :: l, h => by
    rw [List.flatMap_cons, List.length_append, flat_length l fun b hb => h b (List.mem_cons_of_mem _ hb), h a List.mem_cons_self, List.length_cons, Nat.add_mul]
    omega
theorem flat_row {α β : Type} {f : α → List β} {sz : Nat} : ∀ (l : List α), (∀ a ∈ l, (f a).length = sz) → ∀ (i : Nat) a, l[i]? = some a → ((l.flatMap f).drop (i * sz)).take sz = f a
  | [], _, i, a, h => by simp at h
  | b :: l, hl, 0, a, h => by
    simp at h
    subst h
    rw [List.flatMap_cons, Nat.zero_mul, List.drop_zero, List.take_append_of_le_length (by rw [hl b List.mem_cons_self]; exact Nat.le_refl _), List.take_of_length_le (by rw [hl b List.mem_cons_self]; exact Nat.le_refl _)]
  | b :: l, hl, i + 1, a, h => by
    have hb := hl b List.mem_cons_self
    have := flat_row l (fun c hc => hl c (List.mem_cons_of_mem _ hc)) i a (by simpa using h)
    rw [List.flatMap_cons, show (i + 1) * sz = (f b).length + i * sz by rw [hb, Nat.add_mul]; omega, List.drop_append]
    simpa [List.drop_of_length_le] using this
theorem flat_get {α β : Type} {f : α → List β} {sz : Nat} (l : List α) (hl : ∀ a ∈ l, (f a).length = sz) (i k : Nat) (a : α) (h : l[i]? = some a) (hk : k < sz) : (l.flatMap f)[i * sz + k]? = (f a)[k]? := by
  rw [← flat_row l hl i a h, List.getElem?_take, if_pos hk, List.getElem?_drop]
theorem flat_take {α β : Type} {f : α → List β} (l : List α) (i : Nat) (a : α) (h : l[i]? = some a) : (l.take (i + 1)).flatMap f = (l.take i).flatMap f ++ f a := by
  rw [List.take_add_one, h]
  simp
theorem flat_cut {α β : Type} {f : α → List β} {sz : Nat} : ∀ (l : List α), (∀ a ∈ l, (f a).length = sz) → ∀ k, (l.take k).flatMap f = (l.flatMap f).take (k * sz) ∧ (l.drop k).flatMap f = (l.flatMap f).drop (k * sz)
  | [], _, k => by simp
  | a :: l, _, 0 => by simp
  | a :: l, hl, k + 1 => by
    have ha := hl a List.mem_cons_self
    obtain ⟨h1, h2⟩ := flat_cut l (fun c hc => hl c (List.mem_cons_of_mem _ hc)) k
    rw [List.take_succ_cons, List.drop_succ_cons, List.flatMap_cons, List.flatMap_cons, h1, h2, show (k + 1) * sz = (f a).length + k * sz by rw [ha, Nat.add_mul]; omega, List.take_length_add_append, List.drop_length_add_append]
    exact ⟨rfl, rfl⟩
variable {C : Ctx} {ops : Array Oper} {S : St} {o : Oper}
/-! ### rows read -/
theorem op_loadsF {ty : TypeId} {x : Operand} {v : Value} {n off sz m : Nat} {xs : List Value} {B : List Value} {d : TypeDesc} (ho : o.op = .load ty x) (hg : o.guard = none) (hd : dstB o.dst C.nt = true) (hx : S.ev x = some (.c (ptrV v off))) (hm0 : C.m = []) (hf : RdV C.w0 sz v n xs) (hu' : tabLook undT ty = some d) (hda : d.isRow = true) (hi' : tabLook sizT ty = some m) (hm : 0 < m) (hb : off + m ≤ xs.length) (hB : (xs.drop off).take m = B) :
    OpG C Try.prog ops o S ⟨opT x, [], dw o.dst (.c (.agg B.toArray)), [], []⟩ := by
  have hu := tabAll_look undT_ok hu'
  have hi := tabAll_look sizT_ok hi'
  have hBl : B.length = m := by rw [← hB, List.length_take, List.length_drop]; omega
  have := op_value (C := C) (P := Try.prog) (ops := ops) (S := S) hg hd [x] [] (.c (.agg B.toArray)) fun S' e a w hS h1 h2 => by
    have hev : a.eval x = ptrV v off := hS.ev ((h1 x (by simp)).trans hx)
    obtain ⟨hl, ad, c, rfl, hr⟩ := hf
    rcases hr with h3 | ⟨b, o2, rfl, hr⟩
    · subst h3; omega
    · have hra : w.rangeAt b (o2 + off) B := fun j u hj => by
        have hjl : j < m := by have := (List.getElem?_eq_some_iff.1 hj).1; omega
        rw [← hB, List.getElem?_take, if_pos hjl, List.getElem?_drop] at hj
        have hc := hr (off + j) u hj
        have hlt := World.block_lt_of_cell? C.w0 ⟨b, o2 + (off + j), none⟩ hc
        rw [Nat.add_assoc, World.cell?_of_block (hS.frame.block b hlt (by rw [hm0]; simp))]
        exact hc
      have hl := run_loadVar_mid (P := Try.prog) w b (o2 + off) ty B d hra hu hda (by rw [hi, hBl])
      have hev : a.eval x = .pointer (some ⟨b, o2 + off, none⟩) := hev
      simp [execOp, ho, hev, Instr.loadAt, Instr.sureAddr, Sem.run_bind, hl, SV.c]
  simpa using this
/-! ### addresses of fields -/
theorem op_fldF {ty f off k sz n size : Nat} {v : Value} {xs : List Value} {x : Operand} (ho : o.op = .fieldAddr ty x f) (hg : o.guard = none) (hd : dstB o.dst C.nt = true) (hx : S.ev x = some (.c (ptrV v off))) (hf : RdV C.w0 size v n xs) (hn : 0 < n) (hk : tabLook fldT (ty * 100 + f) = some (k, sz)) (hz : (decide (f < 100) && decide (sz ≠ 0)) = true) {off' : Nat} (hoff : off + k = off') :
    OpG C Try.prog ops o S ⟨opT x, [], dw o.dst (.c (ptrV v off')), [], []⟩ := by
  subst hoff
  obtain ⟨hl, ad, c, rfl, hr⟩ := hf
  rcases hr with h3 | ⟨b, o2, rfl, hr⟩
  · omega
  simp only [Bool.and_eq_true, decide_eq_true_eq] at hz
  have hkk := tabAll_look fldT_ok hk
  obtain ⟨fs, fd, hu, hf, h1, h2⟩ := hkk
  rw [show (ty * 100 + f) / 100 = ty by omega] at hu
  rw [show (ty * 100 + f) % 100 = f by omega] at hf
  simp only at h1
  subst h1
  refine op_one (v := .c (ptrV (.slice (some ⟨b, o2, none⟩) n c) (off + fd.offset))) hg hd hx fun e ρ w h1 => ?_
  have h1' : ρ x = .pointer (some ⟨b, o2 + off, none⟩) := h1
  have hs : (sizeOf fd.type).run Try.prog w = .ok sz w := by
    cases hq : Try.prog.info? fd.type with
    | none => simp [hq] at h2
    | some i =>
      have hi : i.size = sz := by simpa [hq] using h2
      simp [sizeOf, typeInfo, hq, hi]
  simp only [execOp, ho, h1', Instr.fieldAt, fieldPlace, Sem.run_bind, run_underlying hu w, Result.andThen_ok, hf, Sem.run_pure, Instr.sureAddr, Sem.run_ite, hs, if_neg hz.2, add_place, Nat.add_assoc]
  rfl
theorem op_fldV {ty f off k sz n len size T0 : Nat} {xs : List Value} {x : Operand} (ho : o.op = .fieldAddr ty x f) (hg : o.guard = none) (hd : dstB o.dst C.nt = true) (hx : S.ev x = some (.vp n off)) (hr : S.res n = some (.own n T0 size len xs)) (hn : 0 < len) (hk : tabLook fldT (ty * 100 + f) = some (k, sz)) (hz : (decide (f < 100) && decide (sz ≠ 0)) = true) {off' : Nat} (hoff : off + k = off') :
    OpG C Try.prog ops o S ⟨opT x, [n], dw o.dst (.vp n off'), [], []⟩ := by
  subst hoff
  simp only [Bool.and_eq_true, decide_eq_true_eq] at hz
  have hkk := tabAll_look fldT_ok hk
  obtain ⟨fs, fd, hu, hf, h1, h2⟩ := hkk
  rw [show (ty * 100 + f) / 100 = ty by omega] at hu
  rw [show (ty * 100 + f) % 100 = f by omega] at hf
  simp only at h1
  subst h1
  have hs : ∀ w, (sizeOf fd.type).run Try.prog w = .ok sz w := fun w => by
    cases hq : Try.prog.info? fd.type with
    | none => simp [hq] at h2
    | some i =>
      have hi : i.size = sz := by simpa [hq] using h2
      simp [sizeOf, typeInfo, hq, hi]
  have := op_value (C := C) (P := Try.prog) (ops := ops) (S := S) hg hd [x] [n] (.vp n (off + fd.offset)) fun S' e a w hS g1 g2 => by
    have hev : a.eval x = (SV.vp n off).den e := hS.ev ((g1 x (by simp)).trans hx)
    have hok : w.ownsRow 0 T0 size (e n).v len xs := hS.res n _ ((g2 n (by simp)).trans hr)
    rcases hok.2 with ⟨h3, h4⟩ | ⟨g, cap, cur, h4, _⟩
    · omega
    · have hden : ∀ q, (SV.vp n q).den e = .pointer (some ⟨g, q, none⟩) := fun q => by simp only [SV.vp, h4]
      rw [hden] at hev
      rw [hden]
      simp only [execOp, ho, hev, Instr.fieldAt, fieldPlace, Sem.run_bind, run_underlying hu w, Result.andThen_ok, hf, Sem.run_pure, Instr.sureAddr, Sem.run_ite, hs w, if_neg hz.2, add_place]
  simpa using this
/-! ### a row appended -/
theorem op_appendE {x y : Operand} {t T sz len by_ m n q cap : Nat} {T0 : TypeId} {wr : Bool} {xs news : List Value} {A : Array Value} {ty : TypeId} {pos : String} {after : Array Edge} (hd : dstB (some n) C.nt = true) (hx : S.ev x = some (.v m)) (hr : S.res m = some (.own m T sz len xs)) (hy : S.ev y = some (.s q 0 1 cap))
    (hq : S.res q = some (.blk q T0 (.c news.toArray) wr)) (hu' : tabLook undT t = some (.slice T)) (hs' : tabLook sizT T = some sz) (hy' : tabLook bytT T = some by_) (hz' : tabLook zerT T = some A) (hA : A.size = sz) (hsz : 0 < sz) (hl2 : news.length = sz) (h1 : ∀ u ∈ news, u.oneCell' = true)
    (hmax : len + 1 ≤ 1099511627776 ∧ (len + 1) * by_ ≤ 140737488355328) (hmn : Nat.beq m n = false) :
    OpG C Try.prog ops ⟨some n, .call { callee := .builtin .append, args := #[x, y], argTypes := #[t, t] }, ty, pos, after, none⟩ S ⟨opT x ++ opT y, m :: ((SV.s q 0 1 cap).sup ++ [q]), [(n, .v n)], [(m, none), (n, some (.own n T sz (len + 1) (xs ++ news)))], [n]⟩ := by
  refine op_append hd hx hr hy hu' hs' hy' hz' hA hsz ?_ h1 hmax hmn
  have := rdn_row (C := C) (S := S) (size := sz) (len := 1) (cap := cap) hq (by rw [List.size_toArray, hl2, Nat.one_mul])
  simpa using this
end Go.Proofs.Ytkdflpdemoaifaa
