/- Arrays of whole numbers, none of them below 0. No condition. Slices of whole numbers changed in place; closures that hold something. No condition. -/
import Derived.Test.YtmpnkknocfaciaaSymSX
import Derived.Test.YtmpnkknocfaciaaSymYA
namespace Go.Proofs.Ytmpnkknocfaciaa
open Go.RowKit
set_option maxRecDepth 100000
variable {C : Ctx} {ops : Array Oper} {S : St} {o : Oper}
def gtN (l : List Nat) (i : Nat) : Nat := l.getD i 0
end Go.Proofs.Ytmpnkknocfaciaa
namespace Go.Proofs.Ytmpnkknocfaciaa
open Go.RowKit
set_option maxRecDepth 100000
set_option maxHeartbeats 1000000
/-! ### a row of whole numbers in the midst of a block -/
def intV (n : Nat) : Value := .int .i64 ((n : Nat) : Int)
def segA (pre post : List Value) (l : List Nat) : Array Value := (pre ++ (l.map intV ++ post)).toArray
theorem segA_get {pre post : List Value} {l : List Nat} {j : Nat} (h : j < l.length) : (segA pre post l)[pre.length + j * 1]? = some (.int .i64 ((gtN l j : Nat) : Int)) := by
  rw [Nat.mul_one]
  simp [segA, List.getElem?_append, h, intV, gtN, List.getD]
theorem segA_set {pre post : List Value} {l : List Nat} {j n : Nat} (h : j < l.length) : (segA pre post l).setIfInBounds (pre.length + j * 1) (.int .i64 ((n : Nat) : Int)) = segA pre post (l.set j n) := by
  rw [Nat.mul_one]
  apply Array.ext'
  have e1 : ∀ (p : List Value) (x : List Value) (v : Value), (p ++ x).set (p.length + j) v = p ++ x.set j v := fun p x v => by
    rw [List.set_append_right _ _ (by omega)]
    congr 2
    omega
  simp only [segA, Array.toList_setIfInBounds]
  rw [e1, List.set_append_left _ _ (by simpa using h), List.map_set]
  rfl
theorem segA_size {pre post : List Value} {l : List Nat} : (segA pre post l).size = pre.length + (l.length + post.length) := by simp [segA]
theorem BelowX.trans {w0 w1 w2 : World} {m : List Nat} (h1 : BelowX w0 w1 m) (h2 : BelowX w1 w2 m) : BelowX w0 w2 m :=
  ⟨h2.os.trans h1.os, h2.tape.trans h1.tape, h2.output.trans h1.output, Nat.le_trans h1.size h2.size, fun k hk hm => (h2.block k (Nat.lt_of_lt_of_le hk h1.size) hm).trans (h1.block k hk hm)⟩
/-! ### a function that is handed a slice of a block -/
theorem holds_startI {n b : Nat} {args : Array Value} {w : World} {T : TypeId} {cells : Array Value} (h : args.size ≤ n) (hB : Blk w b cells T) :
    Holds ⟨n, w, [b]⟩ ⟨idx 0 args.toList, [(1000, some (.blk 1000 T (.c cells))), (1001, some (.is 1000 b))]⟩ (fun _ => ⟨b, 0, undef⟩) { tmps := args ++ Array.replicate (n - args.size) undef, defers := [] } w where
  defers := rfl
  size := by simp; omega
  tmp i v hv := by
    obtain ⟨u, h1, _, rfl⟩ := idx_look args.toList 0 i v hv
    rw [Nat.sub_zero] at h1
    have hi : i < args.size := by have := (List.getElem?_eq_some_iff.1 h1).1; simpa using this
    rw [Array.getElem?_append_left hi]
    simpa [SV.c] using h1
  res k r hr := by
    rw [St.res_cons] at hr
    split at hr
    · cases hr; exact ⟨(0, 0), hB, fun _ => rfl⟩
    · rw [St.res_cons] at hr
      split at hr
      · cases hr; rfl
      · cases hr
  mine k r hr hw x hx := by
    rw [St.res_cons] at hr
    split at hr
    · cases hr; exact .inr (by rw [show x = b from hx]; simp)
    · rw [St.res_cons] at hr
      split at hr
      · cases hr; cases hw
      · cases hr
  sep k m r r' hr hr' hne hw x hx hx' := by
    rw [St.res_cons] at hr hr'
    split at hr
    · split at hr'
      · rename_i h1 h2; exact hne (h1.symm.trans h2)
      · rw [St.res_cons] at hr'
        split at hr'
        · cases hr'; exact hx'
        · cases hr'
    · rw [St.res_cons] at hr
      split at hr
      · cases hr; cases hw
      · cases hr
  frame := ⟨rfl, rfl, rfl, Nat.le_refl _, fun _ _ _ => rfl⟩
theorem calls_triI {P : Program} {f : FuncId} {fn : Func} {c : Code} {args : Array Value} {w : World} {R : Ending → World → Prop} {n b : Nat} {T : TypeId} {cells : Array Value} (hB : Blk w b cells T) (hf : P.funcs[f]? = some fn) (hb : fn.body = some c) (hn : fn.ntmps = n) (hargs : Nat.ble args.size n = true)
    (h : Tri ⟨n, w, [b]⟩ P ⟨idx 0 args.toList, [(1000, some (.blk 1000 T (.c cells))), (1001, some (.is 1000 b))]⟩ c (bodyPost P fn R)) : Calls P f args w R := by
  subst hn
  exact calls_of_wp hf hb (h _ _ _ (holds_startI (Nat.le_of_ble_eq_true hargs) hB))
/-! ### a closure -/
def Clo (cv : Value) (j : FuncId) (caps : Array Value) : Prop := ∃ f, cv = .func (.func f) #[] caps ∧ ∀ args w, Sem.run Try.prog (callFunc f args) w = .ok (.enter j args) w
/-- A way to compare two numbers below N, which stays so while blocks of m are changed. -/
structure CmpOK (w0 : World) (m : List Nat) (cv : Value) (N : Nat) (c : Nat → Nat → Int) : Prop where
  ex : ∃ j caps, Clo cv j caps ∧ ∀ w', BelowX w0 w' m → ∀ x y, x < N → y < N → Calls Try.prog j (#[.int .i64 ((x : Nat) : Int), .int .i64 ((y : Nat) : Int)] ++ caps) w' fun r w'' => r = .returned (.int .i64 (c x y)) ∧ Below w'.heap.size w' w''
theorem CmpOK.later {w0 w1 : World} {m : List Nat} {cv : Value} {N : Nat} {c : Nat → Nat → Int} (h : CmpOK w0 m cv N c) (hw : BelowX w0 w1 m) : CmpOK w1 m cv N c := by
  obtain ⟨j, caps, h1, h2⟩ := h.ex
  exact ⟨j, caps, h1, fun w' h3 => h2 w' (hw.trans h3)⟩
/-- ... a question to a number. -/
structure AskOK (w0 : World) (m : List Nat) (cv : Value) (N : Nat) (c : Nat → Bool) : Prop where
  ex : ∃ j caps, Clo cv j caps ∧ ∀ w', BelowX w0 w' m → ∀ x, x < N → Calls Try.prog j (#[.int .i64 ((x : Nat) : Int)] ++ caps) w' fun r w'' => r = .returned (.bool (c x)) ∧ Below w'.heap.size w' w''
section
variable {C : Ctx} {ops : Array Oper} {S : St} {o : Oper} {t0 : Nat} {x y : Operand} {ats : Array TypeId} {cv : Value} {N : Nat}
theorem clo_hop {a : Act} {w : World} {xs : Array Operand} {j : FuncId} {caps : Array Value} (hK : Clo cv j caps) (ho : o.op = .call { callee := .value (.tmp t0), args := xs, argTypes := ats }) (hfn : a.eval (.tmp t0) = cv) : (execOp a.eval o).run Try.prog w = .ok (.enter j (xs.map a.eval ++ caps)) w := by
  obtain ⟨f, rfl, hcall⟩ := hK
  simp only [execOp, ho, resolve, hfn, Deferred.ofValue, Sem.run_bind, Sem.run_pure, Result.andThen_ok, invoke, Array.empty_append]
  exact hcall _ w
theorem op_callCmp {c : Nat → Nat → Int} {p q : Nat} (H : CmpOK C.w0 C.m cv N c) (ho : o.op = .call { callee := .value (.tmp t0), args := #[x, y], argTypes := ats }) (hcal : S.ev (.tmp t0) = some (.c cv)) (hg : o.guard = none) (hd : dstB o.dst C.nt = true) (hx : S.ev x = some (.c (.int .i64 ((p : Nat) : Int)))) (hy : S.ev y = some (.c (.int .i64 ((q : Nat) : Int)))) (hp : p < N) (hq : q < N) :
    OpG C Try.prog ops o S ⟨[t0] ++ (opT x ++ opT y), [], dw o.dst (.c (.int .i64 (c p q))), [], []⟩ := by
  refine opG_mk hg fun S' h1 h2 h3 e a w hS => ?_
  obtain ⟨j, caps, hK, h⟩ := H.ex
  have hfn : a.eval (.tmp t0) = cv := hS.ev ((ev_like h1 fun i hi => by simp [opT] at hi; subst hi; simp).trans hcal)
  have e1 : a.eval x = .int .i64 ((p : Nat) : Int) := hS.ev ((ev_like h1 fun i hi => List.mem_append_right _ (List.mem_append_left _ hi)).trans hx)
  have e2 : a.eval y = .int .i64 ((q : Nat) : Int) := hS.ev ((ev_like h1 fun i hi => List.mem_append_right _ (List.mem_append_right _ hi)).trans hy)
  unfold Oper.wp
  rw [clo_hop hK ho hfn, show (#[x, y].map a.eval : Array Value) = #[.int .i64 ((p : Nat) : Int), .int .i64 ((q : Nat) : Int)] by simp [e1, e2]]
  refine Calls.mono (h w hS.frame.belowX p q hp hq) ?_
  rintro r w' ⟨rfl, hb⟩
  exact ⟨e, (hS.world hb).put hd (.c (.int .i64 (c p q)))⟩
theorem op_callAsk {c : Nat → Bool} {p : Nat} (H : AskOK C.w0 C.m cv N c) (ho : o.op = .call { callee := .value (.tmp t0), args := #[x], argTypes := ats }) (hcal : S.ev (.tmp t0) = some (.c cv)) (hg : o.guard = none) (hd : dstB o.dst C.nt = true) (hx : S.ev x = some (.c (.int .i64 ((p : Nat) : Int)))) (hp : p < N) :
    OpG C Try.prog ops o S ⟨[t0] ++ opT x, [], dw o.dst (.c (.bool (c p))), [], []⟩ := by
  refine opG_mk hg fun S' h1 h2 h3 e a w hS => ?_
  obtain ⟨j, caps, hK, h⟩ := H.ex
  have hfn : a.eval (.tmp t0) = cv := hS.ev ((ev_like h1 fun i hi => by simp [opT] at hi; subst hi; simp).trans hcal)
  have e1 : a.eval x = .int .i64 ((p : Nat) : Int) := hS.ev ((ev_like h1 fun i hi => List.mem_append_right _ hi).trans hx)
  unfold Oper.wp
  rw [clo_hop hK ho hfn, show (#[x].map a.eval : Array Value) = #[.int .i64 ((p : Nat) : Int)] by simp [e1]]
  refine Calls.mono (h w hS.frame.belowX p hp) ?_
  rintro r w' ⟨rfl, hb⟩
  exact ⟨e, (hS.world hb).put hd (.c (.bool (c p)))⟩
/-! ### reading and writing such a row -/
theorem op_loadW {ty : TypeId} {b j : Nat} {pre post : List Value} {T : TypeId} {l : List Nat} {d : TypeDesc} (ho : o.op = .load ty x) (hg : o.guard = none) (hd : dstB o.dst C.nt = true) (hx : S.ev x = some (.c (.pointer (some ⟨b, pre.length + j * 1, none⟩)))) (hr : S.res 1000 = some (.blk 1000 T (.c (segA pre post l)))) (hi : S.res 1001 = some (.is 1000 b)) (hu' : tabLook undT ty = some d) (hda : d.isRow = false) (h : j < l.length) :
    OpG C Try.prog ops o S ⟨opT x, [1000, 1001], dw o.dst (.c (.int .i64 ((gtN l j : Nat) : Int))), [], []⟩ := by
  have hu := tabAll_look undT_ok hu'
  have := op_value (C := C) (P := Try.prog) (ops := ops) (S := S) hg hd [x] [1000, 1001] (.c (.int .i64 ((gtN l j : Nat) : Int))) fun S' e a w hS h1 h2 => by
    have hev : a.eval x = .pointer (some ⟨b, pre.length + j * 1, none⟩) := hS.ev ((h1 x (by simp)).trans hx)
    have hb0 : (e 1000).b = b := hS.res 1001 _ ((h2 1001 (by simp)).trans hi)
    obtain ⟨fr, hb, _⟩ := res_blk hS ((h2 1000 (by simp)).trans hr)
    rw [hb0] at hb
    have hc : w.cell? ⟨b, pre.length + j * 1, none⟩ = some (.int .i64 ((gtN l j : Nat) : Int)) := (cell_of_row w _ _ _ _ _ hb).trans (segA_get h)
    have hagg : (isAgg ty).run Try.prog w = .ok false w := (run_isAgg hu w).trans (by rw [hda])
    simp only [execOp, ho, hev, Instr.loadAt, Instr.sureAddr, loadVar, Sem.run_bind, hagg, Result.andThen_ok, Sem.run_pure, Bool.false_eq_true, if_false]
    simp only [Nat.mul_one] at hc
    simp [hc, SV.c]
  simpa using this
theorem op_storeW {ty : TypeId} {b j n : Nat} {pre post : List Value} {T : TypeId} {l : List Nat} (ho : o.op = .store ty x y) (hg : o.guard = none) (hdst : o.dst = none) (hx : S.ev x = some (.c (.pointer (some ⟨b, pre.length + j * 1, none⟩)))) (hy : S.ev y = some (.c (.int .i64 ((n : Nat) : Int)))) (hr : S.res 1000 = some (.blk 1000 T (.c (segA pre post l)))) (hb0 : S.res 1001 = some (.is 1000 b))
    (hi' : tabLook sizT ty = some 1) (h : j < l.length) :
    OpG C Try.prog ops o S ⟨opT x ++ opT y, [1000, 1001], [], [(1000, some (.blk 1000 T (.c (segA pre post (l.set j n)))))], []⟩ := by
  have hi := tabAll_look sizT_ok hi'
  refine opG_mk hg fun S' h1 h2 h3 e a w hS => ?_
  have hev : a.eval x = .pointer (some ⟨b, pre.length + j * 1, none⟩) := hS.ev ((ev_like h1 fun _ h => List.mem_append_left _ h).trans hx)
  have hevy : a.eval y = .int .i64 ((n : Nat) : Int) := hS.ev ((ev_like h1 fun _ h => List.mem_append_right _ h).trans hy)
  have hr' := (h2 1000 (by simp)).trans hr
  have hbb : (e 1000).b = b := hS.res 1001 _ ((h2 1001 (by simp)).trans hb0)
  obtain ⟨fr, hb, hfr⟩ := res_blk hS hr'
  rw [hfr rfl, hbb] at hb
  have hc : w.cell? ⟨b, pre.length + j * 1, none⟩ = some (.int .i64 ((gtN l j : Nat) : Int)) := (cell_of_row w _ _ _ _ _ hb).trans (segA_get h)
  have hf : w.frozen? ⟨b, pre.length + j * 1, none⟩ = false := frozen_of_row w _ _ _ _ hb
  refine wp_skip' (w' := w.setCell ⟨b, pre.length + j * 1, none⟩ (.int .i64 ((n : Nat) : Int))) ?_ ⟨e, ?_⟩
  · cases hq : Try.prog.info? ty with
    | none => simp [hq] at hi
    | some i =>
      have hs : i.size = 1 := by simpa [hq] using hi
      have hcs : (Value.int .i64 ((n : Nat) : Int)).cells = #[.int .i64 ((n : Nat) : Int)] := rfl
      simp only [Nat.mul_one] at hc hf ⊢ hev
      simp [execOp, ho, hev, hevy, Instr.storeAt, Instr.sureAddr, storeVar, sizeOf, typeInfo, hq, hs, hcs, storeCells, run_store Try.prog _ _ _ _ (show (Value.int .i64 ((n : Nat) : Int)).oneCell' = true from rfl), hc, hf, Addr.add]
  · rw [hdst]
    refine hS.write hr' rfl rfl rfl (by simp [World.setCell]) ?_ (fun k hk => Below.heap_setCell w _ _ k (by rw [← hbb]; exact hk))
    rw [hbb]
    have := heap_setCell_same w b (pre.length + j * 1) _ _ (Value.int .i64 ((n : Nat) : Int)) hb
    rw [this]
    exact congrArg some (by rw [show ((SA.c (segA pre post l)).den e).setIfInBounds (pre.length + j * 1) (.int .i64 ((n : Nat) : Int)) = segA pre post (l.set j n) from segA_set h]; rfl)
/-- A call that is handed a slice of the block. -/
theorem op_callW {f : FuncId} {xs : Array Operand} {vs : List SV} {j b : Nat} {T : TypeId} {cells0 cells : Array Value} {v : Value} {args : Array Value} (ho : o.op = .call { callee := .value (.func f), args := xs, argTypes := ats }) (hg : o.guard = none) (hd : dstB o.dst C.nt = true) (hxs : EvS S xs.toList vs) (hc' : tabLook calT f = some j) (hr : S.res 1000 = some (.blk 1000 T (.c cells0))) (hi : S.res 1001 = some (.is 1000 b))
    (hcl : ∀ e : Env, (vs.map (·.den e)).toArray = args) (hcon : ∀ w, BelowX C.w0 w C.m → Blk w b cells0 T → Calls Try.prog j args w (RetP w b T cells v)) :
    OpG C Try.prog ops o S ⟨xs.toList.flatMap opT, [1000, 1001], dw o.dst (.c v), [(1000, some (.blk 1000 T (.c cells)))], []⟩ := by
  refine opG_mk hg fun S' h1 h2 h3 e a w hS => ?_
  unfold Oper.wp
  have hr' := (h2 1000 (by simp)).trans hr
  have hbb : (e 1000).b = b := hS.res 1001 _ ((h2 1001 (by simp)).trans hi)
  obtain ⟨fr, hb, hfr⟩ := res_blk hS hr'
  rw [hfr rfl, hbb] at hb
  rw [call_hop ho hxs hc' h1 hS, hcl e]
  refine Calls.mono (hcon w hS.frame.belowX hb) ?_
  rintro r w' ⟨rfl, hb2, hx⟩
  have hH := hS.writeX (A' := .c cells) hr' (by rw [hbb]; exact hx) (by rw [hbb]; exact hb2)
  exact ⟨e, hH.put hd (.c v)⟩
/-! ### half of a sum -/
theorem op_cvtNU {s d : TypeId} {n : Nat} {ds : TypeDesc} (ho : o.op = .convert s d x) (hg : o.guard = none) (hd : dstB o.dst C.nt = true) (hx : EvN S x n) (hs' : tabLook undT s = some ds) (hu' : tabLook undT d = some (.int .u64)) (h : n < 9223372036854775808) :
    OpG C Try.prog ops o S ⟨opT x, [], dw o.dst (.c (.int .u64 ((n : Nat) : Int))), [], []⟩ :=
  op_conv ho hg hd hx hs' hu' (by rw [wrap_bits .u64 64]; omega)
theorem op_shrU {ty yt : TypeId} {a : Nat} (ho : o.op = .binOp .shr ty x (.const (.int .u64 1)) yt) (hg : o.guard = none) (hd : dstB o.dst C.nt = true) (hx : S.ev x = some (.c (.int .u64 ((a : Nat) : Int)))) : OpG C Try.prog ops o S ⟨opT x ++ [], [], dw o.dst (.c (.int .u64 ((a / 2 : Nat) : Int))), [], []⟩ := by
  refine op_int2 (y := .const (.int .u64 1)) ho hg hd hx rfl fun w => ?_
  have := (run_shift (ty := ty) (k := .u64) (ky := .u64) (a := ((a : Nat) : Int)) (n := 1) (w := w)).2
  rw [show ((1 : Nat) : Int) = 1 from rfl] at this
  rw [this, Int.fdiv_eq_ediv_of_nonneg _ (by exact_mod_cast Nat.zero_le _), show min 1 IntKind.u64.bits = 1 from rfl]
  push_cast
  rfl
theorem op_cvtUN {s d : TypeId} {n : Nat} {ds : TypeDesc} (ho : o.op = .convert s d x) (hg : o.guard = none) (hd : dstB o.dst C.nt = true) (hx : S.ev x = some (.c (.int .u64 ((n : Nat) : Int)))) (hs' : tabLook undT s = some ds) (hu' : tabLook undT d = some (.int .i64)) (h : n < 9223372036854775808) :
    OpG C Try.prog ops o S ⟨opT x, [], dw o.dst (.c (.int .i64 ((n : Nat) : Int))), [], []⟩ :=
  op_conv ho hg hd hx hs' hu' (wrapN h)
end
end Go.Proofs.Ytmpnkknocfaciaa
