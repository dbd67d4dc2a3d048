/- A sweep: any one: walked. No condition. The example: a sweep over two triangles; the triangles that a law looks at. No condition. Of sweeps, what laws of walks need, too: triangles cut to sixty, questions. No condition. A law's triangles and questions, from their cells. No condition. Arrays of whole numbers, none of them below 0. No condition. Slices of whole numbers changed in place; closures that hold something. No condition. Parts of a row swapped, a row turned: walked. No condition. A row turned: walked. No condition. -/
import Derived.Test.YtcgmapioelfneaaMgPoly1
import Derived.Test.YtcgmapioelfneaaMgSwp7
import Derived.Test.YtcgmapioelfneaaFrameK
import Derived.Test.YtcgmapioelfneaaFrame
import Derived.Test.YtcgmapioelfneaaMgSymT
import Derived.Test.YtcgmapioelfneaaMgSymY
namespace Go.Proofs.Ytcgmapioelfneaa
open Go.RowKit
set_option maxRecDepth 100000
set_option maxHeartbeats 2000000
attribute [local irreducible] Calls Walk1 WalkTo Tri EndA
end Go.Proofs.Ytcgmapioelfneaa
namespace Go.Proofs.Ytcgmapioelfneaa
open Go.RowKit
set_option maxRecDepth 100000
set_option maxHeartbeats 2000000
attribute [local irreducible] Calls Walk1 WalkTo Tri EndA
theorem few21_any (n : Nat) (xs : List Value) (v : Value) (w : World) (hf : FS w 19 v n xs) : Calls Try.prog 6 #[v] w fun e w' => e = .returned (cutZ 19 v 0 (min n 60)) ∧ Below w.heap.size w w' := by
  have hf0 := hf
  obtain ⟨_, a, c, hv, hc⟩ := hf
  subst hv
  have hm : min n 60 ≤ n := Nat.min_le_left ..
  refine calls_tri Try.func6 rfl Try.ntmps6 rfl ?_
  repeat (first | (show Walk1 _ _ _ (_ :: _) _ _; first | (show HW1 (.move _); first | refine wz40 ?_ | refine wz1 ?_) | (show HW1 (.assign _); first | refine wz13 ?_ | refine wz2 ?_) | (show HW1 (.call ⟨.builtin .len, _, _⟩); first | refine wz39 ?_ | refine wz121 ?_ | refine wz57 ?_ | refine walk1_t (op_lenU rfl rfl rfl rfl) ?_ | refine walk1_t (op_lenT rfl rfl rfl rfl (by omega)) ?_ | refine wz27 ?_ | refine walk1_t (op_lenSt rfl rfl rfl) ?_ | refine walk1_t (op_lenSc rfl rfl rfl) ?_) | (show HW1 (.call ⟨.builtin .min, _, _⟩); first | refine walk1_t (op_minN rfl evn evn) ?_ | refine wz105 ?_ | refine walk1_t (op_minB rfl evb evb) ?_) | (show HW1 (.slice _ _ _ _ _); first | refine walk1_t (op_cutC0 rfl rfl rfl rfl rfl rfl (by first | exact evO_none | exact evO_some evk) (by first | omega | decide)) ?_ | refine walk1_t (op_cutS0 rfl rfl rfl rfl rfl rfl (by first | exact evO_none | exact evO_some evk) (by first | omega | decide)) ?_ | refine wz63 ?_ | refine walk1_t (op_cutP1 rfl rfl rfl rfl rfl rfl) ?_ | refine walk1_t (op_cutP2 rfl rfl rfl rfl rfl rfl) ?_ | refine walk1_t (op_cutSt rfl rfl rfl rfl rfl) ?_ | refine wz98 ?_ | refine walk1_g (op_cutU rfl rfl rfl rfl rfl rfl rfl rfl) (by kernel_rfl) ?_ | refine walk1_t (op_cutUS rfl rfl rfl rfl rfl rfl rfl (by first | exact evO_none | exact evO_some evk) (by first | exact evO_none | exact evO_some evk) (by first | omega | decide) (by first | omega | decide)) ?_ | refine walk1_t (op_cutC1 rfl rfl rfl rfl rfl rfl) ?_ | refine walk1_t (op_cutS rfl rfl rfl rfl rfl rfl (by first | exact evO_none | exact evO_some evk) (by first | exact evO_none | exact evO_some evk) (by first | omega | decide) (by first | omega | decide)) ?_ | refine walk1_t (op_cutF rfl rfl rfl rfl rfl rfl) ?_ | refine walk1_t (op_cutZ rfl rfl rfl rfl rfl rfl (by first | assumption | exact FSX.fs (by assumption))) ?_)) | refine go1 ?_ | refine end_block_other rfl ?_ | refine end_scope (fun _ h => by cases h) ?_ | (refine walk_endD ?_ ?_; (· kernel_rfl)) | refine tri_yesA rfl ?_ | refine tri_noA rfl ?_ | refine tri_trueA rfl ?_ | refine tri_falseA rfl ?_)
  refine end_ret (.c (cutZ 19 (.slice a n c) 0 (min n 60 - 0))) (res_tmp rfl rfl) ?_
  exact fin_below fun _ => rfl
end Go.Proofs.Ytcgmapioelfneaa
namespace Go.Proofs.Ytcgmapioelfneaa
open Go.RowKit
set_option maxRecDepth 100000
set_option maxHeartbeats 2000000
def M4.l (m : M4) : List Int := [m.num, m.det, m.u, m.v]
theorem M4.cells (m : M4) : m.c = intsC m.l := rfl
theorem few21_cut {w : World} {v : Value} {es : List TriS} (hv : FS w 19 v es.length (trisC es)) (hok : ∀ e ∈ es, e.ok) : ∃ D u, D.length ≤ 60 ∧ (∀ e ∈ D, e.ok) ∧ FS w 19 u D.length (trisC D) ∧ cutZ 19 v 0 (min es.length 60) = u := by
  have h := hv.cutZ (lo := 0) (len := min es.length 60) (by omega)
  rw [Nat.zero_mul, List.drop_zero] at h
  have hl : (es.take (min es.length 60)).length = min es.length 60 := by rw [List.length_take]; omega
  refine ⟨es.take (min es.length 60), cutZ 19 v 0 (min es.length 60), by omega, fun e he => hok e (List.mem_of_mem_take he), ?_, rfl⟩
  rw [hl, trisC, (flat_cut es (fun t ht => triC_length t (hok t ht)) _).1]
  exact h
end Go.Proofs.Ytcgmapioelfneaa
namespace Go.Proofs.Ytcgmapioelfneaa
open Go.RowKit
set_option maxRecDepth 100000
def triKs : List Kd := List.replicate 18 (.int .i64) ++ [.int .u8]
theorem tri_of_flat (r : List Value) (h : Flat triKs r) : ∃ t : TriS, triC t = r ∧ t.ok := by
  have hl : r.length = 19 := h.len
  match r, hl with
  | [a0, a1, a2, a3, a4, a5, a6, a7, a8, a9, a10, a11, a12, a13, a14, a15, a16, a17, a18], _ =>
    obtain ⟨⟨x0, rfl, _⟩, ⟨x1, rfl, _⟩, ⟨x2, rfl, _⟩, ⟨x3, rfl, _⟩, ⟨x4, rfl, _⟩, ⟨x5, rfl, _⟩, ⟨x6, rfl, _⟩, ⟨x7, rfl, _⟩, ⟨x8, rfl, _⟩, ⟨x9, rfl, _⟩, ⟨x10, rfl, _⟩, ⟨x11, rfl, _⟩, ⟨x12, rfl, _⟩, ⟨x13, rfl, _⟩, ⟨x14, rfl, _⟩, ⟨x15, rfl, _⟩, ⟨x16, rfl, _⟩, ⟨x17, rfl, _⟩, ⟨z, rfl, hz⟩, _⟩ := h
    obtain ⟨m, rfl⟩ := bv8_of z hz
    refine ⟨⟨⟨x0, x1, x2⟩, ⟨x3, x4, x5⟩, ⟨x6, x7, x8⟩, [.int .i64 x9, .int .i64 x10, .int .i64 x11, .int .i64 x12, .int .i64 x13, .int .i64 x14, .int .i64 x15, .int .i64 x16, .int .i64 x17], m⟩, rfl, rfl, fun u hu => ?_⟩
    simp only [List.mem_cons, List.not_mem_nil, or_false] at hu
    rcases hu with rfl | rfl | rfl | rfl | rfl | rfl | rfl | rfl | rfl <;> rfl
theorem tris_of_flats {w : World} {v : Value} {rs : List (List Value)} (hf : FS w 19 v rs.length (rs.flatMap id)) (h : ∀ r ∈ rs, Flat triKs r) : ∃ es : List TriS, FS w 19 v es.length (trisC es) ∧ ∀ e ∈ es, e.ok := by
  have key : ∀ rs : List (List Value), (∀ r ∈ rs, Flat triKs r) → ∃ es : List TriS, es.length = rs.length ∧ trisC es = rs.flatMap id ∧ ∀ e ∈ es, e.ok := by
    intro rs
    induction rs with
    | nil => intro _; exact ⟨[], rfl, rfl, fun e he => by cases he⟩
    | cons r rs ih =>
      intro h
      obtain ⟨t, ht, hok⟩ := tri_of_flat r (h r List.mem_cons_self)
      obtain ⟨es, h1, h2, h3⟩ := ih fun r hr => h r (List.mem_cons_of_mem _ hr)
      refine ⟨t :: es, by simp [h1], ?_, fun e he => ?_⟩
      · rw [List.flatMap_cons, ← h2, trisC, List.flatMap_cons, ht]; rfl
      · rcases List.mem_cons.1 he with rfl | he
        · exact hok
        · exact h3 e he
  obtain ⟨es, h1, h2, h3⟩ := key rs h
  exact ⟨es, by rw [h1, h2]; exact hf, h3⟩
end Go.Proofs.Ytcgmapioelfneaa
namespace Go.Proofs.Ytcgmapioelfneaa
open Go.RowKit
set_option maxRecDepth 100000
variable {C : Ctx} {ops : Array Oper} {S : St} {o : Oper}
def gtN (l : List Nat) (i : Nat) : Nat := l.getD i 0
end Go.Proofs.Ytcgmapioelfneaa
namespace Go.Proofs.Ytcgmapioelfneaa
open Go.RowKit
set_option maxRecDepth 100000
set_option maxHeartbeats 1000000
/-! ### a row of whole numbers in the midst of a block -/
def intV (n : Nat) : Value := .int .i64 ((n : Nat) : Int)
def segA (pre post : List Value) (l : List Nat) : Array Value := (pre ++ (l.map intV ++ post)).toArray
theorem segA_get {pre post : List Value} {l : List Nat} {j : Nat} (h : j < l.length) : (segA pre post l)[pre.length + j * 1]? = some (.int .i64 ((gtN l j : Nat) : Int)) := by
  rw [Nat.mul_one]
  simp [segA, List.getElem?_append, h, intV, gtN, List.getD]
theorem segA_set {pre post : List Value} {l : List Nat} {j n : Nat} (h : j < l.length) : (segA pre post l).setIfInBounds (pre.length + j * 1) (.int .i64 ((n : Nat) : Int)) = segA pre post (l.set j n) := by
  rw [Nat.mul_one]
  apply Array.ext'
  have e1 : ∀ (p : List Value) (x : List Value) (v : Value), (p ++ x).set (p.length + j) v = p ++ x.set j v := fun p x v => by
    rw [List.set_append_right _ _ (by omega)]
    congr 2
    omega
  simp only [segA, Array.toList_setIfInBounds]
  rw [e1, List.set_append_left _ _ (by simpa using h), List.map_set]
  rfl
theorem segA_size {pre post : List Value} {l : List Nat} : (segA pre post l).size = pre.length + (l.length + post.length) := by simp [segA]
theorem BelowX.trans {w0 w1 w2 : World} {m : List Nat} (h1 : BelowX w0 w1 m) (h2 : BelowX w1 w2 m) : BelowX w0 w2 m :=
  ⟨h2.os.trans h1.os, h2.tape.trans h1.tape, h2.output.trans h1.output, Nat.le_trans h1.size h2.size, fun k hk hm => (h2.block k (Nat.lt_of_lt_of_le hk h1.size) hm).trans (h1.block k hk hm)⟩
/-! ### a function that is handed a slice of a block -/
theorem holds_startI {n b : Nat} {args : Array Value} {w : World} {T : TypeId} {cells : Array Value} (h : args.size ≤ n) (hB : Blk w b cells T) :
    Holds ⟨n, w, [b]⟩ ⟨idx 0 args.toList, [(1000, some (.blk 1000 T (.c cells))), (1001, some (.is 1000 b))]⟩ (fun _ => ⟨b, 0, undef⟩) { tmps := args ++ Array.replicate (n - args.size) undef, defers := [] } w where
  defers := rfl
  size := by simp; omega
  tmp i v hv := by
    obtain ⟨u, h1, _, rfl⟩ := idx_look args.toList 0 i v hv
    rw [Nat.sub_zero] at h1
    have hi : i < args.size := by have := (List.getElem?_eq_some_iff.1 h1).1; simpa using this
    rw [Array.getElem?_append_left hi]
    simpa [SV.c] using h1
  res k r hr := by
    rw [St.res_cons] at hr
    split at hr
    · cases hr; exact ⟨(0, 0), hB, fun _ => rfl⟩
    · rw [St.res_cons] at hr
      split at hr
      · cases hr; rfl
      · cases hr
  mine k r hr hw x hx := by
    rw [St.res_cons] at hr
    split at hr
    · cases hr; exact .inr (by rw [show x = b from hx]; simp)
    · rw [St.res_cons] at hr
      split at hr
      · cases hr; cases hw
      · cases hr
  sep k m r r' hr hr' hne hw x hx hx' := by
    rw [St.res_cons] at hr hr'
    split at hr
    · split at hr'
      · rename_i h1 h2; exact hne (h1.symm.trans h2)
      · rw [St.res_cons] at hr'
        split at hr'
        · cases hr'; exact hx'
        · cases hr'
    · rw [St.res_cons] at hr
      split at hr
      · cases hr; cases hw
      · cases hr
  frame := ⟨rfl, rfl, rfl, Nat.le_refl _, fun _ _ _ => rfl⟩
theorem calls_triI {P : Program} {f : FuncId} {fn : Func} {c : Code} {args : Array Value} {w : World} {R : Ending → World → Prop} {n b : Nat} {T : TypeId} {cells : Array Value} (hB : Blk w b cells T) (hf : P.funcs[f]? = some fn) (hb : fn.body = some c) (hn : fn.ntmps = n) (hargs : Nat.ble args.size n = true)
    (h : Tri ⟨n, w, [b]⟩ P ⟨idx 0 args.toList, [(1000, some (.blk 1000 T (.c cells))), (1001, some (.is 1000 b))]⟩ c (bodyPost P fn R)) : Calls P f args w R := by
  subst hn
  exact calls_of_wp hf hb (h _ _ _ (holds_startI (Nat.le_of_ble_eq_true hargs) hB))
/-! ### a closure -/
def Clo (cv : Value) (j : FuncId) (caps : Array Value) : Prop := ∃ f, cv = .func (.func f) #[] caps ∧ ∀ args w, Sem.run Try.prog (callFunc f args) w = .ok (.enter j args) w
/-- A way to compare two numbers below N, which stays so while blocks of m are changed. -/
structure CmpOK (w0 : World) (m : List Nat) (cv : Value) (N : Nat) (c : Nat → Nat → Int) : Prop where
  ex : ∃ j caps, Clo cv j caps ∧ ∀ w', BelowX w0 w' m → ∀ x y, x < N → y < N → Calls Try.prog j (#[.int .i64 ((x : Nat) : Int), .int .i64 ((y : Nat) : Int)] ++ caps) w' fun r w'' => r = .returned (.int .i64 (c x y)) ∧ Below w'.heap.size w' w''
theorem CmpOK.later {w0 w1 : World} {m : List Nat} {cv : Value} {N : Nat} {c : Nat → Nat → Int} (h : CmpOK w0 m cv N c) (hw : BelowX w0 w1 m) : CmpOK w1 m cv N c := by
  obtain ⟨j, caps, h1, h2⟩ := h.ex
  exact ⟨j, caps, h1, fun w' h3 => h2 w' (hw.trans h3)⟩
/-- ... a question to a number. -/
structure AskOK (w0 : World) (m : List Nat) (cv : Value) (N : Nat) (c : Nat → Bool) : Prop where
  ex : ∃ j caps, Clo cv j caps ∧ ∀ w', BelowX w0 w' m → ∀ x, x < N → Calls Try.prog j (#[.int .i64 ((x : Nat) : Int)] ++ caps) w' fun r w'' => r = .returned (.bool (c x)) ∧ Below w'.heap.size w' w''
section
variable {C : Ctx} {ops : Array Oper} {S : St} {o : Oper} {t0 : Nat} {x y : Operand} {ats : Array TypeId} {cv : Value} {N : Nat}
theorem clo_hop {a : Act} {w : World} {xs : Array Operand} {j : FuncId} {caps : Array Value} (hK : Clo cv j caps) (ho : o.op = .call { callee := .value (.tmp t0), args := xs, argTypes := ats }) (hfn : a.eval (.tmp t0) = cv) : (execOp a.eval o).run Try.prog w = .ok (.enter j (xs.map a.eval ++ caps)) w := by
  obtain ⟨f, rfl, hcall⟩ := hK
  simp only [execOp, ho, resolve, hfn, Deferred.ofValue, Sem.run_bind, Sem.run_pure, Result.andThen_ok, invoke, Array.empty_append]
  exact hcall _ w
theorem op_callCmp {c : Nat → Nat → Int} {p q : Nat} (H : CmpOK C.w0 C.m cv N c) (ho : o.op = .call { callee := .value (.tmp t0), args := #[x, y], argTypes := ats }) (hcal : S.ev (.tmp t0) = some (.c cv)) (hg : o.guard = none) (hd : dstB o.dst C.nt = true) (hx : S.ev x = some (.c (.int .i64 ((p : Nat) : Int)))) (hy : S.ev y = some (.c (.int .i64 ((q : Nat) : Int)))) (hp : p < N) (hq : q < N) :
    OpG C Try.prog ops o S ⟨[t0] ++ (opT x ++ opT y), [], dw o.dst (.c (.int .i64 (c p q))), [], []⟩ := by
  refine opG_mk hg fun S' h1 h2 h3 e a w hS => ?_
  obtain ⟨j, caps, hK, h⟩ := H.ex
  have hfn : a.eval (.tmp t0) = cv := hS.ev ((ev_like h1 fun i hi => by simp [opT] at hi; subst hi; simp).trans hcal)
  have e1 : a.eval x = .int .i64 ((p : Nat) : Int) := hS.ev ((ev_like h1 fun i hi => List.mem_append_right _ (List.mem_append_left _ hi)).trans hx)
  have e2 : a.eval y = .int .i64 ((q : Nat) : Int) := hS.ev ((ev_like h1 fun i hi => List.mem_append_right _ (List.mem_append_right _ hi)).trans hy)
  unfold Oper.wp
  rw [clo_hop hK ho hfn, show (#[x, y].map a.eval : Array Value) = #[.int .i64 ((p : Nat) : Int), .int .i64 ((q : Nat) : Int)] by simp [e1, e2]]
  refine Calls.mono (h w hS.frame.belowX p q hp hq) ?_
  rintro r w' ⟨rfl, hb⟩
  exact ⟨e, (hS.world hb).put hd (.c (.int .i64 (c p q)))⟩
theorem op_callAsk {c : Nat → Bool} {p : Nat} (H : AskOK C.w0 C.m cv N c) (ho : o.op = .call { callee := .value (.tmp t0), args := #[x], argTypes := ats }) (hcal : S.ev (.tmp t0) = some (.c cv)) (hg : o.guard = none) (hd : dstB o.dst C.nt = true) (hx : S.ev x = some (.c (.int .i64 ((p : Nat) : Int)))) (hp : p < N) :
    OpG C Try.prog ops o S ⟨[t0] ++ opT x, [], dw o.dst (.c (.bool (c p))), [], []⟩ := by
  refine opG_mk hg fun S' h1 h2 h3 e a w hS => ?_
  obtain ⟨j, caps, hK, h⟩ := H.ex
  have hfn : a.eval (.tmp t0) = cv := hS.ev ((ev_like h1 fun i hi => by simp [opT] at hi; subst hi; simp).trans hcal)
  have e1 : a.eval x = .int .i64 ((p : Nat) : Int) := hS.ev ((ev_like h1 fun i hi => List.mem_append_right _ hi).trans hx)
  unfold Oper.wp
  rw [clo_hop hK ho hfn, show (#[x].map a.eval : Array Value) = #[.int .i64 ((p : Nat) : Int)] by simp [e1]]
  refine Calls.mono (h w hS.frame.belowX p hp) ?_
  rintro r w' ⟨rfl, hb⟩
  exact ⟨e, (hS.world hb).put hd (.c (.bool (c p)))⟩
/-! ### reading and writing such a row -/
theorem op_loadW {ty : TypeId} {b j : Nat} {pre post : List Value} {T : TypeId} {l : List Nat} {d : TypeDesc} (ho : o.op = .load ty x) (hg : o.guard = none) (hd : dstB o.dst C.nt = true) (hx : S.ev x = some (.c (.pointer (some ⟨b, pre.length + j * 1, none⟩)))) (hr : S.res 1000 = some (.blk 1000 T (.c (segA pre post l)))) (hi : S.res 1001 = some (.is 1000 b)) (hu' : tabLook undT ty = some d) (hda : d.isRow = false) (h : j < l.length) :
    OpG C Try.prog ops o S ⟨opT x, [1000, 1001], dw o.dst (.c (.int .i64 ((gtN l j : Nat) : Int))), [], []⟩ := by
  have hu := tabAll_look undT_ok hu'
  have := op_value (C := C) (P := Try.prog) (ops := ops) (S := S) hg hd [x] [1000, 1001] (.c (.int .i64 ((gtN l j : Nat) : Int))) fun S' e a w hS h1 h2 => by
    have hev : a.eval x = .pointer (some ⟨b, pre.length + j * 1, none⟩) := hS.ev ((h1 x (by simp)).trans hx)
    have hb0 : (e 1000).b = b := hS.res 1001 _ ((h2 1001 (by simp)).trans hi)
    obtain ⟨fr, hb, _⟩ := res_blk hS ((h2 1000 (by simp)).trans hr)
    rw [hb0] at hb
    have hc : w.cell? ⟨b, pre.length + j * 1, none⟩ = some (.int .i64 ((gtN l j : Nat) : Int)) := (cell_of_row w _ _ _ _ _ hb).trans (segA_get h)
    have hagg : (isAgg ty).run Try.prog w = .ok false w := (run_isAgg hu w).trans (by rw [hda])
    simp only [execOp, ho, hev, Instr.loadAt, Instr.sureAddr, loadVar, Sem.run_bind, hagg, Result.andThen_ok, Sem.run_pure, Bool.false_eq_true, if_false]
    simp only [Nat.mul_one] at hc
    simp [hc, SV.c]
  simpa using this
theorem op_storeW {ty : TypeId} {b j n : Nat} {pre post : List Value} {T : TypeId} {l : List Nat} (ho : o.op = .store ty x y) (hg : o.guard = none) (hdst : o.dst = none) (hx : S.ev x = some (.c (.pointer (some ⟨b, pre.length + j * 1, none⟩)))) (hy : S.ev y = some (.c (.int .i64 ((n : Nat) : Int)))) (hr : S.res 1000 = some (.blk 1000 T (.c (segA pre post l)))) (hb0 : S.res 1001 = some (.is 1000 b))
    (hi' : tabLook sizT ty = some 1) (h : j < l.length) :
    OpG C Try.prog ops o S ⟨opT x ++ opT y, [1000, 1001], [], [(1000, some (.blk 1000 T (.c (segA pre post (l.set j n)))))], []⟩ := by
  have hi := tabAll_look sizT_ok hi'
  refine opG_mk hg fun S' h1 h2 h3 e a w hS => ?_
  have hev : a.eval x = .pointer (some ⟨b, pre.length + j * 1, none⟩) := hS.ev ((ev_like h1 fun _ h => List.mem_append_left _ h).trans hx)
  have hevy : a.eval y = .int .i64 ((n : Nat) : Int) := hS.ev ((ev_like h1 fun _ h => List.mem_append_right _ h).trans hy)
  have hr' := (h2 1000 (by simp)).trans hr
  have hbb : (e 1000).b = b := hS.res 1001 _ ((h2 1001 (by simp)).trans hb0)
  obtain ⟨fr, hb, hfr⟩ := res_blk hS hr'
  rw [hfr rfl, hbb] at hb
  have hc : w.cell? ⟨b, pre.length + j * 1, none⟩ = some (.int .i64 ((gtN l j : Nat) : Int)) := (cell_of_row w _ _ _ _ _ hb).trans (segA_get h)
  have hf : w.frozen? ⟨b, pre.length + j * 1, none⟩ = false := frozen_of_row w _ _ _ _ hb
  refine wp_skip' (w' := w.setCell ⟨b, pre.length + j * 1, none⟩ (.int .i64 ((n : Nat) : Int))) ?_ ⟨e, ?_⟩
  · cases hq : Try.prog.info? ty with
    | none => simp [hq] at hi
    | some i =>
      have hs : i.size = 1 := by simpa [hq] using hi
      have hcs : (Value.int .i64 ((n : Nat) : Int)).cells = #[.int .i64 ((n : Nat) : Int)] := rfl
      simp only [Nat.mul_one] at hc hf ⊢ hev
      simp [execOp, ho, hev, hevy, Instr.storeAt, Instr.sureAddr, storeVar, sizeOf, typeInfo, hq, hs, hcs, storeCells, run_store Try.prog _ _ _ _ (show (Value.int .i64 ((n : Nat) : Int)).oneCell' = true from rfl), hc, hf, Addr.add]
  · rw [hdst]
    refine hS.write hr' rfl rfl rfl (by simp [World.setCell]) ?_ (fun k hk => Below.heap_setCell w _ _ k (by rw [← hbb]; exact hk))
    rw [hbb]
    have := heap_setCell_same w b (pre.length + j * 1) _ _ (Value.int .i64 ((n : Nat) : Int)) hb
    rw [this]
    exact congrArg some (by rw [show ((SA.c (segA pre post l)).den e).setIfInBounds (pre.length + j * 1) (.int .i64 ((n : Nat) : Int)) = segA pre post (l.set j n) from segA_set h]; rfl)
/-- A call that is handed a slice of the block. -/
theorem op_callW {f : FuncId} {xs : Array Operand} {vs : List SV} {j b : Nat} {T : TypeId} {cells0 cells : Array Value} {v : Value} {args : Array Value} (ho : o.op = .call { callee := .value (.func f), args := xs, argTypes := ats }) (hg : o.guard = none) (hd : dstB o.dst C.nt = true) (hxs : EvS S xs.toList vs) (hc' : tabLook calT f = some j) (hr : S.res 1000 = some (.blk 1000 T (.c cells0))) (hi : S.res 1001 = some (.is 1000 b))
    (hcl : ∀ e : Env, (vs.map (·.den e)).toArray = args) (hcon : ∀ w, BelowX C.w0 w C.m → Blk w b cells0 T → Calls Try.prog j args w (RetP w b T cells v)) :
    OpG C Try.prog ops o S ⟨xs.toList.flatMap opT, [1000, 1001], dw o.dst (.c v), [(1000, some (.blk 1000 T (.c cells)))], []⟩ := by
  refine opG_mk hg fun S' h1 h2 h3 e a w hS => ?_
  unfold Oper.wp
  have hr' := (h2 1000 (by simp)).trans hr
  have hbb : (e 1000).b = b := hS.res 1001 _ ((h2 1001 (by simp)).trans hi)
  obtain ⟨fr, hb, hfr⟩ := res_blk hS hr'
  rw [hfr rfl, hbb] at hb
  rw [call_hop ho hxs hc' h1 hS, hcl e]
  refine Calls.mono (hcon w hS.frame.belowX hb) ?_
  rintro r w' ⟨rfl, hb2, hx⟩
  have hH := hS.writeX (A' := .c cells) hr' (by rw [hbb]; exact hx) (by rw [hbb]; exact hb2)
  exact ⟨e, hH.put hd (.c v)⟩
/-! ### half of a sum -/
theorem op_cvtNU {s d : TypeId} {n : Nat} {ds : TypeDesc} (ho : o.op = .convert s d x) (hg : o.guard = none) (hd : dstB o.dst C.nt = true) (hx : EvN S x n) (hs' : tabLook undT s = some ds) (hu' : tabLook undT d = some (.int .u64)) (h : n < 9223372036854775808) :
    OpG C Try.prog ops o S ⟨opT x, [], dw o.dst (.c (.int .u64 ((n : Nat) : Int))), [], []⟩ :=
  op_conv ho hg hd hx hs' hu' (by rw [wrap_bits .u64 64]; omega)
theorem op_shrU {ty yt : TypeId} {a : Nat} (ho : o.op = .binOp .shr ty x (.const (.int .u64 1)) yt) (hg : o.guard = none) (hd : dstB o.dst C.nt = true) (hx : S.ev x = some (.c (.int .u64 ((a : Nat) : Int)))) : OpG C Try.prog ops o S ⟨opT x ++ [], [], dw o.dst (.c (.int .u64 ((a / 2 : Nat) : Int))), [], []⟩ := by
  refine op_int2 (y := .const (.int .u64 1)) ho hg hd hx rfl fun w => ?_
  have := (run_shift (ty := ty) (k := .u64) (ky := .u64) (a := ((a : Nat) : Int)) (n := 1) (w := w)).2
  rw [show ((1 : Nat) : Int) = 1 from rfl] at this
  rw [this, Int.fdiv_eq_ediv_of_nonneg _ (by exact_mod_cast Nat.zero_le _), show min 1 IntKind.u64.bits = 1 from rfl]
  push_cast
  rfl
theorem op_cvtUN {s d : TypeId} {n : Nat} {ds : TypeDesc} (ho : o.op = .convert s d x) (hg : o.guard = none) (hd : dstB o.dst C.nt = true) (hx : S.ev x = some (.c (.int .u64 ((n : Nat) : Int)))) (hs' : tabLook undT s = some ds) (hu' : tabLook undT d = some (.int .i64)) (h : n < 9223372036854775808) :
    OpG C Try.prog ops o S ⟨opT x, [], dw o.dst (.c (.int .i64 ((n : Nat) : Int))), [], []⟩ :=
  op_conv ho hg hd hx hs' hu' (wrapN h)
end
end Go.Proofs.Ytcgmapioelfneaa
namespace Go.Proofs.Ytcgmapioelfneaa
open Go.RowKit
set_option maxRecDepth 100000
set_option maxHeartbeats 1000000
theorem gtN_at (A B : List Nat) (v n : Nat) (h : n = A.length) : gtN (A ++ v :: B) n = v := by
  subst h
  simp [gtN, List.getD]
theorem set_atN (A B : List Nat) (v u n : Nat) (h : n = A.length) : (A ++ v :: B).set n u = A ++ u :: B := by
  subst h
  rw [List.set_append_right _ _ (Nat.le_refl _)]
  simp
/-- Two parts of a row, of which the first numbers are swapped. -/
def swL (P X M Y Q : List Nat) (i : Nat) : List Nat := P ++ (Y.take i ++ (X.drop i ++ (M ++ (X.take i ++ (Y.drop i ++ Q)))))
theorem split_at (X : List Nat) (i : Nat) (h : i < X.length) : ∃ X1 x X2, X = X1 ++ x :: X2 ∧ X1.length = i :=
  ⟨X.take i, X[i], X.drop (i + 1), by rw [List.getElem_cons_drop, List.take_append_drop], by simp; omega⟩
theorem swL_len (P X M Y Q : List Nat) (i : Nat) (h : X.length = Y.length) : (swL P X M Y Q i).length = P.length + X.length + M.length + Y.length + Q.length := by
  simp [swL]; omega
theorem swL_step (P X M Y Q : List Nat) (i : Nat) (h : X.length = Y.length) (hi : i < X.length) :
    ((swL P X M Y Q i).set (P.length + i) (gtN (swL P X M Y Q i) (P.length + X.length + M.length + i))).set (P.length + X.length + M.length + i) (gtN (swL P X M Y Q i) (P.length + i)) = swL P X M Y Q (i + 1) := by
  obtain ⟨X1, x, X2, rfl, h1⟩ := split_at X i hi
  obtain ⟨Y1, y, Y2, rfl, h2⟩ := split_at Y i (by omega)
  have hl : X2.length = Y2.length := by simp at h; omega
  have t1 : ∀ (A B : List Nat) (a : Nat), A.length = i → (A ++ a :: B).take i = A ∧ (A ++ a :: B).drop i = a :: B ∧ (A ++ a :: B).take (i + 1) = A ++ [a] ∧ (A ++ a :: B).drop (i + 1) = B := by
    intro A B a hA
    subst hA
    refine ⟨by simp, by simp, ?_, ?_⟩
    · rw [List.take_length_add_append]; rfl
    · rw [List.drop_length_add_append]; rfl
  obtain ⟨a1, a2, a3, a4⟩ := t1 X1 X2 x h1
  obtain ⟨b1, b2, b3, b4⟩ := t1 Y1 Y2 y h2
  have e0 : swL P (X1 ++ x :: X2) M (Y1 ++ y :: Y2) Q i = (P ++ Y1) ++ x :: (X2 ++ (M ++ (X1 ++ (y :: (Y2 ++ Q))))) := by
    unfold swL; rw [a1, a2, b1, b2]; simp
  have e1 : swL P (X1 ++ x :: X2) M (Y1 ++ y :: Y2) Q i = (P ++ (Y1 ++ (x :: X2 ++ (M ++ X1)))) ++ y :: (Y2 ++ Q) := by
    rw [e0]; simp
  have e2 : swL P (X1 ++ x :: X2) M (Y1 ++ y :: Y2) Q (i + 1) = (P ++ (Y1 ++ (y :: X2 ++ (M ++ X1)))) ++ x :: (Y2 ++ Q) := by
    unfold swL; rw [a3, a4, b3, b4]; simp
  have g1 : gtN (swL P (X1 ++ x :: X2) M (Y1 ++ y :: Y2) Q i) (P.length + (X1 ++ x :: X2).length + M.length + i) = y := by
    rw [e1]; exact gtN_at _ _ _ _ (by simp; omega)
  have g2 : gtN (swL P (X1 ++ x :: X2) M (Y1 ++ y :: Y2) Q i) (P.length + i) = x := by
    rw [e0]; exact gtN_at _ _ _ _ (by simp; omega)
  rw [g1, g2, e0, set_atN (P ++ Y1) _ x y _ (by simp; omega), e2]
  rw [show (P ++ Y1) ++ y :: (X2 ++ (M ++ (X1 ++ (y :: (Y2 ++ Q))))) = (P ++ (Y1 ++ (y :: X2 ++ (M ++ X1)))) ++ y :: (Y2 ++ Q) by simp]
  exact set_atN _ _ _ _ _ (by simp; omega)
attribute [local irreducible] Calls Walk1 WalkTo Tri EndA
theorem swapR_any (pre post : List Value) (P X M Y Q : List Nat) (N cap p q n b : Nat) (cv : Value) (w : World) (hXY : X.length = Y.length) (hp : p = P.length) (hq : q = P.length + X.length + M.length) (hn : n = X.length) (hN : N = P.length + X.length + M.length + Y.length + Q.length) (hs : N ≤ 1099511627776)
    (hB : Blk w b (segA pre post (P ++ (X ++ (M ++ (Y ++ Q))))) 3) :
    Calls Try.prog 48 #[.slice (some ⟨b, pre.length, none⟩) N cap, .int .i64 ((p : Nat) : Int), .int .i64 ((q : Nat) : Int), .int .i64 ((n : Nat) : Int), cv] w (RetP w b 3 (segA pre post (P ++ (Y ++ (M ++ (X ++ Q))))) (.tuple #[])) := by
  have hl := fun i => swL_len P X M Y Q i hXY
  have hst := fun i => swL_step P X M Y Q i hXY
  have h0 : swL P X M Y Q 0 = P ++ (X ++ (M ++ (Y ++ Q))) := by simp [swL]
  have hE : swL P X M Y Q n = P ++ (Y ++ (M ++ (X ++ Q))) := by
    subst hn; unfold swL
    rw [List.take_of_length_le (show Y.length ≤ X.length by omega), List.drop_of_length_le (Nat.le_refl X.length), List.take_of_length_le (Nat.le_refl X.length), List.drop_of_length_le (show Y.length ≤ X.length by omega)]
    simp
  have hb1 : q + n ≤ N := by omega
  have hb2 : p + n ≤ q := by omega
  rw [← h0] at hB
  rw [← hE]
  rw [← hq, ← hp, ← hn] at hst
  rw [← hN] at hl
  generalize swL P X M Y Q = L at *
  clear h0 hE hXY hp hq hn hN P X M Y Q
  refine calls_triI hB Try.func48 rfl Try.ntmps48 rfl ?_
  repeat (first | (show Walk1 _ _ _ (_ :: _) _ _; (show HW1 (.assign _); refine wz13 ?_)) | refine go1 ?_ | refine end_block_other rfl ?_ | refine end_scope (fun _ h => by cases h) ?_ | (refine walk_endD ?_ ?_; (· kernel_rfl)) | refine tri_yesA rfl ?_ | refine tri_noA rfl ?_ | refine tri_trueA rfl ?_ | refine tri_falseA rfl ?_)
  refine tri_loop (X := Nat) (fun i => ⟨[(10, SV.c (.int .i64 ((i : Nat) : Int))), (0, .c (.slice (some ⟨b, pre.length, none⟩) N cap)), (1, SV.c (.int .i64 ((p : Nat) : Int))), (2, SV.c (.int .i64 ((q : Nat) : Int))), (3, SV.c (.int .i64 ((n : Nat) : Int)))], [(1000, some (.blk 1000 3 (.c (segA pre post (L i))))), (1001, some (.is 1000 b))]⟩)
    (fun i => i ≤ n) (fun i => n - i) 0 (by omega) (by exact ent_kp) ?_
  intro i hi K next
  by_cases h : i < n
  · have nx := fun S' => next S' (i + 1)
    rw [← hst i h] at nx
    have hl1 := hl i
    clear next hl hst
    generalize L i = Li at *
    repeat (first | (show Walk1 _ _ _ (_ :: _) _ _; first | (show HW1 (.move _); refine wz1 ?_) | (show HW1 (.assign _); refine wz2 ?_) | (show HW1 (.binOp .add _ _ _ _); refine wz10 ?_) | (show HW1 (.binOp .lss _ _ _ _); refine wz5 ?_)) | (show WalkTo _ _ _ _ (_ :: _) _ _ _; first | (show HW2 (.move _); refine wz20 ?_) | (show HW2 (.binOp .add _ _ _ _); refine wz96 ?_) | (show HW2 (.indexAddr _ _ _); refine wz55 ?_) | (show HW2 (.load _ _); refine wz54 ?_) | (show HW2 (.store _ _ _); refine wz89 ?_)) | refine go1 ?_ | refine end_block_other rfl ?_ | refine end_scope (fun _ h => by cases h) ?_ | (refine walk_endD ?_ ?_; (· kernel_rfl)) | refine tri_yesA rfl ?_ | refine tri_noA rfl ?_ | refine tri_trueA rfl ?_ | refine tri_falseA rfl ?_)
    exact nx _ (by omega) (by omega) (by exact ent_kp)
  · obtain rfl : i = n := by omega
    clear next hst hl
    repeat (first | (show Walk1 _ _ _ (_ :: _) _ _; first | (show HW1 (.move _); refine wz1 ?_) | (show HW1 (.binOp .lss _ _ _ _); refine wz5 ?_)) | refine go1 ?_ | refine end_block_other rfl ?_ | refine end_scope (fun _ h => by cases h) ?_ | (refine walk_endD ?_ ?_; (· kernel_rfl)) | refine tri_yesA rfl ?_ | refine tri_noA rfl ?_ | refine tri_trueA rfl ?_ | refine tri_falseA rfl ?_)
    refine end_normal _ (res_none rfl) ?_
    exact fin_obj rfl rfl (fun _ => rfl) (fun _ => rfl)
end Go.Proofs.Ytcgmapioelfneaa
namespace Go.Proofs.Ytcgmapioelfneaa
open Go.RowKit
set_option maxRecDepth 100000
set_option maxHeartbeats 1000000
attribute [local irreducible] Calls Walk1 WalkTo Tri EndA
theorem rotate_any (pre post : List Value) (P U V Q : List Nat) (N cap p m e b : Nat) (cv : Value) (w : World) (hU : 0 < U.length) (hV : 0 < V.length) (hp : p = P.length) (hm : m = P.length + U.length) (he : e = P.length + U.length + V.length) (hN : N = P.length + U.length + V.length + Q.length) (hs : N ≤ 1099511627776)
    (hB : Blk w b (segA pre post (P ++ (U ++ (V ++ Q)))) 3) :
    Calls Try.prog 47 #[.slice (some ⟨b, pre.length, none⟩) N cap, .int .i64 ((p : Nat) : Int), .int .i64 ((m : Nat) : Int), .int .i64 ((e : Nat) : Int), cv] w (RetP w b 3 (segA pre post (P ++ (V ++ (U ++ Q)))) (.tuple #[])) := by
  have cS := swapR_any pre post
  refine calls_triI hB Try.func47 rfl Try.ntmps47 rfl ?_
  repeat (first | (show Walk1 _ _ _ (_ :: _) _ _; first | (show HW1 (.move _); refine wz1 ?_) | (show HW1 (.assign _); refine wz2 ?_) | (show HW1 (.binOp .sub _ _ _ _); refine wz35 ?_)) | refine go1 ?_ | refine end_block_other rfl ?_ | refine end_scope (fun _ h => by cases h) ?_ | (refine walk_endD ?_ ?_; (· kernel_rfl)) | refine tri_yesA rfl ?_ | refine tri_noA rfl ?_ | refine tri_trueA rfl ?_ | refine tri_falseA rfl ?_)
  rw [show m - p = U.length by omega, show e - m = V.length by omega]
  generalize hT : P ++ (V ++ (U ++ Q)) = T at *
  refine tri_loop (X := List Nat × List Nat × List Nat × List Nat) (fun x => ⟨[(11, SV.c (.int .i64 ((x.2.2.1.length : Nat) : Int))), (10, SV.c (.int .i64 ((x.2.1.length : Nat) : Int))), (0, .c (.slice (some ⟨b, pre.length, none⟩) N cap)), (2, SV.c (.int .i64 ((m : Nat) : Int))), (4, .c cv)], [(1000, some (.blk 1000 3 (.c (segA pre post (x.1 ++ (x.2.1 ++ (x.2.2.1 ++ x.2.2.2))))))), (1001, some (.is 1000 b))]⟩)
    (fun x => x.1 ++ (x.2.2.1 ++ (x.2.1 ++ x.2.2.2)) = T ∧ 0 < x.2.1.length ∧ 0 < x.2.2.1.length ∧ x.1.length + x.2.1.length = m ∧ x.1.length + x.2.1.length + x.2.2.1.length + x.2.2.2.length = N) (fun x => x.2.1.length + x.2.2.1.length) (P, U, V, Q) ⟨hT, hU, hV, hm.symm, hN.symm⟩ (by exact ent_kp) ?_
  clear hT hU hV hm he hN hp P U V Q hB
  rintro ⟨P, U, V, Q⟩ ⟨hT, hU, hV, hm, hN⟩ K next
  dsimp only at hT hU hV hm hN next ⊢
  by_cases h1 : U.length = V.length
  · have c1 := fun w h => cS P U [] V Q N cap (m - U.length) m U.length b cv w h1 (by omega) (by simp; omega) rfl (by simp; omega) hs h
    simp only [List.nil_append, hT] at c1
    have e1 := h1
    generalize U.length = i at *
    generalize V.length = j at *
    generalize segA pre post (P ++ (U ++ (V ++ Q))) = A at *
    clear next
    repeat (first | (show Walk1 _ _ _ (_ :: _) _ _; first | (show HW1 (.move _); refine wz1 ?_) | (show HW1 (.binOp .sub _ _ _ _); refine wz35 ?_) | (show HW1 (.binOp .neq _ _ _ _); refine wz61 ?_) | (show HW1 (.call ⟨.value (.func 48), _, _⟩); (first | refine walk1_tb (op_callW rfl rfl rfl evq rfl rfl rfl (fun _ => rfl) (fun w hF hB => c1 w hB)) ?_ | refine walk1_b (op_callW rfl rfl rfl evq rfl rfl rfl (fun _ => rfl) (fun w hF hB => c1 w hB)) ?_))) | refine go1 ?_ | refine end_block_other rfl ?_ | refine end_scope (fun _ h => by cases h) ?_ | (refine walk_endD ?_ ?_; (· kernel_rfl)) | refine tri_yesA rfl ?_ | refine tri_noA rfl ?_ | refine tri_trueA rfl ?_ | refine tri_falseA rfl ?_)
    refine end_normal _ (res_none rfl) ?_
    exact fin_obj rfl rfl (fun _ => rfl) (fun _ => rfl)
  · by_cases h2 : V.length < U.length
    · obtain ⟨U1, U2, rfl, hu1⟩ : ∃ U1 U2, U = U1 ++ U2 ∧ U1.length = V.length := ⟨U.take V.length, U.drop V.length, by simp, by simp; omega⟩
      have c1 := fun w h => cS P U1 U2 V Q N cap (m - (U1 ++ U2).length) m V.length b cv w hu1 (by simp at *; omega) (by simp at *; omega) hu1.symm (by simp at *; omega) hs h
      have nx := fun S' => next S' (P ++ V, U2, U1, Q)
      have hl : (U1 ++ U2).length - V.length = U2.length := by simp; omega
      have hsz : 0 < U2.length ∧ m ≤ N ∧ (U1 ++ U2).length ≤ m ∧ U2.length + U1.length < (U1 ++ U2).length + V.length := by simp at *; omega
      have hI : (P ++ V) ++ (U1 ++ (U2 ++ Q)) = T ∧ 0 < U2.length ∧ 0 < U1.length ∧ (P ++ V).length + U2.length = m ∧ (P ++ V).length + U2.length + U1.length + Q.length = N := by
        refine ⟨by rw [← hT]; simp, hsz.1, by omega, ?_, ?_⟩ <;> (simp at *; omega)
      dsimp only at nx
      have eA : P ++ ((U1 ++ U2) ++ (V ++ Q)) = P ++ (U1 ++ (U2 ++ (V ++ Q))) := by simp
      have eB : (P ++ V) ++ (U2 ++ (U1 ++ Q)) = P ++ (V ++ (U2 ++ (U1 ++ Q))) := by simp
      rw [eA]
      rw [eB, hu1, ← hl] at nx
      rw [hu1, ← hl] at hI
      rw [hu1] at hsz
      generalize (U1 ++ U2).length = i at *
      generalize V.length = j at *
      clear next
      generalize segA pre post (P ++ (U1 ++ (U2 ++ (V ++ Q)))) = A at *
      generalize segA pre post (P ++ (V ++ (U2 ++ (U1 ++ Q)))) = A2 at *
      repeat (first | (show Walk1 _ _ _ (_ :: _) _ _; first | (show HW1 (.move _); refine wz1 ?_) | (show HW1 (.assign _); refine wz2 ?_) | (show HW1 (.binOp .sub _ _ _ _); refine wz35 ?_) | (show HW1 (.binOp .gtr _ _ _ _); refine wz33 ?_) | (show HW1 (.binOp .neq _ _ _ _); refine wz61 ?_) | (show HW1 (.call ⟨.value (.func 48), _, _⟩); (first | refine walk1_tb (op_callW rfl rfl rfl evq rfl rfl rfl (fun _ => rfl) (fun w hF hB => c1 w hB)) ?_ | refine walk1_b (op_callW rfl rfl rfl evq rfl rfl rfl (fun _ => rfl) (fun w hF hB => c1 w hB)) ?_))) | refine go1 ?_ | refine end_block_other rfl ?_ | refine end_scope (fun _ h => by cases h) ?_ | (refine walk_endD ?_ ?_; (· kernel_rfl)) | refine tri_yesA rfl ?_ | refine tri_noA rfl ?_ | refine tri_trueA rfl ?_ | refine tri_falseA rfl ?_)
      exact nx _ hI (by omega) (by exact ent_kp)
    · obtain ⟨V1, V2, rfl, hv2⟩ : ∃ V1 V2, V = V1 ++ V2 ∧ V2.length = U.length := ⟨V.take (V.length - U.length), V.drop (V.length - U.length), by simp, by simp; omega⟩
      have c1 := fun w h => cS P U V1 V2 Q N cap (m - U.length) (m + (V1 ++ V2).length - U.length) U.length b cv w hv2.symm (by omega) (by simp at *; omega) rfl (by simp at *; omega) hs h
      have nx := fun S' => next S' (P, V2, V1, U ++ Q)
      have hl : (V1 ++ V2).length - U.length = V1.length := by simp; omega
      have hsz : 0 < V1.length ∧ m + (V1 ++ V2).length ≤ N ∧ U.length ≤ m ∧ U.length ≤ (V1 ++ V2).length ∧ V2.length + V1.length < U.length + (V1 ++ V2).length := by simp at *; omega
      have hI : P ++ (V1 ++ (V2 ++ (U ++ Q))) = T ∧ 0 < V2.length ∧ 0 < V1.length ∧ P.length + V2.length = m ∧ P.length + V2.length + V1.length + (U ++ Q).length = N := by
        refine ⟨by rw [← hT]; simp, by omega, hsz.1, by omega, ?_⟩
        simp at *; omega
      dsimp only at nx
      have eA : P ++ (U ++ ((V1 ++ V2) ++ Q)) = P ++ (U ++ (V1 ++ (V2 ++ Q))) := by simp
      rw [eA]
      rw [hv2, ← hl] at nx
      rw [hv2, ← hl] at hI
      rw [hv2] at hsz
      generalize (V1 ++ V2).length = j at *
      generalize U.length = i at *
      clear next
      generalize segA pre post (P ++ (U ++ (V1 ++ (V2 ++ Q)))) = A at *
      generalize segA pre post (P ++ (V2 ++ (V1 ++ (U ++ Q)))) = A2 at *
      repeat (first | (show Walk1 _ _ _ (_ :: _) _ _; first | (show HW1 (.move _); refine wz1 ?_) | (show HW1 (.assign _); refine wz2 ?_) | (show HW1 (.binOp .add _ _ _ _); refine wz10 ?_) | (show HW1 (.binOp .sub _ _ _ _); refine wz35 ?_) | (show HW1 (.binOp .gtr _ _ _ _); refine wz33 ?_) | (show HW1 (.binOp .neq _ _ _ _); refine wz61 ?_) | (show HW1 (.call ⟨.value (.func 48), _, _⟩); (first | refine walk1_tb (op_callW rfl rfl rfl evq rfl rfl rfl (fun _ => rfl) (fun w hF hB => c1 w hB)) ?_ | refine walk1_b (op_callW rfl rfl rfl evq rfl rfl rfl (fun _ => rfl) (fun w hF hB => c1 w hB)) ?_))) | refine go1 ?_ | refine end_block_other rfl ?_ | refine end_scope (fun _ h => by cases h) ?_ | (refine walk_endD ?_ ?_; (· kernel_rfl)) | refine tri_yesA rfl ?_ | refine tri_noA rfl ?_ | refine tri_trueA rfl ?_ | refine tri_falseA rfl ?_)
      exact nx _ hI (by omega) (by exact ent_kp)
end Go.Proofs.Ytcgmapioelfneaa
