/- The frame of this seat's laws: a law holds if its walk ends with true and leaves alone what lay below. No condition. -/
import Derived.Test.YtcgmapioelfneaaBase
import Derived.ProofKit
import Derived.OpenShut
namespace Go.Proofs.Ytcgmapioelfneaa
open Go.ChangeShapes Go.WideShapes Go.ChangeAt Go.RowKit

/-! ### closed facts of the program, each once (the text of the roots is long: no closed fact reads it by reckoning) -/
theorem words_cut {P : Program} {l : List Char} (hl : P.initOrder.toList = l) (h : ((behindMainWord (wordsSigns l)).head? == some "cut".toList) = true) :
    ∃ ws, behindMainWord (wordsSigns P.initOrder.toList) = "cut".toList :: ws := by
  rw [hl]
  cases hb : behindMainWord (wordsSigns l) with
  | nil => rw [hb] at h; cases h
  | cons a b => rw [hb] at h; exact ⟨b, by simpa using h⟩
theorem make_of {P : Program} {ws : List (List Char)} (h : behindMainWord (wordsSigns P.initOrder.toList) = "cut".toList :: ws) : P.make = some .cut := by
  unfold Program.make
  rw [h]
  rfl
theorem strip_cut (ws : List (List Char)) : stripLifts liftWords ("cut".toList :: ws) = ([], "cut".toList :: ws) := by
  have h : ∀ (l : List String), (∀ s ∈ l, ("cut".toList == s.toList) = false) → stripLifts l ("cut".toList :: ws) = ([], "cut".toList :: ws) := by
    intro l
    induction l with
    | nil => intro _; rfl
    | cons s l ih => intro hs; unfold stripLifts; rw [hs s (by simp)]; simp only [Bool.false_eq_true, if_false]; exact ih fun t ht => hs t (by simp [ht])
  exact h _ (by decide)
theorem lifts_of {P : Program} {ws : List (List Char)} (h : behindMainWord (wordsSigns P.initOrder.toList) = "cut".toList :: ws) : P.liftsFinal = false := by
  unfold Program.liftsFinal Program.headLifts
  simp only [h, strip_cut]
  kernel_rfl
theorem mayEnter_of {P : Program} {ws : List (List Char)} (h : behindMainWord (wordsSigns P.initOrder.toList) = "cut".toList :: ws) (h1 : P.laysLater = false) (h2 : P.bearsReflect = false) (h3 : P.doorFits [] = true) : P.mayEnter = true := by
  unfold Program.mayEnter
  simp only [h, strip_cut, h1, h2, h3]
  kernel_rfl
set_option maxRecDepth 100000 in
theorem cut_words : ∃ ws, behindMainWord (wordsSigns Try.prog.initOrder.toList) = "cut".toList :: ws := words_cut (P := Try.prog) String.toList_ofList (by decide +kernel)
theorem make_ok : Try.prog.make = some .cut := let ⟨_, h⟩ := cut_words; make_of h
theorem lifts_ok : Try.prog.liftsFinal = false := let ⟨_, h⟩ := cut_words; lifts_of h
theorem lays_ok : Try.prog.laysLater = false := by kernel_rfl
theorem refl_ok : Try.prog.bearsReflect = false := by kernel_rfl
theorem doors_ok : Try.prog.doorFits [] = true := by kernel_rfl
theorem mayEnter_ok : Try.prog.mayEnter = true := let ⟨_, h⟩ := cut_words; mayEnter_of h lays_ok refl_ok doors_ok

theorem own : ownKnob Try.prog.godebug = none := by kernel_rfl
theorem laidOut : laidOutB Try.prog = true := by kernel_rfl
theorem under_bool : Try.prog.underlying 4 = some .bool := Try.underlying4

/-- Arguments read as they did if below the heap's old size nothing has turned. -/
theorem trodAll_below {H : Type} {enc : TypeId × Value → H} {W W' : World} (hb : Below W.heap.size W W') :
    ∀ (ts : List TypeId) (vs : List Value) (ds : List (DataW H)) (ps : List MemPlace), (∀ t ∈ ts, Try.prog.readableRec t = true ∧ t < Try.prog.types.size) →
      DataW.TrodAll enc Try.prog W 0 (fun _ => true) true ts vs ds ps → (∀ x ∈ ps, x.block < W.heap.size) →
      DataW.TrodAll enc Try.prog W' 0 (fun b => decide (b < W.heap.size)) true ts vs ds ps
  | [], [], [], ps, _, h, _ => h
  | t :: ts, v :: vs, d :: ds, ps, hr, h, hlt => by
    obtain ⟨p, q, h1, h2, rfl⟩ := h
    exact ⟨p, q, Below.trod laidOut (hr t (by simp)).1 (hr t (by simp)).2 h1 hb (fun x hx => hlt x (by simp [hx])),
      trodAll_below hb ts vs ds q (fun t' ht => hr t' (by simp [ht])) h2 (fun x hx => hlt x (by simp [hx])), rfl⟩
  | [], [], _ :: _, _, _, h, _ => h.elim
  | [], _ :: _, _, _, _, h, _ => h.elim
  | _ :: _, [], _, _, _, h, _ => h.elim
  | _ :: _, _ :: _, [], _, _, h, _ => h.elim

/-- What a law's row asks behind the call. -/
theorem post_law {H : Type} {enc : TypeId × Value → H} {f : Func} {s : ChangeSpec} {W W' : World} {args : Array Value} {ds gs : List (DataW H)} {before : List MemPlace}
    (hW : DataW.Whole enc Try.prog f.params.toList s.vars false W args.toList ds gs before) (hv : s.vars = []) (hr : f.resultTypes = #[4])
    (hp : ∀ t ∈ f.params.toList, Try.prog.readableRec t = true ∧ t < Try.prog.types.size)
    (hs : ∀ p, DataW.TrodAll enc Try.prog W 0 (fun _ => true) true f.params.toList args.toList ds p → s.fn H ds = { results := [.lit (.bool true)], args := ds })
    (hb : Below W.heap.size W W') : s.post enc Try.prog f false true false false W args (.bool true) W' := by
  have hlt := hW.lt
  obtain ⟨p, q, hA, hV, rfl, hfz, hnd⟩ := hW
  have hV' : DataW.TrodVars enc Try.prog W (fun _ => true) [] gs q := hv ▸ hV
  obtain ⟨rfl, rfl⟩ := trodVars_none hV'
  have hfn : s.fn H (ds ++ []) = { results := [.lit (.bool true)], args := ds } := by rw [List.append_nil]; exact hs p hA
  refine ⟨ds, [], p ++ [], [], p, [], ⟨p, [], hA, by rw [hv]; rfl, rfl, hfz, fun h => by cases h⟩, ?_, ?_, ?_, hb.frame _, fun h => by cases h⟩
  · rw [hfn, hr]; exact trodAll_mk1 (shut_bool under_bool true)
  · rw [hfn]; exact trodAll_below hb _ _ _ _ hp hA (fun x hx => hlt x (by simp [hx]))
  · rw [hfn, hv]; rfl

set_option maxRecDepth 100000 in
/-- The step of a law's row. -/
theorem law_step {os : Os} {H : Type} {enc : TypeId × Value → H} {F : Nat} {f : Func} {s : ChangeSpec} (started : os.Started) (hf : Try.prog.funcs[F]? = some f) (hi : Try.prog.inits.idxOf? F = none)
    (hv : s.vars = []) (hr : f.resultTypes = #[4]) (hp : ∀ t ∈ f.params.toList, Try.prog.readableRec t = true ∧ t < Try.prog.types.size)
    (hs : ∀ W args ds p, DataW.TrodAll enc Try.prog W 0 (fun _ => true) true f.params.toList args ds p → s.fn H ds = { results := [.lit (.bool true)], args := ds })
    (witness : ∃ (w : World) (tape : Tape) (i : Input), w.os = os ∧ (w.forCall tape i).Shaped Try.prog ∧ i.vars = [] ∧ Input.okWide Try.prog (w.forCall tape i) .any w.heap.size F i ∧
      s.pre6 enc Try.prog f [] false (w.forCall tape i).memory i.args ∧ ({} : Assume).holds Try.prog (lone (Frame.enter Try.prog F i.args .normal) [] (w.forCall tape i)))
    (walk : ∀ (W : World) (base : Nat) (args : List Value) (ds : List (DataW H)) (p : List MemPlace),
      (∀ (j : Nat) t v, f.params[j]? = some t → args[j]? = some v → Value.okWide Try.prog W .any base t v) →
      DataW.TrodAll enc Try.prog W 0 (fun _ => true) true f.params.toList args ds p → W.noneFrozen p →
      Calls Try.prog F args.toArray W fun e W' => e = .returned (.bool true) ∧ Below W.heap.size W W') :
    ReturnsInHanded {} Try.checked os F .any (s.pre6 enc Try.prog f [] false) (s.post enc Try.prog f false true false false) := by
  refine returnsInHanded_of_change (C := Try.checked) own started hi hf witness ?_
  intro W base args ds gs before hval hW hcnd _
  have hW' := hW
  obtain ⟨p, q, hA, hV, rfl, hfz, hnd⟩ := hW
  have hV' : DataW.TrodVars enc Try.prog W (fun _ => true) [] gs q := hv ▸ hV
  obtain ⟨rfl, rfl⟩ := trodVars_none hV'
  have hc := walk W base args.toList ds p (fun j t v h1 h2 => hval j t v h1 (by simpa using h2)) hA (by simpa using hfz)
  rw [Array.toArray_toList] at hc
  exact hc.mono fun e W' ⟨he, hb⟩ => ⟨_, he, post_law hW' hv hr hp (fun p hp' => hs W _ ds p hp') hb⟩

/-! ### arguments, opened -/
theorem bv8_of : ∀ z : Int, (Lit.int .u8 z).wf = true → ∃ x : BitVec 8, z = bvi x := fun _ h => bv_of_wf8 h
section
variable {H : Type} {enc : TypeId × Value → H} {P : Program} {w : World} {base : Nat} {spare : Nat → Bool} {held : Bool}
end
end Go.Proofs.Ytcgmapioelfneaa
