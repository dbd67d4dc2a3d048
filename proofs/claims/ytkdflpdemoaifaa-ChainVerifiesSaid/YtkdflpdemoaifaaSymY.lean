/- Slices of rows, cut. No condition. -/
import Derived.Test.YtkdflpdemoaifaaSymX
namespace Go.Proofs.Ytkdflpdemoaifaa
open Go.RowKit
set_option maxRecDepth 100000
/-- What is cut out of a slice of elements of sz cells. -/
def cutZ (sz : Nat) : Value → Nat → Nat → Value
  | .slice a _ c, lo, len => .slice (if c = lo then a else a.map (·.add (lo * sz))) len (c - lo)
  | v, _, _ => v
theorem FS.cutZ {w : World} {sz : Nat} {v : Value} {n : Nat} {xs : List Value} (h : FS w sz v n xs) {lo len : Nat} (hl : lo + len ≤ n) : FS w sz (cutZ sz v lo len) len ((xs.drop (lo * sz)).take (len * sz)) := by
  obtain ⟨⟨hlen, a, c, hv, hr⟩, a', c', hv', hc⟩ := h
  rw [hv] at hv'
  cases hv'
  subst hv
  have hm : lo * sz + len * sz ≤ n * sz := by rw [← Nat.add_mul]; exact Nat.mul_le_mul_right _ hl
  refine ⟨⟨by rw [List.length_take, List.length_drop]; omega, _, _, rfl, ?_⟩, _, _, rfl, by omega⟩
  rcases hr with h0 | ⟨b, off, rfl, hr⟩
  · exact .inl (by omega)
  · by_cases hcl : c = lo
    · left; omega
    · refine .inr ⟨b, off + lo * sz, by rw [if_neg hcl]; simp [add_place], fun j u hu => ?_⟩
      rw [List.getElem?_take] at hu
      split at hu
      · rw [List.getElem?_drop] at hu
        rw [Nat.add_assoc]
        exact hr _ u hu
      · cases hu
theorem FS.cutE {α : Type} {f : α → List Value} {w : World} {sz : Nat} {v : Value} {n : Nat} {es : List α} (h : FS w sz v n (es.flatMap f)) (hf : ∀ e ∈ es, (f e).length = sz) {lo len : Nat} (hl : lo + len ≤ n) : FS w sz (Go.Proofs.Ytkdflpdemoaifaa.cutZ sz v lo len) len (((es.drop lo).take len).flatMap f) := by
  have := h.cutZ hl
  rwa [← (flat_cut es hf lo).2, ← (flat_cut (es.drop lo) (fun e he => hf e (List.mem_of_mem_drop he)) len).1] at this
variable {C : Ctx} {ops : Array Oper} {S : St} {o : Oper}
theorem op_cutZ {t T : TypeId} {x : Operand} {v : Value} {ol oh : Option Operand} {lo hi sz n : Nat} {xs : List Value} (ho : o.op = .slice t x ol oh none) (hg : o.guard = none) (hd : dstB o.dst C.nt = true) (hx : S.ev x = some (.c v)) (hu' : tabLook undT t = some (.slice T)) (hs' : tabLook sizT T = some sz) (hf : FS C.w0 sz v n xs) (hl : EvO S ol 0 lo := by first | exact evO_none | exact evO_some (by first | exact evK_const rfl | exact evK_tmp rfl)) (hh : EvO S oh n hi := by first | exact evO_none | exact evO_some (by first | exact evK_const rfl | exact evK_tmp rfl)) (h1 : lo ≤ hi := by first | omega | decide) (h2 : hi ≤ n := by first | omega | decide) :
    OpG C Try.prog ops o S ⟨opT x ++ (opO ol ++ opO oh), [], dw o.dst (.c (cutZ sz v lo (hi - lo))), [], []⟩ := by
  obtain ⟨_, a, c, rfl, hc⟩ := hf
  exact op_cut ho hg hd hx hu' hs' hl hh h1 (fun S' e a' w _ hS => ⟨a, c, rfl, by omega, rfl⟩) rfl
theorem op_storesC {ty : TypeId} {x y : Operand} {n : Nat} {T : TypeId} {A : SA} {a : Array Value} {m : Nat} (ho : o.op = .store ty x y) (hg : o.guard = none) (hdst : o.dst = none) (hx : S.ev x = some (.p n 0)) (hy : S.ev y = some (.c (.agg a))) (hr : S.res n = some (.blk n T A))
    (hi' : tabLook sizT ty = some m) (hsz : a.size = m) (h1c : a.all (·.oneCell') = true) (hm : ∀ e, (A.den e).size = m := by (fail_if_success (with_reducible apply trap_sm)); first | ((with_reducible apply sm_vals); exact (by first | omega | (simp; omega) | (simp <;> fail) | omega)) | ((with_reducible apply sm_c); rfl) | ((with_reducible apply sm_l); rfl)) :
    OpG C Try.prog ops o S ⟨opT x ++ opT y, n :: (SA.c a).sup, [], [(n, some (.blk n T (.c a)))], []⟩ := op_stores ho hg hdst hx hy hr hi' hm (fun _ => rfl) (fun _ => hsz) (fun _ => h1c)
end Go.Proofs.Ytkdflpdemoaifaa
