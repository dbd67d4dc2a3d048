/- The law RecordMakes: walked. No condition. -/
import Derived.Test.YtihbiejgebmeaaaRecM8
import Derived.Test.YtihbiejgebmeaaaRecYS
import Derived.Test.YtihbiejgebmeaaaRecZ5
namespace Go.Proofs.Ytihbiejgebmeaaa
open Go.RowKit
set_option maxRecDepth 100000
set_option maxHeartbeats 4000000
theorem ScnFS.kept {w0 w : World} {s : ScnR} {v : ScnV} (h : ScnFS w0 s v) (hb : ∀ b, b < w0.heap.size → w.heap[b]? = w0.heap[b]?) : ScnFS w s v :=
  ⟨h.t.later (by omega) hb, h.m.later (by omega) hb, h.x.later (by omega) hb, fun t ht => (h.px t ht).later (by omega) hb, h.l.later (by omega) hb, h.i.later (by omega) hb, h.b.later (by omega) hb⟩
theorem cutN_one {w : World} {sz n k : Nat} {v : Value} {xs : List Value} (h : FS w sz v n xs) : (cutN sz v n k).oneCell' = true := by
  obtain ⟨a, c, rfl, _⟩ := h.2
  rfl
theorem few_one {w : World} {s : ScnR} {v : ScnV} (h : ScnFS w s v) (u : Value) : (scnA (fewS s) (fewV s v (slV u))).all (·.oneCell') = true := by
  have h1 := cutN_one (k := 20) h.t
  have h2 := cutN_one (k := 8) h.m
  have h3 := cutN_one (k := 5) h.l
  have h4 := cutN_one (k := 20) h.i
  have h5 := cutN_one (k := 20) h.b
  have h6 := (slV_one u).1
  unfold scnA fewV
  simp only [List.all_toArray, List.all_cons, List.all_nil, h1, h2, h3, h4, h5, h6]
  rfl
theorem slV_rdv {w : World} {sz n : Nat} {v : Value} {xs : List Value} (h : RdV w sz v n xs) : slV v = v := by
  obtain ⟨_, a, c, rfl, _⟩ := h
  rfl
def madeA (l : Int) (n : StepS) (vf : Value) : Array Value := #[.int .i64 l] ++ (n.c ++ #[vf])
attribute [local irreducible] Calls Walk1 WalkTo Tri EndA
end Go.Proofs.Ytihbiejgebmeaaa
