/- A law's questions, from their cells. No condition. -/
import Derived.Test.YtgjlpnendljcaaaSwpF
import Derived.Test.YtgjlpnendljcaaaSwpA
namespace Go.Proofs.Ytgjlpnendljcaaa
open Go.RowKit
set_option maxRecDepth 100000
theorem asks_of_flats {w : World} {v : Value} {rs : List (List Value)} (hf : FS w 9 v rs.length (rs.flatMap id)) (h : ∀ r ∈ rs, Flat askKs r) : ∃ qs : List AskS, FS w 9 v qs.length (asksC qs) := by
  have key : ∀ rs : List (List Value), (∀ r ∈ rs, Flat askKs r) → ∃ qs : List AskS, qs.length = rs.length ∧ asksC qs = rs.flatMap id := by
    intro rs
    induction rs with
    | nil => intro _; exact ⟨[], rfl, rfl⟩
    | cons r rs ih =>
      intro h
      obtain ⟨o, d, mask, skip, near, hr⟩ := ask_of_flat (h r List.mem_cons_self)
      obtain ⟨qs, h1, h2⟩ := ih fun r hr => h r (List.mem_cons_of_mem _ hr)
      refine ⟨⟨o, d, mask, skip, near⟩ :: qs, by simp [h1], ?_⟩
      rw [List.flatMap_cons, ← h2, asksC, List.flatMap_cons]
      show (askC o d mask skip near).toList ++ _ = _
      rw [← hr]
      rfl
  obtain ⟨qs, h1, h2⟩ := key rs h
  exact ⟨qs, by rw [h1, h2]; exact hf⟩
end Go.Proofs.Ytgjlpnendljcaaa
