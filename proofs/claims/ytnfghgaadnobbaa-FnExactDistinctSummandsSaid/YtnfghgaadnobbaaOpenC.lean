/-
  The form's reading of texts and lists of texts.
-/
import Derived.Test.YtnfghgaadnobbaaHarnS
import Derived.Test.YtnfghgaadnobbaaOpenB
namespace Go.Proofs.Ytnfghgaadnobbaa
open Go.RowKit Go.ChangeShapes Go.WideShapes Go.Deep

theorem opens_S1 : Opens Try.prog 43 R_S1 (fun xs => ∀ p ∈ xs, p.length ≤ maxLen) :=
  opens_slF1 Try.underlying43 (by kernel_rfl) (by
    intro H enc w fuel v x hx
    obtain ⟨s, hv, -, hs⟩ := DataW.trod_string Try.underlying9 hx
    simp at hv
    exact ⟨s.data.toList, hv, hs⟩)
theorem strs_of {xs : List (List UInt8)} (h : ∀ p ∈ xs, p.length ≤ maxLen) : strsOk xs := fun p hp => by
  have := h p hp
  simp only [maxLen] at this
  omega
theorem str_len {H : Type} {enc : TypeId × Value → H} {w : World} {t : TypeId} {l : List UInt8} {d : DataW H} {ps : List MemPlace} (ht : Try.prog.underlying t = some .string)
    (h : DataW.Trod enc Try.prog w 0 (fun _ => true) true t (.string ⟨l.toArray⟩) d ps) : l.length ≤ 9223372036854775807 := by
  obtain ⟨fuel, hf⟩ := h
  obtain ⟨s, hv, -, hs⟩ := DataW.trod_string ht hf
  simp [Value.cells] at hv
  subst hv
  have h2 : (⟨l.toArray⟩ : ByteArray).size = l.length := rfl
  rw [h2] at hs
  simp only [maxLen] at hs
  omega

end Go.Proofs.Ytnfghgaadnobbaa
