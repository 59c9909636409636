/-
  The form's reading of bytes.
-/
import Derived.Test.YtnfghgaadnobbaaSrc
import Derived.Test.YtnfghgaadnobbaaOpen
namespace Go.Proofs.Ytnfghgaadnobbaa
open Go.RowKit

theorem opens_B1 : Opens Try.prog 114 R_B (fun xs => ∀ n ∈ xs, (Lit.int .u8 n).wf = true) := opens_ints Try.underlying114 Try.underlying5 (by kernel_rfl)
theorem bytes_of {xs : List Int} (h : ∀ n ∈ xs, (Lit.int .u8 n).wf = true) : bytesOk xs := by
  intro x hx
  have := h x hx
  simp [Lit.wf, IntKind.min, IntKind.max, IntKind.signed, IntKind.bits] at this
  omega

end Go.Proofs.Ytnfghgaadnobbaa
