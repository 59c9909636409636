/-
  The form's reading of bytes.
-/
import Derived.Test.YtkhifpgpkklokaaGreatDoorSrc
import Derived.Test.YtkhifpgpkklokaaGreatDoorOpen
namespace Go.Proofs.YtkhifpgpkklokaaGreatDoor
open Go.RowKit

theorem opens_B1 : Opens Tryz.prog 22 R_B (fun xs => ∀ n ∈ xs, (Lit.int .u8 n).wf = true) := opens_ints Tryz.underlying22 Tryz.underlying5 (by kernel_rfl)
theorem bytes_of {xs : List Int} (h : ∀ n ∈ xs, (Lit.int .u8 n).wf = true) : bytesOk xs := by
  intro x hx
  have := h x hx
  simp [Lit.wf, IntKind.min, IntKind.max, IntKind.signed, IntKind.bits] at this
  omega

end Go.Proofs.YtkhifpgpkklokaaGreatDoor
