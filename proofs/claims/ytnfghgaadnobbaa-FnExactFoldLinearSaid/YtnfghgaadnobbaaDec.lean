/-
  A number in decimal: the reference's digits.
-/
import Derived.Test.YtnfghgaadnobbaaProg
import Derived.Test.YtnfghgaadnobbaaLib2
import Derived.Lib.ItoaNum
import Derived.Laws.IdiomStrings
namespace Go.Proofs.Ytnfghgaadnobbaa
open Go.RowKit

abbrev es (l : List UInt8) : Value := .string ⟨l.toArray⟩
abbrev eb (b : UInt8) : Value := .int .u8 (b.toNat : Int)

theorem Try.infoU8 : (Try.prog.info? 5).map (fun i => (i.zero, i.size, i.bytes)) = some (some (.int .u8 0), 1, 1) := by kernel_rfl

/-- a row of bytes, as a string. -/
theorem str_own {P : Program} (S D e : TypeId) (hs : P.underlying S = some (.slice e)) (he : P.underlying e = some (.int .u8)) (hd : P.underlying D = some .string) {w : World} {base : Nat} {v : Value} {l : List UInt8}
    (h : w.ownsRow base e 1 v l.length (l.map eb)) (h0 : 0 < l.length) :
    ∃ g cap, v = .slice (some ⟨g, 0, none⟩) l.length cap ∧ (convert S D (.slice (some ⟨g, 0, none⟩) l.length cap)).run P w = .ok (es l) w := by
  rcases h.2 with ⟨-, h1⟩ | ⟨g, cap, cur, rfl, -⟩
  · omega
  · refine ⟨g, cap, rfl, run_convert_bytes_back w S D e ⟨g, 0, none⟩ cap l hs he hd fun j hj => ?_⟩
    rw [addr_add, Nat.zero_add, h.cellAt j (by omega)]
    simp [hj]

theorem dig_step (M : Nat) (h : 0 < M) (D : List UInt8) : (if M / 10 = 0 then [] else Lib.decDigits (M / 10)) ++ (D ++ [UInt8.ofNat (48 + M % 10)]).reverse = (Lib.decDigits M) ++ D.reverse := by
  rw [List.reverse_append]
  simp only [List.reverse_cons, List.reverse_nil, List.nil_append, List.singleton_append]
  by_cases h10 : M < 10
  · rw [if_pos (by omega), Lib.decDigits, dif_pos h10, show M % 10 = M by omega]; rfl
  · rw [if_neg (by omega)]
    conv => rhs; rw [Lib.decDigits, dif_neg h10]
    simp

end Go.Proofs.Ytnfghgaadnobbaa
