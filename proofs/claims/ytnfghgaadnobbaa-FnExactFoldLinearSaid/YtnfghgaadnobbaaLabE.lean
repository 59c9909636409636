/-
  Numbers in decimal: what the program's calls return.
-/
import Derived.Test.YtnfghgaadnobbaaLabI
import Derived.Test.YtnfghgaadnobbaaShelf
namespace Go.Proofs.Ytnfghgaadnobbaa
open Go.RowKit

theorem Upd.var {P : Program} {w w1 : World} {n : String} {cs : Array Value} (hu : Upd [] w w1) (h : w.var? P n = some cs) : w1.var? P n = some cs := by
  unfold World.var? at h ⊢
  cases hg : P.globalNamed n with
  | none => rw [hg] at h; cases h
  | some g =>
    rw [hg] at h
    simp only [Option.bind_some] at h ⊢
    have hlt : g < w.heap.size := by
      rcases Nat.lt_or_ge g w.heap.size with h1 | h1
      · exact h1
      · rw [Array.getElem?_eq_none h1] at h; cases h
    rw [hu.block g hlt (by simp)]
    exact h

theorem Upd.grow (w : World) (k : Nat) (os : Array Obj) : Upd [] w (Sort.grow (w.drewN k) os) := by
  refine ⟨rfl, rfl, rfl, ?_, fun i hi _ => ?_⟩
  · show w.heap.size ≤ (w.heap ++ os).size
    rw [Array.size_append]; omega
  · show (w.heap ++ os)[i]? = w.heap[i]?
    rw [Array.getElem?_append_left hi]

theorem isActionI (l : List UInt8) (w : World) (hl : l.length ≤ 2000000) :
    Calls Try.prog 60 #[es l] w fun e w' => e = .returned (.bool (actF l)) ∧ w = w' := by
  have S1 := Lib.hid (isNameI l w hl)
  cases hn : nameF l with
  | false =>
    have HR := Lib.hid (show actF l = false by simp [actF, hn])
    rw [hn] at S1
    clear hn
    go_enter Try.func60, Try.ntmps60
    go_wp2_with fail
    refine S1.out.mono ?_
    rintro e w1 ⟨rfl, rfl⟩
    clear S1
    go_wp2_with fail
    go_ret
    exact ⟨by rw [HR.out]; rfl, rfl⟩
  | true =>
    have HR := Lib.hid (show actF l = (l != tauL) by simp [actF, hn])
    rw [hn] at S1
    clear hn
    go_enter Try.func60, Try.ntmps60
    go_wp2_with fail
    refine S1.out.mono ?_
    rintro e w1 ⟨rfl, rfl⟩
    clear S1
    go_wp2_with fail
    go_ret
    refine ⟨?_, rfl⟩
    rw [HR.out]
    simp [tauL, bne]

theorem parse_range {l : List UInt8} {v : Int} (h : Lib.parseIntB 64 l = .ok v) : -9223372036854775808 ≤ v ∧ v ≤ 9223372036854775807 := by
  unfold Lib.parseIntB at h
  cases l with
  | nil => cases h
  | cons c r =>
    simp only at h
    split at h
    · cases h
    · cases h
    · split at h
      · cases h
      · split at h
        · cases h
        · rename_i h1 h2
          simp only [Lib.NumEnd.ok.injEq] at h
          subst h
          by_cases hc : c.toNat = 45
          · simp only [hc, not_true_eq_false, true_and, false_and, not_false_eq_true] at h1 h2
            simp only [hc, if_true]; omega
          · simp only [hc, not_false_eq_true, true_and, false_and] at h1 h2
            simp only [hc, if_false]; omega

theorem digL_trim (s : List UInt8) : Lib.trimPrefix s [45] = digL s := by
  cases s with
  | nil => rfl
  | cons b r =>
    by_cases hb : b = 45
    · subst hb; simp [Lib.trimPrefix, Lib.hasPrefix, digL, negL, List.isPrefixOf]
    · have h1 : (b == 45) = false := by simpa using hb
      have h2 : ((45 : UInt8) == b) = false := by simpa using fun e => hb e.symm
      simp [Lib.trimPrefix, Lib.hasPrefix, digL, negL, List.isPrefixOf, h1, h2]

def NumV (s : List UInt8) (w : World) (e : Ending) (w' : World) : Prop := e = .returned (.tuple #[.int .i64 ((numF s).getD 0), .bool (numF s).isSome]) ∧ Upd [] w w'

end Go.Proofs.Ytnfghgaadnobbaa
