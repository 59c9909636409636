/-
  The text of an expression, plainly.
-/
import Derived.Test.YtnfghgaadnobbaaGreatDoorFoldS
import Derived.Test.YtnfghgaadnobbaaGreatDoorDec
namespace Go.Proofs.YtnfghgaadnobbaaGreatDoor
open Go.RowKit

def opT (op : Int) : List UInt8 := [[43], [45], [42], [61], [35], [60], [60, 61], [38], [124]].getD op.toNat []
def lvl (op : Int) : Int := [4, 4, 5, 3, 3, 3, 3, 2, 1].getD op.toNat 0
def lvE : Ex → Int | .mk t _ => if t.1 = 2 then lvl t.2 else 9
def isOp : Ex → Bool | .mk t _ => t.1 == 2
def par (b : Bool) (l : List UInt8) : List UInt8 := if b then ([40] ++ l) ++ [41] else l
mutual
def textE : Ex → List UInt8
  | .mk t args => if t.1 = 0 then Lib.itoa t.2 else if t.1 = 1 then [118] ++ Lib.itoa t.2 else if t.1 = 3 then [33] ++ par ((args.map isOp).getD 0 false) ((textEs args).getD 0 [])
    else (par (decide ((args.map lvE).getD 0 9 < lvl t.2)) ((textEs args).getD 0 []) ++ opT t.2) ++ par (decide ((args.map lvE).getD 1 9 ≤ lvl t.2)) ((textEs args).getD 1 [])
def textEs : List Ex → List (List UInt8)
  | [] => []
  | x :: xs => textE x :: textEs xs
end

theorem opT_len (op : Int) : (opT op).length ≤ 2 := by
  unfold opT
  rw [List.getD_eq_getElem?_getD]
  generalize op.toNat = n
  match n with
  | 0 | 1 | 2 | 3 | 4 | 5 | 6 | 7 | 8 => simp
  | n + 9 => simp
theorem par_len (b : Bool) (l : List UInt8) : (par b l).length ≤ l.length + 2 := by
  cases b <;> simp [par]
theorem itoa_small {n : Int} (h0 : 0 ≤ n) (h1 : n ≤ 63) : (Lib.itoa n).length ≤ 2 := by
  obtain ⟨q, rfl⟩ : ∃ q : Nat, n = q := ⟨n.toNat, by omega⟩
  have : Lib.itoa (q : Int) = Lib.decDigits q := by simp [Lib.itoa]
  rw [this]
  by_cases h : q < 10
  · rw [Lib.decDigits_one h]; simp
  · rw [Lib.decDigits_two h (by omega)]; simp

mutual
theorem textE_len : ∀ x : Ex, goodE 29 x = true → (textE x).length ≤ 7 * (flatE x).length
  | .mk t args, h => by
    rw [goodE_mk] at h
    simp only [Bool.and_eq_true, decide_eq_true_eq] at h
    obtain ⟨⟨hl, hok⟩, hg⟩ := h
    have ih := textEs_len args hg
    have hi : t.1 = 0 ∨ t.1 = 1 → (Lib.itoa t.2).length ≤ 2 := by
      rintro (h | h)
      · simp [tOk, h] at hok; have := inB_true hok; exact itoa_small this.1 this.2
      · simp [tOk, h] at hok; have := inB_true hok; exact itoa_small this.1 (by omega)
    rw [textE, flatE, List.length_cons]
    split
    · rename_i h0; have := hi (Or.inl h0); omega
    · split
      · rename_i h1; have := hi (Or.inr h1); simp only [List.length_append, List.length_cons, List.length_nil]; omega
      · split
        · have := par_len ((args.map isOp).getD 0 false) ((textEs args).getD 0 [])
          simp only [List.length_append, List.length_cons, List.length_nil]
          have := ih.1; omega
        · have h1 := par_len (decide ((args.map lvE).getD 0 9 < lvl t.2)) ((textEs args).getD 0 [])
          have h2 := par_len (decide ((args.map lvE).getD 1 9 ≤ lvl t.2)) ((textEs args).getD 1 [])
          have h3 := opT_len t.2
          simp only [List.length_append]
          have := ih.2; omega
theorem textEs_len : ∀ xs : List Ex, goodEs 29 xs = true → ((textEs xs).getD 0 []).length ≤ 7 * (flatEs xs).length ∧ ((textEs xs).getD 0 []).length + ((textEs xs).getD 1 []).length ≤ 7 * (flatEs xs).length
  | [], _ => by simp [textEs, flatEs]
  | [x], h => by
    rw [goodEs_cons, Bool.and_eq_true] at h
    have := textE_len x h.1
    simp [textEs, flatEs]; omega
  | x :: y :: xs, h => by
    rw [goodEs_cons, goodEs_cons, Bool.and_eq_true, Bool.and_eq_true] at h
    have h1 := textE_len x h.1
    have h2 := textE_len y h.2.1
    simp [textEs, flatEs]; omega
end

end Go.Proofs.YtnfghgaadnobbaaGreatDoor
