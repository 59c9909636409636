/-
  Linear processes, plainly: which are valid.
-/
import Derived.Test.YtnfghgaadnobbaaGreatDoorHarnLn
import Derived.Test.YtnfghgaadnobbaaGreatDoorTerms
import Derived.Test.YtnfghgaadnobbaaGreatDoorLabP
namespace Go.Proofs.YtnfghgaadnobbaaGreatDoor
open Go.RowKit

def prodP : List Int → Int
  | [] => 1
  | n :: l => (n + 1) * prodP l
theorem prodP_app (l m : List Int) : prodP (l ++ m) = prodP l * prodP m := by
  induction l with
  | nil => simp [prodP]
  | cons n l ih => rw [List.cons_append, prodP, ih, prodP, Int.mul_assoc]
theorem prodP_snoc (l : List Int) (k : Nat) (h : k < l.length) : prodP (l.take (k + 1)) = prodP (l.take k) * (l[k] + 1) := by
  rw [List.take_succ_eq_append_getElem h, prodP_app]; simp [prodP]
theorem prodP_bd : ∀ (l : List Int), (l.all fun n => inB n 1 7) = true → 1 ≤ prodP l ∧ prodP l ≤ (8 : Int) ^ l.length
  | [], _ => by simp [prodP]
  | n :: l, h => by
    simp only [List.all_cons, Bool.and_eq_true] at h
    obtain ⟨h1, h2⟩ := prodP_bd l h.2
    have h3 := inB_true h.1
    rw [prodP, List.length_cons, Int.pow_succ]
    constructor
    · have := Int.mul_le_mul (a := 1) (b := 1) (c := n + 1) (d := prodP l) (by omega) h1 (by omega) (by omega)
      omega
    · have := Int.mul_le_mul (a := n + 1) (b := prodP l) (c := 8) (d := (8 : Int) ^ l.length) (by omega) h2 (by omega) (by omega)
      rw [Int.mul_comm _ 8]; exact this
/-- the product of at most eight, each in its bounds. -/
theorem prodP_small (l : List Int) (h : (l.all fun n => inB n 1 7) = true) (hl : l.length ≤ 8) : 1 ≤ prodP l ∧ prodP l ≤ 16777216 := by
  obtain ⟨h1, h2⟩ := prodP_bd l h
  refine ⟨h1, Int.le_trans h2 ?_⟩
  have : l.length = 0 ∨ l.length = 1 ∨ l.length = 2 ∨ l.length = 3 ∨ l.length = 4 ∨ l.length = 5 ∨ l.length = 6 ∨ l.length = 7 ∨ l.length = 8 := by omega
  rcases this with e | e | e | e | e | e | e | e | e <;> rw [e] <;> decide
def sumsP (l : List Int) : Bool := (l.all fun n => inB n 1 7) && decide (l.length ≤ 8) && decide (prodP l ≤ 4096)
def namesP (s : Sm) : Bool := !(decide (0 < s.args.length) && (s.name == tauL || decide (2 < s.args.length))) && (s.name == tauL || actF s.name)
def expsP (p : Int) (s : Sm) : Bool := (s.guard :: (s.args ++ s.next)).all fun e => isE e (p + s.sums.length) 60
/-- a summand is valid for a number of parameters. -/
def smOk (p : Int) (s : Sm) : Bool := sumsP s.sums && decide ((s.next.length : Int) = p) && namesP s && expsP p s
/-- a linear process is valid. -/
def lnOk (l : Ln) : Bool := inB l.pars 0 21 && (decide ((l.start.length : Int) = l.pars) && l.start.all fun n => inB n 0 63) && decide (l.sms.length ≤ 60) && l.sms.all (smOk l.pars)

end Go.Proofs.YtnfghgaadnobbaaGreatDoor
