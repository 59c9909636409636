/-
  The functions over relations: what each call returns and makes.
-/
import Derived.Test.YtnfghgaadnobbaaGreatDoorHarn
namespace Go.Proofs.YtnfghgaadnobbaaGreatDoor
open Go.RowKit

def inB (a lo hi : Int) : Bool := decide (lo ≤ a) && decide (a ≤ hi)
theorem inB_true {a lo hi : Int} (h : inB a lo hi = true) : lo ≤ a ∧ a ≤ hi := by simpa [inB] using h
theorem inB_false {a lo hi : Int} (h : inB a lo hi = false) : ¬ (lo ≤ a ∧ a ≤ hi) := by simpa [inB, Decidable.imp_iff_not_or] using h
theorem inB_mk {a lo hi : Int} (h : lo ≤ a ∧ a ≤ hi) : inB a lo hi = true := by simpa [inB] using h
theorem inB_no {a lo hi : Int} (h : ¬ (lo ≤ a ∧ a ≤ hi)) : inB a lo hi = false := by
  cases e : inB a lo hi
  · rfl
  · exact absurd (inB_true e) h

set_option maxHeartbeats 400000 in
theorem within (a b c : Int) (w : World) :
    Calls Tryz.prog 34 #[.int .i64 a, .int .i64 b, .int .i64 c] w fun e w' => e = .returned (.bool (inB a b c)) ∧ w = w' := by
  by_cases h1 : b ≤ a
  · go_enter Tryz.func34, Tryz.ntmps34
    go_wp2
    go_ret
    exact ⟨by simp [inB, h1], rfl⟩
  · have e : inB a b c = false := inB_no (by omega)
    go_enter Tryz.func34, Tryz.ntmps34
    go_wp2
    go_ret
    exact ⟨rfl, rfl⟩

set_option maxHeartbeats 400000 in
theorem l00In (a b c : Int) (w : World) :
    Calls Tryz.prog 26 #[.int .i64 a, .int .i64 b, .int .i64 c] w fun e w' => e = .returned (.bool (inB a b c)) ∧ w = w' := by
  by_cases h1 : b ≤ a
  · go_enter Tryz.func26, Tryz.ntmps26
    go_wp2
    go_ret
    exact ⟨by simp [inB, h1], rfl⟩
  · have e : inB a b c = false := inB_no (by omega)
    go_enter Tryz.func26, Tryz.ntmps26
    go_wp2
    go_ret
    exact ⟨rfl, rfl⟩

def cmpI (a b : Int) : Int := if a < b then -1 else if b < a then 1 else 0
def cmpL : List Int → List Int → Int
  | [], [] => 0
  | [], _ :: _ => -1
  | _ :: _, [] => 1
  | x :: xs, y :: ys => if x < y then -1 else if y < x then 1 else cmpL xs ys

theorem cmpL_step (xs ys : List Int) (k : Nat) (h1 : k < xs.length) (h2 : k < ys.length) :
    cmpL (xs.drop k) (ys.drop k) = if cmpI xs[k] ys[k] = 0 then cmpL (xs.drop (k + 1)) (ys.drop (k + 1)) else cmpI xs[k] ys[k] := by
  rw [List.drop_eq_getElem_cons h1, List.drop_eq_getElem_cons h2, cmpL, cmpI]
  split
  · simp
  · split <;> simp

/-- a relation on n items: pairs of items, each less than the next. -/
def pairOk (n : Int) (p : List Int) : Bool := p.length == 2 && inB (p.getD 0 0) 0 (n - 1) && inB (p.getD 1 0) 0 (n - 1)
def relOk (n : Int) (r : List (List Int)) (i : Nat) : Bool := pairOk n (r.getD i []) && (i == 0 || decide (cmpL (r.getD (i - 1) []) (r.getD i []) < 0))
def relTo (n : Int) (r : List (List Int)) (k : Nat) : Bool := (List.range k).all (relOk n r)
def relB (n : Int) (r : List (List Int)) : Bool := inB n 1 40 && relTo n r r.length

theorem relTo_succ (n : Int) (r : List (List Int)) (k : Nat) : relTo n r (k + 1) = (relTo n r k && relOk n r k) := by
  simp [relTo, List.range_succ]
theorem relTo_no {n : Int} {r : List (List Int)} {k : Nat} (hk : k < r.length) (h : relOk n r k = false) : relTo n r r.length = false := by
  unfold relTo; rw [List.all_eq_false]; exact ⟨k, by simpa using hk, by simp [h]⟩

theorem pair_get {n : Int} {p : List Int} (h : pairOk n p = true) : ∃ a b, p = [a, b] ∧ 0 ≤ a ∧ a ≤ n - 1 ∧ 0 ≤ b ∧ b ≤ n - 1 := by
  simp only [pairOk, Bool.and_eq_true, beq_iff_eq] at h
  obtain ⟨⟨h1, h2⟩, h3⟩ := h
  match p, h1 with
  | [a, b], _ =>
    have h2 := inB_true h2
    have h3 := inB_true h3
    exact ⟨a, b, rfl, h2.1, h2.2, h3.1, h3.2⟩

theorem cmp_num {a b c d : Int} (hb : 0 ≤ b) (hb' : b ≤ 39) (hd : 0 ≤ d) (hd' : d ≤ 39) : decide (cmpL [a, b] [c, d] < 0) = decide (a * 40 + b < c * 40 + d) := by
  have : (cmpL [a, b] [c, d] < 0) ↔ (a * 40 + b < c * 40 + d) := by
    simp only [cmpL]
    split
    · constructor <;> intro <;> omega
    · split
      · constructor <;> intro <;> omega
      · split
        · constructor <;> intro <;> omega
        · split
          · constructor <;> intro <;> omega
          · constructor <;> intro <;> omega
  exact decide_eq_decide.2 this

theorem relTo_at {n : Int} {r : List (List Int)} {k i : Nat} (h : relTo n r k = true) (hi : i < k) : relOk n r i = true := by
  unfold relTo at h; rw [List.all_eq_true] at h; exact h i (by simpa using hi)

end Go.Proofs.YtnfghgaadnobbaaGreatDoor
