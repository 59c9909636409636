/-
  Terms: arity, validity, the count of operands still wanted; both sides' functions on them.
-/
import Derived.Test.YtkhifpgpkklokaaGreatDoorHarnT2
import Derived.Test.YtkhifpgpkklokaaGreatDoorRel
namespace Go.Proofs.YtkhifpgpkklokaaGreatDoor
open Go.RowKit

def arity (t : Tm) : Int := if t.1 = 2 then 2 else if t.1 = 3 then 1 else 0
def tOk (t : Tm) (nv : Int) : Bool :=
  if t.1 = 0 then inB t.2 0 63 else if t.1 = 1 then inB t.2 0 (nv - 1) else if t.1 = 2 then inB t.2 0 8 else if t.1 = 3 then t.2 == 0 else false
/-- how many operands are wanted behind terms, n before them; none where a term is out of place or wrong. -/
def run (nv : Int) : List Tm → Int → Option Int
  | [], n => some n
  | t :: ts, n => if n = 0 then none else if tOk t nv then run nv ts (n + (arity t - 1)) else none
def isE (e : List Tm) (nv most : Int) : Bool := decide ((e.length : Int) ≤ most) && (run nv e 1 == some 0)
def validE (e : List Tm) (nv most : Int) : Bool := inB nv 0 29 && inB most 1 60 && isE e nv most

theorem arity_bd (t : Tm) : 0 ≤ arity t ∧ arity t ≤ 2 := by unfold arity; split <;> (try split) <;> omega

set_option maxHeartbeats 400000 in
theorem isValue (a : Int) (w : World) : Calls Tryz.prog 152 #[.int .i64 a] w fun e w' => e = .returned (.bool (inB a 0 63)) ∧ w = w' := by
  go_enter Tryz.func152, Tryz.ntmps152
  go_wp2_with (go_at_call 67; refine (within _ _ _ _).mono ?_; rintro e w' ⟨rfl, rfl⟩)
  go_ret
  exact ⟨rfl, rfl⟩

theorem run_step (nv : Int) (e : List Tm) (k : Nat) (n : Int) (hk : k < e.length) :
    run nv (e.drop k) n = if n = 0 then none else if tOk e[k] nv then run nv (e.drop (k + 1)) (n + (arity e[k] - 1)) else none := by
  rw [List.drop_eq_getElem_cons hk, run]

theorem isE_len {e : List Tm} {nv most : Int} (h : isE e nv most = true) : 1 ≤ e.length ∧ (e.length : Int) ≤ most := by
  unfold isE at h
  rw [Bool.and_eq_true] at h
  refine ⟨?_, by simpa using h.1⟩
  match e, h.2 with
  | [], h => simp [run] at h
  | _ :: _, _ => simp

def eOk (e : List Tm) : Bool := isE e 29 60

end Go.Proofs.YtkhifpgpkklokaaGreatDoor
