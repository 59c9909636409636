/-
  Matrices of bools as functions, and the pairs that they list: plain facts.
-/
namespace Go.Proofs.Ytkcafdobiloeiaa

def mat (n : Nat) (f : Nat → Nat → Bool) : List (List Bool) := (List.range n).map fun i => (List.range n).map (f i)
def upd (f : Nat → Nat → Bool) (i j : Nat) (b : Bool) : Nat → Nat → Bool := fun i' j' => if i' = i ∧ j' = j then b else f i' j'
def flat (n : Nat) (f : Nat → Nat → Bool) : List Bool := (List.range (n * n)).map fun k => f (k / n) (k % n)

@[simp] theorem mat_length (n : Nat) (f : Nat → Nat → Bool) : (mat n f).length = n := by simp [mat]
theorem mat_row (n : Nat) (f : Nat → Nat → Bool) (i : Nat) (h : i < n) : (mat n f)[i]'(by simpa using h) = (List.range n).map (f i) := by simp [mat]
theorem mat_rowlen (n : Nat) (f : Nat → Nat → Bool) (i : Nat) (h : i < (mat n f).length) : ((mat n f)[i]'h).length = n := by simp [mat]
theorem mat_set (n : Nat) (f : Nat → Nat → Bool) (i j : Nat) (b : Bool) (hi : i < n) :
    (mat n f).set i (((mat n f)[i]'(by simpa using hi)).set j b) = mat n (upd f i j b) := by
  apply List.ext_getElem
  · simp
  · intro a h1 h2
    simp at h1
    rw [List.getElem_set]
    split
    · subst i
      apply List.ext_getElem
      · simp [mat]
      · intro c h3 h4
        simp [mat] at h3 h4
        rw [List.getElem_set]
        simp only [mat, List.getElem_map, List.getElem_range, upd, true_and]
        split
        · subst c; simp
        · rw [if_neg (by omega)]
    · rename_i hne
      simp only [mat, List.getElem_map, List.getElem_range]
      apply List.map_congr_left
      intro c _
      simp only [upd]
      rw [if_neg (by omega)]

@[simp] theorem flat_length (n : Nat) (f : Nat → Nat → Bool) : (flat n f).length = n * n := by simp [flat]
theorem idx_lt {n i j : Nat} (hi : i < n) (hj : j < n) : i * n + j < n * n := by
  have : (i + 1) * n ≤ n * n := Nat.mul_le_mul_right _ hi
  rw [Nat.add_mul] at this; omega
theorem idx_div {n i j : Nat} (hj : j < n) : (i * n + j) / n = i := by
  rw [Nat.mul_comm, Nat.mul_add_div (by omega), Nat.div_eq_of_lt hj, Nat.add_zero]
theorem idx_mod {n i j : Nat} (hj : j < n) : (i * n + j) % n = j := by
  rw [Nat.mul_comm, Nat.mul_add_mod, Nat.mod_eq_of_lt hj]
theorem flat_get (n : Nat) (f : Nat → Nat → Bool) (i j : Nat) (hi : i < n) (hj : j < n) : (flat n f)[i * n + j]? = some (f i j) := by
  simp [flat, idx_lt hi hj, idx_div hj, idx_mod hj]
theorem flat_set (n : Nat) (f : Nat → Nat → Bool) (i j : Nat) (b : Bool) (hj : j < n) :
    (flat n f).set (i * n + j) b = flat n (upd f i j b) := by
  apply List.ext_getElem
  · simp
  · intro k h1 h2
    simp at h1
    rw [List.getElem_set]
    simp only [flat, List.getElem_map, List.getElem_range, upd]
    split
    · subst k; rw [idx_div hj, idx_mod hj]; simp
    · rename_i hne
      rw [if_neg]
      rintro ⟨h3, h4⟩
      apply hne
      have := Nat.div_add_mod k n
      rw [h3, h4, Nat.mul_comm] at this
      exact this
theorem flat_false (n : Nat) : flat n (fun _ _ => false) = List.replicate (n * n) false := by
  apply List.ext_getElem <;> simp [flat]

theorem flat_false_map {β : Type} (g : Bool → β) (n : Nat) : List.replicate (n * n) (g false) = (flat n (fun _ _ => false)).map g := by
  rw [flat_false, List.map_replicate]

/-- the pairs of row i up to column k. -/
def rowTo (f : Nat → Nat → Bool) (i k : Nat) : List (List Int) := (List.range k).flatMap fun j => if f i j then [[(i : Int), (j : Int)]] else []
/-- the pairs of the rows up to i. -/
def allTo (n : Nat) (f : Nat → Nat → Bool) (i : Nat) : List (List Int) := (List.range i).flatMap fun a => rowTo f a n
theorem rowTo_succ (f : Nat → Nat → Bool) (i k : Nat) : rowTo f i (k + 1) = rowTo f i k ++ if f i k then [[(i : Int), (k : Int)]] else [] := by
  simp [rowTo, List.range_succ, List.flatMap_append]
theorem allTo_succ (n : Nat) (f : Nat → Nat → Bool) (i : Nat) : allTo n f (i + 1) = allTo n f i ++ rowTo f i n := by
  simp [allTo, List.range_succ, List.flatMap_append]
theorem rowTo_length (f : Nat → Nat → Bool) (i k : Nat) : (rowTo f i k).length ≤ k := by
  induction k with
  | zero => simp [rowTo]
  | succ k ih => rw [rowTo_succ, List.length_append]; split <;> simp <;> omega
theorem allTo_length (n : Nat) (f : Nat → Nat → Bool) (i : Nat) : (allTo n f i).length ≤ i * n := by
  induction i with
  | zero => simp [allTo]
  | succ i ih => rw [allTo_succ, List.length_append, Nat.add_mul]; have := rowTo_length f i n; omega
theorem rowTo_congr {f g : Nat → Nat → Bool} {i k : Nat} (h : ∀ j, j < k → f i j = g i j) : rowTo f i k = rowTo g i k := by
  induction k with
  | zero => rfl
  | succ k ih => rw [rowTo_succ, rowTo_succ, ih (fun j hj => h j (by omega)), h k (by omega)]
theorem allTo_congr {n : Nat} {f g : Nat → Nat → Bool} {i : Nat} (h : ∀ a j, a < i → j < n → f a j = g a j) : allTo n f i = allTo n g i := by
  induction i with
  | zero => rfl
  | succ i ih => rw [allTo_succ, allTo_succ, ih (fun a j ha hj => h a j (by omega) hj), rowTo_congr (fun j hj => h i j (by omega) hj)]

end Go.Proofs.Ytkcafdobiloeiaa
