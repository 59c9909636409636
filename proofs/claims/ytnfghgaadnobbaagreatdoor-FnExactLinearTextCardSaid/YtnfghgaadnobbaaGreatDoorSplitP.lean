/-
  Texts cut at a byte, plainly.
-/
import Derived.Test.YtnfghgaadnobbaaGreatDoorNumP
import Derived.Lib.Split
import Derived.Lib.Join
import Derived.Lib.Strings
namespace Go.Proofs.YtnfghgaadnobbaaGreatDoor

/-- a text cut at each byte c. -/
def splitC (c : UInt8) : List UInt8 → List (List UInt8)
  | [] => [[]]
  | b :: l => if b = c then [] :: splitC c l else (b :: (splitC c l).headD []) :: (splitC c l).tail

theorem splitC_ne (c : UInt8) (l : List UInt8) : splitC c l ≠ [] := by
  cases l with
  | nil => simp [splitC]
  | cons b l => rw [splitC]; split <;> simp
theorem splitC_cons (c b : UInt8) (l : List UInt8) (h : b ≠ c) : ∃ p ps, splitC c l = p :: ps ∧ splitC c (b :: l) = (b :: p) :: ps := by
  cases hs : splitC c l with
  | nil => exact absurd hs (splitC_ne c l)
  | cons p ps => exact ⟨p, ps, rfl, by rw [splitC, if_neg h, hs]; rfl⟩

theorem index_one (c : UInt8) (b : UInt8) (l : List UInt8) : Lib.index (b :: l) [c] = if b = c then 0 else if Lib.index l [c] = -1 then -1 else Lib.index l [c] + 1 := by
  rw [Lib.index]
  by_cases h : b = c
  · subst h; simp [List.isPrefixOf]
  · have h' : (c == b) = false := by simp; exact fun e => h e.symm
    simp [List.isPrefixOf, h, h']
theorem index_nil (c : UInt8) : Lib.index [] [c] = -1 := by simp [Lib.index]

/-- where the byte is first. -/
theorem index_cut (c : UInt8) : ∀ l : List UInt8, (Lib.index l [c] = -1 ∧ c ∉ l ∧ splitC c l = [l]) ∨
    (∃ i : Nat, Lib.index l [c] = i ∧ i < l.length ∧ l[i]? = some c ∧ c ∉ l.take i ∧ splitC c l = l.take i :: splitC c (l.drop (i + 1)))
  | [] => Or.inl ⟨index_nil c, by simp, rfl⟩
  | b :: l => by
    rw [index_one]
    by_cases h : b = c
    · subst h
      exact Or.inr ⟨0, by simp, by simp, by simp, by simp, by simp [splitC]⟩
    · rw [if_neg h]
      obtain ⟨p, ps, e1, e2⟩ := splitC_cons c b l h
      rcases index_cut c l with ⟨h1, h2, h3⟩ | ⟨i, h1, h2, h3, h4, h5⟩
      · refine Or.inl ⟨by rw [if_pos h1], by simp [h2]; exact fun e => h e.symm, ?_⟩
        rw [e2]; rw [h3] at e1; cases e1; rfl
      · refine Or.inr ⟨i + 1, by rw [h1, if_neg (by omega)]; omega, by simpa using h2, by simpa using h3, by simp [h4]; exact fun e => h e.symm, ?_⟩
        rw [e2]; rw [h5] at e1; cases e1; rfl

theorem split_eq (c : UInt8) : ∀ (fuel : Nat) (l : List UInt8), l.length < fuel → Lib.splitK [c] 0 (Lib.countFrom [c] fuel l) l = splitC c l
  | 0, l, h => by omega
  | fuel + 1, l, h => by
    rw [Lib.countFrom]
    rcases index_cut c l with ⟨h1, h2, h3⟩ | ⟨i, h1, h2, h3, h4, h5⟩
    · rw [h1, h3]; rfl
    · rw [h1, if_neg (by simp), Nat.add_comm, Lib.splitK, h1, if_neg (by simp)]
      have e : ((i : Int).toNat) = i := by omega
      rw [e, Nat.add_zero, h5]
      have := split_eq c fuel (l.drop (i + 1)) (by rw [List.length_drop]; omega)
      simp only [List.length_cons, List.length_nil, Nat.zero_add]
      rw [this]
theorem split_lib (c : UInt8) (l : List UInt8) : Lib.split l [c] = splitC c l := split_eq c _ l (by omega)

/-- texts with a byte between two. -/
def joinC (c : UInt8) : List (List UInt8) → List UInt8
  | [] => []
  | [p] => p
  | p :: q :: ps => p ++ c :: joinC c (q :: ps)
theorem join_lib (c : UInt8) : ∀ ps : List (List UInt8), Lib.join ps [c] = joinC c ps
  | [] => rfl
  | [p] => by simp [Lib.join, joinC, List.intercalate, List.intersperse]
  | p :: q :: ps => by
    have := join_lib c (q :: ps)
    simp only [Lib.join, List.intercalate] at this ⊢
    rw [List.intersperse_cons_cons, List.flatten_cons, List.flatten_cons, this, joinC]; rfl

theorem join_split (c : UInt8) : ∀ l : List UInt8, joinC c (splitC c l) = l
  | [] => rfl
  | b :: l => by
    have ih := join_split c l
    by_cases h : b = c
    · subst h
      cases hs : splitC b l with
      | nil => exact absurd hs (splitC_ne b l)
      | cons p ps =>
        rw [hs] at ih
        simp only [splitC, if_true, hs, joinC, List.nil_append, ih]
    · obtain ⟨p, ps, e1, e2⟩ := splitC_cons c b l h
      rw [e1] at ih
      rw [e2]
      cases ps with
      | nil => simp only [joinC] at ih ⊢; rw [ih]
      | cons q qs => simp only [joinC] at ih ⊢; rw [List.cons_append, ih]

theorem split_none (c : UInt8) (l : List UInt8) (h : c ∉ l) : splitC c l = [l] := by
  rcases index_cut c l with ⟨-, -, h3⟩ | ⟨i, -, -, h3, -, -⟩
  · exact h3
  · exact absurd (List.mem_of_getElem? h3) h
theorem split_app (c : UInt8) (p l : List UInt8) (h : c ∉ p) : splitC c (p ++ c :: l) = p :: splitC c l := by
  induction p with
  | nil => simp [splitC]
  | cons b p ih =>
    simp only [List.mem_cons, not_or] at h
    rw [List.cons_append, splitC, if_neg (fun e => h.1 e.symm), ih h.2]; rfl
theorem split_join (c : UInt8) : ∀ ps : List (List UInt8), ps ≠ [] → (∀ p ∈ ps, c ∉ p) → splitC c (joinC c ps) = ps
  | [], h, _ => absurd rfl h
  | [p], _, h => split_none c p (h p (by simp))
  | p :: q :: ps, _, h => by
    rw [joinC, split_app c p _ (h p (by simp)), split_join c (q :: ps) (by simp) (fun x hx => h x (List.mem_cons_of_mem _ hx))]

/-- the numbers that texts spell, where each spells one. -/
def numsF : List (List UInt8) → Option (List Int)
  | [] => some []
  | p :: ps => match numF p with
    | none => none
    | some n => match numsF ps with
      | none => none
      | some ns => some (n :: ns)

theorem numsF_some : ∀ {ps : List (List UInt8)} {ns : List Int}, numsF ps = some ns → ps = ns.map Lib.itoa ∧ (∀ n ∈ ns, n.natAbs < 10 ^ 18)
  | [], ns, h => by simp [numsF] at h; subst h; simp
  | p :: ps, ns, h => by
    rw [numsF] at h
    cases hp : numF p with
    | none => rw [hp] at h; cases h
    | some n =>
      rw [hp] at h
      cases hps : numsF ps with
      | none => rw [hps] at h; cases h
      | some ms =>
        rw [hps] at h
        cases h
        obtain ⟨h1, -, h3⟩ := numF_some hp
        obtain ⟨h4, h5⟩ := numsF_some hps
        exact ⟨by rw [List.map_cons, ← h1, ← h4], fun x hx => by
          rcases List.mem_cons.1 hx with rfl | hx
          · exact h3
          · exact h5 x hx⟩
theorem numsF_itoa : ∀ ns : List Int, (∀ n ∈ ns, (digL (Lib.itoa n)).length ≤ 18) → numsF (ns.map Lib.itoa) = some ns
  | [], _ => rfl
  | n :: ns, h => by
    rw [List.map_cons, numsF, numF_itoa n (h n (by simp)), numsF_itoa ns (fun x hx => h x (List.mem_cons_of_mem _ hx))]

theorem dec_no (u : Nat) (c : UInt8) (h : isDig c = false) : c ∉ Lib.decDigits u := fun hm => by
  have := List.all_eq_true.1 (dec_digits u) c hm
  rw [h] at this; cases this
theorem itoa_no (n : Int) (c : UInt8) (h : isDig c = false) (h2 : c ≠ 45) : c ∉ Lib.itoa n := by
  unfold Lib.itoa
  split
  · rw [List.mem_cons, not_or]; exact ⟨h2, dec_no _ c h⟩
  · exact dec_no _ c h

end Go.Proofs.YtnfghgaadnobbaaGreatDoor
