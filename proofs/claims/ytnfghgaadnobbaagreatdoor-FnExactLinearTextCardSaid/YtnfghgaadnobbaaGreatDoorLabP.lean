/-
  Names and labels, plainly; both sides' ways to read a label agree; what is made is read back.
-/
import Derived.Test.YtnfghgaadnobbaaGreatDoorSplitP
import Derived.Test.YtnfghgaadnobbaaGreatDoorAreV
namespace Go.Proofs.YtnfghgaadnobbaaGreatDoor

def sml (b : UInt8) : Bool := decide (97 ≤ b.toNat ∧ b.toNat ≤ 122)
def nameF (l : List UInt8) : Bool := decide (1 ≤ l.length) && decide (l.length ≤ 10) && sml (l.headD 0) && l.all (fun c => sml c || isDig c)
def tauL : List UInt8 := [116, 97, 117]
def actF (l : List UInt8) : Bool := nameF l && (l != tauL)
def txtV (vs : List Int) : List UInt8 := joinC 44 (vs.map Lib.itoa)
/-- the label with a name and values, if there is one. -/
def labT (name : List UInt8) (vs : List Int) : Option (List UInt8) :=
  if name = tauL then (if vs = [] then some tauL else none)
  else if actF name && decide (vs.length ≤ 2) && vs.all isV then some (if vs = [] then name else ((name ++ [40]) ++ txtV vs) ++ [41]) else none
/-- the name and the values of a label, read by the program. -/
def readF (s : List UInt8) : Option (List UInt8 × List Int) :=
  if (Lib.cut s [40]).2.2 then
    match numsF (splitC 44 (Lib.trimSuffix (Lib.cut s [40]).2.1 [41])) with
    | none => none
    | some vs => if labT (Lib.cut s [40]).1 vs = some s then some ((Lib.cut s [40]).1, vs) else none
  else if labT s [] = some s then some (s, []) else none

theorem name_char {l : List UInt8} (h : nameF l = true) (c : UInt8) (hc : sml c = false) (hd : isDig c = false) : c ∉ l := fun hm => by
  unfold nameF at h
  simp only [Bool.and_eq_true] at h
  have := List.all_eq_true.1 h.2 c hm
  rw [hc, hd] at this; cases this
theorem nameF_tau : nameF tauL = true := by decide
theorem actF_name {l : List UInt8} (h : actF l = true) : nameF l = true ∧ l ≠ tauL := by
  unfold actF at h
  rw [Bool.and_eq_true] at h
  exact ⟨h.1, by simpa using h.2⟩

theorem cut_none {s : List UInt8} (h : (40 : UInt8) ∉ s) : Lib.cut s [40] = (s, [], false) := by
  rcases index_cut 40 s with ⟨h1, -, -⟩ | ⟨i, -, -, h3, -, -⟩
  · simp [Lib.cut, h1]
  · exact absurd (List.mem_of_getElem? h3) h
theorem cut_at {p r : List UInt8} (h : (40 : UInt8) ∉ p) : Lib.cut (p ++ 40 :: r) [40] = (p, r, true) := by
  rcases index_cut 40 (p ++ 40 :: r) with ⟨-, h2, -⟩ | ⟨i, h1, h2, h3, h4, -⟩
  · exact absurd (by simp) h2
  · have hi : i = p.length := by
      rcases Nat.lt_trichotomy i p.length with h9 | h9 | h9
      · rw [List.getElem?_append_left h9] at h3
        exact absurd (List.mem_of_getElem? h3) h
      · exact h9
      · refine absurd ?_ h4
        rw [List.take_append, List.mem_append]
        right
        rw [show i - p.length = (i - p.length - 1) + 1 by omega, List.take_succ_cons]
        simp
    subst hi
    simp [Lib.cut, h1]

theorem trim_at (r : List UInt8) : Lib.trimSuffix (r ++ [41]) [41] = r := by
  simp [Lib.trimSuffix, Lib.hasSuffix]

theorem itoa_len64 {n : Int} (h : isV n = true) : (digL (Lib.itoa n)).length ≤ 18 := by
  have hb := inB_true h
  rcases itoa_shape n with ⟨h0, h1, h2⟩ | ⟨h0, h1, h2⟩
  · rw [h2]
    by_cases h9 : n.toNat < 10
    · rw [Lib.decDigits_one h9]; simp
    · rw [Lib.decDigits_two h9 (by omega)]; simp
  · omega

theorem readF_labT {name : List UInt8} {vs : List Int} {s : List UInt8} (h : labT name vs = some s) : readF s = some (name, vs) := by
  have hs := h
  unfold labT at h
  split at h
  · rename_i ht
    split at h
    · rename_i hv
      subst ht hv
      cases h
      have hc : (40 : UInt8) ∉ tauL := by decide
      simp only [readF, cut_none hc, Bool.false_eq_true, if_false, hs, if_true]
    · cases h
  · rename_i ht
    split at h
    · rename_i hc
      simp only [Bool.and_eq_true, decide_eq_true_eq] at hc
      obtain ⟨⟨ha, hl⟩, hv⟩ := hc
      have hno := name_char (actF_name ha).1 40 (by decide) (by decide)
      split at h
      · rename_i hve
        subst hve
        cases h
        simp only [readF, cut_none hno, Bool.false_eq_true, if_false, hs, if_true]
      · rename_i hve
        cases h
        have e : ((name ++ [40]) ++ txtV vs) ++ [41] = name ++ 40 :: (txtV vs ++ [41]) := by simp
        have hsp : splitC 44 (txtV vs) = vs.map Lib.itoa := by
          refine split_join 44 _ (by simpa using hve) (fun p hp => ?_)
          obtain ⟨n, -, rfl⟩ := List.mem_map.1 hp
          exact itoa_no n 44 (by decide) (by decide)
        have hnum := numsF_itoa vs (fun n hn => itoa_len64 (List.all_eq_true.1 hv n hn))
        unfold readF
        rw [e, cut_at hno]
        simp only [if_true, trim_at, hsp, hnum]
        rw [← e, if_pos hs]
    · cases h

theorem readF_some {s name : List UInt8} {vs : List Int} (h : readF s = some (name, vs)) : labT name vs = some s := by
  unfold readF at h
  split at h
  · split at h
    · cases h
    · split at h
      · rename_i h1; cases h; exact h1
      · cases h
  · split at h
    · rename_i h1; cases h; exact h1
    · cases h

end Go.Proofs.YtnfghgaadnobbaaGreatDoor
