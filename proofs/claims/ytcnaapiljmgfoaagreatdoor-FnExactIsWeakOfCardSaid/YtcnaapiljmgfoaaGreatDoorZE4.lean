/-
  Texts joined in one file: BisF, BisV, SortG, BisN, BisX, BisWS, BisZ, BisWT, BisP, BisA, BisB, BisE.
-/
import Derived.Test.YtcnaapiljmgfoaaGreatDoorZE1
import Derived.Test.YtcnaapiljmgfoaaGreatDoorZE2
import Derived.Test.YtcnaapiljmgfoaaGreatDoorZE3
import Derived.Test.YtcnaapiljmgfoaaGreatDoorShelfS
import Derived.Deep.RegionLaw
/-
  Relations between systems: the states that an edge with a label leads to; the plain part.
-/
namespace Go.Proofs.YtcnaapiljmgfoaaGreatDoor
open Go.RowKit

theorem bl_irr : ∀ a : List UInt8, bl a a = false
  | [] => rfl
  | x :: xs => by
    have ih := bl_irr xs
    unfold bl at ih ⊢
    simp only [Op.bytesLess]
    simp [ih]
theorem bl_trans : ∀ a b c : List UInt8, bl a b = true → bl b c = true → bl a c = true
  | [], [], _, h, _ => by simp [bl, Op.bytesLess] at h
  | [], _ :: _, [], _, h => by simp [bl, Op.bytesLess] at h
  | [], _ :: _, _ :: _, _, _ => by simp [bl, Op.bytesLess]
  | _ :: _, [], _, h, _ => by simp [bl, Op.bytesLess] at h
  | _ :: _, _ :: _, [], _, h => by simp [bl, Op.bytesLess] at h
  | x :: xs, y :: ys, z :: zs, h1, h2 => by
    have ih := bl_trans xs ys zs
    unfold bl at *
    simp only [Op.bytesLess, Bool.or_eq_true, Bool.and_eq_true, decide_eq_true_eq, beq_iff_eq] at h1 h2 ⊢
    rcases h1 with h1 | ⟨h1, g1⟩ <;> rcases h2 with h2 | ⟨h2, g2⟩
    · exact Or.inl (UInt8.lt_trans h1 h2)
    · exact Or.inl (h2 ▸ h1)
    · exact Or.inl (h1 ▸ h2)
    · exact Or.inr ⟨h1.trans h2, ih g1 g2⟩

/-- the labels of a valid system differ. -/
theorem labs_inj {labs : List (List UInt8)} (h : labsOk labs = true) : ∀ i j : Nat, i < labs.length → j < labs.length → labs.getD i [] = labs.getD j [] → i = j := by
  unfold labsOk at h
  simp only [Bool.and_eq_true] at h
  have hall := allF_get h.2
  have h0 : ∀ i, i < labs.length → labs.getD i [] = tauL → i = 0 := by
    intro i hi he
    have := hall i (by omega) (by omega)
    unfold labP at this
    simp only [Bool.and_eq_true, beq_iff_eq] at this
    have h1 := this.1.2
    rw [beq_iff_eq.2 he] at h1
    exact of_decide_eq_true h1.symm
  have ht : 0 < labs.length → labs.getD 0 [] = tauL := by
    intro hi
    have := hall 0 (by omega) (by omega)
    unfold labP at this
    simp only [Bool.and_eq_true, beq_iff_eq] at this
    have h1 := this.1.2
    simpa using h1
  have hlt : ∀ d i, 1 ≤ i → i + d + 1 < labs.length → bl (labs.getD i []) (labs.getD (i + d + 1) []) = true := by
    intro d
    induction d with
    | zero =>
      intro i h1 h2
      have := hall (i + 1) (by omega) (by omega)
      unfold labP at this
      simp only [Bool.and_eq_true] at this
      have h3 := this.2
      rw [decide_eq_true (show 1 < i + 1 by omega)] at h3
      simpa using h3
    | succ d ih =>
      intro i h1 h2
      have g1 := ih i h1 (by omega)
      have := hall (i + (d + 1) + 1) (by omega) (by omega)
      unfold labP at this
      simp only [Bool.and_eq_true] at this
      have h3 := this.2
      rw [decide_eq_true (show 1 < i + (d + 1) + 1 by omega)] at h3
      rw [show i + (d + 1) + 1 - 1 = i + d + 1 by omega] at h3
      exact bl_trans _ _ _ g1 (by simpa using h3)
  have main : ∀ i j, i < j → j < labs.length → labs.getD i [] ≠ labs.getD j [] := by
    intro i j hij hj he
    by_cases hi : i = 0
    · subst hi
      have := h0 j hj (he ▸ ht (by omega))
      omega
    · have := hlt (j - i - 1) i (by omega) (by omega)
      rw [show i + (j - i - 1) + 1 = j by omega, he, bl_irr] at this
      exact absurd this (by simp)
  intro i j hi hj he
  rcases Nat.lt_trichotomy i j with h | h | h
  · exact absurd he (main i j h hj)
  · exact h
  · exact absurd he.symm (main j i h hi)

theorem edLt_iff (a b : Ed) : edLt a b = true ↔ (a.fr < b.fr ∨ (a.fr = b.fr ∧ (a.lb < b.lb ∨ (a.lb = b.lb ∧ a.to < b.to)))) := by
  unfold edLt
  split
  · rw [decide_eq_true_iff]; omega
  · split
    · rw [decide_eq_true_iff]; omega
    · rw [decide_eq_true_iff]; omega
theorem edLt_trans {a b c : Ed} (h1 : edLt a b = true) (h2 : edLt b c = true) : edLt a c = true := by
  rw [edLt_iff] at *
  omega
theorem eds_pair {x : Sys} (h : sysOk x = true) : x.eds.Pairwise (fun a b => edLt a b = true) := by
  unfold sysOk at h
  simp only [Bool.and_eq_true] at h
  have hall := allF_get h.2
  have hlt : ∀ d i (h1 : i + d + 1 < x.eds.length), edLt x.eds[i] x.eds[i + d + 1] = true := by
    intro d
    induction d with
    | zero =>
      intro i h1
      have := hall (i + 1) (by omega) (by omega)
      rw [edP_at _ _ (by omega)] at this
      simp only [Bool.and_eq_true] at this
      have h3 := this.2
      rw [decide_eq_false (show ¬ i + 1 = 0 by omega)] at h3
      simp only [Bool.false_or, Nat.add_sub_cancel] at h3
      rw [List.getD_eq_getElem?_getD, List.getElem?_eq_getElem (by omega)] at h3
      exact h3
    | succ d ih =>
      intro i h1
      have g1 := ih i (by omega)
      have := hall (i + (d + 1) + 1) (by omega) (by omega)
      rw [edP_at _ _ (by omega)] at this
      simp only [Bool.and_eq_true] at this
      have h3 := this.2
      rw [decide_eq_false (show ¬ i + (d + 1) + 1 = 0 by omega)] at h3
      simp only [Bool.false_or, Nat.add_sub_cancel] at h3
      rw [List.getD_eq_getElem?_getD, List.getElem?_eq_getElem (by omega)] at h3
      exact edLt_trans g1 h3
  rw [List.pairwise_iff_getElem]
  intro i j hi hj hij
  have := hlt (j - i - 1) i (by omega)
  simp only [show i + (j - i - 1) + 1 = j by omega] at this
  exact this

def folP (T : Sys) (ys : List Int) (s : List UInt8) (e : Ed) : Bool := T.labs.getD e.lb.toNat [] == s && ys.contains e.fr
/-- the states to which edges with a label lead from states. -/
def folF (T : Sys) (ys : List Int) (s : List UInt8) : List Int := (T.eds.filter (folP T ys s)).map Ed.to
theorem folF_rising {T : Sys} (h : sysOk T = true) (y : Int) (s : List UInt8) : Rising (folF T [y] s) := by
  have hp : (folF T [y] s).Pairwise (· < ·) := by
    unfold folF
    rw [List.pairwise_map]
    have h1 := (eds_pair h).filter (folP T [y] s)
    refine List.Pairwise.imp_of_mem ?_ h1
    intro a b ha hb hlt
    rw [List.mem_filter] at ha hb
    obtain ⟨ha, qa⟩ := ha
    obtain ⟨hb, qb⟩ := hb
    unfold folP at qa qb
    simp only [Bool.and_eq_true, beq_iff_eq, List.contains_cons, List.contains_nil, Bool.or_false] at qa qb
    have la := sys_labs h a ha
    have lb := sys_labs h b hb
    have hl : labsOk T.labs = true := by
      unfold sysOk at h
      simp only [Bool.and_eq_true] at h
      exact h.1.1.2
    have hi := labs_inj hl a.lb.toNat b.lb.toNat (by omega) (by omega) (qa.1.trans qb.1.symm)
    unfold edLt at hlt
    have e1 : a.fr = b.fr := qa.2.trans qb.2.symm
    have e2 : a.lb = b.lb := by omega
    simpa [e1, e2] using hlt
  intro i j hi hj hij
  exact List.pairwise_iff_getElem.1 hp i j hi hj hij
theorem folF_le {T : Sys} (h : sysOk T = true) (y : Int) (s : List UInt8) : (folF T [y] s).length ≤ 40 := by
  have hr := folF_rising h y s
  have hb : ∀ z ∈ folF T [y] s, 0 ≤ z ∧ z ≤ 39 := by
    intro z hz
    unfold folF at hz
    rw [List.mem_map] at hz
    obtain ⟨e, he, rfl⟩ := hz
    rw [List.mem_filter] at he
    have hst := (sys_parts h).1
    unfold sysOk at h
    simp only [Bool.and_eq_true] at h
    obtain ⟨i, hi, rfl⟩ := List.getElem_of_mem he.1
    have := allF_get h.2 i (by omega) (by omega)
    rw [edP_at _ _ hi] at this
    simp only [Bool.and_eq_true] at this
    have r3 := inB_true this.1.1.2
    omega
  generalize folF T [y] s = L at *
  have hge : ∀ i (hi : i < L.length), (i : Int) ≤ L[i] := by
    intro i
    induction i with
    | zero => intro hi; have := hb L[0] (List.getElem_mem hi); omega
    | succ i ih => intro hi; have g1 := ih (by omega); have g2 := hr i (i + 1) (by omega) hi (by omega); omega
  by_cases h0 : L.length = 0
  · omega
  · have g1 := hge (L.length - 1) (by omega)
    have g2 := hb L[L.length - 1] (List.getElem_mem _)
    omega

end Go.Proofs.YtcnaapiljmgfoaaGreatDoor

/-
  Relations between systems, the program's follow: its result is sorted already.
-/
namespace Go.Proofs.YtcnaapiljmgfoaaGreatDoor
open Go.RowKit

end Go.Proofs.YtcnaapiljmgfoaaGreatDoor

/-
  The library's sort of numbers, at whatever list (the shelf's contract, told as a reading).
-/
namespace Go.Proofs.YtcnaapiljmgfoaaGreatDoor
open Go.RowKit

theorem flatG (xs : List Int) : xs.flatMap (fun n => [ei n]) = xs.map ei := by
  induction xs with
  | nil => rfl
  | cons x xs ih => rw [List.flatMap_cons, ih]; rfl
def leZ (x y : Int) : Bool := decide (x ≤ y)
theorem sortAllI (v : Value) (xs : List Int) (w : World) (fp : List Nat) (hR : R1 fp w [v] xs) (hO : Own fp w) (hm : xs.length ≤ 1000000) :
    Calls Tryz.prog 95 #[v] w fun e w' => e = .returned (.tuple #[]) ∧ R1 fp w' [v] (xs.mergeSort leZ) ∧ Own fp w' ∧ Upd fp w w' := by
  by_cases h0 : xs = []
  · subst h0
    obtain ⟨a, cap, rfl, -, -, -⟩ := slF1_open hR
    refine (Tryz.slices_Sort_int_none a cap w).mono ?_
    rintro e w' ⟨rfl, rfl⟩
    exact ⟨rfl, by simpa using hR, hO, Upd.refl _ _⟩
  · obtain ⟨v', hv, a, cap, rfl, h1, h2, h3, h4⟩ := hR
    cases hv
    rcases h4 with ⟨h4, -⟩ | ⟨b, off, rfl, rfl, hb, hc⟩
    · exact absurd (List.length_eq_zero_iff.1 h4) h0
    · have hH : Go.Sort.Holds (Value.int .i64) w b off xs.toArray := by
        intro j hj
        have hj' : j < xs.length := by simpa using hj
        refine ⟨?_, hO.frozen (by simp) _⟩
        rw [hc j (ei xs[j]) (by
          rw [flatG]; simp [hj'])]
        rw [getElem!_pos _ j hj]
        simp [ei]
      refine (Tryz.slices_Sort_int b off cap xs w hH hb (by omega)).mono ?_
      rintro e w' ⟨rfl, n, os, rfl⟩
      have hl : (xs.mergeSort fun x y => decide (x ≤ y)).length = xs.length := List.length_mergeSort _
      have hu : Upd [b] w (Go.Sort.grow (Go.Sort.putRow (Value.int .i64) (Go.Sort.ahead w n) b off (xs.mergeSort fun x y => decide (x ≤ y)).toArray) os) := by
        refine ⟨rfl, rfl, rfl, by simp [Go.Sort.ahead], fun k hk hne => ?_⟩
        rw [Go.Sort.heap_grow_old _ _ (by simpa [Go.Sort.ahead] using hk)]
        have : b ≠ k := fun e => hne (by simp [e])
        simp [Go.Sort.putRow, Go.Sort.mapBlock, Go.Sort.ahead, Array.getElem?_modify, this]
      refine ⟨rfl, ?_, ⟨hO.1, fun b' hb' => ?_⟩, hu⟩
      · refine ⟨_, rfl, some ⟨b, off, none⟩, cap, ?_, ?_, h2, ?_, Or.inr ⟨b, off, rfl, rfl, Nat.lt_of_lt_of_le hb hu.size, fun j u hj => ?_⟩⟩
        · show Value.slice _ _ _ = Value.slice _ _ _
          rw [show (xs.mergeSort leZ).length = xs.length from List.length_mergeSort _]
        · rw [show (xs.mergeSort leZ).length = xs.length from List.length_mergeSort _]; exact h1
        · rw [flatG]; simp
        · rw [flatG] at hj
          have hj2 : j < xs.length := by
            have := (List.getElem?_eq_some_iff.1 hj).1
            simp only [List.length_map] at this
            rw [show (xs.mergeSort leZ).length = xs.length from List.length_mergeSort _] at this
            exact this
          rw [Go.Sort.cell?_grow _ _ _ (by simpa [Go.Sort.ahead] using hb)]
          have hc2 := Go.Sort.cell?_putRow (Value.int .i64) (Go.Sort.ahead w n) b off xs.toArray (xs.mergeSort fun x y => decide (x ≤ y)).toArray hH (by simp [hl]) j (by simpa [hl] using hj2)
          rw [hc2, ← hj, getElem!_pos _ j (by simpa [hl] using hj2)]
          rw [List.getElem?_map, List.getElem?_eq_getElem (by rw [show (xs.mergeSort leZ).length = xs.length from List.length_mergeSort _]; exact hj2)]
          simp [ei]
          rfl
      · obtain rfl : b' = b := by simpa using hb'
        obtain ⟨c, t, hct⟩ := hO.2 b' (by simp)
        refine ⟨Go.Sort.putCells (Value.int .i64) off (xs.mergeSort fun x y => decide (x ≤ y)).toArray c, t, ?_⟩
        rw [Go.Sort.heap_grow_old _ _ (by simpa [Go.Sort.ahead] using hb)]
        simp [Go.Sort.putRow, Go.Sort.mapBlock, Go.Sort.ahead, Array.getElem?_modify, hct, Go.Sort.onCells]

theorem ownLt {w : World} {v : Value} {xs : List Int} {fp : List Nat} (hR : R1 fp w [v] xs) (hne : xs ≠ []) : ∃ b off cap, v = .slice (some ⟨b, off, none⟩) xs.length cap ∧ fp = [b] ∧ xs.length ≤ cap ∧ cap ≤ maxLen ∧ b < w.heap.size ∧ ∀ j u, (xs.map ei)[j]? = some u → w.cell? ⟨b, off + j, none⟩ = some u := by
  obtain ⟨v', hv, a, cap, rfl, h1, h2, h3, h4⟩ := hR
  cases hv
  rcases h4 with ⟨h4, -⟩ | ⟨b, off, rfl, rfl, hb, hc⟩
  · exact absurd (List.length_eq_zero_iff.1 h4) hne
  · rw [flatG] at hc
    exact ⟨b, off, cap, rfl, rfl, h1, h2, hb, hc⟩

/-- a list without what follows upon its like. -/
def cmpF (xs : List Int) : List Int := Lib.compactUpTo xs.toArray xs.length
theorem cmp_mem (d : Array Int) : ∀ m, m ≤ d.size → ∀ y, y ∈ Lib.compactUpTo d m ↔ ∃ j, j < m ∧ d[j]! = y
  | 0, _, y => by simp [Lib.compactUpTo]
  | m + 1, h, y => by
    have ih := cmp_mem d m (by omega) y
    rw [Lib.compactUpTo_succ, List.mem_append, ih]
    cases hk : Lib.keeps d m with
    | true =>
      simp only [if_true, List.mem_singleton]
      constructor
      · rintro (⟨j, h1, h2⟩ | rfl)
        · exact ⟨j, by omega, h2⟩
        · exact ⟨m, by omega, rfl⟩
      · rintro ⟨j, h1, h2⟩
        by_cases e : j = m
        · subst e; exact Or.inr h2.symm
        · exact Or.inl ⟨j, by omega, h2⟩
    | false =>
      simp only [Bool.false_eq_true, if_false, List.not_mem_nil, or_false]
      constructor
      · rintro ⟨j, h1, h2⟩; exact ⟨j, by omega, h2⟩
      · rintro ⟨j, h1, h2⟩
        by_cases e : j = m
        · subst e
          unfold Lib.keeps at hk
          simp at hk
          exact ⟨j - 1, by omega, by rw [← h2]; exact hk.2.symm⟩
        · exact ⟨j, by omega, h2⟩
theorem cmp_pair (d : Array Int) (hs : ∀ i j, i ≤ j → j < d.size → d[i]! ≤ d[j]!) : ∀ m, m ≤ d.size → (Lib.compactUpTo d m).Pairwise (· < ·)
  | 0, _ => by simp [Lib.compactUpTo]
  | m + 1, h => by
    have ih := cmp_pair d hs m (by omega)
    rw [Lib.compactUpTo_succ]
    cases hk : Lib.keeps d m with
    | false => simpa using ih
    | true =>
      rw [if_pos rfl, List.pairwise_append]
      refine ⟨ih, by simp, ?_⟩
      intro a ha b hb
      obtain rfl : b = d[m]! := by simpa using hb
      obtain ⟨j, h1, rfl⟩ := (cmp_mem d m (by omega) a).1 ha
      have h2 := hs j (m - 1) (by omega) (by omega)
      have h3 := hs (m - 1) m (by omega) (by omega)
      have h4 : d[m]! ≠ d[m - 1]! := by
        unfold Lib.keeps at hk
        simp at hk
        rcases hk with hk | hk
        · omega
        · exact hk
      omega
/-- sorted, each once. -/
def setF (xs : List Int) : List Int := cmpF (xs.mergeSort leZ)
theorem setF_mem (xs : List Int) (y : Int) : y ∈ setF xs ↔ y ∈ xs := by
  unfold setF cmpF
  rw [cmp_mem _ _ (by simp)]
  have : (∃ j, j < (xs.mergeSort leZ).length ∧ (xs.mergeSort leZ).toArray[j]! = y) ↔ y ∈ xs.mergeSort leZ := by
    rw [List.mem_iff_getElem]
    constructor
    · rintro ⟨j, h1, h2⟩
      refine ⟨j, h1, ?_⟩
      rw [getElem!_pos _ j (by simpa using h1)] at h2
      simpa using h2
    · rintro ⟨j, h1, h2⟩
      refine ⟨j, h1, ?_⟩
      rw [getElem!_pos _ j (by simpa using h1)]
      simpa using h2
  rw [this]
  exact (List.mergeSort_perm xs leZ).mem_iff
theorem setF_pair (xs : List Int) : (setF xs).Pairwise (· < ·) := by
  refine cmp_pair _ ?_ _ (by simp)
  intro i j hij hj
  have hj' : j < (xs.mergeSort leZ).length := by simpa using hj
  rw [getElem!_pos _ i (by simpa using (show i < (xs.mergeSort leZ).length by omega)), getElem!_pos _ j hj]
  have hp : (xs.mergeSort leZ).Pairwise (fun a b => leZ a b = true) := List.pairwise_mergeSort (fun a b c h1 h2 => by unfold leZ at *; simp at *; omega) (fun a b => by unfold leZ; simp; omega) xs
  by_cases e : i = j
  · subst e; exact Int.le_refl _
  · have := List.pairwise_iff_getElem.1 hp i j (by omega) hj' (by omega)
    show (xs.mergeSort leZ)[i] ≤ (xs.mergeSort leZ)[j]
    exact of_decide_eq_true this

/-- a slice that points to an element of a block, if to anything. -/
def NoSpot (v : Value) : Prop := ∀ p n c, v = .slice (some p) n c → p.spot = none
theorem NoSpot.mk (b off n c : Nat) : NoSpot (.slice (some ⟨b, off, none⟩) n c) := by
  intro p n' c' h; cases h; rfl
theorem NoSpot.none' (n c : Nat) : NoSpot (.slice none n c) := by
  intro p n' c' h; cases h
theorem compactAllI (v : Value) (xs : List Int) (w : World) (fp : List Nat) (hR : R1 fp w [v] xs) (hO : Own fp w) (hm : xs.length ≤ 1000000) (hsp : NoSpot v) :
    Calls Tryz.prog 96 #[v] w fun e w' => (∃ v', e = .returned v' ∧ R1 fp w' [v'] (cmpF xs) ∧ NoSpot v') ∧ Own fp w' ∧ Upd fp w w' := by
  by_cases h0 : xs = []
  · subst h0
    refine (compactI v [] w fp hR (fun i j hi => by simp at hi) (by simp)).mono ?_
    rintro e w' ⟨rfl, n, rfl⟩
    exact ⟨⟨v, rfl, R1k.upd hR ((Upd.refl [] w).drewN n) (by simp), hsp⟩, hO.upd ((Upd.refl [] w).drewN n) (by simp), (Upd.refl _ _).drewN n⟩
  · obtain ⟨b, off, cap, rfl, rfl, h1, h2, hb, hc⟩ := ownLt hR h0
    have hH : Go.Sort.Holds ei w b off xs.toArray := by
      intro j hj
      have hj' : j < xs.length := by simpa using hj
      refine ⟨?_, hO.frozen (by simp) _⟩
      rw [hc j (ei xs[j]) (by simp [hj']), getElem!_pos _ j hj]
      simp
    have hcl : (Lib.compactUpTo xs.toArray xs.toArray.size).length ≤ xs.length := by
      unfold Lib.compactUpTo
      rw [List.length_map]
      refine Nat.le_trans (List.length_filter_le _ _) ?_
      simp
    refine (Tryz.slices_Compact (α := Int) ei (fun _ => rfl) (EqlAt.intD _ _ _) (NeqAt.intD _ _ _) 0 (fun w => by kernel_rfl) b off cap xs.toArray w hH (by simp; omega) (by simpa using h1)).mono ?_
    rintro e w' ⟨rfl, n, rfl⟩
    have hxs : xs.toArray.size = xs.length := by simp
    rw [hxs] at hcl ⊢
    have hcc : Lib.compactUpTo xs.toArray xs.length = cmpF xs := rfl
    rw [hcc] at hcl ⊢
    have hsz : (cmpF xs ++ List.replicate (xs.length - (cmpF xs).length) 0).toArray.size = xs.toArray.size := by simp; omega
    have hu : Upd [b] w (Go.Sort.putRow ei (Go.Sort.ahead w n) b off (cmpF xs ++ List.replicate (xs.length - (cmpF xs).length) 0).toArray) := by
      refine ⟨rfl, rfl, rfl, by simp [Go.Sort.ahead], fun k hk hne => ?_⟩
      have : b ≠ k := fun e => hne (by simp [e])
      simp [Go.Sort.putRow, Go.Sort.mapBlock, Go.Sort.ahead, Array.getElem?_modify, this]
    refine ⟨⟨_, rfl, ⟨_, rfl, some ⟨b, off, none⟩, cap, rfl, by omega, h2, by rw [flatG]; simp, Or.inr ⟨b, off, rfl, rfl, Nat.lt_of_lt_of_le hb hu.size, fun j u hj => ?_⟩⟩, NoSpot.mk _ _ _ _⟩, ⟨hO.1, fun b' hb' => ?_⟩, hu⟩
    · rw [flatG] at hj
      have hj2 : j < (cmpF xs).length := by
        have := (List.getElem?_eq_some_iff.1 hj).1
        simpa using this
      have hj3 : j < (cmpF xs ++ List.replicate (xs.length - (cmpF xs).length) 0).toArray.size := by simp; omega
      rw [Go.Sort.cell?_putRow ei (Go.Sort.ahead w n) b off xs.toArray _ hH hsz j hj3, ← hj, getElem!_pos _ j hj3]
      rw [List.getElem?_map, List.getElem?_eq_getElem hj2]
      simp [List.getElem_append_left hj2]
    · obtain rfl : b' = b := by simpa using hb'
      obtain ⟨c, t, hct⟩ := hO.2 b' (by simp)
      refine ⟨Go.Sort.putCells ei off (cmpF xs ++ List.replicate (xs.length - (cmpF xs).length) 0).toArray c, t, ?_⟩
      simp [Go.Sort.putRow, Go.Sort.mapBlock, Go.Sort.ahead, Array.getElem?_modify, hct, Go.Sort.onCells]

/-- a copy of its own. -/
theorem cloneZ (v : Value) (xs : List Int) (w : World) (fp : List Nat) (hR : R1 fp w [v] xs) (hm : xs.length ≤ 1000000) (hsp : NoSpot v) :
    Calls Tryz.prog 99 #[v] w fun e w' => (∃ v', e = .returned v' ∧ w'.ownsRow w.heap.size 2 1 v' xs.length (xs.map ei)) ∧ Upd [] w w' := by
  obtain ⟨i1, ki, kz0, kz1, kz2⟩ := info_parts Tryz.info2
  obtain ⟨a, cap, rfl, h1, h2, hc⟩ := slF1_open hR
  unfold maxLen at h2
  cases a with
  | none =>
    have h0 : xs = [] := by
      cases xs with
      | nil => rfl
      | cons x l => obtain ⟨b, off, hx, -⟩ := hc 0 (by simp); cases hx
    subst h0
    refine (Tryz.slices_Clone_nil _ cap w).mono ?_
    rintro e w' ⟨rfl, rfl⟩
    exact ⟨⟨_, rfl, World.ownsRow_nil _ _ _ _⟩, Upd.refl _ _⟩
  | some p =>
    obtain ⟨b, off, rfl⟩ : ∃ b off, p = ⟨b, off, none⟩ := by
      have := hsp p _ _ rfl
      obtain ⟨b, off, sp⟩ := p
      simp only at this
      subst this
      exact ⟨b, off, rfl⟩
    have hcell : ∀ j u, (xs.map ei)[j]? = some u → w.cell? ⟨b, off + j, none⟩ = some u := by
      intro j u hj
      have hj2 : j < xs.length := by
        have := (List.getElem?_eq_some_iff.1 hj).1
        simpa using this
      obtain ⟨b', off', h9, -, -, hcc⟩ := hc j hj2
      cases h9
      rw [hcc, ← hj, List.getElem?_map, List.getElem?_eq_getElem hj2]; rfl
    refine (Tryz.slices_Clone i1 (.int .i64 0) 1 8 ki kz0 kz1 kz2 rfl (by decide) (fun w => by kernel_rfl) b off xs.length cap (xs.map ei) w (by simp) (by unfold maxLen; omega) (by omega) hcell (by simp [Value.oneCell'])).mono ?_
    rintro e w' ⟨v', rfl, hown, -, hb⟩
    exact ⟨⟨v', rfl, hown⟩, Upd.ofBelow hb⟩

end Go.Proofs.YtcnaapiljmgfoaaGreatDoor

/-
  Relations between systems, the program's follow at whatever states; the states that internal edges reach.
-/
namespace Go.Proofs.YtcnaapiljmgfoaaGreatDoor
open Go.RowKit

theorem folF_stepG (T : Sys) (ys : List Int) (s : List UInt8) (i : Nat) (h : i < T.eds.length) :
    ((T.eds.take (i + 1)).filter (folP T ys s)).map Ed.to = ((T.eds.take i).filter (folP T ys s)).map Ed.to ++ (if folP T ys s T.eds[i] then [T.eds[i].to] else []) := by
  rw [List.take_succ_eq_append_getElem h, List.filter_append, List.map_append]
  congr 1
  cases hp : folP T ys s T.eds[i] <;> simp [hp]
theorem ownsRow_noSpot {w : World} {base n sz : Nat} {e : TypeId} {v : Value} {xs : List Value} (h : w.ownsRow base e sz v n xs) : NoSpot v := by
  obtain ⟨-, ⟨rfl, -⟩ | ⟨g, cap, cs, rfl, -⟩⟩ := h
  · exact NoSpot.none' _ _
  · exact NoSpot.mk _ _ _ _

set_option maxRecDepth 20000 in
set_option maxHeartbeats 8000000 in
theorem followG (T : Sys) (v1 v2 v3 : Value) (ys : List Int) (s : List UInt8) (w : World) (f1 f2 f3 : List Nat) (h1 : RS f1 w [v1] T.labs) (h2 : R_E1 f2 w [v2] T.eds) (h3 : R1 f3 w [v3] ys) (hok : sysOk T = true) :
    Calls Tryz.prog 65 #[.agg #[ei T.st, ei T.ini, v1, v2], v3, es s] w fun e w' => (∃ v' f', e = .returned v' ∧ R1 f' w' [v'] (setF (folF T ys s)) ∧ NoSpot v' ∧ ∀ b ∈ f', w.heap.size ≤ b) ∧ Upd [] w w' := by
  obtain ⟨i1, ki, kz0, kz1, kz2⟩ := info_parts Tryz.info2
  obtain ⟨-, -, hlabs, heds, -, -⟩ := sys_parts hok
  have hlab := Lib.hid (sys_labs hok)
  obtain ⟨la, ca, rfl, la1, la2, hca⟩ := slF1_open h1
  obtain ⟨a, cap, rfl, l1, l2, hc⟩ := slF3_open h2
  unfold maxLen at l2 la2
  have HCA := Lib.hid hca
  have HC := Lib.hid hc
  have HCO := Lib.hid (fun (x : Int) W (hu : Upd [] w W) => containsI v3 ys x W f3 (R1k.upd h3 hu (by simp)))
  obtain ⟨wA, hwA⟩ : ∃ wA, wA = w.alloc (.cells #[ei T.st, ei T.ini, .slice la T.labs.length ca, .slice a T.eds.length cap] 32) := ⟨_, rfl⟩
  have HUA := Lib.hid (show Upd [] w wA by rw [hwA]; exact (Upd.refl _ _).alloc _)
  have Z2 := Lib.hid (fun W (hu : Upd [] wA W) => hu.keep (show wA.cell? ⟨w.heap.size, 2, none⟩ = some (.slice la T.labs.length ca) by rw [hwA]; exact cell_new w _ _ _ rfl 2 _ rfl))
  have z3 : wA.cell? ⟨w.heap.size, 3, none⟩ = some (.slice a T.eds.length cap) := by rw [hwA]; exact cell_new w _ _ _ rfl 3 _ rfl
  have hszA : w.heap.size < wA.heap.size := by rw [hwA]; simp
  obtain ⟨BX, hBX⟩ : ∃ BX, BX = w.heap.size := ⟨_, rfl⟩
  rw [← hBX] at Z2 z3
  have HBX := Lib.hid (show BX < wA.heap.size by omega)
  have HF := Lib.hid (show folF T ys s = ((T.eds.take T.eds.length).filter (folP T ys s)).map Ed.to by rw [List.take_length]; rfl)
  have HST := Lib.hid (folF_stepG T ys s)
  have HP := Lib.hid (fun e => show folP T ys s e = (T.labs.getD e.lb.toNat [] == s && ys.contains e.fr) from rfl)
  have HL := Lib.hid (fun k => show (((T.eds.take k).filter (folP T ys s)).map Ed.to).length ≤ 300 by
    rw [List.length_map]
    refine Nat.le_trans (List.length_filter_le _ _) ?_
    rw [List.length_take]; omega)
  clear h1 h2 h3 hc hca hok
  generalize folF T ys s = FF at *
  generalize folP T ys s = FP at *
  go_enter Tryz.func65, Tryz.ntmps65
  go_upto_region 1 with (fail)
  rw [← hwA, ← hBX]
  clear hwA hBX hszA
  go_wp2_with fail
  go_loopw [7, 13] (fun ov iv wr => ∃ i : Nat, i ≤ T.eds.length ∧ iv = .int .i64 i ∧ Hid (wr.ownsRow wA.heap.size 2 1 ov (((T.eds.take i).filter FP).map Ed.to).length ((((T.eds.take i).filter FP).map Ed.to).map ei)) ∧ Hid (Upd [] wA wr)) (fun _ iv _ => T.eds.length - (intOf iv).toNat)
  case atStart => exact ⟨0, Nat.zero_le _, rfl, Lib.hid (World.ownsRow_nil _ _ _ _), Lib.hid (Upd.refl _ _)⟩
  case round =>
    clear z3
    obtain ⟨wo, rfl⟩ : ∃ wo : World, wo = wr := ⟨_, rfl⟩
    obtain ⟨i, hi, rfl, HO, HU⟩ := hrel
    obtain ⟨oa, oc, hov⟩ := ownsRow_form HO.out
    subst hov
    by_cases hlt : i < T.eds.length
    · obtain ⟨b, o, rfl, -, -, p1, p2, p3⟩ := HC.out i hlt
      have q1 := HU.out.keep (HUA.out.keep p1)
      have q2 := HU.out.keep (HUA.out.keep p2)
      have q3 := HU.out.keep (HUA.out.keep p3)
      have z2 := Z2.out wo HU.out
      have HS := Lib.hid (HST.out i hlt)
      have hpe := HP.out T.eds[i]
      have hll := HL.out i
      have hil : (i : Int) < (T.eds.length : Int) := by omega
      have hlb := hlab.out T.eds[i] (List.getElem_mem hlt)
      clear p1 p2 p3
      generalize ((T.eds.take i).filter FP).map Ed.to = P at *
      generalize T.eds[i] = x at *
      obtain ⟨x1, x2, x3⟩ := x
      simp only at q1 q2 q3 HS hpe hlb
      obtain ⟨le, rfl⟩ : ∃ N : Nat, x2 = N := ⟨x2.toNat, by omega⟩
      have hle : le < T.labs.length := by omega
      have hlei : (le : Int) < (T.labs.length : Int) := by omega
      obtain ⟨ba, obx, rfl, -, -, pA⟩ := HCA.out le hle
      have pA := HU.out.keep (HUA.out.keep pA)
      have gA : T.labs.getD le [] = T.labs[le] := by rw [List.getD_eq_getElem?_getD, List.getElem?_eq_getElem hle]; rfl
      rw [Int.toNat_natCast, gA] at hpe
      clear gA hlb
      generalize T.labs[le] = sa at *
      have HPE := Lib.hid hpe
      clear hpe
      obtain ⟨wB, hwB⟩ : ∃ wB, wB = wo.alloc (.cells #[.int .i64 x1, .int .i64 le, .int .i64 x3] 74) := ⟨_, rfl⟩
      have hown0 : wB.ownsRow wA.heap.size 2 1 (.slice oa P.length oc) P.length (P.map ei) := by rw [hwB]; exact HO.out.alloc _
      have UB : Upd [] wo wB := by rw [hwB]; exact (Upd.refl _ _).alloc _
      have HUB := Lib.hid (HU.out.trans UB)
      have t0 : wB.cell? ⟨wo.heap.size, 0, none⟩ = some (ei x1) := by rw [hwB]; exact cell_new wo _ _ _ rfl 0 _ rfl
      have t1 : wB.cell? ⟨wo.heap.size, 1, none⟩ = some (ei le) := by rw [hwB]; exact cell_new wo _ _ _ rfl 1 _ rfl
      have t2 : wB.cell? ⟨wo.heap.size, 2, none⟩ = some (ei x3) := by rw [hwB]; exact cell_new wo _ _ _ rfl 2 _ rfl
      have r2 := UB.keep z2
      have rA := UB.keep pA
      have SC := Lib.hid (HCO.out x1 wB (HUA.out.trans HUB.out))
      have hszB : wA.heap.size ≤ wB.heap.size := HUB.out.size
      obtain ⟨BE, hBE⟩ : ∃ BE, BE = wo.heap.size := ⟨_, rfl⟩
      rw [← hBE] at t0 t1 t2
      go_upto_region 5 with (fail)
      rw [← hwB, ← hBE]
      clear hwB hBE HO HU q1 q2 q3 z2 pA UB HCO
      cases hs : (sa == s) with
      | false =>
        have HN := Lib.hid (show (((T.eds.take (i + 1)).filter FP).map Ed.to) = P by rw [HS.out, HPE.out, hs]; simp)
        clear HS HPE SC
        go_wp2_with fail
        go_roundw
        case rel => exact ⟨i + 1, by omega, by go_num, Lib.hid (by rw [HN.out]; exact hown0), HUB⟩
        case measure => simp [intOf]; omega
      | true =>
        go_wp2_with fail
        refine SC.out.mono ?_
        rintro e w1 ⟨rfl, rfl⟩
        clear SC
        cases hy : ys.contains x1 with
        | false =>
          have HN := Lib.hid (show (((T.eds.take (i + 1)).filter FP).map Ed.to) = P by rw [HS.out, HPE.out, hs, hy]; simp)
          clear HS HPE hs hy
          go_wp2_with fail
          go_roundw
          case rel => exact ⟨i + 1, by omega, by go_num, Lib.hid (by rw [HN.out]; exact hown0), HUB⟩
          case measure => simp [intOf]; omega
        | true =>
          have HN := Lib.hid (show (((T.eds.take (i + 1)).filter FP).map Ed.to) = P ++ [x3] by rw [HS.out, HPE.out, hs, hy]; simp)
          clear HS HPE hs hy
          go_wp2_with (first
            | (at_builtin; refine wpList_append_tight _ rfl _ _ 45 rfl wA.heap.size 2 i1 (.int .i64 0) 1 8 Tryz.underlying45 ki kz0 kz1 kz2 rfl (by decide) _ _ _ rfl (hown0.alloc _) ⟨wB.heap.size, 0, none⟩ 1 1 [ei x3] rfl rfl (fun j u hj => by rw [addr_add]; exact cell_new wB #[ei x3] _ _ rfl _ _ (by simpa using hj)) (by simp [Value.oneCell']) (by unfold maxLen; omega) (by omega) (by simp; omega) ?_)
            | fail)
          intro v4 w4 hown4 hg4 ht4
          have HO4 := Lib.hid (show w4.ownsRow wA.heap.size 2 1 v4 (P ++ [x3]).length ((P ++ [x3]).map ei) by
            rw [List.length_append, List.map_append]; simpa using hown4)
          have HU4 := Lib.hid ((HUB.out.alloc (.cells #[ei x3] 2)).grown hg4 (fun b hb => Or.inl ((hown0.lt b hb).1)))
          clear hown4 hg4 ht4 hown0 t0 t1 t2 HUB r2 rA
          go_wp2_with fail
          go_roundw
          case rel => exact ⟨i + 1, by omega, by go_num, Lib.hid (by rw [HN.out]; exact HO4.out), HU4⟩
          case measure => simp [intOf]; omega
    · obtain rfl : i = T.eds.length := by omega
      have HOF := HO.out
      rw [← HF.out] at HOF
      have hns := ownsRow_noSpot HOF
      obtain ⟨f9, r9, o9, ge9⟩ := New.ofOwns HOF
      have hfl : FF.length ≤ 300 := by have := HL.out T.eds.length; rw [← HF.out] at this; exact this
      have S1 := Lib.hid (sortAllI _ FF wo f9 r9 o9 (by omega))
      have S2 := Lib.hid (fun W r o => compactAllI (.slice oa FF.length oc) (FF.mergeSort leZ) W f9 r o (by rw [List.length_mergeSort]; omega) hns)
      have HG := Lib.hid ge9
      rw [← HF.out]
      clear HO HOF r9 o9 ge9 hns hfl
      go_wp2_with fail
      refine S1.out.mono ?_
      rintro e w1 ⟨rfl, r1, o1, hu1⟩
      have T2 := Lib.hid (S2.out w1 r1 o1)
      have U1 := Lib.hid (HU.out.fresh hu1 (fun b hb => Or.inl (HG.out b hb)))
      clear S1 S2 hu1 r1 o1
      go_wp2_with fail
      refine T2.out.mono ?_
      rintro e w2 ⟨⟨v', rfl, r2, ns2⟩, o2, hu2⟩
      have U2 := Lib.hid (U1.out.fresh hu2 (fun b hb => Or.inl (HG.out b hb)))
      have R2 := Lib.hid (And.intro r2 ns2)
      clear T2 o2 hu2 r2 ns2
      go_wp2_with fail
      go_ret
      exact ⟨⟨v', f9, rfl, R2.out.1, R2.out.2, fun b hb => Nat.le_trans HUA.out.size (HG.out b hb)⟩, HUA.out.trans U2.out⟩

theorem r1_one (w : World) (y : Int) (B : Nat) (hB : w.heap.size = B) : R1 [B] (w.alloc (.cells #[ei y] 2)) [.slice (some ⟨B, 0, none⟩) 1 1] [y] := by
  refine ⟨_, rfl, some ⟨B, 0, none⟩, 1, rfl, Nat.le_refl _, by unfold maxLen; omega, rfl, Or.inr ⟨B, 0, rfl, rfl, by simp; omega, fun j u hj => ?_⟩⟩
  rw [show (⟨B, 0 + j, none⟩ : Addr) = ⟨B, j, none⟩ by simp]
  exact cell_new w _ _ _ hB j u (by simpa using hj)

/-- an internal edge. -/
def TauS (T : Sys) (k j : Int) : Prop := j ∈ folF T [k] tauL
/-- what internal edges reach. -/
inductive ReachT (T : Sys) : Int → Int → Prop
  | refl (k : Int) : ReachT T k k
  | step {k j l : Int} : ReachT T k j → TauS T j l → ReachT T k l
theorem folF_bd2 {T : Sys} (h : sysOk T = true) {ys : List Int} {s : List UInt8} : ∀ u ∈ folF T ys s, 0 ≤ u ∧ u < T.st := by
  intro u hu
  unfold folF at hu
  obtain ⟨e, he, rfl⟩ := List.mem_map.1 hu
  have h2 := (List.mem_filter.1 he).1
  unfold sysOk at h
  simp only [Bool.and_eq_true] at h
  obtain ⟨i, hi, rfl⟩ := List.getElem_of_mem h2
  have := allF_get h.2 i (by omega) (by omega)
  rw [edP_at _ _ hi] at this
  simp only [Bool.and_eq_true] at this
  have r2 := inB_true this.1.1.2
  omega
theorem nodup_le : ∀ (n : Nat) (L : List Int), L.Nodup → (∀ k ∈ L, 0 ≤ k ∧ k < n) → L.length ≤ n
  | 0, L, _, hb => by
    cases L with
    | nil => simp
    | cons x l => have := hb x (by simp); omega
  | n + 1, L, hn, hb => by
    have h1 := nodup_le n (L.erase (n : Int)) (hn.erase _) (fun k hk => by
      have h2 := (List.Nodup.mem_erase_iff hn).1 hk
      have h3 := hb k h2.2
      have : k ≠ n := h2.1
      omega)
    rw [List.length_erase] at h1
    split at h1 <;> omega

/-- the list of states under way, closed for its first i. -/
structure IntInv (T : Sys) (xs L : List Int) (i : Nat) : Prop where
  nd : L.Nodup
  bd : ∀ k ∈ L, 0 ≤ k ∧ k < T.st
  base : ∀ x ∈ xs, x ∈ L
  from' : ∀ k ∈ L, ∃ x ∈ xs, ReachT T x k
  shut : ∀ k ∈ L.take i, ∀ j, TauS T k j → j ∈ L
theorem IntInv.len {T : Sys} {xs L : List Int} {i : Nat} (h : IntInv T xs L i) (hs : 1 ≤ T.st ∧ T.st ≤ 40) : L.length ≤ 40 := by
  have := nodup_le T.st.toNat L h.nd (fun k hk => by have := h.bd k hk; omega)
  omega
theorem IntInv.push {T : Sys} {xs L : List Int} {i : Nat} (h : IntInv T xs L i) (hok : sysOk T = true) {y z : Int} (hi : i ≤ L.length) (hy : y ∈ L) (hz : TauS T y z) (hn : z ∉ L) : IntInv T xs (L ++ [z]) i := by
  refine ⟨?_, ?_, ?_, ?_, ?_⟩
  · rw [List.nodup_append]
    exact ⟨h.nd, by simp, fun a ha b hb => by simp at hb; subst hb; exact fun e => hn (e ▸ ha)⟩
  · intro k hk
    rcases List.mem_append.1 hk with hk | hk
    · exact h.bd k hk
    · simp at hk; subst hk; exact folF_bd2 hok _ hz
  · intro x hx; exact List.mem_append_left _ (h.base x hx)
  · intro k hk
    rcases List.mem_append.1 hk with hk | hk
    · exact h.from' k hk
    · simp at hk; subst hk
      obtain ⟨x, hx, hr⟩ := h.from' y hy
      exact ⟨x, hx, hr.step hz⟩
  · intro k hk j hj
    rw [List.take_append_of_le_length hi] at hk
    exact List.mem_append_left _ (h.shut k hk j hj)
theorem IntInv.next {T : Sys} {xs L : List Int} {i : Nat} (h : IntInv T xs L i) (hi : i < L.length) (hc : ∀ j, TauS T L[i] j → j ∈ L) : IntInv T xs L (i + 1) := by
  refine ⟨h.nd, h.bd, h.base, h.from', fun k hk j hj => ?_⟩
  rw [List.take_succ_eq_append_getElem hi, List.mem_append] at hk
  rcases hk with hk | hk
  · exact h.shut k hk j hj
  · simp at hk; subst hk; exact hc j hj
theorem IntInv.done {T : Sys} {xs L : List Int} {i : Nat} (h : IntInv T xs L i) (hi : L.length ≤ i) (k : Int) : k ∈ L ↔ ∃ x ∈ xs, ReachT T x k := by
  refine ⟨h.from' k, ?_⟩
  rintro ⟨x, hx, hr⟩
  have hx := h.base x hx
  induction hr with
  | refl => exact hx
  | step _ h2 ih => exact h.shut _ (by rw [List.take_of_length_le hi]; exact ih) _ h2

theorem take_same {L' L : List Int} {i : Nat} (h : L'.take (i + 1) = L.take (i + 1)) (hl' : i < L'.length) (hl : i < L.length) : L'[i] = L[i] := by
  have h1 : (L'.take (i + 1))[i]? = (L.take (i + 1))[i]? := by rw [h]
  rw [List.getElem?_take_of_lt (by omega), List.getElem?_take_of_lt (by omega), List.getElem?_eq_getElem hl', List.getElem?_eq_getElem hl] at h1
  exact Option.some.inj h1
theorem setF_len (xs : List Int) (n : Nat) (h : xs.length ≤ n) : (setF xs).length ≤ n := by
  unfold setF cmpF Lib.compactUpTo
  rw [List.length_map]
  refine Nat.le_trans (List.length_filter_le _ _) ?_
  simpa using h
set_option maxRecDepth 20000 in
set_option maxHeartbeats 8000000 in
theorem internalI (T : Sys) (v1 v2 v3 : Value) (xs : List Int) (w : World) (f1 f2 f3 : List Nat) (h1 : RS f1 w [v1] T.labs) (h2 : R_E1 f2 w [v2] T.eds) (h3 : R1 f3 w [v3] xs) (hns : NoSpot v3) (hok : sysOk T = true) (hnd : xs.Nodup) (hbd : ∀ x ∈ xs, 0 ≤ x ∧ x < T.st) :
    Calls Tryz.prog 70 #[.agg #[ei T.st, ei T.ini, v1, v2], v3] w fun e w' => (∃ v' f' zs, e = .returned v' ∧ R1 f' w' [v'] zs ∧ NoSpot v' ∧ zs.Nodup ∧ ∀ k, k ∈ zs ↔ ∃ x ∈ xs, ReachT T x k) ∧ Upd [] w w' := by
  obtain ⟨i1, ki, kz0, kz1, kz2⟩ := info_parts Tryz.info2
  have hst := (sys_parts hok).1
  have I0 : IntInv T xs xs 0 := ⟨hnd, hbd, fun x h => h, fun k h => ⟨k, h, ReachT.refl k⟩, fun k hk => by simp at hk⟩
  have hxl := I0.len hst
  obtain ⟨la, ca, rfl, -, -, -⟩ := slF1_open h1
  obtain ⟨a, cap, rfl, -, -, -⟩ := slF3_open h2
  obtain ⟨xa, xc, rfl, -, -, -⟩ := slF1_open h3
  obtain ⟨wA, hwA⟩ : ∃ wA, wA = w.alloc (.cells #[ei T.st, ei T.ini, .slice la T.labs.length ca, .slice a T.eds.length cap] 32) := ⟨_, rfl⟩
  have U := Lib.hid (show Upd [] w wA by rw [hwA]; exact (Upd.refl _ _).alloc _)
  have hS : SysAt w.heap.size wA T.st T.ini (.slice la T.labs.length ca) (.slice a T.eds.length cap) := by rw [hwA]; exact heap_alloc_new w _
  obtain ⟨BT, hBT⟩ : ∃ BT, BT = w.heap.size := ⟨_, rfl⟩
  rw [← hBT] at hS
  have HS := Lib.hid hS
  have S1 := Lib.hid (cloneZ _ xs wA f3 (R1k.upd h3 U.out (by simp)) (by omega) hns)
  have F1 := Lib.hid (fun (y : Int) W B (hu : Upd [] wA W) (hr : R1 [B] W [.slice (some ⟨B, 0, none⟩) 1 1] [y]) => show Calls Tryz.prog 65 #[.agg #[ei T.st, ei T.ini, .slice la T.labs.length ca, .slice a T.eds.length cap], .slice (some ⟨B, 0, none⟩) 1 1, .string ⟨#[116, 97, 117]⟩] W fun e w' => (∃ v' f', e = .returned v' ∧ R1 f' w' [v'] (setF (folF T [y] tauL)) ∧ NoSpot v' ∧ ∀ b ∈ f', W.heap.size ≤ b) ∧ Upd [] W w' from followG T (.slice la T.labs.length ca) (.slice a T.eds.length cap) (.slice (some ⟨B, 0, none⟩) 1 1) [y] tauL W f1 f2 [B] (RSk.upd h1 (U.out.trans hu) (by simp)) (R_E1k.upd h2 (U.out.trans hu) (by simp)) hr hok)
  have FL := Lib.hid (fun y => setF_len (folF T [y] tauL) 40 (folF_le hok y tauL))
  have HOK := Lib.hid hok
  have HST := Lib.hid hst
  have HI0 := Lib.hid I0
  clear h1 h2 h3 hns hok hnd hbd hS hst I0
  go_enter Tryz.func70, Tryz.ntmps70
  go_upto_region 1 with (fail)
  rw [← hwA, ← hBT]
  clear hwA hBT
  go_wp2_with fail
  refine S1.out.mono ?_
  rintro e w1 ⟨⟨v', rfl, hown⟩, hu1⟩
  have U1 := Lib.hid hu1
  have HO1 := Lib.hid hown
  have HSZ := Lib.hid hu1.size
  obtain ⟨BO, hBO⟩ : ∃ BO, BO = wA.heap.size := ⟨_, rfl⟩
  rw [← hBO] at HO1
  have HBO := Lib.hid hBO
  clear S1 hu1 hown hBO
  go_wp2_with fail
  go_loopw [5, 6] (fun ov iv wr => ∃ (L : List Int) (i : Nat), i ≤ L.length ∧ iv = .int .i64 i ∧ Hid (IntInv T xs L i) ∧ Hid (wr.ownsRow BO 2 1 ov L.length (L.map ei)) ∧ Hid (Upd [] wA wr)) (fun _ iv _ => 41 - (intOf iv).toNat)
  case atStart => exact ⟨xs, 0, Nat.zero_le _, rfl, HI0, HO1, U1⟩
  case round =>
    clear HI0 HO1 U1 HSZ
    obtain ⟨wo, rfl⟩ : ∃ wo : World, wo = wr := ⟨_, rfl⟩
    obtain ⟨L, i, hi, rfl, HI, HO, HU⟩ := hrel
    obtain ⟨oa, oc, hov⟩ := ownsRow_form HO.out
    subst hov
    have hLl := HI.out.len HST.out
    by_cases hlt : i < L.length
    · have hown0 : wo.ownsRow wA.heap.size 2 1 (.slice oa L.length oc) L.length (L.map ei) := by rw [← HBO.out]; exact HO.out
      obtain ⟨fr, rr, or', -⟩ := New.ofOwns hown0
      obtain ⟨ra, rc, hrv, -, hrm, hrc⟩ := slF1_open rr
      cases hrv
      obtain ⟨b, o, rfl, -, hbl, q1⟩ := hrc i hlt
      have hil : (i : Int) < (L.length : Int) := by omega
      obtain ⟨z0, z1, z2, z3, -⟩ := (HS.out.upd HU.out (by simp)).facts
      have HY := Lib.hid (List.getElem_mem hlt)
      have hty : ∀ j, TauS T L[i] j ↔ j ∈ setF (folF T [L[i]] tauL) := fun j => (setF_mem _ j).symm
      have HTY := Lib.hid hty
      have FO1 := Lib.hid (F1.out L[i])
      have hfl := FL.out L[i]
      have HLY := Lib.hid (fun (L' : List Int) (h : L'.take (i + 1) = L.take (i + 1)) (hl : i < L'.length) => take_same h hl hlt)
      generalize L[i] = y at *
      clear hty rr or' hrc hown0
      generalize setF (folF T [y] tauL) = FO at *
      go_wp2_with fail
      have FW := Lib.hid (FO1.out ((wo.alloc (.cells #[ei y] 2)).drew) wo.heap.size ((HU.out.alloc _).drew) (R1k.upd (r1_one wo y _ rfl) (Upd.refl [] _).drew (by simp)))
      have UW := Lib.hid (((Upd.refl [] wo).alloc (.cells #[ei y] 2)).drew)
      have x0 := UW.out.keep z0
      have x1 := UW.out.keep z1
      have x2 := UW.out.keep z2
      have x3 := UW.out.keep z3
      have x4 := UW.out.keep q1
      go_region_held3 (fun w' => w'.cell? ⟨BT, 0, none⟩ = some (ei T.st) ∧ w'.cell? ⟨BT, 1, none⟩ = some (ei T.ini) ∧ w'.cell? ⟨BT, 2, none⟩ = some (.slice la T.labs.length ca) ∧ w'.cell? ⟨BT, 3, none⟩ = some (.slice a T.eds.length cap) ∧ w'.cell? ⟨b, o + i, none⟩ = some (ei y)) (go_keep)
        (first
          | ((go_at_call 65); (with_reducible refine FW.out.mono ?_); rintro e w4 ⟨⟨v4, g4, rfl, r4, ns4, ge4⟩, hu4⟩; obtain ⟨va, vc, rfl, l4, m4, c4⟩ := slF1_open r4; have y0 := hu4.keep x0; have y1 := hu4.keep x1; have y2 := hu4.keep x2; have y3 := hu4.keep x3; have y4 := hu4.keep x4))
      have HR4 := Lib.hid r4
      have HBW := Lib.hid (show b < wo.heap.size by assumption)
      have HG4 := Lib.hid (fun c (hc : c ∈ g4) => show c ≠ b by have h1 := ge4 c hc; have h2 := HBW.out; simp at h1; omega)
      have HU4 := Lib.hid (HU.out.trans (UW.out.trans hu4))
      have HO4 := Lib.hid (ownsRow_upd HO.out (UW.out.trans hu4))
      have HI4 := Lib.hid (show IntInv T xs L i ∧ i < L.length ∧ L.take (i + 1) = L.take (i + 1) ∧ y ∈ L ∧ ∀ q ∈ FO.take 0, q ∈ L from ⟨HI.out, hlt, rfl, HY.out, fun q hq => by simp at hq⟩)
      clear FW UW x0 x1 x2 x3 x4 y0 y1 y2 y3 y4 z0 z1 z2 z3 q1 hu4 r4 c4 HI HO HU FO1 ns4 ge4
      go_wp2_with fail
      go_loopw [5, 25] (fun ov jv wr => ∃ (L' : List Int) (j : Nat), j ≤ FO.length ∧ jv = .int .i64 j ∧ Hid (IntInv T xs L' i ∧ i < L'.length ∧ L'.take (i + 1) = L.take (i + 1) ∧ y ∈ L' ∧ ∀ q ∈ FO.take j, q ∈ L') ∧ Hid (wr.ownsRow BO 2 1 ov L'.length (L'.map ei)) ∧ Hid (Upd [] wA wr) ∧ Hid (Upd [b] w4 wr) ∧ Hid (∀ g, ov.ownBlock = some g → g = b ∨ w4.heap.size ≤ g)) (fun _ jv _ => FO.length - (intOf jv).toNat)
      case atStart => exact ⟨L, 0, Nat.zero_le _, rfl, Lib.hid ⟨HI4.out.1, HI4.out.2.1, rfl, HI4.out.2.2.2.1, HI4.out.2.2.2.2⟩, HO4, HU4, Lib.hid (Upd.refl _ _), Lib.hid (fun g hg => Or.inl (by simpa [Value.ownBlock] using hg.symm))⟩
      case round =>
        clear HI4 HO4 HU4
        obtain ⟨wq, rfl⟩ : ∃ wq : World, wq = wr := ⟨_, rfl⟩
        obtain ⟨L', j, hj, rfl, HI, HO, HU, HX, HB⟩ := hrel
        obtain ⟨oa', oc', hov⟩ := ownsRow_form HO.out
        subst hov
        have hLl' := HI.out.1.len HST.out
        by_cases hjl : j < FO.length
        · obtain ⟨va', vc', hv', -, -, c4⟩ := slF1_open (R1k.upd HR4.out HX.out (fun c hc hm => HG4.out c hc (by simpa using hm)))
          cases hv'
          obtain ⟨b4, o4, rfl, -, -, p4⟩ := c4 j hjl
          have hji : (j : Int) < (FO.length : Int) := by omega
          have hown0 : wq.ownsRow wA.heap.size 2 1 (.slice oa' L'.length oc') L'.length (L'.map ei) := by rw [← HBO.out]; exact HO.out
          obtain ⟨fr, rr, -, -⟩ := New.ofOwns hown0
          have HTX := Lib.hid (show TauS T y FO[j] from (HTY.out FO[j]).2 (List.getElem_mem hjl))
          have hstep : FO.take (j + 1) = FO.take j ++ [FO[j]] := List.take_succ_eq_append_getElem hjl
          have HSTP := Lib.hid hstep
          generalize FO[j] = x at *
          have SC := Lib.hid (containsI (.slice oa' L'.length oc') L' x wq fr rr)
          clear hstep c4 rr hown0
          go_wp2_with fail
          refine SC.out.mono ?_
          rintro e w5 ⟨rfl, rfl⟩
          clear SC
          cases hc : L'.contains x with
          | true =>
            have hmem : x ∈ L' := by simpa using hc
            have HI9 := Lib.hid (show IntInv T xs L' i ∧ i < L'.length ∧ L'.take (i + 1) = L.take (i + 1) ∧ y ∈ L' ∧ ∀ q ∈ FO.take (j + 1), q ∈ L' from ⟨HI.out.1, HI.out.2.1, HI.out.2.2.1, HI.out.2.2.2.1, fun q hq => by
              rw [HSTP.out] at hq
              rcases List.mem_append.1 hq with h | h
              · exact HI.out.2.2.2.2 q h
              · simp at h; subst h; exact hmem⟩)
            clear hmem hc HI
            go_wp2_with fail
            go_roundw
            case rel => exact ⟨L', j + 1, by omega, by go_num, HI9, HO, HU, HX, HB⟩
            case measure => simp [intOf]; omega
          | false =>
            have hmem : x ∉ L' := by simpa using hc
            have hil' := HI.out.2.1
            have HI9 := Lib.hid (show IntInv T xs (L' ++ [x]) i ∧ i < (L' ++ [x]).length ∧ (L' ++ [x]).take (i + 1) = L.take (i + 1) ∧ y ∈ L' ++ [x] ∧ ∀ q ∈ FO.take (j + 1), q ∈ L' ++ [x] from ⟨HI.out.1.push HOK.out (by omega) HI.out.2.2.2.1 HTX.out hmem, by simp; omega, by rw [List.take_append_of_le_length (by omega)]; exact HI.out.2.2.1, List.mem_append_left _ HI.out.2.2.2.1, fun q hq => by
              rw [HSTP.out] at hq
              rcases List.mem_append.1 hq with h | h
              · exact List.mem_append_left _ (HI.out.2.2.2.2 q h)
              · exact List.mem_append_right _ h⟩)
            have hszq : BO ≤ wq.heap.size := by have h1 := HU.out.size; have h2 := HBO.out; omega
            have hown1 := HO.out
            clear hmem hc HI
            go_wp2_with (first
              | (at_builtin; refine wpList_append_tight _ rfl _ _ 45 rfl BO 2 i1 (.int .i64 0) 1 8 Tryz.underlying45 ki kz0 kz1 kz2 rfl (by decide) _ _ _ rfl (hown1.alloc _) ⟨wq.heap.size, 0, none⟩ 1 1 [ei x] rfl rfl (fun j u hj => by rw [addr_add]; exact cell_new wq #[ei x] _ _ rfl _ _ (by simpa using hj)) (by simp [Value.oneCell']) (by unfold maxLen; omega) (by omega) (by simp; omega) ?_)
              | fail)
            intro v6 w6 hown6 hg6 ht6
            have HO6 := Lib.hid (show w6.ownsRow BO 2 1 v6 (L' ++ [x]).length ((L' ++ [x]).map ei) by
              rw [List.length_append, List.map_append]; simpa using hown6)
            have HU6 := Lib.hid ((HU.out.alloc (.cells #[ei x] 2)).grown hg6 (fun c hc => Or.inl (by have h1 := (hown1.lt c hc).1; have h2 := HBO.out; omega)))
            have HX6 := Lib.hid ((HX.out.alloc (.cells #[ei x] 2)).grown hg6 (fun c hc => by
              rcases HB.out c hc with h | h
              · exact Or.inr (by simp [h])
              · exact Or.inl h))
            have HB6 := Lib.hid (show ∀ g, v6.ownBlock = some g → g = b ∨ w4.heap.size ≤ g from fun g hg => by
              rcases ht6 g hg with h | h
              · exact HB.out g h
              · exact Or.inr (by have h1 := HX.out.size; have h3 : wq.heap.size ≤ g := (by omega); omega))
            clear hown6 hg6 ht6 hown1
            go_wp2_with fail
            go_roundw
            case rel => exact ⟨L' ++ [x], j + 1, by omega, by go_num, HI9, HO6, HU6, HX6, HB6⟩
            case measure => simp [intOf]; omega
        · obtain rfl : j = FO.length := by omega
          have HI9 := Lib.hid (show IntInv T xs L' (i + 1) ∧ i + 1 ≤ L'.length from ⟨HI.out.1.next HI.out.2.1 (fun q hq => by
            rw [HLY.out L' HI.out.2.2.1 HI.out.2.1] at hq
            exact HI.out.2.2.2.2 q (by rw [List.take_length]; exact (HTY.out q).1 hq)), HI.out.2.1⟩)
          clear HI
          go_wp2_with fail
          go_roundw
          case rel => exact ⟨L', i + 1, HI9.out.2, by go_num, Lib.hid HI9.out.1, HO, HU⟩
          case measure => simp [intOf]; omega
    · obtain rfl : i = L.length := by omega
      have hown0 : wo.ownsRow wA.heap.size 2 1 (.slice oa L.length oc) L.length (L.map ei) := by rw [← HBO.out]; exact HO.out
      have HNS := Lib.hid (ownsRow_noSpot hown0)
      obtain ⟨f9, r9, o9, ge9⟩ := New.ofOwns hown0
      have S3 := Lib.hid (sortAllI _ L wo f9 r9 o9 (by omega))
      have HG := Lib.hid ge9
      have HD := Lib.hid (fun k => HI.out.done (Nat.le_refl _) k)
      have HND := Lib.hid HI.out.nd
      clear HO HI r9 o9 ge9 hown0 F1
      go_wp2_with fail
      refine S3.out.mono ?_
      rintro e w5 ⟨rfl, r5, -, hu5⟩
      have U5 := Lib.hid (HU.out.fresh hu5 (fun c hc => Or.inl (HG.out c hc)))
      have R5 := Lib.hid r5
      clear S3 hu5 r5
      go_wp2_with fail
      go_ret
      exact ⟨⟨_, f9, _, rfl, R5.out, HNS.out, ((List.mergeSort_perm L leZ).nodup_iff).2 HND.out, fun k => by rw [(List.mergeSort_perm L leZ).mem_iff]; exact HD.out k⟩, U.out.trans U5.out⟩

end Go.Proofs.YtcnaapiljmgfoaaGreatDoor

/-
  Relations between systems, the reference's parts for branching: l15In, l15Inert, l15Reach.
-/
namespace Go.Proofs.YtcnaapiljmgfoaaGreatDoor
open Go.RowKit

theorem sys_eds2 {x : Sys} (h : sysOk x = true) : ∀ e ∈ x.eds, (0 ≤ e.fr ∧ e.fr < x.st) ∧ (0 ≤ e.to ∧ e.to < x.st) := by
  intro e he
  unfold sysOk at h
  simp only [Bool.and_eq_true] at h
  obtain ⟨i, hi, rfl⟩ := List.getElem_of_mem he
  have := allF_get h.2 i (by omega) (by omega)
  rw [edP_at _ _ hi] at this
  simp only [Bool.and_eq_true] at this
  have r1 := inB_true this.1.1.1
  have r2 := inB_true this.1.1.2
  omega
/-- a pair is related, or turned round. -/
def inPF (R : List (List Int)) (x y : Int) (back : Bool) : Bool := if back then hasP R y x else hasP R x y

theorem tau_lab {labs : List (List UInt8)} (h : labsOk labs = true) {n : Int} (h0 : 0 ≤ n) (h1 : n < labs.length) : labs.getD n.toNat [] = tauL ↔ n = 0 := by
  have ht : labs.getD 0 [] = tauL := by
    have h' := h
    unfold labsOk at h'
    simp only [Bool.and_eq_true] at h'
    have := allF_get h'.2 0 (by omega) (by omega)
    unfold labP at this
    simp only [Bool.and_eq_true, beq_iff_eq] at this
    have h1 := this.1.2
    simpa using h1
  constructor
  · intro he
    have := labs_inj h n.toNat 0 (by omega) (by omega) (he.trans ht.symm)
    omega
  · intro he
    subst he
    exact ht
theorem tauS_iff {T : Sys} (h : sysOk T = true) (k j : Int) : TauS T k j ↔ ∃ e ∈ T.eds, e.fr = k ∧ e.to = j ∧ e.lb = 0 := by
  have hl : labsOk T.labs = true := by
    have h' := h
    unfold sysOk at h'
    simp only [Bool.and_eq_true] at h'
    exact h'.1.1.2
  unfold TauS folF folP
  simp only [List.mem_map, List.mem_filter, Bool.and_eq_true, List.contains_cons, List.contains_nil, Bool.or_false, beq_iff_eq]
  constructor
  · rintro ⟨e, ⟨h1, h2, h3⟩, rfl⟩
    have := sys_labs h e h1
    exact ⟨e, h1, h3, rfl, (tau_lab hl this.1 this.2).1 h2⟩
  · rintro ⟨e, h1, rfl, rfl, h4⟩
    have := sys_labs h e h1
    exact ⟨e, ⟨h1, (tau_lab hl this.1 this.2).2 h4, rfl⟩, rfl⟩

/-- a block of truths. -/
def BlkB (b : Nat) (w : World) (S : List Bool) : Prop := w.heap[b]? = some (.cells (S.map Value.bool).toArray 4 (0, 0))
theorem BlkB.lt {b : Nat} {w : World} {S : List Bool} (h : BlkB b w S) : b < w.heap.size := (Array.getElem?_eq_some_iff.1 h).1
theorem BlkB.cell {b : Nat} {w : World} {S : List Bool} (h : BlkB b w S) (j : Nat) (hj : j < S.length) : w.cell? ⟨b, j, none⟩ = some (.bool S[j]) := by
  unfold BlkB at h
  simp [World.cell?, h, hj]
theorem BlkB.frozen {b : Nat} {w : World} {S : List Bool} (h : BlkB b w S) (j : Nat) : w.frozen? ⟨b, j, none⟩ = false := by
  unfold BlkB at h
  simp [World.frozen?, h]
theorem BlkB.upd {b : Nat} {w w1 : World} {S : List Bool} (h : BlkB b w S) {f : List Nat} (hu : Upd f w w1) (hf : b ∉ f) : BlkB b w1 S := by
  unfold BlkB at *
  rw [hu.block b (Array.getElem?_eq_some_iff.1 h).1 hf]; exact h
theorem BlkB.set {b : Nat} {w : World} {S : List Bool} (h : BlkB b w S) (j : Nat) (c : Bool) : BlkB b (w.setCell ⟨b, j, none⟩ (.bool c)) (S.set j c) := by
  unfold BlkB at *
  have := heap_setCell_same w b j _ _ (.bool c) h
  rw [this, List.map_set]
  simp
theorem BlkB.ofRow {w : World} {b n : Nat} (h : w.ownsRow b 4 1 (.slice (some ⟨b, 0, none⟩) n n) n (List.replicate n (.bool false))) : BlkB b w (List.replicate n false) := by
  obtain ⟨-, ⟨h1, -⟩ | ⟨g, cap, cur, hv, -, hc, -, -, h3, h4⟩⟩ := h
  · cases h1
  · cases hv
    unfold BlkB
    rw [hc, List.map_replicate, ← h4]
    have : cur.toList.take (n * 1) = cur.toList := List.take_of_length_le (by simp [h3])
    rw [this]

/-- what is marked is reached. -/
structure ReInv (B : Sys) (y : Int) (S : List Bool) : Prop where
  len : (S.length : Int) = B.st
  self : S.getD y.toNat false = true
  from' : ∀ j : Nat, S.getD j false = true → ReachT B y j
def ShutAt (S : List Bool) (g : Ed) : Prop := S.getD g.fr.toNat false = true → g.lb = 0 → S.getD g.to.toNat false = true
theorem ReInv.push {B : Sys} {y : Int} {S : List Bool} (h : ReInv B y S) (hok : sysOk B = true) {g : Ed} (hg : g ∈ B.eds) (hf : S.getD g.fr.toNat false = true) (hl : g.lb = 0) : ReInv B y (S.set g.to.toNat true) := by
  have hb := sys_eds2 hok g hg
  refine ⟨by simpa using h.len, ?_, fun j hj => ?_⟩
  · rw [List.getD_eq_getElem?_getD, List.getElem?_set]
    have := h.self
    rw [List.getD_eq_getElem?_getD] at this
    split
    · split
      · rfl
      · rename_i h1 h2; rw [h1] at h2; rw [List.getElem?_eq_none (by omega)] at this; exact this
    · exact this
  · by_cases e : g.to.toNat = j
    · have h1 := h.from' _ hf
      have e1 : ((g.fr.toNat : Nat) : Int) = g.fr := by omega
      have e2 : (j : Int) = g.to := by omega
      rw [e1] at h1
      rw [e2]
      exact h1.step ((tauS_iff hok _ _).2 ⟨g, hg, rfl, rfl, hl⟩)
    · rw [List.getD_eq_getElem?_getD, List.getElem?_set_ne e, ← List.getD_eq_getElem?_getD] at hj
      exact h.from' j hj
theorem ReInv.done {B : Sys} {y : Int} {S : List Bool} (h : ReInv B y S) (hok : sysOk B = true) (_hy : 0 ≤ y) (hs : ∀ g ∈ B.eds, ShutAt S g) (j : Nat) : S.getD j false = true ↔ ReachT B y j := by
  refine ⟨h.from' j, fun hr => ?_⟩
  have key : ∀ k : Int, ReachT B y k → S.getD k.toNat false = true := by
    intro k hk
    induction hk with
    | refl => exact h.self
    | step _ h2 ih =>
      obtain ⟨e, he, rfl, rfl, hl⟩ := (tauS_iff hok _ _).1 h2
      exact hs e he ih hl
  have := key j hr
  simpa using this

end Go.Proofs.YtcnaapiljmgfoaaGreatDoor

/-
  Relations between systems, the reference's l16Still: which states internal edges lead to, as a matrix.
-/
namespace Go.Proofs.YtcnaapiljmgfoaaGreatDoor
open Go.RowKit

/-- an internal edge leads from i to j. -/
def tauM (eds : List Ed) (i j : Nat) : Bool := eds.any fun e => (e.lb == 0) && ((e.fr == (i : Int)) && (e.to == (j : Int)))
theorem tauM_step (eds : List Ed) (k : Nat) (h : k < eds.length) (hb : 0 ≤ eds[k].fr ∧ 0 ≤ eds[k].to) :
    tauM (eds.take (k + 1)) = if eds[k].lb = 0 then Go.Proofs.YtcnaapiljmgfoaaGreatDoor.upd (tauM (eds.take k)) eds[k].fr.toNat eds[k].to.toNat true else tauM (eds.take k) := by
  funext i j
  have e1 : tauM (eds.take (k + 1)) i j = (tauM (eds.take k) i j || ((eds[k].lb == 0) && ((eds[k].fr == (i : Int)) && (eds[k].to == (j : Int))))) := by
    unfold tauM
    rw [List.take_succ_eq_append_getElem h, List.any_append]; simp
  rw [e1]
  split
  · rename_i h0
    unfold Go.Proofs.YtcnaapiljmgfoaaGreatDoor.upd
    rw [h0]
    by_cases hi : i = eds[k].fr.toNat ∧ j = eds[k].to.toNat
    · have h1 : (eds[k].fr == (i : Int)) = true := by rw [beq_iff_eq]; omega
      have h2 : (eds[k].to == (j : Int)) = true := by rw [beq_iff_eq]; omega
      rw [h1, h2]
      simp [hi.1, hi.2]
    · have h1 : ((eds[k].fr == (i : Int)) && (eds[k].to == (j : Int))) = false := by
        rw [Bool.eq_false_iff]
        intro h9
        simp only [Bool.and_eq_true, beq_iff_eq] at h9
        exact hi ⟨by omega, by omega⟩
      rw [h1]
      simp [hi]
  · rename_i h0
    have : (eds[k].lb == 0) = false := by simpa using h0
    rw [this]; simp
theorem reachT_trans {T : Sys} {i j k : Int} (h1 : ReachT T i j) (h2 : ReachT T j k) : ReachT T i k := by
  induction h2 with
  | refl => exact h1
  | step _ h3 ih => exact ih.step h3
theorem still_reach {T : Sys} (h : sysOk T = true) {n : Nat} (hn : T.st = n) (i j : Nat) (hi : i < n) (hj : j < n) : closeF n (tauM T.eds) i j = true ↔ ReachT T i j := by
  constructor
  · refine closeF_least n (tauM T.eds) (fun i j => ReachT T (i : Int) (j : Int)) (fun i => ReachT.refl _) ?_ ?_ i j
    · intro i j k h1 h2
      exact reachT_trans h1 h2
    · intro i j hij
      unfold tauM at hij
      rw [List.any_eq_true] at hij
      obtain ⟨e, he, h2⟩ := hij
      simp only [Bool.and_eq_true, beq_iff_eq] at h2
      exact (ReachT.refl (i : Int)).step ((tauS_iff h _ _).2 ⟨e, he, h2.2.1, h2.2.2, h2.1⟩)
  · intro hr
    have key : ∀ k : Int, ReachT T i k → ∃ m : Nat, k = m ∧ m < n ∧ closeF n (tauM T.eds) i m = true := by
      intro k hk
      induction hk with
      | refl => exact ⟨i, rfl, hi, closeF_refl n _ i hi⟩
      | step _ h2 ih =>
        obtain ⟨m, rfl, hm, hc⟩ := ih
        obtain ⟨e, he, h3, rfl, h4⟩ := (tauS_iff h _ _).1 h2
        have hb := sys_eds2 h e he
        refine ⟨e.to.toNat, by omega, by omega, ?_⟩
        refine closeF_trans n _ i e.to.toNat m hi (by omega) hm hc (closeF_has n _ _ _ ?_)
        unfold tauM
        rw [List.any_eq_true]
        refine ⟨e, he, ?_⟩
        simp only [Bool.and_eq_true, beq_iff_eq]
        exact ⟨h4, h3, by omega⟩
    obtain ⟨m, h1, -, h2⟩ := key j hr
    have : m = j := by omega
    rwa [this] at h2

set_option maxRecDepth 20000 in
set_option maxHeartbeats 8000000 in
theorem stillS (B : Sys) (Tb : Nat) (b2 : Value) (w : World) (f4 : List Nat) (z0 : w.cell? ⟨Tb, 0, none⟩ = some (ei B.st)) (z3 : w.cell? ⟨Tb, 3, none⟩ = some b2) (hE : R_E1 f4 w [b2] B.eds) (hok : sysOk B = true) (n : Nat) (hn : B.st = n) :
    Calls Tryz.prog 79 #[.pointer (some ⟨Tb, 0, none⟩)] w fun e w' => (∃ v' f', e = .returned v' ∧ Rb f' w' [v'] (flat n (closeF n (tauM B.eds)))) ∧ Upd [] w w' := by
  obtain ⟨i1, ki, kz0, kz1, kz2⟩ := info_parts Tryz.infoB
  obtain ⟨hst, -, -, heds, -, -⟩ := sys_parts hok
  have hm : n ≤ 40 := by omega
  have hmm : n * n ≤ 1600 := by have := Nat.mul_le_mul hm hm; omega
  have hm2 : i1.bytes * (n * n) ≤ 281474976710656 := by rw [kz2]; omega
  have hmi := mul_bd (i := n) (j := n) (n := n) (Nat.le_refl _) (Nat.le_refl _) hm
  obtain ⟨a, cap, rfl, l1, l2, hc⟩ := slF3_open hE
  unfold maxLen at l2
  have HC := Lib.hid hc
  have HBD := Lib.hid (sys_eds2 hok)
  have HZ3 := Lib.hid z3
  have HN := Lib.hid hn
  have HTM := Lib.hid (show tauM (B.eds.take 0) = fun _ _ => false by funext i j; simp [tauM])
  rw [hn] at z0
  clear hE hc hok hst hn
  go_enter Tryz.func79, Tryz.ntmps79
  go_wp2_with (first
    | (at_make; refine wpList_make_full _ rfl _ _ 61 rfl w.heap.size 4 i1 (.bool false) 1 Tryz.underlying61 ki kz0 kz1 .i64 .i64 _ _ (n * n) rfl rfl (Int.natCast_mul n n).symm (Int.natCast_mul n n).symm hm2 (by unfold maxLen; omega) (Nat.le_refl _) ?_; intro w2 hrow hgrow)
    | fail)
  rw [made_one _ rfl, flat_false_map Value.bool n] at hrow
  obtain ⟨fm, hm1, ho1, hf1⟩ := New.ofOwns (w := w) (e := 4) (enc := Value.bool) (xs := flat n fun _ _ => false) (by simpa using hrow)
  have hu2 : Upd [] w w2 := (Upd.refl _ _).grown hgrow (by simp)
  rw [← HTM.out] at hm1
  have HF := Lib.hid hf1
  have HM1 := Lib.hid hm1
  have HO1 := Lib.hid ho1
  have HU2 := Lib.hid hu2
  obtain ⟨BM, hBM⟩ : ∃ BM, BM = w.heap.size := ⟨_, rfl⟩
  rw [← hBM] at HM1 ⊢
  clear hrow hgrow hm1 ho1 hf1 hu2 z0 z3 hm2 hmi hBM
  go_loopw [5] (fun iv wr => ∃ k : Nat, k ≤ B.eds.length ∧ iv = .int .i64 k ∧ Hid (Upd [] w wr) ∧ Hid (Rb fm wr [.slice (some ⟨BM, 0, none⟩) (n * n) (n * n)] (flat n (tauM (B.eds.take k)))) ∧ Hid (Own fm wr)) (fun iv _ => B.eds.length - (intOf iv).toNat)
  case atStart => exact ⟨0, Nat.zero_le _, rfl, HU2, HM1, HO1⟩
  case round =>
    clear HU2 HM1 HO1
    obtain ⟨wo, rfl⟩ : ∃ wo : World, wo = wr := ⟨_, rfl⟩
    obtain ⟨k, hk, rfl, HU, HM, HO⟩ := hrel
    have zz := HU.out.keep HZ3.out
    by_cases hlt : k < B.eds.length
    · obtain ⟨eb, eo, rfl, -, -, p1, p2, p3⟩ := HC.out k hlt
      have p1 := HU.out.keep p1
      have p2 := HU.out.keep p2
      have p3 := HU.out.keep p3
      have hbd := HBD.out _ (List.getElem_mem hlt)
      have hil : (k : Int) < (B.eds.length : Int) := by omega
      have HST := Lib.hid (tauM_step B.eds k hlt ⟨hbd.1.1, hbd.2.1⟩)
      generalize B.eds[k] = e at *
      obtain ⟨e1, e2, e3⟩ := e
      simp only at p1 p2 p3 hbd HST
      obtain ⟨y1, rfl⟩ : ∃ N : Nat, e1 = N := ⟨e1.toNat, by omega⟩
      obtain ⟨y3, rfl⟩ : ∃ N : Nat, e3 = N := ⟨e3.toNat, by omega⟩
      simp only [Int.toNat_natCast] at HST
      have d1 : y1 < n := by have := HN.out; omega
      have d3 : y3 < n := by have := HN.out; omega
      clear hbd
      cases hl : (e2 == 0) with
      | false =>
        have HM9 := Lib.hid (show Rb fm wo [.slice (some ⟨BM, 0, none⟩) (n * n) (n * n)] (flat n (tauM (B.eds.take (k + 1)))) by
          rw [HST.out, if_neg (by simpa using hl)]; exact HM.out)
        clear HM HST
        go_wp2_with fail
        go_roundw
        case rel => exact ⟨k + 1, by omega, by go_num, HU, HM9, HO⟩
        case measure => simp [intOf]; omega
      | true =>
        have UD := Lib.hid ((Upd.refl [] wo).drew)
        obtain ⟨b4, o4, c4, hv4, -, -, hfp, r2, hset⟩ := flatF_cell (Rbk.upd HM.out UD.out (by simp)) y1 y3 d1 d3
        simp only [Value.slice.injEq, Option.some.injEq, Addr.mk.injEq, and_true, true_and] at hv4
        obtain ⟨⟨rfl, rfl⟩, rfl⟩ := hv4
        rw [Nat.zero_add] at r2 hset
        have hset := hset true
        have hfr : wo.drew.frozen? ⟨BM, y1 * n + y3, none⟩ = false := HO.out.frozen (by rw [hfp]; simp) _
        have HM9 := Lib.hid (show Rb fm (wo.drew.setCell ⟨BM, y1 * n + y3, none⟩ (.bool true)) [.slice (some ⟨BM, 0, none⟩) (n * n) (n * n)] (flat n (tauM (B.eds.take (k + 1)))) by
          rw [HST.out, if_pos (by simpa using hl)]; exact hset)
        have HO9 := Lib.hid ((HO.out.upd UD.out (by simp)).setCell ⟨BM, y1 * n + y3, none⟩ (.bool true))
        have HU9 := Lib.hid ((HU.out.trans UD.out).setCell (p := ⟨BM, y1 * n + y3, none⟩) (Or.inl (HF.out _ (by rw [hfp]; simp))) (.bool true))
        have hix : y1 * n + y3 < n * n := idx_lt d1 d3
        have hbd3 := mul_bd (i := y1) (j := n) (n := n) (by omega) (Nat.le_refl _) hm
        have hix2 : (y1 : Int) * (n : Int) + (y3 : Int) < (n : Int) * (n : Int) := by
          have h1 : ((y1 * n + y3 : Nat) : Int) < ((n * n : Nat) : Int) := by omega
          simpa using h1
        have hto : ((y1 : Int) * (n : Int) + (y3 : Int)).toNat = y1 * n + y3 := by
          have h1 : (y1 : Int) * (n : Int) + (y3 : Int) = ((y1 * n + y3 : Nat) : Int) := by simp
          rw [h1]; exact Int.toNat_natCast _
        have hb1 := hbd3.1
        have hb2 := hbd3.2.1
        clear HM HST hset HO HU hfp hbd3
        go_wp2_with fail
        go_region
        all_goals
          go_wp2_with fail
          go_roundw
          case rel => exact ⟨k + 1, by omega, by go_num, HU9, HM9, HO9⟩
          case measure => simp [intOf]; omega
    · obtain rfl : k = B.eds.length := by omega
      have S5 := Lib.hid (l02Close n (tauM B.eds) _ wo fm hm (by have := HM.out; rw [List.take_length] at this; exact this) HO.out)
      clear HM HO
      go_wp2_with fail
      refine S5.out.mono ?_
      rintro e w5 ⟨rfl, r5, -, hu5⟩
      have U5 := Lib.hid (HU.out.fresh hu5 (fun b hb => Or.inl (HF.out b hb)))
      have R5 := Lib.hid r5
      clear S5 hu5 r5
      go_wp2_with fail
      go_ret
      exact ⟨⟨_, fm, rfl, R5.out⟩, U5.out⟩

end Go.Proofs.YtcnaapiljmgfoaaGreatDoor

/-
  Relations between systems, the reference's l15Reach: what internal edges reach.
-/
namespace Go.Proofs.YtcnaapiljmgfoaaGreatDoor
open Go.RowKit

end Go.Proofs.YtcnaapiljmgfoaaGreatDoor

/-
  Relations between systems, the reference's l16Step: where weak steps with a label lead.
-/
namespace Go.Proofs.YtcnaapiljmgfoaaGreatDoor
open Go.RowKit

/-- a weak step with a label's number leads from y to j. -/
def StepR (B : Sys) (y lb j : Int) : Prop := (lb = 0 ∧ ReachT B y j) ∨ (lb ≠ 0 ∧ ∃ g ∈ B.eds, g.lb = lb ∧ ReachT B y g.fr ∧ ReachT B g.to j)
theorem getD_set (S : List Bool) (i j : Nat) (c : Bool) (hi : i < S.length) : (S.set i c).getD j false = if i = j then c else S.getD j false := by
  rw [List.getD_eq_getElem?_getD, List.getElem?_set]
  split
  · rename_i h; subst h; first | rfl | (rw [if_pos hi]; rfl)
  · rw [List.getD_eq_getElem?_getD]

set_option maxRecDepth 20000 in
set_option maxHeartbeats 8000000 in
theorem stepS0 (B : Sys) (Tb : Nat) (v : Value) (y : Nat) (n : Nat) (hn : B.st = n) (w : World) (fm : List Nat) (z0 : w.cell? ⟨Tb, 0, none⟩ = some (ei B.st)) (hM : Rb fm w [v] (flat n (closeF n (tauM B.eds)))) (hok : sysOk B = true) (hy : y < n) :
    Calls Tryz.prog 107 #[.pointer (some ⟨Tb, 0, none⟩), v, .int .i64 y, .int .i64 0] w fun e w' => (∃ (b : Nat) (S : List Bool), e = .returned (.slice (some ⟨b, 0, none⟩) S.length S.length) ∧ BlkB b w' S ∧ S.length = n ∧ ∀ j : Nat, j < n → (S.getD j false = true ↔ StepR B y 0 j)) ∧ Upd [] w w' := by
  obtain ⟨i1, ki, kz0, kz1, kz2⟩ := info_parts Tryz.infoB
  obtain ⟨hst, -, -, heds, -, -⟩ := sys_parts hok
  have hm : n ≤ 40 := by omega
  have hm2 : i1.bytes * n ≤ 281474976710656 := by rw [kz2]; omega
  have HSR := Lib.hid (fun j (hj : j < n) => still_reach hok hn y j hy hj)
  have HM := Lib.hid (fun W (hu : Upd [] w W) => Rbk.upd hM hu (by simp))
  obtain ⟨ma, mc, hv, -, hmc, -⟩ := slF1_open hM
  simp only [flat_length] at hv
  subst hv
  have hb1 := (mul_bd (i := y) (j := n) (n := n) (by omega) (Nat.le_refl _) hm).1
  have hb2 := (mul_bd (i := y) (j := n) (n := n) (by omega) (Nat.le_refl _) hm).2.1
  rw [hn] at z0
  clear hM hok hst hn
  generalize closeF n (tauM B.eds) = F at *
  go_enter Tryz.func107, Tryz.ntmps107
  go_wp2_with (first
    | (at_make; refine wpList_make_full _ rfl _ _ 61 rfl w.heap.size 4 i1 (.bool false) 1 Tryz.underlying61 ki kz0 kz1 .i64 .i64 _ _ n rfl rfl rfl rfl hm2 (by unfold maxLen; omega) (Nat.le_refl _) ?_; intro w2 hrow hgrow; rw [made_one _ rfl] at hrow)
    | fail)
  obtain ⟨BS, hBS⟩ : ∃ BS, BS = w.heap.size := ⟨_, rfl⟩
  have HK0 := Lib.hid (BlkB.ofRow hrow)
  have HU0 := Lib.hid ((Upd.refl [] w).grown hgrow (by simp))
  rw [← hBS] at HK0 ⊢
  have HBS := Lib.hid hBS
  clear hrow hgrow hBS z0 hm2
  go_loopw [11] (fun iv wr => ∃ (S : List Bool) (k : Nat), k ≤ n ∧ iv = .int .i64 k ∧ Hid (S.length = n ∧ ∀ j : Nat, j < n → (S.getD j false = (decide (j < k) && F y j))) ∧ Hid (BlkB BS wr S) ∧ Hid (Upd [] w wr)) (fun iv _ => n - (intOf iv).toNat)
  case atStart => exact ⟨_, 0, Nat.zero_le _, rfl, Lib.hid ⟨by simp, fun j hj => by rw [List.getD_eq_getElem?_getD]; simp [hj]⟩, HK0, HU0⟩
  case round =>
    clear HK0 HU0
    obtain ⟨wo, rfl⟩ : ∃ wo : World, wo = wr := ⟨_, rfl⟩
    obtain ⟨S, k, hk, rfl, HI, HK, HU⟩ := hrel
    by_cases hlt : k < n
    · obtain ⟨b4, o4, c4, hv4, -, -, -, r2, -⟩ := flatF_cell (HM.out wo HU.out) y k hy hlt
      simp only [Value.slice.injEq, true_and] at hv4
      obtain ⟨rfl, rfl⟩ := hv4
      have hki : (k : Int) < (n : Int) := by omega
      have dk : k < S.length := by have := HI.out.1; omega
      have c1 := HK.out.cell k dk
      have fz := HK.out.frozen k
      have hix2 : (y : Int) * (n : Int) + (k : Int) < (n : Int) * (n : Int) := by
        have h0 := idx_lt hy hlt
        have h1 : ((y * n + k : Nat) : Int) < ((n * n : Nat) : Int) := by omega
        simpa using h1
      have hto : ((y : Int) * (n : Int) + (k : Int)).toNat = y * n + k := by
        have h1 : (y : Int) * (n : Int) + (k : Int) = ((y * n + k : Nat) : Int) := by simp
        rw [h1]; exact Int.toNat_natCast _
      have HI9 := Lib.hid (show (S.set k (F y k)).length = n ∧ ∀ j : Nat, j < n → ((S.set k (F y k)).getD j false = (decide (j < k + 1) && F y j)) from ⟨by simpa using HI.out.1, fun j hj => by
        rw [getD_set S k j _ dk]
        split
        · rename_i h; subst h; simp
        · rename_i h
          rw [HI.out.2 j hj]
          by_cases h2 : j < k
          · rw [decide_eq_true h2, decide_eq_true (show j < k + 1 by omega)]
          · rw [decide_eq_false h2, decide_eq_false (show ¬ j < k + 1 by omega)]⟩)
      have HK9 := Lib.hid (HK.out.set k (F y k))
      have HU9 := Lib.hid (HU.out.setCell (p := ⟨BS, k, none⟩) (Or.inl (by rw [HBS.out]; exact Nat.le_refl _)) (.bool (F y k)))
      clear HI HK HU
      generalize F y k = fk at *
      go_wp2_with fail
      go_roundw
      case rel => exact ⟨_, k + 1, by omega, by go_num, HI9, HK9, HU9⟩
      case measure => simp [intOf]; omega
    · obtain rfl : k = n := by omega
      have HE := Lib.hid (show ∀ j : Nat, j < k → (S.getD j false = true ↔ StepR B y 0 j) from fun j hj => by
        rw [HI.out.2 j hj, decide_eq_true hj, Bool.true_and, HSR.out j hj]
        unfold StepR
        simp)
      have HL := Lib.hid HI.out.1
      clear HI
      go_wp2_with fail
      go_ret
      exact ⟨⟨BS, S, by rw [HL.out]; rfl, HK.out, HL.out, HE.out⟩, HU.out⟩

set_option maxRecDepth 20000 in
set_option maxHeartbeats 16000000 in
theorem stepS1 (B : Sys) (Tb : Nat) (b2 v : Value) (y : Nat) (lb : Int) (hlb : lb ≠ 0) (n : Nat) (hn : B.st = n) (w : World) (f4 fm : List Nat) (z0 : w.cell? ⟨Tb, 0, none⟩ = some (ei B.st)) (z3 : w.cell? ⟨Tb, 3, none⟩ = some b2) (hE : R_E1 f4 w [b2] B.eds) (hM : Rb fm w [v] (flat n (closeF n (tauM B.eds)))) (hok : sysOk B = true) (hy : y < n) :
    Calls Tryz.prog 107 #[.pointer (some ⟨Tb, 0, none⟩), v, .int .i64 y, .int .i64 lb] w fun e w' => (∃ (b : Nat) (S : List Bool), e = .returned (.slice (some ⟨b, 0, none⟩) S.length S.length) ∧ BlkB b w' S ∧ S.length = n ∧ ∀ j : Nat, j < n → (S.getD j false = true ↔ StepR B y lb j)) ∧ Upd [] w w' := by
  obtain ⟨i1, ki, kz0, kz1, kz2⟩ := info_parts Tryz.infoB
  obtain ⟨hst, -, -, heds, -, -⟩ := sys_parts hok
  have hm : n ≤ 40 := by omega
  have hm2 : i1.bytes * n ≤ 281474976710656 := by rw [kz2]; omega
  have HSR := Lib.hid (fun i j (hi : i < n) (hj : j < n) => still_reach hok hn i j hi hj)
  have HM := Lib.hid (fun W (hu : Upd [] w W) => Rbk.upd hM hu (by simp))
  have HBD := Lib.hid (sys_eds2 hok)
  have HN := Lib.hid hn
  obtain ⟨ma, mc, hv, -, hmc, -⟩ := slF1_open hM
  simp only [flat_length] at hv
  subst hv
  obtain ⟨a, cap, rfl, l1, l2, hc⟩ := slF3_open hE
  unfold maxLen at l2
  have HC := Lib.hid hc
  have HZ3 := Lib.hid z3
  have hb1 := (mul_bd (i := y) (j := n) (n := n) (by omega) (Nat.le_refl _) hm).1
  have hb2 := (mul_bd (i := y) (j := n) (n := n) (by omega) (Nat.le_refl _) hm).2.1
  have hl0 : (lb == 0) = false := by simpa using hlb
  have HLB := Lib.hid hlb
  rw [hn] at z0
  clear hM hok hst hn hE hc z3 hlb
  generalize closeF n (tauM B.eds) = F at *
  go_enter Tryz.func107, Tryz.ntmps107
  go_wp2_with (first
    | (at_make; refine wpList_make_full _ rfl _ _ 61 rfl w.heap.size 4 i1 (.bool false) 1 Tryz.underlying61 ki kz0 kz1 .i64 .i64 _ _ n rfl rfl rfl rfl hm2 (by unfold maxLen; omega) (Nat.le_refl _) ?_; intro w2 hrow hgrow; rw [made_one _ rfl] at hrow)
    | fail)
  obtain ⟨BS, hBS⟩ : ∃ BS, BS = w.heap.size := ⟨_, rfl⟩
  have HK0 := Lib.hid (BlkB.ofRow hrow)
  have HU0 := Lib.hid ((Upd.refl [] w).grown hgrow (by simp))
  rw [← hBS] at HK0 ⊢
  have HBS := Lib.hid hBS
  clear hrow hgrow hBS z0 hm2
  go_loopw [12] (fun iv wr => ∃ (S : List Bool) (k : Nat), k ≤ B.eds.length ∧ iv = .int .i64 k ∧ Hid (S.length = n ∧ ∀ j : Nat, j < n → (S.getD j false = true ↔ ∃ g ∈ B.eds.take k, g.lb = lb ∧ ReachT B y g.fr ∧ ReachT B g.to j)) ∧ Hid (BlkB BS wr S) ∧ Hid (Upd [] w wr)) (fun iv _ => B.eds.length - (intOf iv).toNat)
  case atStart => exact ⟨_, 0, Nat.zero_le _, rfl, Lib.hid ⟨by simp, fun j hj => by rw [List.getD_eq_getElem?_getD]; simp [hj]⟩, HK0, HU0⟩
  case round =>
    clear HK0 HU0
    obtain ⟨wo, rfl⟩ : ∃ wo : World, wo = wr := ⟨_, rfl⟩
    obtain ⟨S, k, hk, rfl, HI, HK, HU⟩ := hrel
    have zz := HU.out.keep HZ3.out
    by_cases hlt : k < B.eds.length
    · obtain ⟨eb, eo, rfl, -, -, p1, p2, p3⟩ := HC.out k hlt
      have p1 := HU.out.keep p1
      have p2 := HU.out.keep p2
      have p3 := HU.out.keep p3
      have hg := List.getElem_mem hlt
      have hil : (k : Int) < (B.eds.length : Int) := by omega
      have hbd := HBD.out _ hg
      have HTK := Lib.hid (show B.eds.take (k + 1) = B.eds.take k ++ [B.eds[k]] from List.take_succ_eq_append_getElem hlt)
      generalize B.eds[k] = g at *
      obtain ⟨g1, g2, g3⟩ := g
      simp only at p1 p2 p3 hbd
      obtain ⟨y1, rfl⟩ : ∃ N : Nat, g1 = N := ⟨g1.toNat, by omega⟩
      obtain ⟨y3, rfl⟩ : ∃ N : Nat, g3 = N := ⟨g3.toNat, by omega⟩
      have d1 : y1 < n := by have := HN.out; omega
      have d3 : y3 < n := by have := HN.out; omega
      have hyb1 : (y1 : Int) ≤ 40 := by omega
      have HNO := Lib.hid (fun (h : ¬ (g2 = lb ∧ ReachT B y y1)) => show S.length = n ∧ ∀ j : Nat, j < n → (S.getD j false = true ↔ ∃ g ∈ B.eds.take (k + 1), g.lb = lb ∧ ReachT B y g.fr ∧ ReachT B g.to j) from ⟨HI.out.1, fun j hj => by
        rw [HI.out.2 j hj, HTK.out]
        constructor
        · rintro ⟨g, hgm, hh⟩; exact ⟨g, List.mem_append_left _ hgm, hh⟩
        · rintro ⟨g, hgm, hh⟩
          rcases List.mem_append.1 hgm with h1 | h1
          · exact ⟨g, h1, hh⟩
          · simp at h1; subst h1; exact absurd ⟨hh.1, hh.2.1⟩ h⟩)
      obtain ⟨wB, hwB⟩ : ∃ wB, wB = wo.alloc (.cells #[.int .i64 y1, .int .i64 g2, .int .i64 y3] 74) := ⟨_, rfl⟩
      have UB : Upd [] wo wB := by rw [hwB]; exact (Upd.refl _ _).alloc _
      have HUB := Lib.hid (HU.out.trans UB)
      have HKB := Lib.hid (HK.out.upd UB (by simp))
      have t0 : wB.cell? ⟨wo.heap.size, 0, none⟩ = some (ei y1) := by rw [hwB]; exact cell_new wo _ _ _ rfl 0 _ rfl
      have t1 : wB.cell? ⟨wo.heap.size, 1, none⟩ = some (ei g2) := by rw [hwB]; exact cell_new wo _ _ _ rfl 1 _ rfl
      have t2 : wB.cell? ⟨wo.heap.size, 2, none⟩ = some (ei y3) := by rw [hwB]; exact cell_new wo _ _ _ rfl 2 _ rfl
      have HT2 := Lib.hid (fun W (hu : Upd [] wB W) => hu.keep t2)
      obtain ⟨b4, o4, c4, hv4, -, -, -, r2, -⟩ := flatF_cell (HM.out wB HUB.out) y y1 hy d1
      simp only [Value.slice.injEq, true_and] at hv4
      obtain ⟨rfl, rfl⟩ := hv4
      have hix2 : (y : Int) * (n : Int) + (y1 : Int) < (n : Int) * (n : Int) := by
        have h0 := idx_lt hy d1
        have h1 : ((y * n + y1 : Nat) : Int) < ((n * n : Nat) : Int) := by omega
        simpa using h1
      have hto : ((y : Int) * (n : Int) + (y1 : Int)).toNat = y * n + y1 := by
        have h1 : (y : Int) * (n : Int) + (y1 : Int) = ((y * n + y1 : Nat) : Int) := by simp
        rw [h1]; exact Int.toNat_natCast _
      have hbsl := HK.out.lt
      obtain ⟨BE, hBE⟩ : ∃ BE, BE = wo.heap.size := ⟨_, rfl⟩
      rw [← hBE] at t0 t1 t2 HT2 hbsl
      have HBB := Lib.hid hbsl
      clear hbsl
      have HEQ := Lib.hid (HSR.out y y1 hy d1)
      go_upto_region 13 with (fail)
      rw [← hwB, ← hBE]
      clear hwB hBE p1 p2 p3 HU HK hg hbd UB
      cases hl : (g2 == lb) with
      | false =>
        have hne : (g2 != lb) = true := by simp [bne, hl]
        have HI9 := Lib.hid (HNO.out (fun h => by rw [h.1] at hl; simp at hl))
        clear HNO HI
        go_wp2_with fail
        go_roundw
        case rel => exact ⟨S, k + 1, by omega, by go_num, HI9, HKB, HUB⟩
        case measure => simp [intOf]; omega
      | true =>
        have hne : (g2 != lb) = false := by simp [bne, hl]
        cases hf : F y y1 with
        | false =>
          rw [hf] at r2
          have HI9 := Lib.hid (HNO.out (fun h => by have := HEQ.out.2 h.2; rw [hf] at this; cases this))
          clear HNO HI
          go_wp2_with fail
          go_roundw
          case rel => exact ⟨S, k + 1, by omega, by go_num, HI9, HKB, HUB⟩
          case measure => simp [intOf]; omega
        | true =>
          rw [hf] at r2
          have HRY := Lib.hid (HEQ.out.1 hf)
          have hBEBS : BE ≠ BS := by
            have h1 := HBB.out
            omega
          have c1b := mul_bd (i := y3) (j := n) (n := n) (by omega) (Nat.le_refl _) hm
          have hb3 := c1b.1
          have hb4 := c1b.2.1
          clear HNO c1b
          go_wp2_with fail
          go_loopw [14] (fun jv wr => ∃ (S' : List Bool) (j : Nat), j ≤ n ∧ jv = .int .i64 j ∧ Hid (S'.length = n ∧ ∀ q : Nat, q < n → (S'.getD q false = true ↔ (S.getD q false = true ∨ (q < j ∧ F y3 q = true)))) ∧ Hid (BlkB BS wr S') ∧ Hid (Upd [] w wr) ∧ Hid (wr.cell? ⟨BE, 2, none⟩ = some (ei y3))) (fun jv _ => n - (intOf jv).toNat)
          case atStart => exact ⟨S, 0, Nat.zero_le _, rfl, Lib.hid ⟨HI.out.1, fun q hq => by simp⟩, HKB, HUB, Lib.hid t2⟩
          case round =>
            obtain ⟨wi, rfl⟩ : ∃ wi : World, wi = wr := ⟨_, rfl⟩
            obtain ⟨S', j, hj, rfl, HJ, HKJ, HUJ, HTJ⟩ := hrel
            have tj := HTJ.out
            by_cases hjl : j < n
            · obtain ⟨b5, o5, c5, hv5, -, -, -, r5, -⟩ := flatF_cell (HM.out wi HUJ.out) y3 j d3 hjl
              simp only [Value.slice.injEq, Option.some.injEq, Addr.mk.injEq, and_true, true_and] at hv5
              obtain ⟨⟨rfl, rfl⟩, rfl⟩ := hv5
              have hji : (j : Int) < (n : Int) := by omega
              have dj : j < S'.length := by have := HJ.out.1; omega
              have q1 := HKJ.out.cell j dj
              have qz := HKJ.out.frozen j
              have hix3 : (y3 : Int) * (n : Int) + (j : Int) < (n : Int) * (n : Int) := by
                have h0 := idx_lt d3 hjl
                have h1 : ((y3 * n + j : Nat) : Int) < ((n * n : Nat) : Int) := by omega
                simpa using h1
              have hto3 : ((y3 : Int) * (n : Int) + (j : Int)).toNat = y3 * n + j := by
                have h1 : (y3 : Int) * (n : Int) + (j : Int) = ((y3 * n + j : Nat) : Int) := by simp
                rw [h1]; exact Int.toNat_natCast _
              cases hfj : F y3 j with
              | false =>
                rw [hfj] at r5
                have HJ9 := Lib.hid (show S'.length = n ∧ ∀ q : Nat, q < n → (S'.getD q false = true ↔ (S.getD q false = true ∨ (q < j + 1 ∧ F y3 q = true))) from ⟨HJ.out.1, fun q hq => by
                  rw [HJ.out.2 q hq]
                  constructor
                  · rintro (h | ⟨h1, h2⟩)
                    · exact Or.inl h
                    · exact Or.inr ⟨by omega, h2⟩
                  · rintro (h | ⟨h1, h2⟩)
                    · exact Or.inl h
                    · by_cases e : q = j
                      · subst e; rw [hfj] at h2; cases h2
                      · exact Or.inr ⟨by omega, h2⟩⟩)
                clear HJ
                go_wp2_with fail
                go_roundw
                case rel => exact ⟨S', j + 1, by omega, by go_num, HJ9, HKJ, HUJ, HTJ⟩
                case measure => simp [intOf]; omega
              | true =>
                rw [hfj] at r5
                have HJ9 := Lib.hid (show (S'.set j true).length = n ∧ ∀ q : Nat, q < n → ((S'.set j true).getD q false = true ↔ (S.getD q false = true ∨ (q < j + 1 ∧ F y3 q = true))) from ⟨by simpa using HJ.out.1, fun q hq => by
                  rw [getD_set S' j q true dj]
                  split
                  · rename_i h; subst h
                    exact ⟨fun _ => Or.inr ⟨by omega, hfj⟩, fun _ => rfl⟩
                  · rename_i h
                    rw [HJ.out.2 q hq]
                    constructor
                    · rintro (h | ⟨h1, h2⟩)
                      · exact Or.inl h
                      · exact Or.inr ⟨by omega, h2⟩
                    · rintro (h | ⟨h1, h2⟩)
                      · exact Or.inl h
                      · exact Or.inr ⟨by omega, h2⟩⟩)
                have HK9 := Lib.hid (HKJ.out.set j true)
                have HU9 := Lib.hid (HUJ.out.setCell (p := ⟨BS, j, none⟩) (Or.inl (by rw [HBS.out]; exact Nat.le_refl _)) (.bool true))
                have HT9 := Lib.hid (show (wi.setCell ⟨BS, j, none⟩ (.bool true)).cell? ⟨BE, 2, none⟩ = some (ei y3) by rw [World.cell?_setCell_other _ _ _ _ (by simp)]; exact HTJ.out)
                clear HJ HKJ HUJ
                go_wp2_with fail
                go_roundw
                case rel => exact ⟨_, j + 1, by omega, by go_num, HJ9, HK9, HU9, HT9⟩
                case measure => simp [intOf]; omega
            · obtain rfl : j = n := by omega
              have HI9 := Lib.hid (show S'.length = j ∧ ∀ q : Nat, q < j → (S'.getD q false = true ↔ ∃ g ∈ B.eds.take (k + 1), g.lb = lb ∧ ReachT B y g.fr ∧ ReachT B g.to q) from ⟨HJ.out.1, fun q hq => by
                rw [HJ.out.2 q hq, HI.out.2 q hq, HTK.out]
                have hgl : g2 = lb := by simpa using hl
                constructor
                · rintro (⟨g, hgm, hh⟩ | ⟨-, h2⟩)
                  · exact ⟨g, List.mem_append_left _ hgm, hh⟩
                  · exact ⟨⟨y1, g2, y3⟩, by simp, hgl, HRY.out, (HSR.out y3 q d3 hq).1 h2⟩
                · rintro ⟨g, hgm, hh⟩
                  rcases List.mem_append.1 hgm with h1 | h1
                  · exact Or.inl ⟨g, h1, hh⟩
                  · simp at h1; subst h1; exact Or.inr ⟨hq, (HSR.out y3 q d3 hq).2 hh.2.2⟩⟩)
              clear HJ HI
              go_wp2_with fail
              go_roundw
              case rel => exact ⟨S', k + 1, by omega, by go_num, HI9, HKJ, HUJ⟩
              case measure => simp [intOf]; omega
    · obtain rfl : k = B.eds.length := by omega
      have HE := Lib.hid (show ∀ j : Nat, j < n → (S.getD j false = true ↔ StepR B y lb j) from fun j hj => by
        rw [HI.out.2 j hj, List.take_length]
        unfold StepR
        simp [HLB.out])
      have HL := Lib.hid HI.out.1
      clear HI
      go_wp2_with fail
      go_ret
      exact ⟨⟨BS, S, by rw [HL.out]; rfl, HK.out, HL.out, HE.out⟩, HU.out⟩

end Go.Proofs.YtcnaapiljmgfoaaGreatDoor

/-
  Relations between systems, the program's pairsOk: a set of pairs out of a strictly rising list. (The drawn region's ways are printed by tools/genbisp.py.)
-/
namespace Go.Proofs.YtcnaapiljmgfoaaGreatDoor
open Go.RowKit Go.Maps

def pairsOf (R : List (List Int)) : List (Int × Int) := R.map fun p => (p.getD 0 0, p.getD 1 0)
theorem pairsOf_step (R : List (List Int)) (k : Nat) (h : k < R.length) : pairsOf (R.take (k + 1)) = pairsOf (R.take k) ++ [(R[k].getD 0 0, R[k].getD 1 0)] := by
  unfold pairsOf
  rw [List.take_succ_eq_append_getElem h, List.map_append]; rfl
/-- what the program's pairsOk leaves. -/
def PairsOkP (R : List (List Int)) (sa sb : Int) (w : World) (e : Ending) (w' : World) : Prop :=
  (pairsF R sa sb = false ∧ e = .returned (.tuple #[.map none, .bool false])) ∨
  (pairsF R sa sb = true ∧ ∃ (b n : Nat) (D : DataW Unit), e = .returned (.tuple #[.map (some b), .bool true]) ∧ w.heap.size ≤ b ∧ w'.ownsMap Tryz.prog 108 ElB b n D ∧ PMap (pairsOf R) D)

set_option maxRecDepth 20000 in
set_option maxHeartbeats 16000000 in
theorem pairsOkI (sa ia sb ib : Int) (a1 a2 b1 b2 v : Value) (R : List (List Int)) (w : World) (fr : List Nat) (hR : R_N2 fr w [v] R) (ha0 : 1 ≤ sa) (ha1 : sa ≤ 40) (hb0 : 1 ≤ sb) (hb1 : sb ≤ 40) (hR9 : R.length ≤ 2000000) :
    Calls Tryz.prog 90 #[.agg #[ei sa, ei ia, a1, a2], .agg #[ei sb, ei ib, b1, b2], v] w fun e w' => PairsOkP R sa sb w e w' ∧ Upd [] w w' := by
  obtain ⟨av, cap, rfl, l1, l2, hc⟩ := slP_open hR
  unfold maxLen at l2
  have HC := Lib.hid hc
  have HR9 := Lib.hid hR9
  have HA := Lib.hid (show pairsF R sa sb = allF (pairP R sa sb) 0 R.length from rfl)
  obtain ⟨wA, hwA⟩ : ∃ wA, wA = (w.alloc (.cells #[ei sa, ei ia, a1, a2] 32)).alloc (.cells #[ei sb, ei ib, b1, b2] 32) := ⟨_, rfl⟩
  have HUA := Lib.hid (show Upd [] w wA by rw [hwA]; exact ((Upd.refl _ _).alloc _).alloc _)
  have HZ := Lib.hid (show ∀ W, Upd [] wA W → SysAt w.heap.size W sa ia a1 a2 ∧ SysAt (w.heap.size + 1) W sb ib b1 b2 from fun W hu => by
    have s1 : SysAt w.heap.size (w.alloc (.cells #[ei sa, ei ia, a1, a2] 32)) sa ia a1 a2 := heap_alloc_new w _
    have s2 : SysAt (w.alloc (.cells #[ei sa, ei ia, a1, a2] 32)).heap.size wA sb ib b1 b2 := by rw [hwA]; exact heap_alloc_new _ _
    have s3 : SysAt w.heap.size wA sa ia a1 a2 := by rw [hwA]; exact s1.upd ((Upd.refl [] _).alloc _) (by simp)
    refine ⟨s3.upd hu (by simp), ?_⟩
    have := s2.upd hu (by simp)
    simpa using this)
  have hszA : wA.heap.size = w.heap.size + 2 := by rw [hwA]; simp
  obtain ⟨BA, hBA⟩ : ∃ BA, BA = w.heap.size := ⟨_, rfl⟩
  obtain ⟨BB, hBB⟩ : ∃ BB, BB = BA + 1 := ⟨_, rfl⟩
  obtain ⟨BM, hBM⟩ : ∃ BM, BM = wA.heap.size := ⟨_, rfl⟩
  have HBM := Lib.hid (show w.heap.size ≤ BM by omega)
  have HBMA := Lib.hid hBM
  rw [← hBA] at HZ
  rw [← hBB] at HZ
  have IA0 := Lib.hid (fun (n : Int) W => isStateI sa ia a1 a2 n W ha0 ha1)
  have IB0 := Lib.hid (fun (n : Int) W => isStateI sb ib b1 b2 n W hb0 hb1)
  have HI0 := Lib.hid (fun (x : Int) (h : inB x 0 (sa - 1) = true) => in64_of (a := x) (by have := inB_true h; omega))
  have HI1 := Lib.hid (fun (x : Int) (h : inB x 0 (sb - 1) = true) => in64_of (a := x) (by have := inB_true h; omega))
  have hmm := @run_makeMap Tryz.prog
  have HMAP := Lib.hid (World.ownsMap_made wA Tryz.prog 108 ElB)
  rw [← hBM] at HMAP
  clear hR hc hR9 hszA ha0 ha1 hb0 hb1
  go_enter Tryz.func90, Tryz.ntmps90
  go_upto_region 1 with (fail)
  rw [← hwA, ← hBA]
  rw [← hBB]
  clear hwA hBA hBB
  go_wp2_with fail
  rw [← hBM]
  clear hBM hmm
  go_loopw [14] (fun iv wr => ∃ (k : Nat) (D : DataW Unit), k ≤ R.length ∧ iv = .int .i64 k ∧ Hid (allF (pairP R sa sb) k (R.length - k) = pairsF R sa sb) ∧ Hid (Upd [] wA wr) ∧ Hid (wr.ownsMap Tryz.prog 108 ElB BM k D) ∧ Hid (PMap (pairsOf (R.take k)) D)) (fun iv _ => R.length - (intOf iv).toNat)
  case atStart => exact ⟨0, _, Nat.zero_le _, rfl, Lib.hid (by rw [HA.out]; rfl), Lib.hid ((Upd.refl _ _).alloc _), HMAP, Lib.hid PMap.empty⟩
  case round =>
    clear HA HMAP
    obtain ⟨wo, rfl⟩ : ∃ wo : World, wo = wr := ⟨_, rfl⟩
    obtain ⟨k, D, hk, rfl, HF, HU, HM, HP⟩ := hrel
    by_cases hlt : k < R.length
    · obtain ⟨bb, off, u, fr2, hbb, -, -, hcell, -, hr⟩ := HC.out k hlt
      subst hbb
      have q0 := HU.out.keep (HUA.out.keep hcell)
      have gk : R.getD k [] = R[k] := by rw [List.getD_eq_getElem?_getD, List.getElem?_eq_getElem hlt]; rfl
      have hF := HF.out
      rw [allF_step _ k R.length hlt] at hF
      unfold pairP at hF
      rw [gk] at hF
      have hkl : (k : Int) < (R.length : Int) := by omega
      have HRK := Lib.hid (R1k.upd (R1k.upd hr HUA.out (by simp)) HU.out (by simp))
      obtain ⟨ra, rc, hu, m1, m2, hcs⟩ := slF1_open hr
      subst hu
      unfold maxLen at m2
      obtain ⟨⟨za0, za1, za2, za3, -⟩, ⟨zb0, zb1, zb2, zb3, -⟩⟩ := And.intro (HZ.out wo HU.out).1.facts (HZ.out wo HU.out).2.facts
      by_cases h2 : R[k].length = 2
      · obtain ⟨b2r, o2r, rfl, -, -, p1⟩ := hcs 0 (by omega)
        obtain ⟨b2', o2', hb2, -, -, p2⟩ := hcs 1 (by omega)
        cases hb2
        have q1 := HU.out.keep (HUA.out.keep p1)
        have q2 := HU.out.keep (HUA.out.keep p2)
        rw [Nat.add_zero] at q1
        have e0 : R[k].getD 0 0 = R[k][0] := by rw [List.getD_eq_getElem?_getD, List.getElem?_eq_getElem (by omega)]; rfl
        have e1 : R[k].getD 1 0 = R[k][1] := by rw [List.getD_eq_getElem?_getD, List.getElem?_eq_getElem (by omega)]; rfl
        rw [e0, e1] at hF
        have hst := pairsOf_step R k hlt
        rw [e0, e1] at hst
        have HST := Lib.hid hst
        have HK := Lib.hid (show 0 < k → ∃ (u : Value) (f : List Nat), wo.cell? ⟨bb, off + (k - 1), none⟩ = some u ∧ R1 f wo [u] (R.getD (k - 1) []) from fun h0 => by
          have hl1 : k - 1 < R.length := by omega
          obtain ⟨b9, o9, u9, f9, h9, -, -, c9, -, r9⟩ := HC.out (k - 1) hl1
          cases h9
          refine ⟨u9, f9, HU.out.keep (HUA.out.keep c9), ?_⟩
          rw [List.getD_eq_getElem?_getD, List.getElem?_eq_getElem hl1]
          exact R1k.upd (R1k.upd r9 HUA.out (by simp)) HU.out (by simp))
        rw [h2] at q0
        have hF2 : (true && inB R[k][0] 0 (sa - 1) && inB R[k][1] 0 (sb - 1) && (decide (k = 0) || decide (cmpQ (R.getD (k - 1) []) R[k] < 0)) && allF (pairP R sa sb) (k + 1) (R.length - (k + 1))) = pairsF R sa sb := by
          rw [← hF, show (R[k].length == 2) = true from by simpa using h2]
          rfl
        have HFF := Lib.hid hF2
        clear hF2 hst
        have SC := Lib.hid (fun (u : Value) (f : List Nat) (p : List Int) (hp : R1 f wo [u] p) (W : World) (hu : Upd [] wo W) => compareSl u (.slice (some ⟨b2r, o2r, none⟩) R[k].length rc) p R[k] W f fr2 (R1k.upd hp hu (by simp)) (R1k.upd HRK.out hu (by simp)))
        rw [h2] at SC
        have IA := Lib.hid (fun W (_ : Upd [] wo W) => IA0.out R[k][0] W)
        have IB := Lib.hid (fun W (_ : Upd [] wo W) => IB0.out R[k][1] W)
        clear hF HF gk hcs p1 p2 e0 e1 hr hcell m1 HRK
        generalize hP0 : R[k][0] = P0 at *
        generalize hP1 : R[k][1] = P1 at *
        clear hP0 hP1
        cases hi1 : inB P0 0 (sa - 1) with
        | false =>
          rw [hi1] at IA
          have HE := Lib.hid (show pairsF R sa sb = false by rw [← HFF.out, hi1]; simp)
          clear HFF hi1 SC HK IB
          go_upto_region 5 with (fail)
          refine wp_region_held_drew (S := fun w' => w'.cell? ⟨BA, 0, none⟩ = some (ei sa) ∧ w'.cell? ⟨BA, 1, none⟩ = some (ei ia) ∧ w'.cell? ⟨BA, 2, none⟩ = some a1 ∧ w'.cell? ⟨BA, 3, none⟩ = some a2 ∧ w'.cell? ⟨BB, 0, none⟩ = some (ei sb) ∧ w'.cell? ⟨BB, 1, none⟩ = some (ei ib) ∧ w'.cell? ⟨BB, 2, none⟩ = some b1 ∧ w'.cell? ⟨BB, 3, none⟩ = some b2 ∧ w'.cell? ⟨b2r, o2r, none⟩ = some (ei P0) ∧ w'.cell? ⟨b2r, o2r + 1, none⟩ = some (ei P1)) (by kernel_rfl) ?_ (fun hHeld => ?_)
          · exact ⟨za0, za1, za2, za3, zb0, zb1, zb2, zb3, q1, q2⟩
          refine wpAnyH_take (i := 0) (v := ?_) rfl (by kernel_rfl) (by kernel_rfl) (by kernel_rfl) (fun _ _ _ h => h) (Or.inl ⟨by rfl, ?_⟩) (by assumption) ?_
          rotate_left
          · (intro w hSw; (try dsimp only at hSw); go_simp)
            first | done | with_reducible rfl
          simp only [Act.put, List.getElem_toArray, List.getElem_cons_zero, List.setIfInBounds_toArray, List.set_cons_zero, List.set_cons_succ]
          refine wpAnyH_take (i := 1) (v := ?_) rfl (by kernel_rfl) (by kernel_rfl) (by kernel_rfl) (fun _ _ _ h => h) (Or.inl ⟨by rfl, ?_⟩) (by assumption) ?_
          rotate_left
          · (intro w hSw; (try dsimp only at hSw); go_simp)
            first | done | with_reducible rfl
          simp only [Act.put, List.getElem_toArray, List.getElem_cons_zero, List.getElem_cons_succ, List.setIfInBounds_toArray, List.set_cons_zero, List.set_cons_succ]
          refine wpAnyH_take (i := 2) (v := ?_) rfl (by kernel_rfl) (by kernel_rfl) (by kernel_rfl) (fun _ _ _ h => h) (Or.inl ⟨by rfl, ?_⟩) (by assumption) ?_
          rotate_left
          · (intro w hSw; (try dsimp only at hSw); go_simp)
            first | done | with_reducible rfl
          simp only [Act.put, List.getElem_toArray, List.getElem_cons_zero, List.getElem_cons_succ, List.setIfInBounds_toArray, List.set_cons_zero, List.set_cons_succ]
          refine wpAnyH_take (i := 3) (v := ?_) rfl (by kernel_rfl) (by kernel_rfl) (by kernel_rfl) (fun _ _ _ h => h) (Or.inl ⟨by rfl, ?_⟩) (by assumption) ?_
          rotate_left
          · (intro w hSw; (try dsimp only at hSw); go_simp)
            first | done | with_reducible rfl
          simp only [Act.put, List.getElem_toArray, List.getElem_cons_zero, List.getElem_cons_succ, List.setIfInBounds_toArray, List.set_cons_zero, List.set_cons_succ]
          refine wpAnyH_take (i := 4) (v := ?_) rfl (by kernel_rfl) (by kernel_rfl) (by kernel_rfl) (fun _ _ _ h => h) (Or.inl ⟨by rfl, ?_⟩) (by assumption) ?_
          rotate_left
          · (intro w hSw; (try dsimp only at hSw); go_simp)
            first | done | with_reducible rfl
          simp only [Act.put, List.getElem_toArray, List.getElem_cons_zero, List.getElem_cons_succ, List.setIfInBounds_toArray, List.set_cons_zero, List.set_cons_succ]
          refine wpAnyH_take (i := 5) (v := ?_) rfl (by kernel_rfl) (by kernel_rfl) (by kernel_rfl) (fun _ _ _ h => h) (Or.inl ⟨by rfl, ?_⟩) (by assumption) ?_
          rotate_left
          · (intro w hSw; (try dsimp only at hSw); go_simp)
            first | done | with_reducible rfl
          simp only [Act.put, List.getElem_toArray, List.getElem_cons_zero, List.getElem_cons_succ, List.setIfInBounds_toArray, List.set_cons_zero, List.set_cons_succ]
          refine wpAnyH_take (i := 6) (v := ?_) rfl (by kernel_rfl) (by kernel_rfl) (by kernel_rfl) (fun _ _ _ h => h) (Or.inl ⟨by rfl, ?_⟩) (by assumption) ?_
          rotate_left
          · (intro w hSw; (try dsimp only at hSw); go_simp)
            first | done | with_reducible rfl
          simp only [Act.put, List.getElem_toArray, List.getElem_cons_zero, List.getElem_cons_succ, List.setIfInBounds_toArray, List.set_cons_zero, List.set_cons_succ]
          refine wpAnyH_take (i := 7) (v := ?_) rfl (by kernel_rfl) (by kernel_rfl) (by kernel_rfl) (fun _ _ _ h => h) (Or.inl ⟨by rfl, ?_⟩) (by assumption) ?_
          rotate_left
          · (intro w hSw; (try dsimp only at hSw); go_simp)
            first | done | with_reducible rfl
          simp only [Act.put, List.getElem_toArray, List.getElem_cons_zero, List.getElem_cons_succ, List.setIfInBounds_toArray, List.set_cons_zero, List.set_cons_succ]
          refine wpAnyH_ready (rs := [8]) (by kernel_rfl) (by simp) ?_
          refine AllReadyH.cons rfl (fun K hK => ?_) AllReadyH.nil
          go_simp
          refine (IA.out _ ((Upd.refl [] wo).drew)).mono ?_
          rintro e w8 ⟨rfl, hu1⟩
          have hv1 : Upd [] wo w8 := (Upd.refl [] wo).drew.trans hu1
          refine hK.out _ _ ?_ (fun hHeld => ?_)
          · exact ⟨hu1.keep hHeld.1, hu1.keep hHeld.2.1, hu1.keep hHeld.2.2.1, hu1.keep hHeld.2.2.2.1, hu1.keep hHeld.2.2.2.2.1, hu1.keep hHeld.2.2.2.2.2.1, hu1.keep hHeld.2.2.2.2.2.2.1, hu1.keep hHeld.2.2.2.2.2.2.2.1, hu1.keep hHeld.2.2.2.2.2.2.2.2.1, hu1.keep hHeld.2.2.2.2.2.2.2.2.2⟩
          clear hK K
          try simp only [Act.put, List.getElem_toArray, List.getElem_cons_zero, List.getElem_cons_succ, List.setIfInBounds_toArray, List.set_cons_zero, List.set_cons_succ]
          refine wpAnyH_take (i := 9) (v := ?_) rfl (by kernel_rfl) (by kernel_rfl) (by kernel_rfl) (fun _ _ _ h => h) (Or.inl ⟨by rfl, ?_⟩) (by assumption) ?_
          rotate_left
          · (intro w hSw; (try dsimp only at hSw); go_simp)
            first | done | with_reducible rfl
          simp only [Act.put, List.getElem_toArray, List.getElem_cons_zero, List.getElem_cons_succ, List.setIfInBounds_toArray, List.set_cons_zero, List.set_cons_succ]
          refine wpAnyH_take (i := 10) (v := ?_) rfl (by kernel_rfl) (by kernel_rfl) (by kernel_rfl) (fun _ _ _ h => h) (Or.inl ⟨by rfl, ?_⟩) (by assumption) ?_
          rotate_left
          · (intro w hSw; (try dsimp only at hSw); go_simp)
            first | done | with_reducible rfl
          simp only [Act.put, List.getElem_toArray, List.getElem_cons_zero, List.getElem_cons_succ, List.setIfInBounds_toArray, List.set_cons_zero, List.set_cons_succ]
          refine wpAnyH_take (i := 11) (v := ?_) rfl (by kernel_rfl) (by kernel_rfl) (by kernel_rfl) (fun _ _ _ h => h) (Or.inl ⟨by rfl, ?_⟩) (by assumption) ?_
          rotate_left
          · (intro w hSw; (try dsimp only at hSw); go_simp)
            first | done | with_reducible rfl
          simp only [Act.put, List.getElem_toArray, List.getElem_cons_zero, List.getElem_cons_succ, List.setIfInBounds_toArray, List.set_cons_zero, List.set_cons_succ]
          refine wpAnyH_take (i := 12) rfl (by kernel_rfl) (by kernel_rfl) (by kernel_rfl) (fun _ _ _ h => h) (Or.inr ⟨by rfl, rfl⟩) (by assumption) ?_
          simp only [Act.put, List.getElem_toArray, List.getElem_cons_zero, List.getElem_cons_succ, List.setIfInBounds_toArray, List.set_cons_zero, List.set_cons_succ]
          refine wpAnyH_take (i := 13) rfl (by kernel_rfl) (by kernel_rfl) (by kernel_rfl) (fun _ _ _ h => h) (Or.inr ⟨by rfl, rfl⟩) (by assumption) ?_
          simp only [Act.put, List.getElem_toArray, List.getElem_cons_zero, List.getElem_cons_succ, List.setIfInBounds_toArray, List.set_cons_zero, List.set_cons_succ]
          refine wpAnyH_take (i := 14) rfl (by kernel_rfl) (by kernel_rfl) (by kernel_rfl) (fun _ _ _ h => h) (Or.inr ⟨by rfl, rfl⟩) (by assumption) ?_
          simp only [Act.put, List.getElem_toArray, List.getElem_cons_zero, List.getElem_cons_succ, List.setIfInBounds_toArray, List.set_cons_zero, List.set_cons_succ]
          refine wpAnyH_take (i := 15) rfl (by kernel_rfl) (by kernel_rfl) (by kernel_rfl) (fun _ _ _ h => h) (Or.inr ⟨by rfl, rfl⟩) (by assumption) ?_
          simp only [Act.put, List.getElem_toArray, List.getElem_cons_zero, List.getElem_cons_succ, List.setIfInBounds_toArray, List.set_cons_zero, List.set_cons_succ]
          refine wpAnyH_take (i := 16) rfl (by kernel_rfl) (by kernel_rfl) (by kernel_rfl) (fun _ _ _ h => h) (Or.inr ⟨by rfl, rfl⟩) (by assumption) ?_
          simp only [Act.put, List.getElem_toArray, List.getElem_cons_zero, List.getElem_cons_succ, List.setIfInBounds_toArray, List.set_cons_zero, List.set_cons_succ]
          refine wpAnyH_take (i := 17) rfl (by kernel_rfl) (by kernel_rfl) (by kernel_rfl) (fun _ _ _ h => h) (Or.inr ⟨by rfl, rfl⟩) (by assumption) ?_
          simp only [Act.put, List.getElem_toArray, List.getElem_cons_zero, List.getElem_cons_succ, List.setIfInBounds_toArray, List.set_cons_zero, List.set_cons_succ]
          refine wpAnyH_take (i := 18) (v := ?_) rfl (by kernel_rfl) (by kernel_rfl) (by kernel_rfl) (fun _ _ _ h => h) (Or.inl ⟨by rfl, ?_⟩) (by assumption) ?_
          rotate_left
          · (intro w hSw; (try dsimp only at hSw); go_simp)
            first | done | with_reducible rfl
          simp only [Act.put, List.getElem_toArray, List.getElem_cons_zero, List.getElem_cons_succ, List.setIfInBounds_toArray, List.set_cons_zero, List.set_cons_succ]
          refine wpAnyH_take (i := 19) (v := ?_) rfl (by kernel_rfl) (by kernel_rfl) (by kernel_rfl) (fun _ _ _ h => h) (Or.inl ⟨by rfl, ?_⟩) (by assumption) ?_
          rotate_left
          · (intro w hSw; (try dsimp only at hSw); go_simp)
            first | done | with_reducible rfl
          simp only [Act.put, List.getElem_toArray, List.getElem_cons_zero, List.getElem_cons_succ, List.setIfInBounds_toArray, List.set_cons_zero, List.set_cons_succ]
          refine wpAnyH_take (i := 20) rfl (by kernel_rfl) (by kernel_rfl) (by kernel_rfl) (fun _ _ _ h => h) (Or.inr ⟨by rfl, rfl⟩) (by assumption) ?_
          simp only [Act.put, List.getElem_toArray, List.getElem_cons_zero, List.getElem_cons_succ, List.setIfInBounds_toArray, List.set_cons_zero, List.set_cons_succ]
          refine wpAnyH_take (i := 21) rfl (by kernel_rfl) (by kernel_rfl) (by kernel_rfl) (fun _ _ _ h => h) (Or.inr ⟨by rfl, rfl⟩) (by assumption) ?_
          simp only [Act.put, List.getElem_toArray, List.getElem_cons_zero, List.getElem_cons_succ, List.setIfInBounds_toArray, List.set_cons_zero, List.set_cons_succ]
          refine wpAnyH_take (i := 22) rfl (by kernel_rfl) (by kernel_rfl) (by kernel_rfl) (fun _ _ _ h => h) (Or.inr ⟨by rfl, rfl⟩) (by assumption) ?_
          simp only [Act.put, List.getElem_toArray, List.getElem_cons_zero, List.getElem_cons_succ, List.setIfInBounds_toArray, List.set_cons_zero, List.set_cons_succ]
          refine wpAnyH_take (i := 23) rfl (by kernel_rfl) (by kernel_rfl) (by kernel_rfl) (fun _ _ _ h => h) (Or.inr ⟨by rfl, rfl⟩) (by assumption) ?_
          simp only [Act.put, List.getElem_toArray, List.getElem_cons_zero, List.getElem_cons_succ, List.setIfInBounds_toArray, List.set_cons_zero, List.set_cons_succ]
          refine wpAnyH_take (i := 24) rfl (by kernel_rfl) (by kernel_rfl) (by kernel_rfl) (fun _ _ _ h => h) (Or.inr ⟨by rfl, rfl⟩) (by assumption) ?_
          simp only [Act.put, List.getElem_toArray, List.getElem_cons_zero, List.getElem_cons_succ, List.setIfInBounds_toArray, List.set_cons_zero, List.set_cons_succ]
          refine wpAnyH_take (i := 25) rfl (by kernel_rfl) (by kernel_rfl) (by kernel_rfl) (fun _ _ _ h => h) (Or.inr ⟨by rfl, rfl⟩) (by assumption) ?_
          simp only [Act.put, List.getElem_toArray, List.getElem_cons_zero, List.getElem_cons_succ, List.setIfInBounds_toArray, List.set_cons_zero, List.set_cons_succ]
          refine wpAnyH_take (i := 26) rfl (by kernel_rfl) (by kernel_rfl) (by kernel_rfl) (fun _ _ _ h => h) (Or.inr ⟨by rfl, rfl⟩) (by assumption) ?_
          simp only [Act.put, List.getElem_toArray, List.getElem_cons_zero, List.getElem_cons_succ, List.setIfInBounds_toArray, List.set_cons_zero, List.set_cons_succ]
          refine wpAnyH_take (i := 27) rfl (by kernel_rfl) (by kernel_rfl) (by kernel_rfl) (fun _ _ _ h => h) (Or.inr ⟨by rfl, rfl⟩) (by assumption) ?_
          simp only [Act.put, List.getElem_toArray, List.getElem_cons_zero, List.getElem_cons_succ, List.setIfInBounds_toArray, List.set_cons_zero, List.set_cons_succ]
          refine wpAnyH_take (i := 28) rfl (by kernel_rfl) (by kernel_rfl) (by kernel_rfl) (fun _ _ _ h => h) (Or.inr ⟨by rfl, rfl⟩) (by assumption) ?_
          simp only [Act.put, List.getElem_toArray, List.getElem_cons_zero, List.getElem_cons_succ, List.setIfInBounds_toArray, List.set_cons_zero, List.set_cons_succ]
          refine wpAnyH_take (i := 29) rfl (by kernel_rfl) (by kernel_rfl) (by kernel_rfl) (fun _ _ _ h => h) (Or.inr ⟨by rfl, rfl⟩) (by assumption) ?_
          simp only [Act.put, List.getElem_toArray, List.getElem_cons_zero, List.getElem_cons_succ, List.setIfInBounds_toArray, List.set_cons_zero, List.set_cons_succ]
          refine wpAnyH_take (i := 30) rfl (by kernel_rfl) (by kernel_rfl) (by kernel_rfl) (fun _ _ _ h => h) (Or.inr ⟨by rfl, rfl⟩) (by assumption) ?_
          simp only [Act.put, List.getElem_toArray, List.getElem_cons_zero, List.getElem_cons_succ, List.setIfInBounds_toArray, List.set_cons_zero, List.set_cons_succ]
          refine wpAnyH_take (i := 31) rfl (by kernel_rfl) (by kernel_rfl) (by kernel_rfl) (fun _ _ _ h => h) (Or.inr ⟨by rfl, rfl⟩) (by assumption) ?_
          simp only [Act.put, List.getElem_toArray, List.getElem_cons_zero, List.getElem_cons_succ, List.setIfInBounds_toArray, List.set_cons_zero, List.set_cons_succ]
          refine wpAnyH_take (i := 32) (v := ?_) rfl (by kernel_rfl) (by kernel_rfl) (by kernel_rfl) (fun _ _ _ h => h) (Or.inl ⟨by rfl, ?_⟩) (by assumption) ?_
          rotate_left
          · (intro w hSw; (try dsimp only at hSw); go_simp)
            first | done | with_reducible rfl
          simp only [Act.put, List.getElem_toArray, List.getElem_cons_zero, List.getElem_cons_succ, List.setIfInBounds_toArray, List.set_cons_zero, List.set_cons_succ]
          refine wpAnyH_done (by kernel_rfl) ?_ _
          have HU9 := Lib.hid (HU.out.trans hv1)
          clear HU hHeld q1 q2 za0 za1 za2 za3 zb0 zb1 zb2 zb3
          go_wp2_with fail
          go_ret2
          exact ⟨Or.inl ⟨HE.out, rfl⟩, HUA.out.trans HU9.out⟩
        | true =>
          rw [hi1] at IA
          cases hi2 : inB P1 0 (sb - 1) with
          | false =>
            rw [hi2] at IB
            have HE := Lib.hid (show pairsF R sa sb = false by rw [← HFF.out, hi1, hi2]; simp)
            clear HFF hi1 hi2 SC HK
            go_upto_region 5 with (fail)
            refine wp_region_held_drew (S := fun w' => w'.cell? ⟨BA, 0, none⟩ = some (ei sa) ∧ w'.cell? ⟨BA, 1, none⟩ = some (ei ia) ∧ w'.cell? ⟨BA, 2, none⟩ = some a1 ∧ w'.cell? ⟨BA, 3, none⟩ = some a2 ∧ w'.cell? ⟨BB, 0, none⟩ = some (ei sb) ∧ w'.cell? ⟨BB, 1, none⟩ = some (ei ib) ∧ w'.cell? ⟨BB, 2, none⟩ = some b1 ∧ w'.cell? ⟨BB, 3, none⟩ = some b2 ∧ w'.cell? ⟨b2r, o2r, none⟩ = some (ei P0) ∧ w'.cell? ⟨b2r, o2r + 1, none⟩ = some (ei P1)) (by kernel_rfl) ?_ (fun hHeld => ?_)
            · exact ⟨za0, za1, za2, za3, zb0, zb1, zb2, zb3, q1, q2⟩
            refine wpAnyH_take (i := 0) (v := ?_) rfl (by kernel_rfl) (by kernel_rfl) (by kernel_rfl) (fun _ _ _ h => h) (Or.inl ⟨by rfl, ?_⟩) (by assumption) ?_
            rotate_left
            · (intro w hSw; (try dsimp only at hSw); go_simp)
              first | done | with_reducible rfl
            simp only [Act.put, List.getElem_toArray, List.getElem_cons_zero, List.setIfInBounds_toArray, List.set_cons_zero, List.set_cons_succ]
            refine wpAnyH_take (i := 1) (v := ?_) rfl (by kernel_rfl) (by kernel_rfl) (by kernel_rfl) (fun _ _ _ h => h) (Or.inl ⟨by rfl, ?_⟩) (by assumption) ?_
            rotate_left
            · (intro w hSw; (try dsimp only at hSw); go_simp)
              first | done | with_reducible rfl
            simp only [Act.put, List.getElem_toArray, List.getElem_cons_zero, List.getElem_cons_succ, List.setIfInBounds_toArray, List.set_cons_zero, List.set_cons_succ]
            refine wpAnyH_take (i := 2) (v := ?_) rfl (by kernel_rfl) (by kernel_rfl) (by kernel_rfl) (fun _ _ _ h => h) (Or.inl ⟨by rfl, ?_⟩) (by assumption) ?_
            rotate_left
            · (intro w hSw; (try dsimp only at hSw); go_simp)
              first | done | with_reducible rfl
            simp only [Act.put, List.getElem_toArray, List.getElem_cons_zero, List.getElem_cons_succ, List.setIfInBounds_toArray, List.set_cons_zero, List.set_cons_succ]
            refine wpAnyH_take (i := 3) (v := ?_) rfl (by kernel_rfl) (by kernel_rfl) (by kernel_rfl) (fun _ _ _ h => h) (Or.inl ⟨by rfl, ?_⟩) (by assumption) ?_
            rotate_left
            · (intro w hSw; (try dsimp only at hSw); go_simp)
              first | done | with_reducible rfl
            simp only [Act.put, List.getElem_toArray, List.getElem_cons_zero, List.getElem_cons_succ, List.setIfInBounds_toArray, List.set_cons_zero, List.set_cons_succ]
            refine wpAnyH_take (i := 4) (v := ?_) rfl (by kernel_rfl) (by kernel_rfl) (by kernel_rfl) (fun _ _ _ h => h) (Or.inl ⟨by rfl, ?_⟩) (by assumption) ?_
            rotate_left
            · (intro w hSw; (try dsimp only at hSw); go_simp)
              first | done | with_reducible rfl
            simp only [Act.put, List.getElem_toArray, List.getElem_cons_zero, List.getElem_cons_succ, List.setIfInBounds_toArray, List.set_cons_zero, List.set_cons_succ]
            refine wpAnyH_take (i := 5) (v := ?_) rfl (by kernel_rfl) (by kernel_rfl) (by kernel_rfl) (fun _ _ _ h => h) (Or.inl ⟨by rfl, ?_⟩) (by assumption) ?_
            rotate_left
            · (intro w hSw; (try dsimp only at hSw); go_simp)
              first | done | with_reducible rfl
            simp only [Act.put, List.getElem_toArray, List.getElem_cons_zero, List.getElem_cons_succ, List.setIfInBounds_toArray, List.set_cons_zero, List.set_cons_succ]
            refine wpAnyH_take (i := 6) (v := ?_) rfl (by kernel_rfl) (by kernel_rfl) (by kernel_rfl) (fun _ _ _ h => h) (Or.inl ⟨by rfl, ?_⟩) (by assumption) ?_
            rotate_left
            · (intro w hSw; (try dsimp only at hSw); go_simp)
              first | done | with_reducible rfl
            simp only [Act.put, List.getElem_toArray, List.getElem_cons_zero, List.getElem_cons_succ, List.setIfInBounds_toArray, List.set_cons_zero, List.set_cons_succ]
            refine wpAnyH_take (i := 7) (v := ?_) rfl (by kernel_rfl) (by kernel_rfl) (by kernel_rfl) (fun _ _ _ h => h) (Or.inl ⟨by rfl, ?_⟩) (by assumption) ?_
            rotate_left
            · (intro w hSw; (try dsimp only at hSw); go_simp)
              first | done | with_reducible rfl
            simp only [Act.put, List.getElem_toArray, List.getElem_cons_zero, List.getElem_cons_succ, List.setIfInBounds_toArray, List.set_cons_zero, List.set_cons_succ]
            refine wpAnyH_ready (rs := [8]) (by kernel_rfl) (by simp) ?_
            refine AllReadyH.cons rfl (fun K hK => ?_) AllReadyH.nil
            go_simp
            refine (IA.out _ ((Upd.refl [] wo).drew)).mono ?_
            rintro e w8 ⟨rfl, hu1⟩
            have hv1 : Upd [] wo w8 := (Upd.refl [] wo).drew.trans hu1
            refine hK.out _ _ ?_ (fun hHeld => ?_)
            · exact ⟨hu1.keep hHeld.1, hu1.keep hHeld.2.1, hu1.keep hHeld.2.2.1, hu1.keep hHeld.2.2.2.1, hu1.keep hHeld.2.2.2.2.1, hu1.keep hHeld.2.2.2.2.2.1, hu1.keep hHeld.2.2.2.2.2.2.1, hu1.keep hHeld.2.2.2.2.2.2.2.1, hu1.keep hHeld.2.2.2.2.2.2.2.2.1, hu1.keep hHeld.2.2.2.2.2.2.2.2.2⟩
            clear hK K
            try simp only [Act.put, List.getElem_toArray, List.getElem_cons_zero, List.getElem_cons_succ, List.setIfInBounds_toArray, List.set_cons_zero, List.set_cons_succ]
            refine wpAnyH_take (i := 9) (v := ?_) rfl (by kernel_rfl) (by kernel_rfl) (by kernel_rfl) (fun _ _ _ h => h) (Or.inl ⟨by rfl, ?_⟩) (by assumption) ?_
            rotate_left
            · (intro w hSw; (try dsimp only at hSw); go_simp)
              first | done | with_reducible rfl
            simp only [Act.put, List.getElem_toArray, List.getElem_cons_zero, List.getElem_cons_succ, List.setIfInBounds_toArray, List.set_cons_zero, List.set_cons_succ]
            refine wpAnyH_take (i := 10) (v := ?_) rfl (by kernel_rfl) (by kernel_rfl) (by kernel_rfl) (fun _ _ _ h => h) (Or.inl ⟨by rfl, ?_⟩) (by assumption) ?_
            rotate_left
            · (intro w hSw; (try dsimp only at hSw); go_simp)
              first | done | with_reducible rfl
            simp only [Act.put, List.getElem_toArray, List.getElem_cons_zero, List.getElem_cons_succ, List.setIfInBounds_toArray, List.set_cons_zero, List.set_cons_succ]
            refine wpAnyH_take (i := 11) (v := ?_) rfl (by kernel_rfl) (by kernel_rfl) (by kernel_rfl) (fun _ _ _ h => h) (Or.inl ⟨by rfl, ?_⟩) (by assumption) ?_
            rotate_left
            · (intro w hSw; (try dsimp only at hSw); go_simp)
              first | done | with_reducible rfl
            simp only [Act.put, List.getElem_toArray, List.getElem_cons_zero, List.getElem_cons_succ, List.setIfInBounds_toArray, List.set_cons_zero, List.set_cons_succ]
            refine wpAnyH_take (i := 12) (v := ?_) rfl (by kernel_rfl) (by kernel_rfl) (by kernel_rfl) (fun _ _ _ h => h) (Or.inl ⟨by rfl, ?_⟩) (by assumption) ?_
            rotate_left
            · (intro w hSw; (try dsimp only at hSw); go_simp)
              first | done | with_reducible rfl
            simp only [Act.put, List.getElem_toArray, List.getElem_cons_zero, List.getElem_cons_succ, List.setIfInBounds_toArray, List.set_cons_zero, List.set_cons_succ]
            refine wpAnyH_take (i := 13) (v := ?_) rfl (by kernel_rfl) (by kernel_rfl) (by kernel_rfl) (fun _ _ _ h => h) (Or.inl ⟨by rfl, ?_⟩) (by assumption) ?_
            rotate_left
            · (intro w hSw; (try dsimp only at hSw); go_simp)
              first | done | with_reducible rfl
            simp only [Act.put, List.getElem_toArray, List.getElem_cons_zero, List.getElem_cons_succ, List.setIfInBounds_toArray, List.set_cons_zero, List.set_cons_succ]
            refine wpAnyH_take (i := 14) (v := ?_) rfl (by kernel_rfl) (by kernel_rfl) (by kernel_rfl) (fun _ _ _ h => h) (Or.inl ⟨by rfl, ?_⟩) (by assumption) ?_
            rotate_left
            · (intro w hSw; (try dsimp only at hSw); go_simp)
              first | done | with_reducible rfl
            simp only [Act.put, List.getElem_toArray, List.getElem_cons_zero, List.getElem_cons_succ, List.setIfInBounds_toArray, List.set_cons_zero, List.set_cons_succ]
            refine wpAnyH_take (i := 15) (v := ?_) rfl (by kernel_rfl) (by kernel_rfl) (by kernel_rfl) (fun _ _ _ h => h) (Or.inl ⟨by rfl, ?_⟩) (by assumption) ?_
            rotate_left
            · (intro w hSw; (try dsimp only at hSw); go_simp)
              first | done | with_reducible rfl
            simp only [Act.put, List.getElem_toArray, List.getElem_cons_zero, List.getElem_cons_succ, List.setIfInBounds_toArray, List.set_cons_zero, List.set_cons_succ]
            refine wpAnyH_ready (rs := [16]) (by kernel_rfl) (by simp) ?_
            refine AllReadyH.cons rfl (fun K hK => ?_) AllReadyH.nil
            go_simp
            refine (IB.out w8 hv1).mono ?_
            rintro e w16 ⟨rfl, hu2⟩
            have hv2 : Upd [] wo w16 := hv1.trans hu2
            refine hK.out _ _ ?_ (fun hHeld => ?_)
            · exact ⟨hu2.keep hHeld.1, hu2.keep hHeld.2.1, hu2.keep hHeld.2.2.1, hu2.keep hHeld.2.2.2.1, hu2.keep hHeld.2.2.2.2.1, hu2.keep hHeld.2.2.2.2.2.1, hu2.keep hHeld.2.2.2.2.2.2.1, hu2.keep hHeld.2.2.2.2.2.2.2.1, hu2.keep hHeld.2.2.2.2.2.2.2.2.1, hu2.keep hHeld.2.2.2.2.2.2.2.2.2⟩
            clear hK K
            try simp only [Act.put, List.getElem_toArray, List.getElem_cons_zero, List.getElem_cons_succ, List.setIfInBounds_toArray, List.set_cons_zero, List.set_cons_succ]
            refine wpAnyH_take (i := 17) (v := ?_) rfl (by kernel_rfl) (by kernel_rfl) (by kernel_rfl) (fun _ _ _ h => h) (Or.inl ⟨by rfl, ?_⟩) (by assumption) ?_
            rotate_left
            · (intro w hSw; (try dsimp only at hSw); go_simp)
              first | done | with_reducible rfl
            simp only [Act.put, List.getElem_toArray, List.getElem_cons_zero, List.getElem_cons_succ, List.setIfInBounds_toArray, List.set_cons_zero, List.set_cons_succ]
            refine wpAnyH_take (i := 18) (v := ?_) rfl (by kernel_rfl) (by kernel_rfl) (by kernel_rfl) (fun _ _ _ h => h) (Or.inl ⟨by rfl, ?_⟩) (by assumption) ?_
            rotate_left
            · (intro w hSw; (try dsimp only at hSw); go_simp)
              first | done | with_reducible rfl
            simp only [Act.put, List.getElem_toArray, List.getElem_cons_zero, List.getElem_cons_succ, List.setIfInBounds_toArray, List.set_cons_zero, List.set_cons_succ]
            refine wpAnyH_take (i := 19) (v := ?_) rfl (by kernel_rfl) (by kernel_rfl) (by kernel_rfl) (fun _ _ _ h => h) (Or.inl ⟨by rfl, ?_⟩) (by assumption) ?_
            rotate_left
            · (intro w hSw; (try dsimp only at hSw); go_simp)
              first | done | with_reducible rfl
            simp only [Act.put, List.getElem_toArray, List.getElem_cons_zero, List.getElem_cons_succ, List.setIfInBounds_toArray, List.set_cons_zero, List.set_cons_succ]
            refine wpAnyH_take (i := 20) rfl (by kernel_rfl) (by kernel_rfl) (by kernel_rfl) (fun _ _ _ h => h) (Or.inr ⟨by rfl, rfl⟩) (by assumption) ?_
            simp only [Act.put, List.getElem_toArray, List.getElem_cons_zero, List.getElem_cons_succ, List.setIfInBounds_toArray, List.set_cons_zero, List.set_cons_succ]
            refine wpAnyH_take (i := 21) rfl (by kernel_rfl) (by kernel_rfl) (by kernel_rfl) (fun _ _ _ h => h) (Or.inr ⟨by rfl, rfl⟩) (by assumption) ?_
            simp only [Act.put, List.getElem_toArray, List.getElem_cons_zero, List.getElem_cons_succ, List.setIfInBounds_toArray, List.set_cons_zero, List.set_cons_succ]
            refine wpAnyH_take (i := 22) rfl (by kernel_rfl) (by kernel_rfl) (by kernel_rfl) (fun _ _ _ h => h) (Or.inr ⟨by rfl, rfl⟩) (by assumption) ?_
            simp only [Act.put, List.getElem_toArray, List.getElem_cons_zero, List.getElem_cons_succ, List.setIfInBounds_toArray, List.set_cons_zero, List.set_cons_succ]
            refine wpAnyH_take (i := 23) rfl (by kernel_rfl) (by kernel_rfl) (by kernel_rfl) (fun _ _ _ h => h) (Or.inr ⟨by rfl, rfl⟩) (by assumption) ?_
            simp only [Act.put, List.getElem_toArray, List.getElem_cons_zero, List.getElem_cons_succ, List.setIfInBounds_toArray, List.set_cons_zero, List.set_cons_succ]
            refine wpAnyH_take (i := 24) rfl (by kernel_rfl) (by kernel_rfl) (by kernel_rfl) (fun _ _ _ h => h) (Or.inr ⟨by rfl, rfl⟩) (by assumption) ?_
            simp only [Act.put, List.getElem_toArray, List.getElem_cons_zero, List.getElem_cons_succ, List.setIfInBounds_toArray, List.set_cons_zero, List.set_cons_succ]
            refine wpAnyH_take (i := 25) rfl (by kernel_rfl) (by kernel_rfl) (by kernel_rfl) (fun _ _ _ h => h) (Or.inr ⟨by rfl, rfl⟩) (by assumption) ?_
            simp only [Act.put, List.getElem_toArray, List.getElem_cons_zero, List.getElem_cons_succ, List.setIfInBounds_toArray, List.set_cons_zero, List.set_cons_succ]
            refine wpAnyH_take (i := 26) rfl (by kernel_rfl) (by kernel_rfl) (by kernel_rfl) (fun _ _ _ h => h) (Or.inr ⟨by rfl, rfl⟩) (by assumption) ?_
            simp only [Act.put, List.getElem_toArray, List.getElem_cons_zero, List.getElem_cons_succ, List.setIfInBounds_toArray, List.set_cons_zero, List.set_cons_succ]
            refine wpAnyH_take (i := 27) rfl (by kernel_rfl) (by kernel_rfl) (by kernel_rfl) (fun _ _ _ h => h) (Or.inr ⟨by rfl, rfl⟩) (by assumption) ?_
            simp only [Act.put, List.getElem_toArray, List.getElem_cons_zero, List.getElem_cons_succ, List.setIfInBounds_toArray, List.set_cons_zero, List.set_cons_succ]
            refine wpAnyH_take (i := 28) rfl (by kernel_rfl) (by kernel_rfl) (by kernel_rfl) (fun _ _ _ h => h) (Or.inr ⟨by rfl, rfl⟩) (by assumption) ?_
            simp only [Act.put, List.getElem_toArray, List.getElem_cons_zero, List.getElem_cons_succ, List.setIfInBounds_toArray, List.set_cons_zero, List.set_cons_succ]
            refine wpAnyH_take (i := 29) rfl (by kernel_rfl) (by kernel_rfl) (by kernel_rfl) (fun _ _ _ h => h) (Or.inr ⟨by rfl, rfl⟩) (by assumption) ?_
            simp only [Act.put, List.getElem_toArray, List.getElem_cons_zero, List.getElem_cons_succ, List.setIfInBounds_toArray, List.set_cons_zero, List.set_cons_succ]
            refine wpAnyH_take (i := 30) rfl (by kernel_rfl) (by kernel_rfl) (by kernel_rfl) (fun _ _ _ h => h) (Or.inr ⟨by rfl, rfl⟩) (by assumption) ?_
            simp only [Act.put, List.getElem_toArray, List.getElem_cons_zero, List.getElem_cons_succ, List.setIfInBounds_toArray, List.set_cons_zero, List.set_cons_succ]
            refine wpAnyH_take (i := 31) rfl (by kernel_rfl) (by kernel_rfl) (by kernel_rfl) (fun _ _ _ h => h) (Or.inr ⟨by rfl, rfl⟩) (by assumption) ?_
            simp only [Act.put, List.getElem_toArray, List.getElem_cons_zero, List.getElem_cons_succ, List.setIfInBounds_toArray, List.set_cons_zero, List.set_cons_succ]
            refine wpAnyH_take (i := 32) (v := ?_) rfl (by kernel_rfl) (by kernel_rfl) (by kernel_rfl) (fun _ _ _ h => h) (Or.inl ⟨by rfl, ?_⟩) (by assumption) ?_
            rotate_left
            · (intro w hSw; (try dsimp only at hSw); go_simp)
              first | done | with_reducible rfl
            simp only [Act.put, List.getElem_toArray, List.getElem_cons_zero, List.getElem_cons_succ, List.setIfInBounds_toArray, List.set_cons_zero, List.set_cons_succ]
            refine wpAnyH_done (by kernel_rfl) ?_ _
            have HU9 := Lib.hid (HU.out.trans hv2)
            clear HU hHeld q1 q2 za0 za1 za2 za3 zb0 zb1 zb2 zb3
            go_wp2_with fail
            go_ret2
            exact ⟨Or.inl ⟨HE.out, rfl⟩, HUA.out.trans HU9.out⟩
          | true =>
            rw [hi2] at IB
            have HIN := Lib.hid (And.intro (HI0.out P0 hi1) (HI1.out P1 hi2))
            clear HI0 HI1
            by_cases k0 : k = 0
            · have HE := Lib.hid (show allF (pairP R sa sb) (k + 1) (R.length - (k + 1)) = pairsF R sa sb by rw [← HFF.out, hi1, hi2, decide_eq_true k0]; simp)
              have kk : decide (0 < k) = false := by rw [k0]; rfl
              clear HFF hi1 hi2 SC HK k0
              go_upto_region 5 with (fail)
              refine wp_region_held_drew (S := fun w' => w'.cell? ⟨BA, 0, none⟩ = some (ei sa) ∧ w'.cell? ⟨BA, 1, none⟩ = some (ei ia) ∧ w'.cell? ⟨BA, 2, none⟩ = some a1 ∧ w'.cell? ⟨BA, 3, none⟩ = some a2 ∧ w'.cell? ⟨BB, 0, none⟩ = some (ei sb) ∧ w'.cell? ⟨BB, 1, none⟩ = some (ei ib) ∧ w'.cell? ⟨BB, 2, none⟩ = some b1 ∧ w'.cell? ⟨BB, 3, none⟩ = some b2 ∧ w'.cell? ⟨b2r, o2r, none⟩ = some (ei P0) ∧ w'.cell? ⟨b2r, o2r + 1, none⟩ = some (ei P1)) (by kernel_rfl) ?_ (fun hHeld => ?_)
              · exact ⟨za0, za1, za2, za3, zb0, zb1, zb2, zb3, q1, q2⟩
              refine wpAnyH_take (i := 0) (v := ?_) rfl (by kernel_rfl) (by kernel_rfl) (by kernel_rfl) (fun _ _ _ h => h) (Or.inl ⟨by rfl, ?_⟩) (by assumption) ?_
              rotate_left
              · (intro w hSw; (try dsimp only at hSw); go_simp)
                first | done | with_reducible rfl
              simp only [Act.put, List.getElem_toArray, List.getElem_cons_zero, List.setIfInBounds_toArray, List.set_cons_zero, List.set_cons_succ]
              refine wpAnyH_take (i := 1) (v := ?_) rfl (by kernel_rfl) (by kernel_rfl) (by kernel_rfl) (fun _ _ _ h => h) (Or.inl ⟨by rfl, ?_⟩) (by assumption) ?_
              rotate_left
              · (intro w hSw; (try dsimp only at hSw); go_simp)
                first | done | with_reducible rfl
              simp only [Act.put, List.getElem_toArray, List.getElem_cons_zero, List.getElem_cons_succ, List.setIfInBounds_toArray, List.set_cons_zero, List.set_cons_succ]
              refine wpAnyH_take (i := 2) (v := ?_) rfl (by kernel_rfl) (by kernel_rfl) (by kernel_rfl) (fun _ _ _ h => h) (Or.inl ⟨by rfl, ?_⟩) (by assumption) ?_
              rotate_left
              · (intro w hSw; (try dsimp only at hSw); go_simp)
                first | done | with_reducible rfl
              simp only [Act.put, List.getElem_toArray, List.getElem_cons_zero, List.getElem_cons_succ, List.setIfInBounds_toArray, List.set_cons_zero, List.set_cons_succ]
              refine wpAnyH_take (i := 3) (v := ?_) rfl (by kernel_rfl) (by kernel_rfl) (by kernel_rfl) (fun _ _ _ h => h) (Or.inl ⟨by rfl, ?_⟩) (by assumption) ?_
              rotate_left
              · (intro w hSw; (try dsimp only at hSw); go_simp)
                first | done | with_reducible rfl
              simp only [Act.put, List.getElem_toArray, List.getElem_cons_zero, List.getElem_cons_succ, List.setIfInBounds_toArray, List.set_cons_zero, List.set_cons_succ]
              refine wpAnyH_take (i := 4) (v := ?_) rfl (by kernel_rfl) (by kernel_rfl) (by kernel_rfl) (fun _ _ _ h => h) (Or.inl ⟨by rfl, ?_⟩) (by assumption) ?_
              rotate_left
              · (intro w hSw; (try dsimp only at hSw); go_simp)
                first | done | with_reducible rfl
              simp only [Act.put, List.getElem_toArray, List.getElem_cons_zero, List.getElem_cons_succ, List.setIfInBounds_toArray, List.set_cons_zero, List.set_cons_succ]
              refine wpAnyH_take (i := 5) (v := ?_) rfl (by kernel_rfl) (by kernel_rfl) (by kernel_rfl) (fun _ _ _ h => h) (Or.inl ⟨by rfl, ?_⟩) (by assumption) ?_
              rotate_left
              · (intro w hSw; (try dsimp only at hSw); go_simp)
                first | done | with_reducible rfl
              simp only [Act.put, List.getElem_toArray, List.getElem_cons_zero, List.getElem_cons_succ, List.setIfInBounds_toArray, List.set_cons_zero, List.set_cons_succ]
              refine wpAnyH_take (i := 6) (v := ?_) rfl (by kernel_rfl) (by kernel_rfl) (by kernel_rfl) (fun _ _ _ h => h) (Or.inl ⟨by rfl, ?_⟩) (by assumption) ?_
              rotate_left
              · (intro w hSw; (try dsimp only at hSw); go_simp)
                first | done | with_reducible rfl
              simp only [Act.put, List.getElem_toArray, List.getElem_cons_zero, List.getElem_cons_succ, List.setIfInBounds_toArray, List.set_cons_zero, List.set_cons_succ]
              refine wpAnyH_take (i := 7) (v := ?_) rfl (by kernel_rfl) (by kernel_rfl) (by kernel_rfl) (fun _ _ _ h => h) (Or.inl ⟨by rfl, ?_⟩) (by assumption) ?_
              rotate_left
              · (intro w hSw; (try dsimp only at hSw); go_simp)
                first | done | with_reducible rfl
              simp only [Act.put, List.getElem_toArray, List.getElem_cons_zero, List.getElem_cons_succ, List.setIfInBounds_toArray, List.set_cons_zero, List.set_cons_succ]
              refine wpAnyH_ready (rs := [8]) (by kernel_rfl) (by simp) ?_
              refine AllReadyH.cons rfl (fun K hK => ?_) AllReadyH.nil
              go_simp
              refine (IA.out _ ((Upd.refl [] wo).drew)).mono ?_
              rintro e w8 ⟨rfl, hu1⟩
              have hv1 : Upd [] wo w8 := (Upd.refl [] wo).drew.trans hu1
              refine hK.out _ _ ?_ (fun hHeld => ?_)
              · exact ⟨hu1.keep hHeld.1, hu1.keep hHeld.2.1, hu1.keep hHeld.2.2.1, hu1.keep hHeld.2.2.2.1, hu1.keep hHeld.2.2.2.2.1, hu1.keep hHeld.2.2.2.2.2.1, hu1.keep hHeld.2.2.2.2.2.2.1, hu1.keep hHeld.2.2.2.2.2.2.2.1, hu1.keep hHeld.2.2.2.2.2.2.2.2.1, hu1.keep hHeld.2.2.2.2.2.2.2.2.2⟩
              clear hK K
              try simp only [Act.put, List.getElem_toArray, List.getElem_cons_zero, List.getElem_cons_succ, List.setIfInBounds_toArray, List.set_cons_zero, List.set_cons_succ]
              refine wpAnyH_take (i := 9) (v := ?_) rfl (by kernel_rfl) (by kernel_rfl) (by kernel_rfl) (fun _ _ _ h => h) (Or.inl ⟨by rfl, ?_⟩) (by assumption) ?_
              rotate_left
              · (intro w hSw; (try dsimp only at hSw); go_simp)
                first | done | with_reducible rfl
              simp only [Act.put, List.getElem_toArray, List.getElem_cons_zero, List.getElem_cons_succ, List.setIfInBounds_toArray, List.set_cons_zero, List.set_cons_succ]
              refine wpAnyH_take (i := 10) (v := ?_) rfl (by kernel_rfl) (by kernel_rfl) (by kernel_rfl) (fun _ _ _ h => h) (Or.inl ⟨by rfl, ?_⟩) (by assumption) ?_
              rotate_left
              · (intro w hSw; (try dsimp only at hSw); go_simp)
                first | done | with_reducible rfl
              simp only [Act.put, List.getElem_toArray, List.getElem_cons_zero, List.getElem_cons_succ, List.setIfInBounds_toArray, List.set_cons_zero, List.set_cons_succ]
              refine wpAnyH_take (i := 11) (v := ?_) rfl (by kernel_rfl) (by kernel_rfl) (by kernel_rfl) (fun _ _ _ h => h) (Or.inl ⟨by rfl, ?_⟩) (by assumption) ?_
              rotate_left
              · (intro w hSw; (try dsimp only at hSw); go_simp)
                first | done | with_reducible rfl
              simp only [Act.put, List.getElem_toArray, List.getElem_cons_zero, List.getElem_cons_succ, List.setIfInBounds_toArray, List.set_cons_zero, List.set_cons_succ]
              refine wpAnyH_take (i := 12) (v := ?_) rfl (by kernel_rfl) (by kernel_rfl) (by kernel_rfl) (fun _ _ _ h => h) (Or.inl ⟨by rfl, ?_⟩) (by assumption) ?_
              rotate_left
              · (intro w hSw; (try dsimp only at hSw); go_simp)
                first | done | with_reducible rfl
              simp only [Act.put, List.getElem_toArray, List.getElem_cons_zero, List.getElem_cons_succ, List.setIfInBounds_toArray, List.set_cons_zero, List.set_cons_succ]
              refine wpAnyH_take (i := 13) (v := ?_) rfl (by kernel_rfl) (by kernel_rfl) (by kernel_rfl) (fun _ _ _ h => h) (Or.inl ⟨by rfl, ?_⟩) (by assumption) ?_
              rotate_left
              · (intro w hSw; (try dsimp only at hSw); go_simp)
                first | done | with_reducible rfl
              simp only [Act.put, List.getElem_toArray, List.getElem_cons_zero, List.getElem_cons_succ, List.setIfInBounds_toArray, List.set_cons_zero, List.set_cons_succ]
              refine wpAnyH_take (i := 14) (v := ?_) rfl (by kernel_rfl) (by kernel_rfl) (by kernel_rfl) (fun _ _ _ h => h) (Or.inl ⟨by rfl, ?_⟩) (by assumption) ?_
              rotate_left
              · (intro w hSw; (try dsimp only at hSw); go_simp)
                first | done | with_reducible rfl
              simp only [Act.put, List.getElem_toArray, List.getElem_cons_zero, List.getElem_cons_succ, List.setIfInBounds_toArray, List.set_cons_zero, List.set_cons_succ]
              refine wpAnyH_take (i := 15) (v := ?_) rfl (by kernel_rfl) (by kernel_rfl) (by kernel_rfl) (fun _ _ _ h => h) (Or.inl ⟨by rfl, ?_⟩) (by assumption) ?_
              rotate_left
              · (intro w hSw; (try dsimp only at hSw); go_simp)
                first | done | with_reducible rfl
              simp only [Act.put, List.getElem_toArray, List.getElem_cons_zero, List.getElem_cons_succ, List.setIfInBounds_toArray, List.set_cons_zero, List.set_cons_succ]
              refine wpAnyH_ready (rs := [16]) (by kernel_rfl) (by simp) ?_
              refine AllReadyH.cons rfl (fun K hK => ?_) AllReadyH.nil
              go_simp
              refine (IB.out w8 hv1).mono ?_
              rintro e w16 ⟨rfl, hu2⟩
              have hv2 : Upd [] wo w16 := hv1.trans hu2
              refine hK.out _ _ ?_ (fun hHeld => ?_)
              · exact ⟨hu2.keep hHeld.1, hu2.keep hHeld.2.1, hu2.keep hHeld.2.2.1, hu2.keep hHeld.2.2.2.1, hu2.keep hHeld.2.2.2.2.1, hu2.keep hHeld.2.2.2.2.2.1, hu2.keep hHeld.2.2.2.2.2.2.1, hu2.keep hHeld.2.2.2.2.2.2.2.1, hu2.keep hHeld.2.2.2.2.2.2.2.2.1, hu2.keep hHeld.2.2.2.2.2.2.2.2.2⟩
              clear hK K
              try simp only [Act.put, List.getElem_toArray, List.getElem_cons_zero, List.getElem_cons_succ, List.setIfInBounds_toArray, List.set_cons_zero, List.set_cons_succ]
              refine wpAnyH_take (i := 17) (v := ?_) rfl (by kernel_rfl) (by kernel_rfl) (by kernel_rfl) (fun _ _ _ h => h) (Or.inl ⟨by rfl, ?_⟩) (by assumption) ?_
              rotate_left
              · (intro w hSw; (try dsimp only at hSw); go_simp)
                first | done | with_reducible rfl
              simp only [Act.put, List.getElem_toArray, List.getElem_cons_zero, List.getElem_cons_succ, List.setIfInBounds_toArray, List.set_cons_zero, List.set_cons_succ]
              refine wpAnyH_take (i := 18) (v := ?_) rfl (by kernel_rfl) (by kernel_rfl) (by kernel_rfl) (fun _ _ _ h => h) (Or.inl ⟨by rfl, ?_⟩) (by assumption) ?_
              rotate_left
              · (intro w hSw; (try dsimp only at hSw); go_simp)
                first | done | with_reducible rfl
              simp only [Act.put, List.getElem_toArray, List.getElem_cons_zero, List.getElem_cons_succ, List.setIfInBounds_toArray, List.set_cons_zero, List.set_cons_succ]
              refine wpAnyH_take (i := 19) (v := ?_) rfl (by kernel_rfl) (by kernel_rfl) (by kernel_rfl) (fun _ _ _ h => h) (Or.inl ⟨by rfl, ?_⟩) (by assumption) ?_
              rotate_left
              · (intro w hSw; (try dsimp only at hSw); go_simp)
                first | done | with_reducible rfl
              simp only [Act.put, List.getElem_toArray, List.getElem_cons_zero, List.getElem_cons_succ, List.setIfInBounds_toArray, List.set_cons_zero, List.set_cons_succ]
              refine wpAnyH_take (i := 20) (v := ?_) rfl (by kernel_rfl) (by kernel_rfl) (by kernel_rfl) (fun _ _ _ h => h) (Or.inl ⟨by rfl, ?_⟩) (by assumption) ?_
              rotate_left
              · (intro w hSw; (try dsimp only at hSw); go_simp)
                first | done | with_reducible rfl
              simp only [Act.put, List.getElem_toArray, List.getElem_cons_zero, List.getElem_cons_succ, List.setIfInBounds_toArray, List.set_cons_zero, List.set_cons_succ]
              refine wpAnyH_take (i := 21) (v := ?_) rfl (by kernel_rfl) (by kernel_rfl) (by kernel_rfl) (fun _ _ _ h => h) (Or.inl ⟨by rfl, ?_⟩) (by assumption) ?_
              rotate_left
              · (intro w hSw; (try dsimp only at hSw); go_simp)
                first | done | with_reducible rfl
              simp only [Act.put, List.getElem_toArray, List.getElem_cons_zero, List.getElem_cons_succ, List.setIfInBounds_toArray, List.set_cons_zero, List.set_cons_succ]
              refine wpAnyH_take (i := 22) (v := ?_) rfl (by kernel_rfl) (by kernel_rfl) (by kernel_rfl) (fun _ _ _ h => h) (Or.inl ⟨by rfl, ?_⟩) (by assumption) ?_
              rotate_left
              · (intro w hSw; (try dsimp only at hSw); go_simp)
                first | done | with_reducible rfl
              simp only [Act.put, List.getElem_toArray, List.getElem_cons_zero, List.getElem_cons_succ, List.setIfInBounds_toArray, List.set_cons_zero, List.set_cons_succ]
              refine wpAnyH_take (i := 23) rfl (by kernel_rfl) (by kernel_rfl) (by kernel_rfl) (fun _ _ _ h => h) (Or.inr ⟨by rfl, rfl⟩) (by assumption) ?_
              simp only [Act.put, List.getElem_toArray, List.getElem_cons_zero, List.getElem_cons_succ, List.setIfInBounds_toArray, List.set_cons_zero, List.set_cons_succ]
              refine wpAnyH_take (i := 24) rfl (by kernel_rfl) (by kernel_rfl) (by kernel_rfl) (fun _ _ _ h => h) (Or.inr ⟨by rfl, rfl⟩) (by assumption) ?_
              simp only [Act.put, List.getElem_toArray, List.getElem_cons_zero, List.getElem_cons_succ, List.setIfInBounds_toArray, List.set_cons_zero, List.set_cons_succ]
              refine wpAnyH_take (i := 25) rfl (by kernel_rfl) (by kernel_rfl) (by kernel_rfl) (fun _ _ _ h => h) (Or.inr ⟨by rfl, rfl⟩) (by assumption) ?_
              simp only [Act.put, List.getElem_toArray, List.getElem_cons_zero, List.getElem_cons_succ, List.setIfInBounds_toArray, List.set_cons_zero, List.set_cons_succ]
              refine wpAnyH_take (i := 26) rfl (by kernel_rfl) (by kernel_rfl) (by kernel_rfl) (fun _ _ _ h => h) (Or.inr ⟨by rfl, rfl⟩) (by assumption) ?_
              simp only [Act.put, List.getElem_toArray, List.getElem_cons_zero, List.getElem_cons_succ, List.setIfInBounds_toArray, List.set_cons_zero, List.set_cons_succ]
              refine wpAnyH_take (i := 27) rfl (by kernel_rfl) (by kernel_rfl) (by kernel_rfl) (fun _ _ _ h => h) (Or.inr ⟨by rfl, rfl⟩) (by assumption) ?_
              simp only [Act.put, List.getElem_toArray, List.getElem_cons_zero, List.getElem_cons_succ, List.setIfInBounds_toArray, List.set_cons_zero, List.set_cons_succ]
              refine wpAnyH_take (i := 28) rfl (by kernel_rfl) (by kernel_rfl) (by kernel_rfl) (fun _ _ _ h => h) (Or.inr ⟨by rfl, rfl⟩) (by assumption) ?_
              simp only [Act.put, List.getElem_toArray, List.getElem_cons_zero, List.getElem_cons_succ, List.setIfInBounds_toArray, List.set_cons_zero, List.set_cons_succ]
              refine wpAnyH_take (i := 29) rfl (by kernel_rfl) (by kernel_rfl) (by kernel_rfl) (fun _ _ _ h => h) (Or.inr ⟨by rfl, rfl⟩) (by assumption) ?_
              simp only [Act.put, List.getElem_toArray, List.getElem_cons_zero, List.getElem_cons_succ, List.setIfInBounds_toArray, List.set_cons_zero, List.set_cons_succ]
              refine wpAnyH_take (i := 30) rfl (by kernel_rfl) (by kernel_rfl) (by kernel_rfl) (fun _ _ _ h => h) (Or.inr ⟨by rfl, rfl⟩) (by assumption) ?_
              simp only [Act.put, List.getElem_toArray, List.getElem_cons_zero, List.getElem_cons_succ, List.setIfInBounds_toArray, List.set_cons_zero, List.set_cons_succ]
              refine wpAnyH_take (i := 31) (v := ?_) rfl (by kernel_rfl) (by kernel_rfl) (by kernel_rfl) (fun _ _ _ h => h) (Or.inl ⟨by rfl, ?_⟩) (by assumption) ?_
              rotate_left
              · (intro w hSw; (try dsimp only at hSw); go_simp)
                first | done | with_reducible rfl
              simp only [Act.put, List.getElem_toArray, List.getElem_cons_zero, List.getElem_cons_succ, List.setIfInBounds_toArray, List.set_cons_zero, List.set_cons_succ]
              refine wpAnyH_take (i := 32) (v := ?_) rfl (by kernel_rfl) (by kernel_rfl) (by kernel_rfl) (fun _ _ _ h => h) (Or.inl ⟨by rfl, ?_⟩) (by assumption) ?_
              rotate_left
              · (intro w hSw; (try dsimp only at hSw); go_simp)
                first | done | with_reducible rfl
              simp only [Act.put, List.getElem_toArray, List.getElem_cons_zero, List.getElem_cons_succ, List.setIfInBounds_toArray, List.set_cons_zero, List.set_cons_succ]
              refine wpAnyH_done (by kernel_rfl) ?_ _
              have HU9 := Lib.hid (HU.out.trans hv2)
              have HM9 := Lib.hid (ownsMap_upd HM.out hv2 (by simp))
              have q1 := hv2.keep q1
              have q2 := hv2.keep q2
              obtain ⟨in0, in1⟩ := HIN.out
              have HP9 := Lib.hid (HP.out.put in0 in1)
              obtain ⟨w10, hrun10, hm10, hg10⟩ := (ownsMap_upd HM9.out (Upd.refl [] w16).drew (by simp)).update keyP Tryz.underlying105 (show k < maxLen by unfold maxLen; have := HR9.out; omega) (keyOfP in0 in1) (plainElem_bool (H := Unit) Tryz.underlying4 true)
              have HU10 := Lib.hid ((HU9.out.drew).fresh ((Upd.refl [BM] (w16).drew).grown hg10 (fun j hj => Or.inr (by simp at hj ⊢; exact hj.symm))) (fun b hb => Or.inl (by simp at hb; have := HBMA.out; omega)))
              have HM10 := Lib.hid hm10
              have HP10 := Lib.hid (show PMap (pairsOf (R.take (k + 1))) _ by rw [HST.out]; exact HP9.out)
              clear HU HM HIN HP hHeld za0 za1 za2 za3 zb0 zb1 zb2 zb3 hm10 hg10 HU9 HM9 HP9 in0 in1 HST IA0 IB0 IA IB HC HZ
              go_upto_region 7 with (fail)
              go_region
              all_goals
                go_wp2_with fail
                go_roundw
                case rel => exact ⟨k + 1, _, by omega, by go_num, HE, HU10, HM10, HP10⟩
                case measure => simp [intOf]; omega
            · have kk : decide (0 < k) = true := decide_eq_true (by omega)
              have kd : decide (k = 0) = false := decide_eq_false k0
              have i0 : IntKind.i64.wrap ((k : Int) - 1) = (k : Int) - 1 := IntWalk.i64_in _ (by omega)
              have i1 : ((k : Int) - 1).toNat = k - 1 := by omega
              have i3 : (0 : Int) ≤ (k : Int) - 1 := by omega
              have i5 : (1 : Int) ≤ (k : Int) := by omega
              have i6 : (0 : Int) < (k : Int) := by omega
              have i4 : (k : Int) - 1 < (R.length : Int) := by omega
              obtain ⟨u9, f9, q9, r9⟩ := HK.out (by omega)
              have SC9 := Lib.hid (SC.out u9 f9 _ r9)
              clear HK r9 SC
              have hcq : pairsF R sa sb = (decide (cmpQ (R.getD (k - 1) []) R[k] < 0) && allF (pairP R sa sb) (k + 1) (R.length - (k + 1))) := by rw [← HFF.out, hi1, hi2, kd]; simp
              have HCQ := Lib.hid hcq
              clear HFF hi1 hi2 kd hcq k0
              generalize cmpQ (R.getD (k - 1) []) R[k] = c at *
              by_cases hc0 : c < 0
              · have hd : decide (0 ≤ c) = false := decide_eq_false (by omega)
                have hd2 : decide (c ≥ 0) = false := hd
                have HE := Lib.hid (show allF (pairP R sa sb) (k + 1) (R.length - (k + 1)) = pairsF R sa sb by rw [HCQ.out, decide_eq_true hc0]; simp)
                clear HCQ hc0
                go_upto_region 5 with (fail)
                refine wp_region_held_drew (S := fun w' => w'.cell? ⟨BA, 0, none⟩ = some (ei sa) ∧ w'.cell? ⟨BA, 1, none⟩ = some (ei ia) ∧ w'.cell? ⟨BA, 2, none⟩ = some a1 ∧ w'.cell? ⟨BA, 3, none⟩ = some a2 ∧ w'.cell? ⟨BB, 0, none⟩ = some (ei sb) ∧ w'.cell? ⟨BB, 1, none⟩ = some (ei ib) ∧ w'.cell? ⟨BB, 2, none⟩ = some b1 ∧ w'.cell? ⟨BB, 3, none⟩ = some b2 ∧ w'.cell? ⟨b2r, o2r, none⟩ = some (ei P0) ∧ w'.cell? ⟨b2r, o2r + 1, none⟩ = some (ei P1) ∧ w'.cell? ⟨bb, off + (k - 1), none⟩ = some u9) (by kernel_rfl) ?_ (fun hHeld => ?_)
                · exact ⟨za0, za1, za2, za3, zb0, zb1, zb2, zb3, q1, q2, q9⟩
                refine wpAnyH_take (i := 0) (v := ?_) rfl (by kernel_rfl) (by kernel_rfl) (by kernel_rfl) (fun _ _ _ h => h) (Or.inl ⟨by rfl, ?_⟩) (by assumption) ?_
                rotate_left
                · (intro w hSw; (try dsimp only at hSw); go_simp)
                  first | done | with_reducible rfl
                simp only [Act.put, List.getElem_toArray, List.getElem_cons_zero, List.setIfInBounds_toArray, List.set_cons_zero, List.set_cons_succ]
                refine wpAnyH_take (i := 1) (v := ?_) rfl (by kernel_rfl) (by kernel_rfl) (by kernel_rfl) (fun _ _ _ h => h) (Or.inl ⟨by rfl, ?_⟩) (by assumption) ?_
                rotate_left
                · (intro w hSw; (try dsimp only at hSw); go_simp)
                  first | done | with_reducible rfl
                simp only [Act.put, List.getElem_toArray, List.getElem_cons_zero, List.getElem_cons_succ, List.setIfInBounds_toArray, List.set_cons_zero, List.set_cons_succ]
                refine wpAnyH_take (i := 2) (v := ?_) rfl (by kernel_rfl) (by kernel_rfl) (by kernel_rfl) (fun _ _ _ h => h) (Or.inl ⟨by rfl, ?_⟩) (by assumption) ?_
                rotate_left
                · (intro w hSw; (try dsimp only at hSw); go_simp)
                  first | done | with_reducible rfl
                simp only [Act.put, List.getElem_toArray, List.getElem_cons_zero, List.getElem_cons_succ, List.setIfInBounds_toArray, List.set_cons_zero, List.set_cons_succ]
                refine wpAnyH_take (i := 3) (v := ?_) rfl (by kernel_rfl) (by kernel_rfl) (by kernel_rfl) (fun _ _ _ h => h) (Or.inl ⟨by rfl, ?_⟩) (by assumption) ?_
                rotate_left
                · (intro w hSw; (try dsimp only at hSw); go_simp)
                  first | done | with_reducible rfl
                simp only [Act.put, List.getElem_toArray, List.getElem_cons_zero, List.getElem_cons_succ, List.setIfInBounds_toArray, List.set_cons_zero, List.set_cons_succ]
                refine wpAnyH_take (i := 4) (v := ?_) rfl (by kernel_rfl) (by kernel_rfl) (by kernel_rfl) (fun _ _ _ h => h) (Or.inl ⟨by rfl, ?_⟩) (by assumption) ?_
                rotate_left
                · (intro w hSw; (try dsimp only at hSw); go_simp)
                  first | done | with_reducible rfl
                simp only [Act.put, List.getElem_toArray, List.getElem_cons_zero, List.getElem_cons_succ, List.setIfInBounds_toArray, List.set_cons_zero, List.set_cons_succ]
                refine wpAnyH_take (i := 5) (v := ?_) rfl (by kernel_rfl) (by kernel_rfl) (by kernel_rfl) (fun _ _ _ h => h) (Or.inl ⟨by rfl, ?_⟩) (by assumption) ?_
                rotate_left
                · (intro w hSw; (try dsimp only at hSw); go_simp)
                  first | done | with_reducible rfl
                simp only [Act.put, List.getElem_toArray, List.getElem_cons_zero, List.getElem_cons_succ, List.setIfInBounds_toArray, List.set_cons_zero, List.set_cons_succ]
                refine wpAnyH_take (i := 6) (v := ?_) rfl (by kernel_rfl) (by kernel_rfl) (by kernel_rfl) (fun _ _ _ h => h) (Or.inl ⟨by rfl, ?_⟩) (by assumption) ?_
                rotate_left
                · (intro w hSw; (try dsimp only at hSw); go_simp)
                  first | done | with_reducible rfl
                simp only [Act.put, List.getElem_toArray, List.getElem_cons_zero, List.getElem_cons_succ, List.setIfInBounds_toArray, List.set_cons_zero, List.set_cons_succ]
                refine wpAnyH_take (i := 7) (v := ?_) rfl (by kernel_rfl) (by kernel_rfl) (by kernel_rfl) (fun _ _ _ h => h) (Or.inl ⟨by rfl, ?_⟩) (by assumption) ?_
                rotate_left
                · (intro w hSw; (try dsimp only at hSw); go_simp)
                  first | done | with_reducible rfl
                simp only [Act.put, List.getElem_toArray, List.getElem_cons_zero, List.getElem_cons_succ, List.setIfInBounds_toArray, List.set_cons_zero, List.set_cons_succ]
                refine wpAnyH_ready (rs := [8]) (by kernel_rfl) (by simp) ?_
                refine AllReadyH.cons rfl (fun K hK => ?_) AllReadyH.nil
                go_simp
                refine (IA.out _ ((Upd.refl [] wo).drew)).mono ?_
                rintro e w8 ⟨rfl, hu1⟩
                have hv1 : Upd [] wo w8 := (Upd.refl [] wo).drew.trans hu1
                refine hK.out _ _ ?_ (fun hHeld => ?_)
                · exact ⟨hu1.keep hHeld.1, hu1.keep hHeld.2.1, hu1.keep hHeld.2.2.1, hu1.keep hHeld.2.2.2.1, hu1.keep hHeld.2.2.2.2.1, hu1.keep hHeld.2.2.2.2.2.1, hu1.keep hHeld.2.2.2.2.2.2.1, hu1.keep hHeld.2.2.2.2.2.2.2.1, hu1.keep hHeld.2.2.2.2.2.2.2.2.1, hu1.keep hHeld.2.2.2.2.2.2.2.2.2.1, hu1.keep hHeld.2.2.2.2.2.2.2.2.2.2⟩
                clear hK K
                try simp only [Act.put, List.getElem_toArray, List.getElem_cons_zero, List.getElem_cons_succ, List.setIfInBounds_toArray, List.set_cons_zero, List.set_cons_succ]
                refine wpAnyH_take (i := 9) (v := ?_) rfl (by kernel_rfl) (by kernel_rfl) (by kernel_rfl) (fun _ _ _ h => h) (Or.inl ⟨by rfl, ?_⟩) (by assumption) ?_
                rotate_left
                · (intro w hSw; (try dsimp only at hSw); go_simp)
                  first | done | with_reducible rfl
                simp only [Act.put, List.getElem_toArray, List.getElem_cons_zero, List.getElem_cons_succ, List.setIfInBounds_toArray, List.set_cons_zero, List.set_cons_succ]
                refine wpAnyH_take (i := 10) (v := ?_) rfl (by kernel_rfl) (by kernel_rfl) (by kernel_rfl) (fun _ _ _ h => h) (Or.inl ⟨by rfl, ?_⟩) (by assumption) ?_
                rotate_left
                · (intro w hSw; (try dsimp only at hSw); go_simp)
                  first | done | with_reducible rfl
                simp only [Act.put, List.getElem_toArray, List.getElem_cons_zero, List.getElem_cons_succ, List.setIfInBounds_toArray, List.set_cons_zero, List.set_cons_succ]
                refine wpAnyH_take (i := 11) (v := ?_) rfl (by kernel_rfl) (by kernel_rfl) (by kernel_rfl) (fun _ _ _ h => h) (Or.inl ⟨by rfl, ?_⟩) (by assumption) ?_
                rotate_left
                · (intro w hSw; (try dsimp only at hSw); go_simp)
                  first | done | with_reducible rfl
                simp only [Act.put, List.getElem_toArray, List.getElem_cons_zero, List.getElem_cons_succ, List.setIfInBounds_toArray, List.set_cons_zero, List.set_cons_succ]
                refine wpAnyH_take (i := 12) (v := ?_) rfl (by kernel_rfl) (by kernel_rfl) (by kernel_rfl) (fun _ _ _ h => h) (Or.inl ⟨by rfl, ?_⟩) (by assumption) ?_
                rotate_left
                · (intro w hSw; (try dsimp only at hSw); go_simp)
                  first | done | with_reducible rfl
                simp only [Act.put, List.getElem_toArray, List.getElem_cons_zero, List.getElem_cons_succ, List.setIfInBounds_toArray, List.set_cons_zero, List.set_cons_succ]
                refine wpAnyH_take (i := 13) (v := ?_) rfl (by kernel_rfl) (by kernel_rfl) (by kernel_rfl) (fun _ _ _ h => h) (Or.inl ⟨by rfl, ?_⟩) (by assumption) ?_
                rotate_left
                · (intro w hSw; (try dsimp only at hSw); go_simp)
                  first | done | with_reducible rfl
                simp only [Act.put, List.getElem_toArray, List.getElem_cons_zero, List.getElem_cons_succ, List.setIfInBounds_toArray, List.set_cons_zero, List.set_cons_succ]
                refine wpAnyH_take (i := 14) (v := ?_) rfl (by kernel_rfl) (by kernel_rfl) (by kernel_rfl) (fun _ _ _ h => h) (Or.inl ⟨by rfl, ?_⟩) (by assumption) ?_
                rotate_left
                · (intro w hSw; (try dsimp only at hSw); go_simp)
                  first | done | with_reducible rfl
                simp only [Act.put, List.getElem_toArray, List.getElem_cons_zero, List.getElem_cons_succ, List.setIfInBounds_toArray, List.set_cons_zero, List.set_cons_succ]
                refine wpAnyH_take (i := 15) (v := ?_) rfl (by kernel_rfl) (by kernel_rfl) (by kernel_rfl) (fun _ _ _ h => h) (Or.inl ⟨by rfl, ?_⟩) (by assumption) ?_
                rotate_left
                · (intro w hSw; (try dsimp only at hSw); go_simp)
                  first | done | with_reducible rfl
                simp only [Act.put, List.getElem_toArray, List.getElem_cons_zero, List.getElem_cons_succ, List.setIfInBounds_toArray, List.set_cons_zero, List.set_cons_succ]
                refine wpAnyH_ready (rs := [16]) (by kernel_rfl) (by simp) ?_
                refine AllReadyH.cons rfl (fun K hK => ?_) AllReadyH.nil
                go_simp
                refine (IB.out w8 hv1).mono ?_
                rintro e w16 ⟨rfl, hu2⟩
                have hv2 : Upd [] wo w16 := hv1.trans hu2
                refine hK.out _ _ ?_ (fun hHeld => ?_)
                · exact ⟨hu2.keep hHeld.1, hu2.keep hHeld.2.1, hu2.keep hHeld.2.2.1, hu2.keep hHeld.2.2.2.1, hu2.keep hHeld.2.2.2.2.1, hu2.keep hHeld.2.2.2.2.2.1, hu2.keep hHeld.2.2.2.2.2.2.1, hu2.keep hHeld.2.2.2.2.2.2.2.1, hu2.keep hHeld.2.2.2.2.2.2.2.2.1, hu2.keep hHeld.2.2.2.2.2.2.2.2.2.1, hu2.keep hHeld.2.2.2.2.2.2.2.2.2.2⟩
                clear hK K
                try simp only [Act.put, List.getElem_toArray, List.getElem_cons_zero, List.getElem_cons_succ, List.setIfInBounds_toArray, List.set_cons_zero, List.set_cons_succ]
                refine wpAnyH_take (i := 17) (v := ?_) rfl (by kernel_rfl) (by kernel_rfl) (by kernel_rfl) (fun _ _ _ h => h) (Or.inl ⟨by rfl, ?_⟩) (by assumption) ?_
                rotate_left
                · (intro w hSw; (try dsimp only at hSw); go_simp)
                  first | done | with_reducible rfl
                simp only [Act.put, List.getElem_toArray, List.getElem_cons_zero, List.getElem_cons_succ, List.setIfInBounds_toArray, List.set_cons_zero, List.set_cons_succ]
                refine wpAnyH_take (i := 18) (v := ?_) rfl (by kernel_rfl) (by kernel_rfl) (by kernel_rfl) (fun _ _ _ h => h) (Or.inl ⟨by rfl, ?_⟩) (by assumption) ?_
                rotate_left
                · (intro w hSw; (try dsimp only at hSw); go_simp)
                  first | done | with_reducible rfl
                simp only [Act.put, List.getElem_toArray, List.getElem_cons_zero, List.getElem_cons_succ, List.setIfInBounds_toArray, List.set_cons_zero, List.set_cons_succ]
                refine wpAnyH_take (i := 19) (v := ?_) rfl (by kernel_rfl) (by kernel_rfl) (by kernel_rfl) (fun _ _ _ h => h) (Or.inl ⟨by rfl, ?_⟩) (by assumption) ?_
                rotate_left
                · (intro w hSw; (try dsimp only at hSw); go_simp)
                  first | done | with_reducible rfl
                simp only [Act.put, List.getElem_toArray, List.getElem_cons_zero, List.getElem_cons_succ, List.setIfInBounds_toArray, List.set_cons_zero, List.set_cons_succ]
                refine wpAnyH_take (i := 20) (v := ?_) rfl (by kernel_rfl) (by kernel_rfl) (by kernel_rfl) (fun _ _ _ h => h) (Or.inl ⟨by rfl, ?_⟩) (by assumption) ?_
                rotate_left
                · (intro w hSw; (try dsimp only at hSw); go_simp)
                  first | done | with_reducible rfl
                simp only [Act.put, List.getElem_toArray, List.getElem_cons_zero, List.getElem_cons_succ, List.setIfInBounds_toArray, List.set_cons_zero, List.set_cons_succ]
                refine wpAnyH_take (i := 21) (v := ?_) rfl (by kernel_rfl) (by kernel_rfl) (by kernel_rfl) (fun _ _ _ h => h) (Or.inl ⟨by rfl, ?_⟩) (by assumption) ?_
                rotate_left
                · (intro w hSw; (try dsimp only at hSw); go_simp)
                  first | done | with_reducible rfl
                simp only [Act.put, List.getElem_toArray, List.getElem_cons_zero, List.getElem_cons_succ, List.setIfInBounds_toArray, List.set_cons_zero, List.set_cons_succ]
                refine wpAnyH_take (i := 22) (v := ?_) rfl (by kernel_rfl) (by kernel_rfl) (by kernel_rfl) (fun _ _ _ h => h) (Or.inl ⟨by rfl, ?_⟩) (by assumption) ?_
                rotate_left
                · (intro w hSw; (try dsimp only at hSw); go_simp)
                  first | done | with_reducible rfl
                simp only [Act.put, List.getElem_toArray, List.getElem_cons_zero, List.getElem_cons_succ, List.setIfInBounds_toArray, List.set_cons_zero, List.set_cons_succ]
                refine wpAnyH_take (i := 23) (v := ?_) rfl (by kernel_rfl) (by kernel_rfl) (by kernel_rfl) (fun _ _ _ h => h) (Or.inl ⟨by rfl, ?_⟩) (by assumption) ?_
                rotate_left
                · (intro w hSw; (try dsimp only at hSw); go_simp)
                  first | done | with_reducible rfl
                simp only [Act.put, List.getElem_toArray, List.getElem_cons_zero, List.getElem_cons_succ, List.setIfInBounds_toArray, List.set_cons_zero, List.set_cons_succ]
                refine wpAnyH_take (i := 24) (v := ?_) rfl (by kernel_rfl) (by kernel_rfl) (by kernel_rfl) (fun _ _ _ h => h) (Or.inl ⟨by rfl, ?_⟩) (by assumption) ?_
                rotate_left
                · (intro w hSw; (try dsimp only at hSw); go_simp)
                  first | done | with_reducible rfl
                simp only [Act.put, List.getElem_toArray, List.getElem_cons_zero, List.getElem_cons_succ, List.setIfInBounds_toArray, List.set_cons_zero, List.set_cons_succ]
                refine wpAnyH_take (i := 25) (v := ?_) rfl (by kernel_rfl) (by kernel_rfl) (by kernel_rfl) (fun _ _ _ h => h) (Or.inl ⟨by rfl, ?_⟩) (by assumption) ?_
                rotate_left
                · (intro w hSw; (try dsimp only at hSw); go_simp)
                  first | done | with_reducible rfl
                simp only [Act.put, List.getElem_toArray, List.getElem_cons_zero, List.getElem_cons_succ, List.setIfInBounds_toArray, List.set_cons_zero, List.set_cons_succ]
                refine wpAnyH_take (i := 26) (v := ?_) rfl (by kernel_rfl) (by kernel_rfl) (by kernel_rfl) (fun _ _ _ h => h) (Or.inl ⟨by rfl, ?_⟩) (by assumption) ?_
                rotate_left
                · (intro w hSw; (try dsimp only at hSw); go_simp)
                  first | done | with_reducible rfl
                simp only [Act.put, List.getElem_toArray, List.getElem_cons_zero, List.getElem_cons_succ, List.setIfInBounds_toArray, List.set_cons_zero, List.set_cons_succ]
                refine wpAnyH_take (i := 27) (v := ?_) rfl (by kernel_rfl) (by kernel_rfl) (by kernel_rfl) (fun _ _ _ h => h) (Or.inl ⟨by rfl, ?_⟩) (by assumption) ?_
                rotate_left
                · (intro w hSw; (try dsimp only at hSw); go_simp)
                  first | done | with_reducible rfl
                simp only [Act.put, List.getElem_toArray, List.getElem_cons_zero, List.getElem_cons_succ, List.setIfInBounds_toArray, List.set_cons_zero, List.set_cons_succ]
                refine wpAnyH_take (i := 28) (v := ?_) rfl (by kernel_rfl) (by kernel_rfl) (by kernel_rfl) (fun _ _ _ h => h) (Or.inl ⟨by rfl, ?_⟩) (by assumption) ?_
                rotate_left
                · (intro w hSw; (try dsimp only at hSw); go_simp)
                  first | done | with_reducible rfl
                simp only [Act.put, List.getElem_toArray, List.getElem_cons_zero, List.getElem_cons_succ, List.setIfInBounds_toArray, List.set_cons_zero, List.set_cons_succ]
                refine wpAnyH_ready (rs := [29]) (by kernel_rfl) (by simp) ?_
                refine AllReadyH.cons rfl (fun K hK => ?_) AllReadyH.nil
                go_simp
                refine (SC9.out w16 hv2).mono ?_
                rintro e w29 ⟨rfl, rfl⟩
                have hv3 : Upd [] wo w16 := hv2
                refine hK.out _ _ ?_ (fun hHeld => ?_)
                · exact ⟨hHeld.1, hHeld.2.1, hHeld.2.2.1, hHeld.2.2.2.1, hHeld.2.2.2.2.1, hHeld.2.2.2.2.2.1, hHeld.2.2.2.2.2.2.1, hHeld.2.2.2.2.2.2.2.1, hHeld.2.2.2.2.2.2.2.2.1, hHeld.2.2.2.2.2.2.2.2.2.1, hHeld.2.2.2.2.2.2.2.2.2.2⟩
                clear hK K
                try simp only [Act.put, List.getElem_toArray, List.getElem_cons_zero, List.getElem_cons_succ, List.setIfInBounds_toArray, List.set_cons_zero, List.set_cons_succ]
                refine wpAnyH_take (i := 30) (v := ?_) rfl (by kernel_rfl) (by kernel_rfl) (by kernel_rfl) (fun _ _ _ h => h) (Or.inl ⟨by rfl, ?_⟩) (by assumption) ?_
                rotate_left
                · (intro w hSw; (try dsimp only at hSw); go_simp)
                  first | done | with_reducible rfl
                simp only [Act.put, List.getElem_toArray, List.getElem_cons_zero, List.getElem_cons_succ, List.setIfInBounds_toArray, List.set_cons_zero, List.set_cons_succ]
                refine wpAnyH_take (i := 31) (v := ?_) rfl (by kernel_rfl) (by kernel_rfl) (by kernel_rfl) (fun _ _ _ h => h) (Or.inl ⟨by rfl, ?_⟩) (by assumption) ?_
                rotate_left
                · (intro w hSw; (try dsimp only at hSw); go_simp)
                  first | done | with_reducible rfl
                simp only [Act.put, List.getElem_toArray, List.getElem_cons_zero, List.getElem_cons_succ, List.setIfInBounds_toArray, List.set_cons_zero, List.set_cons_succ]
                refine wpAnyH_take (i := 32) (v := ?_) rfl (by kernel_rfl) (by kernel_rfl) (by kernel_rfl) (fun _ _ _ h => h) (Or.inl ⟨by rfl, ?_⟩) (by assumption) ?_
                rotate_left
                · (intro w hSw; (try dsimp only at hSw); go_simp)
                  first | done | with_reducible rfl
                simp only [Act.put, List.getElem_toArray, List.getElem_cons_zero, List.getElem_cons_succ, List.setIfInBounds_toArray, List.set_cons_zero, List.set_cons_succ]
                refine wpAnyH_done (by kernel_rfl) ?_ _
                have HU9 := Lib.hid (HU.out.trans hv2)
                have HM9 := Lib.hid (ownsMap_upd HM.out hv2 (by simp))
                have q1 := hv2.keep q1
                have q2 := hv2.keep q2
                obtain ⟨in0, in1⟩ := HIN.out
                have HP9 := Lib.hid (HP.out.put in0 in1)
                obtain ⟨w10, hrun10, hm10, hg10⟩ := (ownsMap_upd HM9.out (Upd.refl [] w16).drew (by simp)).update keyP Tryz.underlying105 (show k < maxLen by unfold maxLen; have := HR9.out; omega) (keyOfP in0 in1) (plainElem_bool (H := Unit) Tryz.underlying4 true)
                have HU10 := Lib.hid ((HU9.out.drew).fresh ((Upd.refl [BM] (w16).drew).grown hg10 (fun j hj => Or.inr (by simp at hj ⊢; exact hj.symm))) (fun b hb => Or.inl (by simp at hb; have := HBMA.out; omega)))
                have HM10 := Lib.hid hm10
                have HP10 := Lib.hid (show PMap (pairsOf (R.take (k + 1))) _ by rw [HST.out]; exact HP9.out)
                clear HU HM HIN HP hHeld za0 za1 za2 za3 zb0 zb1 zb2 zb3 hm10 hg10 HU9 HM9 HP9 in0 in1 HST IA0 IB0 IA IB HC HZ
                go_upto_region 7 with (fail)
                go_region
                all_goals
                  go_wp2_with fail
                  go_roundw
                  case rel => exact ⟨k + 1, _, by omega, by go_num, HE, HU10, HM10, HP10⟩
                  case measure => simp [intOf]; omega
              · have hd : decide (0 ≤ c) = true := decide_eq_true (by omega)
                have hd2 : decide (c ≥ 0) = true := hd
                have HE := Lib.hid (show pairsF R sa sb = false by rw [HCQ.out, decide_eq_false hc0]; simp)
                clear HCQ hc0
                go_upto_region 5 with (fail)
                refine wp_region_held_drew (S := fun w' => w'.cell? ⟨BA, 0, none⟩ = some (ei sa) ∧ w'.cell? ⟨BA, 1, none⟩ = some (ei ia) ∧ w'.cell? ⟨BA, 2, none⟩ = some a1 ∧ w'.cell? ⟨BA, 3, none⟩ = some a2 ∧ w'.cell? ⟨BB, 0, none⟩ = some (ei sb) ∧ w'.cell? ⟨BB, 1, none⟩ = some (ei ib) ∧ w'.cell? ⟨BB, 2, none⟩ = some b1 ∧ w'.cell? ⟨BB, 3, none⟩ = some b2 ∧ w'.cell? ⟨b2r, o2r, none⟩ = some (ei P0) ∧ w'.cell? ⟨b2r, o2r + 1, none⟩ = some (ei P1) ∧ w'.cell? ⟨bb, off + (k - 1), none⟩ = some u9) (by kernel_rfl) ?_ (fun hHeld => ?_)
                · exact ⟨za0, za1, za2, za3, zb0, zb1, zb2, zb3, q1, q2, q9⟩
                refine wpAnyH_take (i := 0) (v := ?_) rfl (by kernel_rfl) (by kernel_rfl) (by kernel_rfl) (fun _ _ _ h => h) (Or.inl ⟨by rfl, ?_⟩) (by assumption) ?_
                rotate_left
                · (intro w hSw; (try dsimp only at hSw); go_simp)
                  first | done | with_reducible rfl
                simp only [Act.put, List.getElem_toArray, List.getElem_cons_zero, List.setIfInBounds_toArray, List.set_cons_zero, List.set_cons_succ]
                refine wpAnyH_take (i := 1) (v := ?_) rfl (by kernel_rfl) (by kernel_rfl) (by kernel_rfl) (fun _ _ _ h => h) (Or.inl ⟨by rfl, ?_⟩) (by assumption) ?_
                rotate_left
                · (intro w hSw; (try dsimp only at hSw); go_simp)
                  first | done | with_reducible rfl
                simp only [Act.put, List.getElem_toArray, List.getElem_cons_zero, List.getElem_cons_succ, List.setIfInBounds_toArray, List.set_cons_zero, List.set_cons_succ]
                refine wpAnyH_take (i := 2) (v := ?_) rfl (by kernel_rfl) (by kernel_rfl) (by kernel_rfl) (fun _ _ _ h => h) (Or.inl ⟨by rfl, ?_⟩) (by assumption) ?_
                rotate_left
                · (intro w hSw; (try dsimp only at hSw); go_simp)
                  first | done | with_reducible rfl
                simp only [Act.put, List.getElem_toArray, List.getElem_cons_zero, List.getElem_cons_succ, List.setIfInBounds_toArray, List.set_cons_zero, List.set_cons_succ]
                refine wpAnyH_take (i := 3) (v := ?_) rfl (by kernel_rfl) (by kernel_rfl) (by kernel_rfl) (fun _ _ _ h => h) (Or.inl ⟨by rfl, ?_⟩) (by assumption) ?_
                rotate_left
                · (intro w hSw; (try dsimp only at hSw); go_simp)
                  first | done | with_reducible rfl
                simp only [Act.put, List.getElem_toArray, List.getElem_cons_zero, List.getElem_cons_succ, List.setIfInBounds_toArray, List.set_cons_zero, List.set_cons_succ]
                refine wpAnyH_take (i := 4) (v := ?_) rfl (by kernel_rfl) (by kernel_rfl) (by kernel_rfl) (fun _ _ _ h => h) (Or.inl ⟨by rfl, ?_⟩) (by assumption) ?_
                rotate_left
                · (intro w hSw; (try dsimp only at hSw); go_simp)
                  first | done | with_reducible rfl
                simp only [Act.put, List.getElem_toArray, List.getElem_cons_zero, List.getElem_cons_succ, List.setIfInBounds_toArray, List.set_cons_zero, List.set_cons_succ]
                refine wpAnyH_take (i := 5) (v := ?_) rfl (by kernel_rfl) (by kernel_rfl) (by kernel_rfl) (fun _ _ _ h => h) (Or.inl ⟨by rfl, ?_⟩) (by assumption) ?_
                rotate_left
                · (intro w hSw; (try dsimp only at hSw); go_simp)
                  first | done | with_reducible rfl
                simp only [Act.put, List.getElem_toArray, List.getElem_cons_zero, List.getElem_cons_succ, List.setIfInBounds_toArray, List.set_cons_zero, List.set_cons_succ]
                refine wpAnyH_take (i := 6) (v := ?_) rfl (by kernel_rfl) (by kernel_rfl) (by kernel_rfl) (fun _ _ _ h => h) (Or.inl ⟨by rfl, ?_⟩) (by assumption) ?_
                rotate_left
                · (intro w hSw; (try dsimp only at hSw); go_simp)
                  first | done | with_reducible rfl
                simp only [Act.put, List.getElem_toArray, List.getElem_cons_zero, List.getElem_cons_succ, List.setIfInBounds_toArray, List.set_cons_zero, List.set_cons_succ]
                refine wpAnyH_take (i := 7) (v := ?_) rfl (by kernel_rfl) (by kernel_rfl) (by kernel_rfl) (fun _ _ _ h => h) (Or.inl ⟨by rfl, ?_⟩) (by assumption) ?_
                rotate_left
                · (intro w hSw; (try dsimp only at hSw); go_simp)
                  first | done | with_reducible rfl
                simp only [Act.put, List.getElem_toArray, List.getElem_cons_zero, List.getElem_cons_succ, List.setIfInBounds_toArray, List.set_cons_zero, List.set_cons_succ]
                refine wpAnyH_ready (rs := [8]) (by kernel_rfl) (by simp) ?_
                refine AllReadyH.cons rfl (fun K hK => ?_) AllReadyH.nil
                go_simp
                refine (IA.out _ ((Upd.refl [] wo).drew)).mono ?_
                rintro e w8 ⟨rfl, hu1⟩
                have hv1 : Upd [] wo w8 := (Upd.refl [] wo).drew.trans hu1
                refine hK.out _ _ ?_ (fun hHeld => ?_)
                · exact ⟨hu1.keep hHeld.1, hu1.keep hHeld.2.1, hu1.keep hHeld.2.2.1, hu1.keep hHeld.2.2.2.1, hu1.keep hHeld.2.2.2.2.1, hu1.keep hHeld.2.2.2.2.2.1, hu1.keep hHeld.2.2.2.2.2.2.1, hu1.keep hHeld.2.2.2.2.2.2.2.1, hu1.keep hHeld.2.2.2.2.2.2.2.2.1, hu1.keep hHeld.2.2.2.2.2.2.2.2.2.1, hu1.keep hHeld.2.2.2.2.2.2.2.2.2.2⟩
                clear hK K
                try simp only [Act.put, List.getElem_toArray, List.getElem_cons_zero, List.getElem_cons_succ, List.setIfInBounds_toArray, List.set_cons_zero, List.set_cons_succ]
                refine wpAnyH_take (i := 9) (v := ?_) rfl (by kernel_rfl) (by kernel_rfl) (by kernel_rfl) (fun _ _ _ h => h) (Or.inl ⟨by rfl, ?_⟩) (by assumption) ?_
                rotate_left
                · (intro w hSw; (try dsimp only at hSw); go_simp)
                  first | done | with_reducible rfl
                simp only [Act.put, List.getElem_toArray, List.getElem_cons_zero, List.getElem_cons_succ, List.setIfInBounds_toArray, List.set_cons_zero, List.set_cons_succ]
                refine wpAnyH_take (i := 10) (v := ?_) rfl (by kernel_rfl) (by kernel_rfl) (by kernel_rfl) (fun _ _ _ h => h) (Or.inl ⟨by rfl, ?_⟩) (by assumption) ?_
                rotate_left
                · (intro w hSw; (try dsimp only at hSw); go_simp)
                  first | done | with_reducible rfl
                simp only [Act.put, List.getElem_toArray, List.getElem_cons_zero, List.getElem_cons_succ, List.setIfInBounds_toArray, List.set_cons_zero, List.set_cons_succ]
                refine wpAnyH_take (i := 11) (v := ?_) rfl (by kernel_rfl) (by kernel_rfl) (by kernel_rfl) (fun _ _ _ h => h) (Or.inl ⟨by rfl, ?_⟩) (by assumption) ?_
                rotate_left
                · (intro w hSw; (try dsimp only at hSw); go_simp)
                  first | done | with_reducible rfl
                simp only [Act.put, List.getElem_toArray, List.getElem_cons_zero, List.getElem_cons_succ, List.setIfInBounds_toArray, List.set_cons_zero, List.set_cons_succ]
                refine wpAnyH_take (i := 12) (v := ?_) rfl (by kernel_rfl) (by kernel_rfl) (by kernel_rfl) (fun _ _ _ h => h) (Or.inl ⟨by rfl, ?_⟩) (by assumption) ?_
                rotate_left
                · (intro w hSw; (try dsimp only at hSw); go_simp)
                  first | done | with_reducible rfl
                simp only [Act.put, List.getElem_toArray, List.getElem_cons_zero, List.getElem_cons_succ, List.setIfInBounds_toArray, List.set_cons_zero, List.set_cons_succ]
                refine wpAnyH_take (i := 13) (v := ?_) rfl (by kernel_rfl) (by kernel_rfl) (by kernel_rfl) (fun _ _ _ h => h) (Or.inl ⟨by rfl, ?_⟩) (by assumption) ?_
                rotate_left
                · (intro w hSw; (try dsimp only at hSw); go_simp)
                  first | done | with_reducible rfl
                simp only [Act.put, List.getElem_toArray, List.getElem_cons_zero, List.getElem_cons_succ, List.setIfInBounds_toArray, List.set_cons_zero, List.set_cons_succ]
                refine wpAnyH_take (i := 14) (v := ?_) rfl (by kernel_rfl) (by kernel_rfl) (by kernel_rfl) (fun _ _ _ h => h) (Or.inl ⟨by rfl, ?_⟩) (by assumption) ?_
                rotate_left
                · (intro w hSw; (try dsimp only at hSw); go_simp)
                  first | done | with_reducible rfl
                simp only [Act.put, List.getElem_toArray, List.getElem_cons_zero, List.getElem_cons_succ, List.setIfInBounds_toArray, List.set_cons_zero, List.set_cons_succ]
                refine wpAnyH_take (i := 15) (v := ?_) rfl (by kernel_rfl) (by kernel_rfl) (by kernel_rfl) (fun _ _ _ h => h) (Or.inl ⟨by rfl, ?_⟩) (by assumption) ?_
                rotate_left
                · (intro w hSw; (try dsimp only at hSw); go_simp)
                  first | done | with_reducible rfl
                simp only [Act.put, List.getElem_toArray, List.getElem_cons_zero, List.getElem_cons_succ, List.setIfInBounds_toArray, List.set_cons_zero, List.set_cons_succ]
                refine wpAnyH_ready (rs := [16]) (by kernel_rfl) (by simp) ?_
                refine AllReadyH.cons rfl (fun K hK => ?_) AllReadyH.nil
                go_simp
                refine (IB.out w8 hv1).mono ?_
                rintro e w16 ⟨rfl, hu2⟩
                have hv2 : Upd [] wo w16 := hv1.trans hu2
                refine hK.out _ _ ?_ (fun hHeld => ?_)
                · exact ⟨hu2.keep hHeld.1, hu2.keep hHeld.2.1, hu2.keep hHeld.2.2.1, hu2.keep hHeld.2.2.2.1, hu2.keep hHeld.2.2.2.2.1, hu2.keep hHeld.2.2.2.2.2.1, hu2.keep hHeld.2.2.2.2.2.2.1, hu2.keep hHeld.2.2.2.2.2.2.2.1, hu2.keep hHeld.2.2.2.2.2.2.2.2.1, hu2.keep hHeld.2.2.2.2.2.2.2.2.2.1, hu2.keep hHeld.2.2.2.2.2.2.2.2.2.2⟩
                clear hK K
                try simp only [Act.put, List.getElem_toArray, List.getElem_cons_zero, List.getElem_cons_succ, List.setIfInBounds_toArray, List.set_cons_zero, List.set_cons_succ]
                refine wpAnyH_take (i := 17) (v := ?_) rfl (by kernel_rfl) (by kernel_rfl) (by kernel_rfl) (fun _ _ _ h => h) (Or.inl ⟨by rfl, ?_⟩) (by assumption) ?_
                rotate_left
                · (intro w hSw; (try dsimp only at hSw); go_simp)
                  first | done | with_reducible rfl
                simp only [Act.put, List.getElem_toArray, List.getElem_cons_zero, List.getElem_cons_succ, List.setIfInBounds_toArray, List.set_cons_zero, List.set_cons_succ]
                refine wpAnyH_take (i := 18) (v := ?_) rfl (by kernel_rfl) (by kernel_rfl) (by kernel_rfl) (fun _ _ _ h => h) (Or.inl ⟨by rfl, ?_⟩) (by assumption) ?_
                rotate_left
                · (intro w hSw; (try dsimp only at hSw); go_simp)
                  first | done | with_reducible rfl
                simp only [Act.put, List.getElem_toArray, List.getElem_cons_zero, List.getElem_cons_succ, List.setIfInBounds_toArray, List.set_cons_zero, List.set_cons_succ]
                refine wpAnyH_take (i := 19) (v := ?_) rfl (by kernel_rfl) (by kernel_rfl) (by kernel_rfl) (fun _ _ _ h => h) (Or.inl ⟨by rfl, ?_⟩) (by assumption) ?_
                rotate_left
                · (intro w hSw; (try dsimp only at hSw); go_simp)
                  first | done | with_reducible rfl
                simp only [Act.put, List.getElem_toArray, List.getElem_cons_zero, List.getElem_cons_succ, List.setIfInBounds_toArray, List.set_cons_zero, List.set_cons_succ]
                refine wpAnyH_take (i := 20) (v := ?_) rfl (by kernel_rfl) (by kernel_rfl) (by kernel_rfl) (fun _ _ _ h => h) (Or.inl ⟨by rfl, ?_⟩) (by assumption) ?_
                rotate_left
                · (intro w hSw; (try dsimp only at hSw); go_simp)
                  first | done | with_reducible rfl
                simp only [Act.put, List.getElem_toArray, List.getElem_cons_zero, List.getElem_cons_succ, List.setIfInBounds_toArray, List.set_cons_zero, List.set_cons_succ]
                refine wpAnyH_take (i := 21) (v := ?_) rfl (by kernel_rfl) (by kernel_rfl) (by kernel_rfl) (fun _ _ _ h => h) (Or.inl ⟨by rfl, ?_⟩) (by assumption) ?_
                rotate_left
                · (intro w hSw; (try dsimp only at hSw); go_simp)
                  first | done | with_reducible rfl
                simp only [Act.put, List.getElem_toArray, List.getElem_cons_zero, List.getElem_cons_succ, List.setIfInBounds_toArray, List.set_cons_zero, List.set_cons_succ]
                refine wpAnyH_take (i := 22) (v := ?_) rfl (by kernel_rfl) (by kernel_rfl) (by kernel_rfl) (fun _ _ _ h => h) (Or.inl ⟨by rfl, ?_⟩) (by assumption) ?_
                rotate_left
                · (intro w hSw; (try dsimp only at hSw); go_simp)
                  first | done | with_reducible rfl
                simp only [Act.put, List.getElem_toArray, List.getElem_cons_zero, List.getElem_cons_succ, List.setIfInBounds_toArray, List.set_cons_zero, List.set_cons_succ]
                refine wpAnyH_take (i := 23) (v := ?_) rfl (by kernel_rfl) (by kernel_rfl) (by kernel_rfl) (fun _ _ _ h => h) (Or.inl ⟨by rfl, ?_⟩) (by assumption) ?_
                rotate_left
                · (intro w hSw; (try dsimp only at hSw); go_simp)
                  first | done | with_reducible rfl
                simp only [Act.put, List.getElem_toArray, List.getElem_cons_zero, List.getElem_cons_succ, List.setIfInBounds_toArray, List.set_cons_zero, List.set_cons_succ]
                refine wpAnyH_take (i := 24) (v := ?_) rfl (by kernel_rfl) (by kernel_rfl) (by kernel_rfl) (fun _ _ _ h => h) (Or.inl ⟨by rfl, ?_⟩) (by assumption) ?_
                rotate_left
                · (intro w hSw; (try dsimp only at hSw); go_simp)
                  first | done | with_reducible rfl
                simp only [Act.put, List.getElem_toArray, List.getElem_cons_zero, List.getElem_cons_succ, List.setIfInBounds_toArray, List.set_cons_zero, List.set_cons_succ]
                refine wpAnyH_take (i := 25) (v := ?_) rfl (by kernel_rfl) (by kernel_rfl) (by kernel_rfl) (fun _ _ _ h => h) (Or.inl ⟨by rfl, ?_⟩) (by assumption) ?_
                rotate_left
                · (intro w hSw; (try dsimp only at hSw); go_simp)
                  first | done | with_reducible rfl
                simp only [Act.put, List.getElem_toArray, List.getElem_cons_zero, List.getElem_cons_succ, List.setIfInBounds_toArray, List.set_cons_zero, List.set_cons_succ]
                refine wpAnyH_take (i := 26) (v := ?_) rfl (by kernel_rfl) (by kernel_rfl) (by kernel_rfl) (fun _ _ _ h => h) (Or.inl ⟨by rfl, ?_⟩) (by assumption) ?_
                rotate_left
                · (intro w hSw; (try dsimp only at hSw); go_simp)
                  first | done | with_reducible rfl
                simp only [Act.put, List.getElem_toArray, List.getElem_cons_zero, List.getElem_cons_succ, List.setIfInBounds_toArray, List.set_cons_zero, List.set_cons_succ]
                refine wpAnyH_take (i := 27) (v := ?_) rfl (by kernel_rfl) (by kernel_rfl) (by kernel_rfl) (fun _ _ _ h => h) (Or.inl ⟨by rfl, ?_⟩) (by assumption) ?_
                rotate_left
                · (intro w hSw; (try dsimp only at hSw); go_simp)
                  first | done | with_reducible rfl
                simp only [Act.put, List.getElem_toArray, List.getElem_cons_zero, List.getElem_cons_succ, List.setIfInBounds_toArray, List.set_cons_zero, List.set_cons_succ]
                refine wpAnyH_take (i := 28) (v := ?_) rfl (by kernel_rfl) (by kernel_rfl) (by kernel_rfl) (fun _ _ _ h => h) (Or.inl ⟨by rfl, ?_⟩) (by assumption) ?_
                rotate_left
                · (intro w hSw; (try dsimp only at hSw); go_simp)
                  first | done | with_reducible rfl
                simp only [Act.put, List.getElem_toArray, List.getElem_cons_zero, List.getElem_cons_succ, List.setIfInBounds_toArray, List.set_cons_zero, List.set_cons_succ]
                refine wpAnyH_ready (rs := [29]) (by kernel_rfl) (by simp) ?_
                refine AllReadyH.cons rfl (fun K hK => ?_) AllReadyH.nil
                go_simp
                refine (SC9.out w16 hv2).mono ?_
                rintro e w29 ⟨rfl, rfl⟩
                have hv3 : Upd [] wo w16 := hv2
                refine hK.out _ _ ?_ (fun hHeld => ?_)
                · exact ⟨hHeld.1, hHeld.2.1, hHeld.2.2.1, hHeld.2.2.2.1, hHeld.2.2.2.2.1, hHeld.2.2.2.2.2.1, hHeld.2.2.2.2.2.2.1, hHeld.2.2.2.2.2.2.2.1, hHeld.2.2.2.2.2.2.2.2.1, hHeld.2.2.2.2.2.2.2.2.2.1, hHeld.2.2.2.2.2.2.2.2.2.2⟩
                clear hK K
                try simp only [Act.put, List.getElem_toArray, List.getElem_cons_zero, List.getElem_cons_succ, List.setIfInBounds_toArray, List.set_cons_zero, List.set_cons_succ]
                refine wpAnyH_take (i := 30) (v := ?_) rfl (by kernel_rfl) (by kernel_rfl) (by kernel_rfl) (fun _ _ _ h => h) (Or.inl ⟨by rfl, ?_⟩) (by assumption) ?_
                rotate_left
                · (intro w hSw; (try dsimp only at hSw); go_simp)
                  first | done | with_reducible rfl
                simp only [Act.put, List.getElem_toArray, List.getElem_cons_zero, List.getElem_cons_succ, List.setIfInBounds_toArray, List.set_cons_zero, List.set_cons_succ]
                refine wpAnyH_take (i := 31) (v := ?_) rfl (by kernel_rfl) (by kernel_rfl) (by kernel_rfl) (fun _ _ _ h => h) (Or.inl ⟨by rfl, ?_⟩) (by assumption) ?_
                rotate_left
                · (intro w hSw; (try dsimp only at hSw); go_simp)
                  first | done | with_reducible rfl
                simp only [Act.put, List.getElem_toArray, List.getElem_cons_zero, List.getElem_cons_succ, List.setIfInBounds_toArray, List.set_cons_zero, List.set_cons_succ]
                refine wpAnyH_take (i := 32) (v := ?_) rfl (by kernel_rfl) (by kernel_rfl) (by kernel_rfl) (fun _ _ _ h => h) (Or.inl ⟨by rfl, ?_⟩) (by assumption) ?_
                rotate_left
                · (intro w hSw; (try dsimp only at hSw); go_simp)
                  first | done | with_reducible rfl
                simp only [Act.put, List.getElem_toArray, List.getElem_cons_zero, List.getElem_cons_succ, List.setIfInBounds_toArray, List.set_cons_zero, List.set_cons_succ]
                refine wpAnyH_done (by kernel_rfl) ?_ _
                have HU9 := Lib.hid (HU.out.trans hv2)
                clear HU hHeld q1 q2 za0 za1 za2 za3 zb0 zb1 zb2 zb3
                go_wp2_with fail
                go_ret2
                exact ⟨Or.inl ⟨HE.out, rfl⟩, HUA.out.trans HU9.out⟩
      · have hbe : ((R[k].length : Int) != 2) = true := by simp; omega
        have HE := Lib.hid (show pairsF R sa sb = false by rw [← hF, show (R[k].length == 2) = false from by simpa using h2]; simp)
        clear hF HF h2 hcs hr HRK gk
        go_upto_region 5 with (fail)
        go_quiet (fail)
        have HU9 := Lib.hid (HU.out.drewN nq)
        clear HU
        go_wp2_with fail
        go_ret2
        exact ⟨Or.inl ⟨HE.out, rfl⟩, HUA.out.trans HU9.out⟩
    · obtain rfl : k = R.length := by omega
      have HE := Lib.hid (show pairsF R sa sb = true by rw [← HF.out, Nat.sub_self]; rfl)
      have HP9 := Lib.hid (show PMap (pairsOf R) D by have := HP.out; rw [List.take_length] at this; exact this)
      clear HF HP
      go_wp2_with fail
      go_ret2
      exact ⟨Or.inr ⟨HE.out, BM, _, D, rfl, HBM.out, HM.out, HP9.out⟩, HUA.out.trans HU.out⟩

end Go.Proofs.YtcnaapiljmgfoaaGreatDoor

/-
  Relations between systems, the program's: what answers an edge is a function's value; the relation turned round.
-/
namespace Go.Proofs.YtcnaapiljmgfoaaGreatDoor
open Go.RowKit Go.Maps

theorem Upd.setRow {f : List Nat} {w w1 : World} (h : Upd f w w1) {g : Nat} (hg : w.heap.size ≤ g ∨ g ∈ f) (cs : Array Value) : Upd f w (w1.setRow g cs) :=
  h.fresh (f := [g]) ⟨rfl, rfl, rfl, by simp, fun k _ hf => setRow_other _ _ _ _ (by simpa using hf)⟩ (by simpa using hg)
/-- the nine cells of a relation in a block of their own. -/
def RelAt (T : Nat) (W : World) (A B : Sys) (a1 a2 b1 b2 hv : Value) : Prop := W.heap[T]? = some (.cells #[ei A.st, ei A.ini, a1, a2, ei B.st, ei B.ini, b1, b2, hv] 86 (0, 0))
theorem RelAt.facts {T : Nat} {W : World} {A B : Sys} {a1 a2 b1 b2 hv : Value} (h : RelAt T W A B a1 a2 b1 b2 hv) :
    (W.cell? ⟨T, 0, none⟩ = some (ei A.st) ∧ W.cell? ⟨T, 1, none⟩ = some (ei A.ini) ∧ W.cell? ⟨T, 2, none⟩ = some a1 ∧ W.cell? ⟨T, 3, none⟩ = some a2) ∧
    (W.cell? ⟨T, 4, none⟩ = some (ei B.st) ∧ W.cell? ⟨T, 5, none⟩ = some (ei B.ini) ∧ W.cell? ⟨T, 6, none⟩ = some b1 ∧ W.cell? ⟨T, 7, none⟩ = some b2) ∧ W.cell? ⟨T, 8, none⟩ = some hv := by
  unfold RelAt at h
  refine ⟨⟨?_, ?_, ?_, ?_⟩, ⟨?_, ?_, ?_, ?_⟩, ?_⟩ <;> simp [World.cell?, h]
theorem RelAt.upd {T : Nat} {w w1 : World} {A B : Sys} {a1 a2 b1 b2 hv : Value} (h : RelAt T w A B a1 a2 b1 b2 hv) {f : List Nat} (hu : Upd f w w1) (hf : T ∉ f) : RelAt T w1 A B a1 a2 b1 b2 hv := by
  unfold RelAt at *
  rw [hu.block T (Array.getElem?_eq_some_iff.1 h).1 hf]; exact h
theorem RelAt.new (w : World) (A B : Sys) (a1 a2 b1 b2 hv : Value) : RelAt w.heap.size (w.alloc (.cells #[ei A.st, ei A.ini, a1, a2, ei B.st, ei B.ini, b1, b2, hv] 86)) A B a1 a2 b1 b2 hv := heap_alloc_new w _
theorem rel_size : (Tryz.prog.info? 86).map (·.size) = some 9 := by kernel_rfl
abbrev relV (A B : Sys) (a1 a2 b1 b2 hv : Value) : Value := .agg #[ei A.st, ei A.ini, a1, a2, ei B.st, ei B.ini, b1, b2, hv]

/-- two valid systems as they lie. -/
structure Two (w : World) (A B : Sys) (a1 a2 b1 b2 : Value) (f1 f2 f3 f4 : List Nat) : Prop where
  la : RS f1 w [a1] A.labs
  ea : R_E1 f2 w [a2] A.eds
  lb : RS f3 w [b1] B.labs
  eb : R_E1 f4 w [b2] B.eds
  oka : sysOk A = true
  okb : sysOk B = true
theorem Two.upd {w w1 : World} {A B : Sys} {a1 a2 b1 b2 : Value} {f1 f2 f3 f4 : List Nat} (h : Two w A B a1 a2 b1 b2 f1 f2 f3 f4) (hu : Upd [] w w1) : Two w1 A B a1 a2 b1 b2 f1 f2 f3 f4 :=
  ⟨RSk.upd h.la hu (by simp), R_E1k.upd h.ea hu (by simp), RSk.upd h.lb hu (by simp), R_E1k.upd h.eb hu (by simp), h.oka, h.okb⟩
theorem Two.turn {w : World} {A B : Sys} {a1 a2 b1 b2 : Value} {f1 f2 f3 f4 : List Nat} (h : Two w A B a1 a2 b1 b2 f1 f2 f3 f4) : Two w B A b1 b2 a1 a2 f3 f4 f1 f2 := ⟨h.lb, h.eb, h.la, h.ea, h.okb, h.oka⟩

/-- a function's value that tells of two states whether they are related. -/
def HasC (hv : Value) (sa sb : Int) (H : Int → Int → Bool) (w : World) : Prop :=
  ∃ (g : FuncId) (caps : Array Value), hv = .func (.func g) #[] caps ∧ (∀ args W, Sem.run Tryz.prog (callFunc g args) W = .ok (.enter g args) W) ∧
    ∀ (W : World) (x y : Int), Upd [] w W → 0 ≤ x → x < sa → 0 ≤ y → y < sb → Calls Tryz.prog g (#[.int .i64 x, .int .i64 y] ++ caps) W fun e w' => e = .returned (.bool (H x y)) ∧ Upd [] W w'
theorem HasC.upd {hv : Value} {sa sb : Int} {H : Int → Int → Bool} {w w1 : World} (h : HasC hv sa sb H w) (hu : Upd [] w w1) : HasC hv sa sb H w1 := by
  obtain ⟨g, caps, h1, h2, h3⟩ := h
  exact ⟨g, caps, h1, h2, fun W x y hu2 => h3 W x y (hu.trans hu2)⟩

/-- a function's value that answers an edge. -/
def WayC (fn : FuncId) (F : Sys → Sys → (Int → Int → Bool) → Int → Int → List UInt8 → Int → Bool) : Prop :=
  (∀ args W, Sem.run Tryz.prog (callFunc fn args) W = .ok (.enter fn args) W) ∧
  ∀ (A B : Sys) (a1 a2 b1 b2 hv : Value) (H : Int → Int → Bool) (x y v : Int) (s : List UInt8) (w : World) (f1 f2 f3 f4 : List Nat), Two w A B a1 a2 b1 b2 f1 f2 f3 f4 → HasC hv A.st B.st H w → 0 ≤ x → x < A.st → 0 ≤ y → y < B.st → 0 ≤ v → v < A.st →
    Calls Tryz.prog fn #[relV A B a1 a2 b1 b2 hv, .int .i64 x, .int .i64 y, es s, .int .i64 v] w fun e w' => e = .returned (.bool (F A B H x y s v)) ∧ Upd [] w w'

theorem enter_turned1 (args : Array Value) (w : World) : Sem.run Tryz.prog (callFunc 134 args) w = .ok (.enter 134 args) w := by go_simp

set_option maxRecDepth 20000 in
set_option maxHeartbeats 2000000 in
theorem turned1I (T : Nat) (A B : Sys) (a1 a2 b1 b2 hv : Value) (H : Int → Int → Bool) (x y : Int) (w : World) (hT : RelAt T w A B a1 a2 b1 b2 hv) (hh : HasC hv A.st B.st H w) (h1 : 0 ≤ x) (h2 : x < B.st) (h3 : 0 ≤ y) (h4 : y < A.st) :
    Calls Tryz.prog 134 #[.int .i64 x, .int .i64 y, .pointer (some ⟨T, 0, none⟩)] w fun e w' => e = .returned (.bool (H y x)) ∧ Upd [] w w' := by
  obtain ⟨g, caps, rfl, hent, hc⟩ := hh
  have S1 := Lib.hid (hc w y x (Upd.refl _ _) h3 h4 h1 h2)
  have z8 := hT.facts.2.2
  generalize H y x = b at *
  clear hc hT h1 h2 h3 h4
  go_enter Tryz.func134, Tryz.ntmps134
  go_wp2_with fail
  refine S1.out.mono ?_
  rintro e w1 ⟨rfl, hu⟩
  have U := Lib.hid hu
  clear S1 hu
  go_wp2_with fail
  go_ret
  exact ⟨rfl, U.out⟩

set_option maxRecDepth 20000 in
set_option maxHeartbeats 4000000 in
theorem turnedI (A B : Sys) (a1 a2 b1 b2 hv : Value) (H : Int → Int → Bool) (w : World) (f1 f2 f3 f4 : List Nat) (h : Two w A B a1 a2 b1 b2 f1 f2 f3 f4) (hh : HasC hv A.st B.st H w) :
    Calls Tryz.prog 115 #[relV A B a1 a2 b1 b2 hv] w fun e w' => (∃ hv', e = .returned (relV B A b1 b2 a1 a2 hv') ∧ HasC hv' B.st A.st (fun x y => H y x) w') ∧ Upd [] w w' := by
  obtain ⟨wA, hwA⟩ : ∃ wA, wA = w.alloc (.cells #[ei A.st, ei A.ini, a1, a2, ei B.st, ei B.ini, b1, b2, hv] 86) := ⟨_, rfl⟩
  have U := Lib.hid (show Upd [] w wA by rw [hwA]; exact (Upd.refl _ _).alloc _)
  have hR : RelAt w.heap.size wA A B a1 a2 b1 b2 hv := by rw [hwA]; exact RelAt.new w A B a1 a2 b1 b2 hv
  have HR := Lib.hid hR
  have HH := Lib.hid (hh.upd U.out)
  obtain ⟨T, hT⟩ : ∃ T, T = w.heap.size := ⟨_, rfl⟩
  rw [← hT] at HR hR
  obtain ⟨⟨z0, z1, z2, z3⟩, ⟨z4, z5, z6, z7⟩, -⟩ := hR.facts
  obtain ⟨p1, q1, rfl, -, -, -⟩ := slF1_open h.la
  obtain ⟨p2, q2, rfl, -, -, -⟩ := slF3_open h.ea
  obtain ⟨p3, q3, rfl, -, -, -⟩ := slF1_open h.lb
  obtain ⟨p4, q4, rfl, -, -, -⟩ := slF3_open h.eb
  clear hh hR h
  obtain ⟨sa, ia, la, ea⟩ := A
  obtain ⟨sb, ib, lb, eb⟩ := B
  simp only at *
  go_enter Tryz.func115, Tryz.ntmps115
  go_upto_region 1 with (fail)
  rw [← hwA, ← hT]
  have hsz : wA.heap.size = T + 1 := by rw [hwA, hT]; simp
  clear hwA hT
  obtain ⟨wB, hwB⟩ : ∃ wB, wB = wA.alloc (.cells #[.int .i64 0, .int .i64 0, .slice none 0 0, .slice none 0 0, .int .i64 0, .int .i64 0, .slice none 0 0, .slice none 0 0, .nilFunc] 86) := ⟨_, rfl⟩
  have UB := Lib.hid (show Upd [] wA wB by rw [hwB]; exact (Upd.refl _ _).alloc _)
  have hB : wB.heap[T + 1]? = some (.cells #[.int .i64 0, .int .i64 0, .slice none 0 0, .slice none 0 0, .int .i64 0, .int .i64 0, .slice none 0 0, .slice none 0 0, .nilFunc] 86 (0, 0)) := by rw [hwB, ← hsz]; exact heap_alloc_new wA _
  have y0 := UB.out.keep z0
  have y1 := UB.out.keep z1
  have y2 := UB.out.keep z2
  have y3 := UB.out.keep z3
  have y4 := UB.out.keep z4
  have y5 := UB.out.keep z5
  have y6 := UB.out.keep z6
  have y7 := UB.out.keep z7
  rw [← hwB]
  clear hwB z0 z1 z2 z3 z4 z5 z6 z7
  go_wp2_with (first
    | (refine wpList_store_row rfl 86 _ _ rfl (T + 1) #[ei sb, ei ib, .slice p3 lb.length q3, .slice p4 eb.length q4, ei sa, ei ia, .slice p1 la.length q1, .slice p2 ea.length q2, .func (.func 134) #[] #[.pointer (some ⟨T, 0, none⟩)]] rfl rfl 86 _ hB rel_size rfl (by simp [Value.oneCell']) ?_)
    | fail)
  obtain ⟨wC, hwC⟩ : ∃ wC, wC = wB.setRow (T + 1) #[ei sb, ei ib, .slice p3 lb.length q3, .slice p4 eb.length q4, ei sa, ei ia, .slice p1 la.length q1, .slice p2 ea.length q2, .func (.func 134) #[] #[.pointer (some ⟨T, 0, none⟩)]] := ⟨_, rfl⟩
  have hC : wC.heap[T + 1]? = some (.cells #[ei sb, ei ib, .slice p3 lb.length q3, .slice p4 eb.length q4, ei sa, ei ia, .slice p1 la.length q1, .slice p2 ea.length q2, .func (.func 134) #[] #[.pointer (some ⟨T, 0, none⟩)]] 86 (0, 0)) := by rw [hwC]; exact setRow_heap _ _ _ _ _ _ hB
  have UC : Upd [] wA wC := by rw [hwC]; exact UB.out.setRow (Or.inl (by omega)) _
  rw [← hwC]
  clear hwC hB y0 y1 y2 y3 y4 y5 y6 y7
  refine bodyPost_ret (results_cell_row Tryz.results115 _ _ (T + 1) 86 _ (0, 0) _ rfl hC Tryz.underlying86 rfl rel_size) rfl ?_
  refine ⟨⟨_, rfl, ?_⟩, U.out.trans UC⟩
  refine ⟨134, #[.pointer (some ⟨T, 0, none⟩)], rfl, enter_turned1, ?_⟩
  intro W x y hu hx1 hx2 hy1 hy2
  exact turned1I T _ _ _ _ _ _ _ H x y W (HR.out.upd (UC.trans hu) (by simp)) (HH.out.upd (UC.trans hu)) hx1 hx2 hy1 hy2

end Go.Proofs.YtcnaapiljmgfoaaGreatDoor

/-
  Relations between systems, the program's answered: all edges from a state are answered. (The drawn region's way is printed by tools/genbisb.py.)
-/
namespace Go.Proofs.YtcnaapiljmgfoaaGreatDoor
open Go.RowKit

/-- all edges from a state are answered. -/
def ansF (A : Sys) (x : Int) (W : List UInt8 → Int → Bool) : Bool := (outF A.eds x).all fun e => W (A.labs.getD e.lb.toNat []) e.to
theorem sys_eds {x : Sys} (h : sysOk x = true) : ∀ e ∈ x.eds, (0 ≤ e.fr ∧ e.fr < x.st) ∧ (0 ≤ e.to ∧ e.to < x.st) := by
  intro e he
  unfold sysOk at h
  simp only [Bool.and_eq_true] at h
  obtain ⟨i, hi, rfl⟩ := List.getElem_of_mem he
  have := allF_get h.2 i (by omega) (by omega)
  rw [edP_at _ _ hi] at this
  simp only [Bool.and_eq_true] at this
  have r1 := inB_true this.1.1.1
  have r2 := inB_true this.1.1.2
  omega

set_option maxRecDepth 20000 in
set_option maxHeartbeats 8000000 in
theorem answeredI (fn : FuncId) (F : Sys → Sys → (Int → Int → Bool) → Int → Int → List UInt8 → Int → Bool) (hway : WayC fn F) (A B : Sys) (a1 a2 b1 b2 hv : Value) (H : Int → Int → Bool) (x y : Int) (w : World) (f1 f2 f3 f4 : List Nat)
    (h : Two w A B a1 a2 b1 b2 f1 f2 f3 f4) (hh : HasC hv A.st B.st H w) (hx0 : 0 ≤ x) (hx1 : x < A.st) (hy0 : 0 ≤ y) (hy1 : y < B.st) :
    Calls Tryz.prog 114 #[relV A B a1 a2 b1 b2 hv, .int .i64 x, .int .i64 y, .func (.func fn) #[] #[]] w fun e w' => e = .returned (.bool (ansF A x (F A B H x y))) ∧ Upd [] w w' := by
  obtain ⟨-, -, hlabs, heds, -, -⟩ := sys_parts h.oka
  have hent := hway.1
  have HLB := Lib.hid (sys_labs h.oka)
  have HTO := Lib.hid (sys_eds h.oka)
  obtain ⟨wA, hwA⟩ : ∃ wA, wA = w.alloc (.cells #[ei A.st, ei A.ini, a1, a2, ei B.st, ei B.ini, b1, b2, hv] 86) := ⟨_, rfl⟩
  have U := Lib.hid (show Upd [] w wA by rw [hwA]; exact (Upd.refl _ _).alloc _)
  have hR : RelAt w.heap.size wA A B a1 a2 b1 b2 hv := by rw [hwA]; exact RelAt.new w A B a1 a2 b1 b2 hv
  obtain ⟨BR, hBR⟩ : ∃ BR, BR = w.heap.size := ⟨_, rfl⟩
  rw [← hBR] at hR
  have HR := Lib.hid hR
  have W0 := Lib.hid (fun (s : List UInt8) (v : Int) (h0 : 0 ≤ v) (h1 : v < A.st) W (hu : Upd [] wA W) => hway.2 A B a1 a2 b1 b2 hv H x y v s W f1 f2 f3 f4 (h.upd (U.out.trans hu)) (hh.upd (U.out.trans hu)) hx0 hx1 hy0 hy1 h0 h1)
  have S1 := Lib.hid (outEI A.st A.ini a1 a2 A.eds x wA f2 (h.upd U.out).ea (by omega))
  obtain ⟨la, ca, rfl, la1, la2, hca⟩ := slF1_open (h.upd U.out).la
  obtain ⟨l2a, c2a, rfl, -, -, -⟩ := slF3_open (h.upd U.out).ea
  unfold maxLen at la2
  have HCA := Lib.hid hca
  have HM := Lib.hid (show ansF A x (F A B H x y) = ((outF A.eds x).drop 0).all fun e => F A B H x y (A.labs.getD e.lb.toNat []) e.to from rfl)
  have HOA := Lib.hid (fun e (h : e ∈ outF A.eds x) => And.intro (HLB.out e (outF_mem h)) (HTO.out e (outF_mem h)).2)
  obtain ⟨⟨z0, z1, z2, z3⟩, ⟨z4, z5, z6, z7⟩, z8⟩ := hR.facts
  clear hca hR h hh hway HLB HTO hx0 hx1 hy0 hy1
  generalize outF A.eds x = OA at *
  generalize ansF A x (F A B H x y) = Z at *
  generalize F A B H x y = FF at *
  go_enter Tryz.func114, Tryz.ntmps114
  go_upto_region 1 with (fail)
  rw [← hwA, ← hBR]
  clear hwA hBR
  go_wp2_with fail
  refine S1.out.mono ?_
  rintro e w1 ⟨⟨vl, rfl, fl, rl, -, -⟩, hu1⟩
  obtain ⟨l1, cl, rfl, ll1, ll2, hcl⟩ := slF3_open rl
  unfold maxLen at ll2
  have HCL := Lib.hid hcl
  have HU1 := Lib.hid hu1
  clear S1 rl hu1 hcl z0 z1 z2 z3 z4 z5 z6 z7 z8
  go_wp2_with fail
  go_loopw [16] (fun iv wr => ∃ i : Nat, i ≤ OA.length ∧ iv = .int .i64 i ∧ Hid (((OA.drop i).all fun e => FF (A.labs.getD e.lb.toNat []) e.to) = Z) ∧ Hid (Upd [] w1 wr)) (fun iv _ => OA.length - (intOf iv).toNat)
  case atStart => exact ⟨0, Nat.zero_le _, rfl, Lib.hid HM.out.symm, Lib.hid (Upd.refl _ _)⟩
  case round =>
    clear HM
    obtain ⟨wo, rfl⟩ : ∃ wo : World, wo = wr := ⟨_, rfl⟩
    obtain ⟨i, hi, rfl, HA, HU⟩ := hrel
    by_cases hlt : i < OA.length
    · obtain ⟨bl, ol, rfl, -, -, p1, p2, p3⟩ := HCL.out i hlt
      obtain ⟨hlab, hto0, hto1⟩ := HOA.out OA[i] (List.getElem_mem hlt)
      have hS := HA.out
      rw [List.drop_eq_getElem_cons hlt, List.all_cons] at hS
      have HS := Lib.hid hS
      have hil : (i : Int) < (OA.length : Int) := by omega
      have q1 := HU.out.keep p1
      have q2 := HU.out.keep p2
      have q3 := HU.out.keep p3
      clear hS HA p1 p2 p3
      generalize OA[i] = e at *
      obtain ⟨e1, e2, e3⟩ := e
      simp only at q1 q2 q3 hlab hto0 hto1 HS
      obtain ⟨le, rfl⟩ : ∃ N : Nat, e2 = N := ⟨e2.toNat, by omega⟩
      have hle : le < A.labs.length := by omega
      have hlei : (le : Int) < (A.labs.length : Int) := by omega
      obtain ⟨ba, obx, rfl, -, -, pA⟩ := HCA.out le hle
      have gA : A.labs.getD le [] = A.labs[le] := by rw [List.getD_eq_getElem?_getD, List.getElem?_eq_getElem hle]; rfl
      rw [Int.toNat_natCast, gA] at HS
      clear gA hlab
      generalize A.labs[le] = sa at *
      obtain ⟨wB, hwB⟩ : ∃ wB, wB = wo.alloc (.cells #[.int .i64 e1, .int .i64 le, .int .i64 e3] 74) := ⟨_, rfl⟩
      have UB : Upd [] wo wB := by rw [hwB]; exact (Upd.refl _ _).alloc _
      have HUB := Lib.hid (HU.out.trans UB)
      have t0 : wB.cell? ⟨wo.heap.size, 0, none⟩ = some (ei e1) := by rw [hwB]; exact cell_new wo _ _ _ rfl 0 _ rfl
      have t1 : wB.cell? ⟨wo.heap.size, 1, none⟩ = some (ei le) := by rw [hwB]; exact cell_new wo _ _ _ rfl 1 _ rfl
      have t2 : wB.cell? ⟨wo.heap.size, 2, none⟩ = some (ei e3) := by rw [hwB]; exact cell_new wo _ _ _ rfl 2 _ rfl
      have rA := HUB.out.keep (HU1.out.keep pA)
      obtain ⟨⟨z0, z1, z2, z3⟩, ⟨z4, z5, z6, z7⟩, z8⟩ := (HR.out.upd (HU1.out.trans HUB.out) (by simp)).facts
      have WY := Lib.hid (fun W (hu : Upd [] wB W) => W0.out sa e3 hto0 hto1 W (HU1.out.trans (HUB.out.trans hu)))
      generalize FF sa e3 = bb at *
      obtain ⟨BE, hBE⟩ : ∃ BE, BE = wo.heap.size := ⟨_, rfl⟩
      rw [← hBE] at t0 t1 t2
      go_upto_region 4 with (fail)
      rw [← hwB, ← hBE]
      clear hwB hBE HU q1 q2 q3 pA UB W0 HCA HCL HOA hto0 hto1
      refine wp_region_held_drew (S := fun w' => w'.cell? ⟨BR, 0, none⟩ = some (ei A.st) ∧ w'.cell? ⟨BR, 1, none⟩ = some (ei A.ini) ∧ w'.cell? ⟨BR, 2, none⟩ = some (.slice (some ⟨ba, obx, none⟩) A.labs.length ca) ∧ w'.cell? ⟨BR, 3, none⟩ = some (.slice l2a A.eds.length c2a) ∧ w'.cell? ⟨BR, 4, none⟩ = some (ei B.st) ∧ w'.cell? ⟨BR, 5, none⟩ = some (ei B.ini) ∧ w'.cell? ⟨BR, 6, none⟩ = some b1 ∧ w'.cell? ⟨BR, 7, none⟩ = some b2 ∧ w'.cell? ⟨BR, 8, none⟩ = some hv ∧ w'.cell? ⟨BE, 0, none⟩ = some (ei e1) ∧ w'.cell? ⟨BE, 1, none⟩ = some (ei le) ∧ w'.cell? ⟨BE, 2, none⟩ = some (ei e3) ∧ w'.cell? ⟨ba, obx + le, none⟩ = some (es sa)) (by kernel_rfl) ?_ (fun hHeld => ?_)
      · exact ⟨z0, z1, z2, z3, z4, z5, z6, z7, z8, t0, t1, t2, rA⟩
      refine wpAnyH_take (i := 0) (v := ?_) rfl (by kernel_rfl) (by kernel_rfl) (by kernel_rfl) (fun _ _ _ h => h) (Or.inl ⟨by rfl, ?_⟩) (by assumption) ?_
      rotate_left
      · (intro w hSw; (try dsimp only at hSw); go_simp)
        first | done | with_reducible rfl
      simp only [Act.put, List.getElem_toArray, List.getElem_cons_zero, List.setIfInBounds_toArray, List.set_cons_zero, List.set_cons_succ]
      refine wpAnyH_take (i := 1) (v := ?_) rfl (by kernel_rfl) (by kernel_rfl) (by kernel_rfl) (fun _ _ _ h => h) (Or.inl ⟨by rfl, ?_⟩) (by assumption) ?_
      rotate_left
      · (intro w hSw; (try dsimp only at hSw); go_simp)
        first | done | with_reducible rfl
      simp only [Act.put, List.getElem_toArray, List.getElem_cons_zero, List.getElem_cons_succ, List.setIfInBounds_toArray, List.set_cons_zero, List.set_cons_succ]
      refine wpAnyH_take (i := 2) (v := ?_) rfl (by kernel_rfl) (by kernel_rfl) (by kernel_rfl) (fun _ _ _ h => h) (Or.inl ⟨by rfl, ?_⟩) (by assumption) ?_
      rotate_left
      · (intro w hSw; (try dsimp only at hSw); go_simp)
        first | done | with_reducible rfl
      simp only [Act.put, List.getElem_toArray, List.getElem_cons_zero, List.getElem_cons_succ, List.setIfInBounds_toArray, List.set_cons_zero, List.set_cons_succ]
      refine wpAnyH_take (i := 3) (v := ?_) rfl (by kernel_rfl) (by kernel_rfl) (by kernel_rfl) (fun _ _ _ h => h) (Or.inl ⟨by rfl, ?_⟩) (by assumption) ?_
      rotate_left
      · (intro w hSw; (try dsimp only at hSw); go_simp)
        first | done | with_reducible rfl
      simp only [Act.put, List.getElem_toArray, List.getElem_cons_zero, List.getElem_cons_succ, List.setIfInBounds_toArray, List.set_cons_zero, List.set_cons_succ]
      refine wpAnyH_take (i := 4) (v := ?_) rfl (by kernel_rfl) (by kernel_rfl) (by kernel_rfl) (fun _ _ _ h => h) (Or.inl ⟨by rfl, ?_⟩) (by assumption) ?_
      rotate_left
      · (intro w hSw; (try dsimp only at hSw); go_simp)
        first | done | with_reducible rfl
      simp only [Act.put, List.getElem_toArray, List.getElem_cons_zero, List.getElem_cons_succ, List.setIfInBounds_toArray, List.set_cons_zero, List.set_cons_succ]
      refine wpAnyH_take (i := 5) (v := ?_) rfl (by kernel_rfl) (by kernel_rfl) (by kernel_rfl) (fun _ _ _ h => h) (Or.inl ⟨by rfl, ?_⟩) (by assumption) ?_
      rotate_left
      · (intro w hSw; (try dsimp only at hSw); go_simp)
        first | done | with_reducible rfl
      simp only [Act.put, List.getElem_toArray, List.getElem_cons_zero, List.getElem_cons_succ, List.setIfInBounds_toArray, List.set_cons_zero, List.set_cons_succ]
      refine wpAnyH_take (i := 6) (v := ?_) rfl (by kernel_rfl) (by kernel_rfl) (by kernel_rfl) (fun _ _ _ h => h) (Or.inl ⟨by rfl, ?_⟩) (by assumption) ?_
      rotate_left
      · (intro w hSw; (try dsimp only at hSw); go_simp)
        first | done | with_reducible rfl
      simp only [Act.put, List.getElem_toArray, List.getElem_cons_zero, List.getElem_cons_succ, List.setIfInBounds_toArray, List.set_cons_zero, List.set_cons_succ]
      refine wpAnyH_take (i := 7) (v := ?_) rfl (by kernel_rfl) (by kernel_rfl) (by kernel_rfl) (fun _ _ _ h => h) (Or.inl ⟨by rfl, ?_⟩) (by assumption) ?_
      rotate_left
      · (intro w hSw; (try dsimp only at hSw); go_simp)
        first | done | with_reducible rfl
      simp only [Act.put, List.getElem_toArray, List.getElem_cons_zero, List.getElem_cons_succ, List.setIfInBounds_toArray, List.set_cons_zero, List.set_cons_succ]
      refine wpAnyH_take (i := 8) (v := ?_) rfl (by kernel_rfl) (by kernel_rfl) (by kernel_rfl) (fun _ _ _ h => h) (Or.inl ⟨by rfl, ?_⟩) (by assumption) ?_
      rotate_left
      · (intro w hSw; (try dsimp only at hSw); go_simp)
        first | done | with_reducible rfl
      simp only [Act.put, List.getElem_toArray, List.getElem_cons_zero, List.getElem_cons_succ, List.setIfInBounds_toArray, List.set_cons_zero, List.set_cons_succ]
      refine wpAnyH_take (i := 9) (v := ?_) rfl (by kernel_rfl) (by kernel_rfl) (by kernel_rfl) (fun _ _ _ h => h) (Or.inl ⟨by rfl, ?_⟩) (by assumption) ?_
      rotate_left
      · (intro w hSw; (try dsimp only at hSw); go_simp)
        first | done | with_reducible rfl
      simp only [Act.put, List.getElem_toArray, List.getElem_cons_zero, List.getElem_cons_succ, List.setIfInBounds_toArray, List.set_cons_zero, List.set_cons_succ]
      refine wpAnyH_take (i := 10) (v := ?_) rfl (by kernel_rfl) (by kernel_rfl) (by kernel_rfl) (fun _ _ _ h => h) (Or.inl ⟨by rfl, ?_⟩) (by assumption) ?_
      rotate_left
      · (intro w hSw; (try dsimp only at hSw); go_simp)
        first | done | with_reducible rfl
      simp only [Act.put, List.getElem_toArray, List.getElem_cons_zero, List.getElem_cons_succ, List.setIfInBounds_toArray, List.set_cons_zero, List.set_cons_succ]
      refine wpAnyH_take (i := 11) (v := ?_) rfl (by kernel_rfl) (by kernel_rfl) (by kernel_rfl) (fun _ _ _ h => h) (Or.inl ⟨by rfl, ?_⟩) (by assumption) ?_
      rotate_left
      · (intro w hSw; (try dsimp only at hSw); go_simp)
        first | done | with_reducible rfl
      simp only [Act.put, List.getElem_toArray, List.getElem_cons_zero, List.getElem_cons_succ, List.setIfInBounds_toArray, List.set_cons_zero, List.set_cons_succ]
      refine wpAnyH_take (i := 12) (v := ?_) rfl (by kernel_rfl) (by kernel_rfl) (by kernel_rfl) (fun _ _ _ h => h) (Or.inl ⟨by rfl, ?_⟩) (by assumption) ?_
      rotate_left
      · (intro w hSw; (try dsimp only at hSw); go_simp)
        first | done | with_reducible rfl
      simp only [Act.put, List.getElem_toArray, List.getElem_cons_zero, List.getElem_cons_succ, List.setIfInBounds_toArray, List.set_cons_zero, List.set_cons_succ]
      refine wpAnyH_ready (rs := [13]) (by kernel_rfl) (by simp) ?_
      refine AllReadyH.cons rfl (fun K hK => ?_) AllReadyH.nil
      go_simp
      refine (WY.out _ ((Upd.refl [] wB).drew)).mono ?_
      rintro e w13 ⟨rfl, hu2⟩
      have hv2 : Upd [] wB w13 := (Upd.refl [] wB).drew.trans hu2
      refine hK.out _ _ ?_ (fun hHeld => ?_)
      · exact ⟨hu2.keep hHeld.1, hu2.keep hHeld.2.1, hu2.keep hHeld.2.2.1, hu2.keep hHeld.2.2.2.1, hu2.keep hHeld.2.2.2.2.1, hu2.keep hHeld.2.2.2.2.2.1, hu2.keep hHeld.2.2.2.2.2.2.1, hu2.keep hHeld.2.2.2.2.2.2.2.1, hu2.keep hHeld.2.2.2.2.2.2.2.2.1, hu2.keep hHeld.2.2.2.2.2.2.2.2.2.1, hu2.keep hHeld.2.2.2.2.2.2.2.2.2.2.1, hu2.keep hHeld.2.2.2.2.2.2.2.2.2.2.2.1, hu2.keep hHeld.2.2.2.2.2.2.2.2.2.2.2.2⟩
      clear hK K
      try simp only [Act.put, List.getElem_toArray, List.getElem_cons_zero, List.getElem_cons_succ, List.setIfInBounds_toArray, List.set_cons_zero, List.set_cons_succ]
      refine wpAnyH_take (i := 14) (v := ?_) rfl (by kernel_rfl) (by kernel_rfl) (by kernel_rfl) (fun _ _ _ h => h) (Or.inl ⟨by rfl, ?_⟩) (by assumption) ?_
      rotate_left
      · (intro w hSw; (try dsimp only at hSw); go_simp)
        first | done | with_reducible rfl
      simp only [Act.put, List.getElem_toArray, List.getElem_cons_zero, List.getElem_cons_succ, List.setIfInBounds_toArray, List.set_cons_zero, List.set_cons_succ]
      refine wpAnyH_done (by kernel_rfl) ?_ _
      have HU9 := Lib.hid (HUB.out.trans hv2)
      clear hHeld z0 z1 z2 z3 z4 z5 z6 z7 z8 t0 t1 t2 rA HUB WY hv2 hu2
      cases bb with
      | false =>
        have HE := Lib.hid (show Z = false by rw [← HS.out]; rfl)
        clear HS
        go_wp2_with fail
        go_ret
        exact ⟨by rw [HE.out]; rfl, U.out.trans (HU1.out.trans HU9.out)⟩
      | true =>
        have HE := Lib.hid (show ((OA.drop (i + 1)).all fun e => FF (A.labs.getD e.lb.toNat []) e.to) = Z by rw [← HS.out]; rfl)
        clear HS
        go_wp2_with fail
        go_roundw
        case rel => exact ⟨i + 1, by omega, by go_num, HE, HU9⟩
        case measure => simp [intOf]; omega
    · obtain rfl : i = OA.length := by omega
      have HE := Lib.hid (show Z = true by rw [← HA.out, List.drop_length]; rfl)
      clear HA
      go_wp2_with fail
      go_ret
      exact ⟨by rw [HE.out]; rfl, U.out.trans (HU1.out.trans HU.out)⟩

end Go.Proofs.YtcnaapiljmgfoaaGreatDoor

/-
  Relations between systems, the program's holds: all pairs of a set are gone through, in whatever order. (The drawn region's ways are printed by tools/genbise.py.)
-/
namespace Go.Proofs.YtcnaapiljmgfoaaGreatDoor
open Go.RowKit Go.Maps

/-- all edges of a pair are answered, in both directions. -/
def relF (F : Sys → Sys → (Int → Int → Bool) → Int → Int → List UInt8 → Int → Bool) (A B : Sys) (H : Int → Int → Bool) (p : Int × Int) : Bool := ansF A p.1 (F A B H p.1 p.2) && ansF B p.2 (F B A (fun u v => H v u) p.2 p.1)

theorem ranges_upd {w w' : World} {f : List Nat} {b r n cnt : Nat} {D : DataW Unit} {left : Lit → Bool} (h : w.ranges Tryz.prog 108 ElB b r n D left cnt) (hu : Upd f w w') (hb : b ∉ f) (hr : r ∉ f) : w'.ranges Tryz.prog 108 ElB b r n D left cnt := by
  have h1 := h.owns.lt
  have h2 := h.lt
  obtain ⟨es, clock, since, seen, c0, e1, F, e2, e3, e4, e5⟩ := h
  exact ⟨es, clock, since, seen, c0, (hu.block b h1 hb).trans e1, F, e2, e3, (hu.block r h2 hr).trans e4, e5⟩

set_option maxRecDepth 20000 in
set_option maxHeartbeats 16000000 in
theorem holdsI (fn : FuncId) (F : Sys → Sys → (Int → Int → Bool) → Int → Int → List UInt8 → Int → Bool) (hway : WayC fn F) (A B : Sys) (a1 a2 b1 b2 hv : Value) (H : Int → Int → Bool) (b n : Nat) (S : List (Int × Int)) (D : DataW Unit) (w : World) (f1 f2 f3 f4 : List Nat)
    (h : Two w A B a1 a2 b1 b2 f1 f2 f3 f4) (hh : HasC hv A.st B.st H w) (hm : w.ownsMap Tryz.prog 108 ElB b n D) (hp : PMap S D) (hS : ∀ p ∈ S, (0 ≤ p.1 ∧ p.1 < A.st) ∧ 0 ≤ p.2 ∧ p.2 < B.st) :
    Calls Tryz.prog 92 #[relV A B a1 a2 b1 b2 hv, .map (some b), .func (.func fn) #[] #[]] w fun e w' => e = .returned (.bool (S.all (relF F A B H))) ∧ Upd [] w w' := by
  have hent := hway.1
  have HAS := Lib.hid (And.intro (sys_parts h.oka).1 (sys_parts h.okb).1)
  obtain ⟨wA, hwA⟩ : ∃ wA, wA = w.alloc (.cells #[ei A.st, ei A.ini, a1, a2, ei B.st, ei B.ini, b1, b2, hv] 86) := ⟨_, rfl⟩
  have U := Lib.hid (show Upd [] w wA by rw [hwA]; exact (Upd.refl _ _).alloc _)
  have hR : RelAt w.heap.size wA A B a1 a2 b1 b2 hv := by rw [hwA]; exact RelAt.new w A B a1 a2 b1 b2 hv
  have hown : wA.ownsMap Tryz.prog 108 ElB b n D := by rw [hwA]; exact hm.alloc _
  obtain ⟨BR, hBR⟩ : ∃ BR, BR = w.heap.size := ⟨_, rfl⟩
  rw [← hBR] at hR
  have HR := Lib.hid hR
  have HP := Lib.hid hp
  have HS := Lib.hid hS
  have W10 := Lib.hid (fun (x y : Int) (hx : (0 ≤ x ∧ x < A.st) ∧ 0 ≤ y ∧ y < B.st) W (hu : Upd [] wA W) => answeredI fn F hway A B a1 a2 b1 b2 hv H x y W f1 f2 f3 f4 (h.upd (U.out.trans hu)) (hh.upd (U.out.trans hu)) hx.1.1 hx.1.2 hx.2.1 hx.2.2)
  have W20 := Lib.hid (fun W (hu : Upd [] wA W) => turnedI A B a1 a2 b1 b2 hv H W f1 f2 f3 f4 (h.upd (U.out.trans hu)) (hh.upd (U.out.trans hu)))
  have W30 := Lib.hid (fun (x y : Int) (hx : (0 ≤ x ∧ x < A.st) ∧ 0 ≤ y ∧ y < B.st) W (hu : Upd [] wA W) hvt (hht : HasC hvt B.st A.st (fun u v => H v u) W) => answeredI fn F hway B A b1 b2 a1 a2 hvt (fun u v => H v u) y x W f3 f4 f1 f2 (h.upd (U.out.trans hu)).turn hht hx.2.1 hx.2.2 hx.1.1 hx.1.2)
  have HF := Lib.hid (fun x y => show relF F A B H (x, y) = (ansF A x (F A B H x y) && ansF B y (F B A (fun u v => H v u) y x)) from rfl)
  clear hR h hh hway hm hp hS
  generalize relF F A B H = RF at *
  go_enter Tryz.func92, Tryz.ntmps92
  go_upto_region 1 with (fail)
  rw [← hwA, ← hBR]
  clear hwA hBR
  go_wp2_with (first
    | (at_range; refine wpList_range_own _ rfl _ 105 rfl 108 4 keyP Tryz.underlying105 _ b n D rfl hown ?_; intro w0 hrg0 hg0 hs0)
    | fail)
  go_frame
  have HU0 := Lib.hid ((Upd.refl [] wA).grown hg0 (fun j hj => by cases hj))
  have HRG0 := Lib.hid hrg0
  clear hg0 hs0 hrg0 hown
  obtain ⟨BI, hBI⟩ : ∃ BI, BI = wA.heap.size := ⟨_, rfl⟩
  rw [← hBI] at HRG0 ⊢
  have HBI := Lib.hid hBI
  clear hBI
  go_loopw [6] (fun _ wr => ∃ (left : Lit → Bool) (cnt : Nat), Hid (wr.ranges Tryz.prog 108 ElB b BI n D left cnt) ∧ Hid (Upd [] wA wr) ∧ Hid (∀ x y : Int, (x, y) ∈ S → left (klP x y) = false → RF (x, y) = true))
    (fun _ wr => wr.rangeLeft b BI)
  case atStart => exact ⟨_, _, HRG0, HU0, Lib.hid (fun x y hxy hl => by
    have hb := HS.out _ hxy
    have hb2 := HAS.out
    have h0 : Maps.has D (klP x y) = true := by
      rw [HP.out.2.1 x y (in64_of (by omega)) (in64_of (by omega))]
      simpa using hxy
    rw [h0] at hl
    exact absurd hl (by simp))⟩
  case round =>
    clear HRG0 HU0
    obtain ⟨wo, rfl⟩ : ∃ wo : World, wo = wr := ⟨_, rfl⟩
    obtain ⟨left, cnt, HRG, HU, HI⟩ := hrel
    go_wp2_with (first
      | (at_next; refine wpList_next_pairs rfl _ rfl b BI n S D left cnt HP.out rfl HRG.out ?_ ?_)
      | fail)
    · intro hl0
      have HE := Lib.hid (show S.all RF = true by
        rw [List.all_eq_true]
        rintro ⟨x, y⟩ hxy
        exact HI.out x y hxy (hl0 _))
      clear hl0 HI
      go_wp2_with fail
      go_ret
      exact ⟨by rw [HE.out]; rfl, U.out.trans HU.out⟩
    · intro x y w1 cnt1 hin hxi hyi hrg1 hlt hg1 hs1 hen
      have hbd := HS.out _ hin
      have HU1 := Lib.hid (HU.out.fresh ((Upd.refl [BI] wo).grown hg1 (fun j hj => Or.inr (by simp at hj ⊢; exact hj.symm))) (fun j hj => Or.inl (by simp at hj; have := HBI.out; omega)))
      have HLT := Lib.hid (show cnt1 < wo.rangeLeft b BI by rw [HRG.out.left_eq]; exact hlt)
      have HRG1 := Lib.hid hrg1
      have HIN := Lib.hid (And.intro hin (And.intro hxi hyi))
      clear hin hrg1 hlt hg1 hs1 hxi hyi HRG HU
      simp only at hbd hen ⊢
      obtain ⟨wB, hwB⟩ : ∃ wB, wB = w1.alloc (.cells #[ei x, ei y] 108) := ⟨_, rfl⟩
      have UB : Upd [] w1 wB := by rw [hwB]; exact (Upd.refl _ _).alloc _
      have HUB := Lib.hid (HU1.out.trans UB)
      have HRB := Lib.hid (ranges_upd HRG1.out UB (by simp) (by simp))
      have t0 : wB.cell? ⟨w1.heap.size, 0, none⟩ = some (ei x) := by rw [hwB]; exact cell_new w1 _ _ _ rfl 0 _ rfl
      have t1 : wB.cell? ⟨w1.heap.size, 1, none⟩ = some (ei y) := by rw [hwB]; exact cell_new w1 _ _ _ rfl 1 _ rfl
      obtain ⟨⟨z0, z1, z2, z3⟩, ⟨z4, z5, z6, z7⟩, z8⟩ := (HR.out.upd HUB.out (by simp)).facts
      have W1 := Lib.hid (fun W (hu : Upd [] wB W) => W10.out x y hbd W (HUB.out.trans hu))
      have W2 := Lib.hid (fun W (hu : Upd [] wB W) => W20.out W (HUB.out.trans hu))
      have W3 := Lib.hid (fun W (hu : Upd [] wB W) hvt hht => W30.out x y hbd W (HUB.out.trans hu) hvt hht)
      have HFX := Lib.hid (HF.out x y)
      generalize ansF A x (F A B H x y) = m1 at *
      generalize ansF B y (F B A (fun u v => H v u) y x) = m2 at *
      obtain ⟨BE, hBE⟩ : ∃ BE, BE = w1.heap.size := ⟨_, rfl⟩
      rw [← hBE] at t0 t1
      go_upto_region 4 with (fail)
      rw [← hwB, ← hBE]
      clear hwB hBE UB W10 W20 W30 HF hen HRG1 HU1 hbd
      cases m1 with
      | false =>
          refine wp_region_held_drew (S := fun w' => w'.cell? ⟨BR, 0, none⟩ = some (ei A.st) ∧ w'.cell? ⟨BR, 1, none⟩ = some (ei A.ini) ∧ w'.cell? ⟨BR, 2, none⟩ = some a1 ∧ w'.cell? ⟨BR, 3, none⟩ = some a2 ∧ w'.cell? ⟨BR, 4, none⟩ = some (ei B.st) ∧ w'.cell? ⟨BR, 5, none⟩ = some (ei B.ini) ∧ w'.cell? ⟨BR, 6, none⟩ = some b1 ∧ w'.cell? ⟨BR, 7, none⟩ = some b2 ∧ w'.cell? ⟨BR, 8, none⟩ = some hv ∧ w'.cell? ⟨BE, 0, none⟩ = some (ei x) ∧ w'.cell? ⟨BE, 1, none⟩ = some (ei y)) (by kernel_rfl) ?_ (fun hHeld => ?_)
          · exact ⟨z0, z1, z2, z3, z4, z5, z6, z7, z8, t0, t1⟩
          refine wpAnyH_take (i := 0) (v := ?_) rfl (by kernel_rfl) (by kernel_rfl) (by kernel_rfl) (fun _ _ _ h => h) (Or.inl ⟨by rfl, ?_⟩) (by assumption) ?_
          rotate_left
          · (intro w hSw; (try dsimp only at hSw); go_simp)
            first | done | with_reducible rfl
          simp only [Act.put, List.getElem_toArray, List.getElem_cons_zero, List.setIfInBounds_toArray, List.set_cons_zero, List.set_cons_succ]
          refine wpAnyH_take (i := 1) (v := ?_) rfl (by kernel_rfl) (by kernel_rfl) (by kernel_rfl) (fun _ _ _ h => h) (Or.inl ⟨by rfl, ?_⟩) (by assumption) ?_
          rotate_left
          · (intro w hSw; (try dsimp only at hSw); go_simp)
            first | done | with_reducible rfl
          simp only [Act.put, List.getElem_toArray, List.getElem_cons_zero, List.getElem_cons_succ, List.setIfInBounds_toArray, List.set_cons_zero, List.set_cons_succ]
          refine wpAnyH_take (i := 2) (v := ?_) rfl (by kernel_rfl) (by kernel_rfl) (by kernel_rfl) (fun _ _ _ h => h) (Or.inl ⟨by rfl, ?_⟩) (by assumption) ?_
          rotate_left
          · (intro w hSw; (try dsimp only at hSw); go_simp)
            first | done | with_reducible rfl
          simp only [Act.put, List.getElem_toArray, List.getElem_cons_zero, List.getElem_cons_succ, List.setIfInBounds_toArray, List.set_cons_zero, List.set_cons_succ]
          refine wpAnyH_take (i := 3) (v := ?_) rfl (by kernel_rfl) (by kernel_rfl) (by kernel_rfl) (fun _ _ _ h => h) (Or.inl ⟨by rfl, ?_⟩) (by assumption) ?_
          rotate_left
          · (intro w hSw; (try dsimp only at hSw); go_simp)
            first | done | with_reducible rfl
          simp only [Act.put, List.getElem_toArray, List.getElem_cons_zero, List.getElem_cons_succ, List.setIfInBounds_toArray, List.set_cons_zero, List.set_cons_succ]
          refine wpAnyH_take (i := 4) (v := ?_) rfl (by kernel_rfl) (by kernel_rfl) (by kernel_rfl) (fun _ _ _ h => h) (Or.inl ⟨by rfl, ?_⟩) (by assumption) ?_
          rotate_left
          · (intro w hSw; (try dsimp only at hSw); go_simp)
            first | done | with_reducible rfl
          simp only [Act.put, List.getElem_toArray, List.getElem_cons_zero, List.getElem_cons_succ, List.setIfInBounds_toArray, List.set_cons_zero, List.set_cons_succ]
          refine wpAnyH_take (i := 5) (v := ?_) rfl (by kernel_rfl) (by kernel_rfl) (by kernel_rfl) (fun _ _ _ h => h) (Or.inl ⟨by rfl, ?_⟩) (by assumption) ?_
          rotate_left
          · (intro w hSw; (try dsimp only at hSw); go_simp)
            first | done | with_reducible rfl
          simp only [Act.put, List.getElem_toArray, List.getElem_cons_zero, List.getElem_cons_succ, List.setIfInBounds_toArray, List.set_cons_zero, List.set_cons_succ]
          refine wpAnyH_ready (rs := [6]) (by kernel_rfl) (by simp) ?_
          refine AllReadyH.cons rfl (fun K hK => ?_) AllReadyH.nil
          go_simp
          refine (W1.out _ ((Upd.refl [] wB).drew)).mono ?_
          rintro e w6 ⟨rfl, hu1⟩
          have hv1 : Upd [] wB w6 := (Upd.refl [] wB).drew.trans hu1
          refine hK.out _ _ ?_ (fun hHeld => ?_)
          · exact ⟨hu1.keep hHeld.1, hu1.keep hHeld.2.1, hu1.keep hHeld.2.2.1, hu1.keep hHeld.2.2.2.1, hu1.keep hHeld.2.2.2.2.1, hu1.keep hHeld.2.2.2.2.2.1, hu1.keep hHeld.2.2.2.2.2.2.1, hu1.keep hHeld.2.2.2.2.2.2.2.1, hu1.keep hHeld.2.2.2.2.2.2.2.2.1, hu1.keep hHeld.2.2.2.2.2.2.2.2.2.1, hu1.keep hHeld.2.2.2.2.2.2.2.2.2.2⟩
          clear hK K
          try simp only [Act.put, List.getElem_toArray, List.getElem_cons_zero, List.getElem_cons_succ, List.setIfInBounds_toArray, List.set_cons_zero, List.set_cons_succ]
          refine wpAnyH_take (i := 7) (v := ?_) rfl (by kernel_rfl) (by kernel_rfl) (by kernel_rfl) (fun _ _ _ h => h) (Or.inl ⟨by rfl, ?_⟩) (by assumption) ?_
          rotate_left
          · (intro w hSw; (try dsimp only at hSw); go_simp)
            first | done | with_reducible rfl
          simp only [Act.put, List.getElem_toArray, List.getElem_cons_zero, List.getElem_cons_succ, List.setIfInBounds_toArray, List.set_cons_zero, List.set_cons_succ]
          refine wpAnyH_take (i := 8) (v := ?_) rfl (by kernel_rfl) (by kernel_rfl) (by kernel_rfl) (fun _ _ _ h => h) (Or.inl ⟨by rfl, ?_⟩) (by assumption) ?_
          rotate_left
          · (intro w hSw; (try dsimp only at hSw); go_simp)
            first | done | with_reducible rfl
          simp only [Act.put, List.getElem_toArray, List.getElem_cons_zero, List.getElem_cons_succ, List.setIfInBounds_toArray, List.set_cons_zero, List.set_cons_succ]
          refine wpAnyH_take (i := 9) rfl (by kernel_rfl) (by kernel_rfl) (by kernel_rfl) (fun _ _ _ h => h) (Or.inr ⟨by rfl, rfl⟩) (by assumption) ?_
          simp only [Act.put, List.getElem_toArray, List.getElem_cons_zero, List.getElem_cons_succ, List.setIfInBounds_toArray, List.set_cons_zero, List.set_cons_succ]
          refine wpAnyH_take (i := 10) rfl (by kernel_rfl) (by kernel_rfl) (by kernel_rfl) (fun _ _ _ h => h) (Or.inr ⟨by rfl, rfl⟩) (by assumption) ?_
          simp only [Act.put, List.getElem_toArray, List.getElem_cons_zero, List.getElem_cons_succ, List.setIfInBounds_toArray, List.set_cons_zero, List.set_cons_succ]
          refine wpAnyH_take (i := 11) rfl (by kernel_rfl) (by kernel_rfl) (by kernel_rfl) (fun _ _ _ h => h) (Or.inr ⟨by rfl, rfl⟩) (by assumption) ?_
          simp only [Act.put, List.getElem_toArray, List.getElem_cons_zero, List.getElem_cons_succ, List.setIfInBounds_toArray, List.set_cons_zero, List.set_cons_succ]
          refine wpAnyH_take (i := 12) rfl (by kernel_rfl) (by kernel_rfl) (by kernel_rfl) (fun _ _ _ h => h) (Or.inr ⟨by rfl, rfl⟩) (by assumption) ?_
          simp only [Act.put, List.getElem_toArray, List.getElem_cons_zero, List.getElem_cons_succ, List.setIfInBounds_toArray, List.set_cons_zero, List.set_cons_succ]
          refine wpAnyH_take (i := 13) rfl (by kernel_rfl) (by kernel_rfl) (by kernel_rfl) (fun _ _ _ h => h) (Or.inr ⟨by rfl, rfl⟩) (by assumption) ?_
          simp only [Act.put, List.getElem_toArray, List.getElem_cons_zero, List.getElem_cons_succ, List.setIfInBounds_toArray, List.set_cons_zero, List.set_cons_succ]
          refine wpAnyH_take (i := 14) rfl (by kernel_rfl) (by kernel_rfl) (by kernel_rfl) (fun _ _ _ h => h) (Or.inr ⟨by rfl, rfl⟩) (by assumption) ?_
          simp only [Act.put, List.getElem_toArray, List.getElem_cons_zero, List.getElem_cons_succ, List.setIfInBounds_toArray, List.set_cons_zero, List.set_cons_succ]
          refine wpAnyH_take (i := 15) rfl (by kernel_rfl) (by kernel_rfl) (by kernel_rfl) (fun _ _ _ h => h) (Or.inr ⟨by rfl, rfl⟩) (by assumption) ?_
          simp only [Act.put, List.getElem_toArray, List.getElem_cons_zero, List.getElem_cons_succ, List.setIfInBounds_toArray, List.set_cons_zero, List.set_cons_succ]
          refine wpAnyH_take (i := 16) rfl (by kernel_rfl) (by kernel_rfl) (by kernel_rfl) (fun _ _ _ h => h) (Or.inr ⟨by rfl, rfl⟩) (by assumption) ?_
          simp only [Act.put, List.getElem_toArray, List.getElem_cons_zero, List.getElem_cons_succ, List.setIfInBounds_toArray, List.set_cons_zero, List.set_cons_succ]
          refine wpAnyH_take (i := 17) rfl (by kernel_rfl) (by kernel_rfl) (by kernel_rfl) (fun _ _ _ h => h) (Or.inr ⟨by rfl, rfl⟩) (by assumption) ?_
          simp only [Act.put, List.getElem_toArray, List.getElem_cons_zero, List.getElem_cons_succ, List.setIfInBounds_toArray, List.set_cons_zero, List.set_cons_succ]
          refine wpAnyH_take (i := 18) (v := ?_) rfl (by kernel_rfl) (by kernel_rfl) (by kernel_rfl) (fun _ _ _ h => h) (Or.inl ⟨by rfl, ?_⟩) (by assumption) ?_
          rotate_left
          · (intro w hSw; (try dsimp only at hSw); go_simp)
            first | done | with_reducible rfl
          simp only [Act.put, List.getElem_toArray, List.getElem_cons_zero, List.getElem_cons_succ, List.setIfInBounds_toArray, List.set_cons_zero, List.set_cons_succ]
          refine wpAnyH_done (by kernel_rfl) ?_ _
          have HE := Lib.hid (show S.all RF = false by
            rw [Bool.eq_false_iff]
            intro h9
            have h8 := List.all_eq_true.1 h9 _ HIN.out.1
            rw [HFX.out] at h8
            simp at h8)
          have HU9 := Lib.hid (HUB.out.trans hv1)
          clear hHeld z0 z1 z2 z3 z4 z5 z6 z7 z8 t0 t1 HUB W1 W2 W3 hv1 hu1
          go_wp2_with fail
          go_ret
          exact ⟨by rw [HE.out]; rfl, U.out.trans HU9.out⟩
      | true =>
          refine wp_region_held_drew (S := fun w' => w'.cell? ⟨BR, 0, none⟩ = some (ei A.st) ∧ w'.cell? ⟨BR, 1, none⟩ = some (ei A.ini) ∧ w'.cell? ⟨BR, 2, none⟩ = some a1 ∧ w'.cell? ⟨BR, 3, none⟩ = some a2 ∧ w'.cell? ⟨BR, 4, none⟩ = some (ei B.st) ∧ w'.cell? ⟨BR, 5, none⟩ = some (ei B.ini) ∧ w'.cell? ⟨BR, 6, none⟩ = some b1 ∧ w'.cell? ⟨BR, 7, none⟩ = some b2 ∧ w'.cell? ⟨BR, 8, none⟩ = some hv ∧ w'.cell? ⟨BE, 0, none⟩ = some (ei x) ∧ w'.cell? ⟨BE, 1, none⟩ = some (ei y)) (by kernel_rfl) ?_ (fun hHeld => ?_)
          · exact ⟨z0, z1, z2, z3, z4, z5, z6, z7, z8, t0, t1⟩
          refine wpAnyH_take (i := 0) (v := ?_) rfl (by kernel_rfl) (by kernel_rfl) (by kernel_rfl) (fun _ _ _ h => h) (Or.inl ⟨by rfl, ?_⟩) (by assumption) ?_
          rotate_left
          · (intro w hSw; (try dsimp only at hSw); go_simp)
            first | done | with_reducible rfl
          simp only [Act.put, List.getElem_toArray, List.getElem_cons_zero, List.setIfInBounds_toArray, List.set_cons_zero, List.set_cons_succ]
          refine wpAnyH_take (i := 1) (v := ?_) rfl (by kernel_rfl) (by kernel_rfl) (by kernel_rfl) (fun _ _ _ h => h) (Or.inl ⟨by rfl, ?_⟩) (by assumption) ?_
          rotate_left
          · (intro w hSw; (try dsimp only at hSw); go_simp)
            first | done | with_reducible rfl
          simp only [Act.put, List.getElem_toArray, List.getElem_cons_zero, List.getElem_cons_succ, List.setIfInBounds_toArray, List.set_cons_zero, List.set_cons_succ]
          refine wpAnyH_take (i := 2) (v := ?_) rfl (by kernel_rfl) (by kernel_rfl) (by kernel_rfl) (fun _ _ _ h => h) (Or.inl ⟨by rfl, ?_⟩) (by assumption) ?_
          rotate_left
          · (intro w hSw; (try dsimp only at hSw); go_simp)
            first | done | with_reducible rfl
          simp only [Act.put, List.getElem_toArray, List.getElem_cons_zero, List.getElem_cons_succ, List.setIfInBounds_toArray, List.set_cons_zero, List.set_cons_succ]
          refine wpAnyH_take (i := 3) (v := ?_) rfl (by kernel_rfl) (by kernel_rfl) (by kernel_rfl) (fun _ _ _ h => h) (Or.inl ⟨by rfl, ?_⟩) (by assumption) ?_
          rotate_left
          · (intro w hSw; (try dsimp only at hSw); go_simp)
            first | done | with_reducible rfl
          simp only [Act.put, List.getElem_toArray, List.getElem_cons_zero, List.getElem_cons_succ, List.setIfInBounds_toArray, List.set_cons_zero, List.set_cons_succ]
          refine wpAnyH_take (i := 4) (v := ?_) rfl (by kernel_rfl) (by kernel_rfl) (by kernel_rfl) (fun _ _ _ h => h) (Or.inl ⟨by rfl, ?_⟩) (by assumption) ?_
          rotate_left
          · (intro w hSw; (try dsimp only at hSw); go_simp)
            first | done | with_reducible rfl
          simp only [Act.put, List.getElem_toArray, List.getElem_cons_zero, List.getElem_cons_succ, List.setIfInBounds_toArray, List.set_cons_zero, List.set_cons_succ]
          refine wpAnyH_take (i := 5) (v := ?_) rfl (by kernel_rfl) (by kernel_rfl) (by kernel_rfl) (fun _ _ _ h => h) (Or.inl ⟨by rfl, ?_⟩) (by assumption) ?_
          rotate_left
          · (intro w hSw; (try dsimp only at hSw); go_simp)
            first | done | with_reducible rfl
          simp only [Act.put, List.getElem_toArray, List.getElem_cons_zero, List.getElem_cons_succ, List.setIfInBounds_toArray, List.set_cons_zero, List.set_cons_succ]
          refine wpAnyH_ready (rs := [6]) (by kernel_rfl) (by simp) ?_
          refine AllReadyH.cons rfl (fun K hK => ?_) AllReadyH.nil
          go_simp
          refine (W1.out _ ((Upd.refl [] wB).drew)).mono ?_
          rintro e w6 ⟨rfl, hu1⟩
          have hv1 : Upd [] wB w6 := (Upd.refl [] wB).drew.trans hu1
          refine hK.out _ _ ?_ (fun hHeld => ?_)
          · exact ⟨hu1.keep hHeld.1, hu1.keep hHeld.2.1, hu1.keep hHeld.2.2.1, hu1.keep hHeld.2.2.2.1, hu1.keep hHeld.2.2.2.2.1, hu1.keep hHeld.2.2.2.2.2.1, hu1.keep hHeld.2.2.2.2.2.2.1, hu1.keep hHeld.2.2.2.2.2.2.2.1, hu1.keep hHeld.2.2.2.2.2.2.2.2.1, hu1.keep hHeld.2.2.2.2.2.2.2.2.2.1, hu1.keep hHeld.2.2.2.2.2.2.2.2.2.2⟩
          clear hK K
          try simp only [Act.put, List.getElem_toArray, List.getElem_cons_zero, List.getElem_cons_succ, List.setIfInBounds_toArray, List.set_cons_zero, List.set_cons_succ]
          refine wpAnyH_take (i := 7) (v := ?_) rfl (by kernel_rfl) (by kernel_rfl) (by kernel_rfl) (fun _ _ _ h => h) (Or.inl ⟨by rfl, ?_⟩) (by assumption) ?_
          rotate_left
          · (intro w hSw; (try dsimp only at hSw); go_simp)
            first | done | with_reducible rfl
          simp only [Act.put, List.getElem_toArray, List.getElem_cons_zero, List.getElem_cons_succ, List.setIfInBounds_toArray, List.set_cons_zero, List.set_cons_succ]
          refine wpAnyH_take (i := 8) (v := ?_) rfl (by kernel_rfl) (by kernel_rfl) (by kernel_rfl) (fun _ _ _ h => h) (Or.inl ⟨by rfl, ?_⟩) (by assumption) ?_
          rotate_left
          · (intro w hSw; (try dsimp only at hSw); go_simp)
            first | done | with_reducible rfl
          simp only [Act.put, List.getElem_toArray, List.getElem_cons_zero, List.getElem_cons_succ, List.setIfInBounds_toArray, List.set_cons_zero, List.set_cons_succ]
          refine wpAnyH_take (i := 9) (v := ?_) rfl (by kernel_rfl) (by kernel_rfl) (by kernel_rfl) (fun _ _ _ h => h) (Or.inl ⟨by rfl, ?_⟩) (by assumption) ?_
          rotate_left
          · (intro w hSw; (try dsimp only at hSw); go_simp)
            first | done | with_reducible rfl
          simp only [Act.put, List.getElem_toArray, List.getElem_cons_zero, List.getElem_cons_succ, List.setIfInBounds_toArray, List.set_cons_zero, List.set_cons_succ]
          refine wpAnyH_take (i := 11) (v := ?_) rfl (by kernel_rfl) (by kernel_rfl) (by kernel_rfl) (fun _ _ _ h => h) (Or.inl ⟨by rfl, ?_⟩) (by assumption) ?_
          rotate_left
          · (intro w hSw; (try dsimp only at hSw); go_simp)
            first | done | with_reducible rfl
          simp only [Act.put, List.getElem_toArray, List.getElem_cons_zero, List.getElem_cons_succ, List.setIfInBounds_toArray, List.set_cons_zero, List.set_cons_succ]
          refine wpAnyH_take (i := 12) (v := ?_) rfl (by kernel_rfl) (by kernel_rfl) (by kernel_rfl) (fun _ _ _ h => h) (Or.inl ⟨by rfl, ?_⟩) (by assumption) ?_
          rotate_left
          · (intro w hSw; (try dsimp only at hSw); go_simp)
            first | done | with_reducible rfl
          simp only [Act.put, List.getElem_toArray, List.getElem_cons_zero, List.getElem_cons_succ, List.setIfInBounds_toArray, List.set_cons_zero, List.set_cons_succ]
          refine wpAnyH_take (i := 13) (v := ?_) rfl (by kernel_rfl) (by kernel_rfl) (by kernel_rfl) (fun _ _ _ h => h) (Or.inl ⟨by rfl, ?_⟩) (by assumption) ?_
          rotate_left
          · (intro w hSw; (try dsimp only at hSw); go_simp)
            first | done | with_reducible rfl
          simp only [Act.put, List.getElem_toArray, List.getElem_cons_zero, List.getElem_cons_succ, List.setIfInBounds_toArray, List.set_cons_zero, List.set_cons_succ]
          refine wpAnyH_take (i := 14) (v := ?_) rfl (by kernel_rfl) (by kernel_rfl) (by kernel_rfl) (fun _ _ _ h => h) (Or.inl ⟨by rfl, ?_⟩) (by assumption) ?_
          rotate_left
          · (intro w hSw; (try dsimp only at hSw); go_simp)
            first | done | with_reducible rfl
          simp only [Act.put, List.getElem_toArray, List.getElem_cons_zero, List.getElem_cons_succ, List.setIfInBounds_toArray, List.set_cons_zero, List.set_cons_succ]
          refine wpAnyH_take (i := 15) (v := ?_) rfl (by kernel_rfl) (by kernel_rfl) (by kernel_rfl) (fun _ _ _ h => h) (Or.inl ⟨by rfl, ?_⟩) (by assumption) ?_
          rotate_left
          · (intro w hSw; (try dsimp only at hSw); go_simp)
            first | done | with_reducible rfl
          simp only [Act.put, List.getElem_toArray, List.getElem_cons_zero, List.getElem_cons_succ, List.setIfInBounds_toArray, List.set_cons_zero, List.set_cons_succ]
          refine wpAnyH_ready (rs := [10]) (by kernel_rfl) (by simp) ?_
          refine AllReadyH.cons rfl (fun K hK => ?_) AllReadyH.nil
          go_simp
          refine (W2.out w6 hv1).mono ?_
          rintro e w10 ⟨⟨hvt, rfl, hht⟩, hu2⟩
          have hv2 : Upd [] wB w10 := hv1.trans hu2
          refine hK.out _ _ ?_ (fun hHeld => ?_)
          · exact ⟨hu2.keep hHeld.1, hu2.keep hHeld.2.1, hu2.keep hHeld.2.2.1, hu2.keep hHeld.2.2.2.1, hu2.keep hHeld.2.2.2.2.1, hu2.keep hHeld.2.2.2.2.2.1, hu2.keep hHeld.2.2.2.2.2.2.1, hu2.keep hHeld.2.2.2.2.2.2.2.1, hu2.keep hHeld.2.2.2.2.2.2.2.2.1, hu2.keep hHeld.2.2.2.2.2.2.2.2.2.1, hu2.keep hHeld.2.2.2.2.2.2.2.2.2.2⟩
          clear hK K
          try simp only [Act.put, List.getElem_toArray, List.getElem_cons_zero, List.getElem_cons_succ, List.setIfInBounds_toArray, List.set_cons_zero, List.set_cons_succ]
          refine wpAnyH_ready (rs := [16]) (by kernel_rfl) (by simp) ?_
          refine AllReadyH.cons rfl (fun K hK => ?_) AllReadyH.nil
          go_simp
          refine (W3.out w10 hv2 hvt hht).mono ?_
          rintro e w16 ⟨rfl, hu3⟩
          have hv3 : Upd [] wB w16 := hv2.trans hu3
          refine hK.out _ _ ?_ (fun hHeld => ?_)
          · exact ⟨hu3.keep hHeld.1, hu3.keep hHeld.2.1, hu3.keep hHeld.2.2.1, hu3.keep hHeld.2.2.2.1, hu3.keep hHeld.2.2.2.2.1, hu3.keep hHeld.2.2.2.2.2.1, hu3.keep hHeld.2.2.2.2.2.2.1, hu3.keep hHeld.2.2.2.2.2.2.2.1, hu3.keep hHeld.2.2.2.2.2.2.2.2.1, hu3.keep hHeld.2.2.2.2.2.2.2.2.2.1, hu3.keep hHeld.2.2.2.2.2.2.2.2.2.2⟩
          clear hK K
          try simp only [Act.put, List.getElem_toArray, List.getElem_cons_zero, List.getElem_cons_succ, List.setIfInBounds_toArray, List.set_cons_zero, List.set_cons_succ]
          refine wpAnyH_take (i := 17) (v := ?_) rfl (by kernel_rfl) (by kernel_rfl) (by kernel_rfl) (fun _ _ _ h => h) (Or.inl ⟨by rfl, ?_⟩) (by assumption) ?_
          rotate_left
          · (intro w hSw; (try dsimp only at hSw); go_simp)
            first | done | with_reducible rfl
          simp only [Act.put, List.getElem_toArray, List.getElem_cons_zero, List.getElem_cons_succ, List.setIfInBounds_toArray, List.set_cons_zero, List.set_cons_succ]
          refine wpAnyH_take (i := 18) (v := ?_) rfl (by kernel_rfl) (by kernel_rfl) (by kernel_rfl) (fun _ _ _ h => h) (Or.inl ⟨by rfl, ?_⟩) (by assumption) ?_
          rotate_left
          · (intro w hSw; (try dsimp only at hSw); go_simp)
            first | done | with_reducible rfl
          simp only [Act.put, List.getElem_toArray, List.getElem_cons_zero, List.getElem_cons_succ, List.setIfInBounds_toArray, List.set_cons_zero, List.set_cons_succ]
          refine wpAnyH_done (by kernel_rfl) ?_ _
          have HU9 := Lib.hid (HUB.out.trans hv3)
          have HR9 := Lib.hid (ranges_upd HRB.out hv3 (by simp) (by simp))
          clear hHeld z0 z1 z2 z3 z4 z5 z6 z7 z8 t0 t1 HUB W1 W2 W3 hv1 hu1 hv2 hu2 hv3 hu3 hht
          cases m2 with
          | false =>
            have HE := Lib.hid (show S.all RF = false by
              rw [Bool.eq_false_iff]
              intro h9
              have h8 := List.all_eq_true.1 h9 _ HIN.out.1
              rw [HFX.out] at h8
              simp at h8)
            go_wp2_with fail
            go_ret
            exact ⟨by rw [HE.out]; rfl, U.out.trans HU9.out⟩
          | true =>
            go_wp2_with fail
            go_roundw
            case rel =>
              exact ⟨_, cnt1, HR9, HU9, Lib.hid (fun x9 y9 hxy hl => by
                by_cases hl9 : left (klP x9 y9) = false
                · exact HI.out x9 y9 hxy hl9
                · have hl8 : left (klP x9 y9) = true := by simpa using hl9
                  have h7 : (klP x9 y9).sameKey (klP x y) = true := by rw [hl8] at hl; simpa using hl
                  have hb := HS.out _ hxy
                  have hb2 := HAS.out
                  obtain ⟨rfl, rfl⟩ := klP_inj (in64_of (by omega)) (in64_of (by omega)) HIN.out.2.1 HIN.out.2.2 (WideAt.sameKey_eq h7)
                  rw [HFX.out]; rfl)⟩
            case measure => rw [HR9.out.left_eq]; exact HLT.out

end Go.Proofs.YtcnaapiljmgfoaaGreatDoor
