/-
  Texts joined in one file: CfP, LvI1, LvI2, CfI, CfJ, LvI3, LvI4, LvI5, LvI6, LvI7, CfK, CfR, CfL, CfM, CfN, CfD, CfO.
-/
import Derived.Test.YtlondofadjcooaaGreatDoorZP1
import Derived.Test.YtlondofadjcooaaGreatDoorZP2
import Derived.Test.YtlondofadjcooaaGreatDoorZP3
import Derived.Laws.EntriesVeiled
import Derived.Test.YtlondofadjcooaaGreatDoorShelf
import Derived.Laws.CopyOwn
import Derived.Laws.StructEq
/-
  Sets of internal edges of a system that agree with all edges: what both sides compute, plainly.
-/
namespace Go.Proofs.YtlondofadjcooaaGreatDoor
open Go.RowKit

def edAt (es : List Ed) (i : Nat) : Ed := es.getD i ⟨0, 0, 0⟩
theorem edAt_get {es : List Ed} {i : Nat} (h : i < es.length) : edAt es i = es[i] := by
  unfold edAt
  rw [List.getD_eq_getElem?_getD, List.getElem?_eq_getElem h]; rfl
/-- one of the first n. -/
def anyTo (f : Nat → Bool) (n : Nat) : Bool := (List.range n).any f
theorem anyTo_iff (f : Nat → Bool) (n : Nat) : anyTo f n = true ↔ ∃ i, i < n ∧ f i = true := by
  unfold anyTo
  simp [List.any_eq_true, List.mem_range]
theorem anyTo_yes {f : Nat → Bool} {i n : Nat} (hi : i < n) (h : f i = true) : anyTo f n = true := (anyTo_iff f n).2 ⟨i, hi, h⟩
theorem anyTo_no {f : Nat → Bool} {n : Nat} (h : ∀ i, i < n → f i = false) : anyTo f n = false := by
  cases hq : anyTo f n
  · rfl
  · obtain ⟨i, hi, hf⟩ := (anyTo_iff f n).1 hq
    rw [h i hi] at hf; cases hf
/-- a list of numbers as a set of indexes. -/
def idS (set : List Int) (i : Nat) : Bool := set.contains (i : Int)
/-- one of a set of indexes. -/
theorem anyTo_set {set : List Int} {n : Nat} (hb : ∀ k ∈ set, 0 ≤ k ∧ k < n) (p : Nat → Bool) : (set.any fun k => p k.toNat) = anyTo (fun i => idS set i && p i) n := by
  rw [Bool.eq_iff_iff, anyTo_iff, List.any_eq_true]
  constructor
  · rintro ⟨k, hk, hp⟩
    have h := hb k hk
    refine ⟨k.toNat, by omega, ?_⟩
    rw [Bool.and_eq_true]
    refine ⟨?_, hp⟩
    unfold idS
    rw [List.contains_iff_mem]
    rwa [Int.toNat_of_nonneg h.1]
  · rintro ⟨i, _, hp⟩
    rw [Bool.and_eq_true] at hp
    exact ⟨(i : Int), by simpa [idS] using hp.1, by simpa using hp.2⟩

def joinP (es : List Ed) (S : Nat → Bool) (a b : Int) (i : Nat) : Bool := S i && ((edAt es i).fr == a && (edAt es i).to == b)
/-- a state is another one, or an edge of the set leads from it to the other. -/
def joinF (es : List Ed) (S : Nat → Bool) (a b : Int) : Bool := a == b || anyTo (joinP es S a b) es.length
def agrP (es : List Ed) (S : Nat → Bool) (e f i : Nat) : Bool := (edAt es i).fr == (edAt es e).to && (edAt es i).lb == (edAt es f).lb && (S i || !S f) && joinF es S (edAt es f).to (edAt es i).to
/-- an edge of the set agrees with another edge. -/
def agrF (es : List Ed) (S : Nat → Bool) (e f : Nat) : Bool := ((edAt es f).lb == 0 && joinF es S (edAt es f).to (edAt es e).to) || anyTo (agrP es S e f) es.length
def badP (es : List Ed) (S : Nat → Bool) (e f : Nat) : Bool := (edAt es f).fr == (edAt es e).fr && !agrF es S e f
/-- an edge of the set does not agree with some edge. -/
def badF (es : List Ed) (S : Nat → Bool) (e : Nat) : Bool := anyTo (badP es S e) es.length
/-- all edges of the set agree with all edges. -/
def confF (es : List Ed) (S : Nat → Bool) : Bool := !anyTo (fun e => S e && badF es S e) es.length

def risP (set : List Int) (n : Nat) (k : Nat) : Bool := inB (set.getD k 0) 0 (n - 1) && (decide (k = 0) || decide (set.getD (k - 1) 0 < set.getD k 0))
/-- a list of rising indexes. -/
def risF (set : List Int) (n : Nat) : Bool := allF (risP set n) 0 set.length
theorem allF_mk2 {P : Nat → Bool} : ∀ {m k : Nat}, (∀ i, k ≤ i → i < k + m → P i = true) → allF P k m = true
  | 0, _, _ => rfl
  | m + 1, k, h => by
    have h1 := h k (Nat.le_refl _) (by omega)
    have h2 := allF_mk2 (m := m) (k := k + 1) (fun i hi hl => h i (by omega) (by omega))
    show (P k && allF P (k + 1) m) = true
    rw [h1, h2]; rfl
theorem risP_at (set : List Int) (n k : Nat) (h : k < set.length) : risP set n k = (inB set[k] 0 (n - 1) && (decide (k = 0) || decide (set.getD (k - 1) 0 < set[k]))) := by
  unfold risP
  rw [List.getD_eq_getElem?_getD (i := k), List.getElem?_eq_getElem h]; rfl
theorem risF_bd {set : List Int} {n : Nat} (h : risF set n = true) : ∀ k ∈ set, 0 ≤ k ∧ k < n := by
  intro k hk
  obtain ⟨i, hi, rfl⟩ := List.getElem_of_mem hk
  have := allF_get h i (by omega) (by omega)
  rw [risP_at _ _ _ hi, Bool.and_eq_true] at this
  have := inB_true this.1
  omega
theorem risF_pair {set : List Int} {n : Nat} (h : risF set n = true) : set.Pairwise (· < ·) := by
  have hlt : ∀ d i (h1 : i + d + 1 < set.length), set[i] < set[i + d + 1] := by
    intro d
    induction d with
    | zero =>
      intro i h1
      have := allF_get h (i + 1) (by omega) (by omega)
      rw [risP_at _ _ _ (by omega)] at this
      simp only [Bool.and_eq_true] at this
      have h3 := this.2
      rw [decide_eq_false (show ¬ i + 1 = 0 by omega)] at h3
      simp only [Bool.false_or, Nat.add_sub_cancel, decide_eq_true_eq] at h3
      rw [List.getD_eq_getElem?_getD, List.getElem?_eq_getElem (by omega)] at h3
      exact h3
    | succ d ih =>
      intro i h1
      have g1 := ih i (by omega)
      have := allF_get h (i + (d + 1) + 1) (by omega) (by omega)
      rw [risP_at _ _ _ (by omega)] at this
      simp only [Bool.and_eq_true] at this
      have h3 := this.2
      rw [decide_eq_false (show ¬ i + (d + 1) + 1 = 0 by omega)] at h3
      simp only [Bool.false_or, Nat.add_sub_cancel, decide_eq_true_eq] at h3
      rw [List.getD_eq_getElem?_getD, List.getElem?_eq_getElem (by omega)] at h3
      exact Int.lt_trans g1 h3
  rw [List.pairwise_iff_getElem]
  intro i j hi hj hij
  have := hlt (j - i - 1) i (by omega)
  simp only [show i + (j - i - 1) + 1 = j by omega] at this
  exact this
/-- a list is a set of internal edges. -/
def setOkF (es : List Ed) (set : List Int) : Bool := risF set es.length && !set.any fun k => !((edAt es k.toNat).lb == 0)
/-- the error for a system and a confluent set. -/
def cfCode (T : Sys) (set : List Int) : Int := if sysOk T = true then (if setOkF T.eds set = true then (if confF T.eds (idS set) = true then 0 else 6) else 2) else 1

/-- the edges of a set. -/
def ownE (es : List Ed) (set : List Int) : List Ed := set.map fun k => edAt es k.toNat
def ownSy (T : Sys) (set : List Int) : Sys := ⟨T.st, T.ini, T.labs, ownE T.eds set⟩
theorem ownE_mem {es : List Ed} {set : List Int} (hb : ∀ k ∈ set, 0 ≤ k ∧ k < es.length) (e : Ed) : e ∈ ownE es set ↔ ∃ i, i < es.length ∧ idS set i = true ∧ edAt es i = e := by
  unfold ownE
  rw [List.mem_map]
  constructor
  · rintro ⟨k, hk, rfl⟩
    have h := hb k hk
    refine ⟨k.toNat, by omega, ?_, rfl⟩
    unfold idS
    rw [List.contains_iff_mem]
    rwa [Int.toNat_of_nonneg h.1]
  · rintro ⟨i, _, hs, rfl⟩
    exact ⟨(i : Int), by simpa [idS] using hs, by simp⟩
theorem own_lb {es : List Ed} {set : List Int} (h : setOkF es set = true) : ∀ e ∈ ownE es set, e.lb = 0 := by
  intro e he
  unfold ownE at he
  obtain ⟨k, hk, rfl⟩ := List.mem_map.1 he
  unfold setOkF at h
  rw [Bool.and_eq_true, Bool.not_eq_true', List.any_eq_false] at h
  have := h.2 k hk
  simpa using this
/-- the system with the edges of a set is valid. -/
theorem ownSy_ok {T : Sys} (hT : sysOk T = true) {set : List Int} (hs : setOkF T.eds set = true) : sysOk (ownSy T set) = true := by
  have hris : risF set T.eds.length = true := by unfold setOkF at hs; rw [Bool.and_eq_true] at hs; exact hs.1
  have hb := risF_bd hris
  have hp := risF_pair hris
  have hpe := eds_pair hT
  have hlen : set.length ≤ 300 := by
    have h1 : set.length ≤ T.eds.length := by
      refine nodup_le T.eds.length set ?_ (fun k hk => hb k hk)
      exact hp.imp (fun h => by omega)
    have := (sys_parts hT).2.2.2.1
    omega
  have hp2 : (ownE T.eds set).Pairwise (fun a b => edLt a b = true) := by
    unfold ownE
    rw [List.pairwise_map]
    refine List.Pairwise.imp_of_mem ?_ hp
    intro a b ha hb' hab
    have h1 := hb a ha
    have h2 := hb b hb'
    rw [edAt_get (show a.toNat < T.eds.length by omega), edAt_get (show b.toNat < T.eds.length by omega)]
    exact (List.pairwise_iff_getElem.1 hpe) _ _ _ _ (by omega)
  unfold sysOk at hT ⊢
  simp only [Bool.and_eq_true] at hT ⊢
  obtain ⟨⟨⟨⟨h1, h2⟩, h3⟩, h4⟩, h5⟩ := hT
  refine ⟨⟨⟨⟨h1, h2⟩, h3⟩, ?_⟩, ?_⟩
  · unfold ownSy ownE; simpa using hlen
  · refine allF_mk2 fun i _ hi => ?_
    have hi : i < (ownE T.eds set).length := by unfold ownSy at hi; simpa using hi
    rw [edP_at _ _ (show i < (ownSy T set).eds.length from hi)]
    have hm : (ownE T.eds set)[i] ∈ ownE T.eds set := List.getElem_mem hi
    obtain ⟨j, hj, -, hje⟩ := (ownE_mem hb _).1 hm
    have h6 := allF_get h5 j (by omega) (by omega)
    rw [edP_at _ _ hj] at h6
    rw [edAt_get hj] at hje
    simp only [Bool.and_eq_true] at h6 ⊢
    rw [show (ownSy T set).eds[i] = T.eds[j] from hje.symm]
    refine ⟨h6.1, ?_⟩
    by_cases hz : i = 0
    · simp [hz]
    · rw [Bool.or_eq_true]
      right
      have := (List.pairwise_iff_getElem.1 hp2) (i - 1) i (by omega) hi (by omega)
      rw [List.getD_eq_getElem?_getD, List.getElem?_eq_getElem (show i - 1 < (ownSy T set).eds.length by show i - 1 < (ownE T.eds set).length; omega)]
      rw [hje]
      exact this

/-- from a state an infinite path of internal edges begins. -/
def DivT (B : Sys) (k : Int) : Prop := ∃ X : Int → Prop, X k ∧ ∀ j, X j → (0 ≤ j ∧ j < B.st) ∧ ∃ l, TauS B j l ∧ X l
theorem DivT.next {B : Sys} {k : Int} (h : DivT B k) : ∃ l, TauS B k l ∧ DivT B l := by
  obtain ⟨X, hk, hX⟩ := h
  obtain ⟨-, l, hl, hxl⟩ := hX k hk
  exact ⟨l, hl, X, hxl, hX⟩
theorem ReachT.trans {B : Sys} {a b c : Int} (h1 : ReachT B a b) (h2 : ReachT B b c) : ReachT B a c := by
  induction h2 with
  | refl => exact h1
  | step _ h3 ih => exact ih.step h3
theorem ReachT.head {B : Sys} {a c : Int} (h : ReachT B a c) : a = c ∨ ∃ b, TauS B a b ∧ ReachT B b c := by
  induction h with
  | refl => exact Or.inl rfl
  | step h1 h2 ih =>
    rename_i j l
    rcases ih with rfl | ⟨b, hb, hr⟩
    · exact Or.inr ⟨l, h2, ReachT.refl _⟩
    · exact Or.inr ⟨b, hb, hr.step h2⟩
/-- some infinite path exactly if some edge lies on a cycle. -/
theorem div_cycle {B : Sys} (hB : sysOk B = true) : (∃ k, DivT B k) ↔ ∃ k l, TauS B k l ∧ ReachT B l k := by
  constructor
  · rintro ⟨k0, X, hk0, hX⟩
    have hnx : ∀ j : {j // X j}, ∃ l : {l // X l}, TauS B j.1 l.1 := fun j => by
      obtain ⟨-, l, hl, hxl⟩ := hX j.1 j.2
      exact ⟨⟨l, hxl⟩, hl⟩
    let nx : {j // X j} → {j // X j} := fun j => Classical.choose (hnx j)
    have hnx2 : ∀ j, TauS B j.1 (nx j).1 := fun j => Classical.choose_spec (hnx j)
    let s : Nat → {j // X j} := fun i => Nat.rec ⟨k0, hk0⟩ (fun _ j => nx j) i
    have hs : ∀ i, TauS B (s i).1 (s (i + 1)).1 := fun i => hnx2 (s i)
    have hreach : ∀ d i, ReachT B (s i).1 (s (i + d)).1 := by
      intro d
      induction d with
      | zero => intro i; exact ReachT.refl _
      | succ d ih => intro i; exact (ih i).step (hs (i + d))
    obtain ⟨hst, -⟩ := sys_parts hB
    obtain ⟨n, hn⟩ : ∃ n : Nat, B.st = n := ⟨B.st.toNat, by omega⟩
    have hdup : ¬ ((List.range (n + 1)).map fun i => (s i).1).Nodup := by
      intro hnd
      have := nodup_le n _ hnd (fun k hk => by
        obtain ⟨i, _, rfl⟩ := List.mem_map.1 hk
        have := (hX _ (s i).2).1
        omega)
      simp at this
      omega
    have : ∃ i j, i < j ∧ (s i).1 = (s j).1 := by
      rcases Classical.em (∃ i j, i < j ∧ (s i).1 = (s j).1) with h | h
      · exact h
      · exfalso
        apply hdup
        unfold List.Nodup
        rw [List.pairwise_map]
        refine (List.pairwise_lt_range (n := n + 1)).imp ?_
        intro a b hab he
        exact h ⟨a, b, hab, he⟩
    obtain ⟨i, j, hij, he⟩ := this
    refine ⟨(s i).1, (s (i + 1)).1, hs i, ?_⟩
    have := hreach (j - i - 1) (i + 1)
    rw [show i + 1 + (j - i - 1) = j by omega, ← he] at this
    exact this
  · rintro ⟨k, l, hkl, hlk⟩
    refine ⟨k, fun x => (0 ≤ x ∧ x < B.st) ∧ ReachT B l x ∧ ReachT B x k, ⟨?_, hlk, ReachT.refl _⟩, ?_⟩
    · have := folF_bd2 hB _ hkl
      exact hlk.bd hB this
    · rintro j ⟨hb, h1, h2⟩
      refine ⟨hb, ?_⟩
      rcases h2.head with rfl | ⟨b, hb2, hr⟩
      · exact ⟨l, hkl, folF_bd2 hB _ hkl, ReachT.refl _, hlk⟩
      · exact ⟨b, hb2, folF_bd2 hB _ hb2, h1.step hb2, hr⟩
/-- the edges of a set form a cycle. -/
def CycS (T : Sys) (set : List Int) : Prop := ∃ k, DivT (ownSy T set) k
theorem cyc_edges {T : Sys} (hT : sysOk T = true) {set : List Int} (hs : setOkF T.eds set = true) :
    CycS T set ↔ ∃ i, i < T.eds.length ∧ idS set i = true ∧ ReachT (ownSy T set) (edAt T.eds i).to (edAt T.eds i).fr := by
  have hok := ownSy_ok hT hs
  have hris : risF set T.eds.length = true := by unfold setOkF at hs; rw [Bool.and_eq_true] at hs; exact hs.1
  have hb := risF_bd hris
  unfold CycS
  rw [div_cycle hok]
  constructor
  · rintro ⟨k, l, hkl, hr⟩
    obtain ⟨e, he, rfl, rfl, -⟩ := (tauS_iff hok _ _).1 hkl
    obtain ⟨i, hi, hsi, rfl⟩ := (ownE_mem hb _).1 he
    exact ⟨i, hi, hsi, hr⟩
  · rintro ⟨i, hi, hsi, hr⟩
    refine ⟨_, _, (tauS_iff hok _ _).2 ⟨edAt T.eds i, (ownE_mem hb _).2 ⟨i, hi, hsi, rfl⟩, rfl, rfl, own_lb hs _ ((ownE_mem hb _).2 ⟨i, hi, hsi, rfl⟩)⟩, hr⟩

/-- an edge of the set from the same state as another edge. -/
def sameP (es : List Ed) (S : Nat → Bool) (i k : Nat) : Bool := S k && (edAt es k).fr == (edAt es i).fr
def keepF (es : List Ed) (S : Nat → Bool) (i : Nat) : Bool := !anyTo (sameP es S i) es.length || (S i && !anyTo (sameP es S i) i)
def prioTo (es : List Ed) (S : Nat → Bool) (k : Nat) : List Ed := ((List.range k).filter (keepF es S)).map (edAt es)
/-- the least index from k on, of m, or -1. -/
def lstF (p : Nat → Bool) : Nat → Nat → Int
  | _, 0 => -1
  | k, m + 1 => if p k then k else lstF p (k + 1) m
theorem lstF_spec (p : Nat → Bool) : ∀ m k, (lstF p k m = -1 ∧ ∀ i, k ≤ i → i < k + m → p i = false) ∨ ∃ i : Nat, lstF p k m = i ∧ k ≤ i ∧ i < k + m ∧ p i = true ∧ ∀ j, k ≤ j → j < i → p j = false
  | 0, k => Or.inl ⟨rfl, fun i h1 h2 => by omega⟩
  | m + 1, k => by
    unfold lstF
    cases hp : p k with
    | true => exact Or.inr ⟨k, by simp, Nat.le_refl _, by omega, hp, fun j h1 h2 => by omega⟩
    | false =>
      rw [if_neg (by simp)]
      rcases lstF_spec p m (k + 1) with ⟨h1, h2⟩ | ⟨i, h1, h2, h3, h4, h5⟩
      · refine Or.inl ⟨h1, fun i hi1 hi2 => ?_⟩
        by_cases e : i = k
        · rw [e]; exact hp
        · exact h2 i (by omega) (by omega)
      · refine Or.inr ⟨i, h1, by omega, by omega, h4, fun j hj1 hj2 => ?_⟩
        by_cases e : j = k
        · rw [e]; exact hp
        · exact h5 j (by omega) hj2
/-- the reference keeps what the plain law keeps. -/
theorem keep_lst (es : List Ed) (S : Nat → Bool) (i : Nat) (hi : i < es.length) : (decide (lstF (sameP es S i) 0 es.length < 0) || (lstF (sameP es S i) 0 es.length == (i : Int))) = keepF es S i := by
  unfold keepF
  rcases lstF_spec (sameP es S i) es.length 0 with ⟨h1, h2⟩ | ⟨k, h1, -, h3, h4, h5⟩
  · rw [h1, anyTo_no (fun j hj => h2 j (by omega) (by omega))]
    simp
  · rw [h1, anyTo_yes (show k < es.length by omega) h4]
    rw [decide_eq_false (show ¬ ((k : Int) < 0) by omega)]
    simp only [Bool.not_true, Bool.false_or]
    rw [Bool.eq_iff_iff]
    simp only [beq_iff_eq, Bool.and_eq_true, Bool.not_eq_true']
    constructor
    · intro he
      have he : k = i := by omega
      subst he
      refine ⟨?_, anyTo_no (fun j hj => h5 j (by omega) hj)⟩
      unfold sameP at h4
      rw [Bool.and_eq_true] at h4
      exact h4.1
    · rintro ⟨hS, hn⟩
      have hpi : sameP es S i i = true := by unfold sameP; rw [hS]; simp
      rcases Nat.lt_trichotomy k i with h | h | h
      · rw [anyTo_yes h h4] at hn; cases hn
      · rw [h]
      · rw [h5 i (by omega) h] at hpi; cases hpi
/-- the program keeps what the plain law keeps: no edge of the set from its state, or it is the first. -/
theorem keep_head {es : List Ed} (hp : es.Pairwise (fun a b => edLt a b = true)) {set : List Int} (hr : risF set es.length = true) (i : Nat) (hi : i < es.length) :
    (match outF (ownE es set) (edAt es i).fr with | [] => true | e :: _ => decide (edAt es i = e)) = keepF es (idS set) i := by
  have hb := risF_bd hr
  have hlt := risF_pair hr
  have hinj : ∀ a b, a < es.length → b < es.length → edAt es a = edAt es b → a = b := by
    intro a b ha hb' he
    rw [edAt_get ha, edAt_get hb'] at he
    have hirr : ∀ x : Ed, edLt x x = false := fun x => by
      cases hx : edLt x x
      · rfl
      · rw [edLt_iff] at hx; omega
    rcases Nat.lt_trichotomy a b with h | h | h
    · have := (List.pairwise_iff_getElem.1 hp) a b ha hb' h
      rw [he, hirr] at this; cases this
    · exact h
    · have := (List.pairwise_iff_getElem.1 hp) b a hb' ha h
      rw [he, hirr] at this; cases this
  have hout : outF (ownE es set) (edAt es i).fr = (set.filter fun k => (edAt es k.toNat).fr == (edAt es i).fr).map fun k => edAt es k.toNat := by
    unfold outF ownE
    rw [List.filter_map]; rfl
  rw [hout]
  have hf := (hlt.filter fun k => (edAt es k.toNat).fr == (edAt es i).fr)
  unfold keepF
  cases hq : set.filter fun k => (edAt es k.toNat).fr == (edAt es i).fr with
  | nil =>
    rw [List.filter_eq_nil_iff] at hq
    rw [anyTo_no (fun j hj => ?_)]
    · simp
    · unfold sameP
      cases hs : idS set j with
      | false => rfl
      | true =>
        have hm : (j : Int) ∈ set := by simpa [idS] using hs
        have := hq _ hm
        simp only [Int.toNat_natCast, Bool.not_eq_true] at this
        rw [this]; rfl
  | cons a r =>
    have ha : a ∈ set.filter fun k => (edAt es k.toNat).fr == (edAt es i).fr := by rw [hq]; exact List.mem_cons_self
    rw [List.mem_filter] at ha
    have hba := hb a ha.1
    have hS : idS set a.toNat = true := by unfold idS; rw [List.contains_iff_mem, Int.toNat_of_nonneg hba.1]; exact ha.1
    rw [anyTo_yes (show a.toNat < es.length by omega) (show sameP es (idS set) i a.toNat = true by unfold sameP; rw [hS, ha.2]; rfl)]
    simp only [Bool.not_true, Bool.false_or, List.map_cons]
    rw [Bool.eq_iff_iff]
    simp only [decide_eq_true_eq, Bool.and_eq_true, Bool.not_eq_true']
    rw [hq] at hf
    have hfirst : ∀ k ∈ r, a < k := (List.pairwise_cons.1 hf).1
    have hmem : ∀ j : Nat, sameP es (idS set) i j = true → (j : Int) = a ∨ a < j := by
      intro j hj
      unfold sameP at hj
      rw [Bool.and_eq_true] at hj
      have hm : (j : Int) ∈ set.filter fun k => (edAt es k.toNat).fr == (edAt es i).fr := by
        rw [List.mem_filter]
        exact ⟨by simpa [idS] using hj.1, by simpa using hj.2⟩
      rw [hq] at hm
      rcases List.mem_cons.1 hm with h | h
      · exact Or.inl h
      · exact Or.inr (hfirst _ h)
    constructor
    · intro he
      have := hinj i a.toNat hi (by omega) he
      rw [this]
      refine ⟨hS, anyTo_no (fun j hj => ?_)⟩
      cases hjj : sameP es (idS set) a.toNat j
      · rfl
      · rw [← this] at hjj
        rcases hmem j hjj with h | h <;> omega
    · rintro ⟨hSi, hn⟩
      have hpi : sameP es (idS set) i i = true := by unfold sameP; rw [hSi]; simp
      rcases hmem i hpi with h | h
      · rw [show a.toNat = i by omega]
      · have : anyTo (sameP es (idS set) i) i = true := anyTo_yes (show a.toNat < i by omega) (show sameP es (idS set) i a.toNat = true by unfold sameP; rw [hS, ha.2]; rfl)
        rw [this] at hn; cases hn

/-- the system in which the first edge of the set goes first. -/
noncomputable def prioF (T : Sys) (set : List Int) : Sys × Int :=
  open Classical in if cfCode T set = 0 then (if CycS T set then (⟨0, 0, [], []⟩, 6) else (⟨T.st, T.ini, T.labs, prioTo T.eds (idS set) T.eds.length⟩, 0)) else (⟨0, 0, [], []⟩, cfCode T set)

end Go.Proofs.YtlondofadjcooaaGreatDoor

/-
  From which pairs of states a property can be left: the program's marks and the closures that read them.
-/
namespace Go.Proofs.YtlondofadjcooaaGreatDoor
open Go.RowKit

/-- a matrix of truths behind a variable: a row of rows. -/
structure MatW (M B : Nat) (ρ : Nat → Nat) (n m K : Nat) (f : Nat → Nat → Bool) (w : World) : Prop where
  c : w.cell? ⟨M, 0, none⟩ = some (.slice (some ⟨B, 0, none⟩) n n)
  r : ∀ i, i < n → w.cell? ⟨B, i, none⟩ = some (.slice (some ⟨ρ i, 0, none⟩) m m)
  b : ∀ i, i < n → BlkB (ρ i) w (rowL m f i)
  k : M < K ∧ B < K ∧ ∀ i, i < n → ρ i < K
theorem MatW.upd {M B : Nat} {ρ : Nat → Nat} {n m K : Nat} {f : Nat → Nat → Bool} {w w' : World} (h : MatW M B ρ n m K f w) {F : List Nat} (hu : Upd F w w') (hF : ∀ b ∈ F, K ≤ b) : MatW M B ρ n m K f w' := by
  refine ⟨hu.keepF (fun hm => by have := hF _ hm; have := h.k.1; omega) h.c, fun i hi => hu.keepF (fun hm => by have := hF _ hm; have := h.k.2.1; omega) (h.r i hi), fun i hi => (h.b i hi).upd hu (fun hm => by have := hF _ hm; have := h.k.2.2 i hi; omega), h.k⟩

end Go.Proofs.YtlondofadjcooaaGreatDoor

/-
  From which pairs of states a property can be left: the program's step and moves.
-/
namespace Go.Proofs.YtlondofadjcooaaGreatDoor
open Go.RowKit

/-- the memory of a model and a property. -/
structure Obs (T P : Sys) (v1 v2 u1 u2 : Value) (f1 f2 f3 f4 : List Nat) (N : Nat) (w : World) : Prop where
  a : RS f1 w [v1] T.labs
  b : R_E1 f2 w [v2] T.eds
  c : RS f3 w [u1] P.labs
  d : R_E1 f4 w [u2] P.eds
  lt : (∀ b ∈ f1, b < N) ∧ (∀ b ∈ f2, b < N) ∧ (∀ b ∈ f3, b < N) ∧ ∀ b ∈ f4, b < N
theorem Obs.upd {T P : Sys} {v1 v2 u1 u2 : Value} {f1 f2 f3 f4 : List Nat} {N : Nat} {w w' : World} (h : Obs T P v1 v2 u1 u2 f1 f2 f3 f4 N w) {F : List Nat} (hu : Upd F w w') (hF : ∀ b ∈ F, N ≤ b) : Obs T P v1 v2 u1 u2 f1 f2 f3 f4 N w' :=
  ⟨RSk.upd h.a hu (fun b hb hm => by have := hF b hm; have := h.lt.1 b hb; omega), R_E1k.upd h.b hu (fun b hb hm => by have := hF b hm; have := h.lt.2.1 b hb; omega),
   RSk.upd h.c hu (fun b hb hm => by have := hF b hm; have := h.lt.2.2.1 b hb; omega), R_E1k.upd h.d hu (fun b hb hm => by have := hF b hm; have := h.lt.2.2.2 b hb; omega), h.lt⟩
theorem Obs.mono {T P : Sys} {v1 v2 u1 u2 : Value} {f1 f2 f3 f4 : List Nat} {N N' : Nat} {w : World} (h : Obs T P v1 v2 u1 u2 f1 f2 f3 f4 N w) (hN : N ≤ N') : Obs T P v1 v2 u1 u2 f1 f2 f3 f4 N' w :=
  ⟨h.a, h.b, h.c, h.d, fun b hb => by have := h.lt.1 b hb; omega, fun b hb => by have := h.lt.2.1 b hb; omega, fun b hb => by have := h.lt.2.2.1 b hb; omega, fun b hb => by have := h.lt.2.2.2 b hb; omega⟩
end Go.Proofs.YtlondofadjcooaaGreatDoor

/-
  Sets of internal edges of a system that agree with all edges: the program's checks of an edge.
-/
namespace Go.Proofs.YtlondofadjcooaaGreatDoor
open Go.RowKit

theorem enter_cfset (args : Array Value) (w : World) : Sem.run Tryz.prog (callFunc 92 args) w = .ok (.enter 92 args) w := by go_simp
theorem enter_cfjoin (args : Array Value) (w : World) : Sem.run Tryz.prog (callFunc 132 args) w = .ok (.enter 132 args) w := by go_simp

set_option maxRecDepth 20000 in
set_option maxHeartbeats 1000000 in
theorem setOk1I (TB : Nat) (es : List Ed) (v2 : Value) (i : Nat) (w : World) (f2 : List Nat) (h2 : R_E1 f2 w [v2] es) (z3 : w.cell? ⟨TB, 3, none⟩ = some v2) (hi : i < es.length) :
    Calls Tryz.prog 92 #[.int .i64 i, .pointer (some ⟨TB, 0, none⟩)] w fun e w' => e = .returned (.bool (!((edAt es i).lb == 0))) ∧ Upd [] w w' := by
  obtain ⟨a, cap, rfl, -, l2, hc⟩ := slF3_open h2
  unfold maxLen at l2
  obtain ⟨b, o, rfl, -, -, p1, p2, p3⟩ := hc i hi
  have hil : (i : Int) < (es.length : Int) := by omega
  rw [edAt_get hi]
  generalize es[i] = x at *
  obtain ⟨x1, x2, x3⟩ := x
  simp only at p1 p2 p3 ⊢
  clear hc h2
  go_enter Tryz.func92, Tryz.ntmps92
  go_wp2_with fail
  go_ret
  exact ⟨by rfl, Upd.refl _ _⟩

set_option maxRecDepth 20000 in
set_option maxHeartbeats 1000000 in
theorem joins1I (TB AB BB : Nat) (es : List Ed) (v2 : Value) (x y : Int) (i : Nat) (w : World) (f2 : List Nat) (h2 : R_E1 f2 w [v2] es) (z3 : w.cell? ⟨TB, 3, none⟩ = some v2) (za : w.cell? ⟨AB, 0, none⟩ = some (ei x)) (zb : w.cell? ⟨BB, 0, none⟩ = some (ei y)) (hi : i < es.length) :
    Calls Tryz.prog 132 #[.int .i64 i, .pointer (some ⟨TB, 0, none⟩), .pointer (some ⟨AB, 0, none⟩), .pointer (some ⟨BB, 0, none⟩)] w fun e w' => e = .returned (.bool ((edAt es i).fr == x && (edAt es i).to == y)) ∧ Upd [] w w' := by
  obtain ⟨a, cap, rfl, -, l2, hc⟩ := slF3_open h2
  unfold maxLen at l2
  obtain ⟨b, o, rfl, -, -, p1, p2, p3⟩ := hc i hi
  have hil : (i : Int) < (es.length : Int) := by omega
  rw [edAt_get hi]
  generalize es[i] = e at *
  obtain ⟨x1, x2, x3⟩ := e
  simp only at p1 p2 p3 ⊢
  clear hc h2
  cases hq : (x1 == x) with
  | false =>
    go_enter Tryz.func132, Tryz.ntmps132
    go_wp2_with fail
    go_quiet (fail)
    go_wp2_with fail
    go_ret
    exact ⟨by rfl, (Upd.refl _ _).drewN _⟩
  | true =>
    go_enter Tryz.func132, Tryz.ntmps132
    go_wp2_with fail
    go_quiet (fail)
    go_wp2_with fail
    go_ret
    exact ⟨by simp, (Upd.refl _ _).drewN _⟩

set_option maxRecDepth 20000 in
set_option maxHeartbeats 2000000 in
theorem joinsI (T : Sys) (set : List Int) (v1 v2 vs : Value) (x y : Int) (w : World) (f2 fs : List Nat) (h2 : R_E1 f2 w [v2] T.eds) (hs : R1 fs w [vs] set) (hb : ∀ k ∈ set, 0 ≤ k ∧ k < T.eds.length) :
    Calls Tryz.prog 119 #[.agg #[ei T.st, ei T.ini, v1, v2], .int .i64 x, .int .i64 y, vs] w fun e w' => e = .returned (.bool (joinF T.eds (idS set) x y)) ∧ Upd [] w w' := by
  obtain ⟨a, cap, rfl, -, l2, -⟩ := slF3_open h2
  obtain ⟨sa, sc, rfl, -, -, -⟩ := slF1_open hs
  unfold maxLen at l2
  obtain ⟨BX, hBX⟩ : ∃ B, B = w.heap.size := ⟨_, rfl⟩
  obtain ⟨wA, hwA⟩ : ∃ wA, wA = ((w.alloc (.cells #[ei T.st, ei T.ini, v1, .slice a T.eds.length cap] 30)).alloc (.cells #[.int .i64 x] 2)).alloc (.cells #[.int .i64 y] 2) := ⟨_, rfl⟩
  have uA : Upd [] w wA := by rw [hwA]; exact (((Upd.refl _ _).alloc _).alloc _).alloc _
  have z3 : wA.cell? ⟨BX, 3, none⟩ = some (.slice a T.eds.length cap) := by
    rw [hwA, hBX]; exact (((Upd.refl [] _).alloc _).alloc _).keep (cell_new w _ _ _ rfl 3 _ rfl)
  have za : wA.cell? ⟨BX + 1, 0, none⟩ = some (ei x) := by
    rw [hwA, hBX]; exact ((Upd.refl [] _).alloc _).keep (cell_new (w.alloc _) _ _ _ (by simp) 0 _ rfl)
  have zb : wA.cell? ⟨BX + 2, 0, none⟩ = some (ei y) := by
    rw [hwA, hBX]; exact cell_new ((w.alloc _).alloc _) _ _ _ (by simp) 0 _ rfl
  have S1 := Lib.hid (containsFuncN (fun k => (edAt T.eds k.toNat).fr == x && (edAt T.eds k.toNat).to == y) 132 #[.pointer (some ⟨BX, 0, none⟩), .pointer (some ⟨BX + 1, 0, none⟩), .pointer (some ⟨BX + 2, 0, none⟩)] (.slice sa set.length sc) set wA fs (R1k.upd hs uA (by simp)) enter_cfjoin
    (fun wr k hk hu => by
      have hbk := hb k hk
      obtain ⟨n, rfl⟩ : ∃ n : Nat, k = n := ⟨k.toNat, by omega⟩
      exact joins1I BX (BX + 1) (BX + 2) T.eds _ x y n wr f2 (R_E1k.upd h2 (uA.trans hu) (by simp)) (hu.keep z3) (hu.keep za) (hu.keep zb) (by omega)))
  have HQ := Lib.hid (show (set.any fun k => (edAt T.eds k.toNat).fr == x && (edAt T.eds k.toNat).to == y) = anyTo (joinP T.eds (idS set) x y) T.eds.length from anyTo_set hb fun i => (edAt T.eds i).fr == x && (edAt T.eds i).to == y)
  rw [HQ.out] at S1
  have HF := Lib.hid (show joinF T.eds (idS set) x y = (x == y || anyTo (joinP T.eds (idS set) x y) T.eds.length) from rfl)
  have hent := enter_cfjoin
  have HUA := Lib.hid uA
  generalize anyTo (joinP T.eds (idS set) x y) T.eds.length = q at *
  generalize joinF T.eds (idS set) x y = Z at *
  clear h2 hs hb HQ uA
  cases hq : (x == y) with
  | true =>
    have HE := Lib.hid (show Z = true by rw [HF.out, hq]; rfl)
    clear HF S1
    go_enter Tryz.func119, Tryz.ntmps119
    go_upto_region 1 with (fail)
    rw [← hwA, ← hBX]
    clear hwA hBX
    go_wp2_with fail
    go_ret
    exact ⟨by rw [HE.out]; rfl, HUA.out⟩
  | false =>
    have HE := Lib.hid (show Z = q by rw [HF.out, hq]; rfl)
    clear HF
    go_enter Tryz.func119, Tryz.ntmps119
    go_upto_region 1 with (fail)
    rw [← hwA, ← hBX]
    clear hwA hBX
    go_wp2_with fail
    refine S1.out.mono ?_
    rintro e w1 ⟨rfl, hu1⟩
    have HU1 := Lib.hid (HUA.out.trans hu1)
    clear S1 hu1
    go_wp2_with fail
    go_ret
    exact ⟨by rw [HE.out]; rfl, HU1.out⟩

end Go.Proofs.YtlondofadjcooaaGreatDoor

/-
  Sets of internal edges of a system that agree with all edges: the program asks whether edges agree.
-/
namespace Go.Proofs.YtlondofadjcooaaGreatDoor
open Go.RowKit

set_option maxRecDepth 20000 in
set_option maxHeartbeats 4000000 in
theorem agreesI (T : Sys) (set : List Int) (v1 v2 vs : Value) (e f : Nat) (w : World) (f2 fs : List Nat) (h2 : R_E1 f2 w [v2] T.eds) (hs : R1 fs w [vs] set) (hb : ∀ k ∈ set, 0 ≤ k ∧ k < T.eds.length) (hm : T.eds.length ≤ 300) (he : e < T.eds.length) (hf : f < T.eds.length) :
    Calls Tryz.prog 103 #[.agg #[ei T.st, ei T.ini, v1, v2], .int .i64 e, .int .i64 f, vs] w fun r w' => r = .returned (.bool (agrF T.eds (idS set) e f)) ∧ Upd [] w w' := by
  obtain ⟨a, cap, rfl, -, l2, hc⟩ := slF3_open h2
  obtain ⟨sa, sc, rfl, -, -, -⟩ := slF1_open hs
  clear l2
  have HJ := Lib.hid (fun (x y : Int) W (hu : Upd [] w W) => joinsI T set v1 (.slice a T.eds.length cap) (.slice sa set.length sc) x y W f2 fs (R_E1k.upd h2 hu (by simp)) (R1k.upd hs hu (by simp)) hb)
  have HN := Lib.hid (fun (n : Nat) W (hu : Upd [] w W) => show Calls Tryz.prog 120 #[.slice sa set.length sc, .int .i64 n] W fun e w' => e = .returned (.bool (idS set n)) ∧ W = w' from containsI (.slice sa set.length sc) set n W fs (R1k.upd hs hu (by simp)))
  have HA := Lib.hid (show agrF T.eds (idS set) e f = (((edAt T.eds f).lb == 0 && joinF T.eds (idS set) (edAt T.eds f).to (edAt T.eds e).to) || anyTo (agrP T.eds (idS set) e f) T.eds.length) from rfl)
  have HP := Lib.hid (fun i => show agrP T.eds (idS set) e f i = ((edAt T.eds i).fr == (edAt T.eds e).to && (edAt T.eds i).lb == (edAt T.eds f).lb && (idS set i || !idS set f) && joinF T.eds (idS set) (edAt T.eds f).to (edAt T.eds i).to) from rfl)
  obtain ⟨b, o, hab, -, -, e1, e2, e3⟩ := hc e he
  cases hab
  obtain ⟨b', o', hab, -, -, g1, g2, g3⟩ := hc f hf
  cases hab
  rw [← edAt_get he] at e1 e2 e3
  rw [← edAt_get hf] at g1 g2 g3
  have HC := Lib.hid hc
  generalize edAt T.eds e = E at *
  generalize edAt T.eds f = F at *
  obtain ⟨E1, E2, E3⟩ := E
  obtain ⟨F1, F2, F3⟩ := F
  simp only at e1 e2 e3 g1 g2 g3 HA HP
  obtain ⟨BX, hBX⟩ : ∃ B, B = w.heap.size := ⟨_, rfl⟩
  obtain ⟨wA, hwA⟩ : ∃ wA, wA = w.alloc (.cells #[ei T.st, ei T.ini, v1, .slice (some ⟨b, o, none⟩) T.eds.length cap] 30) := ⟨_, rfl⟩
  have uA : Upd [] w wA := by rw [hwA]; exact (Upd.refl _ _).alloc _
  have qA : RowAt wA BX 30 [ei T.st, ei T.ini, v1, .slice (some ⟨b, o, none⟩) T.eds.length cap] := by rw [hwA, hBX]; exact RowAt.new _ _ _
  have z3 := qA.cell 3 _ rfl
  have e1 := uA.keep e1
  have e2 := uA.keep e2
  have e3 := uA.keep e3
  have g1 := uA.keep g1
  have g2 := uA.keep g2
  have g3 := uA.keep g3
  have hel : (e : Int) < (T.eds.length : Int) := by omega
  have hfl : (f : Int) < (T.eds.length : Int) := by omega
  obtain ⟨BO, hBO⟩ : ∃ B, B = wA.heap.size := ⟨_, rfl⟩
  obtain ⟨w1, hw1⟩ : ∃ w1, w1 = (wA.alloc (.cells #[ei F1, ei F2, ei F3] 55)).drew := ⟨_, rfl⟩
  have u1 : Upd [] wA w1 := by rw [hw1]; exact ((Upd.refl _ _).alloc _).drew
  have q1 : RowAt w1 BO 55 [ei F1, ei F2, ei F3] := by rw [hw1, hBO]; exact (RowAt.new _ _ _).upd ((Upd.refl [] _).drew) (by simp)
  have HQ := Lib.hid (fun W (hu : Upd [] w1 W) => show (W.cell? ⟨BO, 0, none⟩ = some (ei F1) ∧ W.cell? ⟨BO, 1, none⟩ = some (ei F2) ∧ W.cell? ⟨BO, 2, none⟩ = some (ei F3)) ∧ W.cell? ⟨BX, 0, none⟩ = some (ei T.st) ∧ W.cell? ⟨BX, 1, none⟩ = some (ei T.ini) ∧ W.cell? ⟨BX, 2, none⟩ = some v1 ∧ W.cell? ⟨BX, 3, none⟩ = some (.slice (some ⟨b, o, none⟩) T.eds.length cap) from
    have p := q1.upd hu (by simp); have q := qA.upd (u1.trans hu) (by simp); ⟨⟨p.cell 0 _ rfl, p.cell 1 _ rfl, p.cell 2 _ rfl⟩, q.cell 0 _ rfl, q.cell 1 _ rfl, q.cell 2 _ rfl, q.cell 3 _ rfl⟩)
  have HU1 := Lib.hid (uA.trans u1)
  clear h2 hs hb hc uA u1 q1 qA
  go_enter Tryz.func103, Tryz.ntmps103
  go_upto_region 1 with (fail)
  rw [← hwA, ← hBX]
  clear hwA hBX
  go_region_held3 (fun w' => w'.cell? ⟨BX, 3, none⟩ = some (.slice (some ⟨b, o, none⟩) T.eds.length cap) ∧ w'.cell? ⟨b, o + e * 3, none⟩ = some (ei E1) ∧ w'.cell? ⟨b, o + e * 3 + 1, none⟩ = some (ei E2) ∧ w'.cell? ⟨b, o + e * 3 + 2, none⟩ = some (ei E3) ∧ w'.cell? ⟨b, o + f * 3, none⟩ = some (ei F1) ∧ w'.cell? ⟨b, o + f * 3 + 1, none⟩ = some (ei F2) ∧ w'.cell? ⟨b, o + f * 3 + 2, none⟩ = some (ei F3)) (first | go_keep | (go_split_ands; refine ⟨?_, ?_, ?_, ?_, ?_, ?_, ?_⟩ <;> exact ((Upd.refl [] _).alloc _).keep (by assumption))) (fail)
  go_upto_region 2 with (fail)
  rw [← hw1, ← hBO]
  clear hw1 hBO z3 e1 e2 e3 g1 g2 g3
  obtain ⟨⟨y0, y1, y2⟩, z0, z1, z2, z3⟩ := HQ.out w1 (Upd.refl _ _)
  obtain ⟨q0, hq0⟩ : ∃ q, (F2 == 0) = q := ⟨_, rfl⟩
  have S1 := Lib.hid (HJ.out F3 E3 w1 HU1.out)
  rw [hq0] at HA
  obtain ⟨J0, hJ0⟩ : ∃ J, joinF T.eds (idS set) F3 E3 = J := ⟨_, rfl⟩
  rw [hJ0] at S1 HA
  clear hJ0
  go_cut [34] (fun c wx => c = .bool (q0 && J0) ∧ Hid (Upd [] w1 wx))
  case first =>
    cases q0 with
    | false =>
      clear S1
      go_wp2_with fail
      go_meet
      exact ⟨rfl, Lib.hid (Upd.refl _ _)⟩
    | true =>
      go_wp2_with fail
      refine S1.out.mono ?_
      rintro e w2 ⟨rfl, hu2⟩
      have HU2 := Lib.hid hu2
      clear S1 hu2
      go_wp2_with fail
      go_meet
      exact ⟨rfl, HU2⟩
  case rest =>
    obtain ⟨rfl, HUC⟩ := hcut
    clear S1 hq0 y0 y1 y2 z0 z1 z2 z3
    generalize (q0 && J0) = qc at *
    cases qc with
    | true =>
      have HE := Lib.hid (show agrF T.eds (idS set) e f = true by rw [HA.out]; rfl)
      clear HA
      go_wp2_with fail
      go_ret
      exact ⟨by rw [HE.out]; rfl, HU1.out.trans HUC.out⟩
    | false =>
      have HE := Lib.hid (show agrF T.eds (idS set) e f = anyTo (agrP T.eds (idS set) e f) T.eds.length by rw [HA.out]; rfl)
      clear HA
      obtain ⟨⟨y0, y1, y2⟩, z0, z1, z2, z3⟩ := HQ.out wc HUC.out
      go_wp2_with fail
      go_loopw [38] (fun iv wr => ∃ i : Nat, i ≤ T.eds.length ∧ iv = .int .i64 i ∧ Hid (Upd [] w1 wr) ∧ Hid (∀ j, j < i → agrP T.eds (idS set) e f j = false)) (fun iv _ => T.eds.length - (intOf iv).toNat)
      case atStart => exact ⟨0, Nat.zero_le _, rfl, HUC, Lib.hid (fun j hj => by omega)⟩
      case round =>
        clear y0 y1 y2 z0 z1 z2 z3 HUC
        obtain ⟨wo, rfl⟩ : ∃ wo : World, wo = wr := ⟨_, rfl⟩
        obtain ⟨i, hi, rfl, HU, HD⟩ := hrel
        by_cases hlt : i < T.eds.length
        · obtain ⟨b2, o2, hab, -, -, p1, p2, p3⟩ := HC.out i hlt
          cases hab
          rw [← edAt_get hlt] at p1 p2 p3
          have p1 := (HU1.out.trans HU.out).keep p1
          have p2 := (HU1.out.trans HU.out).keep p2
          have p3 := (HU1.out.trans HU.out).keep p3
          have hil : (i : Int) < (T.eds.length : Int) := by omega
          have HPI := Lib.hid (HP.out i)
          have HNX := Lib.hid (fun (h : agrP T.eds (idS set) e f i = false) => show ∀ j, j < i + 1 → agrP T.eds (idS set) e f j = false from fun j hj => by
            by_cases hji : j = i
            · rw [hji]; exact h
            · exact HD.out j (by omega))
          have HYES := Lib.hid (fun (h : agrP T.eds (idS set) e f i = true) => show agrF T.eds (idS set) e f = true by rw [HE.out]; exact anyTo_yes hlt h)
          generalize edAt T.eds i = X at *
          obtain ⟨x1, x2, x3⟩ := X
          simp only at p1 p2 p3 HPI
          obtain ⟨wB, hwB⟩ : ∃ wB, wB = wo.alloc (.cells #[.int .i64 x1, .int .i64 x2, .int .i64 x3] 55) := ⟨_, rfl⟩
          have uB : Upd [] wo wB := by rw [hwB]; exact (Upd.refl _ _).alloc _
          obtain ⟨BE, hBE⟩ : ∃ B, B = wo.heap.size := ⟨_, rfl⟩
          have qB : RowAt wB BE 55 [ei x1, ei x2, ei x3] := by rw [hwB, hBE]; exact RowAt.new _ _ _
          have t0 := qB.cell 0 _ rfl
          have t1 := qB.cell 1 _ rfl
          have t2 := qB.cell 2 _ rfl
          have HUB := Lib.hid (HU.out.trans uB)
          obtain ⟨⟨y0, y1, y2⟩, z0, z1, z2, z3⟩ := HQ.out wB HUB.out
          have N1 := Lib.hid (HN.out f wB (HU1.out.trans HUB.out))
          have N2 := Lib.hid (HN.out i wB (HU1.out.trans HUB.out))
          have J1 := Lib.hid (HJ.out F3 x3 wB (HU1.out.trans HUB.out))
          obtain ⟨q1, hq1⟩ : ∃ q, (x1 == E3) = q := ⟨_, rfl⟩
          obtain ⟨q2, hq2⟩ : ∃ q, (x2 == F2) = q := ⟨_, rfl⟩
          obtain ⟨q3, hq3⟩ : ∃ q, idS set f = q := ⟨_, rfl⟩
          obtain ⟨q4, hq4⟩ : ∃ q, idS set i = q := ⟨_, rfl⟩
          obtain ⟨q5, hq5⟩ : ∃ q, joinF T.eds (idS set) F3 x3 = q := ⟨_, rfl⟩
          rw [hq1, hq2, hq3, hq4, hq5] at HPI
          rw [hq3] at N1
          rw [hq4] at N2
          rw [hq5] at J1
          clear hq3 hq4 hq5 uB qB
          go_upto_region 7 with (fail)
          rw [← hwB, ← hBE]
          clear hwB hBE p1 p2 p3 HU HD
          go_cut [64] (fun c wx => c = .bool (!(q1 && q2 && (q4 || !q3))) ∧ wx = wB)
          case first =>
            clear HNX HYES HPI J1
            cases q1 with
            | false =>
              have n1 : (x1 != E3) = true := by simp only [bne, hq1]; rfl
              clear N1 N2 hq2
              go_wp2_with fail
              go_meet
              exact ⟨rfl, rfl⟩
            | true =>
              have n1 : (x1 != E3) = false := by simp only [bne, hq1]; rfl
              clear hq1
              cases q2 with
              | false =>
                have n2 : (x2 != F2) = true := by simp only [bne, hq2]; rfl
                clear N1 N2 hq2
                go_wp2_with fail
                go_meet
                exact ⟨rfl, rfl⟩
              | true =>
                have n2 : (x2 != F2) = false := by simp only [bne, hq2]; rfl
                clear hq2
                cases q3 with
                | false =>
                  go_wp2_with fail
                  refine N1.out.mono ?_
                  rintro r w9 ⟨rfl, rfl⟩
                  go_wp2_with fail
                  go_meet
                  exact ⟨by simp, rfl⟩
                | true =>
                  go_wp2_with fail
                  refine N1.out.mono ?_
                  rintro r w9 ⟨rfl, rfl⟩
                  go_wp2_with fail
                  refine N2.out.mono ?_
                  rintro r w9 ⟨rfl, rfl⟩
                  cases q4
                  · go_wp2_with fail
                    go_meet
                    exact ⟨rfl, rfl⟩
                  · go_wp2_with fail
                    go_meet
                    exact ⟨rfl, rfl⟩
          case rest =>
            obtain ⟨rfl, hwx⟩ := hcut
            obtain ⟨wz, rfl⟩ : ∃ q : World, q = wc := ⟨_, rfl⟩
            subst hwx
            clear hq1 hq2 N1 N2
            cases hqq : (q1 && q2 && (q4 || !q3)) with
            | false =>
              have HX := Lib.hid (HNX.out (by rw [HPI.out, hqq]; rfl))
              clear HNX HYES HPI J1 hqq
              go_wp2_with fail
              go_roundw
              case rel => exact ⟨i + 1, by omega, by go_num, HUB, HX⟩
              case measure => simp [intOf]; omega
            | true =>
              rw [hqq] at HPI
              clear hqq
              go_wp2_with fail
              refine J1.out.mono ?_
              rintro r w9 ⟨rfl, hu9⟩
              have HU9 := Lib.hid (HUB.out.trans hu9)
              clear J1 hu9 t0 t1 t2 y0 y1 y2 z0 z1 z2 z3
              cases q5 with
              | false =>
                have HX := Lib.hid (HNX.out (by rw [HPI.out]; rfl))
                clear HNX HYES HPI
                go_wp2_with fail
                go_roundw
                case rel => exact ⟨i + 1, by omega, by go_num, HU9, HX⟩
                case measure => simp [intOf]; omega
              | true =>
                have HX := Lib.hid (HYES.out (by rw [HPI.out]; rfl))
                clear HNX HYES HPI
                go_wp2_with fail
                go_ret
                exact ⟨by rw [HX.out]; rfl, HU1.out.trans HU9.out⟩
        · obtain rfl : i = T.eds.length := by omega
          have HX := Lib.hid (show agrF T.eds (idS set) e f = false by rw [HE.out]; exact anyTo_no HD.out)
          clear HD
          go_wp2_with fail
          go_ret
          exact ⟨by rw [HX.out]; rfl, HU1.out.trans HU.out⟩

end Go.Proofs.YtlondofadjcooaaGreatDoor

/-
  From which pairs of states a property can be left: the program asks all moves of a pair.
-/
namespace Go.Proofs.YtlondofadjcooaaGreatDoor
open Go.RowKit

end Go.Proofs.YtlondofadjcooaaGreatDoor

/-
  slices.Repeat of one truth.
-/
namespace Go.Proofs.YtlondofadjcooaaGreatDoor
open Go.RowKit

end Go.Proofs.YtlondofadjcooaaGreatDoor

/-
  From which pairs of states a property can be left: the program's marks are set as long as a pair asks for it.
-/
namespace Go.Proofs.YtlondofadjcooaaGreatDoor
open Go.RowKit

theorem RowAt.ofRow {w : World} {b n : Nat} {e : TypeId} {xs : List Value} (h : w.ownsRow b e 1 (.slice (some ⟨b, 0, none⟩) n n) n xs) : RowAt w b e xs := by
  obtain ⟨-, ⟨h1, -⟩ | ⟨g, cap, cur, hv, -, hc, -, -, h3, h4⟩⟩ := h
  · cases h1
  · cases hv
    unfold RowAt
    rw [hc, ← h4]
    have : cur.toList.take (n * 1) = cur.toList := List.take_of_length_le (by simp [h3])
    rw [this]
theorem MatW.set {M B : Nat} {ρ : Nat → Nat} {n m K : Nat} {f : Nat → Nat → Bool} {w : World} (h : MatW M B ρ n m K f w) {x y : Nat} (hx : x < n) (hne : ∀ i, i < n → ρ i ≠ M ∧ ρ i ≠ B) (hinj : ∀ i j, i < n → j < n → ρ i = ρ j → i = j) (c : Bool) :
    MatW M B ρ n m K (Go.Proofs.YtlondofadjcooaaGreatDoor.upd f x y c) (w.setCell ⟨ρ x, y, none⟩ (.bool c)) := by
  have hu : Upd [ρ x] w (w.setCell ⟨ρ x, y, none⟩ (.bool c)) := (Upd.refl _ _).setCell (Or.inr (by simp)) _
  refine ⟨hu.keepF (by simpa using (hne x hx).1.symm) h.c, fun i hi => hu.keepF (by simpa using (hne x hx).2.symm) (h.r i hi), fun i hi => ?_, h.k⟩
  by_cases e : i = x
  · subst e
    rw [← rowL_set]
    exact (h.b i hi).set y c
  · rw [rowL_far _ _ _ _ _ _ e]
    exact (h.b i hi).upd hu (by simp; intro e2; exact e (hinj i x hi hx e2))
theorem MatW.congr {M B : Nat} {ρ : Nat → Nat} {n m K : Nat} {f g : Nat → Nat → Bool} {w : World} (h : MatW M B ρ n m K f w) (hfg : ∀ i j, i < n → j < m → f i j = g i j) : MatW M B ρ n m K g w := by
  refine ⟨h.c, h.r, fun i hi => ?_, h.k⟩
  have : rowL m g i = rowL m f i := by
    unfold rowL
    exact List.map_congr_left fun j hj => (hfg i j hi (List.mem_range.1 hj)).symm
  rw [this]; exact h.b i hi
theorem MatW.off {M B : Nat} {ρ : Nat → Nat} {n m K : Nat} {f : Nat → Nat → Bool} {w : World} (h : MatW M B ρ n m K f w) : ((List.range n).map fun i => falseAt w (ρ i)).sum = offS n m f :=
  offS_congr fun i hi => (h.b i hi).falseAt
/-- all pairs before a place ask for nothing more. -/
def DoneTo (T P : Sys) (m : Nat) (f : Nat → Nat → Bool) (x y : Nat) : Prop := (∀ a b, a < x → b < m → chF T P f a b = true → f a b = true) ∧ ∀ b, b < y → chF T P f x b = true → f x b = true
theorem DoneTo.next {T P : Sys} {m : Nat} {f : Nat → Nat → Bool} {x y : Nat} (h : DoneTo T P m f x y) (hc : chF T P f x y = true → f x y = true) : DoneTo T P m f x (y + 1) :=
  ⟨h.1, fun b hb => by
    rcases Nat.lt_succ_iff_lt_or_eq.1 hb with hb | rfl
    · exact h.2 b hb
    · exact hc⟩
theorem DoneTo.row {T P : Sys} {m : Nat} {f : Nat → Nat → Bool} {x : Nat} (h : DoneTo T P m f x m) : DoneTo T P m f (x + 1) 0 :=
  ⟨fun a b ha hb => by
    rcases Nat.lt_succ_iff_lt_or_eq.1 ha with ha | rfl
    · exact h.1 a b ha hb
    · exact h.2 b hb, fun b hb => by omega⟩

end Go.Proofs.YtlondofadjcooaaGreatDoor

/-
  From which pairs of states a property can be left: the program's list, its checks, and the whole call.
-/
namespace Go.Proofs.YtlondofadjcooaaGreatDoor
open Go.RowKit

end Go.Proofs.YtlondofadjcooaaGreatDoor

/-
  From which pairs of states a property can be left: the program's checks and its call.
-/
namespace Go.Proofs.YtlondofadjcooaaGreatDoor
open Go.RowKit

end Go.Proofs.YtlondofadjcooaaGreatDoor

/-
  Sets of internal edges of a system that agree with all edges: the program's checks of a set.
-/
namespace Go.Proofs.YtlondofadjcooaaGreatDoor
open Go.RowKit

set_option maxRecDepth 20000 in
set_option maxHeartbeats 4000000 in
theorem disI (T : Sys) (set : List Int) (v1 v2 vs : Value) (e : Nat) (w : World) (f2 fs : List Nat) (h2 : R_E1 f2 w [v2] T.eds) (hs : R1 fs w [vs] set) (hb : ∀ k ∈ set, 0 ≤ k ∧ k < T.eds.length) (hm : T.eds.length ≤ 300) (he : e < T.eds.length) :
    Calls Tryz.prog 93 #[.agg #[ei T.st, ei T.ini, v1, v2], .int .i64 e, vs] w fun r w' => (∃ q : Int, r = .returned (.int .i64 q) ∧ -1 ≤ q ∧ q ≤ 300 ∧ decide (0 ≤ q) = badF T.eds (idS set) e) ∧ Upd [] w w' := by
  obtain ⟨a, cap, rfl, -, l2, hc⟩ := slF3_open h2
  clear l2
  have HG := Lib.hid (fun (f : Nat) (hf : f < T.eds.length) W (hu : Upd [] w W) => agreesI T set v1 (.slice a T.eds.length cap) vs e f W f2 fs (R_E1k.upd h2 hu (by simp)) (R1k.upd hs hu (by simp)) hb hm he hf)
  have HB := Lib.hid (show badF T.eds (idS set) e = anyTo (badP T.eds (idS set) e) T.eds.length from rfl)
  have HP := Lib.hid (fun i => show badP T.eds (idS set) e i = ((edAt T.eds i).fr == (edAt T.eds e).fr && !agrF T.eds (idS set) e i) from rfl)
  obtain ⟨b, o, hab, -, -, e1, -, -⟩ := hc e he
  cases hab
  rw [← edAt_get he] at e1
  have HC := Lib.hid hc
  have HE1 := Lib.hid e1
  obtain ⟨E1, hE1⟩ : ∃ x, (edAt T.eds e).fr = x := ⟨_, rfl⟩
  rw [hE1] at HP HE1
  clear hE1 e1
  have hel : (e : Int) < (T.eds.length : Int) := by omega
  obtain ⟨sa, sc, rfl, -, -, -⟩ := slF1_open hs
  obtain ⟨BX, hBX⟩ : ∃ B, B = w.heap.size := ⟨_, rfl⟩
  obtain ⟨wA, hwA⟩ : ∃ wA, wA = w.alloc (.cells #[ei T.st, ei T.ini, v1, .slice (some ⟨b, o, none⟩) T.eds.length cap] 30) := ⟨_, rfl⟩
  have uA : Upd [] w wA := by rw [hwA]; exact (Upd.refl _ _).alloc _
  have qA : RowAt wA BX 30 [ei T.st, ei T.ini, v1, .slice (some ⟨b, o, none⟩) T.eds.length cap] := by rw [hwA, hBX]; exact RowAt.new _ _ _
  have HZ := Lib.hid (fun W (hu : Upd [] wA W) => have q := qA.upd hu (by simp); show W.cell? ⟨BX, 0, none⟩ = some (ei T.st) ∧ W.cell? ⟨BX, 1, none⟩ = some (ei T.ini) ∧ W.cell? ⟨BX, 2, none⟩ = some v1 ∧ W.cell? ⟨BX, 3, none⟩ = some (.slice (some ⟨b, o, none⟩) T.eds.length cap) from ⟨q.cell 0 _ rfl, q.cell 1 _ rfl, q.cell 2 _ rfl, q.cell 3 _ rfl⟩)
  obtain ⟨z0, z1, z2, z3⟩ := HZ.out wA (Upd.refl _ _)
  have HUA := Lib.hid uA
  clear uA qA h2 hs hb hc
  go_enter Tryz.func93, Tryz.ntmps93
  go_upto_region 1 with (fail)
  rw [← hwA, ← hBX]
  clear hwA hBX
  go_wp2_with fail
  go_loopw [12] (fun iv wr => ∃ i : Nat, i ≤ T.eds.length ∧ iv = .int .i64 i ∧ Hid (Upd [] wA wr) ∧ Hid (∀ j, j < i → badP T.eds (idS set) e j = false)) (fun iv _ => T.eds.length - (intOf iv).toNat)
  case atStart => exact ⟨0, Nat.zero_le _, rfl, Lib.hid (Upd.refl _ _), Lib.hid (fun j hj => by omega)⟩
  case round =>
    clear z0 z1 z2 z3
    obtain ⟨wo, rfl⟩ : ∃ wo : World, wo = wr := ⟨_, rfl⟩
    obtain ⟨i, hi, rfl, HU, HD⟩ := hrel
    by_cases hlt : i < T.eds.length
    · obtain ⟨b2, o2, hab, -, -, p1, p2, p3⟩ := HC.out i hlt
      cases hab
      rw [← edAt_get hlt] at p1 p2 p3
      have p1 := (HUA.out.trans HU.out).keep p1
      have p2 := (HUA.out.trans HU.out).keep p2
      have p3 := (HUA.out.trans HU.out).keep p3
      have hil : (i : Int) < (T.eds.length : Int) := by omega
      have HPI := Lib.hid (HP.out i)
      have HNX := Lib.hid (fun (h : badP T.eds (idS set) e i = false) => show ∀ j, j < i + 1 → badP T.eds (idS set) e j = false from fun j hj => by
        by_cases hji : j = i
        · rw [hji]; exact h
        · exact HD.out j (by omega))
      have HYES := Lib.hid (fun (h : badP T.eds (idS set) e i = true) => show badF T.eds (idS set) e = true by rw [HB.out]; exact anyTo_yes hlt h)
      generalize edAt T.eds i = X at *
      obtain ⟨x1, x2, x3⟩ := X
      simp only at p1 p2 p3 HPI
      obtain ⟨wB, hwB⟩ : ∃ wB, wB = wo.alloc (.cells #[.int .i64 x1, .int .i64 x2, .int .i64 x3] 55) := ⟨_, rfl⟩
      have uB : Upd [] wo wB := by rw [hwB]; exact (Upd.refl _ _).alloc _
      obtain ⟨BE, hBE⟩ : ∃ B, B = wo.heap.size := ⟨_, rfl⟩
      have qB : RowAt wB BE 55 [ei x1, ei x2, ei x3] := by rw [hwB, hBE]; exact RowAt.new _ _ _
      have t0 := qB.cell 0 _ rfl
      have HUB := Lib.hid (HU.out.trans uB)
      obtain ⟨z0, z1, z2, z3⟩ := HZ.out wB HUB.out
      have c1 := (HUA.out.trans HUB.out).keep HE1.out
      have G1 := Lib.hid (fun W (hu : Upd [] wB W) => HG.out i hlt W ((HUA.out.trans HUB.out).trans hu))
      obtain ⟨q2, hq2⟩ : ∃ q, agrF T.eds (idS set) e i = q := ⟨_, rfl⟩
      rw [hq2] at HPI G1
      clear hq2 uB qB
      go_upto_region 4 with (fail)
      rw [← hwB, ← hBE]
      clear hwB hBE p1 p2 p3 HU HD
      cases hq : (x1 == E1) with
      | false =>
        have HX := Lib.hid (HNX.out (by rw [HPI.out, hq]; rfl))
        clear HNX HYES HPI G1
        go_quiet (fail)
        go_wp2_with fail
        go_roundw
        case rel => exact ⟨i + 1, by omega, by go_num, Lib.hid (HUB.out.drewN _), HX⟩
        case measure => simp [intOf]; omega
      | true =>
        rw [hq] at HPI
        go_region_held3 (fun w' => w'.cell? ⟨BE, 0, none⟩ = some (ei x1) ∧ w'.cell? ⟨BX, 0, none⟩ = some (ei T.st) ∧ w'.cell? ⟨BX, 1, none⟩ = some (ei T.ini) ∧ w'.cell? ⟨BX, 2, none⟩ = some v1 ∧ w'.cell? ⟨BX, 3, none⟩ = some (.slice (some ⟨b, o, none⟩) T.eds.length cap) ∧ w'.cell? ⟨b, o + e * 3, none⟩ = some (ei E1)) (go_keep)
          (first
            | ((go_at_call 103); (with_reducible refine (G1.out _ ((Upd.refl [] _).drew)).mono ?_); rintro r w9 ⟨rfl, hu9⟩; have k1 := hu9.keep t0; have k2 := hu9.keep z0; have k3 := hu9.keep z1; have k4 := hu9.keep z2; have k5 := hu9.keep z3; have k6 := hu9.keep c1))
        have HU9 := Lib.hid (HUB.out.trans (((Upd.refl [] wB).drew).trans hu9))
        clear G1 hu9 t0 z0 z1 z2 z3 c1 k1 k2 k3 k4 k5 k6 hq
        cases q2 with
        | true =>
          have HX := Lib.hid (HNX.out (by rw [HPI.out]; rfl))
          clear HNX HYES HPI
          go_wp2_with fail
          go_roundw
          case rel => exact ⟨i + 1, by omega, by go_num, HU9, HX⟩
          case measure => simp [intOf]; omega
        | false =>
          have HX := Lib.hid (HYES.out (by rw [HPI.out]; rfl))
          clear HNX HYES HPI
          go_wp2_with fail
          go_ret
          exact ⟨⟨i, rfl, by omega, by omega, by rw [HX.out]; simp⟩, HUA.out.trans HU9.out⟩
    · obtain rfl : i = T.eds.length := by omega
      have HX := Lib.hid (show badF T.eds (idS set) e = false by rw [HB.out]; exact anyTo_no HD.out)
      clear HD
      go_wp2_with fail
      go_ret
      exact ⟨⟨-1, rfl, by omega, by omega, by rw [HX.out]; rfl⟩, HUA.out.trans HU.out⟩

set_option maxRecDepth 20000 in
set_option maxHeartbeats 4000000 in
theorem increasingI (set : List Int) (n : Nat) (v : Value) (w : World) (fp : List Nat) (hR : R1 fp w [v] set) (hn : n ≤ 1000000) :
    Calls Tryz.prog 90 #[v, .int .i64 n] w fun e w' => e = .returned (.bool (risF set n)) ∧ Upd [] w w' := by
  obtain ⟨a, cap, rfl, l1, l2, hc⟩ := slF1_open hR
  unfold maxLen at l2
  have HC := Lib.hid hc
  have HI := Lib.hid (fun x W => idxI x n W hn)
  have HP := Lib.hid (fun k h => risP_at set n k h)
  have HNO := Lib.hid (fun (i : Nat) (h : i < set.length) (hf : risP set n i = false) => show risF set n = false by
    cases hq : risF set n
    · rfl
    · have := allF_get hq i (by omega) (by omega); rw [hf] at this; cases this)
  have HYES := Lib.hid (fun (h : ∀ j, j < set.length → risP set n j = true) => show risF set n = true from allF_mk2 fun j _ hj => h j (by omega))
  clear hR hc
  generalize risF set n = Z at *
  go_enter Tryz.func90, Tryz.ntmps90
  go_wp2_with fail
  go_loopw [9] (fun iv wr => ∃ i : Nat, i ≤ set.length ∧ iv = .int .i64 i ∧ Hid (Upd [] w wr) ∧ Hid (∀ j, j < i → risP set n j = true)) (fun iv _ => set.length - (intOf iv).toNat)
  case atStart => exact ⟨0, Nat.zero_le _, rfl, Lib.hid (Upd.refl _ _), Lib.hid (fun j hj => by omega)⟩
  case round =>
    obtain ⟨wo, rfl⟩ : ∃ wo : World, wo = wr := ⟨_, rfl⟩
    obtain ⟨i, hi, rfl, HU, HD⟩ := hrel
    by_cases hlt : i < set.length
    · obtain ⟨b, o, rfl, -, -, p1⟩ := HC.out i hlt
      have p1 := HU.out.keep p1
      have hil : (i : Int) < (set.length : Int) := by omega
      have HPI := Lib.hid (HP.out i hlt)
      have HNX := Lib.hid (fun (h : risP set n i = true) => show ∀ j, j < i + 1 → risP set n j = true from fun j hj => by
        by_cases hji : j = i
        · rw [hji]; exact h
        · exact HD.out j (by omega))
      have HN := Lib.hid (HNO.out i hlt)
      have I1 := Lib.hid (HI.out set[i] wo)
      obtain ⟨x, hx⟩ : ∃ x, set[i] = x := ⟨_, rfl⟩
      rw [hx] at p1 HPI I1
      obtain ⟨q1, hq1⟩ : ∃ q, inB x 0 (n - 1) = q := ⟨_, rfl⟩
      rw [hq1] at HPI I1
      clear hx hq1 HD
      cases q1 with
      | false =>
        have HX := Lib.hid (HN.out (by rw [HPI.out]; rfl))
        clear HN HNX HPI HYES HNO
        go_wp2_with fail
        refine I1.out.mono ?_
        rintro r w9 ⟨rfl, rfl⟩
        clear I1
        go_wp2_with fail
        go_ret
        exact ⟨by rw [HX.out]; rfl, HU.out⟩
      | true =>
        cases i with
        | zero =>
          have p0 : wo.cell? ⟨b, o, none⟩ = some (.int .i64 x) := p1
          clear p1
          have HX := Lib.hid (HNX.out (by rw [HPI.out]; rfl))
          clear HN HNX HPI HYES HNO
          go_wp2_with fail
          refine I1.out.mono ?_
          rintro r w9 ⟨rfl, rfl⟩
          clear I1
          go_wp2_with fail
          go_roundw
          case rel => exact ⟨0 + 1, by omega, by go_num, HU, HX⟩
          case measure => simp [intOf]; omega
        | succ k =>
          obtain ⟨b', o', hb, -, -, p2⟩ := HC.out k (by omega)
          cases hb
          have p2 := HU.out.keep p2
          have HPI2 := Lib.hid (show risP set n (k + 1) = decide (set[k] < x) by
            rw [HPI.out, Nat.add_sub_cancel, List.getD_eq_getElem?_getD, List.getElem?_eq_getElem (by omega)]
            simp)
          obtain ⟨y, hy⟩ : ∃ y, set[k] = y := ⟨_, rfl⟩
          rw [hy] at p2 HPI2
          clear hy HPI
          have hk0 : (0 : Int) < ((k + 1 : Nat) : Int) := by omega
          have hk1 : IntKind.i64.wrap (((k + 1 : Nat) : Int) - 1) = (k : Int) := by rw [IntKind.wrap_i64]; omega
          have hk2 : IntKind.i64.wrap (k : Int) = (k : Int) := by rw [IntKind.wrap_i64]; omega
          have hk3 : (k : Int) < (set.length : Int) := by omega
          by_cases hq : y < x
          · have HX := Lib.hid (HNX.out (by rw [HPI2.out, decide_eq_true hq]))
            have hq2 : ¬ (x ≤ y) := by omega
            have hq3 : decide (x ≤ y) = false := decide_eq_false hq2
            clear HN HNX HPI2 HYES HNO
            go_wp2_with fail
            refine I1.out.mono ?_
            rintro r w9 ⟨rfl, rfl⟩
            clear I1
            go_wp2_with fail
            go_roundw
            case rel => exact ⟨k + 1 + 1, by omega, by go_num, HU, HX⟩
            case measure => simp [intOf]; omega
          · have HX := Lib.hid (HN.out (by rw [HPI2.out, decide_eq_false hq]))
            have hq2 : x ≤ y := by omega
            have hq3 : decide (x ≤ y) = true := decide_eq_true hq2
            clear HN HNX HPI2 HYES HNO
            go_wp2_with fail
            refine I1.out.mono ?_
            rintro r w9 ⟨rfl, rfl⟩
            clear I1
            go_wp2_with fail
            go_ret
            exact ⟨by rw [HX.out]; rfl, HU.out⟩
    · obtain rfl : i = set.length := by omega
      have HX := Lib.hid (HYES.out HD.out)
      clear HD HYES HNO
      go_wp2_with fail
      go_ret
      exact ⟨by rw [HX.out]; rfl, HU.out⟩

set_option maxRecDepth 20000 in
set_option maxHeartbeats 4000000 in
theorem setOkI (T : Sys) (set : List Int) (v1 v2 vs : Value) (w : World) (f2 fs : List Nat) (h2 : R_E1 f2 w [v2] T.eds) (hs : R1 fs w [vs] set) (hm : T.eds.length ≤ 300) :
    Calls Tryz.prog 73 #[.agg #[ei T.st, ei T.ini, v1, v2], vs] w fun e w' => e = .returned (.bool (setOkF T.eds set)) ∧ Upd [] w w' := by
  have HI := Lib.hid (fun W (hu : Upd [] w W) => increasingI set T.eds.length vs W fs (R1k.upd hs hu (by simp)) (by omega))
  have HCF := Lib.hid (fun TB W (hu : Upd [] w W) (z3 : W.cell? ⟨TB, 3, none⟩ = some v2) (hb : ∀ k ∈ set, 0 ≤ k ∧ k < T.eds.length) => containsFuncN (fun k => !((edAt T.eds k.toNat).lb == 0)) 92 #[.pointer (some ⟨TB, 0, none⟩)] vs set W fs (R1k.upd hs hu (by simp)) enter_cfset
    (fun wr k hk hu2 => by
      have hbk := hb k hk
      obtain ⟨n, rfl⟩ : ∃ n : Nat, k = n := ⟨k.toNat, by omega⟩
      exact setOk1I TB T.eds v2 n wr f2 (R_E1k.upd h2 (hu.trans hu2) (by simp)) (hu2.keep z3) (by omega)))
  have HF := Lib.hid (show setOkF T.eds set = (risF set T.eds.length && !set.any fun k => !((edAt T.eds k.toNat).lb == 0)) from rfl)
  have HR := Lib.hid (fun (h : risF set T.eds.length = true) => risF_bd h)
  obtain ⟨a, cap, rfl, -, -, -⟩ := slF3_open h2
  obtain ⟨sa, sc, rfl, -, -, -⟩ := slF1_open hs
  have hent := enter_cfset
  obtain ⟨qa, hqa⟩ : ∃ q, risF set T.eds.length = q := ⟨_, rfl⟩
  rw [hqa] at HI HF HR
  obtain ⟨qb, hqb⟩ : ∃ q, (set.any fun k => !((edAt T.eds k.toNat).lb == 0)) = q := ⟨_, rfl⟩
  rw [hqb] at HCF HF
  generalize setOkF T.eds set = Z at *
  clear hqa hqb
  obtain ⟨BX, hBX⟩ : ∃ B, B = w.heap.size := ⟨_, rfl⟩
  obtain ⟨wA, hwA⟩ : ∃ wA, wA = w.alloc (.cells #[ei T.st, ei T.ini, v1, .slice a T.eds.length cap] 30) := ⟨_, rfl⟩
  have uA : Upd [] w wA := by rw [hwA]; exact (Upd.refl _ _).alloc _
  have qA : RowAt wA BX 30 [ei T.st, ei T.ini, v1, .slice a T.eds.length cap] := by rw [hwA, hBX]; exact RowAt.new _ _ _
  have HZ := Lib.hid (fun W (hu : Upd [] wA W) => have q := qA.upd hu (by simp); show W.cell? ⟨BX, 0, none⟩ = some (ei T.st) ∧ W.cell? ⟨BX, 1, none⟩ = some (ei T.ini) ∧ W.cell? ⟨BX, 2, none⟩ = some v1 ∧ W.cell? ⟨BX, 3, none⟩ = some (.slice a T.eds.length cap) from ⟨q.cell 0 _ rfl, q.cell 1 _ rfl, q.cell 2 _ rfl, q.cell 3 _ rfl⟩)
  obtain ⟨z0, z1, z2, z3⟩ := HZ.out wA (Upd.refl _ _)
  have HUA := Lib.hid uA
  clear uA qA h2 hs
  go_enter Tryz.func73, Tryz.ntmps73
  go_upto_region 1 with (fail)
  rw [← hwA, ← hBX]
  clear hwA hBX
  have I1 := Lib.hid (HI.out wA HUA.out)
  have CF := Lib.hid (fun W (hu : Upd [] wA W) hb => HCF.out BX W (HUA.out.trans hu) (HZ.out W hu).2.2.2 hb)
  clear HI HCF
  cases qa with
  | false =>
    have HX := Lib.hid (show Z = false by rw [HF.out]; rfl)
    clear HF CF HR
    go_wp2_with fail
    refine I1.out.mono ?_
    rintro r w1 ⟨rfl, hu1⟩
    have HU1 := Lib.hid hu1
    clear I1 hu1
    go_wp2_with fail
    go_ret
    exact ⟨by rw [HX.out]; rfl, HUA.out.trans HU1.out⟩
  | true =>
    have HX := Lib.hid (show Z = !qb by rw [HF.out]; rfl)
    clear HF
    go_wp2_with fail
    refine I1.out.mono ?_
    rintro r w1 ⟨rfl, hu1⟩
    have HU1 := Lib.hid hu1
    have C1 := Lib.hid (CF.out w1 hu1 (HR.out (by trivial)))
    clear I1 hu1 CF
    go_wp2_with fail
    refine C1.out.mono ?_
    rintro r w2 ⟨rfl, hu2⟩
    have HU2 := Lib.hid (HU1.out.trans hu2)
    clear C1 hu2
    go_wp2_with fail
    go_ret
    exact ⟨by rw [HX.out]; rfl, HUA.out.trans HU2.out⟩

/-- the error for a system and a set. -/
def setCode (T : Sys) (set : List Int) : Int := if sysOk T = true then (if setOkF T.eds set = true then 0 else 2) else 1

set_option maxRecDepth 20000 in
set_option maxHeartbeats 4000000 in
theorem setCodeI (T : Sys) (set : List Int) (v1 v2 vs : Value) (w : World) (f1 f2 fs : List Nat) (h1 : RS f1 w [v1] T.labs) (h2 : R_E1 f2 w [v2] T.eds) (hs : R1 fs w [vs] set) (hp : ∀ p ∈ T.labs, p.length ≤ 2000000) (he : Env w) :
    Calls Tryz.prog 52 #[.agg #[ei T.st, ei T.ini, v1, v2], vs] w fun e w' => e = .returned (.int .i64 (setCode T set)) ∧ Upd [] w w' := by
  have HV := Lib.hid (fun W (hu : Upd [] w W) => validI T v1 v2 W f1 f2 (RSk.upd h1 hu (by simp)) (R_E1k.upd h2 hu (by simp)) hp (he.upd hu))
  have HS := Lib.hid (fun (hok : sysOk T = true) W (hu : Upd [] w W) => setOkI T set v1 v2 vs W f2 fs (R_E1k.upd h2 hu (by simp)) (R1k.upd hs hu (by simp)) (sys_parts hok).2.2.2.1)
  have HF := Lib.hid (show setCode T set = if sysOk T = true then (if setOkF T.eds set = true then 0 else 2) else 1 from rfl)
  generalize setCode T set = Z at *
  obtain ⟨la, ca, rfl, -, -, -⟩ := slF1_open h1
  obtain ⟨a, cap, rfl, -, -, -⟩ := slF3_open h2
  obtain ⟨sa, sc, rfl, -, -, -⟩ := slF1_open hs
  obtain ⟨BX, hBX⟩ : ∃ B, B = w.heap.size := ⟨_, rfl⟩
  obtain ⟨wA, hwA⟩ : ∃ wA, wA = w.alloc (.cells #[ei T.st, ei T.ini, .slice la T.labs.length ca, .slice a T.eds.length cap] 30) := ⟨_, rfl⟩
  have uA : Upd [] w wA := by rw [hwA]; exact (Upd.refl _ _).alloc _
  have qA : RowAt wA BX 30 [ei T.st, ei T.ini, .slice la T.labs.length ca, .slice a T.eds.length cap] := by rw [hwA, hBX]; exact RowAt.new _ _ _
  have HZ := Lib.hid (fun W (hu : Upd [] wA W) => have q := qA.upd hu (by simp); show W.cell? ⟨BX, 0, none⟩ = some (ei T.st) ∧ W.cell? ⟨BX, 1, none⟩ = some (ei T.ini) ∧ W.cell? ⟨BX, 2, none⟩ = some (.slice la T.labs.length ca) ∧ W.cell? ⟨BX, 3, none⟩ = some (.slice a T.eds.length cap) from ⟨q.cell 0 _ rfl, q.cell 1 _ rfl, q.cell 2 _ rfl, q.cell 3 _ rfl⟩)
  obtain ⟨z0, z1, z2, z3⟩ := HZ.out wA (Upd.refl _ _)
  have HUA := Lib.hid uA
  clear uA qA h1 h2 hs hp he
  go_enter Tryz.func52, Tryz.ntmps52
  go_upto_region 1 with (fail)
  rw [← hwA, ← hBX]
  clear hwA hBX
  have V1 := Lib.hid (HV.out wA HUA.out)
  have S1 := Lib.hid (fun hok W (hu : Upd [] wA W) => HS.out hok W (HUA.out.trans hu))
  clear HV HS
  cases hok : sysOk T with
  | false =>
    have HX := Lib.hid (show Z = 1 by rw [HF.out, hok]; rfl)
    rw [hok] at V1
    clear HF S1 hok
    go_wp2_with fail
    refine V1.out.mono ?_
    rintro r w1 ⟨rfl, hu1⟩
    have HU1 := Lib.hid hu1
    clear V1 hu1
    go_wp2_with fail
    go_ret
    exact ⟨by rw [HX.out]; rfl, HUA.out.trans HU1.out⟩
  | true =>
    have HF2 := Lib.hid (show Z = if setOkF T.eds set = true then 0 else 2 by rw [HF.out, hok]; rfl)
    have S2 := Lib.hid (S1.out hok)
    rw [hok] at V1
    clear HF S1 hok
    go_wp2_with fail
    refine V1.out.mono ?_
    rintro r w1 ⟨rfl, hu1⟩
    have HU1 := Lib.hid hu1
    have S3 := Lib.hid (S2.out w1 hu1)
    obtain ⟨z0, z1, z2, z3⟩ := HZ.out w1 hu1
    clear V1 hu1 S2
    generalize setOkF T.eds set = q at *
    go_wp2_with fail
    refine S3.out.mono ?_
    rintro r w2 ⟨rfl, hu2⟩
    have HU2 := Lib.hid (HU1.out.trans hu2)
    clear S3 hu2
    cases q with
    | false =>
      have HX := Lib.hid (show Z = 2 by rw [HF2.out]; rfl)
      clear HF2
      go_wp2_with fail
      go_ret
      exact ⟨by rw [HX.out]; rfl, HUA.out.trans HU2.out⟩
    | true =>
      have HX := Lib.hid (show Z = 0 by rw [HF2.out]; rfl)
      clear HF2
      go_wp2_with fail
      go_ret
      exact ⟨by rw [HX.out]; rfl, HUA.out.trans HU2.out⟩

theorem setCode_ok {T : Sys} {set : List Int} (h : setCode T set = 0) : sysOk T = true ∧ setOkF T.eds set = true := by
  unfold setCode at h
  split at h
  · rename_i h1
    split at h
    · rename_i h2; exact ⟨h1, h2⟩
    · cases h
  · cases h
theorem setOk_bd {es : List Ed} {set : List Int} (h : setOkF es set = true) : ∀ k ∈ set, 0 ≤ k ∧ k < es.length := by
  unfold setOkF at h
  rw [Bool.and_eq_true] at h
  exact risF_bd h.1
/-- the set has an edge that does not agree with some edge. -/
theorem conf_any {es : List Ed} {set : List Int} (h : setOkF es set = true) : confF es (idS set) = !set.any fun k => badF es (idS set) k.toNat := by
  unfold confF
  rw [anyTo_set (setOk_bd h)]
theorem take_any {α : Type} (xs : List α) (p : α → Bool) (h : ∀ i (hi : i < xs.length), p xs[i] = false) : xs.any p = false := by
  rw [List.any_eq_false]
  intro x hx
  obtain ⟨i, hi, rfl⟩ := List.getElem_of_mem hx
  rw [h i hi]; simp
theorem get_any {α : Type} (xs : List α) (p : α → Bool) (i : Nat) (hi : i < xs.length) (h : p xs[i] = true) : xs.any p = true := List.any_eq_true.2 ⟨_, List.getElem_mem hi, h⟩

/-- what the code of a fault tells. -/
def FltP (Z : Int) (q : Bool) (c : Int) : Prop := (Z = 0 → (c == 3) = q) ∧ (Z ≠ 0 → (c == 3) = false)

set_option maxRecDepth 20000 in
set_option maxHeartbeats 4000000 in
theorem faultI (T : Sys) (set : List Int) (v1 v2 vs : Value) (w : World) (f1 f2 fs : List Nat) (h1 : RS f1 w [v1] T.labs) (h2 : R_E1 f2 w [v2] T.eds) (hs : R1 fs w [vs] set) (hp : ∀ p ∈ T.labs, p.length ≤ 2000000) (he : Env w) :
    Calls Tryz.prog 74 #[.agg #[ei T.st, ei T.ini, v1, v2], vs] w fun e w' => (∃ p q c : Int, e = .returned (.tuple #[.int .i64 p, .int .i64 q, .int .i64 c]) ∧ FltP (setCode T set) (confF T.eds (idS set)) c) ∧ Upd [] w w' := by
  have HV := Lib.hid (fun W (hu : Upd [] w W) => setCodeI T set v1 v2 vs W f1 f2 fs (RSk.upd h1 hu (by simp)) (R_E1k.upd h2 hu (by simp)) (R1k.upd hs hu (by simp)) hp (he.upd hu))
  have HS := Lib.hid (fun (hok : setCode T set = 0) (e : Nat) (hel : e < T.eds.length) W (hu : Upd [] w W) => disI T set v1 v2 vs e W f2 fs (R_E1k.upd h2 hu (by simp)) (R1k.upd hs hu (by simp)) (setOk_bd (setCode_ok hok).2) (sys_parts (setCode_ok hok).1).2.2.2.1 hel)
  have HCO := Lib.hid (fun (hok : setCode T set = 0) => conf_any (setCode_ok hok).2)
  have HBD := Lib.hid (fun (hok : setCode T set = 0) => setOk_bd (setCode_ok hok).2)
  have HC3 := Lib.hid (show setCode T set = 0 ∨ setCode T set = 1 ∨ setCode T set = 2 by unfold setCode; split; (· split <;> simp); simp)
  generalize setCode T set = Z at *
  obtain ⟨la, ca, rfl, -, -, -⟩ := slF1_open h1
  obtain ⟨a, cap, rfl, -, -, -⟩ := slF3_open h2
  obtain ⟨sa, sc, rfl, l4, l5, hsc⟩ := slF1_open hs
  unfold maxLen at l5
  have HSC := Lib.hid hsc
  obtain ⟨BX, hBX⟩ : ∃ B, B = w.heap.size := ⟨_, rfl⟩
  obtain ⟨wA, hwA⟩ : ∃ wA, wA = w.alloc (.cells #[ei T.st, ei T.ini, .slice la T.labs.length ca, .slice a T.eds.length cap] 30) := ⟨_, rfl⟩
  have uA : Upd [] w wA := by rw [hwA]; exact (Upd.refl _ _).alloc _
  have qA : RowAt wA BX 30 [ei T.st, ei T.ini, .slice la T.labs.length ca, .slice a T.eds.length cap] := by rw [hwA, hBX]; exact RowAt.new _ _ _
  have HZ := Lib.hid (fun W (hu : Upd [] wA W) => have q := qA.upd hu (by simp); show W.cell? ⟨BX, 0, none⟩ = some (ei T.st) ∧ W.cell? ⟨BX, 1, none⟩ = some (ei T.ini) ∧ W.cell? ⟨BX, 2, none⟩ = some (.slice la T.labs.length ca) ∧ W.cell? ⟨BX, 3, none⟩ = some (.slice a T.eds.length cap) from ⟨q.cell 0 _ rfl, q.cell 1 _ rfl, q.cell 2 _ rfl, q.cell 3 _ rfl⟩)
  obtain ⟨z0, z1, z2, z3⟩ := HZ.out wA (Upd.refl _ _)
  have HUA := Lib.hid uA
  clear uA qA h1 h2 hs hp he hsc
  go_enter Tryz.func74, Tryz.ntmps74
  go_upto_region 1 with (fail)
  rw [← hwA, ← hBX]
  clear hwA hBX
  have V1 := Lib.hid (HV.out wA HUA.out)
  clear HV
  go_wp2_with fail
  refine V1.out.mono ?_
  rintro r w1 ⟨rfl, hu1⟩
  have HU1 := Lib.hid hu1
  clear V1 hu1 z0 z1 z2 z3
  by_cases hz : Z = 0
  · subst hz
    have HS2 := Lib.hid (HS.out rfl)
    have HCO2 := Lib.hid (HCO.out rfl)
    have HBD2 := Lib.hid (HBD.out rfl)
    clear HS HCO HBD HC3
    go_wp2_with fail
    go_loopw [19] (fun iv wr => ∃ i : Nat, i ≤ set.length ∧ iv = .int .i64 i ∧ Hid (Upd [] wA wr) ∧ Hid (∀ j (hj : j < set.length), j < i → badF T.eds (idS set) set[j].toNat = false)) (fun iv _ => set.length - (intOf iv).toNat)
    case atStart => exact ⟨0, Nat.zero_le _, rfl, HU1, Lib.hid (fun j _ hj => by omega)⟩
    case round =>
      clear HU1
      obtain ⟨wo, rfl⟩ : ∃ wo : World, wo = wr := ⟨_, rfl⟩
      obtain ⟨i, hi, rfl, HU, HD⟩ := hrel
      by_cases hlt : i < set.length
      · obtain ⟨b, o, rfl, -, -, p1⟩ := HSC.out i hlt
        have p1 := (HUA.out.trans HU.out).keep p1
        have hil : (i : Int) < (set.length : Int) := by omega
        have hxb := HBD2.out _ (List.getElem_mem hlt)
        have HNX := Lib.hid (fun (h : badF T.eds (idS set) set[i].toNat = false) => show ∀ j (hj : j < set.length), j < i + 1 → badF T.eds (idS set) set[j].toNat = false from fun j hj hji => by
          by_cases hje : j = i
          · subst hje; exact h
          · exact HD.out j hj (by omega))
        have HYES := Lib.hid (fun (h : badF T.eds (idS set) set[i].toNat = true) => show confF T.eds (idS set) = false by
          rw [HCO2.out, get_any set (fun k => badF T.eds (idS set) k.toNat) i hlt h]; rfl)
        generalize set[i] = x at *
        obtain ⟨n, rfl⟩ : ∃ n : Nat, x = n := ⟨x.toNat, by omega⟩
        have D1 := Lib.hid (HS2.out n (by omega) wo (HUA.out.trans HU.out))
        obtain ⟨z0, z1, z2, z3⟩ := HZ.out wo HU.out
        rw [Int.toNat_natCast] at HNX HYES
        generalize badF T.eds (idS set) n = qb at *
        clear HD hxb
        go_wp2_with fail
        refine D1.out.mono ?_
        rintro r w9 ⟨⟨q, rfl, g1, g2, g3⟩, hu9⟩
        have HU9 := Lib.hid (HU.out.trans hu9)
        have HG := Lib.hid g3
        clear D1 hu9 z0 z1 z2 z3 p1 g3
        by_cases hq : 0 ≤ q
        · have HX := Lib.hid (HYES.out (by rw [← HG.out]; exact decide_eq_true hq))
          clear HYES HNX HG
          go_wp2_with fail
          go_ret3
          exact ⟨⟨n, q, 0, rfl, ⟨fun _ => by rw [HX.out]; rfl, fun h => absurd rfl h⟩⟩, HUA.out.trans HU9.out⟩
        · have HX := Lib.hid (HNX.out (by rw [← HG.out]; exact decide_eq_false hq))
          have hq2 : q < 0 := by omega
          clear HYES HNX HG
          go_wp2_with fail
          go_roundw
          case rel => exact ⟨i + 1, by omega, by go_num, HU9, HX⟩
          case measure => simp [intOf]; omega
      · obtain rfl : i = set.length := by omega
        have HX := Lib.hid (show confF T.eds (idS set) = true by
          rw [HCO2.out, take_any set (fun k => badF T.eds (idS set) k.toNat) (fun j hj => HD.out j hj hj)]; rfl)
        clear HD
        go_wp2_with fail
        go_ret3
        exact ⟨⟨0, 0, 3, rfl, ⟨fun _ => by rw [HX.out]; rfl, fun h => absurd rfl h⟩⟩, HUA.out.trans HU.out⟩
  · have HZ9 := Lib.hid (show Z = 1 ∨ Z = 2 by rcases HC3.out with h | h | h; exact absurd h hz; exact Or.inl h; exact Or.inr h)
    have hz2 : (Z == 0) = false := by simpa using hz
    clear HS HCO HBD HC3
    go_wp2_with fail
    go_ret3
    exact ⟨⟨0, 0, Z, rfl, ⟨fun h => absurd h hz, fun _ => by rcases HZ9.out with h | h <;> rw [h] <;> rfl⟩⟩, HUA.out.trans HU1.out⟩

set_option maxRecDepth 20000 in
set_option maxHeartbeats 4000000 in
theorem isConfI (T : Sys) (set : List Int) (v1 v2 vs : Value) (w : World) (f1 f2 fs : List Nat) (h1 : RS f1 w [v1] T.labs) (h2 : R_E1 f2 w [v2] T.eds) (hs : R1 fs w [vs] set) (hp : ∀ p ∈ T.labs, p.length ≤ 2000000) (he : Env w) :
    Calls Tryz.prog 53 #[.agg #[ei T.st, ei T.ini, v1, v2], vs] w fun e w' => (∃ c : Int, e = .returned (.bool (c == 3)) ∧ FltP (setCode T set) (confF T.eds (idS set)) c) ∧ Upd [] w w' := by
  have HV := Lib.hid (fun W (hu : Upd [] w W) => faultI T set v1 v2 vs W f1 f2 fs (RSk.upd h1 hu (by simp)) (R_E1k.upd h2 hu (by simp)) (R1k.upd hs hu (by simp)) hp (he.upd hu))
  obtain ⟨la, ca, rfl, -, -, -⟩ := slF1_open h1
  obtain ⟨a, cap, rfl, -, -, -⟩ := slF3_open h2
  obtain ⟨sa, sc, rfl, -, -, -⟩ := slF1_open hs
  obtain ⟨BX, hBX⟩ : ∃ B, B = w.heap.size := ⟨_, rfl⟩
  obtain ⟨wA, hwA⟩ : ∃ wA, wA = w.alloc (.cells #[ei T.st, ei T.ini, .slice la T.labs.length ca, .slice a T.eds.length cap] 30) := ⟨_, rfl⟩
  have uA : Upd [] w wA := by rw [hwA]; exact (Upd.refl _ _).alloc _
  have qA : RowAt wA BX 30 [ei T.st, ei T.ini, .slice la T.labs.length ca, .slice a T.eds.length cap] := by rw [hwA, hBX]; exact RowAt.new _ _ _
  have HZ := Lib.hid (fun W (hu : Upd [] wA W) => have q := qA.upd hu (by simp); show W.cell? ⟨BX, 0, none⟩ = some (ei T.st) ∧ W.cell? ⟨BX, 1, none⟩ = some (ei T.ini) ∧ W.cell? ⟨BX, 2, none⟩ = some (.slice la T.labs.length ca) ∧ W.cell? ⟨BX, 3, none⟩ = some (.slice a T.eds.length cap) from ⟨q.cell 0 _ rfl, q.cell 1 _ rfl, q.cell 2 _ rfl, q.cell 3 _ rfl⟩)
  obtain ⟨z0, z1, z2, z3⟩ := HZ.out wA (Upd.refl _ _)
  have HUA := Lib.hid uA
  clear uA qA h1 h2 hs hp he
  go_enter Tryz.func53, Tryz.ntmps53
  go_upto_region 1 with (fail)
  rw [← hwA, ← hBX]
  clear hwA hBX
  have V1 := Lib.hid (HV.out wA HUA.out)
  clear HV
  go_wp2_with fail
  refine V1.out.mono ?_
  rintro r w1 ⟨⟨p, q, c, rfl, g1⟩, hu1⟩
  have HG := Lib.hid g1
  have HU1 := Lib.hid hu1
  clear V1 hu1 z0 z1 z2 z3 g1
  go_wp2_with fail
  go_ret
  exact ⟨⟨c, rfl, HG.out⟩, HUA.out.trans HU1.out⟩

theorem cfCode_bad {T : Sys} {set : List Int} (h : setCode T set ≠ 0) : cfCode T set = setCode T set := by
  unfold cfCode
  unfold setCode at h ⊢
  split
  · rename_i h1
    rw [if_pos h1] at h
    split
    · rename_i h2; rw [if_pos h2] at h; exact absurd rfl h
    · rfl
  · rfl
theorem cfCode_good {T : Sys} {set : List Int} (h : setCode T set = 0) : cfCode T set = if confF T.eds (idS set) = true then 0 else 6 := by
  have := setCode_ok h
  unfold cfCode
  rw [if_pos this.1, if_pos this.2]
theorem cfCode_ok {T : Sys} {set : List Int} (h : cfCode T set = 0) : sysOk T = true ∧ setOkF T.eds set = true := by
  by_cases hz : setCode T set = 0
  · exact setCode_ok hz
  · rw [cfCode_bad hz] at h; exact absurd h hz

set_option maxRecDepth 20000 in
set_option maxHeartbeats 4000000 in
theorem cfCodeI (T : Sys) (set : List Int) (v1 v2 vs : Value) (w : World) (f1 f2 fs : List Nat) (h1 : RS f1 w [v1] T.labs) (h2 : R_E1 f2 w [v2] T.eds) (hs : R1 fs w [vs] set) (hp : ∀ p ∈ T.labs, p.length ≤ 2000000) (he : Env w) :
    Calls Tryz.prog 27 #[.agg #[ei T.st, ei T.ini, v1, v2], vs] w fun e w' => e = .returned (.int .i64 (cfCode T set)) ∧ Upd [] w w' := by
  have HV := Lib.hid (fun W (hu : Upd [] w W) => setCodeI T set v1 v2 vs W f1 f2 fs (RSk.upd h1 hu (by simp)) (R_E1k.upd h2 hu (by simp)) (R1k.upd hs hu (by simp)) hp (he.upd hu))
  have HS := Lib.hid (fun W (hu : Upd [] w W) => isConfI T set v1 v2 vs W f1 f2 fs (RSk.upd h1 hu (by simp)) (R_E1k.upd h2 hu (by simp)) (R1k.upd hs hu (by simp)) hp (he.upd hu))
  have HB := Lib.hid (@cfCode_bad T set)
  have HG := Lib.hid (@cfCode_good T set)
  generalize cfCode T set = Y at *
  generalize setCode T set = Z at *
  obtain ⟨la, ca, rfl, -, -, -⟩ := slF1_open h1
  obtain ⟨a, cap, rfl, -, -, -⟩ := slF3_open h2
  obtain ⟨sa, sc, rfl, -, -, -⟩ := slF1_open hs
  obtain ⟨BX, hBX⟩ : ∃ B, B = w.heap.size := ⟨_, rfl⟩
  obtain ⟨wA, hwA⟩ : ∃ wA, wA = w.alloc (.cells #[ei T.st, ei T.ini, .slice la T.labs.length ca, .slice a T.eds.length cap] 30) := ⟨_, rfl⟩
  have uA : Upd [] w wA := by rw [hwA]; exact (Upd.refl _ _).alloc _
  have qA : RowAt wA BX 30 [ei T.st, ei T.ini, .slice la T.labs.length ca, .slice a T.eds.length cap] := by rw [hwA, hBX]; exact RowAt.new _ _ _
  have HZ := Lib.hid (fun W (hu : Upd [] wA W) => have q := qA.upd hu (by simp); show W.cell? ⟨BX, 0, none⟩ = some (ei T.st) ∧ W.cell? ⟨BX, 1, none⟩ = some (ei T.ini) ∧ W.cell? ⟨BX, 2, none⟩ = some (.slice la T.labs.length ca) ∧ W.cell? ⟨BX, 3, none⟩ = some (.slice a T.eds.length cap) from ⟨q.cell 0 _ rfl, q.cell 1 _ rfl, q.cell 2 _ rfl, q.cell 3 _ rfl⟩)
  obtain ⟨z0, z1, z2, z3⟩ := HZ.out wA (Upd.refl _ _)
  have HUA := Lib.hid uA
  clear uA qA h1 h2 hs hp he
  go_enter Tryz.func27, Tryz.ntmps27
  go_upto_region 1 with (fail)
  rw [← hwA, ← hBX]
  clear hwA hBX
  have V1 := Lib.hid (HV.out wA HUA.out)
  clear HV
  go_wp2_with fail
  refine V1.out.mono ?_
  rintro r w1 ⟨rfl, hu1⟩
  have HU1 := Lib.hid hu1
  clear V1 z0 z1 z2 z3
  by_cases hz : Z = 0
  · subst hz
    have S1 := Lib.hid (HS.out w1 (HUA.out.trans hu1))
    obtain ⟨z0, z1, z2, z3⟩ := HZ.out w1 hu1
    have HG2 := Lib.hid (HG.out rfl)
    clear HS HB HG hu1
    go_wp2_with fail
    refine S1.out.mono ?_
    rintro r w2 ⟨⟨c, rfl, hq⟩, hu2⟩
    have HU2 := Lib.hid (HU1.out.trans hu2)
    have HQ := Lib.hid (hq.1 rfl)
    obtain ⟨q, hqq⟩ : ∃ q : Bool, (c == 3) = q := ⟨_, rfl⟩
    rw [hqq] at HQ ⊢
    clear hqq
    clear S1 hu2 hq
    cases q with
    | false =>
      have HX := Lib.hid (show Y = 6 by rw [HG2.out, ← HQ.out]; rfl)
      clear HQ HG2
      go_wp2_with fail
      go_ret
      exact ⟨by rw [HX.out]; rfl, HUA.out.trans HU2.out⟩
    | true =>
      have HX := Lib.hid (show Y = 0 by rw [HG2.out, ← HQ.out]; rfl)
      clear HQ HG2
      go_wp2_with fail
      go_ret
      exact ⟨by rw [HX.out]; rfl, HUA.out.trans HU2.out⟩
  · have HX := Lib.hid (HB.out hz)
    have hz2 : (Z == 0) = false := by simpa using hz
    clear HS HB HG hu1
    go_wp2_with fail
    go_ret
    exact ⟨by rw [HX.out]; rfl, HUA.out.trans HU1.out⟩

end Go.Proofs.YtlondofadjcooaaGreatDoor

/-
  slices.Repeat of the truth 'true'; slices.Contains over truths; slices.IndexFunc and ContainsFunc over edges.
-/
namespace Go.Proofs.YtlondofadjcooaaGreatDoor
open Go.RowKit

/-- a row of truths whose first k are true. -/
def mixV (m k : Nat) : List Value := List.replicate k (Value.bool true) ++ List.replicate (m - k) (Value.bool false)
theorem mixV_len (m k : Nat) (h : k ≤ m) : (mixV m k).length = m := by unfold mixV; simp; omega
theorem mixV_get (m k j : Nat) (h : j < k) : (mixV m k)[j]? = some (.bool true) := by
  unfold mixV
  rw [List.getElem?_append_left (by simpa using h), List.getElem?_replicate, if_pos h]
theorem mixV_splice (m k c : Nat) (h : k + c ≤ m) : splice (mixV m k) k (List.replicate c (Value.bool true)) = mixV m (k + c) := by
  unfold splice mixV
  rw [List.length_replicate, List.take_append_of_le_length (by simp), List.take_replicate, List.drop_append, List.drop_replicate, List.drop_replicate, List.length_replicate, Nat.min_self]
  rw [show k - (k + c) = 0 by omega, show k + c - k = c by omega, List.replicate_zero, List.nil_append]
  rw [← List.append_assoc, List.replicate_append_replicate, Nat.sub_sub]
theorem mixV_zero (m : Nat) : List.replicate m (Value.bool false) = mixV m 0 := by unfold mixV; simp
theorem mixV_all (m : Nat) : mixV m m = List.replicate m (Value.bool true) := by unfold mixV; simp

set_option maxRecDepth 20000 in
set_option maxHeartbeats 4000000 in
theorem repeatT (m : Nat) (b1 : Nat) (w : World) (hm1 : 1 ≤ m) (hm : m ≤ 40) (h : w.cell? ⟨b1, 0, none⟩ = some (.bool true)) :
    Calls Tryz.prog 76 #[.slice (some ⟨b1, 0, none⟩) 1 1, .int .i64 m] w fun e w' => (∃ r, e = .returned (.slice (some ⟨r, 0, none⟩) m m) ∧ BlkB r w' (List.replicate m true) ∧ w.heap.size ≤ r) ∧ Upd [] w w' := by
  obtain ⟨i1, ki, kz0, kz1, kz2⟩ := info_parts Tryz.infoB
  have hm2 : i1.bytes * m ≤ 281474976710656 := by rw [kz2]; omega
  have S1 := Lib.hid (fun W => Tryz.bits_Mul 1 m (by omega) (by omega) W)
  rw [Nat.one_mul, Nat.div_eq_of_lt (by omega), Nat.mod_eq_of_lt (by omega)] at S1
  have hmi : ¬ ((m : Int) < 0) := by omega
  have hml : ¬ (9223372036854775807 < (m : Int)) := by omega
  have hw1 : IntKind.u64.wrap (m : Int) = (m : Int) := by rw [IntKind.wrap_u64]; omega
  have hw2 : IntKind.i64.wrap (m : Int) = (m : Int) := by rw [IntKind.wrap_i64]; omega
  go_enter Tryz.func76, Tryz.ntmps76
  go_wp2_with fail
  refine (S1.out _).mono ?_
  rintro e w1 ⟨rfl, rfl⟩
  clear S1
  go_upto_region 7 with (first
    | (at_make; refine wpList_make_full _ rfl _ _ 48 rfl w1.heap.size 4 i1 (.bool false) 1 Tryz.underlying48 ki kz0 kz1 .i64 .i64 _ _ m rfl rfl rfl rfl hm2 (by unfold maxLen; omega) (Nat.le_refl _) ?_; intro w2 hrow hgrow)
    | fail)
  rw [made_one _ rfl] at hrow
  have hbk := BlkB.ofRow hrow
  have hU : Upd [] w1 w2 := (Upd.refl _ _).grown hgrow (by simp)
  have hcp := hU.keep h
  have hsz : (Tryz.prog.info? 4).map (·.size) = some 1 := by kernel_rfl
  obtain ⟨r, hr⟩ : ∃ r, r = w1.heap.size := ⟨_, rfl⟩
  have hrB := Lib.hid (show w1.heap.size ≤ r by omega)
  rw [← hr] at hbk ⊢
  have HB := Lib.hid hbk
  have HBL := Lib.hid hU.below
  have HSP := Lib.hid (fun k c (h : k + c ≤ m) => mixV_splice m k c h)
  have hg2 : w2.heap[r]? = some (.cells (mixV m 0).toArray 4 (0, 0)) := by
    have := HB.out
    unfold BlkB at this
    rw [this, List.map_replicate, mixV_zero]
  have hml0 := mixV_len m 0 (by omega)
  clear hrow hgrow hbk hU hr h
  go_wp2_with (first
    | (refine wpList_copy_splice rfl _ _ 48 48 rfl 4 Tryz.underlying48 hsz _ _ m m 1 1 rfl rfl r 0 (mixV m 0) 4 hg2 [.bool true] (show 1 = min 1 m by omega) (fun _ => ⟨rfl, _, rfl, fun j v hj => by
        cases j with
        | zero => simp at hj; subst hj; exact hcp
        | succ j => simp at hj⟩) (by rw [hml0]; simp; omega) (by simp [Value.oneCell']) w1.heap.size w1 HBL.out hrB.out ?_; intro w3 hg3 hb3)
    | fail)
  have HB3 := Lib.hid (show w3.heap[r]? = some (.cells (mixV m 1).toArray 4 (0, 0)) by
    have h1 := hg3.out
    have h2 := HSP.out 0 1 (by omega)
    simp only [List.replicate_one] at h2
    rw [h2] at h1
    exact h1)
  have HU3 := Lib.hid hb3
  clear hg3 hb3 hg2 hcp HB HBL hml0
  go_wp2_with fail
  go_loopw [8] (fun kv wr => ∃ k : Nat, 1 ≤ k ∧ k ≤ m ∧ kv = .int .i64 k ∧ Hid (wr.heap[r]? = some (.cells (mixV m k).toArray 4 (0, 0))) ∧ Hid (Below w1.heap.size w1 wr)) (fun kv _ => m - (intOf kv).toNat)
  case atStart => exact ⟨1, Nat.le_refl _, hm1, rfl, HB3, HU3⟩
  case round =>
    clear HB3 HU3
    obtain ⟨wo, rfl⟩ : ∃ wo : World, wo = wr := ⟨_, rfl⟩
    obtain ⟨k, hk1, hk2, rfl, HB, HU⟩ := hrel
    by_cases hlt : k < m
    · have hki : (k : Int) < (m : Int) := by omega
      have hk0 : (0 : Int) ≤ (k : Int) := by omega
      have hkm : (k : Int) ≤ (m : Int) := by omega
      obtain ⟨c, hc⟩ : ∃ c, c = min k (m - k) := ⟨_, rfl⟩
      have hne : ¬ (m = k) := by omega
      have hck : c ≤ k := by omega
      have HSRC := Lib.hid (show ∀ j v, (List.replicate c (Value.bool true))[j]? = some v → wo.drew.cell? (Addr.add ⟨r, 0, none⟩ j) = some v by
        intro j v hj
        rw [List.getElem?_replicate] at hj
        split at hj
        · cases hj
          rename_i hjc
          have hl : j < k := by omega
          have hg := mixV_get m k j hl
          show wo.cell? (Addr.add ⟨r, 0, none⟩ j) = _
          rw [addr_add, Nat.zero_add]
          simp only [World.cell?, HB.out]
          simpa using hg
        · cases hj)
      have HBW := Lib.hid (show Below w1.heap.size w1 wo.drew from ⟨HU.out.os, HU.out.tape, HU.out.output, HU.out.size, HU.out.block⟩)
      have HGW := Lib.hid (show wo.drew.heap[r]? = some (.cells (mixV m k).toArray 4 (0, 0)) from HB.out)
      have HML := Lib.hid (mixV_len m k hk2)
      have HC := Lib.hid hc
      have hc1 : c ≤ m - k := by omega
      have hc2 : k + c ≤ m := by omega
      have hc3 : 1 ≤ c := by omega
      clear hc
      go_wp2_with fail
      go_region_law ((refine step_copy_splice rfl (.tmp 41) (.tmp 44) 48 48 rfl 4 Tryz.underlying48 hsz (some ⟨r, k, none⟩) (some ⟨r, 0, none⟩) (m - k) (m - k) k m (by go_simp) (by go_simp) r k (mixV m k) 4 HGW.out (List.replicate c (Value.bool true)) (by rw [List.length_replicate]; exact HC.out) (fun _ => ⟨rfl, _, rfl, HSRC.out⟩) (by rw [HML.out]; simp; omega) (by simp [Value.oneCell']) w1.heap.size w1 HBW.out hrB.out ?_; intro w4 hg4 hb4))
      all_goals
        have HB4 := Lib.hid (show w4.heap[r]? = some (.cells (mixV m (k + c)).toArray 4 (0, 0)) by
          have h1 := hg4.out
          rw [HSP.out k c hc2] at h1
          exact h1)
        have HU4 := Lib.hid hb4
        clear hg4 hb4 HSRC HBW HGW HC HB HU
        have hkc : IntKind.i64.wrap ((k : Int) + (c : Int)) = ((k + c : Nat) : Int) := by rw [IntKind.wrap_i64]; omega
        rw [hkc]
        go_simp
        go_roundw
        case rel => exact ⟨_, _, _, _, _, _, _, _, _, _, _, _, _, _, ⟨k + c, by omega, by omega, rfl, HB4, HU4⟩, rfl⟩
        case measure => simp [intOf]; omega
    · obtain rfl : k = m := by omega
      have hkk : ¬ ((k : Int) < (k : Int)) := by omega
      go_wp2_with fail
      go_ret
      exact ⟨⟨r, rfl, by have := HB.out; rw [mixV_all] at this; unfold BlkB; rw [this, List.map_replicate], hrB.out⟩, Upd.ofBelow HU.out⟩


def IdxEd (P : Ed → Bool) (xs : List Ed) (w : World) (e : Ending) (w' : World) : Prop := (∃ q : Int, e = .returned (.int .i64 q) ∧ -1 ≤ q ∧ q ≤ 9223372036854775807 ∧ decide (0 ≤ q) = xs.any P) ∧ Upd [] w w'

set_option maxRecDepth 20000 in
set_option maxHeartbeats 1000000 in
theorem indexFuncEd (P : Ed → Bool) (fn : FuncId) (caps : Array Value) (v : Value) (xs : List Ed) (w : World) (fp : List Nat) (hR : R_E1 fp w [v] xs)
    (hent : ∀ args w, Sem.run Tryz.prog (callFunc fn args) w = .ok (.enter fn args) w)
    (hby : ∀ wr x, x ∈ xs → Upd [] w wr → Calls Tryz.prog fn (#[.agg #[ei x.fr, ei x.lb, ei x.to]] ++ caps) wr fun e w' => e = .returned (.bool (P x)) ∧ Upd [] wr w') :
    Calls Tryz.prog 95 #[v, .func (.func fn) #[] caps] w (IdxEd P xs w) := by
  obtain ⟨a1, c1, rfl, hl1, hm1, hc1⟩ := slF3_open hR
  unfold maxLen at hm1
  have HBY := Lib.hid hby
  clear hR hby
  go_enter Tryz.func95, Tryz.ntmps95
  go_wp2_with fail
  go_loopw [8] (fun i wr => ∃ k : Nat, k ≤ xs.length ∧ i = .int .i64 k ∧ Upd [] w wr ∧ (xs.drop k).any P = xs.any P) (fun i _ => xs.length - (intOf i).toNat)
  case atStart => exact ⟨0, Nat.zero_le _, rfl, Upd.refl _ _, rfl⟩
  case round =>
    obtain ⟨k, hk, rfl, hU, hF⟩ := hrel
    by_cases hlt : k < xs.length
    · obtain ⟨b1, o1, rfl, -, -, p1, p2, p3⟩ := hc1 k hlt
      have p1 := hU.keep p1
      have p2 := hU.keep p2
      have p3 := hU.keep p3
      rw [List.drop_eq_getElem_cons hlt, List.any_cons] at hF
      have HF := Lib.hid hF
      have HU := Lib.hid hU
      have S1 := Lib.hid (HBY.out wr xs[k] (List.getElem_mem hlt) hU)
      generalize xs[k] = x at *
      generalize P x = bb at *
      obtain ⟨x1, x2, x3⟩ := x
      simp only at p1 p2 p3
      clear hF hc1 hU
      go_wp2_with fail
      refine S1.out.mono ?_
      rintro e w1 ⟨rfl, hu1⟩
      have HU1 := Lib.hid (HU.out.trans hu1)
      clear S1 hu1
      cases bb
      · go_wp2_with fail
        go_roundw
        case rel => exact ⟨k + 1, by omega, by go_num, HU1.out, by rw [← HF.out]; rfl⟩
        case measure => simp [intOf]; omega
      · go_wp2_with fail
        go_ret
        exact ⟨⟨k, rfl, by omega, by omega, by rw [← HF.out]; simp⟩, HU1.out⟩
    · rw [List.drop_of_length_le (by omega)] at hF
      have HF := Lib.hid hF
      clear hF hc1
      go_wp2_with fail
      go_ret
      exact ⟨⟨-1, rfl, by omega, by omega, by rw [← HF.out]; rfl⟩, hU⟩

set_option maxRecDepth 20000 in
theorem containsFuncEd (P : Ed → Bool) (fn : FuncId) (caps : Array Value) (v : Value) (xs : List Ed) (w : World) (fp : List Nat) (hR : R_E1 fp w [v] xs)
    (hent : ∀ args w, Sem.run Tryz.prog (callFunc fn args) w = .ok (.enter fn args) w)
    (hby : ∀ wr x, x ∈ xs → Upd [] w wr → Calls Tryz.prog fn (#[.agg #[ei x.fr, ei x.lb, ei x.to]] ++ caps) wr fun e w' => e = .returned (.bool (P x)) ∧ Upd [] wr w') :
    Calls Tryz.prog 77 #[v, .func (.func fn) #[] caps] w fun e w' => e = .returned (.bool (xs.any P)) ∧ Upd [] w w' := by
  have S2 := Lib.hid (indexFuncEd P fn caps v xs w fp hR hent hby)
  clear hby hent hR
  go_enter Tryz.func77, Tryz.ntmps77
  go_wp2_with fail
  refine S2.out.mono ?_
  rintro e w1 ⟨⟨q, rfl, h1, h2, h3⟩, hu⟩
  have H3 := Lib.hid (And.intro h3 hu)
  clear h3 hu
  go_wp2_with fail
  go_ret
  exact ⟨by rw [← H3.out.1]; rfl, H3.out.2⟩


set_option maxRecDepth 20000 in
set_option maxHeartbeats 1000000 in
/-- slices.Contains over truths, asked for 'true'. -/
theorem containsBI (b : Nat) (S : List Bool) (w : World) (h : BlkB b w S) (hm : S.length ≤ 2000000) :
    Calls Tryz.prog 54 #[.slice (some ⟨b, 0, none⟩) S.length S.length, .bool true] w fun e w' => e = .returned (.bool (S.any id)) ∧ Upd [] w w' := by
  have S2 : Calls Tryz.prog 75 #[.slice (some ⟨b, 0, none⟩) S.length S.length, .bool true] w fun e w' => (∃ q : Int, e = .returned (.int .i64 q) ∧ -1 ≤ q ∧ q ≤ 9223372036854775807 ∧ decide (0 ≤ q) = S.any id) ∧ Upd [] w w' := by
    have HB := Lib.hid h
    clear h
    go_enter Tryz.func75, Tryz.ntmps75
    go_wp2_with fail
    go_loopw [8] (fun i wr => ∃ k : Nat, k ≤ S.length ∧ i = .int .i64 k ∧ Hid (Upd [] w wr) ∧ Hid ((S.drop k).any id = S.any id)) (fun i _ => S.length - (intOf i).toNat)
    case atStart => exact ⟨0, Nat.zero_le _, rfl, Lib.hid (Upd.refl _ _), Lib.hid rfl⟩
    case round =>
      obtain ⟨wo, rfl⟩ : ∃ wo : World, wo = wr := ⟨_, rfl⟩
      obtain ⟨k, hk, rfl, HU, HF⟩ := hrel
      by_cases hlt : k < S.length
      · have hil : (k : Int) < (S.length : Int) := by omega
        have p1 := HU.out.keep (HB.out.cell k hlt)
        have HS := Lib.hid (show ((S[k] :: S.drop (k + 1)).any id) = S.any id by rw [← List.drop_eq_getElem_cons hlt]; exact HF.out)
        generalize S[k] = x at *
        clear HF
        cases x
        · have HX := Lib.hid (show (S.drop (k + 1)).any id = S.any id by rw [← HS.out]; rfl)
          clear HS
          go_wp2_with fail
          go_roundw
          case rel => exact ⟨k + 1, by omega, by go_num, HU, HX⟩
          case measure => simp [intOf]; omega
        · have HX := Lib.hid (show S.any id = true by rw [← HS.out]; rfl)
          clear HS
          go_wp2_with fail
          go_ret
          exact ⟨⟨k, rfl, by omega, by omega, by rw [HX.out]; simp⟩, HU.out⟩
      · have HX := Lib.hid (show S.any id = false by rw [← HF.out, List.drop_of_length_le (by omega)]; rfl)
        clear HF
        go_wp2_with fail
        go_ret
        exact ⟨⟨-1, rfl, by omega, by omega, by rw [HX.out]; rfl⟩, HU.out⟩
  have S2 := Lib.hid S2
  clear h
  go_enter Tryz.func54, Tryz.ntmps54
  go_wp2_with fail
  refine S2.out.mono ?_
  rintro e w1 ⟨⟨q, rfl, h1, h2, h3⟩, hu⟩
  have H3 := Lib.hid (And.intro h3 hu)
  clear h3 hu
  go_wp2_with fail
  go_ret
  exact ⟨by rw [← H3.out.1]; rfl, H3.out.2⟩

end Go.Proofs.YtlondofadjcooaaGreatDoor

/-
  Sets of internal edges of a system that agree with all edges: the program's system of the edges of a set.
-/
namespace Go.Proofs.YtlondofadjcooaaGreatDoor
open Go.RowKit

/-- a system under way in block O, its edges in a row of their own. -/
structure OfR (O : Nat) (w0 W : World) (st ini : Int) (v1 ov : Value) (E : List Ed) : Prop where
  upd : Upd [O] w0 W
  sys : SysAt O W st ini v1 ov
  row : W.ownsRow (O + 1) 55 3 ov E.length (E.flatMap edCs)
theorem OfR.quiet {O : Nat} {w0 W W' : World} {st ini : Int} {v1 ov : Value} {E : List Ed} (h : OfR O w0 W st ini v1 ov E) (hu : Upd [] W W') : OfR O w0 W' st ini v1 ov E :=
  ⟨h.upd.trans (hu.mono (by simp)), h.sys.upd hu (by simp), ownsRow_upd h.row hu⟩
theorem OfR.push {O : Nat} {w0 W : World} {st ini : Int} {v1 ov : Value} {E : List Ed} (h : OfR O w0 W st ini v1 ov E) (hO : w0.heap.size = O + 1) {w4 : World} {v4 : Value} {t : Ed}
    (hown : w4.ownsRow (O + 1) 55 3 v4 (E.length + 1) (E.flatMap edCs ++ edCs t)) (hg : W.grownBy w4 ov.ownBlock) :
    w4.cell? ⟨O, 3, none⟩ = some ov ∧ w4.frozen? ⟨O, 3, none⟩ = false ∧ OfR O w0 (w4.setCell ⟨O, 3, none⟩ v4) st ini v1 v4 (E ++ [t]) := by
  obtain ⟨q1, q2, q3, q4, q5⟩ := sys_push (j := 3) h.sys edge_ne_lts h.row hown hg
  obtain ⟨c0, c1, c2, c3, fz⟩ := q1.facts
  refine ⟨c3, fz 3, ⟨?_, q1.set3 v4, by simpa using q2⟩⟩
  exact (h.upd.grown hg (fun b hb => Or.inl (by have := (h.row.lt b hb).1; omega))).setCell (Or.inr (by simp)) _

set_option maxRecDepth 20000 in
set_option maxHeartbeats 4000000 in
theorem ofSetI (T : Sys) (set : List Int) (v1 v2 vs : Value) (w : World) (f1 f2 fs : List Nat) (h1 : RS f1 w [v1] T.labs) (h2 : R_E1 f2 w [v2] T.eds) (hs : R1 fs w [vs] set) (hb : ∀ k ∈ set, 0 ≤ k ∧ k < T.eds.length) (hl : set.length ≤ 300) :
    Calls Tryz.prog 28 #[.agg #[ei T.st, ei T.ini, v1, v2], vs] w fun e w' => (∃ v', e = .returned (.agg #[ei T.st, ei T.ini, v1, v']) ∧ New R_E1 w w' v' (ownE T.eds set)) ∧ Upd [] w w' := by
  obtain ⟨i3, ni, nz0, nz1, nz2⟩ := info_parts Tryz.infoEd
  obtain ⟨la, ca, rfl, -, -, -⟩ := slF1_open h1
  obtain ⟨a, cap, rfl, l1, l2, hc⟩ := slF3_open h2
  obtain ⟨sa, sc, rfl, -, -, hsc⟩ := slF1_open hs
  unfold maxLen at l2
  have HC := Lib.hid hc
  have HSC := Lib.hid hsc
  have HB := Lib.hid hb
  have HTK := Lib.hid (fun (i : Nat) (h : i < set.length) => show ownE T.eds (set.take (i + 1)) = ownE T.eds (set.take i) ++ [edAt T.eds set[i].toNat] by
    unfold ownE; rw [List.take_succ_eq_append_getElem h, List.map_append]; rfl)
  have HLE := Lib.hid (fun i => show (ownE T.eds (set.take i)).length ≤ 300 by unfold ownE; simp; omega)
  obtain ⟨BX, hBX⟩ : ∃ B, B = w.heap.size := ⟨_, rfl⟩
  obtain ⟨wA, hwA⟩ : ∃ wA, wA = ((w.alloc (.cells #[ei T.st, ei T.ini, .slice la T.labs.length ca, .slice a T.eds.length cap] 30)).alloc (.cells #[ei 0, ei 0, .slice none 0 0, .slice none 0 0] 30)).alloc (.cells #[ei T.st, ei T.ini, .slice la T.labs.length ca, .slice none 0 0] 30) := ⟨_, rfl⟩
  have uA : Upd [] w wA := by rw [hwA]; exact (((Upd.refl _ _).alloc _).alloc _).alloc _
  have qA : SysAt BX wA T.st T.ini (.slice la T.labs.length ca) (.slice a T.eds.length cap) := by
    rw [hwA, hBX]; exact SysAt.upd (heap_alloc_new w _) (((Upd.refl [] _).alloc _).alloc _) (by simp)
  have qZ : SysAt (BX + 1) wA 0 0 (.slice none 0 0) (.slice none 0 0) := by
    have h := heap_alloc_new (w.alloc (.cells #[ei T.st, ei T.ini, .slice la T.labs.length ca, .slice a T.eds.length cap] 30)) (.cells #[ei 0, ei 0, .slice none 0 0, .slice none 0 0] 30)
    have h : SysAt (BX + 1) ((w.alloc (.cells #[ei T.st, ei T.ini, .slice la T.labs.length ca, .slice a T.eds.length cap] 30)).alloc (.cells #[ei 0, ei 0, .slice none 0 0, .slice none 0 0] 30)) 0 0 (.slice none 0 0) (.slice none 0 0) := by rw [hBX]; unfold SysAt; simpa using h
    rw [hwA]; exact h.upd ((Upd.refl [] _).alloc _) (by simp)
  have qO : SysAt (BX + 2) wA T.st T.ini (.slice la T.labs.length ca) (.slice none 0 0) := by
    have h := heap_alloc_new ((w.alloc (.cells #[ei T.st, ei T.ini, .slice la T.labs.length ca, .slice a T.eds.length cap] 30)).alloc (.cells #[ei 0, ei 0, .slice none 0 0, .slice none 0 0] 30)) (.cells #[ei T.st, ei T.ini, .slice la T.labs.length ca, .slice none 0 0] 30)
    rw [hwA, hBX]; unfold SysAt; simpa using h
  have hszA : wA.heap.size = BX + 2 + 1 := by rw [hwA, hBX]; simp
  have HO := Lib.hid (show OfR (BX + 2) wA wA T.st T.ini (.slice la T.labs.length ca) (.slice none 0 0) (ownE T.eds (set.take 0)) from ⟨Upd.refl _ _, qO, World.ownsRow_nil _ _ _ _⟩)
  have HQA := Lib.hid (fun W (hu : Upd [BX + 2] wA W) => qA.upd hu (by simp))
  have HQZ := Lib.hid (fun W (hu : Upd [BX + 2] wA W) => qZ.upd hu (by simp))
  have HUA := Lib.hid uA
  have HSZ := Lib.hid hszA
  have HBX := Lib.hid hBX
  have z0 := qA.facts.1
  have z1 := qA.facts.2.1
  have z2 := qA.facts.2.2.1
  have z3 := qA.facts.2.2.2.1
  have HW := Lib.hid (fun W (hu : Upd [BX + 2] wA W) => show Upd [] w W from HUA.out.fresh hu (fun b hb => Or.inl (by simp at hb; omega)))
  clear h1 h2 hs hb hc hsc uA qA qZ qO hszA
  go_enter Tryz.func28, Tryz.ntmps28
  go_upto_region 2 with (fail)
  rw [← hwA, ← hBX]
  clear hwA hBX
  go_wp2_with fail
  go_loopw [17] (fun iv wr => ∃ (i : Nat) (ov : Value), i ≤ set.length ∧ iv = .int .i64 i ∧ Hid (OfR (BX + 2) wA wr T.st T.ini (.slice la T.labs.length ca) ov (ownE T.eds (set.take i)))) (fun iv _ => set.length - (intOf iv).toNat)
  case atStart => exact ⟨0, _, Nat.zero_le _, rfl, HO⟩
  case round =>
    clear HO z0 z1 z2 z3
    obtain ⟨wo, rfl⟩ : ∃ wo : World, wo = wr := ⟨_, rfl⟩
    obtain ⟨i, ov, hi, rfl, HO⟩ := hrel
    obtain ⟨oa, oc, hov⟩ := ownsRow_form HO.out.row
    subst hov
    by_cases hlt : i < set.length
    · obtain ⟨b, o, rfl, -, -, p1⟩ := HSC.out i hlt
      have p1 := (HW.out wo HO.out.upd).keep p1
      have hil : (i : Int) < (set.length : Int) := by omega
      have hxb := HB.out _ (List.getElem_mem hlt)
      have HT := Lib.hid (HTK.out i hlt)
      have hle := HLE.out i
      have HLX := Lib.hid (show (ownE T.eds (set.take i)).length ≤ 300 from hle)
      generalize set[i] = x at *
      obtain ⟨n, rfl⟩ : ∃ n : Nat, x = n := ⟨x.toNat, by omega⟩
      have hnl : n < T.eds.length := by omega
      obtain ⟨b2, o2, rfl, -, -, q1, q2, q3⟩ := HC.out n hnl
      rw [← edAt_get hnl] at q1 q2 q3
      rw [Int.toNat_natCast] at HT
      have q1 := (HW.out wo HO.out.upd).keep q1
      have q2 := (HW.out wo HO.out.upd).keep q2
      have q3 := (HW.out wo HO.out.upd).keep q3
      have hni : (n : Int) < (T.eds.length : Int) := by omega
      obtain ⟨X, hX⟩ : ∃ X, edAt T.eds n = X := ⟨_, rfl⟩
      rw [hX] at q1 q2 q3 HT
      obtain ⟨x1, x2, x3⟩ := X
      simp only at q1 q2 q3
      have y3 := (HQA.out wo HO.out.upd).facts.2.2.2.1
      have d3 := HO.out.sys.facts.2.2.2.1
      obtain ⟨E, hE⟩ : ∃ E, ownE T.eds (set.take i) = E := ⟨_, rfl⟩
      rw [hE] at HO HT hle d3
      obtain ⟨wD, hwD⟩ : ∃ wD, wD = (wo.alloc (.cells #[.int .i64 x1, .int .i64 x2, .int .i64 x3] 55)).drew := ⟨_, rfl⟩
      have uD : Upd [] wo wD := by rw [hwD]; exact ((Upd.refl _ _).alloc _).drew
      have HOD := HO.out.quiet uD
      have hownD := HOD.row
      have hsW := HO.out.upd.size
      have hsz9 := HSZ.out
      have hszD : wD.heap.size = wo.heap.size + 1 := by rw [hwD]; show (wo.alloc _).heap.size = _; simp
      have hc0 : wD.cell? ⟨wo.heap.size, 0, none⟩ = some (.int .i64 x1) := by rw [hwD]; exact cell_new wo _ _ _ rfl 0 _ rfl
      have hc1 : wD.cell? ⟨wo.heap.size, 1, none⟩ = some (.int .i64 x2) := by rw [hwD]; exact cell_new wo _ _ _ rfl 1 _ rfl
      have hc2 : wD.cell? ⟨wo.heap.size, 2, none⟩ = some (.int .i64 x3) := by rw [hwD]; exact cell_new wo _ _ _ rfl 2 _ rfl
      have d3' : (wo.alloc (.cells #[.int .i64 x1, .int .i64 x2, .int .i64 x3] 55)).cell? ⟨BX + 2, 3, none⟩ = some (.slice oa E.length oc) := ((Upd.refl [] wo).alloc _).keep d3
      rw [hwD] at HOD hownD hszD hc0 hc1 hc2
      have hT2 : ownE T.eds (set.take (i + 1)) = E ++ [⟨x1, x2, x3⟩] := HT.out
      have HT2 := Lib.hid hT2
      have HSO := Lib.hid (show wo.heap.size ≥ BX + 2 + 1 by omega)
      clear hT2 hX hE hwD uD HT HB HTK HLE HLX hxb hsz9
      go_upto_region 5 with (fail)
      clear p1
      go_region_law ((refine step_append_lies _ (by rfl) _ _ 28 (by rfl) (BX + 2 + 1) 55 i3 (.agg #[.int .i64 0, .int .i64 0, .int .i64 0]) 3 24 Tryz.underlying28 ni nz0 nz1 nz2 rfl (by decide) (.slice oa E.length oc) E.length (E.flatMap edCs) (by rfl) hownD ⟨wo.heap.size, 0, none⟩ 1 1 [.int .i64 x1, .int .i64 x2, .int .i64 x3] (by rfl) (by rfl) (by intro j u hj; match j, hj with | 0, hj => simp at hj; subst hj; exact hc0 | 1, hj => simp at hj; subst hj; exact hc1 | 2, hj => simp at hj; subst hj; exact hc2) (by simp [Value.oneCell']) (by decide) (by unfold maxLen; omega) (by omega) (by rw [hszD]; have := HSO.out; omega) (wo.heap.size + 1) hszD ?_; intro g gcap w4 hown4 hg4 hat4 hlt4; obtain ⟨f2, hfz, HD4⟩ := HOD.push HSZ.out (t := ⟨x1, x2, x3⟩) hown4 hg4))
      all_goals
        have HD5 := Lib.hid HD4
        clear HOD hownD hszD hc0 hc1 hc2 d3 d3' y3 q1 q2 q3 hown4 hg4 hat4 hlt4 HD4
        go_wp2_with fail
        go_roundw
        case rel => exact ⟨i + 1, _, by omega, by go_num, by rw [HT2.out]; exact HD5⟩
        case measure => simp [intOf]; omega
    · obtain rfl : i = set.length := by omega
      have HX := Lib.hid (show OfR (BX + 2) wA wo T.st T.ini (.slice la T.labs.length ca) (.slice oa (ownE T.eds (set.take set.length)).length oc) (ownE T.eds set) by
        have := HO.out
        rw [List.take_length] at this ⊢
        exact this)
      obtain ⟨E, hE⟩ : ∃ E, (ownE T.eds (set.take set.length)).length = E := ⟨_, rfl⟩
      rw [hE] at HX
      obtain ⟨c0, c1, c2, c3, -⟩ := HX.out.sys.facts
      obtain ⟨o0, o1, o2, o3, fz⟩ := (HQZ.out wo HX.out.upd).facts
      have fz0 := fz 0
      have fz1 := fz 1
      have fz2 := fz 2
      have fz3 := fz 3
      obtain ⟨r0, r1, r2, r3, -⟩ := ((HQZ.out wo HX.out.upd).store T.st T.ini (.slice la T.labs.length ca) (.slice oa E oc)).facts
      have HFIN := Lib.hid (show New R_E1 w ((((wo.setCell ⟨BX + 1, 0, none⟩ (ei T.st)).setCell ⟨BX + 1, 1, none⟩ (ei T.ini)).setCell ⟨BX + 1, 2, none⟩ (.slice la T.labs.length ca)).setCell ⟨BX + 1, 3, none⟩ (.slice oa E oc)) (.slice oa E oc) (ownE T.eds set) ∧ Upd [] w ((((wo.setCell ⟨BX + 1, 0, none⟩ (ei T.st)).setCell ⟨BX + 1, 1, none⟩ (ei T.ini)).setCell ⟨BX + 1, 2, none⟩ (.slice la T.labs.length ca)).setCell ⟨BX + 1, 3, none⟩ (.slice oa E oc)) by
        have h0 := HBX.out
        have hs := HX.out.upd.size
        have hs2 := HSZ.out
        refine ⟨?_, (((HW.out wo HX.out.upd).setCell (Or.inl (by simp; omega)) _).setCell (Or.inl (by simp; omega)) _).setCell (Or.inl (by simp; omega)) _ |>.setCell (Or.inl (by simp; omega)) _⟩
        refine New.ofOwns3 (e := 55) (ownsRow_base (ownsRow_keep HX.out.row (fun g hg => ?_)) (by omega))
        have := (HX.out.row.lt g hg).1
        rw [heap_setCell_other _ _ _ _ (by simp; omega), heap_setCell_other _ _ _ _ (by simp; omega), heap_setCell_other _ _ _ _ (by simp; omega), heap_setCell_other _ _ _ _ (by simp; omega)])
      clear HO HX fz HB HTK HLE
      clear hE
      go_wp2_with fail
      refine bodyPost_ret (v := .agg #[ei T.st, ei T.ini, .slice la T.labs.length ca, .slice oa E oc]) (by simp [results, Tryz.results28, go_sem, r0, r1, r2, r3]) rfl ⟨⟨_, rfl, HFIN.out.1⟩, HFIN.out.2⟩

end Go.Proofs.YtlondofadjcooaaGreatDoor

/-
  Sets of internal edges of a system that agree with all edges: the program's copies and filters of systems.
-/
namespace Go.Proofs.YtlondofadjcooaaGreatDoor
open Go.RowKit

theorem Flat.ofRS {fp : List Nat} {w : World} {v : Value} {xs : List (List UInt8)} (h : RS fp w [v] xs) : Flat fp w v 1 xs.length (xs.map es) := by
  obtain ⟨v', hv, hF⟩ := h
  cases hv
  rw [flatMap_single] at hF; exact hF
theorem one_RS (xs : List (List UInt8)) : ∀ u ∈ xs.map es, u.oneCell' = true := by
  intro u hu
  obtain ⟨t, -, rfl⟩ := List.mem_map.1 hu
  rfl

set_option maxRecDepth 20000 in
set_option maxHeartbeats 1000000 in
theorem cloneRSI (v : Value) (xs : List (List UInt8)) (w : World) (fp : List Nat) (hl : xs.length ≤ 1000000) (hR : RS fp w [v] xs) :
    Calls Tryz.prog 56 #[v] w fun r w' => (∃ v', r = .returned v' ∧ New RS w w' v' xs) ∧ Upd [] w w' := by
  obtain ⟨i0, hi, hz0, hz1, hz2⟩ := info_parts Tryz.info9
  have hown : (w.alloc (.cells #[] 9)).ownsRow w.heap.size 9 1 (.slice (some ⟨w.heap.size, 0, none⟩) 0 0) 0 [] := by
    simpa using World.ownsRow_lit (base := w.heap.size) (e := 9) (size := 1) w #[] 0 (Nat.le_refl _) (by simp [maxLen]) (by simp)
  have HF := Lib.hid (Flat.ofRS (RSk.upd hR ((Upd.refl [] w).alloc (.cells #[] 9)) (by simp)))
  obtain ⟨a, cap, rfl, hcl, hcm, hce⟩ := slF1_open hR
  clear hR
  have hq := fun (w : World) (a : Option Addr) (n c : Nat) => Lib.run_eql_slice_nil (P := Tryz.prog) w 22 9 a n c 0 0 Tryz.underlying22
  cases a with
  | none =>
    have hx : xs = [] := by
      cases xs with
      | nil => rfl
      | cons y ys => obtain ⟨b, off, h, -⟩ := hce 0 (by simp); cases h
    subst hx
    have HN := Lib.hid (show New RS w w (.slice none 0 0) [] from New.nilF _ _ _ _)
    clear HF hown hce
    go_enter Tryz.func56, Tryz.ntmps56
    go_wp2_with fail
    go_ret
    exact ⟨⟨_, rfl, HN.out⟩, Upd.refl _ _⟩
  | some ad =>
    clear hce
    go_enter Tryz.func56, Tryz.ntmps56
    go_wp2_with (first
      | (at_builtin; refine wpList_append_flat rfl _ _ 22 rfl w.heap.size 9 i0 (es []) 1 16 Tryz.underlying22 hi hz0 hz1 hz2 rfl (by decide) _ _ _ rfl hown _ xs.length _ rfl _ HF.out (one_RS xs) (by unfold maxLen; omega) (by omega) (by simp) ?_)
      | fail)
    intro v2 w2 hown2 hg2 ht2
    have hU : Upd [] w w2 := ((Upd.refl [] w).alloc _).grown hg2 (fun k hk => Or.inl (hown.lt k hk).1)
    have hn : New RS w w2 v2 xs := New.ofOwns (e := 9) (by simpa using hown2)
    have HE := Lib.hid (And.intro hn hU)
    clear hown2 hg2 ht2 hown hn hU
    go_wp2_with fail
    go_ret
    exact ⟨⟨_, rfl, HE.out.1⟩, HE.out.2⟩

theorem Flat.ofE1 {fp : List Nat} {w : World} {v : Value} {xs : List Ed} (h : R_E1 fp w [v] xs) : Flat fp w v 3 xs.length (xs.flatMap fun t => [ei t.fr, ei t.lb, ei t.to]) := by
  obtain ⟨v', hv, hF⟩ := h
  cases hv
  exact hF
theorem one_E1 (xs : List Ed) : ∀ u ∈ xs.flatMap (fun t => [ei t.fr, ei t.lb, ei t.to]), u.oneCell' = true := by
  intro u hu
  obtain ⟨t, -, h⟩ := List.mem_flatMap.1 hu
  simp at h
  rcases h with rfl | rfl | rfl <;> rfl

set_option maxRecDepth 20000 in
set_option maxHeartbeats 1000000 in
theorem cloneEI (v : Value) (xs : List Ed) (w : World) (fp : List Nat) (hl : xs.length ≤ 1000000) (hR : R_E1 fp w [v] xs) :
    Calls Tryz.prog 57 #[v] w fun r w' => (∃ v', r = .returned v' ∧ New R_E1 w w' v' xs) ∧ Upd [] w w' := by
  obtain ⟨i0, hi, hz0, hz1, hz2⟩ := info_parts Tryz.infoEd
  have hown : (w.alloc (.cells #[] 55)).ownsRow w.heap.size 55 3 (.slice (some ⟨w.heap.size, 0, none⟩) 0 0) 0 [] := by
    simpa using World.ownsRow_lit (base := w.heap.size) (e := 55) (size := 3) w #[] 0 (Nat.le_refl _) (by simp [maxLen]) (by simp)
  have HF := Lib.hid (Flat.ofE1 (R_E1k.upd hR ((Upd.refl [] w).alloc (.cells #[] 55)) (by simp)))
  obtain ⟨a, cap, rfl, hcl, hcm, hce⟩ := slF3_open hR
  clear hR
  cases a with
  | none =>
    have hx : xs = [] := by
      cases xs with
      | nil => rfl
      | cons y ys => obtain ⟨b, off, h, -⟩ := hce 0 (by simp); cases h
    subst hx
    have HN := Lib.hid (show New R_E1 w w (.slice none 0 0) [] from ⟨[], ⟨_, rfl, none, 0, rfl, Nat.le_refl _, by simp [maxLen], by simp, Or.inl ⟨rfl, rfl⟩⟩, Own.nil _, by simp⟩)
    clear HF hown hce
    have hq := fun (w : World) (a : Option Addr) (n c : Nat) => Lib.run_eql_slice_nil (P := Tryz.prog) w 28 55 a n c 0 0 Tryz.underlying28
    go_enter Tryz.func57, Tryz.ntmps57
    go_wp2_with fail
    go_ret
    exact ⟨⟨_, rfl, HN.out⟩, Upd.refl _ _⟩
  | some ad =>
    clear hce
    have hq := fun (w : World) (a : Option Addr) (n c : Nat) => Lib.run_eql_slice_nil (P := Tryz.prog) w 28 55 a n c 0 0 Tryz.underlying28
    go_enter Tryz.func57, Tryz.ntmps57
    go_wp2_with (first
      | (at_builtin; refine wpList_append_flat rfl _ _ 28 rfl w.heap.size 55 i0 (.agg #[.int .i64 0, .int .i64 0, .int .i64 0]) 3 24 Tryz.underlying28 hi hz0 hz1 hz2 rfl (by decide) _ _ _ rfl hown _ xs.length _ rfl _ HF.out (one_E1 xs) (by unfold maxLen; omega) (by omega) (by simp) ?_)
      | fail)
    intro v2 w2 hown2 hg2 ht2
    have hU : Upd [] w w2 := ((Upd.refl [] w).alloc _).grown hg2 (fun k hk => Or.inl (hown.lt k hk).1)
    have hn : New R_E1 w w2 v2 xs := New.ofOwns3 (e := 55) (by simpa using hown2)
    have HE := Lib.hid (And.intro hn hU)
    clear hown2 hg2 ht2 hown hn hU
    go_wp2_with fail
    go_ret
    exact ⟨⟨_, rfl, HE.out.1⟩, HE.out.2⟩


theorem edFields : (Tryz.prog.fieldsOf 55).toList.map (fun f => (f.name, f.type, f.offset)) = [("From", 2, 0), ("Label", 2, 1), ("To", 2, 2)] := by kernel_rfl
theorem edStood : Tryz.prog.stoodInHeld 55 = false := by kernel_rfl
theorem edUnder : Tryz.prog.underlying 55 = some (.struct (Tryz.prog.fieldsOf 55)) := by kernel_rfl
theorem eqFieldsE {P : Program} (w : World) (d : Nat) (xs ys : Array Value) (n : String) (T : TypeId) (o : Nat) (f : Field) (fs : List Field) (hf : (f.name, f.type, f.offset) = (n, T, o)) (hn : n ≠ "_") (a b : Value) (r : Bool)
    (h1 : (part T xs o).run P w = .ok a w) (h2 : (part T ys o).run P w = .ok b w) (h3 : (Op.equalIn d T a b).run P w = .ok r w) :
    (Op.eqFields d xs ys (f :: fs)).run P w = if r then (Op.eqFields d xs ys fs).run P w else .ok false w := by
  simp only [Prod.mk.injEq] at hf
  obtain ⟨rfl, rfl, rfl⟩ := hf
  simp only [Op.eqFields, Sem.run_bind, hn, ne_eq, not_false_eq_true, if_true, h1, h2, h3, Result.andThen_ok]
  cases r <;> simp
theorem eqlE (x1 x2 x3 y1 y2 y3 : Int) (w : World) :
    (binOp .eql 55 (.agg #[ei x1, ei x2, ei x3]) (.agg #[ei y1, ei y2, ei y3])).run Tryz.prog w = .ok (.bool (decide ((⟨x1, x2, x3⟩ : Ed) = ⟨y1, y2, y3⟩))) w := by
  rw [run_eql_struct, run_equalIn_agg w 9999 _ _ _ edUnder edStood]
  obtain ⟨f1, f2, f3, hf⟩ : ∃ f1 f2 f3, (Tryz.prog.fieldsOf 55).toList = [f1, f2, f3] := by
    have := congrArg List.length edFields
    match h : (Tryz.prog.fieldsOf 55).toList with
    | [f1, f2, f3] => exact ⟨f1, f2, f3, rfl⟩
    | [] => rw [h] at this; simp at this
    | [_] => rw [h] at this; simp at this
    | [_, _] => rw [h] at this; simp at this
    | _ :: _ :: _ :: _ :: _ => rw [h] at this; simp at this
  have hff := edFields
  rw [hf] at hff ⊢
  simp only [List.map_cons, List.map_nil, List.cons.injEq, and_true] at hff
  obtain ⟨g1, g2, g3⟩ := hff
  rw [eqFieldsE w 9999 _ _ _ _ _ f1 _ g1 (by decide) (ei x1) (ei y1) (x1 == y1) (by go_simp) (by go_simp) (run_equalIn_int w 9998 _ _ .i64 _ _ Tryz.underlying2),
    eqFieldsE w 9999 _ _ _ _ _ f2 _ g2 (by decide) (ei x2) (ei y2) (x2 == y2) (by go_simp) (by go_simp) (run_equalIn_int w 9998 _ _ .i64 _ _ Tryz.underlying2),
    eqFieldsE w 9999 _ _ _ _ _ f3 _ g3 (by decide) (ei x3) (ei y3) (x3 == y3) (by go_simp) (by go_simp) (run_equalIn_int w 9998 _ _ .i64 _ _ Tryz.underlying2)]
  have key : decide ((⟨x1, x2, x3⟩ : Ed) = ⟨y1, y2, y3⟩) = (x1 == y1 && (x2 == y2 && x3 == y3)) := by
    rw [Bool.eq_iff_iff]
    simp only [decide_eq_true_eq, beq_iff_eq, Bool.and_eq_true, Ed.mk.injEq]
  rw [key]
  cases h1 : (x1 == y1)
  · simp [Result.andThen]
  cases h2 : (x2 == y2)
  · simp [Result.andThen]
  cases h3 : (x3 == y3)
  · simp [Result.andThen]
  simp [Result.andThen, Op.eqFields]

end Go.Proofs.YtlondofadjcooaaGreatDoor

/-
  Sets of internal edges of a system that agree with all edges: the program's filter of edges, its copy of a system.
-/
namespace Go.Proofs.YtlondofadjcooaaGreatDoor
open Go.RowKit

/-- the edges whose indexes below k are kept. -/
def fltTo (es : List Ed) (K : Nat → Bool) (k : Nat) : List Ed := ((List.range k).filter K).map (edAt es)
theorem fltTo_succ (es : List Ed) (K : Nat → Bool) (k : Nat) : fltTo es K (k + 1) = fltTo es K k ++ (if K k then [edAt es k] else []) := by
  unfold fltTo
  rw [List.range_succ, List.filter_append, List.map_append]
  congr 1
  by_cases h : K k = true <;> simp [h]
theorem fltTo_length (es : List Ed) (K : Nat → Bool) (k : Nat) : (fltTo es K k).length ≤ k := by
  unfold fltTo
  rw [List.length_map]
  exact Nat.le_trans (List.length_filter_le _ _) (by simp)

set_option maxRecDepth 20000 in
set_option maxHeartbeats 4000000 in
theorem onlyI (K : Nat → Bool) (fn : FuncId) (caps : Array Value) (T : Sys) (v1 v2 : Value) (w : World) (f1 f2 : List Nat) (h1 : RS f1 w [v1] T.labs) (h2 : R_E1 f2 w [v2] T.eds) (hm : T.eds.length ≤ 300)
    (hent : ∀ args w, Sem.run Tryz.prog (callFunc fn args) w = .ok (.enter fn args) w)
    (hby : ∀ wr i, i < T.eds.length → Upd [] w wr → Calls Tryz.prog fn (#[.agg #[ei (edAt T.eds i).fr, ei (edAt T.eds i).lb, ei (edAt T.eds i).to]] ++ caps) wr fun e w' => e = .returned (.bool (K i)) ∧ Upd [] wr w') :
    Calls Tryz.prog 30 #[.agg #[ei T.st, ei T.ini, v1, v2], .func (.func fn) #[] caps] w fun e w' => (∃ v', e = .returned (.agg #[ei T.st, ei T.ini, v1, v']) ∧ New R_E1 w w' v' (fltTo T.eds K T.eds.length)) ∧ Upd [] w w' := by
  obtain ⟨i3, ni, nz0, nz1, nz2⟩ := info_parts Tryz.infoEd
  obtain ⟨la, ca, rfl, -, -, -⟩ := slF1_open h1
  obtain ⟨a, cap, rfl, l1, l2, hc⟩ := slF3_open h2
  unfold maxLen at l2
  have HC := Lib.hid hc
  have HBY := Lib.hid hby
  have HTK := Lib.hid (fun i => fltTo_succ T.eds K i)
  have HLE := Lib.hid (fun i (h : i ≤ T.eds.length) => show (fltTo T.eds K i).length ≤ 300 from Nat.le_trans (fltTo_length T.eds K i) (by omega))
  obtain ⟨BX, hBX⟩ : ∃ B, B = w.heap.size := ⟨_, rfl⟩
  obtain ⟨wA, hwA⟩ : ∃ wA, wA = ((w.alloc (.cells #[ei T.st, ei T.ini, .slice la T.labs.length ca, .slice a T.eds.length cap] 30)).alloc (.cells #[ei 0, ei 0, .slice none 0 0, .slice none 0 0] 30)).alloc (.cells #[ei T.st, ei T.ini, .slice la T.labs.length ca, .slice none 0 0] 30) := ⟨_, rfl⟩
  have uA : Upd [] w wA := by rw [hwA]; exact (((Upd.refl _ _).alloc _).alloc _).alloc _
  have qA : SysAt BX wA T.st T.ini (.slice la T.labs.length ca) (.slice a T.eds.length cap) := by
    rw [hwA, hBX]; exact SysAt.upd (heap_alloc_new w _) (((Upd.refl [] _).alloc _).alloc _) (by simp)
  have qZ : SysAt (BX + 1) wA 0 0 (.slice none 0 0) (.slice none 0 0) := by
    have h := heap_alloc_new (w.alloc (.cells #[ei T.st, ei T.ini, .slice la T.labs.length ca, .slice a T.eds.length cap] 30)) (.cells #[ei 0, ei 0, .slice none 0 0, .slice none 0 0] 30)
    have h : SysAt (BX + 1) ((w.alloc (.cells #[ei T.st, ei T.ini, .slice la T.labs.length ca, .slice a T.eds.length cap] 30)).alloc (.cells #[ei 0, ei 0, .slice none 0 0, .slice none 0 0] 30)) 0 0 (.slice none 0 0) (.slice none 0 0) := by rw [hBX]; unfold SysAt; simpa using h
    rw [hwA]; exact h.upd ((Upd.refl [] _).alloc _) (by simp)
  have qO : SysAt (BX + 2) wA T.st T.ini (.slice la T.labs.length ca) (.slice none 0 0) := by
    have h := heap_alloc_new ((w.alloc (.cells #[ei T.st, ei T.ini, .slice la T.labs.length ca, .slice a T.eds.length cap] 30)).alloc (.cells #[ei 0, ei 0, .slice none 0 0, .slice none 0 0] 30)) (.cells #[ei T.st, ei T.ini, .slice la T.labs.length ca, .slice none 0 0] 30)
    rw [hwA, hBX]; unfold SysAt; simpa using h
  have hszA : wA.heap.size = BX + 2 + 1 := by rw [hwA, hBX]; simp
  have HO := Lib.hid (show OfR (BX + 2) wA wA T.st T.ini (.slice la T.labs.length ca) (.slice none 0 0) (fltTo T.eds K 0) from ⟨Upd.refl _ _, qO, World.ownsRow_nil _ _ _ _⟩)
  have HQA := Lib.hid (fun W (hu : Upd [BX + 2] wA W) => qA.upd hu (by simp))
  have HQZ := Lib.hid (fun W (hu : Upd [BX + 2] wA W) => qZ.upd hu (by simp))
  have HUA := Lib.hid uA
  have HSZ := Lib.hid hszA
  have HBX := Lib.hid hBX
  have z0 := qA.facts.1
  have z1 := qA.facts.2.1
  have z2 := qA.facts.2.2.1
  have z3 := qA.facts.2.2.2.1
  have HW := Lib.hid (fun W (hu : Upd [BX + 2] wA W) => show Upd [] w W from HUA.out.fresh hu (fun b hb => Or.inl (by simp at hb; omega)))
  clear h1 h2 hby hc uA qA qZ qO hszA
  go_enter Tryz.func30, Tryz.ntmps30
  go_upto_region 2 with (fail)
  rw [← hwA, ← hBX]
  clear hwA hBX
  go_wp2_with fail
  go_loopw [18] (fun iv wr => ∃ (i : Nat) (ov : Value), i ≤ T.eds.length ∧ iv = .int .i64 i ∧ Hid (OfR (BX + 2) wA wr T.st T.ini (.slice la T.labs.length ca) ov (fltTo T.eds K i))) (fun iv _ => T.eds.length - (intOf iv).toNat)
  case atStart => exact ⟨0, _, Nat.zero_le _, rfl, HO⟩
  case round =>
    clear HO z0 z1 z2 z3
    obtain ⟨wo, rfl⟩ : ∃ wo : World, wo = wr := ⟨_, rfl⟩
    obtain ⟨i, ov, hi, rfl, HO⟩ := hrel
    obtain ⟨oa, oc, hov⟩ := ownsRow_form HO.out.row
    subst hov
    by_cases hlt : i < T.eds.length
    · have HT := Lib.hid (HTK.out i)
      have hle := HLE.out i hi
      obtain ⟨b2, o2, rfl, -, -, q1, q2, q3⟩ := HC.out i hlt
      rw [← edAt_get hlt] at q1 q2 q3
      have q1 := (HW.out wo HO.out.upd).keep q1
      have q2 := (HW.out wo HO.out.upd).keep q2
      have q3 := (HW.out wo HO.out.upd).keep q3
      have hni : (i : Int) < (T.eds.length : Int) := by omega
      have HBI := Lib.hid (HBY.out · i hlt)
      obtain ⟨X, hX⟩ : ∃ X, edAt T.eds i = X := ⟨_, rfl⟩
      rw [hX] at q1 q2 q3 HT HBI
      obtain ⟨x1, x2, x3⟩ := X
      simp only at q1 q2 q3 HBI
      obtain ⟨E, hE⟩ : ∃ E, fltTo T.eds K i = E := ⟨_, rfl⟩
      rw [hE] at HO HT hle
      obtain ⟨wB, hwB⟩ : ∃ wB, wB = wo.alloc (.cells #[.int .i64 x1, .int .i64 x2, .int .i64 x3] 55) := ⟨_, rfl⟩
      obtain ⟨BE, hBE⟩ : ∃ B, B = wo.heap.size := ⟨_, rfl⟩
      have uB : Upd [] wo wB := by rw [hwB]; exact (Upd.refl _ _).alloc _
      have qB : RowAt wB BE 55 [ei x1, ei x2, ei x3] := by rw [hwB, hBE]; exact RowAt.new _ _ _
      have HQB := Lib.hid (fun W (hu : Upd [BX + 2] wB W) => qB.upd hu (by have := HO.out.upd.size; have := HSZ.out; simp; omega))
      have HOB := Lib.hid (HO.out.quiet uB)
      have t0 := qB.cell 0 _ rfl
      have t1 := qB.cell 1 _ rfl
      have t2 := qB.cell 2 _ rfl
      have C1 := Lib.hid (HBI.out wB (HW.out wB HOB.out.upd))
      obtain ⟨qk, hqk⟩ : ∃ q, K i = q := ⟨_, rfl⟩
      rw [hqk] at C1 HT
      clear hX hE hqk uB qB HTK HLE HBI
      go_upto_region 5 with (fail)
      rw [← hwB, ← hBE]
      clear hwB hBE q1 q2 q3 HO
      go_wp2_with fail
      refine C1.out.mono ?_
      rintro r w2 ⟨rfl, hu2⟩
      have HO2 := Lib.hid (HOB.out.quiet hu2)
      have qB2 := HQB.out w2 (hu2.mono (by simp))
      have t0 := qB2.cell 0 _ rfl
      have t1 := qB2.cell 1 _ rfl
      have t2 := qB2.cell 2 _ rfl
      have hb2 := qB2.lt
      clear C1 hu2 HOB qB2
      cases qk with
      | false =>
        have HX := Lib.hid (show fltTo T.eds K (i + 1) = E by rw [HT.out]; simp)
        clear HT HQB
        go_wp2_with fail
        go_roundw
        case rel => exact ⟨i + 1, _, by omega, by go_num, by rw [HX.out]; exact HO2⟩
        case measure => simp [intOf]; omega
      | true =>
        have HX := Lib.hid (show fltTo T.eds K (i + 1) = E ++ [⟨x1, x2, x3⟩] by rw [HT.out]; simp)
        have d3 := HO2.out.sys.facts.2.2.2.1
        have HOD := HO2.out.quiet ((Upd.refl [] w2).alloc (.cells #[.int .i64 x1, .int .i64 x2, .int .i64 x3] 55))
        have hownD := HOD.row
        have d3' := HOD.sys.facts.2.2.2.1
        have fz3 := HOD.sys.facts.2.2.2.2 3
        have hs9 := HO2.out.upd.size
        have hsz9 := HSZ.out
        have HSO := Lib.hid (show w2.heap.size ≥ BX + 2 + 1 by omega)
        have HOD := Lib.hid HOD
        clear HT HQB hsz9 hs9
        go_wp2_with (first
          | (at_builtin; refine wpList_append_tight _ rfl _ _ 28 rfl (BX + 2 + 1) 55 i3 (.agg #[.int .i64 0, .int .i64 0, .int .i64 0]) 3 24 Tryz.underlying28 ni nz0 nz1 nz2 rfl (by decide) _ _ _ rfl hownD ⟨w2.heap.size, 0, none⟩ 1 1 [.int .i64 x1, .int .i64 x2, .int .i64 x3] rfl rfl (fun j u hj => by rw [addr_add]; exact cell_new w2 #[.int .i64 x1, .int .i64 x2, .int .i64 x3] _ _ rfl _ _ (by simpa using hj)) (by simp [Value.oneCell']) (by unfold maxLen; omega) (by omega) (by have := HSO.out; simp; omega) ?_)
          | fail)
        intro v4 w4 hown4 hg4 ht4
        obtain ⟨oa4, oc4, rfl⟩ := ownsRow_form hown4
        obtain ⟨f2, hfz, HD4⟩ := HOD.out.push HSZ.out (t := ⟨x1, x2, x3⟩) hown4 hg4
        have HD5 := Lib.hid HD4
        clear HOD hownD d3 d3' fz3 t0 t1 t2 hown4 hg4 ht4 HD4
        go_wp2_with fail
        go_roundw
        case rel => exact ⟨i + 1, _, by omega, by go_num, by rw [HX.out]; exact HD5⟩
        case measure => simp [intOf]; omega
    · obtain rfl : i = T.eds.length := by omega
      have HX := Lib.hid (show OfR (BX + 2) wA wo T.st T.ini (.slice la T.labs.length ca) (.slice oa (fltTo T.eds K T.eds.length).length oc) (fltTo T.eds K T.eds.length) from HO.out)
      obtain ⟨E, hE⟩ : ∃ E, (fltTo T.eds K T.eds.length).length = E := ⟨_, rfl⟩
      rw [hE] at HX
      obtain ⟨c0, c1, c2, c3, -⟩ := HX.out.sys.facts
      obtain ⟨o0, o1, o2, o3, fz⟩ := (HQZ.out wo HX.out.upd).facts
      have fz0 := fz 0
      have fz1 := fz 1
      have fz2 := fz 2
      have fz3 := fz 3
      obtain ⟨r0, r1, r2, r3, -⟩ := ((HQZ.out wo HX.out.upd).store T.st T.ini (.slice la T.labs.length ca) (.slice oa E oc)).facts
      have HFIN := Lib.hid (show New R_E1 w ((((wo.setCell ⟨BX + 1, 0, none⟩ (ei T.st)).setCell ⟨BX + 1, 1, none⟩ (ei T.ini)).setCell ⟨BX + 1, 2, none⟩ (.slice la T.labs.length ca)).setCell ⟨BX + 1, 3, none⟩ (.slice oa E oc)) (.slice oa E oc) (fltTo T.eds K T.eds.length) ∧ Upd [] w ((((wo.setCell ⟨BX + 1, 0, none⟩ (ei T.st)).setCell ⟨BX + 1, 1, none⟩ (ei T.ini)).setCell ⟨BX + 1, 2, none⟩ (.slice la T.labs.length ca)).setCell ⟨BX + 1, 3, none⟩ (.slice oa E oc)) by
        have h0 := HBX.out
        have hs := HX.out.upd.size
        have hs2 := HSZ.out
        refine ⟨?_, (((HW.out wo HX.out.upd).setCell (Or.inl (by simp; omega)) _).setCell (Or.inl (by simp; omega)) _).setCell (Or.inl (by simp; omega)) _ |>.setCell (Or.inl (by simp; omega)) _⟩
        refine New.ofOwns3 (e := 55) (ownsRow_base (ownsRow_keep HX.out.row (fun g hg => ?_)) (by omega))
        have := (HX.out.row.lt g hg).1
        rw [heap_setCell_other _ _ _ _ (by simp; omega), heap_setCell_other _ _ _ _ (by simp; omega), heap_setCell_other _ _ _ _ (by simp; omega), heap_setCell_other _ _ _ _ (by simp; omega)])
      clear HO HX fz HTK HLE HBY
      clear hE
      go_wp2_with fail
      refine bodyPost_ret (v := .agg #[ei T.st, ei T.ini, .slice la T.labs.length ca, .slice oa E oc]) (by simp [results, Tryz.results30, go_sem, r0, r1, r2, r3]) rfl ⟨⟨_, rfl, HFIN.out.1⟩, HFIN.out.2⟩

theorem rs_form {w w' : World} {v : Value} {xs : List (List UInt8)} (h : New RS w w' v xs) : ∃ p q, v = .slice p xs.length q := by
  obtain ⟨f, r, -, -⟩ := h
  obtain ⟨p, q, rfl, -, -, -⟩ := slF1_open r
  exact ⟨p, q, rfl⟩
theorem e1_form {w w' : World} {v : Value} {xs : List Ed} (h : New R_E1 w w' v xs) : ∃ p q, v = .slice p xs.length q := by
  obtain ⟨f, r, -, -⟩ := h
  obtain ⟨p, q, rfl, -, -, -⟩ := slF3_open r
  exact ⟨p, q, rfl⟩

set_option maxRecDepth 20000 in
set_option maxHeartbeats 4000000 in
theorem cloneLtsI (T : Sys) (v1 v2 : Value) (w : World) (f1 f2 : List Nat) (h1 : RS f1 w [v1] T.labs) (h2 : R_E1 f2 w [v2] T.eds) (hl : T.labs.length ≤ 1000000) (hm : T.eds.length ≤ 1000000) :
    Calls Tryz.prog 33 #[.agg #[ei T.st, ei T.ini, v1, v2]] w fun e w' => (∃ v', e = .returned v' ∧ New R_L1 w w' v' T) ∧ Upd [] w w' := by
  obtain ⟨BX, hBX⟩ : ∃ B, B = w.heap.size := ⟨_, rfl⟩
  obtain ⟨wA, hwA⟩ : ∃ wA, wA = (w.alloc (.cells #[ei T.st, ei T.ini, v1, v2] 30)).alloc (.cells #[ei 0, ei 0, .slice none 0 0, .slice none 0 0] 30) := ⟨_, rfl⟩
  have uA : Upd [] w wA := by rw [hwA]; exact ((Upd.refl _ _).alloc _).alloc _
  have qA : SysAt BX wA T.st T.ini v1 v2 := by rw [hwA, hBX]; exact SysAt.upd (heap_alloc_new w _) ((Upd.refl [] _).alloc _) (by simp)
  have qZ : SysAt (BX + 1) wA 0 0 (.slice none 0 0) (.slice none 0 0) := by
    have h := heap_alloc_new (w.alloc (.cells #[ei T.st, ei T.ini, v1, v2] 30)) (.cells #[ei 0, ei 0, .slice none 0 0, .slice none 0 0] 30)
    rw [hwA, hBX]; unfold SysAt; simpa using h
  have S1 := Lib.hid (fun W (hu : Upd [] wA W) => cloneRSI v1 T.labs W f1 hl (RSk.upd h1 (uA.trans hu) (by simp)))
  have S2 := Lib.hid (fun W (hu : Upd [] wA W) => cloneEI v2 T.eds W f2 hm (R_E1k.upd h2 (uA.trans hu) (by simp)))
  obtain ⟨la, ca, rfl, -, -, -⟩ := slF1_open h1
  obtain ⟨a, cap, rfl, -, -, -⟩ := slF3_open h2
  have HQZ := Lib.hid (fun W (hu : Upd [] wA W) => qZ.upd hu (by simp))
  obtain ⟨z0, z1, z2, z3, -⟩ := qA.facts
  have HUA := Lib.hid uA
  have HBX := Lib.hid hBX
  have hszA : wA.heap.size = BX + 2 := by rw [hwA, hBX]; simp
  have HSZ := Lib.hid hszA
  clear h1 h2 uA qA qZ hl hm hszA
  go_enter Tryz.func33, Tryz.ntmps33
  go_upto_region 1 with (fail)
  rw [← hwA, ← hBX]
  clear hwA hBX
  go_region_held3 (fun w' => w'.cell? ⟨BX, 0, none⟩ = some (ei T.st) ∧ w'.cell? ⟨BX, 1, none⟩ = some (ei T.ini) ∧ w'.cell? ⟨BX, 2, none⟩ = some (.slice la T.labs.length ca) ∧ w'.cell? ⟨BX, 3, none⟩ = some (.slice a T.eds.length cap))
    (first | go_keep | (go_split_ands; refine ⟨?_, ?_, ?_, ?_⟩ <;> (rw [World.cell?_setCell_other _ _ _ _ (by simp), World.cell?_setCell_other _ _ _ _ (by simp), World.cell?_setCell_other _ _ _ _ (by simp), World.cell?_setCell_other _ _ _ _ (by simp)]; assumption)))
    (first
      | ((go_at_call 56); (with_reducible refine (S1.out _ ((Upd.refl [] _).drew)).mono ?_); rintro e w4 ⟨⟨u1, rfl, n1⟩, hu4⟩; obtain ⟨p1, c1, rfl⟩ := rs_form n1; have y0 := hu4.keep z0; have y1 := hu4.keep z1; have y2 := hu4.keep z2; have y3 := hu4.keep z3)
      | ((go_at_call 57); (with_reducible refine (S2.out _ (((Upd.refl [] _).drew).trans hu4)).mono ?_); rintro e w5 ⟨⟨u2, rfl, n2⟩, hu5⟩; obtain ⟨p2, c2, rfl⟩ := e1_form n2; have x0 := hu5.keep y0; have x1 := hu5.keep y1; have x2 := hu5.keep y2; have x3 := hu5.keep y3; have uz := ((Upd.refl [] wA).drew.trans hu4).trans hu5; have o0 := (HQZ.out _ uz).facts.1; have o1 := (HQZ.out _ uz).facts.2.1; have o2 := (HQZ.out _ uz).facts.2.2.1; have o3 := (HQZ.out _ uz).facts.2.2.2.1; have g0 := (HQZ.out _ uz).facts.2.2.2.2 0; have g1 := (HQZ.out _ uz).facts.2.2.2.2 1; have g2 := (HQZ.out _ uz).facts.2.2.2.2 2; have g3 := (HQZ.out _ uz).facts.2.2.2.2 3))
  have q5 := HQZ.out _ (((Upd.refl [] wA).drew.trans hu4).trans hu5)
  obtain ⟨r0, r1, r2, r3, -⟩ := (q5.store T.st T.ini (.slice p1 T.labs.length c1) (.slice p2 T.eds.length c2)).facts
  have hB := HBX.out
  have hs := HSZ.out
  have hsz4 := hu4.size
  have hsz4 : wA.heap.size ≤ w4.heap.size := hsz4
  have uW : Upd [] w w5 := (HUA.out.trans (((Upd.refl [] wA).drew.trans hu4).trans hu5))
  have uS : Upd [BX + 1] w5 ((((w5.setCell ⟨BX + 1, 0, none⟩ (ei T.st)).setCell ⟨BX + 1, 1, none⟩ (ei T.ini)).setCell ⟨BX + 1, 2, none⟩ (.slice p1 T.labs.length c1)).setCell ⟨BX + 1, 3, none⟩ (.slice p2 T.eds.length c2)) :=
    ((((Upd.refl [BX + 1] w5).setCell (Or.inr (by simp)) _).setCell (Or.inr (by simp)) _).setCell (Or.inr (by simp)) _).setCell (Or.inr (by simp)) _
  obtain ⟨g1', k1, o1', b1⟩ := n1
  obtain ⟨g2', k2, o2', b2⟩ := n2
  have lt1 := RSk.lt k1
  have hne1 : ∀ b ∈ g1', b ∉ [BX + 1] := fun b hb hm => by have := b1 b hb; simp at hm; have : wA.heap.size ≤ b := this; omega
  have hne2 : ∀ b ∈ g2', b ∉ [BX + 1] := fun b hb hm => by have := b2 b hb; simp at hm; omega
  have k1 := RSk.upd (RSk.upd k1 hu5 (by simp)) uS hne1
  have k2 := R_E1k.upd k2 uS hne2
  have o1' := (o1'.upd hu5 (by simp)).upd uS hne1
  have o2' := o2'.upd uS hne2
  go_wp2_with fail
  refine bodyPost_ret (v := .agg #[ei T.st, ei T.ini, .slice p1 T.labs.length c1, .slice p2 T.eds.length c2]) (by simp [results, Tryz.results33, go_sem, r0, r1, r2, r3]) rfl ⟨⟨_, rfl, g1' ++ g2', ⟨_, _, g1', g2', rfl, k1, k2, rfl⟩, ?_, ?_⟩, uW.fresh uS (fun b hb => Or.inl (by simp at hb; omega))⟩
  · refine ⟨?_, ?_⟩
    · rw [List.nodup_append]
      exact ⟨o1'.1, o2'.1, fun x hx y hy hxy => by have h1 := lt1 x hx; have h2 := b2 y hy; omega⟩
    · intro b hbm
      rcases List.mem_append.1 hbm with h | h
      · exact o1'.2 b h
      · exact o2'.2 b h
  · intro b hbm
    rcases List.mem_append.1 hbm with h | h
    · have h1 : wA.heap.size ≤ b := b1 b h
      have := HUA.out.size; omega
    · have := b2 b h
      have := HUA.out.size; omega

end Go.Proofs.YtlondofadjcooaaGreatDoor

/-
  Sets of internal edges of a system that agree with all edges: from which states an infinite path of internal edges begins, what the program's call returns.
-/
namespace Go.Proofs.YtlondofadjcooaaGreatDoor
open Go.RowKit

theorem enter_div (args : Array Value) (w : World) : Sem.run Tryz.prog (callFunc 78 args) w = .ok (.enter 78 args) w := by go_simp
def stepP (S : List Bool) (e : Ed) : Bool := e.lb == 0 && S.getD e.to.toNat false
/-- an internal edge leads from a state to one that is marked. -/
def goesF (B : Sys) (S : List Bool) (k : Nat) : Bool := (outF B.eds (k : Int)).any (stepP S)
theorem goes_iff {B : Sys} (hok : sysOk B = true) (S : List Bool) (k : Nat) : goesF B S k = true ↔ ∃ l : Nat, TauS B k l ∧ S.getD l false = true := by
  unfold goesF stepP
  rw [List.any_eq_true]
  constructor
  · rintro ⟨e, he, hp⟩
    rw [Bool.and_eq_true, beq_iff_eq] at hp
    unfold outF at he
    rw [List.mem_filter, beq_iff_eq] at he
    have hb := (sys_eds2 hok e he.1).2
    refine ⟨e.to.toNat, (tauS_iff hok _ _).2 ⟨e, he.1, he.2, by omega, hp.1⟩, hp.2⟩
  · rintro ⟨l, ht, hs⟩
    obtain ⟨e, he, h1, h2, h3⟩ := (tauS_iff hok _ _).1 ht
    refine ⟨e, ?_, ?_⟩
    · unfold outF; rw [List.mem_filter, beq_iff_eq]; exact ⟨he, h1⟩
    · rw [Bool.and_eq_true, beq_iff_eq]
      exact ⟨h3, by rw [h2, Int.toNat_natCast]; exact hs⟩
def DivIn (B : Sys) (S : List Bool) : Prop := ∀ k : Nat, DivT B k → S.getD k false = true
theorem DivIn.cut {B : Sys} (hok : sysOk B = true) {S : List Bool} (h : DivIn B S) {k : Nat} (hg : goesF B S k = false) : DivIn B (S.set k false) := by
  intro j hj
  by_cases e : k = j
  · subst e
    obtain ⟨l, hl, hd⟩ := hj.next
    have hb := folF_bd2 hok _ hl
    have e1 : ((l.toNat : Nat) : Int) = l := by omega
    have : goesF B S k = true := (goes_iff hok S k).2 ⟨l.toNat, by rw [e1]; exact hl, h l.toNat (by rw [e1]; exact hd)⟩
    rw [this] at hg; cases hg
  · rw [List.getD_eq_getElem?_getD, List.getElem?_set_ne e, ← List.getD_eq_getElem?_getD]
    exact h j hj
theorem DivIn.done {B : Sys} (hok : sysOk B = true) {S : List Bool} (h : DivIn B S) (hl : (S.length : Int) = B.st) (hg : ∀ j, j < S.length → S.getD j false = true → goesF B S j = true) (k : Nat) : S.getD k false = true ↔ DivT B k := by
  refine ⟨fun hs => ?_, h k⟩
  have hlt : ∀ j : Nat, S.getD j false = true → j < S.length := fun j hj => by
    rcases Nat.lt_or_ge j S.length with h | h
    · exact h
    · rw [List.getD_eq_getElem?_getD, List.getElem?_eq_none h] at hj; cases hj
  refine ⟨fun x => ∃ j : Nat, x = j ∧ S.getD j false = true, ⟨k, rfl, hs⟩, ?_⟩
  rintro x ⟨j, rfl, hj⟩
  have h1 := hlt j hj
  refine ⟨by omega, ?_⟩
  obtain ⟨l, ht, hs2⟩ := (goes_iff hok S j).1 (hg j h1 hj)
  exact ⟨l, ht, l, rfl, hs2⟩
theorem count_cut {S : List Bool} {j : Nat} (hj : j < S.length) (h : S[j] = true) : S.count false < (S.set j false).count false := by
  have h1 := List.count_set (l := S) (i := j) (a := false) (b := false) hj
  rw [h1, h]
  simp

set_option maxRecDepth 20000 in
set_option maxHeartbeats 1000000 in
theorem div1I (CB BS n : Nat) (S : List Bool) (x : Ed) (w : World) (hn : S.length = n) (hc : w.cell? ⟨CB, 0, none⟩ = some (.slice (some ⟨BS, 0, none⟩) n n)) (hB : BlkB BS w S) (hx : 0 ≤ x.to ∧ x.to < n) (hn9 : n ≤ 40) :
    Calls Tryz.prog 78 #[.agg #[ei x.fr, ei x.lb, ei x.to], .pointer (some ⟨CB, 0, none⟩)] w fun e w' => e = .returned (.bool (stepP S x)) ∧ Upd [] w w' := by
  obtain ⟨x1, x2, x3⟩ := x
  simp only at hx ⊢
  obtain ⟨m, rfl⟩ : ∃ m : Nat, x3 = m := ⟨x3.toNat, by omega⟩
  have hm : m < S.length := by omega
  have hmi : (m : Int) < (n : Int) := by omega
  have hg : S.getD m false = S[m] := by rw [List.getD_eq_getElem?_getD, List.getElem?_eq_getElem hm]; rfl
  have HF := Lib.hid (show stepP S ⟨x1, x2, m⟩ = (x2 == 0 && S[m]) by unfold stepP; simp only [Int.toNat_natCast, hg])
  obtain ⟨wA, hwA⟩ : ∃ wA, wA = w.alloc (.cells #[ei x1, ei x2, ei m] 55) := ⟨_, rfl⟩
  obtain ⟨BE, hBE⟩ : ∃ B, B = w.heap.size := ⟨_, rfl⟩
  have uA : Upd [] w wA := by rw [hwA]; exact (Upd.refl _ _).alloc _
  have qA : RowAt wA BE 55 [ei x1, ei x2, ei m] := by rw [hwA, hBE]; exact RowAt.new _ _ _
  have t1 := qA.cell 1 _ rfl
  have t2 := qA.cell 2 _ rfl
  have c0 := uA.keep hc
  have c1 := (hB.upd uA (by simp)).cell m hm
  have HUA := Lib.hid uA
  generalize stepP S ⟨x1, x2, m⟩ = Z at *
  generalize S[m] = q at *
  clear hc hB hg uA qA hm hx hn
  go_enter Tryz.func78, Tryz.ntmps78
  go_upto_region 1 with (fail)
  rw [← hwA, ← hBE]
  clear hwA hBE
  cases hq : (x2 == 0) with
  | false =>
    have HX := Lib.hid (show Z = false by rw [HF.out, hq]; rfl)
    clear HF
    go_wp2_with fail
    go_ret
    exact ⟨by rw [HX.out]; rfl, HUA.out⟩
  | true =>
    have HX := Lib.hid (show Z = q by rw [HF.out, hq]; rfl)
    clear HF
    go_wp2_with fail
    go_ret
    exact ⟨by rw [HX.out]; rfl, HUA.out⟩

set_option maxRecDepth 20000 in
set_option maxHeartbeats 8000000 in
theorem divI (B : Sys) (v1 v2 : Value) (w : World) (f1 f2 : List Nat) (h1 : RS f1 w [v1] B.labs) (h2 : R_E1 f2 w [v2] B.eds) (hok : sysOk B = true) :
    Calls Tryz.prog 55 #[.agg #[ei B.st, ei B.ini, v1, v2]] w fun e w' => (∃ (b : Nat) (S : List Bool), e = .returned (.slice (some ⟨b, 0, none⟩) S.length S.length) ∧ BlkB b w' S ∧ (S.length : Int) = B.st ∧ ∀ k : Nat, S.getD k false = true ↔ DivT B k) ∧ Upd [] w w' := by
  obtain ⟨hst, -, -, heds, -, -⟩ := sys_parts hok
  obtain ⟨n, hn⟩ : ∃ n : Nat, B.st = n := ⟨B.st.toNat, by omega⟩
  have HOUT := Lib.hid (fun (k : Int) W (hu : Upd [] w W) => outEI B.st B.ini v1 v2 B.eds k W f2 (R_E1k.upd h2 hu (by simp)) (by omega))
  have HBD := Lib.hid (sys_eds2 hok)
  have HOK := Lib.hid hok
  have HN := Lib.hid hn
  obtain ⟨la, ca, rfl, -, -, -⟩ := slF1_open h1
  obtain ⟨a, cap, rfl, -, -, -⟩ := slF3_open h2
  have hent := enter_div
  rw [hn]
  have hn1 : 1 ≤ n := by omega
  have hn9 : n ≤ 40 := by omega
  obtain ⟨BX, hBX⟩ : ∃ B, B = w.heap.size := ⟨_, rfl⟩
  obtain ⟨wA, hwA⟩ : ∃ wA, wA = (w.alloc (.cells #[ei n, ei B.ini, .slice la B.labs.length ca, .slice a B.eds.length cap] 30)).alloc (.cells #[.bool true] 4) := ⟨_, rfl⟩
  have uA : Upd [] w wA := by rw [hwA]; exact ((Upd.refl _ _).alloc _).alloc _
  have qA : SysAt BX wA n B.ini (.slice la B.labs.length ca) (.slice a B.eds.length cap) := by rw [hwA, hBX]; exact SysAt.upd (heap_alloc_new w _) ((Upd.refl [] _).alloc _) (by simp)
  have b0 : wA.cell? ⟨BX + 1, 0, none⟩ = some (.bool true) := by
    rw [hwA, hBX]; exact cell_new (w.alloc _) _ _ _ (by simp) 0 _ rfl
  have q0 : SysAt BX (w.alloc (.cells #[ei n, ei B.ini, .slice la B.labs.length ca, .slice a B.eds.length cap] 30)) n B.ini (.slice la B.labs.length ca) (.slice a B.eds.length cap) := by rw [hBX]; exact heap_alloc_new w _
  have y0 := q0.facts.1
  have z0 := qA.facts.1
  have REP := Lib.hid (repeatT n (BX + 1) wA hn1 hn9 b0)
  have HUA := Lib.hid uA
  have HQA := Lib.hid (fun W (hu : Upd [] wA W) => qA.upd hu (by simp))
  have hszA : wA.heap.size = BX + 2 := by rw [hwA, hBX]; simp
  have HSZ := Lib.hid hszA
  clear h1 h2 hok hn uA qA q0 b0 hszA
  go_enter Tryz.func55, Tryz.ntmps55
  go_wp2_with fail
  rw [← hwA, ← hBX]
  have HBX := Lib.hid hBX
  clear hwA hBX y0 z0
  refine REP.out.mono ?_
  rintro e w1 ⟨⟨BS, rfl, hB, hge⟩, hu1⟩
  obtain ⟨CB, hCB⟩ : ∃ B, B = w1.heap.size := ⟨_, rfl⟩
  obtain ⟨w2, hw2⟩ : ∃ w2, w2 = w1.alloc (.cells #[.slice (some ⟨BS, 0, none⟩) n n] 48) := ⟨_, rfl⟩
  have u2 : Upd [] w1 w2 := by rw [hw2]; exact (Upd.refl _ _).alloc _
  have qC : RowAt w2 CB 48 [.slice (some ⟨BS, 0, none⟩) n n] := by rw [hw2, hCB]; exact RowAt.new _ _ _
  have hBlt := hB.lt
  have HK0 := Lib.hid (hB.upd u2 (by simp))
  have HQC := Lib.hid (fun W (hu : Upd [BS] w2 W) => qC.upd hu (by simp; omega))
  have HQB := Lib.hid (fun W (hu : Upd [BS] w2 W) => (HQA.out w2 (hu1.trans u2)).upd hu (by have := HSZ.out; simp; omega))
  have HU2 := Lib.hid (hu1.trans u2)
  have HW := Lib.hid (fun W (hu : Upd [BS] w2 W) => show Upd [] w W from by
    have h1 := HUA.out.trans (hu1.trans u2)
    have h2 := HUA.out.size
    exact h1.fresh hu (fun b hb => Or.inl (by simp at hb; omega)))
  have HD0 := Lib.hid (show DivIn B (List.replicate n true) from fun k hk => by
    obtain ⟨X, hx, hX⟩ := hk
    have h1 := (hX _ hx).1
    have h2 := HN.out
    rw [List.getD_eq_getElem?_getD, List.getElem?_replicate, if_pos (by omega)]; rfl)
  clear REP hB hu1 u2 qC hge hBlt
  go_upto_region 2 with (fail)
  rw [← hw2, ← hCB]
  clear hw2 hCB
  go_wp2_with fail
  go_loopw [4] (fun mv wr => ∃ (S : List Bool) (m : Bool), mv = .bool m ∧ Hid (S.length = n) ∧ Hid (DivIn B S) ∧ Hid (BlkB BS wr S) ∧ Hid (Upd [BS] w2 wr) ∧ Hid (m = false → ∀ j, j < n → S.getD j false = true → goesF B S j = true)) (fun mv wr => 2 * (n - falseAt wr BS) + oneIf mv)
  case atStart => exact ⟨_, true, rfl, Lib.hid (by simp), HD0, HK0, Lib.hid (Upd.refl _ _), Lib.hid (fun h => by cases h)⟩
  case round =>
    clear HD0 HK0
    obtain ⟨wq, rfl⟩ : ∃ wq : World, wq = wr := ⟨_, rfl⟩
    obtain ⟨S, m, rfl, HL, HD, HK, HU, HS⟩ := hrel
    have c0 := (HQC.out wq HU.out).cell 0 _ rfl
    cases m with
    | false =>
      have HX := Lib.hid (fun k => HD.out.done HOK.out (by rw [HL.out]; exact HN.out.symm) (fun j hj => HS.out rfl j (by rw [← HL.out]; exact hj)) k)
      clear HD HS
      go_wp2_with fail
      go_ret
      exact ⟨⟨BS, S, by rw [HL.out]; rfl, HK.out, by rw [HL.out], HX.out⟩, HW.out wq HU.out⟩
    | true =>
      have HQ := Lib.hid HK.out.falseAt
      have HQn := Lib.hid (show S.count false ≤ n by rw [← HL.out]; exact List.count_le_length)
      clear HS
      go_wp2_with fail
      go_loopw [4, 14] (fun mv iv wr => ∃ (S' : List Bool) (m : Bool) (k : Nat), k ≤ n ∧ iv = .int .i64 k ∧ mv = .bool m ∧ Hid (S'.length = n) ∧ Hid (DivIn B S') ∧ Hid (BlkB BS wr S') ∧ Hid (Upd [BS] w2 wr) ∧ Hid (S.count false ≤ S'.count false) ∧ Hid (m = true → S.count false < S'.count false) ∧ Hid (m = false → ∀ j, j < k → S'.getD j false = true → goesF B S' j = true)) (fun _ iv _ => n - (intOf iv).toNat)
      case atStart => exact ⟨S, false, 0, Nat.zero_le _, rfl, rfl, HL, HD, HK, HU, Lib.hid (Nat.le_refl _), Lib.hid (fun h => by cases h), Lib.hid (fun _ j hj => by omega)⟩
      case round =>
        clear HL HD HK HU c0
        obtain ⟨wo, rfl⟩ : ∃ wo : World, wo = wr := ⟨_, rfl⟩
        obtain ⟨S', m, k, hk, rfl, rfl, HL, HD, HK, HU, HL1, HL2, HS⟩ := hrel
        by_cases hlt : k < n
        · have hki : (k : Int) < (n : Int) := by omega
          have hkS : k < S'.length := by rw [HL.out]; exact hlt
          obtain ⟨z0, z1, z2, z3, -⟩ := (HQB.out wo HU.out).facts
          have O1 := Lib.hid (HOUT.out k wo (HW.out wo HU.out))
          rw [HN.out] at O1
          have hg : S'.getD k false = S'[k] := by rw [List.getD_eq_getElem?_getD, List.getElem?_eq_getElem hkS]; rfl
          have HCUT := Lib.hid (fun (h : goesF B S' k = false) => HD.out.cut HOK.out h)
          have HCC := Lib.hid (fun (h : S'[k] = true) => count_cut hkS h)
          have HNX := Lib.hid (fun (h : S'.getD k false = true → goesF B S' k = true) (hm : m = false) => show ∀ j, j < k + 1 → S'.getD j false = true → goesF B S' j = true from fun j hj hs => by
            by_cases hje : j = k
            · subst hje; exact h hs
            · exact HS.out hm j (by omega) hs)
          have HG := Lib.hid hg
          clear hg
          go_wp2_with fail
          refine O1.out.mono ?_
          rintro e w3 ⟨⟨vl, rfl, hn3⟩, hu3⟩
          obtain ⟨al, cl, rfl⟩ := e1_form hn3
          have HU3 := Lib.hid (HU.out.trans (hu3.mono (show ∀ b ∈ [], b ∈ [BS] by simp)))
          have HK3 := Lib.hid (HK.out.upd hu3 (by simp))
          have c3 := (HQC.out w3 HU3.out).cell 0 _ rfl
          obtain ⟨f3, r3, -, -⟩ := hn3
          have C1 := Lib.hid (containsFuncEd (stepP S') 78 #[.pointer (some ⟨CB, 0, none⟩)] _ (outF B.eds k) w3 f3 r3 enter_div
            (fun wr x hx hu => div1I CB BS n S' x wr HL.out (hu.keep c3) (HK3.out.upd hu (by simp)) (by have h1 := (HBD.out x (outF_mem hx)).2; have h2 := HN.out; omega) hn9))
          have HGF := Lib.hid (show (outF B.eds (k : Int)).any (stepP S') = goesF B S' k from rfl)
          rw [HGF.out] at C1
          clear O1 hu3 r3 z0 z1 z2 z3 c3 HU HK HGF
          go_wp2_with fail
          refine C1.out.mono ?_
          rintro e w4 ⟨rfl, hu4⟩
          have HU4 := Lib.hid (HU3.out.trans (hu4.mono (show ∀ b ∈ [], b ∈ [BS] by simp)))
          have HK4 := Lib.hid (HK3.out.upd hu4 (by simp))
          have c4 := (HQC.out w4 HU4.out).cell 0 _ rfl
          have d4 := HK4.out.cell k hkS
          have f4 := HK4.out.frozen k
          clear C1 hu4 HU3 HK3
          obtain ⟨qg, hqg⟩ : ∃ q, goesF B S' k = q := ⟨_, rfl⟩
          rw [hqg] at HCUT HNX ⊢
          clear hqg
          cases hs : S'[k] with
          | false =>
            rw [hs] at d4
            have HX := Lib.hid (HNX.out (fun h => by rw [HG.out, hs] at h; cases h))
            clear HNX HCUT HCC HS
            go_wp2_with fail
            go_roundw
            case rel => exact ⟨S', m, k + 1, by omega, by go_num, rfl, HL, HD, HK4, HU4, HL1, HL2, HX⟩
            case measure => simp [intOf]; omega
          | true =>
            rw [hs] at d4
            cases qg with
            | true =>
              have HX := Lib.hid (HNX.out (fun _ => rfl))
              clear HNX HCUT HCC HS
              go_wp2_with fail
              go_roundw
              case rel => exact ⟨S', m, k + 1, by omega, by go_num, rfl, HL, HD, HK4, HU4, HL1, HL2, HX⟩
              case measure => simp [intOf]; omega
            | false =>
              have HX1 := Lib.hid (HCUT.out (by trivial))
              have HX2 := Lib.hid (HCC.out hs)
              have HX3 := Lib.hid (HK4.out.set k false)
              have HX4 := Lib.hid (show Upd [BS] w2 (w4.setCell ⟨BS, k, none⟩ (.bool false)) from HU4.out.setCell (Or.inr (by simp)) _)
              have HX5 := Lib.hid (show (S'.set k false).length = n by rw [List.length_set]; exact HL.out)
              have HX6 := Lib.hid (show S.count false < (S'.set k false).count false from Nat.lt_of_le_of_lt HL1.out HX2.out)
              have HX7 := Lib.hid (Nat.le_of_lt HX6.out)
              clear HNX HCUT HCC HS
              go_wp2_with fail
              go_roundw
              case rel => exact ⟨S'.set k false, true, k + 1, by omega, by go_num, rfl, HX5, HX1, HX3, HX4, HX7, Lib.hid (fun _ => HX6.out), Lib.hid (fun h => by cases h)⟩
              case measure => simp [intOf]; omega
        · obtain rfl : k = n := by omega
          have HZ := Lib.hid (show m = true → S.count false < falseAt wo BS from fun hm => by rw [HK.out.falseAt]; exact HL2.out hm)
          have HZ2 := Lib.hid (show S.count false ≤ falseAt wo BS by rw [HK.out.falseAt]; exact HL1.out)
          have HZ3 := Lib.hid (show falseAt wo BS ≤ k by rw [HK.out.falseAt, ← HL.out]; exact List.count_le_length)
          go_wp2_with fail
          go_roundw
          case rel => exact ⟨S', m, rfl, HL, HD, HK, HU, HS⟩
          case measure =>
            have h1 := HQ.out
            have h2 := HZ.out
            have h3 := HZ2.out
            have h4 := HZ3.out
            rw [h1]
            cases m
            · simp only [oneIf]; omega
            · have := h2 rfl
              simp only [oneIf]; omega

set_option maxRecDepth 20000 in
set_option maxHeartbeats 1000000 in
theorem cyclicI (B : Sys) (v1 v2 : Value) (w : World) (f1 f2 : List Nat) (h1 : RS f1 w [v1] B.labs) (h2 : R_E1 f2 w [v2] B.eds) (hok : sysOk B = true) :
    Calls Tryz.prog 29 #[.agg #[ei B.st, ei B.ini, v1, v2]] w fun e w' => (∃ q : Bool, e = .returned (.bool q) ∧ (q = true ↔ ∃ k, DivT B k)) ∧ Upd [] w w' := by
  have S1 := Lib.hid (fun W (hu : Upd [] w W) => divI B v1 v2 W f1 f2 (RSk.upd h1 hu (by simp)) (R_E1k.upd h2 hu (by simp)) hok)
  have hst := (sys_parts hok).1
  obtain ⟨la, ca, rfl, -, -, -⟩ := slF1_open h1
  obtain ⟨a, cap, rfl, -, -, -⟩ := slF3_open h2
  obtain ⟨BX, hBX⟩ : ∃ B, B = w.heap.size := ⟨_, rfl⟩
  obtain ⟨wA, hwA⟩ : ∃ wA, wA = w.alloc (.cells #[ei B.st, ei B.ini, .slice la B.labs.length ca, .slice a B.eds.length cap] 30) := ⟨_, rfl⟩
  have uA : Upd [] w wA := by rw [hwA]; exact (Upd.refl _ _).alloc _
  have qA : SysAt BX wA B.st B.ini (.slice la B.labs.length ca) (.slice a B.eds.length cap) := by rw [hwA, hBX]; exact heap_alloc_new w _
  obtain ⟨z0, z1, z2, z3, -⟩ := qA.facts
  have T1 := Lib.hid (S1.out wA uA)
  have HUA := Lib.hid uA
  clear h1 h2 hok uA qA S1
  go_enter Tryz.func29, Tryz.ntmps29
  go_upto_region 1 with (fail)
  rw [← hwA, ← hBX]
  clear hwA hBX
  go_wp2_with fail
  refine T1.out.mono ?_
  rintro e w1 ⟨⟨b, S, rfl, hB, hl, hS⟩, hu1⟩
  have C1 := Lib.hid (containsBI b S w1 hB (by omega))
  have HU1 := Lib.hid (HUA.out.trans hu1)
  have HS := Lib.hid hS
  have HL := Lib.hid hl
  have HQ := Lib.hid (show S.any id = true ↔ ∃ k, DivT B k by
    rw [List.any_eq_true]
    constructor
    · rintro ⟨x, hx, hxt⟩
      obtain ⟨i, hi, rfl⟩ := List.getElem_of_mem hx
      refine ⟨i, (HS.out i).1 ?_⟩
      rw [List.getD_eq_getElem?_getD, List.getElem?_eq_getElem hi]; exact hxt
    · rintro ⟨k, hk⟩
      have hb : 0 ≤ k ∧ k < B.st := by obtain ⟨X, hx, hX⟩ := hk; exact (hX k hx).1
      have h1 : ((k.toNat : Nat) : Int) = k := by omega
      have h2 := (HS.out k.toNat).2 (by rw [h1]; exact hk)
      have h3 := HL.out
      rw [List.getD_eq_getElem?_getD, List.getElem?_eq_getElem (show k.toNat < S.length by omega)] at h2
      exact ⟨_, List.getElem_mem _, h2⟩)
  clear T1 hu1 hB hl hS z0 z1 z2 z3 HS HL
  go_wp2_with fail
  refine C1.out.mono ?_
  rintro e w2 ⟨rfl, hu2⟩
  have HU2 := Lib.hid (HU1.out.trans hu2)
  clear C1 hu2
  generalize S.any id = q at *
  go_wp2_with fail
  go_ret
  exact ⟨⟨q, rfl, HQ.out⟩, HU2.out⟩

end Go.Proofs.YtlondofadjcooaaGreatDoor

/-
  PrioritizeConfluent, the program's call.
-/
namespace Go.Proofs.YtlondofadjcooaaGreatDoor
open Go.RowKit

theorem enter_prio (args : Array Value) (w : World) : Sem.run Tryz.prog (callFunc 31 args) w = .ok (.enter 31 args) w := by go_simp

set_option maxRecDepth 20000 in
set_option maxHeartbeats 2000000 in
theorem prio1I (OB : Nat) (T : Sys) (set : List Int) (v1 v3 : Value) (i : Nat) (w : World) (f1 f3 : List Nat) (h1 : RS f1 w [v1] T.labs) (hz : SysAt OB w T.st T.ini v1 v3) (h3 : R_E1 f3 w [v3] (ownE T.eds set)) (hT : sysOk T = true) (hs : setOkF T.eds set = true) (hi : i < T.eds.length) :
    Calls Tryz.prog 31 #[.agg #[ei (edAt T.eds i).fr, ei (edAt T.eds i).lb, ei (edAt T.eds i).to], .pointer (some ⟨OB, 0, none⟩)] w fun e w' => e = .returned (.bool (keepF T.eds (idS set) i)) ∧ Upd [] w w' := by
  have hris : risF set T.eds.length = true := by unfold setOkF at hs; rw [Bool.and_eq_true] at hs; exact hs.1
  have HK := Lib.hid (keep_head (eds_pair hT) hris i hi)
  have hle : (ownE T.eds set).length ≤ 2000000 := by
    have := (sys_parts (ownSy_ok hT hs)).2.2.2.1
    have : (ownE T.eds set).length ≤ 300 := this
    omega
  generalize keepF T.eds (idS set) i = Z at *
  obtain ⟨x, hx⟩ : ∃ x, edAt T.eds i = x := ⟨_, rfl⟩
  rw [hx] at HK ⊢
  obtain ⟨x1, x2, x3⟩ := x
  simp only at HK ⊢
  have O1 := Lib.hid (fun W (hu : Upd [] w W) => outEI T.st T.ini v1 v3 (ownE T.eds set) x1 W f3 (R_E1k.upd h3 hu (by simp)) hle)
  obtain ⟨la, ca, rfl, -, -, -⟩ := slF1_open h1
  obtain ⟨a, cap, rfl, -, -, -⟩ := slF3_open h3
  obtain ⟨wA, hwA⟩ : ∃ wA, wA = w.alloc (.cells #[ei x1, ei x2, ei x3] 55) := ⟨_, rfl⟩
  obtain ⟨BE, hBE⟩ : ∃ B, B = w.heap.size := ⟨_, rfl⟩
  have uA : Upd [] w wA := by rw [hwA]; exact (Upd.refl _ _).alloc _
  have qA : RowAt wA BE 55 [ei x1, ei x2, ei x3] := by rw [hwA, hBE]; exact RowAt.new _ _ _
  have HQ := Lib.hid (fun W (hu : Upd [] wA W) => have q := qA.upd hu (by simp); show W.cell? ⟨BE, 0, none⟩ = some (ei x1) ∧ W.cell? ⟨BE, 1, none⟩ = some (ei x2) ∧ W.cell? ⟨BE, 2, none⟩ = some (ei x3) from ⟨q.cell 0 _ rfl, q.cell 1 _ rfl, q.cell 2 _ rfl⟩)
  obtain ⟨t0, t1, t2⟩ := HQ.out wA (Upd.refl _ _)
  obtain ⟨z0, z1, z2, z3, -⟩ := (hz.upd uA (by simp)).facts
  have T1 := Lib.hid (O1.out wA uA)
  have HUA := Lib.hid uA
  have heq := fun (y1 y2 y3 : Int) W => eqlE x1 x2 x3 y1 y2 y3 W
  clear h1 h3 hz hT hs hi hris hx uA qA O1 hle
  go_enter Tryz.func31, Tryz.ntmps31
  go_upto_region 1 with (fail)
  rw [← hwA, ← hBE]
  clear hwA hBE
  go_wp2_with fail
  refine T1.out.mono ?_
  rintro e w1 ⟨⟨vl, rfl, hn⟩, hu1⟩
  obtain ⟨al, cl, rfl⟩ := e1_form hn
  obtain ⟨f9, r9, -, -⟩ := hn
  obtain ⟨t0, t1, t2⟩ := HQ.out w1 hu1
  have HU1 := Lib.hid (HUA.out.trans hu1)
  obtain ⟨a9, c9, hv9, l9, m9, hc9⟩ := slF3_open r9
  cases hv9
  unfold maxLen at m9
  clear T1 z0 z1 z2 z3 hu1 HQ r9
  generalize outF (ownE T.eds set) x1 = L at *
  cases L with
  | nil =>
    have HX := Lib.hid (show Z = true from HK.out.symm)
    clear HK hc9 heq
    simp only [List.length_nil] at *
    go_wp2_with fail
    go_quiet (fail)
    go_wp2_with fail
    go_ret
    exact ⟨by rw [HX.out]; rfl, HU1.out.drewN _⟩
  | cons y ys =>
    have HX := Lib.hid (show Z = decide ((⟨x1, x2, x3⟩ : Ed) = y) from HK.out.symm)
    obtain ⟨b, o, rfl, -, -, p1, p2, p3⟩ := hc9 0 (by simp)
    simp only [List.getElem_cons_zero, Nat.zero_mul, Nat.add_zero] at p1 p2 p3
    have hl0 : (0 : Int) < ((y :: ys).length : Int) := by simp only [List.length_cons]; omega
    have hl1 : ((y :: ys).length : Int) ≠ 0 := by omega
    have hl2 : (((y :: ys).length : Int) == 0) = false := by simpa using hl1
    clear hc9 HK
    generalize (y :: ys).length = n9 at *
    obtain ⟨y1, y2, y3⟩ := y
    simp only at p1 p2 p3
    have hq := fun W => heq y1 y2 y3 W
    clear heq
    go_wp2_with fail
    go_quiet (fail)
    go_wp2_with fail
    go_ret
    exact ⟨by rw [HX.out]; simp, HU1.out.drewN _⟩

/-- what both calls hand back: the system, and the error. -/
def GaveL2 (w : World) (r : Sys × Int) (e : Ending) (w' : World) : Prop := (∃ v', e = .returned (.tuple #[v', .int .i64 r.2]) ∧ New R_L1 w w' v' r.1) ∧ Upd [] w w'
theorem prioF_bad {T : Sys} {set : List Int} (h : cfCode T set ≠ 0) : prioF T set = (⟨0, 0, [], []⟩, cfCode T set) := by unfold prioF; rw [if_neg h]
theorem prioF_cyc {T : Sys} {set : List Int} (h : cfCode T set = 0) (hc : CycS T set) : prioF T set = (⟨0, 0, [], []⟩, 6) := by unfold prioF; rw [if_pos h, if_pos hc]
theorem prioF_good {T : Sys} {set : List Int} (h : cfCode T set = 0) (hc : ¬ CycS T set) : prioF T set = (⟨T.st, T.ini, T.labs, fltTo T.eds (keepF T.eds (idS set)) T.eds.length⟩, 0) := by unfold prioF; rw [if_pos h, if_neg hc]; rfl

set_option maxRecDepth 20000 in
set_option maxHeartbeats 8000000 in
theorem prioI (T : Sys) (set : List Int) (v1 v2 vs : Value) (w : World) (f1 f2 fs : List Nat) (h1 : RS f1 w [v1] T.labs) (h2 : R_E1 f2 w [v2] T.eds) (hs : R1 fs w [vs] set) (hp : ∀ p ∈ T.labs, p.length ≤ 2000000) (he : Env w) :
    Calls Tryz.prog 9 #[.agg #[ei T.st, ei T.ini, v1, v2], vs] w (GaveL2 w (prioF T set)) := by
  obtain ⟨BX, hBX⟩ : ∃ B, B = w.heap.size := ⟨_, rfl⟩
  obtain ⟨wA, hwA⟩ : ∃ wA, wA = (w.alloc (.cells #[ei T.st, ei T.ini, v1, v2] 30)).alloc (.cells #[ei 0, ei 0, .slice none 0 0, .slice none 0 0] 30) := ⟨_, rfl⟩
  have uA : Upd [] w wA := by rw [hwA]; exact ((Upd.refl _ _).alloc _).alloc _
  have qA : SysAt BX wA T.st T.ini v1 v2 := by rw [hwA, hBX]; exact SysAt.upd (heap_alloc_new w _) ((Upd.refl [] _).alloc _) (by simp)
  have qZ : SysAt (BX + 1) wA 0 0 (.slice none 0 0) (.slice none 0 0) := by
    have h := heap_alloc_new (w.alloc (.cells #[ei T.st, ei T.ini, v1, v2] 30)) (.cells #[ei 0, ei 0, .slice none 0 0, .slice none 0 0] 30)
    rw [hwA, hBX]; unfold SysAt; simpa using h
  have S1 := Lib.hid (cfCodeI T set v1 v2 vs wA f1 f2 fs (RSk.upd h1 uA (by simp)) (R_E1k.upd h2 uA (by simp)) (R1k.upd hs uA (by simp)) hp (he.upd uA))
  have HR := Lib.hid (fun W (hu : Upd [] wA W) => And.intro (RSk.upd h1 (uA.trans hu) (by simp)) (And.intro (R_E1k.upd h2 (uA.trans hu) (by simp)) (R1k.upd hs (uA.trans hu) (by simp))))
  have HQA := Lib.hid (fun W (hu : Upd [] wA W) => qA.upd hu (by simp))
  have HQZ := Lib.hid (fun W (hu : Upd [] wA W) => qZ.upd hu (by simp))
  have HUA := Lib.hid uA
  have HBX := Lib.hid hBX
  have HBAD := Lib.hid (@prioF_bad T set)
  have HCYC := Lib.hid (@prioF_cyc T set)
  have HGOOD := Lib.hid (@prioF_good T set)
  have HOK := Lib.hid (@cfCode_ok T set)
  obtain ⟨la, ca, rfl, -, -, -⟩ := slF1_open h1
  obtain ⟨a, cap, rfl, -, -, -⟩ := slF3_open h2
  obtain ⟨sa, sc, rfl, -, -, -⟩ := slF1_open hs
  obtain ⟨z0, z1, z2, z3, -⟩ := qA.facts
  generalize cfCode T set = C at *
  clear h1 h2 hs hp he uA qA qZ
  go_enter Tryz.func9, Tryz.ntmps9
  go_upto_region 1 with (fail)
  rw [← hwA, ← hBX]
  clear hwA hBX
  go_wp2_with fail
  refine S1.out.mono ?_
  rintro e w1 ⟨rfl, hu1⟩
  have HU1 := Lib.hid hu1
  have hBX := HBX.out
  have hszA := HUA.out.size
  clear S1 z0 z1 z2 z3
  by_cases hC : C = 0
  · subst hC
    obtain ⟨hT, hS⟩ := HOK.out rfl
    obtain ⟨r1, r2, r3⟩ := HR.out w1 hu1
    have hbd := setOk_bd hS
    have hsl : set.length ≤ 300 := by
      have := (sys_parts (ownSy_ok hT hS)).2.2.2.1
      have h2 : (ownE T.eds set).length ≤ 300 := this
      unfold ownE at h2; simpa using h2
    have S2 := Lib.hid (ofSetI T set _ _ _ w1 f1 f2 fs r1 r2 r3 hbd hsl)
    have HT := Lib.hid (And.intro hT hS)
    obtain ⟨z0, z1, z2, z3, -⟩ := (HQA.out w1 hu1).facts
    clear HBAD HOK hT hS r1 r2 r3 hbd hsl hu1 hBX hszA
    go_wp2_with fail
    refine S2.out.mono ?_
    rintro e w2 ⟨⟨v3, rfl, hn⟩, hu2⟩
    obtain ⟨al, cl, rfl⟩ := e1_form hn
    obtain ⟨f9, r9, -, -⟩ := hn
    obtain ⟨OB, hOB⟩ : ∃ B, B = w2.heap.size := ⟨_, rfl⟩
    obtain ⟨w3, hw3⟩ : ∃ w3, w3 = w2.alloc (.cells #[ei T.st, ei T.ini, .slice la T.labs.length ca, .slice al (ownE T.eds set).length cl] 30) := ⟨_, rfl⟩
    have u3 : Upd [] w2 w3 := by rw [hw3]; exact (Upd.refl _ _).alloc _
    have qO : SysAt OB w3 T.st T.ini (.slice la T.labs.length ca) (.slice al (ownE T.eds set).length cl) := by rw [hw3, hOB]; exact heap_alloc_new w2 _
    have HU3 := Lib.hid ((HU1.out.trans hu2).trans u3)
    have HQO := Lib.hid (fun W (hu : Upd [] w3 W) => qO.upd hu (by simp))
    have HRO := Lib.hid (fun W (hu : Upd [] w3 W) => show R_E1 f9 W [.slice al (ownE T.eds set).length cl] (ownE T.eds set) from R_E1k.upd r9 (u3.trans hu) (by simp))
    have S3 := Lib.hid (cyclicI (ownSy T set) _ _ w3 f1 f9 (HR.out w3 HU3.out).1 (HRO.out w3 (Upd.refl _ _)) (ownSy_ok HT.out.1 HT.out.2))
    have HS3 := Lib.hid (show ∀ q : Bool, (q = true ↔ ∃ k, DivT (ownSy T set) k) → (q = true ↔ CycS T set) from fun q h => h)
    unfold ownSy at S3
    simp only at S3
    obtain ⟨o0, o1, o2, o3, -⟩ := qO.facts
    clear S2 hu2 r9 u3 qO z0 z1 z2 z3
    go_upto_region 5 with (fail)
    rw [← hw3, ← hOB]
    clear hw3 hOB
    go_wp2_with fail
    refine S3.out.mono ?_
    rintro e w4 ⟨⟨q, rfl, hq⟩, hu4⟩
    have HQ := Lib.hid (HS3.out q hq)
    have HU4 := Lib.hid (HU3.out.trans hu4)
    have HO4 := Lib.hid hu4
    clear S3 hu4 hq o0 o1 o2 o3 HS3
    cases q with
    | true =>
      have HP := Lib.hid (HCYC.out (by trivial) (HQ.out.1 rfl))
      clear HCYC HGOOD HQ
      obtain ⟨c0, c1, c2, c3, fz⟩ := (HQZ.out w4 HU4.out).facts
      have g0 := fz 0
      have g1 := fz 1
      have g2 := fz 2
      have g3 := fz 3
      obtain ⟨r0, r1, r2, r3, -⟩ := ((HQZ.out w4 HU4.out).store 0 0 (.slice none 0 0) (.slice none 0 0)).facts
      have HE := Lib.hid (show Upd [] w ((((w4.setCell ⟨BX + 1, 0, none⟩ (ei 0)).setCell ⟨BX + 1, 1, none⟩ (ei 0)).setCell ⟨BX + 1, 2, none⟩ (.slice none 0 0)).setCell ⟨BX + 1, 3, none⟩ (.slice none 0 0)) from by
        have h0 := HBX.out
        exact ((((HUA.out.trans HU4.out).setCell (Or.inl (by simp; omega)) _).setCell (Or.inl (by simp; omega)) _).setCell (Or.inl (by simp; omega)) _).setCell (Or.inl (by simp; omega)) _)
      clear fz
      go_wp2_with fail
      refine bodyPost_ret (v := .tuple #[.agg #[ei 0, ei 0, .slice none 0 0, .slice none 0 0], .int .i64 6]) (by simp [results, Tryz.results9, go_sem, r0, r1, r2, r3]) rfl ⟨⟨_, by rw [HP.out], ?_⟩, HE.out⟩
      rw [HP.out]; exact new_zero _ _
    | false =>
      have HP := Lib.hid (HGOOD.out (by trivial) (fun h => by have := HQ.out.2 h; cases this))
      clear HCYC HGOOD HQ
      obtain ⟨r1, r2, -⟩ := HR.out w4 HU4.out
      have S5 := Lib.hid (onlyI (keepF T.eds (idS set)) 31 #[.pointer (some ⟨OB, 0, none⟩)] T _ _ w4 f1 f2 r1 r2 (sys_parts HT.out.1).2.2.2.1 enter_prio
        (fun wr i hi hu => prio1I OB T set _ _ i wr f1 f9 (HR.out wr (HU4.out.trans hu)).1 (HQO.out wr (HO4.out.trans hu)) (HRO.out wr (HO4.out.trans hu)) HT.out.1 HT.out.2 hi))
      have hent := enter_prio
      obtain ⟨z0, z1, z2, z3, -⟩ := (HQA.out w4 HU4.out).facts
      clear r1 r2
      go_wp2_with fail
      refine S5.out.mono ?_
      rintro e w5 ⟨⟨v5, rfl, hn5⟩, hu5⟩
      obtain ⟨a5, c5, rfl⟩ := e1_form hn5
      obtain ⟨f5, r5, -, -⟩ := hn5
      have HU5 := Lib.hid (HU4.out.trans hu5)
      have hfl : (fltTo T.eds (keepF T.eds (idS set)) T.eds.length).length ≤ 1000000 := Nat.le_trans (fltTo_length _ _ _) (by have := (sys_parts HT.out.1).2.2.2.1; omega)
      have hll : T.labs.length ≤ 1000000 := by have := (sys_parts HT.out.1).2.2.1; omega
      have S6 := Lib.hid (cloneLtsI ⟨T.st, T.ini, T.labs, fltTo T.eds (keepF T.eds (idS set)) T.eds.length⟩ _ _ w5 f1 f5 (HR.out w5 HU5.out).1 r5 hll hfl)
      simp only at S6
      clear S5 hu5 r5 hfl hll z0 z1 z2 z3
      go_wp2_with fail
      refine S6.out.mono ?_
      rintro e w6 ⟨⟨v6, rfl, hn6⟩, hu6⟩
      have HU6 := Lib.hid (HU5.out.trans hu6)
      obtain ⟨g6, ⟨p1, p2, k1, k2, hv6, s1, s2, rfl⟩, o6, b6⟩ := hn6
      cases hv6
      obtain ⟨pa, pc, rfl, -, -, -⟩ := slF1_open s1
      obtain ⟨qa, qc, rfl, -, -, -⟩ := slF3_open s2
      simp only at s1 s2
      obtain ⟨c0, c1, c2, c3, fz⟩ := (HQZ.out w6 HU6.out).facts
      have g0 := fz 0
      have g1 := fz 1
      have g2 := fz 2
      have g3 := fz 3
      obtain ⟨r0, r1, r2, r3, -⟩ := ((HQZ.out w6 HU6.out).store T.st T.ini (.slice pa T.labs.length pc) (.slice qa (fltTo T.eds (keepF T.eds (idS set)) T.eds.length).length qc)).facts
      have uS : Upd [BX + 1] w6 ((((w6.setCell ⟨BX + 1, 0, none⟩ (ei T.st)).setCell ⟨BX + 1, 1, none⟩ (ei T.ini)).setCell ⟨BX + 1, 2, none⟩ (.slice pa T.labs.length pc)).setCell ⟨BX + 1, 3, none⟩ (.slice qa (fltTo T.eds (keepF T.eds (idS set)) T.eds.length).length qc)) :=
        ((((Upd.refl [BX + 1] w6).setCell (Or.inr (by simp)) _).setCell (Or.inr (by simp)) _).setCell (Or.inr (by simp)) _).setCell (Or.inr (by simp)) _
      have hlt5 : BX + 1 < w5.heap.size := (HQZ.out w5 HU5.out).lt
      have hne : ∀ b ∈ k1 ++ k2, b ∉ [BX + 1] := fun b hb hm => by have := b6 b hb; simp at hm; omega
      have HN := Lib.hid (show New R_L1 w ((((w6.setCell ⟨BX + 1, 0, none⟩ (ei T.st)).setCell ⟨BX + 1, 1, none⟩ (ei T.ini)).setCell ⟨BX + 1, 2, none⟩ (.slice pa T.labs.length pc)).setCell ⟨BX + 1, 3, none⟩ (.slice qa (fltTo T.eds (keepF T.eds (idS set)) T.eds.length).length qc)) (.agg #[ei T.st, ei T.ini, .slice pa T.labs.length pc, .slice qa (fltTo T.eds (keepF T.eds (idS set)) T.eds.length).length qc]) ⟨T.st, T.ini, T.labs, fltTo T.eds (keepF T.eds (idS set)) T.eds.length⟩ from
        ⟨k1 ++ k2, ⟨_, _, k1, k2, rfl, RSk.upd s1 uS (fun b hb => hne b (List.mem_append_left _ hb)), R_E1k.upd s2 uS (fun b hb => hne b (List.mem_append_right _ hb)), rfl⟩, o6.upd uS hne, fun b hb => by have := b6 b hb; have := HUA.out.size; have := HU5.out.size; omega⟩)
      have HE := Lib.hid ((HUA.out.trans HU6.out).fresh uS (fun b hb => Or.inl (by have h0 := HBX.out; simp at hb; omega)))
      clear S6 hu6 s1 s2 o6 b6 fz uS hlt5 hne
      go_wp2_with fail
      refine bodyPost_ret (v := .tuple #[.agg #[ei T.st, ei T.ini, .slice pa T.labs.length pc, .slice qa (fltTo T.eds (keepF T.eds (idS set)) T.eds.length).length qc], .int .i64 0]) (by simp [results, Tryz.results9, go_sem, r0, r1, r2, r3]) rfl ⟨⟨_, by rw [HP.out], ?_⟩, HE.out⟩
      rw [HP.out]; exact HN.out
  · have HP := Lib.hid (HBAD.out hC)
    have hC1 : (C == 0) = false := by simpa using hC
    clear HBAD HCYC HGOOD HOK
    obtain ⟨c0, c1, c2, c3, fz⟩ := (HQZ.out w1 hu1).facts
    have g0 := fz 0
    have g1 := fz 1
    have g2 := fz 2
    have g3 := fz 3
    obtain ⟨r0, r1, r2, r3, -⟩ := ((HQZ.out w1 hu1).store 0 0 (.slice none 0 0) (.slice none 0 0)).facts
    have HE := Lib.hid (show Upd [] w ((((w1.setCell ⟨BX + 1, 0, none⟩ (ei 0)).setCell ⟨BX + 1, 1, none⟩ (ei 0)).setCell ⟨BX + 1, 2, none⟩ (.slice none 0 0)).setCell ⟨BX + 1, 3, none⟩ (.slice none 0 0)) from by
      have h0 := HBX.out
      exact ((((HUA.out.trans hu1).setCell (Or.inl (by simp; omega)) _).setCell (Or.inl (by simp; omega)) _).setCell (Or.inl (by simp; omega)) _).setCell (Or.inl (by simp; omega)) _)
    clear fz hu1 hBX hszA
    go_wp2_with fail
    refine bodyPost_ret (v := .tuple #[.agg #[ei 0, ei 0, .slice none 0 0, .slice none 0 0], .int .i64 C]) (by simp [results, Tryz.results9, go_sem, r0, r1, r2, r3]) rfl ⟨⟨_, by rw [HP.out], ?_⟩, HE.out⟩
    rw [HP.out]; exact new_zero _ _

end Go.Proofs.YtlondofadjcooaaGreatDoor
