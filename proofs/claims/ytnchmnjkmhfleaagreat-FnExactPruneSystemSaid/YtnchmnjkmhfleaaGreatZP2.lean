/-
  Texts joined in one file: Lib3, HarnW, Lib4, Lib5, Lib6, Lib9, ConE, IdxI, FirstP, CmpS, LabSn, LabSv, LabSq, LabSw, DatS, Cells, HarnE, HarnL, LabJ, OpenB, Draw, Canon, CanonW, CanonV, Forms, Vals, Eval, EvalS, R8, R8V, LabC, BisS, DecQ, DecL, OpenQ, OpenW, OpenC.
-/
import Derived.Test.YtnchmnjkmhfleaaGreatZP1
import Derived.Deep.MidRow
import Derived.Lib.SliceRun
import Derived.Deep.AppendLies
import Derived.Deep.RegionLaw
import Derived.Deep.RegionHeld3
import Derived.Deep.QuietTactic
import Derived.BigQuiet
/-
  Readings of slices whose elements are several cells each and hold memory of their own.
-/
namespace Go.Proofs.YtnchmnjkmhfleaaGreat
open Go.RowKit

theorem flat_len {β : Type} {n : Nat} : ∀ {us : List (List β)}, (∀ u ∈ us, u.length = n) → us.flatten.length = us.length * n
  | [], _ => by simp
  | u :: us, h => by
    rw [List.flatten_cons, List.length_append, h u (by simp), flat_len (fun v hv => h v (by simp [hv])), List.length_cons, Nat.add_mul]
    omega
theorem flat_at {β : Type} {n : Nat} : ∀ {us : List (List β)}, (∀ u ∈ us, u.length = n) → ∀ {i : Nat} {u : List β}, us[i]? = some u → ∀ {j : Nat} {c : β}, u[j]? = some c → us.flatten[i * n + j]? = some c
  | [], _, i, u, hu, _, _, _ => by simp at hu
  | v :: us, h, i, u, hu, j, c, hc => by
    have hv := h v (by simp)
    rw [List.flatten_cons]
    cases i with
    | zero =>
      simp at hu; subst hu
      rw [Nat.zero_mul, Nat.zero_add, List.getElem?_append_left (List.getElem?_eq_some_iff.1 hc).1]; exact hc
    | succ i =>
      simp at hu
      rw [List.getElem?_append_right (by rw [Nat.add_mul]; omega), hv, show (i + 1) * n + j - n = i * n + j by rw [Nat.add_mul]; omega]
      exact flat_at (fun x hx => h x (by simp [hx])) hu hc

/-- A slice whose elements are n cells each, and hold memory of their own. -/
def slQ {α : Type} (n : Nat) (R : Rp α) : Rp (List α) := fun fp w cs xs =>
  ∃ (a : Option Addr) (cap : Nat) (us : List (List Value)) (fb : List Nat) (fps : List (List Nat)), cs = [.slice a xs.length cap] ∧ xs.length ≤ cap ∧ cap ≤ maxLen ∧ us.length = xs.length ∧ (∀ u ∈ us, u.length = n) ∧ fps.length = xs.length ∧ fp = fb ++ fps.flatten ∧
    ((xs.length = 0 ∧ fb = []) ∨ ∃ b off, a = some ⟨b, off, none⟩ ∧ fb = [b] ∧ b < w.heap.size ∧ ∀ (i j : Nat) (u : List Value) (c : Value), us[i]? = some u → u[j]? = some c → w.cell? ⟨b, off + i * n + j, none⟩ = some c) ∧
    ∀ i (h : i < xs.length) u (f : List Nat), us[i]? = some u → fps[i]? = some f → R f w u xs[i]

theorem slQ_kept {α : Type} {n : Nat} {R : Rp α} (K : Kept R) : Kept (slQ n R) := by
  constructor
  · rintro fp w cs x ⟨a, cap, us, fb, fps, rfl, h1, h2, hu, hn, hl, rfl, hb, hr⟩ b hm
    rcases List.mem_append.1 hm with hm | hm
    · rcases hb with ⟨-, rfl⟩ | ⟨b', off, rfl, rfl, hbl, -⟩
      · simp at hm
      · simp at hm; subst hm; exact hbl
    · obtain ⟨f, hfm, hbf⟩ := List.mem_flatten.1 hm
      obtain ⟨i, hi, rfl⟩ := List.mem_iff_getElem.1 hfm
      exact K.lt (hr i (by omega) us[i] fps[i] (by simp) (by simp)) b hbf
  · rintro fp w w' cs x ⟨a, cap, us, fb, fps, rfl, h1, h2, hu, hn, hl, rfl, hb, hr⟩ hs hm
    refine ⟨a, cap, us, fb, fps, rfl, h1, h2, hu, hn, hl, rfl, ?_, fun i h u f hu' hf' => ?_⟩
    · rcases hb with hb | ⟨b', off, rfl, rfl, hbl, hc⟩
      · exact Or.inl hb
      · refine Or.inr ⟨b', off, rfl, rfl, by omega, fun i j u c hu' hc' => ?_⟩
        rw [World.cell?_of_block (w := w) (hm b' (by simp))]; exact hc i j u c hu' hc'
    · exact K.frame (hr i h u f hu' hf') hs fun b hbf => hm b (List.mem_append_right _ (List.mem_flatten.2 ⟨f, List.mem_of_getElem? hf', hbf⟩))

theorem slQ_open {α : Type} {n : Nat} {R : Rp α} {fp : List Nat} {w : World} {v : Value} {xs : List α} (h : slQ n R fp w [v] xs) :
    ∃ a cap, v = .slice a xs.length cap ∧ xs.length ≤ cap ∧ cap ≤ maxLen ∧
      ∀ i (h : i < xs.length), ∃ b off u f, a = some ⟨b, off, none⟩ ∧ b ∈ fp ∧ b < w.heap.size ∧ u.length = n ∧ (∀ (j : Nat) c, u[j]? = some c → w.cell? ⟨b, off + i * n + j, none⟩ = some c) ∧ (∀ c ∈ f, c ∈ fp) ∧ R f w u xs[i] := by
  obtain ⟨a, cap, us, fb, fps, hv, h1, h2, hu, hn, hl, rfl, hb, hr⟩ := h
  cases hv
  refine ⟨a, cap, rfl, h1, h2, fun i hi => ?_⟩
  rcases hb with ⟨h0, -⟩ | ⟨b, off, rfl, rfl, hbl, hc⟩
  · omega
  · have hu' : us[i]? = some us[i] := by simp
    have hf' : fps[i]? = some fps[i] := by simp
    exact ⟨b, off, us[i], fps[i], rfl, by simp, hbl, hn _ (List.mem_of_getElem? hu'), fun j c hj => hc i j _ c hu' hj, fun c hc => List.mem_append_right _ (List.mem_flatten.2 ⟨_, List.mem_of_getElem? hf', hc⟩), hr i hi _ _ hu' hf'⟩

theorem slQ_nil {α : Type} {n : Nat} {R : Rp α} (w : World) (a : Option Addr) (cap : Nat) (h : cap ≤ maxLen) : slQ n R [] w [.slice a 0 cap] ([] : List α) :=
  ⟨a, cap, [], [], [], rfl, Nat.zero_le _, h, rfl, by simp, rfl, rfl, Or.inl ⟨rfl, rfl⟩, by simp⟩

/-- the first elements of a slice. -/
theorem slQ_take {α : Type} {n : Nat} {R : Rp α} {fp : List Nat} {w : World} {a : Option Addr} {cap m : Nat} {xs : List α} (h : slQ n R fp w [.slice a m cap] xs) (k : Nat) (hk : k ≤ xs.length) :
    ∃ fp', slQ n R fp' w [.slice a k cap] (xs.take k) ∧ ∀ b ∈ fp', b ∈ fp := by
  obtain ⟨a', cap', us, fb, fps, hv, h1, h2, hu, hn, hl, rfl, hb, hr⟩ := h
  simp only [List.cons.injEq, Value.slice.injEq, and_true] at hv
  obtain ⟨rfl, rfl, rfl⟩ := hv
  have hlk : (xs.take k).length = k := by simp; omega
  by_cases h0 : k = 0
  · subst h0
    exact ⟨[], by simpa using slQ_nil w a cap h2, by simp⟩
  · refine ⟨fb ++ (fps.take k).flatten, ⟨a, cap, us.take k, fb, fps.take k, by rw [hlk], by rw [hlk]; omega, h2, by simp [hu], fun u hu' => hn u (List.mem_of_mem_take hu'), by simp [hl], rfl, ?_, ?_⟩, ?_⟩
    · rcases hb with ⟨hx, -⟩ | ⟨b, off, rfl, rfl, hbl, hc⟩
      · omega
      · refine Or.inr ⟨b, off, rfl, rfl, hbl, fun i j u c hu' hc' => hc i j u c ?_ hc'⟩
        rw [List.getElem?_take] at hu'
        split at hu'
        · exact hu'
        · cases hu'
    · intro i hi u f hu' hf'
      have hik : i < k := by rw [hlk] at hi; exact hi
      rw [List.getElem?_take, if_pos hik] at hu' hf'
      rw [List.getElem_take]
      exact hr i (by omega) u f hu' hf'
    · intro b hb'
      rcases List.mem_append.1 hb' with hb' | hb'
      · exact List.mem_append_left _ hb'
      · obtain ⟨f, hf, hbf⟩ := List.mem_flatten.1 hb'
        exact List.mem_append_right _ (List.mem_flatten.2 ⟨f, List.mem_of_mem_take hf, hbf⟩)

/-- One element of a slice that is owned is written, its cells and its own memory: the others stay. -/
theorem slQ_set {α : Type} {n : Nat} {R : Rp α} (K : Kept R) {fp : List Nat} {w : World} {v : Value} {xs : List α} (h : slQ n R fp w [v] xs) (hO : Own fp w) (i : Nat) (hi : i < xs.length) :
    ∃ a cap b off u f, v = .slice a xs.length cap ∧ xs.length ≤ cap ∧ cap ≤ maxLen ∧ a = some ⟨b, off, none⟩ ∧ b ∈ fp ∧ b < w.heap.size ∧ u.length = n ∧ (∀ (j : Nat) c, u[j]? = some c → w.cell? ⟨b, off + i * n + j, none⟩ = some c) ∧ (∀ c ∈ f, c ∈ fp) ∧ b ∉ f ∧ R f w u xs[i] ∧ Own f w ∧ Own [b] w ∧
      ∀ w' y u', Upd (b :: f) w w' → (∀ o, (o < off + i * n ∨ off + i * n + n ≤ o) → w'.cell? ⟨b, o, none⟩ = w.cell? ⟨b, o, none⟩) → u'.length = n → (∀ (j : Nat) c, u'[j]? = some c → w'.cell? ⟨b, off + i * n + j, none⟩ = some c) → R f w' u' y → Own f w' → Own [b] w' → slQ n R fp w' [v] (xs.set i y) ∧ Own fp w' := by
  obtain ⟨a, cap, us, fb, fps, hv, h1, h2, hu, hn, hl, rfl, hb, hr⟩ := h
  cases hv
  rcases hb with ⟨h0, -⟩ | ⟨b, off, rfl, rfl, hbl, hc⟩
  · omega
  · have hu' : us[i]? = some us[i] := by simp
    have hf : fps[i]? = some fps[i] := by simp
    obtain ⟨hnd, hrow⟩ := hO
    have hnd' := hnd
    rw [List.nodup_append] at hnd'
    obtain ⟨-, hnf, hdis⟩ := hnd'
    have hsub : ∀ c ∈ fps[i], c ∈ [b] ++ fps.flatten := fun c hc => List.mem_append_right _ (List.mem_flatten.2 ⟨_, List.mem_of_getElem? hf, hc⟩)
    have hbn : ∀ g ∈ fps, b ∉ g := fun g hg hm => hdis b (by simp) b (List.mem_flatten.2 ⟨_, hg, hm⟩) rfl
    have hother : ∀ j g, fps[j]? = some g → j ≠ i → ∀ c ∈ g, c ∉ fps[i] := by
      intro j g hg hji c hcg hci
      rw [nodup_flatten'] at hnf
      have hp := List.pairwise_iff_getElem.1 hnf.2
      obtain ⟨hjl, rfl⟩ := List.getElem?_eq_some_iff.1 hg
      rcases Nat.lt_or_gt_of_ne hji with h | h
      · exact hp j i hjl (by omega) h _ hcg _ hci rfl
      · exact hp i j (by omega) hjl h _ hci _ hcg rfl
    refine ⟨_, cap, b, off, us[i], fps[i], rfl, h1, h2, rfl, by simp, hbl, hn _ (List.mem_of_getElem? hu'), fun j c hj => hc i j _ c hu' hj, hsub, hbn _ (List.mem_of_getElem? hf), hr i hi _ _ hu' hf, ⟨?_, fun c hc => hrow c (hsub c hc)⟩, ⟨by simp, fun c hc => hrow c (by simp at hc; simp [hc])⟩, ?_⟩
    · rw [nodup_flatten'] at hnf; exact hnf.1 _ (List.mem_of_getElem? hf)
    · intro w' y u' hU hfar hul hput hR' hO1 hO2
      refine ⟨⟨_, cap, us.set i u', [b], fps, by simp, by simpa using h1, h2, by simpa using hu, ?_, by simpa using hl, rfl, Or.inr ⟨b, off, rfl, rfl, Nat.lt_of_lt_of_le hbl hU.size, ?_⟩, ?_⟩, ⟨hnd, ?_⟩⟩
      · intro x hx
        rcases List.mem_or_eq_of_mem_set hx with hx | rfl
        · exact hn x hx
        · exact hul
      · intro i2 j x c hx hj
        rw [List.getElem?_set] at hx
        by_cases e : i = i2
        · subst e
          rw [if_pos rfl, if_pos (by omega)] at hx
          cases hx
          exact hput j c hj
        · rw [if_neg e] at hx
          have hxl := hn x (List.mem_of_getElem? hx)
          have hjl := (List.getElem?_eq_some_iff.1 hj).1
          rw [hfar _ (by
            rcases Nat.lt_or_gt_of_ne e with h | h
            · right
              have : (i + 1) * n ≤ i2 * n := Nat.mul_le_mul_right _ h
              rw [Nat.add_mul] at this; omega
            · left
              have : (i2 + 1) * n ≤ i * n := Nat.mul_le_mul_right _ h
              rw [Nat.add_mul] at this; omega)]
          exact hc i2 j x c hx hj
      · intro j hj x g hx hg
        by_cases hji : j = i
        · subst hji
          rw [List.getElem?_set, if_pos rfl, if_pos (by omega)] at hx
          rw [hf] at hg; cases hx; cases hg
          simpa using hR'
        · rw [List.getElem?_set_ne (by omega)] at hx
          rw [List.getElem_set_ne (by omega)]
          refine K.upd (hr j (by simpa using hj) x g hx hg) hU (fun d hd hm => ?_)
          rcases List.mem_cons.1 hm with hm | hm
          · subst hm; exact hbn g (List.mem_of_getElem? hg) hd
          · exact hother j g hg hji d hd hm
      · intro c hc
        by_cases hcb : c = b
        · subst hcb; exact hO2.2 c (by simp)
        · by_cases hci : c ∈ fps[i]
          · exact hO1.2 c hci
          · rw [hU.block c (by obtain ⟨_, _, hh⟩ := hrow c hc; exact (Array.getElem?_eq_some_iff.1 hh).1) (by simp [hcb, hci])]
            exact hrow c hc

/-- Elements of several cells each, with memory of their own, from block base on and apart from the blocks ob. -/
def RowsQ {α : Type} (n : Nat) (R : Rp α) (base : Nat) (ob : List Nat) (w : World) (us : List (List Value)) (xs : List α) : Prop :=
  ∃ fps : List (List Nat), fps.length = xs.length ∧ us.length = xs.length ∧ (∀ u ∈ us, u.length = n) ∧ Own fps.flatten w ∧ (∀ b ∈ fps.flatten, base ≤ b ∧ b ∉ ob) ∧
    ∀ i (h : i < xs.length) u (f : List Nat), us[i]? = some u → fps[i]? = some f → R f w u xs[i]

/-- What a call makes anew, as several cells. -/
def NewQ {α : Type} (R : Rp α) (w w' : World) (u : List Value) (x : α) : Prop :=
  ∃ fp, R fp w' u x ∧ Own fp w' ∧ ∀ b ∈ fp, w.heap.size ≤ b

namespace RowsQ
variable {α : Type} {n : Nat} {R : Rp α} {base : Nat} {ob : List Nat} {w w1 : World} {us : List (List Value)} {xs : List α}

theorem nil (n : Nat) (R : Rp α) (base : Nat) (ob : List Nat) (w : World) : RowsQ n R base ob w [] [] := ⟨[], rfl, rfl, by simp, Own.nil w, by simp, by simp⟩
theorem length (h : RowsQ n R base ob w us xs) : us.length = xs.length := by obtain ⟨_, _, h, _⟩ := h; exact h
theorem each (h : RowsQ n R base ob w us xs) : ∀ u ∈ us, u.length = n := by obtain ⟨_, _, _, h, _⟩ := h; exact h
theorem flat (h : RowsQ n R base ob w us xs) : us.flatten.length = xs.length * n := by rw [flat_len h.each, h.length]

theorem upd (K : Kept R) (h : RowsQ n R base ob w us xs) {f : List Nat} (hu : Upd f w w1) (hf : ∀ b ∈ f, b ∈ ob ∨ b < base) : RowsQ n R base ob w1 us xs := by
  obtain ⟨fps, h1, h2, h6, h3, h4, h5⟩ := h
  have hd : ∀ b ∈ fps.flatten, b ∉ f := fun b hb hm => by
    rcases hf b hm with h | h
    · exact (h4 b hb).2 h
    · have := (h4 b hb).1; omega
  refine ⟨fps, h1, h2, h6, h3.upd hu hd, h4, fun i hi u f' hu' hf' => K.upd (h5 i hi u f' hu' hf') hu fun b hb => hd b (List.mem_flatten.2 ⟨_, List.mem_of_getElem? hf', hb⟩)⟩

theorem ob' (h : RowsQ n R base ob w us xs) {ob2 : List Nat} (hb : ∀ b ∈ ob2, b ∈ ob ∨ b < base ∨ w.heap.size ≤ b) : RowsQ n R base ob2 w us xs := by
  obtain ⟨fps, h1, h2, h6, h3, h4, h5⟩ := h
  refine ⟨fps, h1, h2, h6, h3, fun b hb' => ⟨(h4 b hb').1, fun hm => ?_⟩, h5⟩
  rcases hb b hm with h | h | h
  · exact (h4 b hb').2 h
  · have := (h4 b hb').1; omega
  · have := h3.lt b hb'; omega

theorem push (K : Kept R) (h : RowsQ n R base ob w us xs) {u : List Value} {x : α} (hu : Upd [] w w1) (hn : NewQ R w w1 u x) (hl : u.length = n) (hb : base ≤ w.heap.size) (hob : ∀ b ∈ ob, b < w.heap.size) :
    RowsQ n R base ob w1 (us ++ [u]) (xs ++ [x]) := by
  obtain ⟨fps, h1, h2, h6, h3, h4, h5⟩ := h.upd K hu (by simp)
  obtain ⟨fps', h1', h2', h6', h3', h4', h5'⟩ := h
  obtain ⟨fp, g1, g2, g3⟩ := hn
  have hlt : ∀ b ∈ fps'.flatten, b < w.heap.size := h3'.lt
  refine ⟨fps' ++ [fp], by simp [h1'], by simp [h2], ?_, ⟨?_, ?_⟩, ?_, ?_⟩
  · intro v hv
    rcases List.mem_append.1 hv with hv | hv
    · exact h6 v hv
    · simp at hv; subst hv; exact hl
  · rw [List.flatten_append, List.nodup_append]
    refine ⟨h3'.1, by simpa using g2.1, fun a ha b hb' e => ?_⟩
    subst e
    have := hlt a ha
    have := g3 a (by simpa using hb')
    omega
  · intro b hb'
    rw [List.flatten_append] at hb'
    rcases List.mem_append.1 hb' with hb' | hb'
    · exact (h3'.upd hu (by simp)).2 b hb'
    · exact g2.2 b (by simpa using hb')
  · intro b hb'
    rw [List.flatten_append] at hb'
    rcases List.mem_append.1 hb' with hb' | hb'
    · exact h4' b hb'
    · have := g3 b (by simpa using hb')
      exact ⟨by omega, fun hm => by have := hob b hm; omega⟩
  · intro i hi u' f' hu' hf'
    by_cases e : i < xs.length
    · rw [List.getElem?_append_left (by omega)] at hu' hf'
      rw [List.getElem_append_left e]
      exact K.upd (h5' i e u' f' hu' hf') hu (by simp)
    · have ei : i = xs.length := by simp at hi; omega
      subst ei
      rw [List.getElem?_append_right (by omega)] at hu' hf'
      rw [h2, Nat.sub_self] at hu'
      rw [h1', Nat.sub_self] at hf'
      simp at hu' hf'
      subst hu' hf'
      simpa using g1

theorem new (h : RowsQ n R base ob w us xs) {w0 : World} {e : TypeId} {v : Value} (ho : w.ownsRow w0.heap.size e n v xs.length us.flatten) (hob : ∀ b, v.ownBlock = some b → b ∈ ob) (hb : w0.heap.size ≤ base) :
    New (slQ n R) w0 w v xs := by
  obtain ⟨fps, h1, h2, h6, h3, h4, h5⟩ := h
  obtain ⟨fb, ⟨a, cap, rfl, q1, q2, -, q4⟩, g2, g3, g4⟩ := Flat.ofOwns ho
  refine ⟨fb ++ fps.flatten, ⟨a, cap, us, fb, fps, rfl, q1, q2, h2, h6, h1, rfl, ?_, h5⟩, ⟨?_, ?_⟩, ?_⟩
  · rcases q4 with q4 | ⟨b, off, rfl, rfl, hbl, hc⟩
    · exact Or.inl q4
    · refine Or.inr ⟨b, off, rfl, rfl, hbl, fun i j u c hu hj => ?_⟩
      rw [Nat.add_assoc]
      exact hc _ _ (flat_at h6 hu hj)
  · rw [List.nodup_append]
    refine ⟨g2.1, h3.1, fun a ha b hb' e => ?_⟩
    subst e
    exact (h4 a hb').2 (hob a (g4 a ha))
  · intro b hb'
    rcases List.mem_append.1 hb' with hb' | hb'
    · exact g2.2 b hb'
    · exact h3.2 b hb'
  · intro b hb'
    rcases List.mem_append.1 hb' with hb' | hb'
    · exact g3 b hb'
    · have := (h4 b hb').1; omega
end RowsQ

/-- cells put into a list one behind the other. -/
def putAt {β : Type} : List β → Nat → List β → List β
  | cs, _, [] => cs
  | cs, o, v :: vs => putAt (cs.set o v) (o + 1) vs
theorem putAt_mid {β : Type} : ∀ (vs A old B : List β), old.length = vs.length → putAt (A ++ old ++ B) A.length vs = A ++ vs ++ B
  | [], A, old, B, h => by
    obtain rfl : old = [] := List.eq_nil_of_length_eq_zero h
    rfl
  | v :: vs, A, o :: old, B, h => by
    rw [putAt, List.append_assoc, List.set_append_right _ _ (Nat.le_refl _), Nat.sub_self, List.cons_append, List.set_cons_zero]
    have := putAt_mid vs (A ++ [v]) old B (by simpa using h)
    simpa using this
theorem ownsRow_setCells {base : Nat} {e : TypeId} {n B L cap : Nat} : ∀ (vs : List Value) {w : World} {cs : List Value} (o : Nat), w.ownsRow base e n (.slice (some ⟨B, 0, none⟩) L cap) L cs → o + vs.length ≤ L * n →
    (w.setCells B o vs).ownsRow base e n (.slice (some ⟨B, 0, none⟩) L cap) L (putAt cs o vs)
  | [], _, _, _, h, _ => h
  | v :: vs, w, cs, o, h, hl => by
    rw [World.setCells, putAt]
    exact ownsRow_setCells vs (o + 1) (h.stored o v).1 (by simp at hl; omega)
theorem upd_setCells {f : List Nat} {w : World} (b : Nat) (hp : w.heap.size ≤ b ∨ b ∈ f) : ∀ (vs : List Value) (o : Nat) {w1 : World}, Upd f w w1 → Upd f w (w1.setCells b o vs)
  | [], _, _, h => h
  | v :: vs, o, _, h => by
    rw [World.setCells]
    exact upd_setCells b hp vs (o + 1) (h.setCell (p := ⟨b, o, none⟩) hp v)
/-- a made row of which the first elements are filled in: one more. -/
theorem filled_set {β : Type} (us : List (List β)) (z : List β) (m n : Nat) (hz : z.length = n) (hu : ∀ u ∈ us, u.length = n) (u : List β) (hl : u.length = n) :
    putAt (us.flatten ++ (List.replicate (m + 1) z).flatten) (us.length * n) u = (us ++ [u]).flatten ++ (List.replicate m z).flatten := by
  rw [List.replicate_succ, List.flatten_cons, ← List.append_assoc, ← flat_len hu, putAt_mid _ _ _ _ (by omega)]
  simp

theorem made_Q {n : Nat} (L : List Value) (hn : L.length = n) (h0 : 0 < n) (m : Nat) : (madeCells (Value.agg L.toArray).cells (m * n)).toList = (List.replicate m L).flatten := by
  apply List.ext_getElem?
  intro i
  have hsz : (Value.agg L.toArray).cells.size = n := by simpa [Value.cells] using hn
  by_cases hi : i < m * n
  · have h2 : i / n < m := by
      have := Nat.div_mul_le_self i n
      rcases Nat.lt_or_ge (i / n) m with h | h
      · exact h
      · have := Nat.mul_le_mul_right n h; omega
    have h3 : i % n < L.length := by rw [hn]; exact Nat.mod_lt _ h0
    have g := flat_at (n := n) (us := List.replicate m L) (by intro u hu; rw [(List.mem_replicate.1 hu).2]; exact hn) (i := i / n) (u := L) (by rw [List.getElem?_replicate, if_pos h2]) (j := i % n) (c := L[i % n]) (List.getElem?_eq_getElem h3)
    have hd : i / n * n + i % n = i := by rw [Nat.mul_comm]; exact Nat.div_add_mod i n
    rw [hd] at g
    rw [g]
    simp [madeCells, hi, Value.cells, hn]
    rw [List.getElem?_eq_getElem h3]; rfl
  · have g : (List.replicate m L).flatten.length = m * n := by
      rw [flat_len (n := n) (by intro u hu; rw [(List.mem_replicate.1 hu).2]; exact hn)]; simp
    have h4 : (madeCells (Value.agg L.toArray).cells (m * n)).toList.length = m * n := by simp [madeCells]
    rw [List.getElem?_eq_none (by omega), List.getElem?_eq_none (by omega)]

theorem Upd.keepF {f : List Nat} {w w1 : World} {b o : Nat} {v : Value} (hu : Upd f w w1) (hb : b ∉ f) (h : w.cell? ⟨b, o, none⟩ = some v) : w1.cell? ⟨b, o, none⟩ = some v := by
  have hl := World.block_lt_of_cell? w _ h
  unfold World.cell? at h ⊢
  rw [hu.block b hl hb]; exact h
theorem Upd.cellF {f : List Nat} {w w1 : World} {b : Nat} (hu : Upd f w w1) (hb : b ∉ f) (hl : b < w.heap.size) (o : Nat) : w1.cell? ⟨b, o, none⟩ = w.cell? ⟨b, o, none⟩ := by
  unfold World.cell?
  rw [hu.block b hl hb]
theorem Upd.row {f : List Nat} {w w1 : World} (h : Upd f w w1) {g : Nat} (hg : w.heap.size ≤ g ∨ g ∈ f) (cs : Array Value) : Upd f w (w1.setRow g cs) :=
  h.fresh (f := [g]) ⟨rfl, rfl, rfl, by simp [World.setRow], fun k _ hf => setRow_other _ _ _ _ (by simpa using hf)⟩ (by simpa using hg)
theorem own_split {f g : List Nat} {w : World} (h : Own (f ++ g) w) : Own f w ∧ Own g w ∧ ∀ b ∈ f, b ∉ g := by
  obtain ⟨h1, h2⟩ := h
  rw [List.nodup_append] at h1
  exact ⟨⟨h1.1, fun b hb => h2 b (by simp [hb])⟩, ⟨h1.2.1, fun b hb => h2 b (by simp [hb])⟩, fun b hb hc => h1.2.2 b hb b hc rfl⟩
theorem own_join {f g : List Nat} {w : World} (h1 : Own f w) (h2 : Own g w) (hd : ∀ b ∈ f, b ∉ g) : Own (f ++ g) w := by
  refine ⟨?_, fun b hb => ?_⟩
  · rw [List.nodup_append]
    exact ⟨h1.1, h2.1, fun a ha b hb e => hd a ha (e ▸ hb)⟩
  · rcases List.mem_append.1 hb with hb | hb
    · exact h1.2 b hb
    · exact h2.2 b hb
/-- memory made between two worlds, as it lies later. -/
structure Part {α : Type} (R : Rp α) (lo hi : Nat) (w : World) (v : Value) (x : α) (fp : List Nat) : Prop where
  r : R fp w [v] x
  o : Own fp w
  b : ∀ b ∈ fp, lo ≤ b ∧ b < hi
theorem Part.of {α : Type} {R : Rp α} (K : Kept R) {w w1 : World} {v : Value} {x : α} (h : New R w w1 v x) : ∃ fp, Part R w.heap.size w1.heap.size w1 v x fp := by
  obtain ⟨fp, h1, h2, h3⟩ := h
  exact ⟨fp, h1, h2, fun b hb => ⟨h3 b hb, K.lt h1 b hb⟩⟩
theorem Part.upd {α : Type} {R : Rp α} (K : Kept R) {lo hi : Nat} {w w1 : World} {v : Value} {x : α} {fp f : List Nat} (h : Part R lo hi w v x fp) (hu : Upd f w w1) (hf : ∀ b ∈ f, b < lo ∨ hi ≤ b) : Part R lo hi w1 v x fp := by
  have hd : ∀ b ∈ fp, b ∉ f := fun b hb hm => by have := h.b b hb; have := hf b hm; omega
  exact ⟨K.upd h.r hu hd, h.o.upd hu hd, h.b⟩
theorem New.formQ {α : Type} {n : Nat} {R : Rp α} {w w' : World} {v : Value} {x : List α} (h : New (slQ n R) w w' v x) : ∃ a cap, v = .slice a x.length cap := by
  obtain ⟨fp, ⟨a, cap, us, fb, fps, hv, -⟩, -⟩ := h
  cases hv; exact ⟨a, cap, rfl⟩

/-- outside of a part of block b the cells are as they were. -/
def FarEq (w w' : World) (b lo hi : Nat) : Prop := ∀ o, (o < lo ∨ hi ≤ o) → w'.cell? ⟨b, o, none⟩ = w.cell? ⟨b, o, none⟩
theorem FarEq.refl (w : World) (b lo hi : Nat) : FarEq w w b lo hi := fun _ _ => rfl
theorem FarEq.upd {w w1 w2 : World} {b lo hi : Nat} {f : List Nat} (h : FarEq w w1 b lo hi) (hu : Upd f w1 w2) (hb : b ∉ f) (hl : b < w1.heap.size) : FarEq w w2 b lo hi := fun o ho => (hu.cellF hb hl o).trans (h o ho)
theorem FarEq.put {w w1 w2 : World} {b lo hi j : Nat} (h : FarEq w w1 b lo hi) (hc : ∀ o, o ≠ j → w2.cell? ⟨b, o, none⟩ = w1.cell? ⟨b, o, none⟩) (hj : lo ≤ j ∧ j < hi) : FarEq w w2 b lo hi := fun o ho => (hc o (by omega)).trans (h o ho)

/-- three blocks in a row: what came in, the result's, and the one under way. -/
structure Three (w W : World) (T1 T2 : TypeId) (B : Nat) (p z o : List Value) : Prop where
  base : w.heap.size = B
  upd : Upd [] w W
  h0 : W.heap[B]? = some (.cells p.toArray T1 (0, 0))
  h1 : W.heap[B + 1]? = some (.cells z.toArray T2 (0, 0))
  h2 : W.heap[B + 2]? = some (.cells o.toArray T2 (0, 0))
namespace Three
variable {w W W' : World} {T1 T2 : TypeId} {B : Nat} {p z o : List Value}
theorem mk0 (w : World) (T1 T2 : TypeId) (p z o : List Value) : Three w (((w.alloc (.cells p.toArray T1)).alloc (.cells z.toArray T2)).alloc (.cells o.toArray T2)) T1 T2 w.heap.size p z o := by
  have s1 : (w.alloc (.cells p.toArray T1)).heap.size = w.heap.size + 1 := by simp
  have s2 : ((w.alloc (.cells p.toArray T1)).alloc (.cells z.toArray T2)).heap.size = w.heap.size + 2 := by simp
  refine ⟨rfl, (((Upd.refl _ _).alloc _).alloc _).alloc _, ?_, ?_, ?_⟩
  · rw [Below.heap_alloc _ _ _ (by omega), Below.heap_alloc _ _ _ (by omega)]; exact heap_alloc_new w _
  · rw [Below.heap_alloc _ _ _ (by omega), ← s1]; exact heap_alloc_new _ _
  · rw [← s2]; exact heap_alloc_new _ _
theorem size (h : Three w W T1 T2 B p z o) : B + 2 < W.heap.size := (Array.getElem?_eq_some_iff.1 h.h2).1
theorem call (h : Three w W T1 T2 B p z o) (hu : Upd [] W W') : Three w W' T1 T2 B p z o :=
  ⟨h.base, h.upd.trans hu, by rw [hu.block _ (Array.getElem?_eq_some_iff.1 h.h0).1 (by simp)]; exact h.h0, by rw [hu.block _ (Array.getElem?_eq_some_iff.1 h.h1).1 (by simp)]; exact h.h1, by rw [hu.block _ (Array.getElem?_eq_some_iff.1 h.h2).1 (by simp)]; exact h.h2⟩
theorem store (h : Three w W T1 T2 B p z o) (j : Nat) (v : Value) : Three w (W.setCell ⟨B + 2, j, none⟩ v) T1 T2 B p z (o.set j v) := by
  refine ⟨h.base, h.upd.setCell (Or.inl (by rw [h.base]; simp)) _, ?_, ?_, ?_⟩
  · rw [Below.heap_setCell _ _ _ _ (by simp)]; exact h.h0
  · rw [Below.heap_setCell _ _ _ _ (by simp)]; exact h.h1
  · simp [World.setCell, Array.getElem?_modify, h.h2]
theorem pc (h : Three w W T1 T2 B p z o) (j : Nat) (c : Value) (hc : p[j]? = some c) : W.cell? ⟨B, j, none⟩ = some c := by simp [World.cell?, h.h0, hc]
theorem oc (h : Three w W T1 T2 B p z o) (j : Nat) (c : Value) (hc : o[j]? = some c) : W.cell? ⟨B + 2, j, none⟩ = some c := by simp [World.cell?, h.h2, hc]
theorem fz (h : Three w W T1 T2 B p z o) (j : Nat) : W.frozen? ⟨B + 2, j, none⟩ = false := by simp [World.frozen?, h.h2]
end Three

end Go.Proofs.YtnchmnjkmhfleaaGreat

/-
  Lists of numbers and lists of expressions under the names that the printed texts want.
-/
namespace Go.Proofs.YtnchmnjkmhfleaaGreat
open Go.RowKit

abbrev R_I1 : Rp (List Int) := R1
theorem R_I1k : Kept R_I1 := R1k
def szF_I1 (x : List Int) : Int := x.length
def mkF_I1 (x : List Int) : Int := x.length
theorem szF_I1_nonneg (x : List Int) : 0 ≤ szF_I1 x := by unfold szF_I1; omega
theorem mkF_I1_nonneg (x : List Int) : 0 ≤ mkF_I1 x := by unfold mkF_I1; omega
theorem mkF_I1_le (x : List Int) : mkF_I1 x ≤ 16 * szF_I1 x := by unfold mkF_I1 szF_I1; omega
def up_I1 (k : Int) (r : List Int) : List Int := upFrom k r.length
theorem sz_I1 (v : Value) (xs : List Int) (left : Int) (w : World) (fp : List Nat) (hl : 0 ≤ left) (hl2 : left ≤ 1048576) (hR : R_I1 fp w [v] xs) :
    Calls Tryz.prog 49 #[v, .int .i64 left] w fun e w' => (∃ r : Int, e = .returned (.int .i64 r) ∧ (r = -1 ∨ (0 ≤ r ∧ r + szF_I1 xs = left))) ∧ w = w' := sz1 v xs left w fp hl hl2 hR
theorem to_I1 (v : Value) (xs : List Int) (w : World) (fp : List Nat) (hl : szF_I1 xs ≤ 1048576) (hR : R_I1 fp w [v] xs) :
    Calls Tryz.prog 59 #[v] w fun e w' => (∃ v', e = .returned v' ∧ New R_I1 w w' v' xs) ∧ Upd [] w w' := to1 v xs w fp (by unfold szF_I1 at hl; omega) hR
theorem eq_I1 (v1 v2 : Value) (xs ys : List Int) (w : World) (f1 f2 : List Nat) (h1 : R_I1 f1 w [v1] xs) (h2 : R_I1 f2 w [v2] ys) :
    Calls Tryz.prog 64 #[v1, v2] w fun e w' => e = .returned (.bool (xs == ys)) ∧ Upd [] w w' := (eq1 v1 v2 xs ys w f1 f2 h1 h2).mono fun e w' ⟨h, hu⟩ => ⟨h, by obtain ⟨n, rfl⟩ := hu; exact (Upd.refl _ _).drewN n⟩
theorem mark_I1 (v : Value) (xs : List Int) (k0 : Int) (w : World) (fp : List Nat) (hk0 : 0 ≤ k0) (hk1 : k0 + mkF_I1 xs ≤ 4611686018427387904) (hR : R_I1 fp w [v] xs) (hO : Own fp w) :
    Calls Tryz.prog 69 #[v, .int .i64 k0] w fun e w' => e = .returned (.int .i64 (k0 + mkF_I1 xs)) ∧ R_I1 fp w' [v] (up_I1 k0 xs) ∧ Own fp w' ∧ Upd fp w w' := mark1 v xs k0 w fp hk0 hk1 hR hO
theorem held_I1 (v : Value) (xs : List Int) (k0 : Int) (w : World) (fp : List Nat) (hk0 : 0 ≤ k0) (hk1 : k0 + mkF_I1 xs ≤ 4611686018427387904) (hR : R_I1 fp w [v] (up_I1 k0 xs)) :
    Calls Tryz.prog 113 #[v, .int .i64 k0] w fun e w' => e = .returned (.int .i64 (k0 + mkF_I1 xs)) ∧ w = w' := held1 v xs.length k0 w fp hk0 hk1 hR

theorem szF_T2_snoc (xss : List (List Tm)) (k : Nat) (h : k < xss.length) : ((xss.take (k + 1)).map szF_T1).sum = ((xss.take k).map szF_T1).sum + szF_T1 xss[k] := by
  rw [List.take_succ_eq_append_getElem h, List.map_append, List.sum_append]; simp
theorem szF_T2_take (xss : List (List Tm)) (k : Nat) : ((xss.take k).map szF_T1).sum ≤ (xss.map szF_T1).sum := by
  have h := szF_T2_sum (xss.drop k)
  conv => rhs; rw [← List.take_append_drop k xss]
  rw [List.map_append, List.sum_append]; omega
set_option maxHeartbeats 400000 in
theorem sz_T2 (v : Value) (xs : List (List Tm)) (left : Int) (w : World) (fp : List Nat) (hl : 0 ≤ left) (hl2 : left ≤ 1048576) (hR : R_T2 fp w [v] xs) :
    Calls Tryz.prog 213 #[v, .int .i64 left] w fun e w' => (∃ r : Int, e = .returned (.int .i64 r) ∧ (r = -1 ∨ (0 ≤ r ∧ r + szF_T2 xs = left))) ∧ w = w' := by
  obtain ⟨a, cap, rfl, h1, h2, hc⟩ := slP_open hR
  unfold maxLen at h2
  clear hR
  by_cases hlt : left - (xs.length : Int) < 0
  · go_enter Tryz.func213, Tryz.ntmps213
    go_wp2
    go_ret
    exact ⟨⟨-1, rfl, Or.inl rfl⟩, rfl⟩
  · have hge : 0 ≤ left - (xs.length : Int) := by omega
    clear hlt
    go_enter Tryz.func213, Tryz.ntmps213
    go_wp2
    go_loop [1, 5] (fun kk i => ∃ (k : Nat) (l : Int), k ≤ xs.length ∧ i = .int .i64 k ∧ kk = .int .i64 l ∧ 0 ≤ l ∧ l + xs.length + ((xs.take k).map szF_T1).sum = left) (fun _ i => xs.length - (intOf i).toNat)
    case atStart => exact ⟨0, _, Nat.zero_le _, rfl, rfl, hge, by simp⟩
    case round =>
      obtain ⟨k, l, hk, rfl, rfl, hl0, hl1⟩ := hrel
      by_cases hlt : k < xs.length
      · obtain ⟨b, off, u, f, rfl, -, -, hcell, -, hr⟩ := hc k hlt
        have ht := szF_T2_sum (xs.take k)
        have ht2 := szF_T2_snoc xs k hlt
        have hb2 : l ≤ 1048576 := by omega
        have HT := Lib.hid ht2
        have HL := Lib.hid hl1
        clear hc ht2 hl1 ht
        go_wp2_with fail
        refine (sz_T1 u xs[k] _ _ f (by omega) (by omega) hr).mono ?_
        rintro e w1 ⟨⟨r, rfl, hr2⟩, rfl⟩
        clear hr
        rcases hr2 with rfl | ⟨hr2, hr3⟩
        · go_wp2_with fail
          go_ret
          exact ⟨⟨-1, rfl, Or.inl rfl⟩, rfl⟩
        · have H3 := Lib.hid hr3
          clear hr3
          go_wp2_with fail
          go_round
          case rel => exact ⟨k + 1, r, by omega, by go_num, rfl, hr2, by have := H3.out; have := HL.out; rw [HT.out]; omega⟩
          case measure => simp [intOf]; omega
      · obtain rfl : k = xs.length := by omega
        clear hc
        have HL := Lib.hid hl1
        clear hl1
        go_wp2
        go_ret
        exact ⟨⟨l, rfl, Or.inr ⟨hl0, by have := HL.out; rw [List.take_length] at this; unfold szF_T2; omega⟩⟩, rfl⟩

set_option maxHeartbeats 400000 in
theorem to_T2 (v : Value) (xs : List (List Tm)) (w : World) (fp : List Nat) (hl : szF_T2 xs ≤ 1048576) (hR : R_T2 fp w [v] xs) :
    Calls Tryz.prog 216 #[v] w fun e w' => (∃ v', e = .returned v' ∧ New R_T2 w w' v' xs) ∧ Upd [] w w' := by
  obtain ⟨i0, hi, hz0, hz1, hz2⟩ := info_parts Tryz.infoTS
  obtain ⟨a, cap, rfl, h1, h2, hc⟩ := slP_open hR
  unfold maxLen at h2
  have htn := szF_T2_sum xs
  unfold szF_T2 at hl
  go_enter Tryz.func216, Tryz.ntmps216
  have hm1 : i0.bytes * xs.length ≤ 281474976710656 := by rw [hz2]; omega
  go_wp2_with (first
    | (at_make; refine wpList_make_full _ rfl _ _ 107 rfl w.heap.size 158 i0 (.slice none 0 0) 1 Tryz.underlying107 hi hz0 hz1 .i64 .i64 _ _ xs.length rfl rfl rfl rfl hm1 (by unfold maxLen; omega) (Nat.le_refl _) ?_; intro w1 hown hgrow)
    | fail)
  rw [made_one _ rfl] at hown
  have hsz : w.heap.size < w1.heap.size := by
    have := hown.lt w.heap.size rfl
    omega
  have hU : Upd [] w w1 := (Upd.refl _ _).grown hgrow (by simp)
  clear hgrow hm1
  go_loopw [4] (fun i wr => ∃ (k : Nat) (us : List Value), k ≤ xs.length ∧ i = .int .i64 k ∧ Upd [] w wr ∧ w.heap.size < wr.heap.size ∧
      wr.ownsRow w.heap.size 158 1 (.slice (some ⟨w.heap.size, 0, none⟩) xs.length xs.length) xs.length (us ++ List.replicate (xs.length - k) (.slice none 0 0)) ∧
      Rows R_T1 w.heap.size [w.heap.size] wr us (xs.take k))
    (fun i _ => xs.length - (intOf i).toNat)
  case atStart => exact ⟨0, [], Nat.zero_le _, rfl, hU, hsz, by simpa using hown, Rows.nil _ _ _ _⟩
  case round =>
    obtain ⟨k, us, hk, rfl, hU, hsz, hown, hrows⟩ := hrel
    have hlu : us.length = k := by have := hrows.length; simp at this; omega
    by_cases hlt : k < xs.length
    · obtain ⟨b, off, u, f, rfl, -, hb, hcx, hf, hr⟩ := hc k hlt
      have hcell : wr.cell? ⟨b, off + k, none⟩ = some u := (hU.below.cell hb).trans hcx
      have hr' := R_T1k.upd hr hU (by simp)
      have hxl : szF_T1 xs[k] ≤ 1048576 := by
        have h1 := szF_T2_snoc xs k hlt
        have h2 := szF_T2_take xs (k + 1)
        have h3 := szF_T2_sum (xs.take k)
        omega
      clear hc hr hcx
      have HLU := Lib.hid hlu
      clear hlu
      go_wp2_with fail
      refine (to_T1 u xs[k] _ f hxl hr').mono ?_
      rintro e w2 ⟨⟨v', rfl, hn⟩, hu2⟩
      obtain ⟨a', c', rfl⟩ := hn.form
      have hown2 := hown.kept (row := none) ⟨hu2.os, hu2.tape, hu2.output, hu2.size, fun k hk _ => hu2.block k hk (by simp)⟩ (by cases hv : Value.ownBlock (.slice (some ⟨w.heap.size, 0, none⟩) xs.length xs.length) <;> simp)
      have hcell2 : w2.cell? ⟨w.heap.size, k, none⟩ = some (.slice none 0 0) := by
        rw [hown2.cellAt k (by omega), List.getElem?_append_right (by have := HLU.out; omega), HLU.out, Nat.sub_self, List.getElem?_replicate, if_pos (by omega)]
      have hfr : w2.frozen? ⟨w.heap.size, k, none⟩ = false := hown2.frozenAt k
      have hst := (hown2.stored k (.slice a' xs[k].length c')).1
      rw [List.set_append_right _ _ (by have := HLU.out; omega), HLU.out, Nat.sub_self, show xs.length - k = (xs.length - (k + 1)) + 1 from by omega, List.replicate_succ, List.set_cons_zero,
        show us ++ (.slice a' xs[k].length c') :: List.replicate (xs.length - (k + 1)) (Value.slice none 0 0) = (us ++ [(.slice a' xs[k].length c')]) ++ List.replicate (xs.length - (k + 1)) (Value.slice none 0 0) from by simp] at hst
      have hrows2 := (hrows.push R_T1k hu2 hn (by omega) (by simpa using hsz)).upd R_T1k (f := [w.heap.size]) (w1 := w2.setCell ⟨w.heap.size, k, none⟩ (.slice a' xs[k].length c')) ((Upd.refl _ _).setCell (by simp) _) (by simp)
      rw [← List.take_succ_eq_append_getElem hlt] at hrows2
      have hU2 : Upd [] w (w2.setCell ⟨w.heap.size, k, none⟩ (.slice a' xs[k].length c')) := (hU.trans hu2).setCell (by simp) _
      have hsz2 : w.heap.size < w2.heap.size := by have := hu2.size; omega
      clear hown hown2 hrows hn hu2 hU hr' hf HLU
      have HS := Lib.hid hst
      clear hst
      go_wp2_with fail
      go_roundw
      case rel => exact ⟨k + 1, us ++ [.slice a' xs[k].length c'], by omega, by go_num, hU2, by simpa using hsz2, HS.out, hrows2⟩
      case measure => simp [intOf]; omega
    · obtain rfl : k = xs.length := by omega
      clear hc
      go_wp2
      go_ret
      rw [List.take_length] at hrows
      refine ⟨⟨_, rfl, hrows.new (e := 158) (by simpa using hown) (by simp [Value.ownBlock]) (Nat.le_refl _)⟩, hU⟩

end Go.Proofs.YtnchmnjkmhfleaaGreat

/-
  Append of a whole slice to an owned row, whatever the slice: a law for the walks; slices.Clone and the reference's copies.
-/
namespace Go.Proofs.YtnchmnjkmhfleaaGreat
open Go.RowKit

section
variable {P : Program} {w : World}
theorem run_append_owned_empty (base : Nat) (t ty e : TypeId) (i : TypeInfo) (size : Nat) (ht : P.underlying t = some (.slice e)) (hi : P.info? e = some i)
    (v : Value) (n : Nat) (xs : List Value) (hown : w.ownsRow base e size v n xs) (a : Option Addr) (c : Nat) :
    (Builtin.append_ #[t, t] ty #[v, .slice a 0 c]).run P w = .ok v w := by
  have hf : (Builtin.firstCells i.size 0 (.slice a 0 c)).run P w = .ok #[] w := by
    cases a <;> simp [Builtin.firstCells, loadCells, loadCellsFrom]
  rcases hown.2 with ⟨rfl, rfl⟩ | ⟨g, cap, cur, rfl, _, _, hnc, _⟩
  · simp [Builtin.append_, run_underlying ht, sizeOf, typeInfo, hi, Builtin.lenOf, hf]
  · simp [Builtin.append_, run_underlying ht, sizeOf, typeInfo, hi, Builtin.lenOf, hf, hnc, storeCells]

theorem wpList_append_flat {ops : Array Oper} {rest : List Oper} {o : Oper} {a : Act} {Q : Exit → Act → World → Prop} (hgd : o.guard = none) (s x : Operand) (t : TypeId)
    (ho : o.op = .call { callee := .builtin .append, args := #[s, x], argTypes := #[t, t] })
    (base : Nat) (e : TypeId) (i : TypeInfo) (z : Value) (size bytes : Nat) (ht : P.underlying t = some (.slice e)) (hi : P.info? e = some i) (hz : i.zero = some z)
    (hsize : i.size = size) (hby : i.bytes = bytes) (hzs : z.cells.size = size) (hsz : 0 < size)
    (v : Value) (n : Nat) (xs : List Value) (hs : a.eval s = v) (hown : w.ownsRow base e size v n xs)
    (sv : Value) (m : Nat) (news : List Value) (hx : a.eval x = sv) (fp : List Nat) (hF : Flat fp w sv size m news) (h1 : ∀ u ∈ news, u.oneCell' = true)
    (h63 : n + m ≤ maxLen) (hbytes : (n + m) * bytes ≤ 140737488355328) (hbase : base ≤ w.heap.size)
    (h : ∀ v' w', w'.ownsRow base e size v' (n + m) (xs ++ news) → w.grownBy w' v.ownBlock → (∀ b, v'.ownBlock = some b → v.ownBlock = some b ∨ w.heap.size ≤ b) → wpList P ops Q rest (a.put o.dst v') w') : wpList P ops Q (o :: rest) a w := by
  obtain ⟨ad, cap, rfl, q1, q2, q3, q4⟩ := hF
  by_cases hm : m = 0
  · subst hm
    have hnil : news = [] := List.eq_nil_of_length_eq_zero (by simpa using q3)
    subst hnil
    refine wpList_plain hgd fun K hK => ?_
    have hrun := run_append_owned_empty (P := P) (w := w) base t o.type e i size ht hi v n xs hown ad cap
    unfold Oper.wp
    simp [execOp, ho, resolve, invoke, builtin, hs, hx, hrun, Result.andThen]
    exact hK _ _ (h v w (by simpa using hown) ⟨rfl, rfl, rfl, Nat.le_refl _, fun _ _ _ => rfl⟩ (fun b hb => Or.inl hb))
  · rcases q4 with ⟨h0, -⟩ | ⟨b, off, rfl, -, -, hc⟩
    · exact absurd h0 hm
    · exact wpList_append_tight w hgd s x t ho base e i z size bytes ht hi hz hsize hby hzs hsz v n xs hs hown ⟨b, off, none⟩ m cap news hx q3 (fun j u hj => by rw [addr_add]; exact hc j u hj) h1 h63 hbytes hbase h
end

theorem Flat.ofT1 {fp : List Nat} {w : World} {v : Value} {xs : List Tm} (h : R_T1 fp w [v] xs) : Flat fp w v 2 xs.length (xs.flatMap fun t => [ei t.1, ei t.2]) := by
  obtain ⟨v', hv, hF⟩ := h
  cases hv; exact hF
theorem Flat.ofI1 {fp : List Nat} {w : World} {v : Value} {xs : List Int} (h : R_I1 fp w [v] xs) : Flat fp w v 1 xs.length (xs.map ei) := by
  obtain ⟨v', hv, hF⟩ := h
  cases hv
  rw [flatMap_single] at hF; exact hF
theorem one_T1 (xs : List Tm) : ∀ u ∈ xs.flatMap (fun t => [ei t.1, ei t.2]), u.oneCell' = true := by
  intro u hu
  obtain ⟨t, -, ht⟩ := List.mem_flatMap.1 hu
  simp at ht
  rcases ht with rfl | rfl <;> rfl
theorem one_I1 (xs : List Int) : ∀ u ∈ xs.map ei, u.oneCell' = true := by
  intro u hu
  obtain ⟨t, -, rfl⟩ := List.mem_map.1 hu
  rfl

set_option maxRecDepth 20000 in
set_option maxHeartbeats 1000000 in
theorem ownTS (v : Value) (xs : List Tm) (w : World) (fp : List Nat) (hl : xs.length ≤ 1000000) (hR : R_T1 fp w [v] xs) :
    Calls Tryz.prog 189 #[v] w fun r w' => (∃ v', r = .returned v' ∧ New R_T1 w w' v' xs) ∧ Upd [] w w' := by
  obtain ⟨i0, hi, hz0, hz1, hz2⟩ := info_parts Tryz.infoT
  have hown : (w.alloc (.cells #[] 161)).ownsRow w.heap.size 161 2 (.slice (some ⟨w.heap.size, 0, none⟩) 0 0) 0 [] := by
    simpa using World.ownsRow_lit (base := w.heap.size) (e := 161) (size := 2) w #[] 0 (Nat.le_refl _) (by simp [maxLen]) (by simp)
  have HF := Lib.hid (Flat.ofT1 (R_T1k.upd hR ((Upd.refl [] w).alloc (.cells #[] 161)) (by simp)))
  obtain ⟨a, cap, rfl, -, -, -⟩ := slF2_open hR
  clear hR
  go_enter Tryz.func189, Tryz.ntmps189
  go_wp2_with (first
    | (at_builtin; refine wpList_append_flat rfl _ _ 158 rfl w.heap.size 161 i0 (.agg #[.int .i64 0, .int .i64 0]) 2 16 Tryz.underlying158 hi hz0 hz1 hz2 rfl (by decide) _ _ _ rfl hown _ xs.length _ rfl _ HF.out (one_T1 xs) (by unfold maxLen; omega) (by omega) (by simp) ?_)
    | fail)
  intro v2 w2 hown2 hg2 ht2
  have hU : Upd [] w w2 := ((Upd.refl [] w).alloc _).grown hg2 (fun k hk => Or.inl (hown.lt k hk).1)
  have hn : New R_T1 w w2 v2 xs := New.ofOwns2 (e := 161) (by simpa using hown2)
  have HE := Lib.hid (And.intro hn hU)
  clear hown2 hg2 ht2 hown hn hU
  go_wp2_with fail
  go_ret
  exact ⟨⟨_, rfl, HE.out.1⟩, HE.out.2⟩

set_option maxRecDepth 20000 in
set_option maxHeartbeats 1000000 in
theorem ownIS (v : Value) (xs : List Int) (w : World) (fp : List Nat) (hl : xs.length ≤ 2000000) (hR : R_I1 fp w [v] xs) :
    Calls Tryz.prog 54 #[v] w fun r w' => (∃ v', r = .returned v' ∧ New R_I1 w w' v' xs) ∧ Upd [] w w' := by
  obtain ⟨i0, hi, hz0, hz1, hz2⟩ := info_parts Tryz.info2
  have hown : (w.alloc (.cells #[] 2)).ownsRow w.heap.size 2 1 (.slice (some ⟨w.heap.size, 0, none⟩) 0 0) 0 [] := by
    simpa using World.ownsRow_lit (base := w.heap.size) (e := 2) (size := 1) w #[] 0 (Nat.le_refl _) (by simp [maxLen]) (by simp)
  have HF := Lib.hid (Flat.ofI1 (R_I1k.upd hR ((Upd.refl [] w).alloc (.cells #[] 2)) (by simp)))
  obtain ⟨a, cap, rfl, -, -, -⟩ := slF1_open hR
  clear hR
  go_enter Tryz.func54, Tryz.ntmps54
  go_wp2_with (first
    | (at_builtin; refine wpList_append_flat rfl _ _ 36 rfl w.heap.size 2 i0 (.int .i64 0) 1 8 Tryz.underlying36 hi hz0 hz1 hz2 rfl (by decide) _ _ _ rfl hown _ xs.length _ rfl _ HF.out (one_I1 xs) (by unfold maxLen; omega) (by omega) (by simp) ?_)
    | fail)
  intro v2 w2 hown2 hg2 ht2
  have hU : Upd [] w w2 := ((Upd.refl [] w).alloc _).grown hg2 (fun k hk => Or.inl (hown.lt k hk).1)
  have hn : New R_I1 w w2 v2 xs := New.ofOwns (e := 2) (by simpa using hown2)
  have HE := Lib.hid (And.intro hn hU)
  clear hown2 hg2 ht2 hown hn hU
  go_wp2_with fail
  go_ret
  exact ⟨⟨_, rfl, HE.out.1⟩, HE.out.2⟩

set_option maxRecDepth 20000 in
set_option maxHeartbeats 1000000 in
theorem cloneTI (v : Value) (xs : List Tm) (w : World) (fp : List Nat) (hl : xs.length ≤ 1000000) (hR : R_T1 fp w [v] xs) :
    Calls Tryz.prog 132 #[v] w fun r w' => (∃ v', r = .returned v' ∧ New R_T1 w w' v' xs) ∧ Upd [] w w' := by
  obtain ⟨i0, hi, hz0, hz1, hz2⟩ := info_parts Tryz.infoT
  have hown : (w.alloc (.cells #[] 161)).ownsRow w.heap.size 161 2 (.slice (some ⟨w.heap.size, 0, none⟩) 0 0) 0 [] := by
    simpa using World.ownsRow_lit (base := w.heap.size) (e := 161) (size := 2) w #[] 0 (Nat.le_refl _) (by simp [maxLen]) (by simp)
  have HF := Lib.hid (Flat.ofT1 (R_T1k.upd hR ((Upd.refl [] w).alloc (.cells #[] 161)) (by simp)))
  obtain ⟨a, cap, rfl, hcl, hcm, hce⟩ := slF2_open hR
  clear hR
  cases a with
  | none =>
    have hx : xs = [] := by
      cases xs with
      | nil => rfl
      | cons y ys => obtain ⟨b, off, h, -⟩ := hce 0 (by simp); cases h
    subst hx
    have HN := Lib.hid (show New R_T1 w w (.slice none 0 0) [] from ⟨[], ⟨_, rfl, none, 0, rfl, Nat.le_refl _, by simp [maxLen], by simp, Or.inl ⟨rfl, rfl⟩⟩, Own.nil _, by simp⟩)
    clear HF hown hce
    have hq := fun (w : World) (a : Option Addr) (n c : Nat) => Lib.run_eql_slice_nil (P := Tryz.prog) w 158 161 a n c 0 0 Tryz.underlying158
    go_enter Tryz.func132, Tryz.ntmps132
    go_wp2_with fail
    go_ret
    exact ⟨⟨_, rfl, HN.out⟩, Upd.refl _ _⟩
  | some ad =>
    clear hce
    have hq := fun (w : World) (a : Option Addr) (n c : Nat) => Lib.run_eql_slice_nil (P := Tryz.prog) w 158 161 a n c 0 0 Tryz.underlying158
    go_enter Tryz.func132, Tryz.ntmps132
    go_wp2_with (first
      | (at_builtin; refine wpList_append_flat rfl _ _ 158 rfl w.heap.size 161 i0 (.agg #[.int .i64 0, .int .i64 0]) 2 16 Tryz.underlying158 hi hz0 hz1 hz2 rfl (by decide) _ _ _ rfl hown _ xs.length _ rfl _ HF.out (one_T1 xs) (by unfold maxLen; omega) (by omega) (by simp) ?_)
      | fail)
    intro v2 w2 hown2 hg2 ht2
    have hU : Upd [] w w2 := ((Upd.refl [] w).alloc _).grown hg2 (fun k hk => Or.inl (hown.lt k hk).1)
    have hn : New R_T1 w w2 v2 xs := New.ofOwns2 (e := 161) (by simpa using hown2)
    have HE := Lib.hid (And.intro hn hU)
    clear hown2 hg2 ht2 hown hn hU
    go_wp2_with fail
    go_ret
    exact ⟨⟨_, rfl, HE.out.1⟩, HE.out.2⟩

set_option maxRecDepth 20000 in
set_option maxHeartbeats 1000000 in
theorem cloneII (v : Value) (xs : List Int) (w : World) (fp : List Nat) (hl : xs.length ≤ 2000000) (hR : R_I1 fp w [v] xs) :
    Calls Tryz.prog 42 #[v] w fun r w' => (∃ v', r = .returned v' ∧ New R_I1 w w' v' xs) ∧ Upd [] w w' := by
  obtain ⟨i0, hi, hz0, hz1, hz2⟩ := info_parts Tryz.info2
  have hown : (w.alloc (.cells #[] 2)).ownsRow w.heap.size 2 1 (.slice (some ⟨w.heap.size, 0, none⟩) 0 0) 0 [] := by
    simpa using World.ownsRow_lit (base := w.heap.size) (e := 2) (size := 1) w #[] 0 (Nat.le_refl _) (by simp [maxLen]) (by simp)
  have HF := Lib.hid (Flat.ofI1 (R_I1k.upd hR ((Upd.refl [] w).alloc (.cells #[] 2)) (by simp)))
  obtain ⟨a, cap, rfl, hcl, hcm, hce⟩ := slF1_open hR
  clear hR
  cases a with
  | none =>
    have hx : xs = [] := by
      cases xs with
      | nil => rfl
      | cons y ys => obtain ⟨b, off, h, -⟩ := hce 0 (by simp); cases h
    subst hx
    have HN := Lib.hid (show New R_I1 w w (.slice none 0 0) [] from ⟨[], ⟨_, rfl, none, 0, rfl, Nat.le_refl _, by simp [maxLen], by simp, Or.inl ⟨rfl, rfl⟩⟩, Own.nil _, by simp⟩)
    clear HF hown hce
    have hq := fun (w : World) (a : Option Addr) (n c : Nat) => Lib.run_eql_slice_nil (P := Tryz.prog) w 36 2 a n c 0 0 Tryz.underlying36
    go_enter Tryz.func42, Tryz.ntmps42
    go_wp2_with fail
    go_ret
    exact ⟨⟨_, rfl, HN.out⟩, Upd.refl _ _⟩
  | some ad =>
    clear hce
    have hq := fun (w : World) (a : Option Addr) (n c : Nat) => Lib.run_eql_slice_nil (P := Tryz.prog) w 36 2 a n c 0 0 Tryz.underlying36
    go_enter Tryz.func42, Tryz.ntmps42
    go_wp2_with (first
      | (at_builtin; refine wpList_append_flat rfl _ _ 36 rfl w.heap.size 2 i0 (.int .i64 0) 1 8 Tryz.underlying36 hi hz0 hz1 hz2 rfl (by decide) _ _ _ rfl hown _ xs.length _ rfl _ HF.out (one_I1 xs) (by unfold maxLen; omega) (by omega) (by simp) ?_)
      | fail)
    intro v2 w2 hown2 hg2 ht2
    have hU : Upd [] w w2 := ((Upd.refl [] w).alloc _).grown hg2 (fun k hk => Or.inl (hown.lt k hk).1)
    have hn : New R_I1 w w2 v2 xs := New.ofOwns (e := 2) (by simpa using hown2)
    have HE := Lib.hid (And.intro hn hU)
    clear hown2 hg2 ht2 hown hn hU
    go_wp2_with fail
    go_ret
    exact ⟨⟨_, rfl, HE.out.1⟩, HE.out.2⟩

end Go.Proofs.YtnchmnjkmhfleaaGreat

/-
  A row of cells known whole; elements of several cells collected by append.
-/
namespace Go.Proofs.YtnchmnjkmhfleaaGreat
open Go.RowKit

/-- block T holds these cells, and none is frozen. -/
def RowAt (W : World) (T : Nat) (ty : TypeId) (cs : List Value) : Prop := W.heap[T]? = some (.cells cs.toArray ty (0, 0))
namespace RowAt
variable {W W' : World} {T : Nat} {ty : TypeId} {cs : List Value}
theorem new (W : World) (ty : TypeId) (cs : List Value) : RowAt (W.alloc (.cells cs.toArray ty)) W.heap.size ty cs := heap_alloc_new W _
theorem lt (h : RowAt W T ty cs) : T < W.heap.size := (Array.getElem?_eq_some_iff.1 h).1
theorem upd (h : RowAt W T ty cs) {f : List Nat} (hu : Upd f W W') (hT : T ∉ f) : RowAt W' T ty cs := by
  unfold RowAt; rw [hu.block T h.lt hT]; exact h
theorem cell (h : RowAt W T ty cs) (j : Nat) (c : Value) (hc : cs[j]? = some c) : W.cell? ⟨T, j, none⟩ = some c := by unfold RowAt at h; simp [World.cell?, h, hc]
theorem fz (h : RowAt W T ty cs) (j : Nat) : W.frozen? ⟨T, j, none⟩ = false := by unfold RowAt at h; simp [World.frozen?, h]
theorem store (h : RowAt W T ty cs) (j : Nat) (v : Value) : RowAt (W.setCell ⟨T, j, none⟩ v) T ty (cs.set j v) := by
  unfold RowAt at h ⊢; simp [World.setCell, Array.getElem?_modify, h]
theorem other (h : RowAt W T ty cs) (g j : Nat) (v : Value) (hg : g ≠ T) : RowAt (W.setCell ⟨g, j, none⟩ v) T ty cs := by
  unfold RowAt at h ⊢; rw [Below.heap_setCell _ _ _ _ (by simpa using fun e => hg e.symm)]; exact h
theorem row (h : RowAt W T ty cs) (ds : List Value) : RowAt (W.setRow T ds.toArray) T ty ds := setRow_heap W T _ _ _ _ h
theorem own (h : RowAt W T ty cs) : Own [T] W := ⟨by simp, by intro b hb; obtain rfl : b = T := (by simpa using hb); exact ⟨_, _, h⟩⟩
end RowAt

/-- A slice of elements of n cells each, with memory of their own, that a call collects by append: e is the element's type. -/
def AccQ {α : Type} (n : Nat) (R : Rp α) (w0 : World) (e : TypeId) (w : World) (v : Value) (xs : List α) : Prop :=
  ∃ us, w.ownsRow w0.heap.size e n v xs.length (List.flatten us) ∧ RowsQ n R w0.heap.size v.ownBlock.toList w us xs

namespace AccQ
variable {α : Type} {n : Nat} {R : Rp α} {w0 w w1 w2 : World} {e : TypeId} {v : Value} {xs : List α}

theorem nil (n : Nat) (R : Rp α) (w0 : World) (e : TypeId) (w : World) : AccQ n R w0 e w (.slice none 0 0) [] := ⟨[], World.ownsRow_nil _ _ _ _, RowsQ.nil _ _ _ _ _⟩
theorem lit0 (n : Nat) (R : Rp α) (w0 : World) (e : TypeId) (w : World) (h : w0.heap.size ≤ w.heap.size) : AccQ n R w0 e (w.alloc (.cells #[] e)) (.slice (some ⟨w.heap.size, 0, none⟩) 0 0) [] :=
  ⟨[], by simpa using World.ownsRow_lit (base := w0.heap.size) (e := e) (size := n) w #[] 0 h (by simp [maxLen]) (by simp), RowsQ.nil _ _ _ _ _⟩
theorem upd (K : Kept R) (h : AccQ n R w0 e w v xs) (hu : Upd [] w w1) : AccQ n R w0 e w1 v xs := by
  obtain ⟨us, h1, h2⟩ := h
  exact ⟨us, ownsRow_upd h1 hu, h2.upd K hu (by simp)⟩
theorem other (K : Kept R) (h : AccQ n R w0 e w v xs) {b : Nat} (hu : Upd [b] w w1) (hb : b < w0.heap.size) : AccQ n R w0 e w1 v xs := by
  obtain ⟨us, h1, h2⟩ := h
  refine ⟨us, h1.kept (row := some b) ⟨hu.os, hu.tape, hu.output, hu.size, fun k hk hne => hu.block k hk (by simpa using hne)⟩ ?_, h2.upd K hu (by simp; omega)⟩
  cases hv : v.ownBlock with
  | none => exact Or.inl rfl
  | some g =>
    right
    have := (h1.lt g hv).1
    intro e; cases e; omega
theorem new (h : AccQ n R w0 e w v xs) : New (slQ n R) w0 w v xs := by
  obtain ⟨us, h1, h2⟩ := h
  exact h2.new h1 (fun b hb => by simp [hb]) (Nat.le_refl _)
theorem own (h : AccQ n R w0 e w v xs) : ∃ us, w.ownsRow w0.heap.size e n v xs.length us := by obtain ⟨us, h1, -⟩ := h; exact ⟨_, h1⟩
theorem form (h : AccQ n R w0 e w v xs) : ∃ a c, v = .slice a xs.length c := by obtain ⟨us, h1, -⟩ := h; exact ownsRow_form h1
/-- Behind an append of one element, its cells made between w and w1 and laid into a new block: what the append's law leaves. -/
theorem push (K : Kept R) {us : List (List Value)} (hown : w.ownsRow w0.heap.size e n v xs.length us.flatten) (hrows : RowsQ n R w0.heap.size v.ownBlock.toList w us xs) (hs : w0.heap.size ≤ w.heap.size) {u : List Value} {x : α} (hu : Upd [] w w1) (hn : NewQ R w w1 u x) (hl : u.length = n) (o : Obj) {v2 : Value}
    (h2 : w2.ownsRow w0.heap.size e n v2 (xs.length + 1) (us.flatten ++ u)) (hg : (w1.alloc o).grownBy w2 v.ownBlock)
    (ht : ∀ b, v2.ownBlock = some b → v.ownBlock = some b ∨ (w1.alloc o).heap.size ≤ b) : AccQ n R w0 e w2 v2 (xs ++ [x]) := by
  refine ⟨us ++ [u], by simpa using h2, ?_⟩
  have hob : ∀ b ∈ v.ownBlock.toList, b < w.heap.size := fun b hb => (hown.lt b (by simpa using hb)).2
  have hr1 := hrows.push K hu hn hl hs hob
  have hu2 : Upd [] w1 (w1.alloc o) := (Upd.refl _ _).alloc o
  have hr2 := hr1.upd K hu2 (by simp)
  have hu3 : Upd v.ownBlock.toList (w1.alloc o) w2 := (Upd.refl _ _).grown hg (fun k hk => Or.inr (by simp [hk]))
  have hr3 := RowsQ.ob' hr2 (ob2 := v.ownBlock.toList ++ v2.ownBlock.toList) (by
    intro b hb
    rcases List.mem_append.1 hb with hb | hb
    · exact Or.inl hb
    · rcases ht b (by simpa using hb) with h | h
      · exact Or.inl (by simp [h])
      · exact Or.inr (Or.inr h))
  have hr4 := hr3.upd K hu3 (fun b hb => Or.inl (List.mem_append_left _ hb))
  exact hr4.ob' (fun b hb => Or.inl (List.mem_append_right _ hb))
end AccQ

set_option maxRecDepth 20000 in
set_option maxHeartbeats 1000000 in
/-- the reference's copy of a list of expressions. -/
theorem ownAllS (v : Value) (xs : List (List Tm)) (w : World) (fp : List Nat) (hl : xs.length ≤ 1000000) (hl2 : ∀ e ∈ xs, e.length ≤ 1000000) (hR : R_T2 fp w [v] xs) :
    Calls Tryz.prog 162 #[v] w fun r w' => (∃ v', r = .returned v' ∧ New R_T2 w w' v' xs) ∧ Upd [] w w' := by
  obtain ⟨i0, hi, hz0, hz1, hz2⟩ := info_parts Tryz.infoTS
  obtain ⟨a, cap, rfl, g1, g2, hc⟩ := slP_open hR
  unfold maxLen at g2
  have HC := Lib.hid hc
  have HL := Lib.hid hl2
  clear hR hc hl2
  go_enter Tryz.func162, Tryz.ntmps162
  go_wp2_with fail
  go_loopw [3, 4] (fun cv iv wr => ∃ k : Nat, k ≤ xs.length ∧ iv = .int .i64 k ∧ Hid (Upd [] w wr) ∧ w.heap.size ≤ wr.heap.size ∧ Hid (Acc R_T1 w 158 wr cv (xs.take k))) (fun _ iv _ => xs.length - (intOf iv).toNat)
  case atStart => exact ⟨0, Nat.zero_le _, rfl, Lib.hid ((Upd.refl _ _).alloc _), by simp, Lib.hid (by simpa using Acc.lit0 R_T1 w 158 w (Nat.le_refl _))⟩
  case round =>
    rename_i cv iv
    obtain ⟨wo, rfl⟩ : ∃ wo : World, wo = wr := ⟨_, rfl⟩
    obtain ⟨k, hk, rfl, HU, hsz, HA⟩ := hrel
    by_cases hlt : k < xs.length
    · obtain ⟨b, off, u, f, rfl, -, -, p0, -, hr⟩ := HC.out k hlt
      have p0 := HU.out.keep p0
      have hkl : (k : Int) < (xs.length : Int) := by omega
      have S1 := Lib.hid (ownTS u xs[k] wo f (HL.out _ (List.getElem_mem hlt)) (R_T1k.upd hr HU.out (by simp)))
      have HTK := Lib.hid (List.take_succ_eq_append_getElem hlt)
      have htl : (xs.take k).length = k := by rw [List.length_take]; omega
      have HTL := Lib.hid htl
      generalize hx : xs[k] = x at *
      clear hx hr
      obtain ⟨us, hown, hrows⟩ := HA.out
      have HOW := Lib.hid hown
      have HRW := Lib.hid hrows
      obtain ⟨ca, cc, rfl⟩ := ownsRow_form hown
      clear htl hown hrows
      go_wp2_with fail
      refine S1.out.mono ?_
      rintro e w1 ⟨⟨v', rfl, hnew⟩, hu1⟩
      obtain ⟨va, vc, rfl⟩ := hnew.form
      have hown1 := ownsRow_upd HOW.out hu1
      have hle1 := hu1.size
      have htl := HTL.out
      rw [htl] at hown1
      clear S1
      go_wp2_with (first
        | (at_builtin; refine wpList_append_tight _ rfl _ _ 107 rfl w.heap.size 158 i0 (.slice none 0 0) 1 24 Tryz.underlying107 hi hz0 hz1 hz2 rfl (by decide) _ _ _ rfl (hown1.alloc _) ⟨w1.heap.size, 0, none⟩ 1 1 [.slice va x.length vc] rfl rfl (fun j u hj => by rw [addr_add, Nat.zero_add]; exact cell_new w1 #[.slice va x.length vc] _ _ rfl j u (by simpa using hj)) (by simp [Value.oneCell']) (by unfold maxLen; omega) (by omega) (by simp; omega) ?_)
        | fail)
      intro v2 w2 hown2 hg2 ht2
      have hacc := Acc.push R_T1k HOW.out HRW.out hsz hu1 hnew (.cells #[.slice va x.length vc] 158) (by rw [htl]; exact hown2) (by rw [htl]; exact hg2) (fun b hb => by
        rcases ht2 b hb with h | h
        · exact Or.inl (by rw [htl]; exact h)
        · exact Or.inr (by simpa using h))
      rw [← HTK.out] at hacc
      have hU2 : Upd [] w w2 := ((HU.out.trans hu1).alloc _).grown hg2 (fun b hb => Or.inl (HOW.out.lt b (by rw [htl]; exact hb)).1)
      have HP := Lib.hid (And.intro hacc hU2)
      clear hacc hU2 hown2 hg2 ht2 hown1 hnew hu1
      go_wp2_with fail
      go_roundw
      case rel => exact ⟨k + 1, by omega, by go_num, Lib.hid HP.out.2, HP.out.2.size, Lib.hid HP.out.1⟩
      case measure => simp [intOf]; omega
    · obtain rfl : k = xs.length := by omega
      have ha := HA.out
      rw [List.take_length] at ha
      have HN := Lib.hid ha.new
      clear ha HA
      go_wp2_with fail
      go_ret
      exact ⟨⟨_, rfl, HN.out⟩, HU.out⟩

end Go.Proofs.YtnchmnjkmhfleaaGreat

/-
  Elements of several cells collected by append, while blocks beside are written.
-/
namespace Go.Proofs.YtnchmnjkmhfleaaGreat
open Go.RowKit

/-- a slice of elements of n cells each that a call collects by append, none of whose memory lies in the blocks of ex. -/
def AccZ {α : Type} (n : Nat) (R : Rp α) (base : Nat) (e : TypeId) (ex : List Nat) (w : World) (v : Value) (xs : List α) : Prop :=
  ∃ us, w.ownsRow base e n v xs.length (List.flatten us) ∧ RowsQ n R base (ex ++ v.ownBlock.toList) w us xs ∧ (∀ b, v.ownBlock = some b → b ∉ ex) ∧ ∀ b ∈ ex, b < w.heap.size

namespace AccZ
variable {α : Type} {n : Nat} {R : Rp α} {base : Nat} {ex : List Nat} {w w1 w2 : World} {e : TypeId} {v : Value} {xs : List α}

theorem nil (n : Nat) (R : Rp α) (base : Nat) (e : TypeId) (w : World) (hZ : ∀ b ∈ ex, b < w.heap.size) : AccZ n R base e ex w (.slice none 0 0) [] :=
  ⟨[], World.ownsRow_nil _ _ _ _, RowsQ.nil _ _ _ _ _, by simp [Value.ownBlock], hZ⟩
theorem start {q : Nat} (h : w.ownsRow base e n (.slice (some ⟨q, 0, none⟩) 0 0) 0 []) (hq : q ∉ ex) (hZ : ∀ b ∈ ex, b < w.heap.size) : AccZ n R base e ex w (.slice (some ⟨q, 0, none⟩) 0 0) [] :=
  ⟨[], by simpa using h, RowsQ.nil _ _ _ _ _, fun b hb => by simp [Value.ownBlock] at hb; subst hb; exact hq, hZ⟩
theorem upd (K : Kept R) (h : AccZ n R base e ex w v xs) (hu : Upd [] w w1) : AccZ n R base e ex w1 v xs := by
  obtain ⟨us, h1, h2, h3, h4⟩ := h
  exact ⟨us, ownsRow_upd h1 hu, h2.upd K hu (by simp), h3, fun b hb => Nat.lt_of_lt_of_le (h4 b hb) hu.size⟩
theorem put (K : Kept R) (h : AccZ n R base e ex w v xs) {f : List Nat} (hu : Upd f w w1) (hf : ∀ b ∈ f, b ∈ ex) : AccZ n R base e ex w1 v xs := by
  obtain ⟨us, h1, h2, h3, h4⟩ := h
  refine ⟨us, ?_, h2.upd K hu (fun b hb => Or.inl (List.mem_append_left _ (hf b hb))), h3, fun b hb => Nat.lt_of_lt_of_le (h4 b hb) hu.size⟩
  rcases h1 with ⟨q0, q1 | ⟨g, cap, cur, rfl, hg, hh, r1, r2, r3, r4⟩⟩
  · exact ⟨q0, Or.inl q1⟩
  · refine ⟨q0, Or.inr ⟨g, cap, cur, rfl, hg, ?_, r1, r2, r3, r4⟩⟩
    rw [hu.block g (Array.getElem?_eq_some_iff.1 hh).1 (fun hm => h3 g rfl (hf g hm))]; exact hh
theorem own (h : AccZ n R base e ex w v xs) : ∃ us, w.ownsRow base e n v xs.length us := by obtain ⟨us, h1, -⟩ := h; exact ⟨_, h1⟩
theorem form (h : AccZ n R base e ex w v xs) : ∃ a c, v = .slice a xs.length c := by obtain ⟨us, h1, -⟩ := h; exact ownsRow_form h1
theorem new (h : AccZ n R base e ex w v xs) {w0 : World} (hb : w0.heap.size = base) : ∃ fp, slQ n R fp w [v] xs ∧ Own fp w ∧ ∀ b ∈ fp, base ≤ b ∧ b ∉ ex := by
  obtain ⟨us, h1, h2, h3, h4⟩ := h
  subst hb
  obtain ⟨fps, q1, q2, q6, q3, q4, q5⟩ := h2
  obtain ⟨fb, ⟨a, cap, rfl, r1, r2, -, r4⟩, g2, g3, g4⟩ := Flat.ofOwns h1
  refine ⟨fb ++ fps.flatten, ⟨a, cap, us, fb, fps, rfl, r1, r2, q2, q6, q1, rfl, ?_, q5⟩, own_join g2 q3 (fun b hb hc => (q4 b hc).2 (by simp [g4 b hb])), ?_⟩
  · rcases r4 with r4 | ⟨b, off, rfl, rfl, hbl, hc⟩
    · exact Or.inl r4
    · refine Or.inr ⟨b, off, rfl, rfl, hbl, fun i j u c hu hj => ?_⟩
      rw [Nat.add_assoc]
      exact hc _ _ (flat_at q6 hu hj)
  · intro b hb
    rcases List.mem_append.1 hb with hb | hb
    · exact ⟨g3 b hb, h3 b (g4 b hb)⟩
    · exact ⟨(q4 b hb).1, fun e => (q4 b hb).2 (by simp [e])⟩
/-- Behind an append of one element, its cells made between w and w1 and laid into a new block. -/
theorem push (K : Kept R) {us : List (List Value)} (hown : w.ownsRow base e n v xs.length us.flatten) (hrows : RowsQ n R base (ex ++ v.ownBlock.toList) w us xs) (hvZ : ∀ b, v.ownBlock = some b → b ∉ ex) (hZ : ∀ b ∈ ex, b < w.heap.size) (hs : base ≤ w.heap.size) {u : List Value} {x : α} (hu : Upd [] w w1) (hn : NewQ R w w1 u x) (hl : u.length = n) (o : Obj) {v2 : Value}
    (h2 : w2.ownsRow base e n v2 (xs.length + 1) (us.flatten ++ u)) (hg : (w1.alloc o).grownBy w2 v.ownBlock)
    (ht : ∀ b, v2.ownBlock = some b → v.ownBlock = some b ∨ (w1.alloc o).heap.size ≤ b) : AccZ n R base e ex w2 v2 (xs ++ [x]) := by
  have hsz := hu.size
  have hgs := hg.size
  refine ⟨us ++ [u], by simpa using h2, ?_, ?_, ?_⟩
  · have hob : ∀ b ∈ ex ++ v.ownBlock.toList, b < w.heap.size := fun b hb => by
      rcases List.mem_append.1 hb with hb | hb
      · exact hZ b hb
      · exact (hown.lt b (by simpa using hb)).2
    have hr1 := hrows.push K hu hn hl hs hob
    have hu2 : Upd [] w1 (w1.alloc o) := (Upd.refl _ _).alloc o
    have hr2 := hr1.upd K hu2 (by simp)
    have hu3 : Upd v.ownBlock.toList (w1.alloc o) w2 := (Upd.refl _ _).grown hg (fun k hk => Or.inr (by simp [hk]))
    have hr3 := RowsQ.ob' hr2 (ob2 := (ex ++ v.ownBlock.toList) ++ v2.ownBlock.toList) (by
      intro b hb
      rcases List.mem_append.1 hb with hb | hb
      · exact Or.inl hb
      · rcases ht b (by simpa using hb) with h | h
        · exact Or.inl (by simp [h])
        · exact Or.inr (Or.inr h))
    have hr4 := hr3.upd K hu3 (fun b hb => Or.inl (List.mem_append_left _ (List.mem_append_right _ hb)))
    exact hr4.ob' (fun b hb => Or.inl (by
      rcases List.mem_append.1 hb with hb | hb
      · exact List.mem_append_left _ (List.mem_append_left _ hb)
      · exact List.mem_append_right _ hb))
  · intro b hb hm
    rcases ht b hb with h | h
    · exact hvZ b h hm
    · have := hZ b hm; simp at h; omega
  · intro b hb
    have := hZ b hb; simp at hgs; omega
end AccZ

end Go.Proofs.YtnchmnjkmhfleaaGreat

/-
  A row of structs copied cell by cell, whose elements are given memory of their own one after the other.
-/
namespace Go.Proofs.YtnchmnjkmhfleaaGreat
open Go.RowKit

theorem slQ_flat {α : Type} {n : Nat} {R : Rp α} {fp : List Nat} {w : World} {v : Value} {xs : List α} (h : slQ n R fp w [v] xs) (hn : 0 < n) :
    ∃ (us : List (List Value)) (fb : List Nat), us.length = xs.length ∧ (∀ u ∈ us, u.length = n) ∧ Flat fb w v n xs.length us.flatten ∧ (∀ b ∈ fb, b ∈ fp) ∧ ∀ i (h : i < xs.length) u, us[i]? = some u → ∃ f, (∀ b ∈ f, b ∈ fp) ∧ R f w u xs[i] := by
  obtain ⟨a, cap, us, fb, fps, hv, h1, h2, hu, hl, hf, rfl, hb, hr⟩ := h
  cases hv
  refine ⟨us, fb, hu, hl, ⟨a, cap, rfl, h1, h2, by rw [flat_len hl, hu], ?_⟩, fun b hb => by simp [hb], fun i hi u hui => ?_⟩
  · rcases hb with ⟨h0, hfb⟩ | ⟨b, off, rfl, rfl, hbl, hc⟩
    · exact Or.inl ⟨h0, hfb⟩
    · refine Or.inr ⟨b, off, rfl, rfl, hbl, fun j u hj => ?_⟩
      have hjl : j < us.flatten.length := (List.getElem?_eq_some_iff.1 hj).1
      rw [flat_len hl] at hjl
      have h3 : j / n < us.length := by
        have h4 := Nat.div_mul_le_self j n
        rcases Nat.lt_or_ge (j / n) us.length with h | h
        · exact h
        · have := Nat.mul_le_mul_right n h; omega
      have h5 : j % n < (us[j / n]).length := by rw [hl _ (List.getElem_mem h3)]; exact Nat.mod_lt _ hn
      have h6 := flat_at hl (List.getElem?_eq_getElem h3) (List.getElem?_eq_getElem h5)
      have h7 : j / n * n + j % n = j := by rw [Nat.mul_comm]; exact Nat.div_add_mod j n
      rw [h7, hj] at h6
      have h8 := hc (j / n) (j % n) _ _ (List.getElem?_eq_getElem h3) (List.getElem?_eq_getElem h5)
      rw [Nat.add_assoc, h7] at h8
      rw [h8, ← h6]
  · have hi2 : i < fps.length := by omega
    exact ⟨fps[i], fun b hb => List.mem_append_right _ (List.mem_flatten.2 ⟨_, List.getElem_mem hi2, hb⟩), hr i hi u _ hui (List.getElem?_eq_getElem hi2)⟩

theorem flat_set {β : Type} {n : Nat} : ∀ {us : List (List β)}, (∀ u ∈ us, u.length = n) → ∀ {i : Nat} {u : List β}, us[i]? = some u → ∀ {j : Nat} (_ : j < n) (c : β), us.flatten.set (i * n + j) c = (us.set i (u.set j c)).flatten
  | [], _, i, u, hu, _, _, _ => by simp at hu
  | v :: us, h, i, u, hu, j, hj, c => by
    have hv := h v (by simp)
    cases i with
    | zero =>
      simp at hu
      subst hu
      rw [List.flatten_cons, List.set_cons_zero, List.flatten_cons, Nat.zero_mul, Nat.zero_add, List.set_append_left _ _ (by omega)]
    | succ i =>
      have ih := flat_set (us := us) (fun u hu => h u (by simp [hu])) (i := i) (u := u) (by simpa using hu) hj c
      rw [List.flatten_cons, List.set_cons_succ, List.flatten_cons, ← ih, List.set_append_right _ _ (by rw [Nat.succ_mul]; omega)]
      congr 2
      rw [Nat.succ_mul]; omega

/-- block P of which the first k elements have memory of their own, made from base on; the others are as in old. -/
def Deep {α : Type} (n : Nat) (R : Rp α) (base : Nat) (e : TypeId) (P cap : Nat) (old : List (List Value)) (w : World) (k : Nat) (xs : List α) : Prop :=
  ∃ us : List (List Value), us.length = xs.length ∧ (∀ u ∈ us, u.length = n) ∧ w.ownsRow base e n (.slice (some ⟨P, 0, none⟩) xs.length cap) xs.length us.flatten ∧ RowsQ n R base [P] w (us.take k) (xs.take k) ∧ ∀ i, k ≤ i → us[i]? = old[i]?
namespace Deep
variable {α : Type} {n : Nat} {R : Rp α} {base : Nat} {e : TypeId} {P cap : Nat} {old : List (List Value)} {w w1 : World} {k : Nat} {xs : List α}
theorem start (h : w.ownsRow base e n (.slice (some ⟨P, 0, none⟩) xs.length cap) xs.length old.flatten) (hl : old.length = xs.length) (hn : ∀ u ∈ old, u.length = n) : Deep n R base e P cap old w 0 xs :=
  ⟨old, hl, hn, h, by simpa using RowsQ.nil n R base [P] w, fun _ _ => rfl⟩
theorem upd (K : Kept R) (h : Deep n R base e P cap old w k xs) (hu : Upd [] w w1) : Deep n R base e P cap old w1 k xs := by
  obtain ⟨us, h1, h2, h3, h4, h5⟩ := h
  exact ⟨us, h1, h2, ownsRow_upd h3 hu, h4.upd K hu (by simp), h5⟩
theorem lt (h : Deep n R base e P cap old w k xs) : base ≤ P ∧ P < w.heap.size := by
  obtain ⟨us, h1, h2, h3, h4, h5⟩ := h
  exact h3.lt P rfl
theorem cell (h : Deep n R base e P cap old w k xs) (hk : k < xs.length) {u : List Value} (ho : old[k]? = some u) (j : Nat) (c : Value) (hc : u[j]? = some c) : w.cell? ⟨P, k * n + j, none⟩ = some c := by
  obtain ⟨us, h1, h2, h3, h4, h5⟩ := h
  have hu : us[k]? = some u := by rw [h5 k (Nat.le_refl _), ho]
  have hjn : j < n := by rw [← h2 u (List.mem_of_getElem? hu)]; exact (List.getElem?_eq_some_iff.1 hc).1
  rw [h3.cellAt (k * n + j) (by
    have := Nat.mul_le_mul_right n (show k + 1 ≤ xs.length from hk)
    rw [Nat.add_mul] at this; omega)]
  exact flat_at h2 hu hc
theorem fz (h : Deep n R base e P cap old w k xs) (j : Nat) : w.frozen? ⟨P, j, none⟩ = false := by
  obtain ⟨us, h1, h2, h3, h4, h5⟩ := h
  exact h3.frozenAt j
theorem set (K : Kept R) (h : Deep n R base e P cap old w k xs) (hk : k < xs.length) {u : List Value} (ho : old[k]? = some u) (hu : Upd [] w w1) (hb : base ≤ w.heap.size) (j : Nat) (hj : j < n) (v : Value) (hn : NewQ R w w1 (u.set j v) xs[k]) :
    Deep n R base e P cap old (w1.setCell ⟨P, k * n + j, none⟩ v) (k + 1) xs := by
  obtain ⟨us, h1, h2, h3, h4, h5⟩ := h
  have hui : us[k]? = some u := by rw [h5 k (Nat.le_refl _), ho]
  have hul : u.length = n := h2 u (List.mem_of_getElem? hui)
  have hkl : k < us.length := by omega
  have hP := h3.lt P rfl
  refine ⟨us.set k (u.set j v), by simpa using h1, ?_, ?_, ?_, fun i hi => ?_⟩
  · intro y hy
    rcases List.mem_or_eq_of_mem_set hy with hy | rfl
    · exact h2 y hy
    · simpa using hul
  · rw [← flat_set h2 hui hj v]
    exact ((ownsRow_upd h3 hu).stored (k * n + j) v).1
  · have hr := h4.push K hu hn (by simpa using hul) hb (fun b hb => (List.mem_singleton.1 hb) ▸ hP.2)
    have hr2 := hr.upd K (show Upd [P] w1 (w1.setCell ⟨P, k * n + j, none⟩ v) from (Upd.refl _ _).setCell (Or.inr (by simp)) v) (fun b hb => Or.inl hb)
    have e1 : (us.set k (u.set j v)).take (k + 1) = us.take k ++ [u.set j v] := by
      rw [List.take_succ_eq_append_getElem (by simpa using hkl), List.getElem_set_self, List.take_set_of_le (Nat.le_refl _)]
    rw [e1, List.take_succ_eq_append_getElem hk]
    exact hr2
  · rw [List.getElem?_set_ne (by omega), h5 i (by omega)]
theorem new (h : Deep n R base e P cap old w xs.length xs) {w0 : World} (hb : w0.heap.size = base) : New (slQ n R) w0 w (.slice (some ⟨P, 0, none⟩) xs.length cap) xs := by
  obtain ⟨us, h1, h2, h3, h4, h5⟩ := h
  subst hb
  rw [List.take_length, ← h1, List.take_length] at h4
  exact h4.new h3 (fun b hb => by simp [Value.ownBlock] at hb; simp [hb]) (Nat.le_refl _)
end Deep

/-- a copied row of structs that hold no memory. -/
theorem shallow_new {α : Type} {n : Nat} {R : Rp α} {w0 w : World} {e : TypeId} {v : Value} {xs : List α} {us : List (List Value)} (h : w.ownsRow w0.heap.size e n v xs.length us.flatten) (hl : us.length = xs.length) (hn : ∀ u ∈ us, u.length = n)
    (hr : ∀ i (h : i < xs.length) u, us[i]? = some u → R [] w u xs[i]) : New (slQ n R) w0 w v xs := by
  have hq : RowsQ n R w0.heap.size v.ownBlock.toList w us xs := by
    refine ⟨List.replicate xs.length [], by simp, hl, hn, ?_, ?_, fun i hi u f hu hf => ?_⟩
    · have : (List.replicate xs.length ([] : List Nat)).flatten = [] := by simp
      rw [this]; exact Own.nil w
    · intro b hb
      have : (List.replicate xs.length ([] : List Nat)).flatten = [] := by simp
      rw [this] at hb; cases hb
    · rw [List.getElem?_replicate, if_pos hi] at hf
      cases hf
      exact hr i hi u hu
  exact hq.new h (fun b hb => by simp [hb]) (Nat.le_refl _)

end Go.Proofs.YtnchmnjkmhfleaaGreat

/-
  Lists of expressions: the first of which something is true, and whether there is one (the library's functions with a function's value).
-/
namespace Go.Proofs.YtnchmnjkmhfleaaGreat
open Go.RowKit

def IdxE (P : List Tm → Bool) (xs : List (List Tm)) (w : World) (e : Ending) (w' : World) : Prop := (∃ q : Int, e = .returned (.int .i64 q) ∧ -1 ≤ q ∧ q ≤ 9223372036854775807 ∧ decide (0 ≤ q) = xs.any P) ∧ Upd [] w w'
set_option maxRecDepth 20000 in
set_option maxHeartbeats 1000000 in
theorem indexFuncE (P : List Tm → Bool) (fn : FuncId) (caps : Array Value) (v : Value) (xs : List (List Tm)) (w : World) (fp : List Nat) (hR : R_T2 fp w [v] xs)
    (hent : ∀ args w, Sem.run Tryz.prog (callFunc fn args) w = .ok (.enter fn args) w)
    (hby : ∀ wr u f x, Upd [] w wr → R_T1 f wr [u] x → Calls Tryz.prog fn (#[u] ++ caps) wr fun e w' => e = .returned (.bool (P x)) ∧ Upd [] wr w') :
    Calls Tryz.prog 237 #[v, .func (.func fn) #[] caps] w (IdxE P xs w) := by
  obtain ⟨a1, c1, rfl, hl1, hm1, hc1⟩ := slP_open hR
  unfold maxLen at hm1
  have HBY := Lib.hid hby
  have HC := Lib.hid hc1
  clear hR hby hc1
  go_enter Tryz.func237, Tryz.ntmps237
  go_wp2_with fail
  go_loopw [8] (fun i wr => ∃ k : Nat, k ≤ xs.length ∧ i = .int .i64 k ∧ Hid (Upd [] w wr) ∧ Hid ((xs.drop k).any P = xs.any P)) (fun i _ => xs.length - (intOf i).toNat)
  case atStart => exact ⟨0, Nat.zero_le _, rfl, Lib.hid (Upd.refl _ _), Lib.hid rfl⟩
  case round =>
    obtain ⟨k, hk, rfl, HU, HF⟩ := hrel
    by_cases hlt : k < xs.length
    · obtain ⟨b1, o1, u, f, rfl, -, -, p0, -, hr⟩ := HC.out k hlt
      have p0 := HU.out.keep p0
      have hf := HF.out
      rw [List.drop_eq_getElem_cons hlt, List.any_cons] at hf
      have HD := Lib.hid hf
      have hkl : (k : Int) < (xs.length : Int) := by omega
      have S1 := Lib.hid (HBY.out wr u f xs[k] HU.out (R_T1k.upd hr HU.out (by simp)))
      generalize P xs[k] = bb at *
      clear hf hr
      go_wp2_with fail
      refine S1.out.mono ?_
      rintro e w1 ⟨rfl, hu1⟩
      have HU1 := Lib.hid (HU.out.trans hu1)
      clear S1 hu1
      cases bb
      · go_wp2_with fail
        go_roundw
        case rel => exact ⟨k + 1, by omega, by go_num, HU1, Lib.hid (by rw [← HD.out]; rfl)⟩
        case measure => simp [intOf]; omega
      · have HZ := Lib.hid (show decide (0 ≤ (k : Int)) = xs.any P by rw [← HD.out]; simp)
        go_wp2_with fail
        go_ret
        exact ⟨⟨k, rfl, by omega, by omega, HZ.out⟩, HU1.out⟩
    · have hf := HF.out
      rw [List.drop_of_length_le (by omega)] at hf
      have HZ := Lib.hid (show decide (0 ≤ (-1 : Int)) = xs.any P by rw [← hf]; rfl)
      clear hf
      go_wp2_with fail
      go_ret
      exact ⟨⟨-1, rfl, by omega, by omega, HZ.out⟩, HU.out⟩

set_option maxRecDepth 20000 in
theorem containsFuncE (P : List Tm → Bool) (fn : FuncId) (caps : Array Value) (v : Value) (xs : List (List Tm)) (w : World) (fp : List Nat) (hR : R_T2 fp w [v] xs)
    (hent : ∀ args w, Sem.run Tryz.prog (callFunc fn args) w = .ok (.enter fn args) w)
    (hby : ∀ wr u f x, Upd [] w wr → R_T1 f wr [u] x → Calls Tryz.prog fn (#[u] ++ caps) wr fun e w' => e = .returned (.bool (P x)) ∧ Upd [] wr w') :
    Calls Tryz.prog 226 #[v, .func (.func fn) #[] caps] w fun e w' => e = .returned (.bool (xs.any P)) ∧ Upd [] w w' := by
  have S2 := Lib.hid (indexFuncE P fn caps v xs w fp hR hent hby)
  clear hby hent hR
  go_enter Tryz.func226, Tryz.ntmps226
  go_wp2_with fail
  refine S2.out.mono ?_
  rintro e w1 ⟨⟨q, rfl, h1, h2, h3⟩, hu⟩
  have H3 := Lib.hid (And.intro h3 hu)
  clear h3 hu
  go_wp2_with fail
  go_ret
  exact ⟨by rw [← H3.out.1]; rfl, H3.out.2⟩

end Go.Proofs.YtnchmnjkmhfleaaGreat

/-
  Whether a number is an index of a list: what the program's call returns.
-/
namespace Go.Proofs.YtnchmnjkmhfleaaGreat
open Go.RowKit

theorem idxI (n : Int) (m : Nat) (w : World) (hm : m ≤ 1000000) : Calls Tryz.prog 43 #[.int .i64 n, .int .i64 m] w fun e w' => e = .returned (.bool (inB n 0 (m - 1))) ∧ w = w' := by
  have S1 := Lib.hid (within n 0 ((m : Int) - 1) w)
  generalize inB n 0 ((m : Int) - 1) = b at *
  go_enter Tryz.func43, Tryz.ntmps43
  go_wp2_with fail
  refine S1.out.mono ?_
  rintro e w1 ⟨rfl, rfl⟩
  clear S1
  go_wp2_with fail
  go_ret
  exact ⟨rfl, rfl⟩

end Go.Proofs.YtnchmnjkmhfleaaGreat

/-
  The first element of which something is true, plainly.
-/
namespace Go.Proofs.YtnchmnjkmhfleaaGreat

def firstP {α : Type} (p : α → Bool) : List α → Int
  | [] => -1
  | s :: r => if p s then 0 else if firstP p r < 0 then -1 else firstP p r + 1
theorem firstP_at {α : Type} {p : α → Bool} : ∀ {l : List α} (k : Nat) (hk : k < l.length), (∀ j (_ : j < k) (hj : j < l.length), p l[j] = false) → p l[k] = true → firstP p l = k
  | [], k, hk, _, _ => by simp at hk
  | s :: r, 0, _, _, h => by simp at h; simp [firstP, h]
  | s :: r, k + 1, hk, hn, h => by
    have h0 : p s = false := hn 0 (by omega) (by simp)
    have ih := firstP_at (p := p) (l := r) k (by simpa using hk) (fun j hj hj2 => by have := hn (j + 1) (by omega) (by simpa using hj2); rwa [List.getElem_cons_succ] at this) (by rwa [List.getElem_cons_succ] at h)
    rw [firstP, h0, if_neg (by simp), ih, if_neg (by omega)]; omega
theorem firstP_none {α : Type} {p : α → Bool} : ∀ {l : List α}, (∀ j (hj : j < l.length), p l[j] = false) → firstP p l = -1
  | [], _ => rfl
  | s :: r, hn => by
    have h0 : p s = false := hn 0 (by simp)
    have ih := firstP_none (p := p) (l := r) (fun j hj => by have := hn (j + 1) (by simpa using hj); rwa [List.getElem_cons_succ] at this)
    rw [firstP, h0, if_neg (by simp), ih, if_pos (by omega)]
theorem firstP_nonneg {α : Type} (p : α → Bool) : ∀ l : List α, decide (0 ≤ firstP p l) = l.any p
  | [] => rfl
  | s :: r => by
    have ih := firstP_nonneg p r
    rw [List.any_cons, firstP]
    by_cases h : p s = true
    · simp [h]
    · rw [if_neg h, ← ih, show p s = false by simpa using h, Bool.false_or]
      by_cases h2 : firstP p r < 0
      · rw [if_pos h2]; rw [decide_eq_false (by omega), decide_eq_false (by omega)]
      · rw [if_neg h2]; rw [decide_eq_true (by omega), decide_eq_true (by omega)]
end Go.Proofs.YtnchmnjkmhfleaaGreat

/-
  Comparing texts and lists of texts: what the library's functions return.
-/
namespace Go.Proofs.YtnchmnjkmhfleaaGreat
open Go.RowKit

/-- the order of two texts as a number. -/
def cmpB (a b : List UInt8) : Int := if bl a b then -1 else if bl b a then 1 else 0
/-- the order of two lists of texts. -/
def cmpBs : List (List UInt8) → List (List UInt8) → Int
  | x :: xs, y :: ys => if cmpB x y = 0 then cmpBs xs ys else cmpB x y
  | _, _ => 0
theorem isNaNS (l : List UInt8) (w : World) : Calls Tryz.prog 180 #[es l] w fun e w' => e = .returned (.bool false) ∧ w = w' := by
  have hb : (l != l) = false := by simp
  go_enter Tryz.func180, Tryz.ntmps180
  go_wp2_with fail
  go_ret
  exact ⟨rfl, rfl⟩
set_option maxRecDepth 20000 in
set_option maxHeartbeats 1000000 in
theorem cmpStr (a b : List UInt8) (w : World) : Calls Tryz.prog 143 #[es a, es b] w fun e w' => e = .returned (.int .i64 (cmpB a b)) ∧ w = w' := by
  have HM := Lib.hid (show cmpB a b = if bl a b then -1 else if bl b a then 1 else 0 from rfl)
  generalize cmpB a b = Z at *
  obtain ⟨q1, h1⟩ : ∃ q, Op.bytesLess a b = q := ⟨_, rfl⟩
  obtain ⟨q2, h2⟩ : ∃ q, Op.bytesLess b a = q := ⟨_, rfl⟩
  rw [show bl a b = q1 from h1, show bl b a = q2 from h2] at HM
  have S1 := Lib.hid (isNaNS a w)
  have S2 := Lib.hid (isNaNS b w)
  cases q1 with
  | true =>
    go_enter Tryz.func143, Tryz.ntmps143
    go_wp2_with fail
    refine S1.out.mono ?_
    rintro e w1 ⟨rfl, rfl⟩
    go_wp2_with fail
    refine S2.out.mono ?_
    rintro e w1 ⟨rfl, rfl⟩
    go_wp2_with fail
    go_ret
    exact ⟨by rw [HM.out]; rfl, rfl⟩
  | false =>
    obtain ⟨q3, h3⟩ : ∃ q, (a == b) = q := ⟨_, rfl⟩
    have h4 : q3 = !q2 := by
      have := bl_total a b
      rw [show bl a b = false from h1, show bl b a = q2 from h2, Bool.false_or, h3] at this
      exact this
    cases q2 with
    | true =>
      obtain rfl : q3 = false := h4
      go_enter Tryz.func143, Tryz.ntmps143
      go_wp2_with fail
      refine S1.out.mono ?_
      rintro e w1 ⟨rfl, rfl⟩
      go_wp2_with fail
      refine S2.out.mono ?_
      rintro e w1 ⟨rfl, rfl⟩
      go_wp2_with fail
      go_ret
      exact ⟨by rw [HM.out]; rfl, rfl⟩
    | false =>
      obtain rfl : q3 = true := h4
      go_enter Tryz.func143, Tryz.ntmps143
      go_wp2_with fail
      refine S1.out.mono ?_
      rintro e w1 ⟨rfl, rfl⟩
      go_wp2_with fail
      refine S2.out.mono ?_
      rintro e w1 ⟨rfl, rfl⟩
      go_wp2_with fail
      go_ret
      exact ⟨by rw [HM.out]; rfl, rfl⟩

set_option maxRecDepth 20000 in
set_option maxHeartbeats 2000000 in
theorem cmpStrs (v1 v2 : Value) (xs ys : List (List UInt8)) (w : World) (f1 f2 : List Nat) (h1 : R_S1 f1 w [v1] xs) (h2 : R_S1 f2 w [v2] ys) (hl : xs.length = ys.length) :
    Calls Tryz.prog 94 #[v1, v2] w fun e w' => e = .returned (.int .i64 (cmpBs xs ys)) ∧ w = w' := by
  obtain ⟨a1, c1, rfl, l1, m1, hc1⟩ := slF1_open h1
  obtain ⟨a2, c2, rfl, l2, m2, hc2⟩ := slF1_open h2
  unfold maxLen at m1 m2
  have HC1 := Lib.hid hc1
  have HC2 := Lib.hid hc2
  have HL := Lib.hid hl
  clear h1 h2 hc1 hc2
  rw [← hl] at l2 ⊢
  clear hl
  go_enter Tryz.func94, Tryz.ntmps94
  go_wp2_with fail
  go_loopw [11] (fun iv wr => ∃ k : Nat, k ≤ xs.length ∧ iv = .int .i64 k ∧ Hid (cmpBs (xs.drop k) (ys.drop k) = cmpBs xs ys) ∧ wr = w) (fun iv _ => xs.length - (intOf iv).toNat)
  case atStart => exact ⟨0, Nat.zero_le _, rfl, Lib.hid rfl, by trivial⟩
  case round =>
    obtain ⟨k, hk, rfl, HS, rfl⟩ := hrel
    by_cases hlt : k < xs.length
    · have hly : k < ys.length := by rw [← HL.out]; exact hlt
      obtain ⟨b1, o1, rfl, -, -, p1⟩ := HC1.out k hlt
      obtain ⟨b2, o2, rfl, -, -, p2⟩ := HC2.out k hly
      have hs := HS.out
      rw [List.drop_eq_getElem_cons hlt, List.drop_eq_getElem_cons hly, cmpBs] at hs
      have HN := Lib.hid hs
      have S1 := Lib.hid (cmpStr xs[k] ys[k] wr)
      have hkl : (k : Int) < (xs.length : Int) := by omega
      have hkl2 : ¬ (xs.length : Int) ≤ (k : Int) := by omega
      clear hs HS
      generalize cmpB xs[k] ys[k] = z at *
      generalize xs[k] = x at *
      generalize ys[k] = y at *
      go_wp2_with fail
      refine S1.out.mono ?_
      rintro e w1 ⟨rfl, rfl⟩
      clear S1
      by_cases hz : z = 0
      · have hzb : (z != 0) = false := by simp [hz]
        have HK := Lib.hid (show cmpBs (xs.drop (k + 1)) (ys.drop (k + 1)) = cmpBs xs ys by rw [← HN.out, if_pos hz])
        clear hz HN
        go_wp2_with fail
        go_roundw
        case rel => exact ⟨k + 1, by omega, by go_num, HK, by trivial⟩
        case measure => simp [intOf]; omega
      · have hzb : (z != 0) = true := by simp [hz]
        have HK := Lib.hid (show cmpBs xs ys = z by rw [← HN.out, if_neg hz])
        clear hz HN
        go_wp2_with fail
        go_ret
        exact ⟨by rw [HK.out]; rfl, rfl⟩
    · have hs := HS.out
      rw [List.drop_of_length_le (by omega)] at hs
      have HK := Lib.hid (show cmpBs xs ys = 0 by rw [← hs]; cases ys.drop k <;> rfl)
      have hkl : ¬ (k : Int) < (xs.length : Int) := by omega
      clear hs
      go_wp2_with fail
      go_ret
      exact ⟨by rw [HK.out]; rfl, rfl⟩

end Go.Proofs.YtnchmnjkmhfleaaGreat

/-
  A number in decimal, read by the reference. (Printed by gennum.py: the two signs alike.)
-/
namespace Go.Proofs.YtnchmnjkmhfleaaGreat
open Go.RowKit

end Go.Proofs.YtnchmnjkmhfleaaGreat

/-
  The values of a label, as the reference reads them, are those that the program reads.
-/
namespace Go.Proofs.YtnchmnjkmhfleaaGreat
open Go.RowKit

end Go.Proofs.YtnchmnjkmhfleaaGreat

/-
  A text divided at each byte by the reference.
-/
namespace Go.Proofs.YtnchmnjkmhfleaaGreat
open Go.RowKit

end Go.Proofs.YtnchmnjkmhfleaaGreat

/-
  The values of a label, read by the reference.
-/
namespace Go.Proofs.YtnchmnjkmhfleaaGreat
open Go.RowKit

end Go.Proofs.YtnchmnjkmhfleaaGreat

/-
  Whether all numbers of a list are values: what the reference's call returns.
-/
namespace Go.Proofs.YtnchmnjkmhfleaaGreat
open Go.RowKit

set_option maxRecDepth 20000 in
theorem dataS (v : Value) (xs : List Int) (w : World) (fp : List Nat) (hR : R_I1 fp w [v] xs) :
    Calls Tryz.prog 104 #[v] w fun e w' => e = .returned (.bool (xs.all isV)) ∧ w = w' := by
  obtain ⟨a1, c1, rfl, hl1, hm1, hc1⟩ := slF1_open hR
  unfold maxLen at hm1
  have HC := Lib.hid hc1
  clear hR hc1
  go_enter Tryz.func104, Tryz.ntmps104
  go_wp2_with fail
  go_loop [3] (fun i => ∃ k : Nat, k ≤ xs.length ∧ i = .int .i64 k ∧ Hid ((xs.drop k).all isV = xs.all isV)) (fun i => xs.length - (intOf i).toNat)
  case atStart => exact ⟨0, Nat.zero_le _, rfl, Lib.hid rfl⟩
  case round =>
    obtain ⟨k, hk, rfl, HF⟩ := hrel
    by_cases hlt : k < xs.length
    · obtain ⟨b1, o1, rfl, -, -, p1⟩ := HC.out k hlt
      have hf := HF.out
      rw [List.drop_eq_getElem_cons hlt, List.all_cons] at hf
      have HD := Lib.hid hf
      have hkl : (k : Int) < (xs.length : Int) := by omega
      clear hf
      generalize xs[k] = x at *
      have S1 := Lib.hid (fun W => show Calls Tryz.prog 51 #[.int .i64 x, .int .i64 0, .int .i64 63] W (fun e w' => e = .returned (.bool (isV x)) ∧ W = w') from l00In x 0 63 W)
      generalize isV x = q at *
      cases q with
      | false =>
        have HZ := Lib.hid (show xs.all isV = false by rw [← HD.out]; rfl)
        go_wp2_with fail
        refine (S1.out _).mono ?_
        rintro e w1 ⟨rfl, rfl⟩
        go_wp2_with fail
        go_ret
        exact ⟨by rw [HZ.out]; rfl, rfl⟩
      | true =>
        go_wp2_with fail
        refine (S1.out _).mono ?_
        rintro e w1 ⟨rfl, rfl⟩
        go_wp2_with fail
        go_round
        case rel => exact ⟨k + 1, by omega, by go_num, Lib.hid (by rw [← HD.out]; rfl)⟩
        case measure => simp [intOf]; omega
    · have hf := HF.out
      rw [List.drop_of_length_le (by omega)] at hf
      have HZ := Lib.hid (show xs.all isV = true by rw [← hf]; rfl)
      clear hf
      go_wp2_with fail
      go_ret
      exact ⟨by rw [HZ.out]; rfl, rfl⟩

end Go.Proofs.YtnchmnjkmhfleaaGreat

/-
  Slices of elements of three or four plain cells each.
-/
namespace Go.Proofs.YtnchmnjkmhfleaaGreat
open Go.RowKit

end Go.Proofs.YtnchmnjkmhfleaaGreat

/-
  The laws' helper functions over edges, and over systems of states and edges.
-/
namespace Go.Proofs.YtnchmnjkmhfleaaGreat
open Go.RowKit Go.ChangeShapes

/-- an edge: from, label, to. -/
structure Ed where
  fr : Int
  lb : Int
  to : Int
deriving DecidableEq
end Go.Proofs.YtnchmnjkmhfleaaGreat

/-
  Systems copied and compared by the laws' helper functions.
-/
namespace Go.Proofs.YtnchmnjkmhfleaaGreat
open Go.RowKit Go.ChangeShapes

end Go.Proofs.YtnchmnjkmhfleaaGreat

/-
  Labels made: what the program's calls return.
-/
namespace Go.Proofs.YtnchmnjkmhfleaaGreat
open Go.RowKit

end Go.Proofs.YtnchmnjkmhfleaaGreat

/-
  The form's reading of bytes.
-/
namespace Go.Proofs.YtnchmnjkmhfleaaGreat
open Go.RowKit

end Go.Proofs.YtnchmnjkmhfleaaGreat

/-
  The expressions that the reference draws.
-/
namespace Go.Proofs.YtnchmnjkmhfleaaGreat
open Go.RowKit

end Go.Proofs.YtnchmnjkmhfleaaGreat

/-
  Canonical forms, plainly; forests of the rest of a valid list of terms.
-/
namespace Go.Proofs.YtnchmnjkmhfleaaGreat

def stays (t : Tm) : Bool := t.1 != 2 || (t.2 == 1 || t.2 == 5 || t.2 == 6)
end Go.Proofs.YtnchmnjkmhfleaaGreat

/-
  Comparing terms, small calls of Go's library, and canonical forms, the program's side.
-/
namespace Go.Proofs.YtnchmnjkmhfleaaGreat
open Go.RowKit

def IdxP (xs : List Int) (n : Int) (w : World) (e : Ending) (w' : World) : Prop := (∃ q : Int, e = .returned (.int .i64 q) ∧ -1 ≤ q ∧ q ≤ 9223372036854775807 ∧ (decide (0 ≤ q)) = xs.contains n) ∧ w = w'

set_option maxRecDepth 20000 in
set_option maxHeartbeats 1000000 in
theorem indexI (v : Value) (xs : List Int) (n : Int) (w : World) (fp : List Nat) (hR : R1 fp w [v] xs) :
    Calls Tryz.prog 81 #[v, .int .i64 n] w (IdxP xs n w) := by
  obtain ⟨a1, c1, rfl, hl1, hm1, hc1⟩ := slF1_open hR
  unfold maxLen at hm1
  clear hR
  go_enter Tryz.func81, Tryz.ntmps81
  go_wp2_with fail
  go_loop [8] (fun i => ∃ k : Nat, k ≤ xs.length ∧ i = .int .i64 k ∧ (xs.drop k).contains n = xs.contains n) (fun i => xs.length - (intOf i).toNat)
  case atStart => exact ⟨0, Nat.zero_le _, rfl, rfl⟩
  case round =>
    obtain ⟨k, hk, rfl, hF⟩ := hrel
    by_cases hlt : k < xs.length
    · obtain ⟨b1, o1, rfl, -, -, p1⟩ := hc1 k hlt
      rw [List.drop_eq_getElem_cons hlt] at hF
      have HF := Lib.hid hF
      clear hF hc1
      generalize xs[k] = x at *
      by_cases hx : n = x
      · subst hx
        go_wp2_with fail
        go_ret
        exact ⟨⟨k, rfl, by omega, by omega, by rw [← HF.out]; simp⟩, rfl⟩
      · have hx' : (n == x) = false := by simpa using hx
        go_wp2_with fail
        go_round
        case rel => exact ⟨k + 1, by omega, by go_num, by rw [← HF.out]; simp [hx]⟩
        case measure => simp [intOf]; omega
    · rw [List.drop_of_length_le (by omega)] at hF
      have HF := Lib.hid hF
      clear hF hc1
      go_wp2_with fail
      go_ret
      exact ⟨⟨-1, rfl, by omega, by omega, by rw [← HF.out]; simp⟩, rfl⟩

set_option maxRecDepth 20000 in
theorem containsI (v : Value) (xs : List Int) (n : Int) (w : World) (fp : List Nat) (hR : R1 fp w [v] xs) :
    Calls Tryz.prog 122 #[v, .int .i64 n] w fun e w' => e = .returned (.bool (xs.contains n)) ∧ w = w' := by
  have S2 := Lib.hid (indexI v xs n w fp hR)
  go_enter Tryz.func122, Tryz.ntmps122
  go_wp2_with fail
  refine S2.out.mono ?_
  rintro e w1 ⟨⟨q, rfl, h1, h2, h3⟩, rfl⟩
  have H3 := Lib.hid h3
  clear h3
  go_wp2_with fail
  go_ret
  exact ⟨by rw [← H3.out]; rfl, rfl⟩

end Go.Proofs.YtnchmnjkmhfleaaGreat

/-
  Canonical forms, the program's side.
-/
namespace Go.Proofs.YtnchmnjkmhfleaaGreat
open Go.RowKit

end Go.Proofs.YtnchmnjkmhfleaaGreat

/-
  What the laws FnForms and FnTerms need: drawn expressions, expressions held against each other, postfix form.
-/
namespace Go.Proofs.YtnchmnjkmhfleaaGreat
open Go.RowKit

end Go.Proofs.YtnchmnjkmhfleaaGreat

/-
  Lists of values, and whether all variables of an expression have one.
-/
namespace Go.Proofs.YtnchmnjkmhfleaaGreat
open Go.RowKit

end Go.Proofs.YtnchmnjkmhfleaaGreat

/-
  Evaluate: what the calls return for a valid expression and values for all its variables.
-/
namespace Go.Proofs.YtnchmnjkmhfleaaGreat
open Go.RowKit

end Go.Proofs.YtnchmnjkmhfleaaGreat

/-
  Evaluate, the reference's side.
-/
namespace Go.Proofs.YtnchmnjkmhfleaaGreat
open Go.RowKit

end Go.Proofs.YtnchmnjkmhfleaaGreat

/-
  What the law FnTerms draws.
-/
namespace Go.Proofs.YtnchmnjkmhfleaaGreat
open Go.RowKit

end Go.Proofs.YtnchmnjkmhfleaaGreat

/-
  The values that the reference draws.
-/
namespace Go.Proofs.YtnchmnjkmhfleaaGreat
open Go.RowKit

end Go.Proofs.YtnchmnjkmhfleaaGreat

/-
  Lists compared; lists drawn.
-/
namespace Go.Proofs.YtnchmnjkmhfleaaGreat
open Go.RowKit

end Go.Proofs.YtnchmnjkmhfleaaGreat

/-
  Relations between systems, the reference's parts: lists compared, pairs found, the edges from a state.
-/
namespace Go.Proofs.YtnchmnjkmhfleaaGreat
open Go.RowKit

end Go.Proofs.YtnchmnjkmhfleaaGreat

/-
  Reading numbers, texts and edges, plainly: a reader of a given number of bytes a number.
-/
namespace Go.Proofs.YtnchmnjkmhfleaaGreat
open Go.RowKit

end Go.Proofs.YtnchmnjkmhfleaaGreat

/-
  A system that is being read: its block, its two rows, and what appends to them leave.
-/
namespace Go.Proofs.YtnchmnjkmhfleaaGreat
open Go.RowKit

variable {H p T : Nat} {w W W' : World} {a b : Int} {L : List (List UInt8)} {E : List Ed} {v1 v2 : Value} {o o' : Obj}
end Go.Proofs.YtnchmnjkmhfleaaGreat

/-
  The form's reading of slices of structs with memory of their own.
-/
namespace Go.Proofs.YtnchmnjkmhfleaaGreat
open Go.RowKit Go.ChangeShapes Go.WideShapes Go.Deep

theorem opens_slQ {α : Type} {P : Program} {t e : TypeId} {n : Nat} {R : Rp α} {φ : α → Prop} (ht : P.underlying t = some (.slice e)) (hc : P.cellsOf e = n) (hn : 0 < n) (h : Opens P e R φ) :
    Opens P t (slQ n R) (fun xs => ∀ x ∈ xs, φ x) := by
  intro H enc w fuel cs x hx
  rcases open_slice ht hx with ⟨rfl, -⟩ | ⟨a, len, cap, m, q, D, Pl, rfl, -, hl, hm, hmm, -, hel⟩
  · exact ⟨[], [], slQ_nil w none 0 (by simp [maxLen]), by simp⟩
  · have hlm : len ≤ m := by subst hmm; simpa using hl
    rw [hc] at hel
    obtain ⟨l, hll, hlq⟩ := list_choice (fun i (y : α × List Value × List Nat) => (y.2.1.length = n ∧ ∀ j, j < n → w.cell? ((a.add (i * n)).add j) = y.2.1[j]?) ∧ R y.2.2 w y.2.1 y.1 ∧ φ y.1) len (fun i hi => by
      obtain ⟨cs', h1, h2⟩ := hel i (by omega)
      obtain ⟨-, h3, h4⟩ := World.cells?_some h1
      obtain ⟨y, f, hr, hy⟩ := h h2
      exact ⟨(y, cs', f), ⟨h3, h4⟩, hr, hy⟩)
    by_cases h0 : len = 0
    · subst h0
      exact ⟨[], [], by simpa using slQ_nil w (some a) cap hm, by simp⟩
    · have q0 := hlq 0 l[0] (by simp)
      have hc0 := q0.1.2 0 hn
      obtain ⟨c0, hc1⟩ : ∃ c, l[0].2.1[0]? = some c := ⟨_, List.getElem?_eq_getElem (by rw [q0.1.1]; exact hn)⟩
      rw [hc1] at hc0
      have hs : a.spot = none := by simpa [Addr.add] using World.cell?_spot hc0
      obtain ⟨b, off, spot⟩ := a
      simp at hs
      subst hs
      have ha : ∀ o, (⟨b, off, none⟩ : Addr).add o = ⟨b, off + o, none⟩ := fun o => by simp only [Addr.add]; split <;> simp_all
      have ha2 : ∀ o o2, (⟨b, off + o, none⟩ : Addr).add o2 = ⟨b, off + o + o2, none⟩ := fun o o2 => by simp only [Addr.add]; split <;> simp_all
      refine ⟨l.map (·.1), [b] ++ (l.map (·.2.2)).flatten, ⟨some ⟨b, off, none⟩, cap, l.map (·.2.1), [b], l.map (·.2.2), by simp [hll], by simpa [hll] using hl, hm, by simp, ?_, by simp, rfl, Or.inr ⟨b, off, rfl, rfl, ?_, ?_⟩, ?_⟩, ?_⟩
      · intro u hu
        obtain ⟨y, hy, rfl⟩ := List.mem_map.1 hu
        obtain ⟨i, hi, rfl⟩ := List.mem_iff_getElem.1 hy
        exact (hlq i _ (by simp)).1.1
      · have := World.block_lt_of_cell? w _ hc0
        simpa [Addr.add] using this
      · intro i j u c hu hj
        rw [List.getElem?_map] at hu
        cases hli : l[i]? with
        | none => simp [hli] at hu
        | some y =>
          simp [hli] at hu
          subst hu
          have g := hlq i y hli
          have := g.1.2 j (by rw [← g.1.1]; exact (List.getElem?_eq_some_iff.1 hj).1)
          rw [ha, ha2] at this
          rw [this]; exact hj
      · intro i hi u f hu hf
        simp at hi
        have hq := hlq i l[i] (by simp)
        simp [List.getElem?_eq_getElem hi] at hf hu
        subst hf hu
        simpa using hq.2.1
      · intro x hx
        obtain ⟨y, hy, rfl⟩ := List.mem_map.1 hx
        obtain ⟨i, hi, rfl⟩ := List.mem_iff_getElem.1 hy
        exact (hlq i _ (by simp)).2.2

section
variable {P : Program} {H : Type} {enc : TypeId × Value → H} {w : World} {base : Nat} {spare : Nat → Bool} {held : Bool}
theorem trod_struct5 {t : TypeId} {f0 f1 f2 f3 f4 : Field} {fuel : Nat} {cs : List Value} {x : DataW H × List MemPlace} (ht : P.underlying t = some (.struct #[f0, f1, f2, f3, f4])) (h : DataW.trod enc P w base spare held fuel t cs = some x) :
    ∃ y0 y1 y2 y3 y4 n, cs.length = P.cellsOf t ∧ DataW.trod enc P w base spare held n f0.type ((cs.drop f0.offset).take (P.cellsOf f0.type)) = some y0 ∧
      DataW.trod enc P w base spare held n f1.type ((cs.drop f1.offset).take (P.cellsOf f1.type)) = some y1 ∧ DataW.trod enc P w base spare held n f2.type ((cs.drop f2.offset).take (P.cellsOf f2.type)) = some y2 ∧
      DataW.trod enc P w base spare held n f3.type ((cs.drop f3.offset).take (P.cellsOf f3.type)) = some y3 ∧ DataW.trod enc P w base spare held n f4.type ((cs.drop f4.offset).take (P.cellsOf f4.type)) = some y4 := by
  obtain ⟨xs, n, _, rfl, hl, hlen, hf⟩ := DataW.trod_struct ht h
  match xs, hlen with
  | [y0, y1, y2, y3, y4], _ => exact ⟨y0, y1, y2, y3, y4, n, hl, by simpa using hf 0 f0 rfl, by simpa using hf 1 f1 rfl, by simpa using hf 2 f2 rfl, by simpa using hf 3 f3 rfl, by simpa using hf 4 f4 rfl⟩
end

end Go.Proofs.YtnchmnjkmhfleaaGreat

/-
  The form's reading of lists of numbers and of lists of expressions.
-/
namespace Go.Proofs.YtnchmnjkmhfleaaGreat
open Go.RowKit Go.ChangeShapes Go.WideShapes Go.Deep

theorem opens_I1 : Opens Tryz.prog 36 R_I1 (fun xs => ∀ x ∈ xs, (Lit.int .i64 x).wf = true) := opens_ints Tryz.underlying36 Tryz.underlying2 (by kernel_rfl)
theorem opens_T2 : Opens Tryz.prog 203 R_T2 (fun xss => ∀ xs ∈ xss, ∀ t ∈ xs, (Lit.int .i64 t.1).wf = true ∧ (Lit.int .i64 t.2).wf = true) := opens_slP Tryz.underlying203 (by kernel_rfl) opens_T1

end Go.Proofs.YtnchmnjkmhfleaaGreat

/-
  The form's reading of texts and lists of texts.
-/
namespace Go.Proofs.YtnchmnjkmhfleaaGreat
open Go.RowKit Go.ChangeShapes Go.WideShapes Go.Deep

theorem opens_S1 : Opens Tryz.prog 27 R_S1 (fun xs => ∀ p ∈ xs, p.length ≤ maxLen) :=
  opens_slF1 Tryz.underlying27 (by kernel_rfl) (by
    intro H enc w fuel v x hx
    obtain ⟨s, hv, -, hs⟩ := DataW.trod_string Tryz.underlying9 hx
    simp at hv
    exact ⟨s.data.toList, hv, hs⟩)
end Go.Proofs.YtnchmnjkmhfleaaGreat
