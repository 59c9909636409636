/-
  Readings of slices whose elements are several cells each and hold memory of their own.
-/
import Derived.Test.YtnfghgaadnobbaaGreatDoorLib2
import Derived.Deep.MidRow
namespace Go.Proofs.YtnfghgaadnobbaaGreatDoor
open Go.RowKit

theorem flat_len {β : Type} {n : Nat} : ∀ {us : List (List β)}, (∀ u ∈ us, u.length = n) → us.flatten.length = us.length * n
  | [], _ => by simp
  | u :: us, h => by
    rw [List.flatten_cons, List.length_append, h u (by simp), flat_len (fun v hv => h v (by simp [hv])), List.length_cons, Nat.add_mul]
    omega
theorem flat_at {β : Type} {n : Nat} : ∀ {us : List (List β)}, (∀ u ∈ us, u.length = n) → ∀ {i : Nat} {u : List β}, us[i]? = some u → ∀ {j : Nat} {c : β}, u[j]? = some c → us.flatten[i * n + j]? = some c
  | [], _, i, u, hu, _, _, _ => by simp at hu
  | v :: us, h, i, u, hu, j, c, hc => by
    have hv := h v (by simp)
    rw [List.flatten_cons]
    cases i with
    | zero =>
      simp at hu; subst hu
      rw [Nat.zero_mul, Nat.zero_add, List.getElem?_append_left (List.getElem?_eq_some_iff.1 hc).1]; exact hc
    | succ i =>
      simp at hu
      rw [List.getElem?_append_right (by rw [Nat.add_mul]; omega), hv, show (i + 1) * n + j - n = i * n + j by rw [Nat.add_mul]; omega]
      exact flat_at (fun x hx => h x (by simp [hx])) hu hc

/-- A slice whose elements are n cells each, and hold memory of their own. -/
def slQ {α : Type} (n : Nat) (R : Rp α) : Rp (List α) := fun fp w cs xs =>
  ∃ (a : Option Addr) (cap : Nat) (us : List (List Value)) (fb : List Nat) (fps : List (List Nat)), cs = [.slice a xs.length cap] ∧ xs.length ≤ cap ∧ cap ≤ maxLen ∧ us.length = xs.length ∧ (∀ u ∈ us, u.length = n) ∧ fps.length = xs.length ∧ fp = fb ++ fps.flatten ∧
    ((xs.length = 0 ∧ fb = []) ∨ ∃ b off, a = some ⟨b, off, none⟩ ∧ fb = [b] ∧ b < w.heap.size ∧ ∀ (i j : Nat) (u : List Value) (c : Value), us[i]? = some u → u[j]? = some c → w.cell? ⟨b, off + i * n + j, none⟩ = some c) ∧
    ∀ i (h : i < xs.length) u (f : List Nat), us[i]? = some u → fps[i]? = some f → R f w u xs[i]

theorem slQ_kept {α : Type} {n : Nat} {R : Rp α} (K : Kept R) : Kept (slQ n R) := by
  constructor
  · rintro fp w cs x ⟨a, cap, us, fb, fps, rfl, h1, h2, hu, hn, hl, rfl, hb, hr⟩ b hm
    rcases List.mem_append.1 hm with hm | hm
    · rcases hb with ⟨-, rfl⟩ | ⟨b', off, rfl, rfl, hbl, -⟩
      · simp at hm
      · simp at hm; subst hm; exact hbl
    · obtain ⟨f, hfm, hbf⟩ := List.mem_flatten.1 hm
      obtain ⟨i, hi, rfl⟩ := List.mem_iff_getElem.1 hfm
      exact K.lt (hr i (by omega) us[i] fps[i] (by simp) (by simp)) b hbf
  · rintro fp w w' cs x ⟨a, cap, us, fb, fps, rfl, h1, h2, hu, hn, hl, rfl, hb, hr⟩ hs hm
    refine ⟨a, cap, us, fb, fps, rfl, h1, h2, hu, hn, hl, rfl, ?_, fun i h u f hu' hf' => ?_⟩
    · rcases hb with hb | ⟨b', off, rfl, rfl, hbl, hc⟩
      · exact Or.inl hb
      · refine Or.inr ⟨b', off, rfl, rfl, by omega, fun i j u c hu' hc' => ?_⟩
        rw [World.cell?_of_block (w := w) (hm b' (by simp))]; exact hc i j u c hu' hc'
    · exact K.frame (hr i h u f hu' hf') hs fun b hbf => hm b (List.mem_append_right _ (List.mem_flatten.2 ⟨f, List.mem_of_getElem? hf', hbf⟩))

theorem slQ_open {α : Type} {n : Nat} {R : Rp α} {fp : List Nat} {w : World} {v : Value} {xs : List α} (h : slQ n R fp w [v] xs) :
    ∃ a cap, v = .slice a xs.length cap ∧ xs.length ≤ cap ∧ cap ≤ maxLen ∧
      ∀ i (h : i < xs.length), ∃ b off u f, a = some ⟨b, off, none⟩ ∧ b ∈ fp ∧ b < w.heap.size ∧ u.length = n ∧ (∀ (j : Nat) c, u[j]? = some c → w.cell? ⟨b, off + i * n + j, none⟩ = some c) ∧ (∀ c ∈ f, c ∈ fp) ∧ R f w u xs[i] := by
  obtain ⟨a, cap, us, fb, fps, hv, h1, h2, hu, hn, hl, rfl, hb, hr⟩ := h
  cases hv
  refine ⟨a, cap, rfl, h1, h2, fun i hi => ?_⟩
  rcases hb with ⟨h0, -⟩ | ⟨b, off, rfl, rfl, hbl, hc⟩
  · omega
  · have hu' : us[i]? = some us[i] := by simp
    have hf' : fps[i]? = some fps[i] := by simp
    exact ⟨b, off, us[i], fps[i], rfl, by simp, hbl, hn _ (List.mem_of_getElem? hu'), fun j c hj => hc i j _ c hu' hj, fun c hc => List.mem_append_right _ (List.mem_flatten.2 ⟨_, List.mem_of_getElem? hf', hc⟩), hr i hi _ _ hu' hf'⟩

theorem slQ_nil {α : Type} {n : Nat} {R : Rp α} (w : World) (a : Option Addr) (cap : Nat) (h : cap ≤ maxLen) : slQ n R [] w [.slice a 0 cap] ([] : List α) :=
  ⟨a, cap, [], [], [], rfl, Nat.zero_le _, h, rfl, by simp, rfl, rfl, Or.inl ⟨rfl, rfl⟩, by simp⟩

/-- One element of a slice that is owned is written, its cells and its own memory: the others stay. -/
theorem slQ_set {α : Type} {n : Nat} {R : Rp α} (K : Kept R) {fp : List Nat} {w : World} {v : Value} {xs : List α} (h : slQ n R fp w [v] xs) (hO : Own fp w) (i : Nat) (hi : i < xs.length) :
    ∃ a cap b off u f, v = .slice a xs.length cap ∧ xs.length ≤ cap ∧ cap ≤ maxLen ∧ a = some ⟨b, off, none⟩ ∧ b ∈ fp ∧ b < w.heap.size ∧ u.length = n ∧ (∀ (j : Nat) c, u[j]? = some c → w.cell? ⟨b, off + i * n + j, none⟩ = some c) ∧ (∀ c ∈ f, c ∈ fp) ∧ b ∉ f ∧ R f w u xs[i] ∧ Own f w ∧ Own [b] w ∧
      ∀ w' y u', Upd (b :: f) w w' → (∀ o, (o < off + i * n ∨ off + i * n + n ≤ o) → w'.cell? ⟨b, o, none⟩ = w.cell? ⟨b, o, none⟩) → u'.length = n → (∀ (j : Nat) c, u'[j]? = some c → w'.cell? ⟨b, off + i * n + j, none⟩ = some c) → R f w' u' y → Own f w' → Own [b] w' → slQ n R fp w' [v] (xs.set i y) ∧ Own fp w' := by
  obtain ⟨a, cap, us, fb, fps, hv, h1, h2, hu, hn, hl, rfl, hb, hr⟩ := h
  cases hv
  rcases hb with ⟨h0, -⟩ | ⟨b, off, rfl, rfl, hbl, hc⟩
  · omega
  · have hu' : us[i]? = some us[i] := by simp
    have hf : fps[i]? = some fps[i] := by simp
    obtain ⟨hnd, hrow⟩ := hO
    have hnd' := hnd
    rw [List.nodup_append] at hnd'
    obtain ⟨-, hnf, hdis⟩ := hnd'
    have hsub : ∀ c ∈ fps[i], c ∈ [b] ++ fps.flatten := fun c hc => List.mem_append_right _ (List.mem_flatten.2 ⟨_, List.mem_of_getElem? hf, hc⟩)
    have hbn : ∀ g ∈ fps, b ∉ g := fun g hg hm => hdis b (by simp) b (List.mem_flatten.2 ⟨_, hg, hm⟩) rfl
    have hother : ∀ j g, fps[j]? = some g → j ≠ i → ∀ c ∈ g, c ∉ fps[i] := by
      intro j g hg hji c hcg hci
      rw [nodup_flatten'] at hnf
      have hp := List.pairwise_iff_getElem.1 hnf.2
      obtain ⟨hjl, rfl⟩ := List.getElem?_eq_some_iff.1 hg
      rcases Nat.lt_or_gt_of_ne hji with h | h
      · exact hp j i hjl (by omega) h _ hcg _ hci rfl
      · exact hp i j (by omega) hjl h _ hci _ hcg rfl
    refine ⟨_, cap, b, off, us[i], fps[i], rfl, h1, h2, rfl, by simp, hbl, hn _ (List.mem_of_getElem? hu'), fun j c hj => hc i j _ c hu' hj, hsub, hbn _ (List.mem_of_getElem? hf), hr i hi _ _ hu' hf, ⟨?_, fun c hc => hrow c (hsub c hc)⟩, ⟨by simp, fun c hc => hrow c (by simp at hc; simp [hc])⟩, ?_⟩
    · rw [nodup_flatten'] at hnf; exact hnf.1 _ (List.mem_of_getElem? hf)
    · intro w' y u' hU hfar hul hput hR' hO1 hO2
      refine ⟨⟨_, cap, us.set i u', [b], fps, by simp, by simpa using h1, h2, by simpa using hu, ?_, by simpa using hl, rfl, Or.inr ⟨b, off, rfl, rfl, Nat.lt_of_lt_of_le hbl hU.size, ?_⟩, ?_⟩, ⟨hnd, ?_⟩⟩
      · intro x hx
        rcases List.mem_or_eq_of_mem_set hx with hx | rfl
        · exact hn x hx
        · exact hul
      · intro i2 j x c hx hj
        rw [List.getElem?_set] at hx
        by_cases e : i = i2
        · subst e
          rw [if_pos rfl, if_pos (by omega)] at hx
          cases hx
          exact hput j c hj
        · rw [if_neg e] at hx
          have hxl := hn x (List.mem_of_getElem? hx)
          have hjl := (List.getElem?_eq_some_iff.1 hj).1
          rw [hfar _ (by
            rcases Nat.lt_or_gt_of_ne e with h | h
            · right
              have : (i + 1) * n ≤ i2 * n := Nat.mul_le_mul_right _ h
              rw [Nat.add_mul] at this; omega
            · left
              have : (i2 + 1) * n ≤ i * n := Nat.mul_le_mul_right _ h
              rw [Nat.add_mul] at this; omega)]
          exact hc i2 j x c hx hj
      · intro j hj x g hx hg
        by_cases hji : j = i
        · subst hji
          rw [List.getElem?_set, if_pos rfl, if_pos (by omega)] at hx
          rw [hf] at hg; cases hx; cases hg
          simpa using hR'
        · rw [List.getElem?_set_ne (by omega)] at hx
          rw [List.getElem_set_ne (by omega)]
          refine K.upd (hr j (by simpa using hj) x g hx hg) hU (fun d hd hm => ?_)
          rcases List.mem_cons.1 hm with hm | hm
          · subst hm; exact hbn g (List.mem_of_getElem? hg) hd
          · exact hother j g hg hji d hd hm
      · intro c hc
        by_cases hcb : c = b
        · subst hcb; exact hO2.2 c (by simp)
        · by_cases hci : c ∈ fps[i]
          · exact hO1.2 c hci
          · rw [hU.block c (by obtain ⟨_, _, hh⟩ := hrow c hc; exact (Array.getElem?_eq_some_iff.1 hh).1) (by simp [hcb, hci])]
            exact hrow c hc

/-- Elements of several cells each, with memory of their own, from block base on and apart from the blocks ob. -/
def RowsQ {α : Type} (n : Nat) (R : Rp α) (base : Nat) (ob : List Nat) (w : World) (us : List (List Value)) (xs : List α) : Prop :=
  ∃ fps : List (List Nat), fps.length = xs.length ∧ us.length = xs.length ∧ (∀ u ∈ us, u.length = n) ∧ Own fps.flatten w ∧ (∀ b ∈ fps.flatten, base ≤ b ∧ b ∉ ob) ∧
    ∀ i (h : i < xs.length) u (f : List Nat), us[i]? = some u → fps[i]? = some f → R f w u xs[i]

/-- What a call makes anew, as several cells. -/
def NewQ {α : Type} (R : Rp α) (w w' : World) (u : List Value) (x : α) : Prop :=
  ∃ fp, R fp w' u x ∧ Own fp w' ∧ ∀ b ∈ fp, w.heap.size ≤ b

namespace RowsQ
variable {α : Type} {n : Nat} {R : Rp α} {base : Nat} {ob : List Nat} {w w1 : World} {us : List (List Value)} {xs : List α}

theorem nil (n : Nat) (R : Rp α) (base : Nat) (ob : List Nat) (w : World) : RowsQ n R base ob w [] [] := ⟨[], rfl, rfl, by simp, Own.nil w, by simp, by simp⟩
theorem length (h : RowsQ n R base ob w us xs) : us.length = xs.length := by obtain ⟨_, _, h, _⟩ := h; exact h
theorem each (h : RowsQ n R base ob w us xs) : ∀ u ∈ us, u.length = n := by obtain ⟨_, _, _, h, _⟩ := h; exact h
theorem flat (h : RowsQ n R base ob w us xs) : us.flatten.length = xs.length * n := by rw [flat_len h.each, h.length]

theorem upd (K : Kept R) (h : RowsQ n R base ob w us xs) {f : List Nat} (hu : Upd f w w1) (hf : ∀ b ∈ f, b ∈ ob ∨ b < base) : RowsQ n R base ob w1 us xs := by
  obtain ⟨fps, h1, h2, h6, h3, h4, h5⟩ := h
  have hd : ∀ b ∈ fps.flatten, b ∉ f := fun b hb hm => by
    rcases hf b hm with h | h
    · exact (h4 b hb).2 h
    · have := (h4 b hb).1; omega
  refine ⟨fps, h1, h2, h6, h3.upd hu hd, h4, fun i hi u f' hu' hf' => K.upd (h5 i hi u f' hu' hf') hu fun b hb => hd b (List.mem_flatten.2 ⟨_, List.mem_of_getElem? hf', hb⟩)⟩

theorem ob' (h : RowsQ n R base ob w us xs) {ob2 : List Nat} (hb : ∀ b ∈ ob2, b ∈ ob ∨ b < base ∨ w.heap.size ≤ b) : RowsQ n R base ob2 w us xs := by
  obtain ⟨fps, h1, h2, h6, h3, h4, h5⟩ := h
  refine ⟨fps, h1, h2, h6, h3, fun b hb' => ⟨(h4 b hb').1, fun hm => ?_⟩, h5⟩
  rcases hb b hm with h | h | h
  · exact (h4 b hb').2 h
  · have := (h4 b hb').1; omega
  · have := h3.lt b hb'; omega

theorem push (K : Kept R) (h : RowsQ n R base ob w us xs) {u : List Value} {x : α} (hu : Upd [] w w1) (hn : NewQ R w w1 u x) (hl : u.length = n) (hb : base ≤ w.heap.size) (hob : ∀ b ∈ ob, b < w.heap.size) :
    RowsQ n R base ob w1 (us ++ [u]) (xs ++ [x]) := by
  obtain ⟨fps, h1, h2, h6, h3, h4, h5⟩ := h.upd K hu (by simp)
  obtain ⟨fps', h1', h2', h6', h3', h4', h5'⟩ := h
  obtain ⟨fp, g1, g2, g3⟩ := hn
  have hlt : ∀ b ∈ fps'.flatten, b < w.heap.size := h3'.lt
  refine ⟨fps' ++ [fp], by simp [h1'], by simp [h2], ?_, ⟨?_, ?_⟩, ?_, ?_⟩
  · intro v hv
    rcases List.mem_append.1 hv with hv | hv
    · exact h6 v hv
    · simp at hv; subst hv; exact hl
  · rw [List.flatten_append, List.nodup_append]
    refine ⟨h3'.1, by simpa using g2.1, fun a ha b hb' e => ?_⟩
    subst e
    have := hlt a ha
    have := g3 a (by simpa using hb')
    omega
  · intro b hb'
    rw [List.flatten_append] at hb'
    rcases List.mem_append.1 hb' with hb' | hb'
    · exact (h3'.upd hu (by simp)).2 b hb'
    · exact g2.2 b (by simpa using hb')
  · intro b hb'
    rw [List.flatten_append] at hb'
    rcases List.mem_append.1 hb' with hb' | hb'
    · exact h4' b hb'
    · have := g3 b (by simpa using hb')
      exact ⟨by omega, fun hm => by have := hob b hm; omega⟩
  · intro i hi u' f' hu' hf'
    by_cases e : i < xs.length
    · rw [List.getElem?_append_left (by omega)] at hu' hf'
      rw [List.getElem_append_left e]
      exact K.upd (h5' i e u' f' hu' hf') hu (by simp)
    · have ei : i = xs.length := by simp at hi; omega
      subst ei
      rw [List.getElem?_append_right (by omega)] at hu' hf'
      rw [h2, Nat.sub_self] at hu'
      rw [h1', Nat.sub_self] at hf'
      simp at hu' hf'
      subst hu' hf'
      simpa using g1

theorem new (h : RowsQ n R base ob w us xs) {w0 : World} {e : TypeId} {v : Value} (ho : w.ownsRow w0.heap.size e n v xs.length us.flatten) (hob : ∀ b, v.ownBlock = some b → b ∈ ob) (hb : w0.heap.size ≤ base) :
    New (slQ n R) w0 w v xs := by
  obtain ⟨fps, h1, h2, h6, h3, h4, h5⟩ := h
  obtain ⟨fb, ⟨a, cap, rfl, q1, q2, -, q4⟩, g2, g3, g4⟩ := Flat.ofOwns ho
  refine ⟨fb ++ fps.flatten, ⟨a, cap, us, fb, fps, rfl, q1, q2, h2, h6, h1, rfl, ?_, h5⟩, ⟨?_, ?_⟩, ?_⟩
  · rcases q4 with q4 | ⟨b, off, rfl, rfl, hbl, hc⟩
    · exact Or.inl q4
    · refine Or.inr ⟨b, off, rfl, rfl, hbl, fun i j u c hu hj => ?_⟩
      rw [Nat.add_assoc]
      exact hc _ _ (flat_at h6 hu hj)
  · rw [List.nodup_append]
    refine ⟨g2.1, h3.1, fun a ha b hb' e => ?_⟩
    subst e
    exact (h4 a hb').2 (hob a (g4 a ha))
  · intro b hb'
    rcases List.mem_append.1 hb' with hb' | hb'
    · exact g2.2 b hb'
    · exact h3.2 b hb'
  · intro b hb'
    rcases List.mem_append.1 hb' with hb' | hb'
    · exact g3 b hb'
    · have := (h4 b hb').1; omega
end RowsQ

/-- cells put into a list one behind the other. -/
def putAt {β : Type} : List β → Nat → List β → List β
  | cs, _, [] => cs
  | cs, o, v :: vs => putAt (cs.set o v) (o + 1) vs
theorem putAt_mid {β : Type} : ∀ (vs A old B : List β), old.length = vs.length → putAt (A ++ old ++ B) A.length vs = A ++ vs ++ B
  | [], A, old, B, h => by
    obtain rfl : old = [] := List.eq_nil_of_length_eq_zero h
    rfl
  | v :: vs, A, o :: old, B, h => by
    rw [putAt, List.append_assoc, List.set_append_right _ _ (Nat.le_refl _), Nat.sub_self, List.cons_append, List.set_cons_zero]
    have := putAt_mid vs (A ++ [v]) old B (by simpa using h)
    simpa using this
theorem ownsRow_setCells {base : Nat} {e : TypeId} {n B L cap : Nat} : ∀ (vs : List Value) {w : World} {cs : List Value} (o : Nat), w.ownsRow base e n (.slice (some ⟨B, 0, none⟩) L cap) L cs → o + vs.length ≤ L * n →
    (w.setCells B o vs).ownsRow base e n (.slice (some ⟨B, 0, none⟩) L cap) L (putAt cs o vs)
  | [], _, _, _, h, _ => h
  | v :: vs, w, cs, o, h, hl => by
    rw [World.setCells, putAt]
    exact ownsRow_setCells vs (o + 1) (h.stored o v).1 (by simp at hl; omega)
theorem upd_setCells {f : List Nat} {w : World} (b : Nat) (hp : w.heap.size ≤ b ∨ b ∈ f) : ∀ (vs : List Value) (o : Nat) {w1 : World}, Upd f w w1 → Upd f w (w1.setCells b o vs)
  | [], _, _, h => h
  | v :: vs, o, _, h => by
    rw [World.setCells]
    exact upd_setCells b hp vs (o + 1) (h.setCell (p := ⟨b, o, none⟩) hp v)
/-- a made row of which the first elements are filled in: one more. -/
theorem filled_set {β : Type} (us : List (List β)) (z : List β) (m n : Nat) (hz : z.length = n) (hu : ∀ u ∈ us, u.length = n) (u : List β) (hl : u.length = n) :
    putAt (us.flatten ++ (List.replicate (m + 1) z).flatten) (us.length * n) u = (us ++ [u]).flatten ++ (List.replicate m z).flatten := by
  rw [List.replicate_succ, List.flatten_cons, ← List.append_assoc, ← flat_len hu, putAt_mid _ _ _ _ (by omega)]
  simp

theorem made_Q {n : Nat} (L : List Value) (hn : L.length = n) (h0 : 0 < n) (m : Nat) : (madeCells (Value.agg L.toArray).cells (m * n)).toList = (List.replicate m L).flatten := by
  apply List.ext_getElem?
  intro i
  have hsz : (Value.agg L.toArray).cells.size = n := by simpa [Value.cells] using hn
  by_cases hi : i < m * n
  · have h2 : i / n < m := by
      have := Nat.div_mul_le_self i n
      rcases Nat.lt_or_ge (i / n) m with h | h
      · exact h
      · have := Nat.mul_le_mul_right n h; omega
    have h3 : i % n < L.length := by rw [hn]; exact Nat.mod_lt _ h0
    have g := flat_at (n := n) (us := List.replicate m L) (by intro u hu; rw [(List.mem_replicate.1 hu).2]; exact hn) (i := i / n) (u := L) (by rw [List.getElem?_replicate, if_pos h2]) (j := i % n) (c := L[i % n]) (List.getElem?_eq_getElem h3)
    have hd : i / n * n + i % n = i := by rw [Nat.mul_comm]; exact Nat.div_add_mod i n
    rw [hd] at g
    rw [g]
    simp [madeCells, hi, Value.cells, hn]
    rw [List.getElem?_eq_getElem h3]; rfl
  · have g : (List.replicate m L).flatten.length = m * n := by
      rw [flat_len (n := n) (by intro u hu; rw [(List.mem_replicate.1 hu).2]; exact hn)]; simp
    have h4 : (madeCells (Value.agg L.toArray).cells (m * n)).toList.length = m * n := by simp [madeCells]
    rw [List.getElem?_eq_none (by omega), List.getElem?_eq_none (by omega)]

theorem Upd.keepF {f : List Nat} {w w1 : World} {b o : Nat} {v : Value} (hu : Upd f w w1) (hb : b ∉ f) (h : w.cell? ⟨b, o, none⟩ = some v) : w1.cell? ⟨b, o, none⟩ = some v := by
  have hl := World.block_lt_of_cell? w _ h
  unfold World.cell? at h ⊢
  rw [hu.block b hl hb]; exact h
theorem Upd.cellF {f : List Nat} {w w1 : World} {b : Nat} (hu : Upd f w w1) (hb : b ∉ f) (hl : b < w.heap.size) (o : Nat) : w1.cell? ⟨b, o, none⟩ = w.cell? ⟨b, o, none⟩ := by
  unfold World.cell?
  rw [hu.block b hl hb]
theorem Upd.row {f : List Nat} {w w1 : World} (h : Upd f w w1) {g : Nat} (hg : w.heap.size ≤ g ∨ g ∈ f) (cs : Array Value) : Upd f w (w1.setRow g cs) :=
  h.fresh (f := [g]) ⟨rfl, rfl, rfl, by simp [World.setRow], fun k _ hf => setRow_other _ _ _ _ (by simpa using hf)⟩ (by simpa using hg)
theorem own_split {f g : List Nat} {w : World} (h : Own (f ++ g) w) : Own f w ∧ Own g w ∧ ∀ b ∈ f, b ∉ g := by
  obtain ⟨h1, h2⟩ := h
  rw [List.nodup_append] at h1
  exact ⟨⟨h1.1, fun b hb => h2 b (by simp [hb])⟩, ⟨h1.2.1, fun b hb => h2 b (by simp [hb])⟩, fun b hb hc => h1.2.2 b hb b hc rfl⟩
theorem own_join {f g : List Nat} {w : World} (h1 : Own f w) (h2 : Own g w) (hd : ∀ b ∈ f, b ∉ g) : Own (f ++ g) w := by
  refine ⟨?_, fun b hb => ?_⟩
  · rw [List.nodup_append]
    exact ⟨h1.1, h2.1, fun a ha b hb e => hd a ha (e ▸ hb)⟩
  · rcases List.mem_append.1 hb with hb | hb
    · exact h1.2 b hb
    · exact h2.2 b hb
/-- memory made between two worlds, as it lies later. -/
structure Part {α : Type} (R : Rp α) (lo hi : Nat) (w : World) (v : Value) (x : α) (fp : List Nat) : Prop where
  r : R fp w [v] x
  o : Own fp w
  b : ∀ b ∈ fp, lo ≤ b ∧ b < hi
theorem Part.of {α : Type} {R : Rp α} (K : Kept R) {w w1 : World} {v : Value} {x : α} (h : New R w w1 v x) : ∃ fp, Part R w.heap.size w1.heap.size w1 v x fp := by
  obtain ⟨fp, h1, h2, h3⟩ := h
  exact ⟨fp, h1, h2, fun b hb => ⟨h3 b hb, K.lt h1 b hb⟩⟩
theorem Part.upd {α : Type} {R : Rp α} (K : Kept R) {lo hi : Nat} {w w1 : World} {v : Value} {x : α} {fp f : List Nat} (h : Part R lo hi w v x fp) (hu : Upd f w w1) (hf : ∀ b ∈ f, b < lo ∨ hi ≤ b) : Part R lo hi w1 v x fp := by
  have hd : ∀ b ∈ fp, b ∉ f := fun b hb hm => by have := h.b b hb; have := hf b hm; omega
  exact ⟨K.upd h.r hu hd, h.o.upd hu hd, h.b⟩
theorem New.formQ {α : Type} {n : Nat} {R : Rp α} {w w' : World} {v : Value} {x : List α} (h : New (slQ n R) w w' v x) : ∃ a cap, v = .slice a x.length cap := by
  obtain ⟨fp, ⟨a, cap, us, fb, fps, hv, -⟩, -⟩ := h
  cases hv; exact ⟨a, cap, rfl⟩

/-- outside of a part of block b the cells are as they were. -/
def FarEq (w w' : World) (b lo hi : Nat) : Prop := ∀ o, (o < lo ∨ hi ≤ o) → w'.cell? ⟨b, o, none⟩ = w.cell? ⟨b, o, none⟩
theorem FarEq.refl (w : World) (b lo hi : Nat) : FarEq w w b lo hi := fun _ _ => rfl
theorem FarEq.upd {w w1 w2 : World} {b lo hi : Nat} {f : List Nat} (h : FarEq w w1 b lo hi) (hu : Upd f w1 w2) (hb : b ∉ f) (hl : b < w1.heap.size) : FarEq w w2 b lo hi := fun o ho => (hu.cellF hb hl o).trans (h o ho)
theorem FarEq.put {w w1 w2 : World} {b lo hi j : Nat} (h : FarEq w w1 b lo hi) (hc : ∀ o, o ≠ j → w2.cell? ⟨b, o, none⟩ = w1.cell? ⟨b, o, none⟩) (hj : lo ≤ j ∧ j < hi) : FarEq w w2 b lo hi := fun o ho => (hc o (by omega)).trans (h o ho)

/-- three blocks in a row: what came in, the result's, and the one under way. -/
structure Three (w W : World) (T1 T2 : TypeId) (B : Nat) (p z o : List Value) : Prop where
  base : w.heap.size = B
  upd : Upd [] w W
  h0 : W.heap[B]? = some (.cells p.toArray T1 (0, 0))
  h1 : W.heap[B + 1]? = some (.cells z.toArray T2 (0, 0))
  h2 : W.heap[B + 2]? = some (.cells o.toArray T2 (0, 0))
namespace Three
variable {w W W' : World} {T1 T2 : TypeId} {B : Nat} {p z o : List Value}
theorem mk0 (w : World) (T1 T2 : TypeId) (p z o : List Value) : Three w (((w.alloc (.cells p.toArray T1)).alloc (.cells z.toArray T2)).alloc (.cells o.toArray T2)) T1 T2 w.heap.size p z o := by
  have s1 : (w.alloc (.cells p.toArray T1)).heap.size = w.heap.size + 1 := by simp
  have s2 : ((w.alloc (.cells p.toArray T1)).alloc (.cells z.toArray T2)).heap.size = w.heap.size + 2 := by simp
  refine ⟨rfl, (((Upd.refl _ _).alloc _).alloc _).alloc _, ?_, ?_, ?_⟩
  · rw [Below.heap_alloc _ _ _ (by omega), Below.heap_alloc _ _ _ (by omega)]; exact heap_alloc_new w _
  · rw [Below.heap_alloc _ _ _ (by omega), ← s1]; exact heap_alloc_new _ _
  · rw [← s2]; exact heap_alloc_new _ _
theorem size (h : Three w W T1 T2 B p z o) : B + 2 < W.heap.size := (Array.getElem?_eq_some_iff.1 h.h2).1
theorem call (h : Three w W T1 T2 B p z o) (hu : Upd [] W W') : Three w W' T1 T2 B p z o :=
  ⟨h.base, h.upd.trans hu, by rw [hu.block _ (Array.getElem?_eq_some_iff.1 h.h0).1 (by simp)]; exact h.h0, by rw [hu.block _ (Array.getElem?_eq_some_iff.1 h.h1).1 (by simp)]; exact h.h1, by rw [hu.block _ (Array.getElem?_eq_some_iff.1 h.h2).1 (by simp)]; exact h.h2⟩
theorem store (h : Three w W T1 T2 B p z o) (j : Nat) (v : Value) : Three w (W.setCell ⟨B + 2, j, none⟩ v) T1 T2 B p z (o.set j v) := by
  refine ⟨h.base, h.upd.setCell (Or.inl (by rw [h.base]; simp)) _, ?_, ?_, ?_⟩
  · rw [Below.heap_setCell _ _ _ _ (by simp)]; exact h.h0
  · rw [Below.heap_setCell _ _ _ _ (by simp)]; exact h.h1
  · simp [World.setCell, Array.getElem?_modify, h.h2]
theorem pc (h : Three w W T1 T2 B p z o) (j : Nat) (c : Value) (hc : p[j]? = some c) : W.cell? ⟨B, j, none⟩ = some c := by simp [World.cell?, h.h0, hc]
theorem oc (h : Three w W T1 T2 B p z o) (j : Nat) (c : Value) (hc : o[j]? = some c) : W.cell? ⟨B + 2, j, none⟩ = some c := by simp [World.cell?, h.h2, hc]
theorem fz (h : Three w W T1 T2 B p z o) (j : Nat) : W.frozen? ⟨B + 2, j, none⟩ = false := by simp [World.frozen?, h.h2]
end Three

end Go.Proofs.YtnfghgaadnobbaaGreatDoor
