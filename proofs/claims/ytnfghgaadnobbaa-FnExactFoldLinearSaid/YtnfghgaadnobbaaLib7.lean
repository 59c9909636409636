/-
  Rows of cells in a block, one row an element: a slice of structs taken apart and put together again; what DeleteFunc and its like leave.
-/
import Derived.Test.YtnfghgaadnobbaaLib3
namespace Go.Proofs.Ytnfghgaadnobbaa
open Go.RowKit

/-- rows of cells in a block. -/
def rowsAt (w : World) (b off n : Nat) (rs : List (List Value)) : Prop := ∀ (i : Nat) (u : List Value), rs[i]? = some u → ∀ (j : Nat) c, u[j]? = some c → w.cell? ⟨b, off + i * n + j, none⟩ = some c

/-- a row of an element, its memory, the element. -/
abbrev Trip (α : Type) := List Value × List Nat × α

/-- what a slice of structs is, row by row. -/
structure RawQ {α : Type} (n : Nat) (R : Rp α) (w : World) (b off : Nat) (T : List (Trip α)) : Prop where
  bl : b < w.heap.size
  rows : rowsAt w b off n (T.map (·.1))
  each : ∀ t ∈ T, t.1.length = n ∧ R t.2.1 w t.1 t.2.2

theorem slQ_raw {α : Type} {n : Nat} {R : Rp α} {fp : List Nat} {w : World} {v : Value} {xs : List α} (h : slQ n R fp w [v] xs) (h0 : 0 < xs.length) :
    ∃ b off cap T, v = .slice (some ⟨b, off, none⟩) xs.length cap ∧ xs.length ≤ cap ∧ cap ≤ maxLen ∧ xs = T.map (·.2.2) ∧ fp = b :: (T.map (·.2.1)).flatten ∧ RawQ n R w b off T := by
  obtain ⟨a, cap, us, fb, fps, hv, h1, h2, hu, hn, hl, rfl, hb, hr⟩ := h
  cases hv
  rcases hb with ⟨h0', -⟩ | ⟨b, off, rfl, rfl, hbl, hc⟩
  · omega
  · have hz : (us.zip (fps.zip xs)).length = xs.length := by simp [hu, hl]
    have e1 : (us.zip (fps.zip xs)).map (·.1) = us := List.map_fst_zip (by simp [hu, hl])
    have e2 : (us.zip (fps.zip xs)).map (·.2) = fps.zip xs := List.map_snd_zip (by simp [hu, hl])
    have e3 : (us.zip (fps.zip xs)).map (·.2.1) = fps := by
      rw [show (fun t : Trip α => t.2.1) = (·.1) ∘ (·.2) from rfl, ← List.map_map, e2]; exact List.map_fst_zip (by simp [hl])
    have e4 : (us.zip (fps.zip xs)).map (·.2.2) = xs := by
      rw [show (fun t : Trip α => t.2.2) = (·.2) ∘ (·.2) from rfl, ← List.map_map, e2]; exact List.map_snd_zip (by simp [hl])
    refine ⟨b, off, cap, us.zip (fps.zip xs), rfl, h1, h2, e4.symm, by rw [e3]; rfl, hbl, by rw [e1]; exact fun i u hi j c hj => hc i j u c hi hj, fun t ht => ?_⟩
    obtain ⟨i, hi, rfl⟩ := List.mem_iff_getElem.1 ht
    have hi' : i < xs.length := by omega
    have q1 : us[i]? = some us[i] := by simp
    have q2 : fps[i]? = some fps[i] := by simp
    simp only [List.getElem_zip]
    exact ⟨hn _ (List.getElem_mem _), hr i hi' _ _ q1 q2⟩

theorem raw_slQ {α : Type} {n : Nat} {R : Rp α} {w : World} {b off cap : Nat} {T : List (Trip α)} (h : RawQ n R w b off T) (h1 : T.length ≤ cap) (h2 : cap ≤ maxLen) :
    slQ n R (b :: (T.map (·.2.1)).flatten) w [.slice (some ⟨b, off, none⟩) (T.map (·.2.2)).length cap] (T.map (·.2.2)) := by
  refine ⟨_, cap, T.map (·.1), [b], T.map (·.2.1), rfl, by simpa using h1, h2, by simp, ?_, by simp, rfl, Or.inr ⟨b, off, rfl, rfl, h.bl, fun i j u c hi hj => h.rows i u hi j c hj⟩, ?_⟩
  · intro u hu
    obtain ⟨t, ht, rfl⟩ := List.mem_map.1 hu
    exact (h.each t ht).1
  · intro i hi u f hu hf
    rw [List.getElem?_map] at hu hf
    have hi' : i < T.length := by simpa using hi
    rw [List.getElem?_eq_getElem hi'] at hu hf
    cases hu; cases hf
    have := (h.each _ (List.getElem_mem hi')).2
    simpa using this

theorem sub_flatten {β : Type} : ∀ {A B : List (List β)}, A.Sublist B → A.flatten.Sublist B.flatten
  | _, _, .slnil => List.Sublist.refl _
  | _, _, .cons a h => by rw [List.flatten_cons]; exact (sub_flatten h).trans (List.sublist_append_right _ _)
  | _, _, .cons_cons a h => by rw [List.flatten_cons, List.flatten_cons]; exact List.Sublist.append (List.Sublist.refl _) (sub_flatten h)

/-- fewer elements: less memory. -/
theorem own_sub {α : Type} {w : World} {b : Nat} {T T' : List (Trip α)} (h : Own (b :: (T.map (·.2.1)).flatten) w) (hs : T'.Sublist T) :
    Own (b :: (T'.map (·.2.1)).flatten) w ∧ ∀ c ∈ b :: (T'.map (·.2.1)).flatten, c ∈ b :: (T.map (·.2.1)).flatten := by
  have hl : (b :: (T'.map (·.2.1)).flatten).Sublist (b :: (T.map (·.2.1)).flatten) := List.Sublist.cons_cons _ (sub_flatten (hs.map _))
  exact ⟨⟨h.1.sublist hl, fun c hc => h.2 c (hl.subset hc)⟩, fun c hc => hl.subset hc⟩

theorem Own.setCells {fp : List Nat} {b : Nat} : ∀ (vs : List Value) (o : Nat) {w : World}, Own fp w → Own fp (w.setCells b o vs)
  | [], _, _, h => h
  | v :: vs, o, _, h => by rw [World.setCells]; exact Own.setCells vs (o + 1) (h.setCell _ _)

/-- a row put in a row's place. -/
theorem rowsAt.put {w : World} {b off n : Nat} {rs : List (List Value)} (h : rowsAt w b off n rs) (he : ∀ r ∈ rs, r.length = n) (i : Nat) (hi : i < rs.length) (u : List Value) (hu : u.length = n) :
    rowsAt (w.setCells b (off + i * n) u) b off n (rs.set i u) := by
  intro k r hk j c hj
  rw [List.getElem?_set] at hk
  by_cases e : i = k
  · subst e
    rw [if_pos rfl, if_pos hi] at hk
    cases hk
    have hjl := (List.getElem?_eq_some_iff.1 hj)
    obtain ⟨hjl, rfl⟩ := hjl
    have hri : rs[i]? = some rs[i] := by simp
    have hrl : rs[i].length = n := he _ (List.getElem_mem hi)
    exact World.cell?_setCells_in b u (off + i * n) w (fun q hq => by
      rw [h i _ hri q (rs[i][q]'(by omega)) (by simp)]; rfl) j hjl
  · rw [if_neg e] at hk
    have hkl := he r (List.mem_of_getElem? hk)
    have hjl := (List.getElem?_eq_some_iff.1 hj).1
    rw [World.cell?_setCells_out b u _ _ _ (fun _ _ => by
      show off + k * n + j < off + i * n ∨ off + i * n + u.length ≤ off + k * n + j
      rcases Nat.lt_or_gt_of_ne e with h | h
      · right
        have : (i + 1) * n ≤ k * n := Nat.mul_le_mul_right _ h
        rw [Nat.add_mul] at this; omega
      · left
        have : (k + 1) * n ≤ i * n := Nat.mul_le_mul_right _ h
        rw [Nat.add_mul] at this; omega)]
    exact h k r hk j c hj

theorem rowsAt.frame {w w' : World} {b off n : Nat} {rs : List (List Value)} (h : rowsAt w b off n rs) (hb : w'.heap[b]? = w.heap[b]?) : rowsAt w' b off n rs := by
  intro i u hi j c hj
  rw [← h i u hi j c hj]
  simp only [World.cell?, hb]

theorem rowsAt.upd {w w' : World} {b off n : Nat} {rs : List (List Value)} {f : List Nat} (h : rowsAt w b off n rs) (hl : b < w.heap.size) (hu : Upd f w w') (hf : b ∉ f) : rowsAt w' b off n rs := h.frame (hu.block b hl hf)

theorem rowsAt.take {w : World} {b off n : Nat} {rs : List (List Value)} (h : rowsAt w b off n rs) (i : Nat) : rowsAt w b off n (rs.take i) := by
  intro k u hk j c hj
  rw [List.getElem?_take] at hk
  split at hk
  · exact h k u hk j c hj
  · cases hk

/-- rows ahead of what is written. -/
theorem rowsAt.ahead {w : World} {b off n : Nat} {rs : List (List Value)} (h : rowsAt w b off n rs) (he : ∀ r ∈ rs, r.length = n) (o : Nat) (ho : off + rs.length * n ≤ o) (vs : List Value) : rowsAt (w.setCells b o vs) b off n rs := by
  intro k u hk j c hj
  have hkl := he u (List.mem_of_getElem? hk)
  have hjl := (List.getElem?_eq_some_iff.1 hj).1
  have hki := (List.getElem?_eq_some_iff.1 hk).1
  rw [World.cell?_setCells_out b vs _ _ _ (fun _ _ => by
    show off + k * n + j < o ∨ o + vs.length ≤ off + k * n + j
    left
    have : (k + 1) * n ≤ rs.length * n := Nat.mul_le_mul_right _ hki
    rw [Nat.add_mul] at this; omega)]
  exact h k u hk j c hj

theorem zeroCells_rows {n : Nat} (L : List Value) (hn : L.length = n) (h0 : 0 < n) (m : Nat) : (Builtin.zeroCells (Value.agg L.toArray).cells m).toList = (List.replicate m L).flatten := by
  have hs : (Value.agg L.toArray).cells.size = n := by simpa [Value.cells] using hn
  rw [← made_Q L hn h0 m]
  unfold Builtin.zeroCells madeCells
  rw [hs]

/-- 'clear' of a slice of structs: something is written into its cells. -/
theorem run_clear_rows {P : Program} (w : World) (t e ty : TypeId) (L : List Value) (n : Nat) (hn : L.length = n) (h0 : 0 < n) (ht : P.underlying t = some (.slice e)) (hv : ∀ w, (zeroValue e).run P w = .ok (.agg L.toArray) w) (h1 : ∀ v ∈ L, v.oneCell' = true) (b o m c : Nat) (hm : 0 < m)
    (hc : ∀ j, j < m * n → (w.cell? ⟨b, o + j, none⟩).isSome = true) (hf : ∀ j, w.frozen? ⟨b, o + j, none⟩ = false) :
    (Builtin.clear_ #[t] ty #[.slice (some ⟨b, o, none⟩) m c]).run P w = .ok (.tuple #[]) (w.setCells b o (List.replicate m L).flatten) := by
  have hzc := zeroCells_rows L hn h0 m
  have hlen : (List.replicate m L).flatten.length = m * n := by rw [flat_len (n := n) (by intro u hu; rw [(List.mem_replicate.1 hu).2]; exact hn)]; simp
  have hst := run_storeCells_cells (P := P) b o (List.replicate m L).flatten 0 w (by intro j hj; simpa using hc j (by omega)) (by intro j _; simpa using hf j) (by
    intro v hv'
    obtain ⟨l, hl, hv2⟩ := List.mem_flatten.1 hv'
    rw [(List.mem_replicate.1 hl).2] at hv2
    exact h1 v hv2)
  simp only [Nat.add_zero] at hst
  obtain ⟨m, rfl⟩ : ∃ k, m = k + 1 := ⟨m - 1, by omega⟩
  simp [Builtin.clear_, run_underlying ht, hv, hzc, hst]

/-- what is left of the first j elements when those that are struck are taken away. -/
def leftOf {α : Type} (p : α → Bool) (T : List (Trip α)) (j : Nat) : List (Trip α) := (T.take j).filter fun t => !p t.2.2

theorem leftOf_sub {α : Type} (p : α → Bool) (T : List (Trip α)) (j : Nat) : (leftOf p T j).Sublist T := (List.filter_sublist).trans (List.take_sublist _ _)
theorem leftOf_le {α : Type} (p : α → Bool) (T : List (Trip α)) (j : Nat) : (leftOf p T j).length ≤ j := by
  have h1 := List.length_filter_le (fun t : Trip α => !p t.2.2) (T.take j)
  have h2 : (T.take j).length ≤ j := by simp; omega
  unfold leftOf; omega
theorem leftOf_no {α : Type} (p : α → Bool) (T : List (Trip α)) (j : Nat) (h : j < T.length) (hp : p T[j].2.2 = true) : leftOf p T (j + 1) = leftOf p T j := by
  unfold leftOf
  rw [List.take_succ_eq_append_getElem h, List.filter_append]
  simp [hp]
theorem leftOf_yes {α : Type} (p : α → Bool) (T : List (Trip α)) (j : Nat) (h : j < T.length) (hp : p T[j].2.2 = false) : leftOf p T (j + 1) = leftOf p T j ++ [T[j]] := by
  unfold leftOf
  rw [List.take_succ_eq_append_getElem h, List.filter_append]
  simp [hp]
theorem leftOf_all {α : Type} (p : α → Bool) (T : List (Trip α)) (j : Nat) (h : ∀ i (hi : i < T.length), i < j → p T[i].2.2 = false) : leftOf p T j = T.take j := by
  unfold leftOf
  rw [List.filter_eq_self]
  intro t ht
  obtain ⟨i, hi, rfl⟩ := List.mem_iff_getElem.1 ht
  have hi2 : i < j ∧ i < T.length := by simp at hi; omega
  rw [List.getElem_take, h i hi2.2 hi2.1]; rfl
theorem leftOf_end {α : Type} (p : α → Bool) (T : List (Trip α)) : (leftOf p T T.length).map (·.2.2) = (T.map (·.2.2)).filter fun x => !p x := by
  unfold leftOf
  rw [List.take_length, List.filter_map]; rfl

/-- the rows while elements are struck. -/
structure DelInv {α : Type} (p : α → Bool) (n : Nat) (T : List (Trip α)) (i j : Nat) (rs : List (List Value)) : Prop where
  len : rs.length = T.length
  each : ∀ r ∈ rs, r.length = n
  lt : i < j
  at_ : i = (leftOf p T j).length
  low : rs.take i = (leftOf p T j).map (·.1)
  high : rs.drop j = (T.map (·.1)).drop j

namespace DelInv
variable {α : Type} {p : α → Bool} {n : Nat} {T : List (Trip α)} {i j : Nat} {rs : List (List Value)}

theorem start (hT : ∀ t ∈ T, t.1.length = n) (k : Nat) (hk : k < T.length) (hp : p T[k].2.2 = true) (ha : ∀ i (hi : i < T.length), i < k → p T[i].2.2 = false) : DelInv p n T k (k + 1) (T.map (·.1)) := by
  have e : leftOf p T (k + 1) = T.take k := by rw [leftOf_no p T k hk hp, leftOf_all p T k ha]
  exact ⟨by simp, fun r hr => by obtain ⟨t, ht, rfl⟩ := List.mem_map.1 hr; exact hT t ht, by omega, by rw [e]; simp; omega, by rw [e, List.map_take], rfl⟩
theorem row (h : DelInv p n T i j rs) (hj : j < T.length) : rs[j]? = some T[j].1 := by
  have e : (rs.drop j)[0]? = ((T.map (·.1)).drop j)[0]? := by rw [h.high]
  rw [List.getElem?_drop, List.getElem?_drop] at e
  simpa [List.getElem?_eq_getElem hj] using e
theorem skip (h : DelInv p n T i j rs) (hj : j < T.length) (hp : p T[j].2.2 = true) : DelInv p n T i (j + 1) rs := by
  have e := leftOf_no p T j hj hp
  refine ⟨h.len, h.each, by have := h.lt; omega, by rw [e]; exact h.at_, by rw [e]; exact h.low, ?_⟩
  rw [← List.drop_drop, h.high, List.drop_drop]
theorem keep (h : DelInv p n T i j rs) (hT : ∀ t ∈ T, t.1.length = n) (hj : j < T.length) (hp : p T[j].2.2 = false) : DelInv p n T (i + 1) (j + 1) (rs.set i T[j].1) := by
  have e := leftOf_yes p T j hj hp
  have hl := h.lt
  have hlen := h.len
  refine ⟨by simpa using h.len, fun r hr => ?_, by omega, by rw [e]; simp [← h.at_], ?_, ?_⟩
  · rcases List.mem_or_eq_of_mem_set hr with hr | rfl
    · exact h.each r hr
    · exact hT _ (List.getElem_mem hj)
  · rw [e, List.map_append, ← h.low, List.take_succ_eq_append_getElem (by simp; omega)]
    have e2 : ((rs.set i T[j].1).take i) = rs.take i := by rw [List.take_set_of_le (Nat.le_refl _)]
    rw [e2]; simp
  · rw [List.drop_set_of_lt (by omega), ← List.drop_drop, h.high, List.drop_drop]
end DelInv

theorem set_flatten_sub {β : Type} : ∀ (L : List (List β)) (i : Nat) (h : i < L.length) (f : List β), f.Sublist L[i] → (L.set i f).flatten.Sublist L.flatten
  | [], i, h, _, _ => absurd h (by simp)
  | a :: L, 0, _, f, hf => by rw [List.set_cons_zero, List.flatten_cons, List.flatten_cons]; exact List.Sublist.append hf (List.Sublist.refl _)
  | a :: L, i + 1, h, f, hf => by
    rw [List.set_cons_succ, List.flatten_cons, List.flatten_cons]
    exact List.Sublist.append (List.Sublist.refl _) (set_flatten_sub L i (by simpa using h) f hf)

/-- One element of a slice that is owned is written, its cells alone, and holds less memory than before. -/
theorem slQ_less {α : Type} {n : Nat} {R : Rp α} (K : Kept R) {fp : List Nat} {w : World} {b off cap m : Nat} {xs : List α} (h : slQ n R fp w [.slice (some ⟨b, off, none⟩) m cap] xs) (hO : Own fp w) (i : Nat) (hi : i < xs.length) :
    ∃ u f, b ∈ fp ∧ u.length = n ∧ (∀ (j : Nat) c, u[j]? = some c → w.cell? ⟨b, off + i * n + j, none⟩ = some c) ∧ R f w u xs[i] ∧ b ∉ f ∧
      ∀ w' y u' f', Upd [b] w w' → (∀ o, (o < off + i * n ∨ off + i * n + n ≤ o) → w'.cell? ⟨b, o, none⟩ = w.cell? ⟨b, o, none⟩) → u'.length = n → (∀ (j : Nat) c, u'[j]? = some c → w'.cell? ⟨b, off + i * n + j, none⟩ = some c) → R f' w' u' y → f'.Sublist f → Own fp w' →
        ∃ fp', slQ n R fp' w' [.slice (some ⟨b, off, none⟩) m cap] (xs.set i y) ∧ Own fp' w' ∧ ∀ c ∈ fp', c ∈ fp := by
  obtain ⟨b', off', cap', T, hv, h1, h2, rfl, rfl, hr⟩ := slQ_raw h (by omega)
  simp only [Value.slice.injEq, Option.some.injEq, Addr.mk.injEq, and_true] at hv
  obtain ⟨⟨rfl, rfl⟩, rfl, rfl⟩ := hv
  have hiT : i < T.length := by simpa using hi
  have hti := hr.each _ (List.getElem_mem hiT)
  have hnd := List.nodup_cons.1 hO.1
  have hbn : ∀ t ∈ T, b ∉ t.2.1 := fun t ht hm => hnd.1 (List.mem_flatten.2 ⟨_, List.mem_map.2 ⟨t, ht, rfl⟩, hm⟩)
  refine ⟨T[i].1, T[i].2.1, by simp, hti.1, fun j c hj => hr.rows i _ (by simp [hiT]) j c hj, by simpa using hti.2, hbn _ (List.getElem_mem hiT), ?_⟩
  intro w' y u' f' hU hfar hul hput hR' hsub hO'
  have e1 : (T.set i (u', f', y)).map (·.1) = (T.map (·.1)).set i u' := by rw [List.map_set]
  have e2 : (T.set i (u', f', y)).map (·.2.1) = (T.map (·.2.1)).set i f' := by rw [List.map_set]
  have e3 : (T.set i (u', f', y)).map (·.2.2) = (T.map (·.2.2)).set i y := by rw [List.map_set]
  have hraw : RawQ n R w' b off (T.set i (u', f', y)) := by
    refine ⟨Nat.lt_of_lt_of_le hr.bl hU.size, ?_, ?_⟩
    · rw [e1]
      intro k u hk j c hj
      rw [List.getElem?_set] at hk
      by_cases e : i = k
      · subst e
        rw [if_pos rfl, if_pos (by simpa using hiT)] at hk
        cases hk
        exact hput j c hj
      · rw [if_neg e] at hk
        have hkl : u.length = n := by
          obtain ⟨t, ht, rfl⟩ := List.mem_map.1 (List.mem_of_getElem? hk)
          exact (hr.each t ht).1
        have hjl := (List.getElem?_eq_some_iff.1 hj).1
        rw [hfar _ (by
          rcases Nat.lt_or_gt_of_ne e with h | h
          · right
            have : (i + 1) * n ≤ k * n := Nat.mul_le_mul_right _ h
            rw [Nat.add_mul] at this; omega
          · left
            have : (k + 1) * n ≤ i * n := Nat.mul_le_mul_right _ h
            rw [Nat.add_mul] at this; omega)]
        exact hr.rows k u hk j c hj
    · intro t ht
      rcases List.mem_or_eq_of_mem_set ht with ht | rfl
      · exact ⟨(hr.each t ht).1, K.upd (hr.each t ht).2 hU (fun c hc hm => by simp at hm; subst hm; exact hbn t ht hc)⟩
      · exact ⟨hul, hR'⟩
  have hs : ((T.set i (u', f', y)).map (·.2.1)).flatten.Sublist (T.map (·.2.1)).flatten := by
    rw [e2]; exact set_flatten_sub _ i (by simpa using hiT) f' (by simpa using hsub)
  have hl : (b :: ((T.set i (u', f', y)).map (·.2.1)).flatten).Sublist (b :: (T.map (·.2.1)).flatten) := List.Sublist.cons_cons _ hs
  have hq := raw_slQ (cap := cap) hraw (by simpa using h1) h2
  rw [e3] at hq
  refine ⟨_, ?_, ⟨hO'.1.sublist hl, fun c hc => hO'.2 c (hl.subset hc)⟩, fun c hc => hl.subset hc⟩
  simpa using hq

theorem slP_nil' {α : Type} (R : Rp α) (w : World) (a : Option Addr) (c : Nat) (h : c ≤ maxLen) : slP R [] w [.slice a 0 c] [] :=
  ⟨_, [], [], [], rfl, ⟨a, c, rfl, Nat.zero_le _, h, by simp, Or.inl ⟨rfl, rfl⟩⟩, rfl, rfl, by simp⟩

end Go.Proofs.Ytnfghgaadnobbaa
