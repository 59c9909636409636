/-
  A row of cells known whole; elements of several cells collected by append.
-/
import Derived.Test.YtnfghgaadnobbaaLib4
import Derived.Deep.AppendLies
import Derived.Deep.RegionLaw
namespace Go.Proofs.Ytnfghgaadnobbaa
open Go.RowKit

/-- block T holds these cells, and none is frozen. -/
def RowAt (W : World) (T : Nat) (ty : TypeId) (cs : List Value) : Prop := W.heap[T]? = some (.cells cs.toArray ty (0, 0))
namespace RowAt
variable {W W' : World} {T : Nat} {ty : TypeId} {cs : List Value}
theorem new (W : World) (ty : TypeId) (cs : List Value) : RowAt (W.alloc (.cells cs.toArray ty)) W.heap.size ty cs := heap_alloc_new W _
theorem lt (h : RowAt W T ty cs) : T < W.heap.size := (Array.getElem?_eq_some_iff.1 h).1
theorem upd (h : RowAt W T ty cs) {f : List Nat} (hu : Upd f W W') (hT : T ∉ f) : RowAt W' T ty cs := by
  unfold RowAt; rw [hu.block T h.lt hT]; exact h
theorem cell (h : RowAt W T ty cs) (j : Nat) (c : Value) (hc : cs[j]? = some c) : W.cell? ⟨T, j, none⟩ = some c := by unfold RowAt at h; simp [World.cell?, h, hc]
theorem fz (h : RowAt W T ty cs) (j : Nat) : W.frozen? ⟨T, j, none⟩ = false := by unfold RowAt at h; simp [World.frozen?, h]
theorem store (h : RowAt W T ty cs) (j : Nat) (v : Value) : RowAt (W.setCell ⟨T, j, none⟩ v) T ty (cs.set j v) := by
  unfold RowAt at h ⊢; simp [World.setCell, Array.getElem?_modify, h]
theorem other (h : RowAt W T ty cs) (g j : Nat) (v : Value) (hg : g ≠ T) : RowAt (W.setCell ⟨g, j, none⟩ v) T ty cs := by
  unfold RowAt at h ⊢; rw [Below.heap_setCell _ _ _ _ (by simpa using fun e => hg e.symm)]; exact h
theorem row (h : RowAt W T ty cs) (ds : List Value) : RowAt (W.setRow T ds.toArray) T ty ds := setRow_heap W T _ _ _ _ h
theorem own (h : RowAt W T ty cs) : Own [T] W := ⟨by simp, by intro b hb; obtain rfl : b = T := (by simpa using hb); exact ⟨_, _, h⟩⟩
end RowAt

/-- A slice of elements of n cells each, with memory of their own, that a call collects by append: e is the element's type. -/
def AccQ {α : Type} (n : Nat) (R : Rp α) (w0 : World) (e : TypeId) (w : World) (v : Value) (xs : List α) : Prop :=
  ∃ us, w.ownsRow w0.heap.size e n v xs.length (List.flatten us) ∧ RowsQ n R w0.heap.size v.ownBlock.toList w us xs

namespace AccQ
variable {α : Type} {n : Nat} {R : Rp α} {w0 w w1 w2 : World} {e : TypeId} {v : Value} {xs : List α}

theorem nil (n : Nat) (R : Rp α) (w0 : World) (e : TypeId) (w : World) : AccQ n R w0 e w (.slice none 0 0) [] := ⟨[], World.ownsRow_nil _ _ _ _, RowsQ.nil _ _ _ _ _⟩
theorem lit0 (n : Nat) (R : Rp α) (w0 : World) (e : TypeId) (w : World) (h : w0.heap.size ≤ w.heap.size) : AccQ n R w0 e (w.alloc (.cells #[] e)) (.slice (some ⟨w.heap.size, 0, none⟩) 0 0) [] :=
  ⟨[], by simpa using World.ownsRow_lit (base := w0.heap.size) (e := e) (size := n) w #[] 0 h (by simp [maxLen]) (by simp), RowsQ.nil _ _ _ _ _⟩
theorem upd (K : Kept R) (h : AccQ n R w0 e w v xs) (hu : Upd [] w w1) : AccQ n R w0 e w1 v xs := by
  obtain ⟨us, h1, h2⟩ := h
  exact ⟨us, ownsRow_upd h1 hu, h2.upd K hu (by simp)⟩
theorem other (K : Kept R) (h : AccQ n R w0 e w v xs) {b : Nat} (hu : Upd [b] w w1) (hb : b < w0.heap.size) : AccQ n R w0 e w1 v xs := by
  obtain ⟨us, h1, h2⟩ := h
  refine ⟨us, h1.kept (row := some b) ⟨hu.os, hu.tape, hu.output, hu.size, fun k hk hne => hu.block k hk (by simpa using hne)⟩ ?_, h2.upd K hu (by simp; omega)⟩
  cases hv : v.ownBlock with
  | none => exact Or.inl rfl
  | some g =>
    right
    have := (h1.lt g hv).1
    intro e; cases e; omega
theorem new (h : AccQ n R w0 e w v xs) : New (slQ n R) w0 w v xs := by
  obtain ⟨us, h1, h2⟩ := h
  exact h2.new h1 (fun b hb => by simp [hb]) (Nat.le_refl _)
theorem own (h : AccQ n R w0 e w v xs) : ∃ us, w.ownsRow w0.heap.size e n v xs.length us := by obtain ⟨us, h1, -⟩ := h; exact ⟨_, h1⟩
theorem form (h : AccQ n R w0 e w v xs) : ∃ a c, v = .slice a xs.length c := by obtain ⟨us, h1, -⟩ := h; exact ownsRow_form h1
/-- Behind an append of one element, its cells made between w and w1 and laid into a new block: what the append's law leaves. -/
theorem push (K : Kept R) {us : List (List Value)} (hown : w.ownsRow w0.heap.size e n v xs.length us.flatten) (hrows : RowsQ n R w0.heap.size v.ownBlock.toList w us xs) (hs : w0.heap.size ≤ w.heap.size) {u : List Value} {x : α} (hu : Upd [] w w1) (hn : NewQ R w w1 u x) (hl : u.length = n) (o : Obj) {v2 : Value}
    (h2 : w2.ownsRow w0.heap.size e n v2 (xs.length + 1) (us.flatten ++ u)) (hg : (w1.alloc o).grownBy w2 v.ownBlock)
    (ht : ∀ b, v2.ownBlock = some b → v.ownBlock = some b ∨ (w1.alloc o).heap.size ≤ b) : AccQ n R w0 e w2 v2 (xs ++ [x]) := by
  refine ⟨us ++ [u], by simpa using h2, ?_⟩
  have hob : ∀ b ∈ v.ownBlock.toList, b < w.heap.size := fun b hb => (hown.lt b (by simpa using hb)).2
  have hr1 := hrows.push K hu hn hl hs hob
  have hu2 : Upd [] w1 (w1.alloc o) := (Upd.refl _ _).alloc o
  have hr2 := hr1.upd K hu2 (by simp)
  have hu3 : Upd v.ownBlock.toList (w1.alloc o) w2 := (Upd.refl _ _).grown hg (fun k hk => Or.inr (by simp [hk]))
  have hr3 := RowsQ.ob' hr2 (ob2 := v.ownBlock.toList ++ v2.ownBlock.toList) (by
    intro b hb
    rcases List.mem_append.1 hb with hb | hb
    · exact Or.inl hb
    · rcases ht b (by simpa using hb) with h | h
      · exact Or.inl (by simp [h])
      · exact Or.inr (Or.inr h))
  have hr4 := hr3.upd K hu3 (fun b hb => Or.inl (List.mem_append_left _ hb))
  exact hr4.ob' (fun b hb => Or.inl (List.mem_append_right _ hb))
end AccQ

set_option maxRecDepth 20000 in
set_option maxHeartbeats 1000000 in
/-- the reference's copy of a list of expressions. -/
theorem ownAllS (v : Value) (xs : List (List Tm)) (w : World) (fp : List Nat) (hl : xs.length ≤ 1000000) (hl2 : ∀ e ∈ xs, e.length ≤ 1000000) (hR : R_T2 fp w [v] xs) :
    Calls Try.prog 129 #[v] w fun r w' => (∃ v', r = .returned v' ∧ New R_T2 w w' v' xs) ∧ Upd [] w w' := by
  obtain ⟨i0, hi, hz0, hz1, hz2⟩ := info_parts Try.infoTS
  obtain ⟨a, cap, rfl, g1, g2, hc⟩ := slP_open hR
  unfold maxLen at g2
  have HC := Lib.hid hc
  have HL := Lib.hid hl2
  clear hR hc hl2
  go_enter Try.func129, Try.ntmps129
  go_wp2_with fail
  go_loopw [3, 4] (fun cv iv wr => ∃ k : Nat, k ≤ xs.length ∧ iv = .int .i64 k ∧ Hid (Upd [] w wr) ∧ w.heap.size ≤ wr.heap.size ∧ Hid (Acc R_T1 w 53 wr cv (xs.take k))) (fun _ iv _ => xs.length - (intOf iv).toNat)
  case atStart => exact ⟨0, Nat.zero_le _, rfl, Lib.hid ((Upd.refl _ _).alloc _), by simp, Lib.hid (by simpa using Acc.lit0 R_T1 w 53 w (Nat.le_refl _))⟩
  case round =>
    rename_i cv iv
    obtain ⟨wo, rfl⟩ : ∃ wo : World, wo = wr := ⟨_, rfl⟩
    obtain ⟨k, hk, rfl, HU, hsz, HA⟩ := hrel
    by_cases hlt : k < xs.length
    · obtain ⟨b, off, u, f, rfl, -, -, p0, -, hr⟩ := HC.out k hlt
      have p0 := HU.out.keep p0
      have hkl : (k : Int) < (xs.length : Int) := by omega
      have S1 := Lib.hid (ownTS u xs[k] wo f (HL.out _ (List.getElem_mem hlt)) (R_T1k.upd hr HU.out (by simp)))
      have HTK := Lib.hid (List.take_succ_eq_append_getElem hlt)
      have htl : (xs.take k).length = k := by rw [List.length_take]; omega
      have HTL := Lib.hid htl
      generalize hx : xs[k] = x at *
      clear hx hr
      obtain ⟨us, hown, hrows⟩ := HA.out
      have HOW := Lib.hid hown
      have HRW := Lib.hid hrows
      obtain ⟨ca, cc, rfl⟩ := ownsRow_form hown
      clear htl hown hrows
      go_wp2_with fail
      refine S1.out.mono ?_
      rintro e w1 ⟨⟨v', rfl, hnew⟩, hu1⟩
      obtain ⟨va, vc, rfl⟩ := hnew.form
      have hown1 := ownsRow_upd HOW.out hu1
      have hle1 := hu1.size
      have htl := HTL.out
      rw [htl] at hown1
      clear S1
      go_wp2_with (first
        | (at_builtin; refine wpList_append_tight _ rfl _ _ 54 rfl w.heap.size 53 i0 (.slice none 0 0) 1 24 Try.underlying54 hi hz0 hz1 hz2 rfl (by decide) _ _ _ rfl (hown1.alloc _) ⟨w1.heap.size, 0, none⟩ 1 1 [.slice va x.length vc] rfl rfl (fun j u hj => by rw [addr_add, Nat.zero_add]; exact cell_new w1 #[.slice va x.length vc] _ _ rfl j u (by simpa using hj)) (by simp [Value.oneCell']) (by unfold maxLen; omega) (by omega) (by simp; omega) ?_)
        | fail)
      intro v2 w2 hown2 hg2 ht2
      have hacc := Acc.push R_T1k HOW.out HRW.out hsz hu1 hnew (.cells #[.slice va x.length vc] 53) (by rw [htl]; exact hown2) (by rw [htl]; exact hg2) (fun b hb => by
        rcases ht2 b hb with h | h
        · exact Or.inl (by rw [htl]; exact h)
        · exact Or.inr (by simpa using h))
      rw [← HTK.out] at hacc
      have hU2 : Upd [] w w2 := ((HU.out.trans hu1).alloc _).grown hg2 (fun b hb => Or.inl (HOW.out.lt b (by rw [htl]; exact hb)).1)
      have HP := Lib.hid (And.intro hacc hU2)
      clear hacc hU2 hown2 hg2 ht2 hown1 hnew hu1
      go_wp2_with fail
      go_roundw
      case rel => exact ⟨k + 1, by omega, by go_num, Lib.hid HP.out.2, HP.out.2.size, Lib.hid HP.out.1⟩
      case measure => simp [intOf]; omega
    · obtain rfl : k = xs.length := by omega
      have ha := HA.out
      rw [List.take_length] at ha
      have HN := Lib.hid ha.new
      clear ha HA
      go_wp2_with fail
      go_ret
      exact ⟨⟨_, rfl, HN.out⟩, HU.out⟩

end Go.Proofs.Ytnfghgaadnobbaa
