/-
  Texts joined in one file: ModTr, DrP, NamI, DrL1, DrL2, LabC, EncV, DrL3, DrL4, DrL5, DrL6, LabR, DrF, DrG, ModR.
-/
import Derived.Test.YtdnjjanacbkijaaGreatDoorZM1
import Derived.Test.YtdnjjanacbkijaaGreatDoorZM2
import Derived.Deep.AppendLies
import Derived.Deep.MidRow
import Derived.Deep.RegionHeld3
import Derived.Deep.DeepCutAuto
/-
  Modal formulas, the program: the states where a row of truths is true.
-/
namespace Go.Proofs.YtdnjjanacbkijaaGreatDoor
open Go.RowKit

theorem Tryz.infoIt : (Tryz.prog.info? 2).map (fun i => (i.zero, i.size, i.bytes)) = some (some (.int .i64 0), 1, 8) := by kernel_rfl
theorem tAt_succ (f : Nat → Bool) (n : Nat) : tAt f (n + 1) = tAt f n ++ if f n then [(n : Int)] else [] := by
  unfold tAt
  rw [List.range_succ, List.filter_append, List.map_append]
  cases h : f n <;> simp [h]
theorem tAt_le (f : Nat → Bool) (n : Nat) : (tAt f n).length ≤ n := by
  have := tAt_len f n
  omega

set_option maxRecDepth 20000 in
set_option maxHeartbeats 4000000 in
theorem trueI (r m : Nat) (L : List Bool) (w : World) (hL : L.length = m) (hm : m ≤ 40) (hB : BlkB r w L) :
    Calls Tryz.prog 23 #[.slice (some ⟨r, 0, none⟩) m m] w fun e w' => (∃ v', e = .returned v' ∧ New R_I1 w w' v' (tAt (fun s => L.getD s false) m)) ∧ Upd [] w w' := by
  obtain ⟨i0, hi, hz0, hz1, hz2⟩ := info_parts Tryz.infoIt
  obtain ⟨f, hf⟩ : ∃ f, f = fun s : Nat => L.getD s false := ⟨_, rfl⟩
  have HG := Lib.hid (fun i (hi : i < m) => show w.cell? ⟨r, i, none⟩ = some (.bool (f i)) from by
    rw [hB.cell i (by omega), hf]
    simp only
    rw [List.getD_eq_getElem?_getD, List.getElem?_eq_getElem (by omega)]; rfl)
  have HS := Lib.hid (tAt_succ f)
  have HLE := Lib.hid (tAt_le f)
  rw [← hf]
  clear hf hB hL
  go_enter Tryz.func23, Tryz.ntmps23
  go_wp2_with fail
  go_loopw [3, 8] (fun vo iv wr => ∃ k : Nat, k ≤ m ∧ iv = .int .i64 k ∧ Hid (Upd [] w wr) ∧ Hid (wr.ownsRow w.heap.size 2 1 vo (tAt f k).length ((tAt f k).map ei))) (fun _ iv _ => m - (intOf iv).toNat)
  case atStart => exact ⟨0, Nat.zero_le _, rfl, Lib.hid (Upd.refl _ _), Lib.hid (World.ownsRow_nil _ _ _ _)⟩
  case round =>
    obtain ⟨wo, rfl⟩ : ∃ wo : World, wo = wr := ⟨_, rfl⟩
    obtain ⟨k, hk, rfl, HU, HO⟩ := hrel
    by_cases hlt : k < m
    · have hki : (k : Int) < (m : Int) := by omega
      have hcell := HU.out.keep (HG.out k hlt)
      have HT := Lib.hid (HS.out k)
      have hle := HLE.out k
      obtain ⟨q, hq⟩ : ∃ q, f k = q := ⟨_, rfl⟩
      rw [hq] at hcell HT
      clear hq
      cases q with
      | false =>
        have HO2 := Lib.hid (show wo.ownsRow w.heap.size 2 1 _ (tAt f (k + 1)).length ((tAt f (k + 1)).map ei) from by
          rw [HT.out]
          simpa using HO.out)
        clear HO HT hle
        go_wp2_with fail
        go_roundw
        case rel => exact ⟨k + 1, by omega, by go_num, HU, HO2⟩
        case measure => simp [intOf]; omega
      | true =>
        have hown := HO.out
        obtain ⟨oa, oc, hov⟩ := ownsRow_form hown
        subst hov
        have hsz := HU.out.size
        have HN := Lib.hid (show (tAt f (k + 1)).length = (tAt f k).length + 1 ∧ (tAt f (k + 1)).map ei = (tAt f k).map ei ++ [ei (k : Int)] from by
          rw [HT.out]; simp)
        have hm2 := HLE.out k
        clear HO HT hle
        generalize (tAt f k).map ei = us at *
        generalize (tAt f k).length = N9 at *
        go_wp2_with (first
          | (at_builtin; refine wpList_append_lies _ rfl _ _ 34 rfl w.heap.size 2 i0 (.int .i64 0) 1 8 Tryz.underlying34 hi hz0 hz1 hz2 rfl (by decide) (.slice oa N9 oc) N9 us rfl (ownsRow_upd hown ((Upd.refl [] wo).alloc (.cells #[ei (k : Int)] 2))) ⟨wo.heap.size, 0, none⟩ 1 1 [ei (k : Int)] rfl rfl (fun j u hj => by rw [addr_add]; exact cell_new wo #[ei (k : Int)] _ _ rfl _ _ (by simpa using hj)) (by simp [Value.oneCell']) (by decide) (by unfold maxLen; omega) (by omega) (by simp; omega) (wo.heap.size + 1) (by simp) ?_)
          | fail)
        intro g4 cap4 w4 hown4 hg4 hat4 hlt4
        have HU4 := Lib.hid ((HU.out.alloc (.cells #[ei (k : Int)] 2)).grown hg4 (fun b hb => Or.inl ((hown.lt b hb).1)))
        have HO4 := Lib.hid (show w4.ownsRow w.heap.size 2 1 (.slice (some ⟨g4, 0, none⟩) (N9 + 1) cap4) (tAt f (k + 1)).length ((tAt f (k + 1)).map ei) from by
          rw [HN.out.1, HN.out.2]; exact hown4)
        clear hown4 hg4 hat4 hlt4 hown HN HU
        go_wp2_with fail
        go_roundw
        case rel => exact ⟨k + 1, by omega, by go_num, HU4, HO4⟩
        case measure => simp [intOf]; omega
    · have hki : ¬ (k : Int) < (m : Int) := by omega
      have HF := Lib.hid (show New R_I1 w wo _ (tAt f m) from by
        have h := HO.out
        rw [show k = m by omega] at h
        exact New.ofOwns h)
      clear HO HG HS HLE
      go_wp2_with fail
      go_ret
      exact ⟨⟨_, rfl, HF.out⟩, HU.out⟩

end Go.Proofs.YtdnjjanacbkijaaGreatDoor

/-
  Systems drawn, plainly: the lists of labels; edges put to their places.
-/
namespace Go.Proofs.YtdnjjanacbkijaaGreatDoor
open Go.RowKit

/-- the labels that are drawn. -/
def lst5 : List (List UInt8) := [[97], [98], [99], [103, 101, 116, 40, 48, 41], [103, 101, 116, 40, 49, 41]]
/-- a list of labels as it is drawn: tau, and one to three more, rising. -/
def NamL (L : List (List UInt8)) : Prop := ∃ sub : List (List UInt8), sub.Sublist lst5 ∧ 1 ≤ sub.length ∧ sub.length ≤ 3 ∧ L = tauL :: sub
theorem NamL.len {L : List (List UInt8)} (h : NamL L) : 2 ≤ L.length ∧ L.length ≤ 4 := by
  obtain ⟨sub, -, h1, h2, rfl⟩ := h
  simp only [List.length_cons]; omega
theorem NamL.zero {L : List (List UInt8)} (h : NamL L) : ∃ hl : 0 < L.length, L[0] = tauL := by
  obtain ⟨sub, -, h1, h2, rfl⟩ := h
  exact ⟨by simp, rfl⟩
theorem NamL.mem {L : List (List UInt8)} (h : NamL L) : ∀ x ∈ L, x = tauL ∨ x ∈ lst5 := by
  obtain ⟨sub, h0, -, -, rfl⟩ := h
  intro x hx
  rcases List.mem_cons.1 hx with h | h
  · exact Or.inl h
  · exact Or.inr (h0.subset h)
theorem lst5_cases {x : List UInt8} (h : x ∈ lst5) : x = [97] ∨ x = [98] ∨ x = [99] ∨ x = [103, 101, 116, 40, 48, 41] ∨ x = [103, 101, 116, 40, 49, 41] := by
  simpa [lst5] using h
theorem NamL.size {L : List (List UInt8)} (h : NamL L) : ∀ x ∈ L, 1 ≤ x.length ∧ x.length ≤ 6 := fun x hx => by
  rcases h.mem x hx with rfl | h
  · decide
  · rcases lst5_cases h with rfl | rfl | rfl | rfl | rfl <;> decide
theorem NamL.pair {L : List (List UInt8)} (h : NamL L) : L.Pairwise (· ≠ ·) ∧ (L.drop 1).Pairwise (fun a b => bl a b = true) := by
  obtain ⟨sub, h0, -, -, rfl⟩ := h
  have h5 : lst5.Pairwise (fun a b => bl a b = true ∧ a ≠ b) := by decide
  have hs := h5.sublist h0
  refine ⟨List.pairwise_cons.2 ⟨fun x hx e => ?_, hs.imp fun h => h.2⟩, ?_⟩
  · have := h0.subset hx
    rw [← e] at this
    exact absurd this (by decide)
  · exact hs.imp fun h => h.1
theorem NamL.ne {L : List (List UInt8)} (h : NamL L) {i j : Nat} (hi : i < j) (hj : j < L.length) : L[i]'(by omega) ≠ L[j] := (List.pairwise_iff_getElem.1 h.pair.1) i j (by omega) hj hi
theorem NamL.lt {L : List (List UInt8)} (h : NamL L) {i j : Nat} (h0 : 1 ≤ i) (hi : i < j) (hj : j < L.length) : bl (L[i]'(by omega)) L[j] = true := by
  have := (List.pairwise_iff_getElem.1 h.pair.2) (i - 1) (j - 1) (by simp; omega) (by simp; omega) (by omega)
  simp only [List.getElem_drop] at this
  simpa [show 1 + (i - 1) = i by omega, show 1 + (j - 1) = j by omega] using this

/-- the place of an edge among rising ones: all from there on stand behind it. -/
def atE (l : List Ed) (e : Ed) : Nat → Nat
  | 0 => 0
  | k + 1 => if edLt e (l.getD k ⟨0, 0, 0⟩) then atE l e k else k + 1
theorem atE_le (l : List Ed) (e : Ed) : ∀ k, atE l e k ≤ k
  | 0 => Nat.le_refl _
  | k + 1 => by
    unfold atE
    split
    · have := atE_le l e k; omega
    · omega
/-- an edge put among rising ones, once. -/
def putE (l : List Ed) (e : Ed) : List Ed :=
  if 0 < atE l e l.length ∧ l.getD (atE l e l.length - 1) ⟨0, 0, 0⟩ = e then l else l.take (atE l e l.length) ++ e :: l.drop (atE l e l.length)
theorem edLtD_iff (a b : Ed) : edLt a b = true ↔ (a.fr < b.fr ∨ (a.fr = b.fr ∧ (a.lb < b.lb ∨ (a.lb = b.lb ∧ a.to < b.to)))) := by
  unfold edLt
  by_cases h1 : a.fr = b.fr
  · by_cases h2 : a.lb = b.lb
    · simp [h1, h2]
    · simp [h1, h2]
  · simp [h1]
theorem edLtD_trans {a b c : Ed} (h1 : edLt a b = true) (h2 : edLt b c = true) : edLt a c = true := by
  rw [edLtD_iff] at *
  omega
theorem edLt_tot (a b : Ed) : edLt a b = true ∨ a = b ∨ edLt b a = true := by
  rw [edLtD_iff, edLtD_iff]
  obtain ⟨a1, a2, a3⟩ := a
  obtain ⟨b1, b2, b3⟩ := b
  simp only [Ed.mk.injEq]
  omega
theorem atE_lt (l : List Ed) (e : Ed) : ∀ k j, atE l e k ≤ j → j < k → edLt e (l.getD j ⟨0, 0, 0⟩) = true
  | 0, j, _, h => by omega
  | k + 1, j, h1, h2 => by
    unfold atE at h1
    split at h1
    · rename_i hc
      by_cases hj : j = k
      · rw [hj]; exact hc
      · exact atE_lt l e k j h1 (by omega)
    · omega
theorem atE_ge (l : List Ed) (e : Ed) : ∀ k, 0 < atE l e k → edLt e (l.getD (atE l e k - 1) ⟨0, 0, 0⟩) = false
  | 0, h => by simp [atE] at h
  | k + 1, h => by
    unfold atE at h ⊢
    split
    · rename_i hc
      rw [if_pos hc] at h
      exact atE_ge l e k h
    · rename_i hc
      simpa using hc
theorem getD_at {l : List Ed} {j : Nat} (h : j < l.length) : l.getD j ⟨0, 0, 0⟩ = l[j] := by rw [List.getD_eq_getElem?_getD, List.getElem?_eq_getElem h]; rfl
theorem putE_sorted {l : List Ed} {e : Ed} (h : l.Pairwise fun a b => edLt a b = true) : (putE l e).Pairwise fun a b => edLt a b = true := by
  have ha := atE_le l e l.length
  have hlt := atE_lt l e l.length
  have hge := atE_ge l e l.length
  unfold putE
  generalize atE l e l.length = a at *
  split
  · exact h
  · rename_i hc
    have hp := List.pairwise_iff_getElem.1 h
    rw [List.pairwise_append]
    refine ⟨h.sublist (List.take_sublist _ _), List.pairwise_cons.2 ⟨fun x hx => ?_, h.sublist (List.drop_sublist _ _)⟩, fun x hx y hy => ?_⟩
    · obtain ⟨i, hi, rfl⟩ := List.mem_iff_getElem.1 hx
      rw [List.length_drop] at hi
      have := hlt (a + i) (by omega) (by omega)
      rw [getD_at (by omega)] at this
      rw [List.getElem_drop]
      exact this
    · obtain ⟨i, hi, rfl⟩ := List.mem_iff_getElem.1 hx
      rw [List.length_take] at hi
      rw [List.getElem_take]
      have hxe : edLt l[i] e = true := by
        have h0 : 0 < a := by omega
        have h1 := hge h0
        have hne : l.getD (a - 1) ⟨0, 0, 0⟩ ≠ e := fun hh => hc ⟨h0, hh⟩
        rw [getD_at (by omega)] at h1 hne
        have h2 : edLt (l[a - 1]'(by omega)) e = true := by
          rcases edLt_tot (l[a - 1]'(by omega)) e with h | h | h
          · exact h
          · exact absurd h hne
          · rw [h1] at h; cases h
        by_cases hia : i = a - 1
        · subst hia; exact h2
        · exact edLtD_trans (hp i (a - 1) (by omega) (by omega) (by omega)) h2
      rcases List.mem_cons.1 hy with rfl | hy
      · exact hxe
      · obtain ⟨j, hj, rfl⟩ := List.mem_iff_getElem.1 hy
        rw [List.length_drop] at hj
        rw [List.getElem_drop]
        exact hp i (a + j) (by omega) (by omega) (by omega)
theorem putE_mem {l : List Ed} {e x : Ed} (h : x ∈ putE l e) : x = e ∨ x ∈ l := by
  unfold putE at h
  split at h
  · exact Or.inr h
  · rcases List.mem_append.1 h with h | h
    · exact Or.inr (List.mem_of_mem_take h)
    · rcases List.mem_cons.1 h with h | h
      · exact Or.inl h
      · exact Or.inr (List.mem_of_mem_drop h)
theorem putE_len (l : List Ed) (e : Ed) : (putE l e).length ≤ l.length + 1 := by
  have ha := atE_le l e l.length
  unfold putE
  split
  · omega
  · rw [List.length_append, List.length_cons, List.length_take, List.length_drop]; omega
/-- edges put one after the other. -/
theorem puts_facts : ∀ (es l : List Ed) (P : Ed → Prop), (l.Pairwise fun a b => edLt a b = true) → (∀ x ∈ l, P x) → (∀ x ∈ es, P x) →
    ((es.foldl putE l).Pairwise fun a b => edLt a b = true) ∧ (∀ x ∈ es.foldl putE l, P x) ∧ (es.foldl putE l).length ≤ l.length + es.length
  | [], l, P, h1, h2, _ => ⟨h1, h2, by simp⟩
  | e :: es, l, P, h1, h2, h3 => by
    obtain ⟨a1, a2, a3⟩ := puts_facts es (putE l e) P (putE_sorted h1) (fun x hx => by
      rcases putE_mem hx with rfl | hx
      · exact h3 _ (by simp)
      · exact h2 x hx) (fun x hx => h3 x (by simp [hx]))
    exact ⟨a1, a2, by have := putE_len l e; simp only [List.foldl_cons, List.length_cons]; omega⟩

end Go.Proofs.YtdnjjanacbkijaaGreatDoor

/-
  Lists of names: whether one is valid, and whether a name is in it; both sides.
-/
namespace Go.Proofs.YtdnjjanacbkijaaGreatDoor
open Go.RowKit

/-- where a name first stands in a list, or -1. -/
def placeS (x : List UInt8) : List (List UInt8) → Int
  | [] => -1
  | s :: r => if s = x then 0 else if placeS x r < 0 then -1 else placeS x r + 1
theorem placeS_at {x : List UInt8} : ∀ {l : List (List UInt8)} (k : Nat) (hk : k < l.length), (∀ j (_ : j < k) (hj : j < l.length), l[j] ≠ x) → l[k] = x → placeS x l = k
  | [], k, hk, _, _ => by simp at hk
  | s :: r, 0, _, _, h => by simp at h; simp [placeS, h]
  | s :: r, k + 1, hk, hn, h => by
    have h0 : s ≠ x := hn 0 (by omega) (by simp)
    have ih := placeS_at (x := x) (l := r) k (by simpa using hk) (fun j hj hj2 => by have := hn (j + 1) (by omega) (by simpa using hj2); rwa [List.getElem_cons_succ] at this) (by rwa [List.getElem_cons_succ] at h)
    rw [placeS, if_neg h0, ih, if_neg (by omega)]; omega
theorem placeS_none {x : List UInt8} : ∀ {l : List (List UInt8)}, (∀ j (hj : j < l.length), l[j] ≠ x) → placeS x l = -1
  | [], _ => rfl
  | s :: r, hn => by
    have h0 : s ≠ x := hn 0 (by simp)
    have ih := placeS_none (x := x) (l := r) (fun j hj => by have := hn (j + 1) (by simpa using hj); rwa [List.getElem_cons_succ] at this)
    rw [placeS, if_neg h0, ih, if_pos (by omega)]
set_option maxRecDepth 20000 in
set_option maxHeartbeats 2000000 in
theorem findS (v : Value) (xs : List (List UInt8)) (x : List UInt8) (w : World) (fp : List Nat) (hR : R_S1 fp w [v] xs) :
    Calls Tryz.prog 52 #[v, es x] w fun e w' => e = .returned (.int .i64 (placeS x xs)) ∧ w = w' := by
  obtain ⟨a, c, rfl, hl1, hm1, hc⟩ := slF1_open hR
  unfold maxLen at hm1
  have HC := Lib.hid hc
  have HF := Lib.hid (fun k (hk : k < xs.length) (h1 : ∀ j (_ : j < k) (hj : j < xs.length), xs[j] ≠ x) (h2 : xs[k] = x) => placeS_at k hk h1 h2)
  have HN := Lib.hid (fun (h : ∀ j (hj : j < xs.length), xs[j] ≠ x) => placeS_none h)
  clear hR hc
  generalize placeS x xs = Z at *
  go_enter Tryz.func52, Tryz.ntmps52
  go_wp2_with fail
  go_loopw [5] (fun iv wr => ∃ k : Nat, k ≤ xs.length ∧ iv = .int .i64 k ∧ wr = w ∧ Hid (∀ j (_ : j < k) (hj : j < xs.length), xs[j] ≠ x)) (fun iv _ => xs.length - (intOf iv).toNat)
  case atStart => exact ⟨0, Nat.zero_le _, rfl, rfl, Lib.hid (fun j hj => absurd hj (Nat.not_lt_zero _))⟩
  case round =>
    obtain ⟨k, hk, rfl, rfl, HI⟩ := hrel
    by_cases hlt : k < xs.length
    · obtain ⟨b, off, rfl, -, -, hcell⟩ := HC.out k hlt
      have HFK := Lib.hid (HF.out k hlt HI.out)
      have HIK := Lib.hid (fun (h : xs[k] ≠ x) j (hjk : j < k + 1) (hj : j < xs.length) => (show xs[j] ≠ x by
        by_cases e : j = k
        · subst e; exact h
        · exact HI.out j (by omega) hj))
      clear HF HC
      generalize xs[k] = y at *
      by_cases hy : y = x
      · have hy1 : (y == x) = true := by simp [hy]
        have HZ := Lib.hid (HFK.out hy)
        clear HFK HIK hy
        go_wp2_with fail
        go_ret
        exact ⟨by rw [HZ.out]; rfl, by first | rfl | trivial⟩
      · have hy1 : (y == x) = false := by simp [hy]
        replace HIK := Lib.hid (HIK.out hy)
        clear HFK hy
        go_wp2_with fail
        go_roundw
        case rel => exact ⟨k + 1, by omega, by go_num, by first | rfl | trivial, HIK⟩
        case measure => simp [intOf]; omega
    · have HZ := Lib.hid (HN.out (fun j hj => HI.out j (by omega) hj))
      go_wp2_with fail
      go_ret
      exact ⟨by rw [HZ.out]; rfl, by first | rfl | trivial⟩

end Go.Proofs.YtdnjjanacbkijaaGreatDoor

/-
  Systems drawn: the lists of labels.
-/
namespace Go.Proofs.YtdnjjanacbkijaaGreatDoor
open Go.RowKit

/-- a row under way is kept where the source is written. -/
theorem col_far {w w1 : World} {B : Nat} {e : TypeId} {m n p : Nat} {v : Value} {cs : List Value} (h : w.ownsRow B e m v n cs) (hu : Upd [p] w w1) (hp : p < B) : w1.ownsRow B e m v n cs :=
  ownsRow_keep h (fun g hg => hu.block g (h.lt g hg).2 (fun hm => by have := (h.lt g hg).1; simp at hm; omega))
theorem lst5_take {k : Nat} (h : k < 5) : lst5.take (k + 1) = lst5.take k ++ [lst5.getD k []] := by
  rcases (by omega : k = 0 ∨ k = 1 ∨ k = 2 ∨ k = 3 ∨ k = 4) with h | h | h | h | h <;> subst h <;> rfl

/-- what is drawn: a list of labels in new memory. -/
def NamD (N p : Nat) (w : World) (e : Ending) (w' : World) : Prop :=
  (∃ (g cap : Nat) (L : List (List UInt8)), e = .returned (.slice (some ⟨g, 0, none⟩) L.length cap) ∧ NamL L ∧ w'.ownsRow w.heap.size 9 1 (.slice (some ⟨g, 0, none⟩) L.length cap) L.length (L.map es)) ∧ IsSrc N p w' ∧ Upd [p] w w'

/-- the state of the loop that draws labels. -/
structure NamSt (N p B : Nat) (w : World) (sub : List (List UInt8)) (k g cap : Nat) (wr : World) : Prop where
  sb : sub.Sublist (lst5.take k)
  le : sub.length ≤ 3
  row : wr.ownsRow B 9 1 (.slice (some ⟨g, 0, none⟩) (sub.length + 1) cap) (sub.length + 1) ((tauL :: sub).map es)
  src : IsSrc N p wr
  upd : Upd [p] w wr
  cell : ∀ i, i < 5 → wr.cell? ⟨B + 1, i, none⟩ = some (es (lst5.getD i []))
  ne : B + 1 ≠ g
  big : B + 1 < wr.heap.size

theorem NamSt.call {N p B : Nat} {w wr w1 : World} {sub : List (List UInt8)} {k g cap : Nat} (h : NamSt N p B w sub k g cap wr) {N' : Nat} (hs : IsSrc N' p w1) (hu : Upd [p] wr w1) (hp : p < B) : NamSt N' p B w sub k g cap w1 :=
  ⟨h.sb, h.le, col_far h.row hu hp, hs, h.upd.trans hu, fun i hi => hu.keepF (by simp; omega) (h.cell i hi), h.ne, Nat.lt_of_lt_of_le h.big hu.size⟩
theorem NamSt.grow {N p B : Nat} {w w1 w4 : World} {sub : List (List UInt8)} {k g cap : Nat} (h : NamSt N p B w sub k g cap w1) (hp : p < B) (hB : B = w.heap.size) (hk : k < 5) (h3 : sub.length < 3) {g4 c4 : Nat} {cs : Array Value} {T : TypeId}
    (hown : w4.ownsRow B 9 1 (.slice (some ⟨g4, 0, none⟩) (sub.length + 1 + 1) c4) (sub.length + 1 + 1) ((tauL :: sub).map es ++ [es (lst5.getD k [])])) (hg : (w1.alloc (.cells cs T)).grownBy w4 (some g)) (hat : g4 = g ∨ g4 = w1.heap.size + 1) : NamSt N p B w (sub ++ [lst5.getD k []]) (k + 1) g4 c4 w4 := by
  have hgB : B ≤ g := (h.row.lt g rfl).1
  have hu : Upd [g] w1 w4 := ((Upd.refl [g] w1).alloc _).grown hg (fun b hb => Or.inr (by simpa using hb.symm))
  have hbig := h.big
  refine ⟨?_, by simp; omega, by simpa using hown, h.src.other hu (fun b hb => by simp at hb; omega), h.upd.fresh hu (fun b hb => Or.inl (by simp at hb; omega)), fun i hi => hu.keepF (by simpa using h.ne) (h.cell i hi), ?_, Nat.lt_of_lt_of_le hbig hu.size⟩
  · rw [lst5_take hk]
    exact h.sb.append (List.Sublist.refl _)
  · rcases hat with rfl | rfl
    · exact h.ne
    · omega
theorem NamSt.skip {N p B : Nat} {w wr : World} {sub : List (List UInt8)} {k g cap : Nat} (h : NamSt N p B w sub k g cap wr) : NamSt N p B w sub (k + 1) g cap wr :=
  ⟨h.sb.trans (List.take_sublist_take_left (Nat.le_succ k)), h.le, h.row, h.src, h.upd, h.cell, h.ne, h.big⟩

set_option maxRecDepth 20000 in
set_option maxHeartbeats 4000000 in
theorem namesD (N p : Nat) (w : World) (hN : N ≤ 900000) (h : IsSrc N p w) : Calls Tryz.prog 48 #[.pointer (some ⟨p, 0, none⟩)] w (NamD (N + 20) p w) := by
  obtain ⟨i0, hi, hz0, hz1, hz2⟩ := info_parts Tryz.info9
  have hpl := h.lt
  have HSRC := Lib.hid h
  clear h
  go_enter Tryz.func48, Tryz.ntmps48
  go_wp2_with fail
  have H0 := Lib.hid (show ∀ l0 l1 : TypeId, l0 = 9 → NamSt N p w.heap.size w [] 0 w.heap.size 1 ((w.alloc (.cells #[es tauL] l0)).alloc (.cells #[es [97], es [98], es [99], es [103, 101, 116, 40, 48, 41], es [103, 101, 116, 40, 49, 41]] l1)) from fun l0 l1 hl => by
    subst hl
    have hu := ((Upd.refl [] w).alloc (.cells #[es tauL] 9)).alloc (.cells #[es [97], es [98], es [99], es [103, 101, 116, 40, 48, 41], es [103, 101, 116, 40, 49, 41]] l1)
    refine ⟨by simp, by simp, ?_, HSRC.out.upd hu, hu.mono (by simp), fun i hi => ?_, by omega, by simp⟩
    · have := World.ownsRow_lit (base := w.heap.size) (e := 9) (size := 1) w #[es tauL] 1 (Nat.le_refl _) (by simp [maxLen]) (by simp)
      exact ownsRow_upd (by simpa using this) ((Upd.refl _ _).alloc _)
    · refine cell_new (w.alloc (.cells #[es tauL] 9)) _ _ _ (by simp) i _ ?_
      rcases (by omega : i = 0 ∨ i = 1 ∨ i = 2 ∨ i = 3 ∨ i = 4) with h | h | h | h | h <;> subst h <;> rfl)
  have hpB : p < w.heap.size := hpl
  clear hpl HSRC
  go_loopw [3, 5] (fun ov iv wr => ∃ (k : Nat) (sub : List (List UInt8)) (g cap : Nat), k ≤ 5 ∧ iv = .int .i64 k ∧ ov = .slice (some ⟨g, 0, none⟩) (sub.length + 1) cap ∧ Hid (NamSt (N + 2 * k) p w.heap.size w sub k g cap wr)) (fun _ iv _ => 5 - (intOf iv).toNat)
  case atStart => exact ⟨0, [], _, _, by omega, rfl, rfl, Lib.hid (H0.out _ _ rfl)⟩
  case round =>
    clear H0
    obtain ⟨wp, rfl⟩ : ∃ wp : World, wp = wr := ⟨_, rfl⟩
    obtain ⟨k, sub, g, cap, hk, rfl, rfl, HS⟩ := hrel
    have hle := HS.out.le
    have hcap : sub.length + 1 ≤ cap ∧ cap ≤ maxLen := by
      rcases HS.out.row.2 with ⟨h0, -⟩ | ⟨g', cap', cur, hv, -, -, h3, h4, -⟩
      · cases h0
      · cases hv; exact ⟨h3, by omega⟩
    unfold maxLen at hcap
    by_cases hlt : k < 5
    · have hki : (k : Int) < 5 := by omega
      have S1 := Lib.hid (srcOne (N + 2 * k) p 2 wp (by omega) HS.out.src (by omega) (by omega))
      by_cases h3 : sub.length < 3
      · have h3i : (sub.length : Int) + 1 < 4 := by omega
        go_wp2_with fail
        refine S1.out.mono ?_
        rintro _ w1 ⟨⟨q, rfl⟩, hs1, hu1⟩
        have H1 := Lib.hid (HS.out.call hs1 hu1 hpB)
        clear S1 HS hs1 hu1
        cases q with
        | false =>
          go_wp2_with fail
          go_roundw
          case rel => exact ⟨k + 1, sub, g, cap, by omega, by go_num, rfl, Lib.hid (by have := H1.out.skip; rwa [show N + 2 * k + 2 = N + 2 * (k + 1) by omega] at this)⟩
          case measure => simp [intOf]; omega
        | true =>
          have hcell := H1.out.cell k hlt
          obtain ⟨X, hX⟩ : ∃ X, lst5.getD k [] = X := ⟨_, rfl⟩
          rw [hX] at hcell
          have hrow := H1.out.row
          have hb1 : w.heap.size ≤ w1.heap.size := by have := H1.out.big; omega
          obtain ⟨us, hus⟩ : ∃ us, (tauL :: sub).map es = us := ⟨_, rfl⟩
          rw [hus] at hrow
          have HG := Lib.hid (fun g4 c4 w4 cs T (h1 : w4.ownsRow w.heap.size 9 1 (.slice (some ⟨g4, 0, none⟩) (sub.length + 1 + 1) c4) (sub.length + 1 + 1) (us ++ [es X])) h2 h3' => H1.out.grow (w4 := w4) (cs := cs) (T := T) (g4 := g4) (c4 := c4) hpB rfl hlt h3 (by rw [hus, hX]; exact h1) h2 h3')
          clear hus hX
          go_wp2_with (first
            | (at_builtin; refine wpList_append_lies _ rfl _ _ 24 rfl w.heap.size 9 i0 (.string ⟨#[]⟩) 1 16 Tryz.underlying24 hi hz0 hz1 hz2 rfl (by decide) (.slice (some ⟨g, 0, none⟩) (sub.length + 1) cap) (sub.length + 1) us rfl (ownsRow_upd hrow ((Upd.refl _ _).alloc _)) ⟨w1.heap.size, 0, none⟩ 1 1 [es X] rfl rfl (fun j u hj => by rw [addr_add]; exact cell_new w1 #[es X] _ _ rfl _ _ (by simpa using hj)) (by simp [Value.oneCell']) (by decide) (by unfold maxLen; omega) (by omega) (by simp; omega) (w1.heap.size + 1) (by simp) ?_)
            | fail)
          intro g4 c4 w4 hown4 hg4 hat4 hlt4
          have HS4 := Lib.hid (HG.out g4 c4 w4 _ _ hown4 hg4 (by
            rcases hat4 with h | h
            · left; simpa [Value.ownBlock, eq_comm] using h
            · right; exact h))
          clear hown4 hg4 hat4 hlt4 HG hrow H1
          go_wp2_with fail
          go_roundw
          case rel => exact ⟨k + 1, sub ++ [lst5.getD k []], g4, c4, by omega, by go_num, by simp, Lib.hid (by have := HS4.out; rwa [show N + 2 * k + 2 = N + 2 * (k + 1) by omega] at this)⟩
          case measure => simp [intOf]; omega
      · have h3i : ¬ (sub.length : Int) + 1 < 4 := by omega
        go_wp2_with fail
        refine S1.out.mono ?_
        rintro _ w1 ⟨⟨q, rfl⟩, hs1, hu1⟩
        have H1 := Lib.hid (HS.out.call hs1 hu1 hpB)
        clear S1 HS hs1 hu1
        cases q with
        | false =>
          go_wp2_with fail
          go_roundw
          case rel => exact ⟨k + 1, sub, g, cap, by omega, by go_num, rfl, Lib.hid (by have := H1.out.skip; rwa [show N + 2 * k + 2 = N + 2 * (k + 1) by omega] at this)⟩
          case measure => simp [intOf]; omega
        | true =>
          go_wp2_with fail
          go_roundw
          case rel => exact ⟨k + 1, sub, g, cap, by omega, by go_num, rfl, Lib.hid (by have := H1.out.skip; rwa [show N + 2 * k + 2 = N + 2 * (k + 1) by omega] at this)⟩
          case measure => simp [intOf]; omega
    · obtain rfl : k = 5 := by omega
      have hki : ¬ ((5 : Nat) : Int) < 5 := by omega
      by_cases h0 : sub.length = 0
      · have hsub : sub = [] := List.eq_nil_of_length_eq_zero h0
        subst hsub
        have hrow := HS.out.row
        have HR := Lib.hid (fun w4 g4 c4 cs T (h1 : w4.ownsRow w.heap.size 9 1 (.slice (some ⟨g4, 0, none⟩) (0 + 1 + 1) c4) (0 + 1 + 1) ([es tauL] ++ [es [97]])) (hg : (wp.alloc (.cells cs T)).grownBy w4 (some g)) => show NamD (N + 20) p w (.returned (.slice (some ⟨g4, 0, none⟩) 2 c4)) w4 from by
          have hgB : w.heap.size ≤ g := (hrow.lt g rfl).1
          have hu : Upd [g] wp w4 := ((Upd.refl [g] wp).alloc _).grown hg (fun b hb => Or.inr (by simpa using hb.symm))
          exact ⟨⟨g4, c4, [tauL, [97]], rfl, ⟨[[97]], by decide, by decide, by decide, rfl⟩, by simpa using h1⟩, (HS.out.src.other hu (fun b hb => by simp at hb; omega)).mono (by omega), HS.out.upd.fresh hu (fun b hb => Or.inl (by simp at hb; omega))⟩)
        have hb1 : w.heap.size ≤ wp.heap.size := by have := HS.out.big; omega
        simp only [List.length_nil, List.map_cons, List.map_nil] at hrow
        clear HS
        go_wp2_with (first
          | (at_builtin; refine wpList_append_lies _ rfl _ _ 24 rfl w.heap.size 9 i0 (.string ⟨#[]⟩) 1 16 Tryz.underlying24 hi hz0 hz1 hz2 rfl (by decide) (.slice (some ⟨g, 0, none⟩) (0 + 1) cap) (0 + 1) [es tauL] rfl (ownsRow_upd hrow ((Upd.refl _ _).alloc _)) ⟨wp.heap.size, 0, none⟩ 1 1 [es [97]] rfl rfl (fun j u hj => by rw [addr_add]; exact cell_new wp #[es [97]] _ _ rfl _ _ (by simpa using hj)) (by simp [Value.oneCell']) (by decide) (by unfold maxLen; omega) (by omega) (by simp; omega) (wp.heap.size + 1) (by simp) ?_)
          | fail)
        intro g4 c4 w4 hown4 hg4 hat4 hlt4
        have HR4 := Lib.hid (HR.out w4 g4 c4 _ _ hown4 hg4)
        clear hown4 hg4 hat4 hlt4 HR hrow
        go_wp2_with fail
        go_ret
        exact HR4.out
      · have hne : ((sub.length : Int) + 1 == 1) = false := beq_eq_false_iff_ne.2 (by omega)
        have HR := Lib.hid (show NamD (N + 20) p w (.returned (.slice (some ⟨g, 0, none⟩) (sub.length + 1) cap)) wp from
          ⟨⟨g, cap, tauL :: sub, by simp, ⟨sub, by have := HS.out.sb; simpa [lst5] using this, by omega, HS.out.le, rfl⟩, by simpa using HS.out.row⟩, HS.out.src.mono (by omega), HS.out.upd⟩)
        clear HS
        go_wp2_with fail
        go_ret
        simpa using HR.out

end Go.Proofs.YtdnjjanacbkijaaGreatDoor

/-
  Systems drawn: labels joined.
-/
namespace Go.Proofs.YtdnjjanacbkijaaGreatDoor
open Go.RowKit

theorem row_S1 {w : World} {B : Nat} {v : Value} {xs : List (List UInt8)} (h : w.ownsRow B 9 1 v xs.length (xs.map es)) : ∃ fp, R_S1 fp w [v] xs := by
  obtain ⟨fp, h1, -, -, -⟩ := Flat.ofOwns h
  exact ⟨fp, v, rfl, by rw [flatMap_single]; exact h1⟩

/-- a row of labels in new memory. -/
def LabD (L : List (List UInt8)) (w : World) (e : Ending) (w' : World) : Prop :=
  (∃ (g cap : Nat), e = .returned (.slice (some ⟨g, 0, none⟩) L.length cap) ∧ w'.ownsRow w.heap.size 9 1 (.slice (some ⟨g, 0, none⟩) L.length cap) L.length (L.map es)) ∧ Upd [] w w'

theorem join_end {w : World} {B g c : Nat} {L : List (List UInt8)} {i : Nat} (hi : i < L.length) (h : w.ownsRow B 9 1 (.slice (some ⟨g, 0, none⟩) (i + 1) c) (i + 1) ((L.take i).map es ++ [es []])) :
    w.cell? ⟨g, i, none⟩ = some (es []) ∧ w.frozen? ⟨g, i, none⟩ = false ∧ (w.setCell ⟨g, i, none⟩ (es L[i])).ownsRow B 9 1 (.slice (some ⟨g, 0, none⟩) (i + 1) c) (i + 1) ((L.take (i + 1)).map es) := by
  have hl : ((L.take i).map es).length = i := by rw [List.length_map, List.length_take]; omega
  refine ⟨?_, h.frozenAt i, ?_⟩
  · rw [h.cellAt i (by omega), List.getElem?_append_right (by omega), hl, Nat.sub_self]; rfl
  · have := (h.stored i (es L[i])).1
    rw [List.set_append_right _ _ (by omega), hl, Nat.sub_self, List.set_cons_zero] at this
    rw [List.take_succ_eq_append_getElem hi, List.map_append]
    exact this

set_option maxRecDepth 20000 in
set_option maxHeartbeats 4000000 in
theorem joinD (L : List (List UInt8)) (hN : NamL L) (v : Value) (f : List Nat) (w : World) (hR : R_S1 f w [v] L) : Calls Tryz.prog 51 #[v] w (LabD L w) := by
  obtain ⟨i0, hi, hz0, hz1, hz2⟩ := info_parts Tryz.info9
  obtain ⟨a, c, rfl, hl1, hm1, hc⟩ := slF1_open hR
  unfold maxLen at hm1
  have hlen := hN.len
  have HC := Lib.hid (fun W (hu : Upd [] w W) k (hk : k < L.length) => show ∃ b o, a = some ⟨b, o, none⟩ ∧ W.cell? ⟨b, o + k, none⟩ = some (es L[k]) from by
    obtain ⟨b, o, e, -, -, h⟩ := hc k hk
    exact ⟨b, o, e, hu.keep h⟩)
  have HZ := Lib.hid (show ∃ hl : 0 < L.length, placeS L[0] (L.take 1) = 0 from by
    obtain ⟨hl, h0⟩ := hN.zero
    refine ⟨hl, placeS_at 0 (by rw [List.length_take]; omega) (fun j hj => by omega) (by simp)⟩)
  have HN1 := Lib.hid (fun i (h1 : 1 ≤ i) (hi : i < L.length) => show placeS L[i] (L.take i) = -1 from placeS_none (fun j hj => by
    rw [List.length_take] at hj
    rw [List.getElem_take]
    exact hN.ne (by omega) hi))
  have HLT := Lib.hid (fun i j (h1 : 1 ≤ i) (hij : i < j) (hj : j < L.length) => show (Op.bytesLess (L[i]'(by omega)) L[j]) = true from hN.lt h1 hij hj)
  have HT0 := Lib.hid (show (L.take 1).map es = [es tauL] from by
    obtain ⟨sub, -, -, -, rfl⟩ := hN
    rfl)
  clear hN hR hc
  go_enter Tryz.func51, Tryz.ntmps51
  go_wp2_with fail
  have H0 := Lib.hid (show ∀ T : TypeId, T = 9 → ((w.alloc (.cells #[es tauL] T)).ownsRow w.heap.size 9 1 (.slice (some ⟨w.heap.size, 0, none⟩) 1 1) 1 ((L.take 1).map es) ∧ Upd [] w (w.alloc (.cells #[es tauL] T))) from fun T hT => by
    subst hT
    rw [HT0.out]
    exact ⟨by simpa using World.ownsRow_lit (base := w.heap.size) (e := 9) (size := 1) w #[es tauL] 1 (Nat.le_refl _) (by simp [maxLen]) (by simp), (Upd.refl _ _).alloc _⟩)
  clear HT0
  go_loopw [3, 4] (fun ov iv wr => ∃ i m g cap : Nat, m = max i 1 ∧ i ≤ L.length ∧ iv = .int .i64 i ∧ ov = .slice (some ⟨g, 0, none⟩) m cap ∧ Hid (wr.ownsRow w.heap.size 9 1 (.slice (some ⟨g, 0, none⟩) m cap) m ((L.take m).map es)) ∧ Hid (Upd [] w wr)) (fun _ iv _ => L.length - (intOf iv).toNat)
  case atStart => exact ⟨0, 1, _, _, rfl, by omega, rfl, rfl, Lib.hid (H0.out _ rfl).1, Lib.hid (H0.out _ rfl).2⟩
  case round =>
    clear H0
    obtain ⟨wp, rfl⟩ : ∃ wp : World, wp = wr := ⟨_, rfl⟩
    obtain ⟨i, m, g, cap, hm, hi9, rfl, rfl, HR, HU⟩ := hrel
    have hcap : m ≤ cap ∧ cap ≤ 9223372036854775807 := by
      rcases HR.out.2 with ⟨h0, -⟩ | ⟨g', cap', cur, hv, -, -, h3, h4, -⟩
      · cases h0
      · cases hv; unfold maxLen at h4; exact ⟨h3, by omega⟩
    by_cases hlt : i < L.length
    · obtain ⟨b, o, hab, hcell⟩ := HC.out wp HU.out i hlt
      have HU0 := Lib.hid (fun (W : World) (hu : Upd [] w W) => show W.cell? ⟨b, o + i, none⟩ = some (es L[i]) from by
        obtain ⟨b', o', e, h⟩ := HC.out W hu i hlt
        rw [hab] at e
        cases e
        exact h)
      subst hab
      have hml : (L.take m).length = m := by rw [List.length_take]; omega
      obtain ⟨fp, hfp⟩ := row_S1 (xs := L.take m) (by rw [hml]; exact HR.out)
      have F1 := Lib.hid (fun x => findS _ (L.take m) x wp fp hfp)
      clear hfp
      by_cases h0 : i = 0
      · obtain rfl : m = 1 := by omega
        obtain ⟨hl0, hz⟩ := HZ.out
        have hz2 : placeS L[i] (L.take 1) = 0 := by subst h0; exact hz
        have F2 := Lib.hid (F1.out L[i])
        rw [hz2] at F2
        obtain ⟨X, hX⟩ : ∃ X, L[i] = X := ⟨_, rfl⟩
        rw [hX] at F2 hcell
        have H00 := Lib.hid h0
        clear F1 hz hz2 hX hm hml h0
        go_wp2_with fail
        refine F2.out.mono ?_
        rintro _ w1 ⟨rfl, rfl⟩
        clear F2
        go_wp2_with fail
        go_roundw
        case rel => exact ⟨i + 1, 1, g, cap, by have := H00.out; omega, by omega, by go_num, rfl, HR, HU⟩
        case measure => simp [intOf]; omega
      · obtain rfl : m = i := by omega
        have F2 := Lib.hid (F1.out L[m])
        rw [HN1.out m (by omega) hlt] at F2
        have HLM := Lib.hid (fun (j : Nat) (h1 : 1 ≤ j) (hj : j < m) => show ∃ Y, wp.cell? ⟨g, j, none⟩ = some (es Y) ∧ Op.bytesLess Y L[m] = true from
          ⟨L[j]'(by omega), by rw [HR.out.cellAt j (by omega), List.getElem?_map, List.getElem?_take, if_pos (by omega), List.getElem?_eq_getElem (by omega)]; rfl, HLT.out j m h1 hj hlt⟩)
        have HEND := Lib.hid (fun w4 g4 c4 h => join_end (w := w4) (B := w.heap.size) (g := g4) (c := c4) hlt h)
        obtain ⟨X, hX⟩ : ∃ X, L[m] = X := ⟨_, rfl⟩
        rw [hX] at F2 hcell HLM HEND HU0
        have hmi : ¬ ((m : Int) < 0) := by omega
        clear F1 hX hm
        go_wp2_with fail
        refine F2.out.mono ?_
        rintro _ w1 ⟨rfl, rfl⟩
        clear F2
        go_wp2_with fail
        go_loopw [5] (fun jv wr => ∃ j nn : Nat, 1 ≤ j ∧ j ≤ m ∧ jv = .int .i64 j ∧ wr = wp.drewN nn) (fun jv _ => m - (intOf jv).toNat)
        case atStart => exact ⟨1, 0, by omega, by omega, rfl, rfl⟩
        case round =>
          obtain ⟨j, nn, hj1, hj, rfl, hw⟩ := hrel
          by_cases hjm : j < m
          · obtain ⟨Y, hY, hYX⟩ := HLM.out j hj1 hjm
            obtain ⟨wq, hwq⟩ : ∃ wq, wp.drewN nn = wq := ⟨_, rfl⟩
            have hY2 : wq.cell? ⟨g, j, none⟩ = some (es Y) := by rw [← hwq]; exact hY
            have hX2 : wq.cell? ⟨b, o + m, none⟩ = some (es X) := by rw [← hwq]; exact hcell
            rw [hwq] at hw
            subst hw
            have HWQ := Lib.hid hwq
            clear hwq hY
            go_wp2_with fail
            go_quiet (fail)
            go_wp2_with fail
            go_roundw
            case rel => exact ⟨j + 1, nn + nq, by omega, by omega, by go_num, by rw [← HWQ.out, drewN_add]⟩
            case measure => simp [intOf]; omega
          · obtain rfl : j = m := by omega
            obtain ⟨wq, hwq⟩ : ∃ wq, wp.drewN nn = wq := ⟨_, rfl⟩
            rw [hwq] at hw
            obtain rfl : wr = wq := hw
            have hrow : wr.ownsRow w.heap.size 9 1 (.slice (some ⟨g, 0, none⟩) j cap) j ((L.take j).map es) := by rw [← hwq]; exact HR.out
            have hUq : Upd [] w wr := by rw [← hwq]; exact HU.out.drewN nn
            have hcq : wr.cell? ⟨b, o + j, none⟩ = some (es X) := by rw [← hwq]; exact hcell
            have hszq := hUq.size
            have HGB := Lib.hid (hrow.lt g rfl).1
            have HUQ := Lib.hid hUq
            obtain ⟨us, hus⟩ : ∃ us, (L.take j).map es = us := ⟨_, rfl⟩
            rw [hus] at hrow HEND
            have hjj : ¬ (j : Int) < (j : Int) := by omega
            have hwr : IntKind.i64.wrap ((j : Int) + 1 - 1) = (j : Int) := by rw [IntKind.wrap_i64]; omega
            clear hwq HLM HR HU hcell hUq hus
            go_wp2_with fail
            go_quiet (fail)
            go_wp2_with (first
              | (at_builtin; refine wpList_append_lies _ rfl _ _ 24 rfl w.heap.size 9 i0 (.string ⟨#[]⟩) 1 16 Tryz.underlying24 hi hz0 hz1 hz2 rfl (by decide) (.slice (some ⟨g, 0, none⟩) j cap) j us rfl (ownsRow_upd hrow (((Upd.refl _ _).drewN _).alloc _)) ⟨wr.heap.size, 0, none⟩ 1 1 [es []] rfl rfl (fun q u hj => by rw [addr_add]; exact cell_new _ #[es []] _ _ (by simp) _ _ (by simpa using hj)) (by simp [Value.oneCell']) (by decide) (by unfold maxLen; omega) (by omega) (by simp; omega) (wr.heap.size + 1) (by simp) ?_)
              | fail)
            intro g4 c4 w4 hown4 hg4 hat4 hlt4
            obtain ⟨e1, e2, e3⟩ := HEND.out w4 g4 c4 hown4
            have hu4 : Upd [] w w4 := (((HUQ.out.drewN _).alloc _).grown hg4 (fun b hb => Or.inl (by simp [Value.ownBlock] at hb; have := HGB.out; omega)))
            have hc4 : w4.cell? ⟨b, o + j, none⟩ = some (es X) := HU0.out w4 hu4
            have HG4 := Lib.hid (hown4.lt g4 rfl).1
            have HU4 := Lib.hid hu4
            have HE3 := Lib.hid e3
            clear hown4 hg4 hat4 hlt4 HEND hrow hcq e3 hu4
            go_wp2_with fail
            go_loopw [6] (fun kv wr2 => kv = .int .i64 j ∧ wr2 = w4) (fun _ _ => 0)
            case atStart => exact ⟨by go_num, rfl⟩
            case round =>
              obtain ⟨rfl, hw2⟩ := hrel
              subst hw2
              go_wp2_with fail
              go_roundw
              case rel => exact ⟨j + 1, j + 1, g4, c4, by omega, by omega, by go_num, rfl, HE3, Lib.hid (HU4.out.setCell (Or.inl HG4.out) _)⟩
              case measure => simp [intOf]; omega
    · have hge : ¬ (i : Int) < (L.length : Int) := by omega
      have HE := Lib.hid (show LabD L w (.returned (.slice (some ⟨g, 0, none⟩) m cap)) wp from by
        have e1 : m = L.length := by omega
        rw [e1]
        exact ⟨⟨g, cap, rfl, by have h := HR.out; rw [e1, List.take_length] at h; exact h⟩, HU.out⟩)
      clear HR HU hm hlt hi9
      go_wp2_with fail
      go_ret
      exact HE.out

end Go.Proofs.YtdnjjanacbkijaaGreatDoor

/-
  Lists compared; lists drawn.
-/
namespace Go.Proofs.YtdnjjanacbkijaaGreatDoor
open Go.RowKit

def cmp1 (x y : Int) : Int := if x < y then -1 else if y < x then 1 else 0
theorem cmp1_self (x : Int) : cmp1 x x = 0 := by simp [cmp1]
theorem isNaNI (x : Int) (w : World) : Calls Tryz.prog 77 #[.int .i64 x] w fun e w' => e = .returned (.bool false) ∧ w = w' := by
  go_enter Tryz.func77, Tryz.ntmps77
  go_wp2_with fail
  go_ret
  exact ⟨by simp, rfl⟩

set_option maxRecDepth 20000 in
theorem cmpOne (x y : Int) (w : World) : Calls Tryz.prog 63 #[.int .i64 x, .int .i64 y] w fun e w' => e = .returned (.int .i64 (cmp1 x y)) ∧ w = w' := by
  have S1 := Lib.hid (isNaNI x w)
  have S2 := Lib.hid (isNaNI y w)
  rcases Int.lt_trichotomy x y with h | h | h
  · have HR := Lib.hid (show cmp1 x y = -1 by simp [cmp1, h])
    go_enter Tryz.func63, Tryz.ntmps63
    go_wp2_with fail
    refine S1.out.mono ?_
    rintro e w1 ⟨rfl, rfl⟩
    go_wp2_with fail
    refine S2.out.mono ?_
    rintro e w1 ⟨rfl, rfl⟩
    go_wp2_with fail
    go_ret
    exact ⟨by rw [HR.out]; rfl, rfl⟩
  · have HR := Lib.hid (show cmp1 x y = 0 by rw [h]; exact cmp1_self y)
    have g1 : ¬ x < y := by omega
    have g2 : ¬ y < x := by omega
    clear h
    go_enter Tryz.func63, Tryz.ntmps63
    go_wp2_with fail
    refine S1.out.mono ?_
    rintro e w1 ⟨rfl, rfl⟩
    go_wp2_with fail
    refine S2.out.mono ?_
    rintro e w1 ⟨rfl, rfl⟩
    go_wp2_with fail
    go_ret
    exact ⟨by rw [HR.out]; rfl, rfl⟩
  · have HR := Lib.hid (show cmp1 x y = 1 by simp [cmp1, h]; omega)
    have g1 : ¬ x < y := by omega
    go_enter Tryz.func63, Tryz.ntmps63
    go_wp2_with fail
    refine S1.out.mono ?_
    rintro e w1 ⟨rfl, rfl⟩
    go_wp2_with fail
    refine S2.out.mono ?_
    rintro e w1 ⟨rfl, rfl⟩
    go_wp2_with fail
    go_ret
    exact ⟨by rw [HR.out]; rfl, rfl⟩

end Go.Proofs.YtdnjjanacbkijaaGreatDoor

/-
  Validity of systems: the parts of both sides' walks.
-/
namespace Go.Proofs.YtdnjjanacbkijaaGreatDoor
open Go.RowKit

def firstNZ : List Int → Int
  | [] => 0
  | x :: r => if x ≠ 0 then x else firstNZ r

set_option maxRecDepth 20000 in
theorem cmpOr (v : Value) (xs : List Int) (w : World) (fp : List Nat) (hR : R1 fp w [v] xs) : Calls Tryz.prog 62 #[v] w fun e w' => e = .returned (.int .i64 (firstNZ xs)) ∧ w = w' := by
  obtain ⟨a, cap, rfl, h1, h2, hc⟩ := slF1_open hR
  unfold maxLen at h2
  clear hR
  go_enter Tryz.func62, Tryz.ntmps62
  go_wp2_with fail
  go_loop [8] (fun iv => ∃ k : Nat, k ≤ xs.length ∧ iv = .int .i64 k ∧ Hid (firstNZ (xs.drop k) = firstNZ xs)) (fun iv => xs.length - (intOf iv).toNat)
  case atStart => exact ⟨0, Nat.zero_le _, rfl, Lib.hid rfl⟩
  case round =>
    obtain ⟨k, hk, rfl, HF⟩ := hrel
    by_cases hlt : k < xs.length
    · obtain ⟨b, o, rfl, -, -, p1⟩ := hc k hlt
      have HG := Lib.hid (show firstNZ xs = if xs[k] ≠ 0 then xs[k] else firstNZ (xs.drop (k + 1)) by rw [← HF.out, List.drop_eq_getElem_cons hlt, firstNZ])
      generalize xs[k] = x at *
      clear hc HF
      by_cases hx : x = 0
      · have HQ := Lib.hid (HG.out.trans (if_neg (by simpa using hx)))
        subst hx
        clear HG
        go_wp2_with fail
        go_round
        case rel => exact ⟨k + 1, by omega, by go_num, Lib.hid HQ.out.symm⟩
        case measure => simp [intOf]; omega
      · have HQ := Lib.hid (HG.out.trans (if_pos hx))
        have hx1 : (x == 0) = false := by simpa using hx
        have hx2 : (x != 0) = true := by simpa using hx
        clear HG
        go_wp2_with fail
        go_ret
        exact ⟨by rw [HQ.out]; rfl, rfl⟩
    · have HQ := Lib.hid (show firstNZ xs = 0 by rw [← HF.out, List.drop_of_length_le (by omega)]; rfl)
      clear HF hc
      go_wp2_with fail
      go_ret
      exact ⟨by rw [HQ.out]; rfl, rfl⟩

theorem edLt_cmp (a b : Ed) : decide (0 ≤ firstNZ [cmp1 a.fr b.fr, cmp1 a.lb b.lb, cmp1 a.to b.to]) = !edLt a b := by
  unfold edLt firstNZ firstNZ firstNZ firstNZ cmp1
  rcases Int.lt_trichotomy a.fr b.fr with h1 | h1 | h1
  · have h2 : a.fr ≠ b.fr := by omega
    simp [h1, h2]
  · rcases Int.lt_trichotomy a.lb b.lb with h3 | h3 | h3
    · have h4 : a.lb ≠ b.lb := by omega
      simp [h1, h3, h4]
    · rcases Int.lt_trichotomy a.to b.to with h5 | h5 | h5
      · simp [h1, h3, h5]
      · simp [h1, h3, h5]
      · have h6 : ¬ a.to < b.to := by omega
        simp [h1, h3, h5, h6]
    · have h4 : a.lb ≠ b.lb := by omega
      have h5 : ¬ a.lb < b.lb := by omega
      simp [h1, h3, h4, h5]
  · have h2 : a.fr ≠ b.fr := by omega
    have h3 : ¬ a.fr < b.fr := by omega
    simp [h1, h2, h3]

def CmpEd (a b : Ed) (w : World) (e : Ending) (w' : World) : Prop := (∃ c : Int, e = .returned (.int .i64 c) ∧ decide (0 ≤ c) = !edLt a b) ∧ Upd [] w w'

set_option maxRecDepth 20000 in
set_option maxHeartbeats 2000000 in
theorem cmpEdges (a b : Ed) (w : World) : Calls Tryz.prog 44 #[.agg #[ei a.fr, ei a.lb, ei a.to], .agg #[ei b.fr, ei b.lb, ei b.to]] w (CmpEd a b w) := by
  have HE := Lib.hid (edLt_cmp a b)
  have HOR := Lib.hid (fun (W : World) (H : Nat) (hH : W.heap.size = H) (x y z : Int) => show Calls Tryz.prog 62 #[.slice (some ⟨H, 0, none⟩) 3 3] (W.alloc (.cells #[.int .i64 x, .int .i64 y, .int .i64 z] 3)).drew (fun e w' => e = .returned (.int .i64 (firstNZ [x, y, z])) ∧ (W.alloc (.cells #[.int .i64 x, .int .i64 y, .int .i64 z] 3)).drew = w') by
    subst hH
    obtain ⟨fp, h1, -, -⟩ := new_lit (enc := ei) W 3 [x, y, z] (by simp [maxLen])
    exact cmpOr _ [x, y, z] _ fp (R1k.drew h1))
  obtain ⟨a1, a2, a3⟩ := a
  obtain ⟨b1, b2, b3⟩ := b
  simp only at HE ⊢
  go_enter Tryz.func44, Tryz.ntmps44
  go_upto_region 1 with (fail)
  have hs : (w.alloc (.cells #[ei a1, ei a2, ei a3] 63)).heap.size = w.heap.size + 1 := by simp
  go_region_held3 (fun w' => w'.cell? ⟨w.heap.size, 0, none⟩ = some (ei a1) ∧ w'.cell? ⟨w.heap.size, 1, none⟩ = some (ei a2) ∧ w'.cell? ⟨w.heap.size, 2, none⟩ = some (ei a3) ∧ w'.cell? ⟨w.heap.size + 1, 0, none⟩ = some (ei b1) ∧ w'.cell? ⟨w.heap.size + 1, 1, none⟩ = some (ei b2) ∧ w'.cell? ⟨w.heap.size + 1, 2, none⟩ = some (ei b3)) (go_keep)
    (first
      | (go_at_call 63; (with_reducible refine (cmpOne _ _ _).mono ?_); rintro e w1 ⟨rfl, rfl⟩)
      | (go_at_call 62; (with_reducible refine (HOR.out _ _ (by simp) _ _ _).mono ?_); rintro e w1 ⟨rfl, rfl⟩))
  go_wp2_with fail
  go_ret
  exact ⟨⟨_, rfl, HE.out⟩, (((Upd.refl _ _).alloc _).alloc _).alloc _ |>.drew⟩

theorem isStateI (st ini : Int) (v1 v2 : Value) (n : Int) (w : World) (h0 : 1 ≤ st) (h1 : st ≤ 40) :
    Calls Tryz.prog 41 #[.agg #[ei st, ei ini, v1, v2], .int .i64 n] w fun e w' => e = .returned (.bool (inB n 0 (st - 1))) ∧ Upd [] w w' := by
  have S1 := Lib.hid (fun W : World => within n 0 (st - 1) W)
  generalize inB n 0 (st - 1) = b at *
  go_enter Tryz.func41, Tryz.ntmps41
  go_wp2_with fail
  refine (S1.out _).mono ?_
  rintro e w1 ⟨rfl, rfl⟩
  clear S1
  go_wp2_with fail
  go_ret
  exact ⟨rfl, (Upd.refl _ _).alloc _⟩

set_option maxRecDepth 20000 in
set_option maxHeartbeats 2000000 in
theorem lessS (a b : Ed) (p o q o2 : Nat) (w : World) (c1 : w.cell? ⟨p, o, none⟩ = some (ei a.fr)) (c2 : w.cell? ⟨p, o + 1, none⟩ = some (ei a.lb)) (c3 : w.cell? ⟨p, o + 2, none⟩ = some (ei a.to))
    (d1 : w.cell? ⟨q, o2, none⟩ = some (ei b.fr)) (d2 : w.cell? ⟨q, o2 + 1, none⟩ = some (ei b.lb)) (d3 : w.cell? ⟨q, o2 + 2, none⟩ = some (ei b.to)) :
    Calls Tryz.prog 66 #[.pointer (some ⟨p, o, none⟩), .pointer (some ⟨q, o2, none⟩)] w fun e w' => e = .returned (.bool (edLt a b)) ∧ Upd [] w w' := by
  obtain ⟨a1, a2, a3⟩ := a
  obtain ⟨b1, b2, b3⟩ := b
  simp only at c1 c2 c3 d1 d2 d3
  have HE := Lib.hid (show edLt ⟨a1, a2, a3⟩ ⟨b1, b2, b3⟩ = if a1 ≠ b1 then decide (a1 < b1) else if a2 ≠ b2 then decide (a2 < b2) else decide (a3 < b3) from rfl)
  by_cases h1 : a1 = b1
  · have g1 : (a1 != b1) = false := by simp [h1]
    have HE2 := Lib.hid (HE.out.trans (if_neg (by simpa using h1)))
    clear HE h1
    by_cases h2 : a2 = b2
    · have g2 : (a2 != b2) = false := by simp [h2]
      have HE3 := Lib.hid (HE2.out.trans (if_neg (by simpa using h2)))
      clear HE2 h2
      go_enter Tryz.func66, Tryz.ntmps66
      go_wp2_with fail
      go_quiet (fail)
      go_wp2_with fail
      go_quiet (fail)
      go_wp2_with fail
      go_quiet (fail)
      go_wp2_with fail
      go_ret
      exact ⟨by rw [HE3.out]; rfl, by simp only [drewN_add]; exact (Upd.refl _ _).drewN _⟩
    · have g2 : (a2 != b2) = true := by simp [h2]
      have HE3 := Lib.hid (HE2.out.trans (if_pos (by simpa using h2)))
      clear HE2 h2
      go_enter Tryz.func66, Tryz.ntmps66
      go_wp2_with fail
      go_quiet (fail)
      go_wp2_with fail
      go_quiet (fail)
      go_wp2_with fail
      go_quiet (fail)
      go_wp2_with fail
      go_ret
      exact ⟨by rw [HE3.out]; rfl, by simp only [drewN_add]; exact (Upd.refl _ _).drewN _⟩
  · have g1 : (a1 != b1) = true := by simp [h1]
    have HE2 := Lib.hid (HE.out.trans (if_pos (by simpa using h1)))
    clear HE h1
    go_enter Tryz.func66, Tryz.ntmps66
    go_wp2_with fail
    go_quiet (fail)
    go_wp2_with fail
    go_quiet (fail)
    go_wp2_with fail
    go_ret
    exact ⟨by rw [HE2.out]; rfl, by simp only [drewN_add]; exact (Upd.refl _ _).drewN _⟩

end Go.Proofs.YtdnjjanacbkijaaGreatDoor

/-
  Systems drawn: an edge put among rising ones.
-/
namespace Go.Proofs.YtdnjjanacbkijaaGreatDoor
open Go.RowKit

def eR (l : List Ed) : List Value := l.flatMap fun t => [ei t.fr, ei t.lb, ei t.to]
theorem eR_len (l : List Ed) : (eR l).length = l.length * 3 := by
  induction l with
  | nil => rfl
  | cons a l ih => simp only [eR, List.flatMap_cons, List.length_append, List.length_cons, List.length_nil] at *; omega
theorem eR_app (a b : List Ed) : eR (a ++ b) = eR a ++ eR b := by simp [eR]
theorem eR_get {l : List Ed} {i : Nat} (h : i < l.length) : (eR l)[i * 3]? = some (ei l[i].fr) ∧ (eR l)[i * 3 + 1]? = some (ei l[i].lb) ∧ (eR l)[i * 3 + 2]? = some (ei l[i].to) := by
  have e : eR l = eR (l.take i) ++ (eR [l[i]] ++ eR (l.drop (i + 1))) := by
    rw [← eR_app, ← eR_app, List.singleton_append, ← List.drop_eq_getElem_cons h, List.take_append_drop]
  have hl : (eR (l.take i)).length = i * 3 := by rw [eR_len, List.length_take, Nat.min_eq_left (by omega)]
  rw [e]
  refine ⟨?_, ?_, ?_⟩
  · rw [List.getElem?_append_right (by omega), hl, Nat.sub_self]; rfl
  · rw [List.getElem?_append_right (by omega), hl, Nat.add_sub_cancel_left]; rfl
  · rw [List.getElem?_append_right (by omega), hl, Nat.add_sub_cancel_left]; rfl
/-- a row of edges in a block. -/
def RowE (w : World) (B g cap : Nat) (l : List Ed) : Prop := w.ownsRow B 63 3 (.slice (some ⟨g, 0, none⟩) l.length cap) l.length (eR l)
theorem RowE.cell {w : World} {B g cap : Nat} {l : List Ed} (h : RowE w B g cap l) {i : Nat} (hi : i < l.length) :
    w.cell? ⟨g, i * 3, none⟩ = some (ei l[i].fr) ∧ w.cell? ⟨g, i * 3 + 1, none⟩ = some (ei l[i].lb) ∧ w.cell? ⟨g, i * 3 + 2, none⟩ = some (ei l[i].to) := by
  obtain ⟨a, b, c⟩ := eR_get hi
  exact ⟨(h.cellAt _ (by omega)).trans a, (h.cellAt _ (by omega)).trans b, (h.cellAt _ (by omega)).trans c⟩
theorem RowE.there {w : World} {B g cap : Nat} {l : List Ed} (h : RowE w B g cap l) {i : Nat} (hi : i < l.length) : w.there g (i * 3) 3 := fun j hj => by
  refine ⟨?_, h.frozenAt _⟩
  rw [h.cellAt _ (by omega), List.getElem?_eq_getElem (by rw [eR_len]; omega)]; rfl
theorem RowE.set {w : World} {B g cap : Nat} {l : List Ed} (h : RowE w B g cap l) {i : Nat} (hi : i < l.length) (x : Ed) : RowE (w.setCells g (i * 3) [ei x.fr, ei x.lb, ei x.to]) B g cap (l.set i x) := by
  have h1 := ownsRow_setCells [ei x.fr, ei x.lb, ei x.to] (i * 3) h (by simp; omega)
  have e : eR l = eR (l.take i) ++ eR [l[i]] ++ eR (l.drop (i + 1)) := by
    rw [List.append_assoc, ← eR_app, ← eR_app, List.singleton_append, ← List.drop_eq_getElem_cons hi, List.take_append_drop]
  have hl : (eR (l.take i)).length = i * 3 := by rw [eR_len, List.length_take, Nat.min_eq_left (by omega)]
  rw [e, ← hl, putAt_mid [ei x.fr, ei x.lb, ei x.to] (eR (l.take i)) (eR [l[i]]) (eR (l.drop (i + 1))) rfl, hl] at h1
  have e2 : eR (l.set i x) = eR (l.take i) ++ [ei x.fr, ei x.lb, ei x.to] ++ eR (l.drop (i + 1)) := by
    rw [List.set_eq_take_append_cons_drop, if_pos hi, eR_app, List.append_assoc]; rfl
  unfold RowE
  rw [List.length_set, e2]
  exact h1
theorem RowE.lt {w : World} {B g cap : Nat} {l : List Ed} (h : RowE w B g cap l) : B ≤ g ∧ g < w.heap.size := World.ownsRow.lt h g rfl
theorem RowE.cap {w : World} {B g cap : Nat} {l : List Ed} (h : RowE w B g cap l) : l.length ≤ cap ∧ cap ≤ 9223372036854775807 := by
  rcases h.2 with ⟨h0, -⟩ | ⟨g', cap', cur, hv, -, -, h3, h4, -⟩
  · cases h0
  · cases hv; unfold maxLen at h4; exact ⟨h3, by omega⟩
theorem RowE.far {w w1 : World} {B g cap : Nat} {l : List Ed} (h : RowE w B g cap l) {f : List Nat} (hu : Upd f w w1) (hg : g ∉ f) : RowE w1 B g cap l :=
  ownsRow_keep h (fun b hb => by
    obtain rfl : g = b := by simpa [Value.ownBlock] using hb
    exact hu.block g h.lt.2 hg)

/-- the row with a gap at k: all from there on one place further. -/
theorem gap_step (l : List Ed) (z : Ed) {j : Nat} (hj : j < l.length) : (l.take (j + 1) ++ z :: l.drop (j + 1)).set (j + 1) l[j] = l.take j ++ l[j] :: l.drop j := by
  have hl : (l.take (j + 1)).length = j + 1 := by rw [List.length_take]; omega
  rw [List.set_append_right _ _ (by omega), hl, Nat.sub_self, List.set_cons_zero, List.take_succ_eq_append_getElem hj, List.append_assoc, List.singleton_append, ← List.drop_eq_getElem_cons hj]
theorem gap_get (l : List Ed) (z : Ed) {j : Nat} (hj : j < l.length) : ∃ h : j < (l.take (j + 1) ++ z :: l.drop (j + 1)).length, (l.take (j + 1) ++ z :: l.drop (j + 1))[j] = l[j] := by
  have hl : (l.take (j + 1)).length = j + 1 := by rw [List.length_take]; omega
  refine ⟨by rw [List.length_append, hl]; simp; omega, ?_⟩
  rw [List.getElem_append_left (by omega), List.getElem_take]
theorem gap_end (l : List Ed) (z e : Ed) {k : Nat} (hk : k ≤ l.length) : (l.take k ++ z :: l.drop k).set k e = l.take k ++ e :: l.drop k := by
  have hl : (l.take k).length = k := by rw [List.length_take]; omega
  rw [List.set_append_right _ _ (by omega), hl, Nat.sub_self, List.set_cons_zero]
theorem gap_len (l : List Ed) (z : Ed) (k : Nat) : (l.take k ++ z :: l.drop k).length = l.length + 1 := by
  rw [List.length_append, List.length_cons, List.length_take, List.length_drop]; omega

/-- what l11Put returns: the row with the edge in it, where it was or in new memory. -/
def PutD (B g : Nat) (l : List Ed) (x : Ed) (w : World) (e : Ending) (w' : World) : Prop :=
  ∃ g' cap', e = .returned (.slice (some ⟨g', 0, none⟩) (putE l x).length cap') ∧ RowE w' B g' cap' (putE l x) ∧ (g' = g ∨ w.heap.size ≤ g') ∧ Upd [g] w w'
theorem Ed_size : (Tryz.prog.info? 63).map (·.size) = some 3 := by kernel_rfl

/-- the box of the edge, and all else as it was but the row. -/
structure PutSt (B g4 c4 g : Nat) (M : List Ed) (x : Ed) (w wr : World) : Prop where
  row : RowE wr B g4 c4 M
  at' : g4 = g ∨ w.heap.size + 1 ≤ g4
  upd : Upd [g] w wr
  b0 : wr.cell? ⟨w.heap.size, 0, none⟩ = some (ei x.fr)
  b1 : wr.cell? ⟨w.heap.size, 1, none⟩ = some (ei x.lb)
  b2 : wr.cell? ⟨w.heap.size, 2, none⟩ = some (ei x.to)
theorem PutSt.call {B g4 c4 g : Nat} {M : List Ed} {x : Ed} {w wr w1 : World} (h : PutSt B g4 c4 g M x w wr) (hu : Upd [] wr w1) : PutSt B g4 c4 g M x w w1 :=
  ⟨h.row.far hu (by simp), h.at', h.upd.trans (hu.mono (by simp)), hu.keep h.b0, hu.keep h.b1, hu.keep h.b2⟩
theorem PutSt.put {B g4 c4 g : Nat} {M : List Ed} {x : Ed} {w wr : World} (h : PutSt B g4 c4 g M x w wr) (hg : g < w.heap.size) {i : Nat} (hi : i < M.length) (y : Ed) : PutSt B g4 c4 g (M.set i y) x w (wr.setCells g4 (i * 3) [ei y.fr, ei y.lb, ei y.to]) := by
  have hne : g4 ≠ w.heap.size := by rcases h.at' with h | h <;> omega
  have hu : Upd [g4] wr (wr.setCells g4 (i * 3) [ei y.fr, ei y.lb, ei y.to]) := upd_setCells _ (Or.inr (by simp)) _ _ (Upd.refl _ _)
  exact ⟨h.row.set hi y, h.at', h.upd.fresh hu (fun b hb => by
    obtain rfl : b = g4 := by simpa using hb
    rcases h.at' with h | h
    · exact Or.inr (by simp [h])
    · exact Or.inl (by omega)), hu.keepF (by simp; omega) h.b0, hu.keepF (by simp; omega) h.b1, hu.keepF (by simp; omega) h.b2⟩

set_option maxRecDepth 20000 in
set_option maxHeartbeats 8000000 in
theorem putD (l : List Ed) (x : Ed) (B g cap : Nat) (w : World) (hrow : RowE w B g cap l) (hl : l.length ≤ 1000) :
    Calls Tryz.prog 53 #[.slice (some ⟨g, 0, none⟩) l.length cap, .agg #[ei x.fr, ei x.lb, ei x.to]] w (PutD B g l x w) := by
  obtain ⟨i0, hi, hz0, hz1, hz2⟩ := info_parts Tryz.infoEd
  have hgw := hrow.lt.2
  have hcp := hrow.cap
  have HAT := Lib.hid (fun k (hk : k + 1 ≤ l.length) => show atE l x (k + 1) = if edLt x (l[k]'(by omega)) then atE l x k else k + 1 from by
    rw [atE, getD_at (by omega)])
  have HPE := Lib.hid (show putE l x = if 0 < atE l x l.length ∧ l.getD (atE l x l.length - 1) ⟨0, 0, 0⟩ = x then l else l.take (atE l x l.length) ++ x :: l.drop (atE l x l.length) from rfl)
  have HST := Lib.hid (show ∀ T, PutSt B g cap g l x w (w.alloc (.cells #[ei x.fr, ei x.lb, ei x.to] T)) from fun T =>
    ⟨hrow.far ((Upd.refl [] w).alloc _) (by simp), Or.inl rfl, (Upd.refl _ _).alloc _, cell_new w _ _ _ rfl 0 _ rfl, cell_new w _ _ _ rfl 1 _ rfl, cell_new w _ _ _ rfl 2 _ rfl⟩)
  have HL := Lib.hid (fun W j (hj : j < l.length) (h : PutSt B g cap g l x w W) => lessS x l[j] w.heap.size 0 g (j * 3) W h.b0 (by simpa using h.b1) (by simpa using h.b2) (h.row.cell hj).1 (h.row.cell hj).2.1 (h.row.cell hj).2.2)
  have HEQ := Lib.hid (fun (a b : Ed) W => eqlE a.fr a.lb a.to b.fr b.lb b.to W)
  obtain ⟨x1, x2, x3⟩ := x
  simp only at HST HL
  clear hrow
  generalize hP : putE l ⟨x1, x2, x3⟩ = P at *
  have HPP := Lib.hid hP
  clear hP
  go_enter Tryz.func53, Tryz.ntmps53
  go_wp2_with fail
  go_loopw [5] (fun kv wr => ∃ k : Nat, k ≤ l.length ∧ kv = .int .i64 k ∧ Hid (atE l ⟨x1, x2, x3⟩ l.length = atE l ⟨x1, x2, x3⟩ k) ∧ Hid (PutSt B g cap g l ⟨x1, x2, x3⟩ w wr)) (fun kv _ => (intOf kv).toNat)
  case atStart => exact ⟨l.length, Nat.le_refl _, rfl, Lib.hid rfl, Lib.hid (HST.out _)⟩
  case round =>
    clear HST
    obtain ⟨wp, rfl⟩ : ∃ wp : World, wp = wr := ⟨_, rfl⟩
    obtain ⟨k, hk, rfl, HA, HS⟩ := hrel
    by_cases hk0 : k = 0
    · have hgt : ¬ (0 : Int) < (k : Int) := by omega
      have HX := Lib.hid (show P = l.take k ++ ⟨x1, x2, x3⟩ :: l.drop k from by
        rw [HPE.out, HA.out, if_neg (fun h => by rw [hk0] at h; simp [atE] at h), hk0]; rfl)
      clear HA hk0 HPE HAT HL HEQ
      go_wp2_with fail
      go_quiet (fail)
      obtain ⟨wq, hwq⟩ : ∃ wq, wp.drewN nq = wq := ⟨_, rfl⟩
      have HS2 := Lib.hid (show PutSt B g cap g l ⟨x1, x2, x3⟩ w wq from by rw [← hwq]; exact HS.out.call ((Upd.refl _ _).drewN _))
      rw [hwq]
      clear hwq HS
      have hro := HS2.out.row
      have hbs := Nat.le_trans HS2.out.row.lt.1 (Nat.le_of_lt HS2.out.row.lt.2)
      have HZ := Lib.hid (fun w4 g4 c4 cs T (h1 : w4.ownsRow B 63 3 (.slice (some ⟨g4, 0, none⟩) (l.length + 1) c4) (l.length + 1) (eR l ++ [ei 0, ei 0, ei 0])) (h2 : ((wq).alloc (.cells cs T)).grownBy w4 (some g)) (h3 : g4 = g ∨ g4 = (wq).heap.size + 1) => show PutSt B g4 c4 g (l.take l.length ++ ⟨0, 0, 0⟩ :: l.drop l.length) ⟨x1, x2, x3⟩ w w4 from by
        have hs : w.heap.size + 1 ≤ (wq).heap.size := by have := World.block_lt_of_cell? _ _ HS2.out.b0; exact this
        have hu : Upd [g] (wq) w4 := ((Upd.refl [g] (wq)).alloc _).grown h2 (fun b hb => Or.inr (by simpa using hb.symm))
        refine ⟨?_, ?_, HS2.out.upd.trans hu, hu.keepF (by simp; omega) HS2.out.b0, hu.keepF (by simp; omega) HS2.out.b1, hu.keepF (by simp; omega) HS2.out.b2⟩
        · unfold RowE
          rw [gap_len, List.take_length, List.drop_length, eR_app]
          exact h1
        · rcases h3 with h | h
          · exact Or.inl h
          · exact Or.inr (by omega))
      unfold RowE at hro
      have hwl : IntKind.i64.wrap ((l.length : Int) + 1 - 1) = (l.length : Int) := by rw [IntKind.wrap_i64]; omega
      clear HS2
      go_wp2_with (first
        | (at_builtin; refine wpList_append_lies _ rfl _ _ 25 rfl B 63 i0 (.agg #[.int .i64 0, .int .i64 0, .int .i64 0]) 3 24 Tryz.underlying25 hi hz0 hz1 hz2 rfl (by decide) (.slice (some ⟨g, 0, none⟩) l.length cap) l.length (eR l) rfl (ownsRow_upd hro ((Upd.refl _ _).alloc _)) ⟨(wq).heap.size, 0, none⟩ 1 1 [ei 0, ei 0, ei 0] rfl rfl (fun q u hj => by rw [addr_add]; exact cell_new (wq) #[ei 0, ei 0, ei 0] _ _ rfl _ _ (by simpa using hj)) (by simp [Value.oneCell']) (by decide) (by unfold maxLen; omega) (by omega) (by simp; omega) ((wq).heap.size + 1) (by simp) ?_)
        | fail)
      intro g4 c4 w4 hown4 hg4 hat4 hlt4
      have HS4 := Lib.hid (HZ.out w4 g4 c4 _ _ hown4 hg4 (by
        rcases hat4 with h | h
        · left; simpa [Value.ownBlock, eq_comm] using h
        · right; exact h))
      have hc4 : l.length + 1 ≤ c4 ∧ c4 ≤ 9223372036854775807 := by have := HS4.out.row.cap; rw [gap_len] at this; exact this
      clear hown4 hg4 hat4 hlt4 HZ hro
      go_wp2_with fail
      go_loopw [6] (fun mv wr => ∃ (m : Nat) (z : Ed), k ≤ m ∧ m ≤ l.length ∧ mv = .int .i64 m ∧ Hid (PutSt B g4 c4 g (l.take m ++ z :: l.drop m) ⟨x1, x2, x3⟩ w wr)) (fun mv _ => (intOf mv).toNat)
      case atStart => exact ⟨l.length, ⟨0, 0, 0⟩, hk, Nat.le_refl _, by go_num, HS4⟩
      case round =>
        clear HS4
        obtain ⟨wo, rfl⟩ : ∃ wo : World, wo = wr := ⟨_, rfl⟩
        obtain ⟨m, z, hkm, hm, rfl, HS5⟩ := hrel
        by_cases hmk : k < m
        · have hmi : (k : Int) < (m : Int) := by omega
          obtain ⟨i, hmi9⟩ : ∃ i, m = i + 1 := ⟨m - 1, by omega⟩
          have hwm : IntKind.i64.wrap ((m : Int) - 1) = (i : Int) := by rw [IntKind.wrap_i64]; omega
          have hil : i < l.length := by omega
          have hii : (i : Int) < (l.length : Int) + 1 := by omega
          have hmm : (m : Int) < (l.length : Int) + 1 := by omega
          have HC6 := Lib.hid (show wo.cell? ⟨g4, i * 3, none⟩ = some (ei l[i].fr) ∧ wo.cell? ⟨g4, i * 3 + 1, none⟩ = some (ei l[i].lb) ∧ wo.cell? ⟨g4, i * 3 + 2, none⟩ = some (ei l[i].to) from by
            obtain ⟨h1, h2⟩ := gap_get l z hil
            have := HS5.out
            rw [hmi9] at this
            have h3 := this.row.cell h1
            rw [h2] at h3
            exact h3)
          have HTH := Lib.hid (show ∀ y : Ed, wo.there g4 (m * 3) (#[ei y.fr, ei y.lb, ei y.to] : Array Value).size from fun y => HS5.out.row.there (by rw [gap_len]; omega))
          have HS6 := Lib.hid (show PutSt B g4 c4 g (l.take i ++ l[i] :: l.drop i) ⟨x1, x2, x3⟩ w (wo.setCells g4 (m * 3) [ei l[i].fr, ei l[i].lb, ei l[i].to]) from by
            have := HS5.out.put hgw (i := m) (by rw [gap_len]; omega) l[i]
            rw [hmi9] at this ⊢
            rw [gap_step l z hil] at this
            exact this)
          have HIM := Lib.hid hmi9
          generalize l[i] = y at *
          obtain ⟨y1, y2, y3⟩ := y
          simp only at HC6 HTH
          obtain ⟨c1, c2, c3⟩ := HC6.out
          clear hmi9 HS5 HC6 hmk
          go_wp2_with (first
            | (refine wpList_store_mid rfl 63 _ _ rfl g4 (m * 3) #[ei y1, ei y2, ei y3] rfl rfl (by with_reducible exact HTH.out ⟨y1, y2, y3⟩) Ed_size (by simp [Value.oneCell']) ?_)
            | fail)
          go_roundw
          case rel => exact ⟨i, ⟨y1, y2, y3⟩, by have := HIM.out; omega, by omega, by go_num, HS6⟩
          case measure => simp [intOf]; have := HIM.out; omega
        · obtain rfl : m = k := by omega
          have hmi : ¬ (m : Int) < (m : Int) := by omega
          have hmm : (m : Int) < (l.length : Int) + 1 := by omega
          have d1 := HS5.out.b0
          have d2 := HS5.out.b1
          have d3 := HS5.out.b2
          simp only at d1 d2 d3
          have HTH := Lib.hid (show wo.there g4 (m * 3) (#[ei x1, ei x2, ei x3] : Array Value).size from HS5.out.row.there (by rw [gap_len]; omega))
          have HS6 := Lib.hid (show PutSt B g4 c4 g P ⟨x1, x2, x3⟩ w (wo.setCells g4 (m * 3) [ei x1, ei x2, ei x3]) from by
            have := HS5.out.put hgw (i := m) (by rw [gap_len]; omega) ⟨x1, x2, x3⟩
            rw [gap_end l z _ hm, ← HX.out] at this
            exact this)
          have HLN := Lib.hid (show P.length = l.length + 1 by rw [HX.out]; exact gap_len l _ m)
          clear HS5
          go_wp2_with (first
            | (refine wpList_store_mid rfl 63 _ _ rfl g4 (m * 3) #[ei x1, ei x2, ei x3] rfl rfl (by with_reducible exact HTH.out) Ed_size (by simp [Value.oneCell']) ?_)
            | fail)
          go_ret
          exact ⟨g4, c4, by rw [HPP.out, HLN.out]; rfl, by rw [HPP.out]; exact HS6.out.row, by rcases HS6.out.at' with h | h; exact Or.inl h; exact Or.inr (by omega), HS6.out.upd⟩
    · have hgt : (0 : Int) < (k : Int) := by omega
      obtain ⟨j, hj⟩ : ∃ j, k = j + 1 := ⟨k - 1, by omega⟩
      have hwr : IntKind.i64.wrap ((k : Int) - 1) = (j : Int) := by rw [IntKind.wrap_i64]; omega
      have hjl : j < l.length := by omega
      have hji : (j : Int) < (l.length : Int) := by omega
      have L1 := Lib.hid (HL.out wp j hjl HS.out)
      have HAJ := Lib.hid (show atE l ⟨x1, x2, x3⟩ l.length = if edLt ⟨x1, x2, x3⟩ l[j] then atE l ⟨x1, x2, x3⟩ j else k from by rw [HA.out, hj]; exact HAT.out j (by omega))
      have HJK := Lib.hid hj
      cases hq : edLt ⟨x1, x2, x3⟩ l[j] with
      | true =>
        rw [hq] at L1 HAJ
        have HAJ2 := Lib.hid (HAJ.out.trans (if_pos rfl))
        clear hj hk0 hq HA HAJ
        go_wp2_with fail
        refine L1.out.mono ?_
        rintro _ w1 ⟨rfl, hu1⟩
        have HS1 := Lib.hid (HS.out.call hu1)
        clear L1 hu1 HS
        go_wp2_with fail
        go_roundw
        case rel => exact ⟨j, by omega, by go_num, HAJ2, HS1⟩
        case measure => simp [intOf]; have := HJK.out; omega
      | false =>
        rw [hq] at L1 HAJ
        have HAK := Lib.hid (HAJ.out.trans (if_neg (by simp)))
        have HEJ := Lib.hid (HEQ.out l[j] ⟨x1, x2, x3⟩)
        have HPK := Lib.hid (show P = if l[j] = ⟨x1, x2, x3⟩ then l else l.take k ++ ⟨x1, x2, x3⟩ :: l.drop k from by
          rw [HPE.out, HAK.out, hj, Nat.add_sub_cancel, getD_at hjl]
          by_cases h : l[j] = ⟨x1, x2, x3⟩
          · rw [if_pos ⟨by omega, h⟩, if_pos h]
          · rw [if_neg (fun hh => h hh.2), if_neg h])
        have HCJ := Lib.hid (fun W (h : PutSt B g cap g l ⟨x1, x2, x3⟩ w W) => h.row.cell hjl)
        generalize l[j] = y at *
        clear hj hk0 hq HA HAJ HAK HPE HAT HL HEQ
        go_wp2_with fail
        refine L1.out.mono ?_
        rintro _ w1 ⟨rfl, hu1⟩
        have HS1 := Lib.hid (HS.out.call hu1)
        obtain ⟨c1, c2, c3⟩ := HCJ.out w1 HS1.out
        have d1 := HS1.out.b0
        have d2 := HS1.out.b1
        have d3 := HS1.out.b2
        simp only at d1 d2 d3
        obtain ⟨y1, y2, y3⟩ := y
        simp only at c1 c2 c3
        have hE := HEJ.out
        simp only at hE
        clear L1 hu1 HS HCJ HEJ
        by_cases hyx : (⟨y1, y2, y3⟩ : Ed) = ⟨x1, x2, x3⟩
        · have HX := Lib.hid (HPK.out.trans (if_pos hyx))
          rw [decide_eq_true hyx] at hE
          clear HPK hyx
          go_wp2_with fail
          go_quiet (fail)
          go_wp2_with fail
          go_ret
          exact ⟨g, cap, by rw [HPP.out, HX.out]; rfl, by rw [HPP.out, HX.out]; exact (HS1.out.call ((Upd.refl _ _).drewN _)).row, Or.inl rfl, HS1.out.upd.drewN _⟩
        · have HX := Lib.hid (HPK.out.trans (if_neg hyx))
          rw [decide_eq_false hyx] at hE
          clear HPK hyx
          go_wp2_with fail
          go_quiet (fail)
          obtain ⟨wq, hwq⟩ : ∃ wq, w1.drewN nq = wq := ⟨_, rfl⟩
          have HS2 := Lib.hid (show PutSt B g cap g l ⟨x1, x2, x3⟩ w wq from by rw [← hwq]; exact HS1.out.call ((Upd.refl _ _).drewN _))
          rw [hwq]
          clear hwq hE c1 c2 c3 d1 d2 d3 HS1
          have hro := HS2.out.row
          have hbs := Nat.le_trans HS2.out.row.lt.1 (Nat.le_of_lt HS2.out.row.lt.2)
          have HZ := Lib.hid (fun w4 g4 c4 cs T (h1 : w4.ownsRow B 63 3 (.slice (some ⟨g4, 0, none⟩) (l.length + 1) c4) (l.length + 1) (eR l ++ [ei 0, ei 0, ei 0])) (h2 : ((wq).alloc (.cells cs T)).grownBy w4 (some g)) (h3 : g4 = g ∨ g4 = (wq).heap.size + 1) => show PutSt B g4 c4 g (l.take l.length ++ ⟨0, 0, 0⟩ :: l.drop l.length) ⟨x1, x2, x3⟩ w w4 from by
            have hs : w.heap.size + 1 ≤ (wq).heap.size := by have := World.block_lt_of_cell? _ _ HS2.out.b0; exact this
            have hu : Upd [g] (wq) w4 := ((Upd.refl [g] (wq)).alloc _).grown h2 (fun b hb => Or.inr (by simpa using hb.symm))
            refine ⟨?_, ?_, HS2.out.upd.trans hu, hu.keepF (by simp; omega) HS2.out.b0, hu.keepF (by simp; omega) HS2.out.b1, hu.keepF (by simp; omega) HS2.out.b2⟩
            · unfold RowE
              rw [gap_len, List.take_length, List.drop_length, eR_app]
              exact h1
            · rcases h3 with h | h
              · exact Or.inl h
              · exact Or.inr (by omega))
          unfold RowE at hro
          have hwl : IntKind.i64.wrap ((l.length : Int) + 1 - 1) = (l.length : Int) := by rw [IntKind.wrap_i64]; omega
          clear HS2
          go_wp2_with (first
            | (at_builtin; refine wpList_append_lies _ rfl _ _ 25 rfl B 63 i0 (.agg #[.int .i64 0, .int .i64 0, .int .i64 0]) 3 24 Tryz.underlying25 hi hz0 hz1 hz2 rfl (by decide) (.slice (some ⟨g, 0, none⟩) l.length cap) l.length (eR l) rfl (ownsRow_upd hro ((Upd.refl _ _).alloc _)) ⟨(wq).heap.size, 0, none⟩ 1 1 [ei 0, ei 0, ei 0] rfl rfl (fun q u hj => by rw [addr_add]; exact cell_new (wq) #[ei 0, ei 0, ei 0] _ _ rfl _ _ (by simpa using hj)) (by simp [Value.oneCell']) (by decide) (by unfold maxLen; omega) (by omega) (by simp; omega) ((wq).heap.size + 1) (by simp) ?_)
            | fail)
          intro g4 c4 w4 hown4 hg4 hat4 hlt4
          have HS4 := Lib.hid (HZ.out w4 g4 c4 _ _ hown4 hg4 (by
            rcases hat4 with h | h
            · left; simpa [Value.ownBlock, eq_comm] using h
            · right; exact h))
          have hc4 : l.length + 1 ≤ c4 ∧ c4 ≤ 9223372036854775807 := by have := HS4.out.row.cap; rw [gap_len] at this; exact this
          clear hown4 hg4 hat4 hlt4 HZ hro
          go_wp2_with fail
          go_loopw [6] (fun mv wr => ∃ (m : Nat) (z : Ed), k ≤ m ∧ m ≤ l.length ∧ mv = .int .i64 m ∧ Hid (PutSt B g4 c4 g (l.take m ++ z :: l.drop m) ⟨x1, x2, x3⟩ w wr)) (fun mv _ => (intOf mv).toNat)
          case atStart => exact ⟨l.length, ⟨0, 0, 0⟩, hk, Nat.le_refl _, by go_num, HS4⟩
          case round =>
            clear HS4
            obtain ⟨wo, rfl⟩ : ∃ wo : World, wo = wr := ⟨_, rfl⟩
            obtain ⟨m, z, hkm, hm, rfl, HS5⟩ := hrel
            by_cases hmk : k < m
            · have hmi : (k : Int) < (m : Int) := by omega
              obtain ⟨i, hmi9⟩ : ∃ i, m = i + 1 := ⟨m - 1, by omega⟩
              have hwm : IntKind.i64.wrap ((m : Int) - 1) = (i : Int) := by rw [IntKind.wrap_i64]; omega
              have hil : i < l.length := by omega
              have hii : (i : Int) < (l.length : Int) + 1 := by omega
              have hmm : (m : Int) < (l.length : Int) + 1 := by omega
              have HC6 := Lib.hid (show wo.cell? ⟨g4, i * 3, none⟩ = some (ei l[i].fr) ∧ wo.cell? ⟨g4, i * 3 + 1, none⟩ = some (ei l[i].lb) ∧ wo.cell? ⟨g4, i * 3 + 2, none⟩ = some (ei l[i].to) from by
                obtain ⟨h1, h2⟩ := gap_get l z hil
                have := HS5.out
                rw [hmi9] at this
                have h3 := this.row.cell h1
                rw [h2] at h3
                exact h3)
              have HTH := Lib.hid (show ∀ y : Ed, wo.there g4 (m * 3) (#[ei y.fr, ei y.lb, ei y.to] : Array Value).size from fun y => HS5.out.row.there (by rw [gap_len]; omega))
              have HS6 := Lib.hid (show PutSt B g4 c4 g (l.take i ++ l[i] :: l.drop i) ⟨x1, x2, x3⟩ w (wo.setCells g4 (m * 3) [ei l[i].fr, ei l[i].lb, ei l[i].to]) from by
                have := HS5.out.put hgw (i := m) (by rw [gap_len]; omega) l[i]
                rw [hmi9] at this ⊢
                rw [gap_step l z hil] at this
                exact this)
              have HIM := Lib.hid hmi9
              generalize l[i] = y at *
              obtain ⟨y1, y2, y3⟩ := y
              simp only at HC6 HTH
              obtain ⟨c1, c2, c3⟩ := HC6.out
              clear hmi9 HS5 HC6 hmk
              go_wp2_with (first
                | (refine wpList_store_mid rfl 63 _ _ rfl g4 (m * 3) #[ei y1, ei y2, ei y3] rfl rfl (by with_reducible exact HTH.out ⟨y1, y2, y3⟩) Ed_size (by simp [Value.oneCell']) ?_)
                | fail)
              go_roundw
              case rel => exact ⟨i, ⟨y1, y2, y3⟩, by have := HIM.out; omega, by omega, by go_num, HS6⟩
              case measure => simp [intOf]; have := HIM.out; omega
            · obtain rfl : m = k := by omega
              have hmi : ¬ (m : Int) < (m : Int) := by omega
              have hmm : (m : Int) < (l.length : Int) + 1 := by omega
              have d1 := HS5.out.b0
              have d2 := HS5.out.b1
              have d3 := HS5.out.b2
              simp only at d1 d2 d3
              have HTH := Lib.hid (show wo.there g4 (m * 3) (#[ei x1, ei x2, ei x3] : Array Value).size from HS5.out.row.there (by rw [gap_len]; omega))
              have HS6 := Lib.hid (show PutSt B g4 c4 g P ⟨x1, x2, x3⟩ w (wo.setCells g4 (m * 3) [ei x1, ei x2, ei x3]) from by
                have := HS5.out.put hgw (i := m) (by rw [gap_len]; omega) ⟨x1, x2, x3⟩
                rw [gap_end l z _ hm, ← HX.out] at this
                exact this)
              have HLN := Lib.hid (show P.length = l.length + 1 by rw [HX.out]; exact gap_len l _ m)
              clear HS5
              go_wp2_with (first
                | (refine wpList_store_mid rfl 63 _ _ rfl g4 (m * 3) #[ei x1, ei x2, ei x3] rfl rfl (by with_reducible exact HTH.out) Ed_size (by simp [Value.oneCell']) ?_)
                | fail)
              go_ret
              exact ⟨g4, c4, by rw [HPP.out, HLN.out]; rfl, by rw [HPP.out]; exact HS6.out.row, by rcases HS6.out.at' with h | h; exact Or.inl h; exact Or.inr (by omega), HS6.out.upd⟩

end Go.Proofs.YtdnjjanacbkijaaGreatDoor

/-
  Systems drawn: a system made of labels and edges.
-/
namespace Go.Proofs.YtdnjjanacbkijaaGreatDoor
open Go.RowKit

theorem row_E1 {w : World} {B g cap : Nat} {l : List Ed} (h : RowE w B g cap l) : ∃ fp, R_E1 fp w [.slice (some ⟨g, 0, none⟩) l.length cap] l ∧ Own fp w ∧ ∀ b ∈ fp, B ≤ b := by
  obtain ⟨fp, h1, h2, h3, -⟩ := Flat.ofOwns h
  exact ⟨fp, ⟨_, rfl, h1⟩, h2, h3⟩
theorem row_S2 {w : World} {B : Nat} {v : Value} {xs : List (List UInt8)} (h : w.ownsRow B 9 1 v xs.length (xs.map es)) : ∃ fp, R_S1 fp w [v] xs ∧ Own fp w ∧ ∀ b ∈ fp, B ≤ b := by
  obtain ⟨fp, h1, h2, h3, -⟩ := Flat.ofOwns h
  exact ⟨fp, ⟨v, rfl, by rw [flatMap_single]; exact h1⟩, h2, h3⟩

/-- a system in new memory, as a value. -/
def SysD (S : Sys) (w : World) (e : Ending) (w' : World) : Prop :=
  (∃ (v1 v2 : Value) (f1 f2 : List Nat), e = .returned (.agg #[ei S.st, ei S.ini, v1, v2]) ∧ R_S1 f1 w' [v1] S.labs ∧ R_E1 f2 w' [v2] S.eds ∧ Own f1 w' ∧ Own f2 w' ∧ (∀ b ∈ f1, w.heap.size ≤ b) ∧ (∀ b ∈ f2, w.heap.size ≤ b) ∧ ∀ b ∈ f1, b ∉ f2)

/-- the system under way: its block O, its labels, its edges in a row. -/
structure MkSt (O : Nat) (st ini : Int) (vL : Value) (fL : List Nat) (L : List (List UInt8)) (M : List Ed) (g cap : Nat) (w wr : World) : Prop where
  c0 : wr.cell? ⟨O, 0, none⟩ = some (ei st)
  c1 : wr.cell? ⟨O, 1, none⟩ = some (ei ini)
  c2 : wr.cell? ⟨O, 2, none⟩ = some vL
  c3 : wr.cell? ⟨O, 3, none⟩ = some (.slice (some ⟨g, 0, none⟩) M.length cap)
  own : Own [O] wr
  labs : R_S1 fL wr [vL] L
  ownL : Own fL wr
  row : RowE wr (O - 1) g cap M
  ne : g ≠ O
  upd : Upd [] w wr
  res : RowAt wr w.heap.size 27 [ei 0, ei 0, .slice none 0 0, .slice none 0 0]
theorem MkSt.upd2 {O : Nat} {st ini : Int} {vL : Value} {fL : List Nat} {L : List (List UInt8)} {M : List Ed} {g cap : Nat} {w wr w1 : World} (h : MkSt O st ini vL fL L M g cap w wr) {f : List Nat} (hu : Upd f wr w1) (hO : O ∉ f) (hg : g ∉ f) (hL : ∀ b ∈ fL, b ∉ f) (hw : ∀ b ∈ f, w.heap.size + 1 ≤ b) : MkSt O st ini vL fL L M g cap w w1 :=
  ⟨hu.keepF hO h.c0, hu.keepF hO h.c1, hu.keepF hO h.c2, hu.keepF hO h.c3, h.own.upd hu (by simpa using hO), R_S1k.upd h.labs hu hL, h.ownL.upd hu hL, h.row.far hu hg, h.ne, h.upd.fresh hu (fun b hb => Or.inl (by have := hw b hb; omega)),
    h.res.upd hu (fun hm => by have := hw _ hm; omega)⟩
/-- an edge put: the row and the field. -/
theorem MkSt.put {O : Nat} {st ini : Int} {vL : Value} {fL : List Nat} {L : List (List UInt8)} {M M' : List Ed} {g cap : Nat} {w wr w1 : World} (h : MkSt O st ini vL fL L M g cap w wr) (hw : w.heap.size + 2 ≤ O) (hfL : ∀ b ∈ fL, b + 1 < O) {g' cap' : Nat} (hr : RowE w1 (O - 1) g' cap' M') (hat : g' = g ∨ wr.heap.size ≤ g') (hu : Upd [g] wr w1) :
    MkSt O st ini vL fL L M' g' cap' w (w1.setCell ⟨O, 3, none⟩ (.slice (some ⟨g', 0, none⟩) M'.length cap')) := by
  have hg := h.row.lt
  have hOw : O < wr.heap.size := World.block_lt_of_cell? wr _ h.c0
  have hne : g' ≠ O := by
    rcases hat with h1 | h1
    · rw [h1]; exact h.ne
    · omega
  have hOn : O ∉ [g] := by simpa using fun e => h.ne e.symm
  have hL : ∀ b ∈ fL, b ∉ [g] := fun b hb hm => by have := hfL b hb; simp at hm; omega
  have hu2 : Upd [O] w1 (w1.setCell ⟨O, 3, none⟩ (.slice (some ⟨g', 0, none⟩) M'.length cap')) := (Upd.refl _ _).setCell (by simp) _
  have hL2 : ∀ b ∈ fL, b ∉ [O] := fun b hb hm => by have := hfL b hb; simp at hm; omega
  refine ⟨?_, ?_, ?_, ?_, (h.own.upd hu (by simpa using hOn)).setCell _ _, R_S1k.upd (R_S1k.upd h.labs hu hL) hu2 hL2, (h.ownL.upd hu hL).upd hu2 hL2, hr.far hu2 (by simpa using hne), hne, (h.upd.fresh hu (fun b hb => Or.inl (by simp at hb; omega))).setCell (Or.inl (by simp; omega)) _, (h.res.upd hu (by simp; omega)).upd hu2 (by simp; omega)⟩
  · rw [World.cell?_setCell_other _ _ _ _ (by simp)]; exact hu.keepF hOn h.c0
  · rw [World.cell?_setCell_other _ _ _ _ (by simp)]; exact hu.keepF hOn h.c1
  · rw [World.cell?_setCell_other _ _ _ _ (by simp)]; exact hu.keepF hOn h.c2
  · exact World.cell?_setCell_same _ _ _ (hu.keepF hOn h.c3)

theorem Lts_size : (Tryz.prog.info? 27).map (·.size) = some 4 := by kernel_rfl

set_option maxRecDepth 20000 in
set_option maxHeartbeats 8000000 in
theorem makeD (st ini : Int) (L : List (List UInt8)) (E : List Ed) (hN : NamL L) (hlb : ∀ e ∈ E, 0 ≤ e.lb ∧ e.lb < L.length) (hE : E.length ≤ 300) (v2 v3 : Value) (f2 f3 : List Nat) (w : World) (h2 : R_S1 f2 w [v2] L) (h3 : R_E1 f3 w [v3] E) :
    Calls Tryz.prog 29 #[ei st, ei ini, v2, v3] w fun e w' => SysD ⟨st, ini, L, E.foldl putE []⟩ w e w' ∧ Upd [] w w' := by
  obtain ⟨a2, cp2, rfl, l21, l22, hc2⟩ := slF1_open h2
  obtain ⟨a3, cp3, rfl, l31, l32, hc3⟩ := slF3_open h3
  unfold maxLen at l22 l32
  have hlen := hN.len
  have HC2 := Lib.hid hc2
  have HC3 := Lib.hid hc3
  have HLB := Lib.hid (fun i (hi : i < E.length) => hlb E[i] (List.getElem_mem hi))
  have HFD := Lib.hid (fun k (hk : k < L.length) => show placeS L[k] L = k from placeS_at k hk (fun j hj hjl => hN.ne hj hk) rfl)
  have HJ := Lib.hid (fun W (hu : Upd [] w W) => joinD L hN _ f2 W (R_S1k.upd h2 hu (by simp)))
  clear hN hlb h2 h3 hc2 hc3
  go_enter Tryz.func29, Tryz.ntmps29
  go_wp2_with fail
  refine (HJ.out _ ((Upd.refl _ _).alloc _)).mono ?_
  rintro _ w1 ⟨⟨gL, cL, rfl, hL⟩, hu1⟩
  have hs1 := hu1.size
  simp at hs1
  obtain ⟨fL, hfL, hoL, hbL⟩ := row_S2 hL
  have hltL := R_S1k.lt hfL
  have H0 := Lib.hid (show ∀ T1 T2 : TypeId, T1 = 63 → MkSt (w1.heap.size + 1) st ini (.slice (some ⟨gL, 0, none⟩) L.length cL) fL L [] w1.heap.size 0 w ((w1.alloc (.cells #[] T1)).alloc (.cells #[ei st, ei ini, .slice (some ⟨gL, 0, none⟩) L.length cL, .slice (some ⟨w1.heap.size, 0, none⟩) 0 0] T2)) from fun T1 T2 hT => by
    subst hT
    have u : Upd [] w1 ((w1.alloc (.cells #[] 63)).alloc (.cells #[ei st, ei ini, .slice (some ⟨gL, 0, none⟩) L.length cL, .slice (some ⟨w1.heap.size, 0, none⟩) 0 0] T2)) := ((Upd.refl _ _).alloc _).alloc _
    have ho := own_new (w1.alloc (.cells #[] 63)) #[ei st, ei ini, .slice (some ⟨gL, 0, none⟩) L.length cL, .slice (some ⟨w1.heap.size, 0, none⟩) 0 0] T2
    refine ⟨cell_new (w1.alloc _) _ _ _ (by simp) 0 _ rfl, cell_new (w1.alloc _) _ _ _ (by simp) 1 _ rfl, cell_new (w1.alloc _) _ _ _ (by simp) 2 _ rfl, cell_new (w1.alloc _) _ _ _ (by simp) 3 _ rfl, by simpa using ho, R_S1k.upd hfL u (by simp), hoL.upd u (by simp), ?_, by omega, ((((Upd.refl [] w).alloc _).trans hu1).alloc _).alloc _,
      ((RowAt.new w 27 [ei 0, ei 0, .slice none 0 0, .slice none 0 0]).upd hu1 (by simp)).upd u (by simp)⟩
    have hr := World.ownsRow_lit (base := w1.heap.size) (e := 63) (size := 3) w1 #[] 0 (Nat.le_refl _) (by simp [maxLen]) (by simp)
    exact ownsRow_upd (by simpa [eR] using hr) ((Upd.refl _ _).alloc _))
  have hfO : ∀ b ∈ fL, b + 1 < w1.heap.size + 1 := fun b hb => by have := hltL b hb; omega
  have hfW : ∀ b ∈ fL, w.heap.size + 1 ≤ b := fun b hb => by have := hbL b hb; simpa using this
  have HF9 := Lib.hid (And.intro hfO hfW)
  clear hL hfL hoL HJ hbL hltL hfO hfW
  go_wp2_with fail
  go_loopw [10] (fun iv wr => ∃ (i g cap : Nat), i ≤ E.length ∧ iv = .int .i64 i ∧ Hid (MkSt (w1.heap.size + 1) st ini (.slice (some ⟨gL, 0, none⟩) L.length cL) fL L ((E.take i).foldl putE []) g cap w wr)) (fun iv _ => E.length - (intOf iv).toNat)
  case atStart => exact ⟨0, _, _, Nat.zero_le _, rfl, Lib.hid (H0.out _ _ rfl)⟩
  case round =>
    clear H0
    obtain ⟨wp, rfl⟩ : ∃ wp : World, wp = wr := ⟨_, rfl⟩
    obtain ⟨i, g, cap, hi, rfl, HS⟩ := hrel
    by_cases hlt : i < E.length
    · obtain ⟨b3, o3, rfl, -, -, e1, e2, e3⟩ := HC3.out i hlt
      obtain ⟨k, hk⟩ : ∃ k : Nat, E[i].lb = k := ⟨E[i].lb.toNat, by have := (HLB.out i hlt).1; omega⟩
      have hkl : k < L.length := by have := (HLB.out i hlt).2; omega
      obtain ⟨b2, o2, rfl, -, -, d2⟩ := HC2.out k hkl
      have e1 := HS.out.upd.keep e1
      have e2 := HS.out.upd.keep e2
      have e3 := HS.out.upd.keep e3
      have d2 := HS.out.upd.keep d2
      have HTK := Lib.hid (show (E.take (i + 1)).foldl putE [] = putE ((E.take i).foldl putE []) E[i] from by rw [List.take_succ_eq_append_getElem hlt, List.foldl_append]; rfl)
      have HML := Lib.hid (show ((E.take i).foldl putE []).length ≤ 1000 from by
        have := (puts_facts (E.take i) [] (fun _ => True) List.Pairwise.nil (by simp) (by simp)).2.2
        simp only [List.length_nil, Nat.zero_add, List.length_take] at this
        omega)
      have hF := HFD.out k hkl
      rw [hk] at e2
      have HXK := Lib.hid (show E[i] = ⟨E[i].fr, k, E[i].to⟩ from by rw [← hk])
      rw [HXK.out] at HTK
      generalize E[i].fr = x1 at *
      generalize E[i].to = x3 at *
      generalize (E.take i).foldl putE [] = M at *
      have HB := Lib.hid (show ∀ T, ∃ wB, wp.alloc (.cells #[ei x1, ei (k : Int), ei x3] T) = wB ∧ Upd [] wp wB ∧ Own [wp.heap.size] wB ∧ wB.cell? ⟨wp.heap.size, 0, none⟩ = some (ei x1) ∧ wB.cell? ⟨wp.heap.size, 1, none⟩ = some (ei (k : Int)) ∧ wB.cell? ⟨wp.heap.size, 2, none⟩ = some (ei x3) from fun T =>
        ⟨_, rfl, (Upd.refl _ _).alloc _, own_new _ _ _, cell_new _ _ _ _ rfl 0 _ rfl, cell_new _ _ _ _ rfl 1 _ rfl, cell_new _ _ _ _ rfl 2 _ rfl⟩)
      clear hk HXK
      go_upto_region 6 with (fail)
      obtain ⟨wB, hwB, uB, oB, x0c, x1c, x2c⟩ := HB.out _
      rw [hwB]
      have hSB := HS.out.upd2 uB (by simp) (by simp) (by simp) (by simp)
      have e2' := uB.keep e2
      have d2' : wB.drew.cell? ⟨b2, o2 + k, none⟩ = some (es L[k]) := uB.keep d2
      have y1 : wB.drew.cell? ⟨wp.heap.size, 1, none⟩ = some (ei (k : Int)) := x1c
      have y2 : wB.drew.cell? ⟨w1.heap.size + 1, 2, none⟩ = some (.slice (some ⟨gL, 0, none⟩) L.length cL) := hSB.c2
      have y3 : wB.drew.frozen? ⟨wp.heap.size, 1, none⟩ = false := oB.frozen (by simp) _
      have hszO : w1.heap.size + 1 < wp.heap.size := World.block_lt_of_cell? wp _ HS.out.c0
      have hwo : w.heap.size ≤ wp.heap.size := HS.out.upd.size
      have F1 := Lib.hid (findS (.slice (some ⟨gL, 0, none⟩) L.length cL) L L[k] wB.drew fL hSB.labs)
      rw [hF] at F1
      obtain ⟨wC, hwC⟩ : ∃ wC, (wB.setCell ⟨wp.heap.size, 1, none⟩ (ei (k : Int))).drew = wC := ⟨_, rfl⟩
      have HSC := Lib.hid (show MkSt (w1.heap.size + 1) st ini (.slice (some ⟨gL, 0, none⟩) L.length cL) fL L M g cap w wC from by
        rw [← hwC]
        refine hSB.upd2 (f := [wp.heap.size]) (((Upd.refl _ _).setCell (by simp) _).drew) ?_ ?_ ?_ ?_
        · simp; omega
        · have := HS.out.row.lt.2; simp; omega
        · intro b hb hm; have := HF9.out.1 b hb; simp at hm; omega
        · intro b hb; have := hs1; have hz := HS.out.upd.size; simp at hb; omega)
      have z0 : wC.cell? ⟨wp.heap.size, 0, none⟩ = some (ei x1) := by rw [← hwC]; exact (World.cell?_setCell_other _ _ _ _ (by simp)).trans x0c
      have z1 : wC.cell? ⟨wp.heap.size, 1, none⟩ = some (ei (k : Int)) := by rw [← hwC]; exact World.cell?_setCell_same _ _ _ x1c
      have z2 : wC.cell? ⟨wp.heap.size, 2, none⟩ = some (ei x3) := by rw [← hwC]; exact (World.cell?_setCell_other _ _ _ _ (by simp)).trans x2c
      have HWC := Lib.hid hwC
      have HZ := Lib.hid (And.intro z0 (And.intro z1 z2))
      generalize L[k] = txt at *
      clear hwB hSB e1 e2 e3 d2 uB oB x0c x2c hwC z0 z1 z2 HS HB hF
      go_region_law ((refine step_call (by rfl) 52 #[.slice (some ⟨gL, 0, none⟩) L.length cL, es txt] (by go_simp) ?_; refine F1.out.mono ?_; rintro e w9 ⟨rfl, rfl⟩; refine ⟨_, rfl, ?_⟩))
      all_goals
        try rw [HWC.out]
        clear F1 d2' e2' y1 y2 y3 x1c HWC
        have c3 := HSC.out.c3
        obtain ⟨z0, z1, z2⟩ := HZ.out
        have P1 := Lib.hid (putD M ⟨x1, k, x3⟩ _ g cap wC HSC.out.row HML.out)
        clear HZ HML
        go_wp2_with fail
        refine P1.out.mono ?_
        rintro _ w2 ⟨g', cap', rfl, hr, hat, hu⟩
        have hOn : w1.heap.size + 1 ∉ [g] := by have := HSC.out.ne; simp; omega
        have c3' := hu.keepF hOn c3
        have cf := (HSC.out.own.upd hu (by simpa using hOn)).frozen (List.mem_singleton.2 rfl) 3
        have HP := Lib.hid (HSC.out.put (by omega) HF9.out.1 hr hat hu)
        clear P1 hr hat hu hOn c3 z0 z1 z2 HSC
        go_wp2_with fail
        go_roundw
        case rel => exact ⟨i + 1, g', cap', by omega, by go_num, Lib.hid (by rw [HTK.out]; exact HP.out)⟩
        case measure => simp [intOf]; omega
    · have hge : ¬ (i : Int) < (E.length : Int) := by omega
      have HTK := Lib.hid (show (E.take i).foldl putE [] = E.foldl putE [] from by rw [List.take_of_length_le (by omega)])
      rw [HTK.out] at HS
      obtain ⟨M, hM⟩ : ∃ M, E.foldl putE [] = M := ⟨_, rfl⟩
      rw [hM] at HS
      have HMM := Lib.hid hM
      clear hM
      have c0 := HS.out.c0
      have c1 := HS.out.c1
      have c2 := HS.out.c2
      have c3 := HS.out.c3
      have hres := HS.out.res
      unfold RowAt at hres
      clear HTK
      go_wp2_with (first
        | (refine wpList_store_row rfl 27 _ _ rfl w.heap.size #[ei st, ei ini, .slice (some ⟨gL, 0, none⟩) L.length cL, .slice (some ⟨g, 0, none⟩) M.length cap] rfl rfl 27 _ hres Lts_size rfl (by simp [Value.oneCell']) ?_)
        | fail)
      have hC := setRow_heap wp w.heap.size _ #[ei st, ei ini, .slice (some ⟨gL, 0, none⟩) L.length cL, .slice (some ⟨g, 0, none⟩) M.length cap] _ _ hres
      refine bodyPost_ret (results_cell_row Tryz.results29 _ _ w.heap.size 27 _ (0, 0) _ rfl hC Tryz.underlying27 rfl Lts_size) rfl ?_
      have hRO : w.heap.size < w1.heap.size + 1 := by omega
      have DB : Upd [w.heap.size] wp (wp.setRow w.heap.size #[ei st, ei ini, .slice (some ⟨gL, 0, none⟩) L.length cL, .slice (some ⟨g, 0, none⟩) M.length cap]) := (Upd.refl _ _).row (Or.inr (by simp)) _
      have UE : Upd [] w (wp.setRow w.heap.size #[ei st, ei ini, .slice (some ⟨gL, 0, none⟩) L.length cL, .slice (some ⟨g, 0, none⟩) M.length cap]) := HS.out.upd.row (Or.inl (by omega)) _
      obtain ⟨fE, g1, g2, g3⟩ := row_E1 HS.out.row
      have dL : ∀ b ∈ fL, b ∉ [w.heap.size] := fun b hb hm => by have := HF9.out.2 b hb; simp at hm; omega
      have dE : ∀ b ∈ fE, b ∉ [w.heap.size] := fun b hb hm => by have := g3 b hb; simp at hm; omega
      exact ⟨⟨_, _, fL, fE, rfl, R_S1k.upd HS.out.labs DB dL, R_E1k.upd (x := E.foldl putE []) (by rw [HMM.out]; exact g1) DB dE, HS.out.ownL.upd DB dL, g2.upd DB dE, fun b hb => by have := HF9.out.2 b hb; omega, fun b hb => by have := g3 b hb; omega, fun b hb hm => by
        have h1 := HF9.out.1 b hb
        have h2 := g3 b hm
        omega⟩, UE⟩

end Go.Proofs.YtdnjjanacbkijaaGreatDoor

/-
  Systems drawn: the walk of l11DrawOk.
-/
namespace Go.Proofs.YtdnjjanacbkijaaGreatDoor
open Go.RowKit

/-- what a drawn system is. -/
structure DrSys (S : Sys) : Prop where
  st0 : 1 ≤ S.st
  st1 : S.st ≤ 6
  in0 : 0 ≤ S.ini
  in1 : S.ini < S.st
  labs : NamL S.labs
  sorted : S.eds.Pairwise fun a b => edLt a b = true
  each : ∀ e ∈ S.eds, (0 ≤ e.fr ∧ e.fr < S.st) ∧ (0 ≤ e.to ∧ e.to < S.st) ∧ 0 ≤ e.lb ∧ e.lb < S.labs.length
  len : S.eds.length ≤ 60
def DrOut (N p : Nat) (w : World) (e : Ending) (w' : World) : Prop := (∃ S, SysD S w e w' ∧ DrSys S) ∧ IsSrc N p w' ∧ Upd [p] w w'

/-- a row of numbers in a block. -/
def RowI (w : World) (B g cap : Nat) (l : List Int) : Prop := w.ownsRow B 2 1 (.slice (some ⟨g, 0, none⟩) l.length cap) l.length (l.map ei)
theorem RowI.far {w w1 : World} {B g cap : Nat} {l : List Int} (h : RowI w B g cap l) {f : List Nat} (hu : Upd f w w1) (hg : g ∉ f) : RowI w1 B g cap l :=
  ownsRow_keep h (fun b hb => by
    obtain rfl : g = b := by simpa [Value.ownBlock] using hb
    exact hu.block g (World.ownsRow.lt h g rfl).2 hg)
theorem RowI.lt {w : World} {B g cap : Nat} {l : List Int} (h : RowI w B g cap l) : B ≤ g ∧ g < w.heap.size := World.ownsRow.lt h g rfl
theorem RowI.cap {w : World} {B g cap : Nat} {l : List Int} (h : RowI w B g cap l) : l.length ≤ cap ∧ cap ≤ 9223372036854775807 := by
  rcases h.2 with ⟨h0, -⟩ | ⟨g', cap', cur, hv, -, -, h3, h4, -⟩
  · cases h0
  · cases hv; unfold maxLen at h4; exact ⟨h3, by omega⟩
theorem RowI.read {w : World} {B g cap : Nat} {l : List Int} (h : RowI w B g cap l) : ∃ fp, R1 fp w [.slice (some ⟨g, 0, none⟩) l.length cap] l ∧ (∀ b ∈ fp, b = g) := by
  obtain ⟨fp, h1, -, h3, h4⟩ := Flat.ofOwns h
  refine ⟨fp, ⟨_, rfl, by rw [flatMap_single]; exact h1⟩, fun b hb => ?_⟩
  have := h4 b hb
  simpa [Value.ownBlock, eq_comm] using this
theorem RowI.cell {w : World} {B g cap : Nat} {l : List Int} (h : RowI w B g cap l) {i : Nat} (hi : i < l.length) : w.cell? ⟨g, i, none⟩ = some (ei l[i]) :=
  (World.ownsRow.cellAt h i (by omega)).trans (by rw [List.getElem?_map, List.getElem?_eq_getElem hi]; rfl)
theorem RowI.cell2 {w : World} {B g cap : Nat} {l : List Int} (h : RowI w B g cap l) {i : Nat} {x : Int} (hi : l[i]? = some x) : w.cell? ⟨g, i, none⟩ = some (ei x) := by
  obtain ⟨h1, h2⟩ := List.getElem?_eq_some_iff.1 hi
  rw [h.cell h1, h2]
theorem RowI.lit (w : World) : RowI (w.alloc (.cells #[] 2)) w.heap.size w.heap.size 0 [] := by
  have := World.ownsRow_lit (base := w.heap.size) (e := 2) (size := 1) w #[] 0 (Nat.le_refl _) (by simp [maxLen]) (by simp)
  simpa [RowI] using this
theorem RowE.lit (w : World) : RowE (w.alloc (.cells #[] 63)) w.heap.size w.heap.size 0 [] := by
  have := World.ownsRow_lit (base := w.heap.size) (e := 63) (size := 3) w #[] 0 (Nat.le_refl _) (by simp [maxLen]) (by simp)
  simpa [RowE, eR] using this

/-- kinds of states: the first ones of the base are their own. -/
structure KdSt (base : Nat) (Ks : List Int) : Prop where
  rng : ∀ x ∈ Ks, 0 ≤ x ∧ x < base
  own : ∀ j (h : j < Ks.length), j < base → Ks[j] = j
theorem KdSt.push {base : Nat} {Ks : List Int} (h : KdSt base Ks) {x : Int} (h0 : 0 ≤ x) (h1 : x < base) (h2 : Ks.length < base → x = Ks.length) : KdSt base (Ks ++ [x]) := by
  refine ⟨fun y hy => ?_, fun j hj hb => ?_⟩
  · rcases List.mem_append.1 hy with hy | hy
    · exact h.rng y hy
    · simp at hy; subst hy; exact ⟨h0, h1⟩
  · rw [List.length_append, List.length_singleton] at hj
    by_cases hjl : j < Ks.length
    · rw [List.getElem_append_left hjl]; exact h.own j hjl hb
    · obtain rfl : j = Ks.length := by omega
      rw [List.getElem_append_right (Nat.le_refl _)]
      simp only [Nat.sub_self, List.getElem_cons_zero]
      exact h2 hb

/-- the state while systems are drawn: the result's cells, labels, the source; B: all these lie before. -/
structure DkSt (N p B : Nat) (vL : Value) (L : List (List UInt8)) (w wr : World) : Prop where
  res : RowAt wr w.heap.size 27 [ei 0, ei 0, .slice none 0 0, .slice none 0 0]
  labs : ∃ fL, R_S1 fL wr [vL] L ∧ ∀ b ∈ fL, w.heap.size < b ∧ b < B
  src : IsSrc N p wr
  upd : Upd [p] w wr
  lt : p < w.heap.size
  big : w.heap.size < B
  size : B ≤ wr.heap.size
theorem DkSt.call {N N' p B : Nat} {vL : Value} {L : List (List UInt8)} {w wr w1 : World} (h : DkSt N p B vL L w wr) (hs : IsSrc N' p w1) (hu : Upd [p] wr w1) : DkSt N' p B vL L w w1 := by
  obtain ⟨fL, h1, h2⟩ := h.labs
  have := h.lt
  exact ⟨h.res.upd hu (by simp; omega), ⟨fL, R_S1k.upd h1 hu (fun b hb hm => by have := (h2 b hb).1; simp at hm; omega), h2⟩, hs, h.upd.trans hu, h.lt, h.big, Nat.le_trans h.size hu.size⟩
theorem DkSt.other {N p B : Nat} {vL : Value} {L : List (List UInt8)} {w wr w1 : World} (h : DkSt N p B vL L w wr) {f : List Nat} (hu : Upd f wr w1) (hf : ∀ b ∈ f, B ≤ b) : DkSt N p B vL L w w1 := by
  obtain ⟨fL, h1, h2⟩ := h.labs
  have h9 := h.lt
  have h8 := h.big
  exact ⟨h.res.upd hu (fun hm => by have := hf _ hm; omega), ⟨fL, R_S1k.upd h1 hu (fun b hb hm => by have := (h2 b hb).2; have := hf b hm; omega), h2⟩, h.src.other hu (fun b hb => by have := hf b hb; omega), h.upd.fresh hu (fun b hb => Or.inl (by have := hf b hb; omega)), h.lt, h.big, Nat.le_trans h.size hu.size⟩
theorem DkSt.mono {N N' p B : Nat} {vL : Value} {L : List (List UInt8)} {w wr : World} (h : DkSt N p B vL L w wr) (hN : N ≤ N') : DkSt N' p B vL L w wr := ⟨h.res, h.labs, h.src.mono hN, h.upd, h.lt, h.big, h.size⟩

/-- a number appended to a row of numbers behind all else. -/
theorem RowI.grow {w w4 : World} {B g cap : Nat} {l : List Int} (h : RowI w B g cap l) {x : Int} {cs : Array Value} {T : TypeId} {g4 c4 : Nat}
    (hown : w4.ownsRow B 2 1 (.slice (some ⟨g4, 0, none⟩) (l.length + 1) c4) (l.length + 1) (l.map ei ++ [ei x])) (hg : (w.alloc (.cells cs T)).grownBy w4 (some g)) : RowI w4 B g4 c4 (l ++ [x]) ∧ Upd [g] w w4 := by
  refine ⟨?_, ((Upd.refl [g] w).alloc _).grown hg (fun b hb => Or.inr (by simpa using hb.symm))⟩
  unfold RowI
  rw [List.length_append, List.length_singleton, List.map_append]
  exact hown

theorem RowE.grow {w w4 : World} {B g cap : Nat} {l : List Ed} (_h : RowE w B g cap l) {x : Ed} {cs : Array Value} {T : TypeId} {g4 c4 : Nat}
    (hown : w4.ownsRow B 63 3 (.slice (some ⟨g4, 0, none⟩) (l.length + 1) c4) (l.length + 1) (eR l ++ [ei x.fr, ei x.lb, ei x.to])) (hg : (w.alloc (.cells cs T)).grownBy w4 (some g)) : RowE w4 B g4 c4 (l ++ [x]) ∧ Upd [g] w w4 := by
  refine ⟨?_, ((Upd.refl [g] w).alloc _).grown hg (fun b hb => Or.inr (by simpa using hb.symm))⟩
  unfold RowE
  rw [List.length_append, List.length_singleton, eR_app]
  exact hown
theorem DkSt.raise {N p B B' : Nat} {vL : Value} {L : List (List UInt8)} {w wr : World} (h : DkSt N p B vL L w wr) (hB : B ≤ B') (hw : B' ≤ wr.heap.size) : DkSt N p B' vL L w wr := by
  obtain ⟨fL, h1, h2⟩ := h.labs
  exact ⟨h.res, ⟨fL, h1, fun b hb => ⟨(h2 b hb).1, by have := (h2 b hb).2; omega⟩⟩, h.src, h.upd, h.lt, by have := h.big; omega, hw⟩

/-- an edge of a system with so many states and labels. -/
def EdIn (M nl : Nat) (e : Ed) : Prop := (0 ≤ e.fr ∧ e.fr < M) ∧ (0 ≤ e.to ∧ e.to < M) ∧ 0 ≤ e.lb ∧ e.lb < nl
/-- the state while edges are drawn. -/
structure EkSt (N p B BK gk ck : Nat) (Ks : List Int) (M : Nat) (vL : Value) (L : List (List UInt8)) (E : List Ed) (g cap : Nat) (w wr : World) : Prop where
  dk : DkSt N p B vL L w wr
  ks : RowI wr BK gk ck Ks
  gk : gk < B
  gp : p < BK
  row : RowE wr B g cap E
  each : ∀ e ∈ E, EdIn M L.length e
theorem EkSt.call {N N' p B BK gk ck : Nat} {Ks : List Int} {M : Nat} {vL : Value} {L : List (List UInt8)} {E : List Ed} {g cap : Nat} {w wr w1 : World} (h : EkSt N p B BK gk ck Ks M vL L E g cap w wr) (hs : IsSrc N' p w1) (hu : Upd [p] wr w1) : EkSt N' p B BK gk ck Ks M vL L E g cap w w1 := by
  have h1 := h.ks.lt.1
  have h2 := h.row.lt.1
  have h3 := h.gk
  have h4 := h.gp
  exact ⟨h.dk.call hs hu, h.ks.far hu (by simp; omega), h.gk, h.gp, h.row.far hu (by simp; omega), h.each⟩
theorem EkSt.other {N p B BK gk ck : Nat} {Ks : List Int} {M : Nat} {vL : Value} {L : List (List UInt8)} {E : List Ed} {g cap : Nat} {w wr w1 : World} (h : EkSt N p B BK gk ck Ks M vL L E g cap w wr) {f : List Nat} (hu : Upd f wr w1) (hf : ∀ b ∈ f, B ≤ b) (hg : g ∉ f) : EkSt N p B BK gk ck Ks M vL L E g cap w w1 :=
  ⟨h.dk.other hu hf, h.ks.far hu (fun hm => by have := hf _ hm; have := h.gk; omega), h.gk, h.gp, h.row.far hu hg, h.each⟩
theorem EkSt.push {N p B BK gk ck : Nat} {Ks : List Int} {M : Nat} {vL : Value} {L : List (List UInt8)} {E : List Ed} {g cap : Nat} {w wr w4 : World} (h : EkSt N p B BK gk ck Ks M vL L E g cap w wr) {x : Ed} (hx : EdIn M L.length x) {g4 c4 : Nat} (hr : RowE w4 B g4 c4 (E ++ [x])) (hu : Upd [g] wr w4) : EkSt N p B BK gk ck Ks M vL L (E ++ [x]) g4 c4 w w4 :=
  ⟨h.dk.other hu (fun b hb => by have := h.row.lt.1; simp at hb; omega), h.ks.far hu (by have := h.row.lt.1; have := h.gk; simp; omega), h.gk, h.gp, hr, fun e he => by
    rcases List.mem_append.1 he with he | he
    · exact h.each e he
    · simp at he; rw [he]; exact hx⟩
theorem EkSt.mono {N N' p B BK gk ck : Nat} {Ks : List Int} {M : Nat} {vL : Value} {L : List (List UInt8)} {E : List Ed} {g cap : Nat} {w wr : World} (h : EkSt N p B BK gk ck Ks M vL L E g cap w wr) (hN : N ≤ N') : EkSt N' p B BK gk ck Ks M vL L E g cap w wr := ⟨h.dk.mono hN, h.ks, h.gk, h.gp, h.row, h.each⟩

theorem DrSys.of {M nl : Nat} {ini : Int} {L : List (List UInt8)} {E : List Ed} (hN : NamL L) (hM : 1 ≤ M ∧ M ≤ 6) (hi : 0 ≤ ini ∧ ini < M) (hE : E.length ≤ 60) (hn : nl = L.length) (h : ∀ e ∈ E, EdIn M nl e) : DrSys ⟨M, ini, L, E.foldl putE []⟩ := by
  obtain ⟨h1, h2, h3⟩ := puts_facts E [] (EdIn M nl) List.Pairwise.nil (by simp) h
  subst hn
  exact ⟨by simp only; omega, by simp only; omega, hi.1, hi.2, hN, h1, h2, by simp at h3; simp only; omega⟩
/-- the made system stored into the result's cells. -/
theorem DrOut.of {N p : Nat} {w W W' : World} {S : Sys} {v1 v2 : Value} {f1 f2 : List Nat} (hp : p < w.heap.size) (hs : IsSrc N p W) (hu : Upd [p] w W) (hw : w.heap.size < W.heap.size) (hu2 : Upd [] W W')
    (h1 : R_S1 f1 W' [v1] S.labs) (h2 : R_E1 f2 W' [v2] S.eds) (o1 : Own f1 W') (o2 : Own f2 W') (b1 : ∀ b ∈ f1, W.heap.size ≤ b) (b2 : ∀ b ∈ f2, W.heap.size ≤ b) (hd : ∀ b ∈ f1, b ∉ f2) (hS : DrSys S) (cs : Array Value) :
    DrOut N p w (.returned (.agg #[ei S.st, ei S.ini, v1, v2])) (W'.setRow w.heap.size cs) := by
  have DB : Upd [w.heap.size] W' (W'.setRow w.heap.size cs) := (Upd.refl _ _).row (Or.inr (by simp)) _
  have d1 : ∀ b ∈ f1, b ∉ [w.heap.size] := fun b hb hm => by have := b1 b hb; simp at hm; omega
  have d2 : ∀ b ∈ f2, b ∉ [w.heap.size] := fun b hb hm => by have := b2 b hb; simp at hm; omega
  exact ⟨⟨S, ⟨_, _, f1, f2, rfl, R_S1k.upd h1 DB d1, R_E1k.upd h2 DB d2, o1.upd DB d1, o2.upd DB d2, fun b hb => by have := b1 b hb; omega, fun b hb => by have := b2 b hb; omega, hd⟩, hS⟩,
    (hs.upd hu2).other DB (fun b hb => by simp at hb; omega), (hu.trans (hu2.mono (by simp))).fresh DB (fun b hb => Or.inl (by simp at hb; omega))⟩

set_option maxRecDepth 20000 in
set_option maxHeartbeats 8000000 in
theorem drawLts (N p : Nat) (w : World) (hN : N ≤ 500000) (h : IsSrc N p w) : Calls Tryz.prog 26 #[.pointer (some ⟨p, 0, none⟩)] w (DrOut (N + 1000) p w) := by
  obtain ⟨i1, ki, kz0, kz1, kz2⟩ := info_parts Tryz.info2
  obtain ⟨i3, ni, nz0, nz1, nz2⟩ := info_parts Tryz.infoEd
  have hpl := h.lt
  have HW0 := Lib.hid (show ∀ W, w.alloc (.cells #[ei 0, ei 0, .slice none 0 0, .slice none 0 0] 27) = W → IsSrc N p W ∧ Upd [] w W ∧ RowAt W w.heap.size 27 [ei 0, ei 0, .slice none 0 0, .slice none 0 0] ∧ W.heap.size = w.heap.size + 1 from fun W hW => by
    subst hW
    exact ⟨h.upd ((Upd.refl _ _).alloc _), (Upd.refl _ _).alloc _, RowAt.new w 27 [ei 0, ei 0, .slice none 0 0, .slice none 0 0], by simp⟩)
  clear h
  go_enter Tryz.func26, Tryz.ntmps26
  go_upto_region 1 with (fail)
  obtain ⟨wA, hwA⟩ : ∃ wA, w.alloc (.cells #[.int .i64 0, .int .i64 0, .slice none 0 0, .slice none 0 0] 27) = wA := ⟨_, rfl⟩
  rw [hwA]
  obtain ⟨hsA, huA, hrA, hzA⟩ := HW0.out wA hwA
  clear hwA HW0
  have S1 := Lib.hid (srcPick N p 4 wA (by omega) hsA (by omega) (by omega))
  have HA := Lib.hid (And.intro huA hrA)
  have HZA := Lib.hid hzA
  clear hsA huA hrA hzA
  go_wp2_with fail
  refine S1.out.mono ?_
  rintro _ wB ⟨⟨x, rfl, hx0, hx1⟩, hs1, hu1⟩
  obtain ⟨base, hb⟩ : ∃ b : Nat, (1 : Int) + x = b := ⟨(1 + x).toNat, by omega⟩
  have hb14 : 1 ≤ base ∧ base ≤ 4 := by omega
  obtain rfl : x = (base : Int) - 1 := by omega
  have hb1 : (1 : Int) + ((base : Int) - 1) = (base : Int) := by omega
  have S2 := Lib.hid (srcPick (N + 2) p (7 - (base : Int)) wB (by omega) hs1 (by omega) (by omega))
  have HU1 := Lib.hid hu1
  clear hs1 hu1 S1 hx0 hx1 hb
  go_wp2_with fail
  refine S2.out.mono ?_
  rintro _ wC ⟨⟨y, rfl, hy0, hy1⟩, hs2, hu2⟩
  obtain ⟨M, hM⟩ : ∃ m : Nat, (base : Int) + y = m := ⟨(base + y).toNat, by omega⟩
  have hM6 : base ≤ M ∧ M ≤ 6 := by omega
  obtain rfl : y = (M : Int) - base := by omega
  have hM1 : (base : Int) + ((M : Int) - base) = (M : Int) := by omega
  have S3 := Lib.hid (namesD (N + 2 + 2) p wC (by omega) hs2)
  have HU2 := Lib.hid (HU1.out.trans hu2)
  clear hs2 hu2 S2 hy0 hy1 hM HU1
  go_wp2_with fail
  refine S3.out.mono ?_
  rintro _ wD ⟨⟨gL, cL, L, rfl, hNL, hL⟩, hs3, hu3⟩
  have HD := Lib.hid (show DkSt (N + 24) p wD.heap.size (.slice (some ⟨gL, 0, none⟩) L.length cL) L w wD from by
    obtain ⟨fL, q1, q2, q3⟩ := row_S2 hL
    have q4 := R_S1k.lt q1
    have hz := HZA.out
    have hsz := (HU2.out.trans hu3).size
    have hszC := HU2.out.size
    exact ⟨(HA.out.2.upd (HU2.out.trans hu3) (by simp; omega)), ⟨fL, q1, fun b hb => by have := q3 b hb; have := q4 b hb; omega⟩, hs3, (HA.out.1.mono (by simp)).trans (HU2.out.trans hu3), hpl, by omega, Nat.le_refl _⟩)
  have hlenL := hNL.len
  have HNL := Lib.hid hNL
  clear S3 hNL hL hs3 hu3 HU2 HA HZA
  go_wp2_with fail
  have H0 := Lib.hid (show ∀ T, T = 2 → RowI (wD.alloc (.cells #[] T)) wD.heap.size wD.heap.size 0 [] ∧ DkSt (N + 24 + 2 * 0) p wD.heap.size (.slice (some ⟨gL, 0, none⟩) L.length cL) L w (wD.alloc (.cells #[] T)) from fun T hT => by
    subst hT
    exact ⟨RowI.lit wD, HD.out.other ((Upd.refl [] _).alloc _) (by simp)⟩)
  clear HD
  go_loopw [6, 7] (fun kv iv wr => ∃ (Ks : List Int) (g cap : Nat), Ks.length ≤ M ∧ iv = .int .i64 Ks.length ∧ kv = .slice (some ⟨g, 0, none⟩) Ks.length cap ∧ Hid (KdSt base Ks) ∧ Hid (RowI wr wD.heap.size g cap Ks) ∧ Hid (DkSt (N + 24 + 2 * Ks.length) p wD.heap.size (.slice (some ⟨gL, 0, none⟩) L.length cL) L w wr)) (fun _ iv _ => M - (intOf iv).toNat)
  case atStart => exact ⟨[], _, _, Nat.zero_le _, rfl, rfl, Lib.hid ⟨by simp, fun j h => absurd h (by simp)⟩, Lib.hid (H0.out _ rfl).1, Lib.hid (H0.out _ rfl).2⟩
  case round =>
    clear H0
    obtain ⟨wo, rfl⟩ : ∃ wo : World, wo = wr := ⟨_, rfl⟩
    obtain ⟨Ks, g, cap, hk, rfl, rfl, HK, HR, HS⟩ := hrel
    have hcp := HR.out.cap
    by_cases hlt : Ks.length < M
    · have hki : (Ks.length : Int) < (M : Int) := by omega
      have hBo := HS.out.size
      by_cases hlb : Ks.length < base
      · have hbi : (Ks.length : Int) < (base : Int) := by omega
        obtain ⟨n, hn⟩ : ∃ n, Ks.length = n := ⟨_, rfl⟩
        have HG := Lib.hid (fun w4 g4 c4 cs T h1 h2 => HR.out.grow (w4 := w4) (x := (Ks.length : Int)) (g4 := g4) (c4 := c4) (cs := cs) (T := T) h1 h2)
        have hro := HR.out
        unfold RowI at hro
        obtain ⟨us, hus⟩ : ∃ us, Ks.map ei = us := ⟨_, rfl⟩
        rw [hus] at hro HG
        clear hn n hus HR
        go_wp2_with (first
          | (at_builtin; refine wpList_append_lies _ rfl _ _ 34 rfl wD.heap.size 2 i1 (.int .i64 0) 1 8 Tryz.underlying34 ki kz0 kz1 kz2 rfl (by decide) (.slice (some ⟨g, 0, none⟩) Ks.length cap) Ks.length us rfl (ownsRow_upd hro ((Upd.refl _ _).alloc _)) ⟨wo.heap.size, 0, none⟩ 1 1 [ei (Ks.length : Int)] rfl rfl (fun j u hj => by rw [addr_add]; exact cell_new wo #[ei (Ks.length : Int)] _ _ rfl _ _ (by simpa using hj)) (by simp [Value.oneCell']) (by decide) (by unfold maxLen; omega) (by omega) (by simp; omega) (wo.heap.size + 1) (by simp) ?_)
          | fail)
        intro g4 c4 w4 hown4 hg4 hat4 hlt4
        obtain ⟨hr4, hu4⟩ := HG.out w4 g4 c4 _ _ hown4 hg4
        have hgB : wD.heap.size ≤ g := (hro.lt g rfl).1
        have HR4 := Lib.hid hr4
        have HS4 := Lib.hid ((HS.out.other hu4 (fun b hb => by simp at hb; omega)).mono (show N + 24 + 2 * Ks.length ≤ N + 24 + 2 * (Ks ++ [(Ks.length : Int)]).length by rw [List.length_append, List.length_singleton]; omega))
        have HK4 := Lib.hid (HK.out.push (x := (Ks.length : Int)) (by omega) (by omega) (fun _ => rfl))
        clear hown4 hg4 hat4 hlt4 HG hro HS HK hr4 hu4
        go_wp2_with fail
        go_roundw
        case rel => exact ⟨Ks ++ [(Ks.length : Int)], g4, c4, by simp; omega, by simp, by simp, HK4, HR4, HS4⟩
        case measure => simp [intOf]; omega
      · have hbi : ¬ (Ks.length : Int) < (base : Int) := by omega
        have S4 := Lib.hid (srcPick (N + 24 + 2 * Ks.length) p (base : Int) wo (by omega) HS.out.src (by omega) (by omega))
        go_wp2_with fail
        refine S4.out.mono ?_
        rintro _ w5 ⟨⟨z, rfl, hz0, hz1⟩, hs5, hu5⟩
        have HS5 := Lib.hid (HS.out.call hs5 hu5)
        have hBo5 := HS5.out.size
        have HR5 := Lib.hid (HR.out.far hu5 (by have := HR.out.lt.1; have := HS.out.big; simp; omega))
        have HG := Lib.hid (fun w4 g4 c4 cs T h1 h2 => HR5.out.grow (w4 := w4) (x := z) (g4 := g4) (c4 := c4) (cs := cs) (T := T) h1 h2)
        have hro := HR5.out
        unfold RowI at hro
        have HK4 := Lib.hid (HK.out.push (x := z) hz0 (by omega) (fun h => absurd h (by omega)))
        obtain ⟨us, hus⟩ : ∃ us, Ks.map ei = us := ⟨_, rfl⟩
        rw [hus] at hro HG
        clear hus HR HR5 hs5 hu5 S4 HS HK hz0 hz1
        go_wp2_with (first
          | (at_builtin; refine wpList_append_lies _ rfl _ _ 34 rfl wD.heap.size 2 i1 (.int .i64 0) 1 8 Tryz.underlying34 ki kz0 kz1 kz2 rfl (by decide) (.slice (some ⟨g, 0, none⟩) Ks.length cap) Ks.length us rfl (ownsRow_upd hro ((Upd.refl _ _).alloc _)) ⟨w5.heap.size, 0, none⟩ 1 1 [ei z] rfl rfl (fun j u hj => by rw [addr_add]; exact cell_new w5 #[ei z] _ _ rfl _ _ (by simpa using hj)) (by simp [Value.oneCell']) (by decide) (by unfold maxLen; omega) (by omega) (by simp; omega) (w5.heap.size + 1) (by simp) ?_)
          | fail)
        intro g4 c4 w4 hown4 hg4 hat4 hlt4
        obtain ⟨hr4, hu4⟩ := HG.out w4 g4 c4 _ _ hown4 hg4
        have hgB : wD.heap.size ≤ g := (hro.lt g rfl).1
        have HR4 := Lib.hid hr4
        have HS4 := Lib.hid ((HS5.out.other hu4 (fun b hb => by simp at hb; omega)).mono (show N + 24 + 2 * Ks.length + 2 ≤ N + 24 + 2 * (Ks ++ [z]).length by rw [List.length_append, List.length_singleton]; omega))
        clear hown4 hg4 hat4 hlt4 HG hro HS5 hr4 hu4
        go_wp2_with fail
        go_roundw
        case rel => exact ⟨Ks ++ [z], g4, c4, by simp; omega, by simp, by simp, HK4, HR4, HS4⟩
        case measure => simp [intOf]; omega
    · have hge : ¬ (Ks.length : Int) < (M : Int) := by omega
      have hKM : Ks.length = M := by omega
      have hgk := HR.out.lt
      have HS0 := Lib.hid (show ∀ T, T = 63 → EkSt (N + 24 + 2 * 6) p wo.heap.size wD.heap.size g cap Ks M (.slice (some ⟨gL, 0, none⟩) L.length cL) L [] wo.heap.size 0 w (wo.alloc (.cells #[] T)) from fun T hT => by
        subst hT
        have hb := HS.out.big
        exact ⟨((HS.out.mono (show N + 24 + 2 * Ks.length ≤ N + 24 + 2 * 6 by omega)).raise HS.out.size (Nat.le_refl _)).other ((Upd.refl [] _).alloc _) (by simp), HR.out.far ((Upd.refl [] _).alloc _) (by simp), hgk.2, by omega, RowE.lit wo, by simp⟩)
      have HKS := Lib.hid (show ∀ j : Nat, j < M → ∃ x, Ks[j]? = some x ∧ (0 ≤ x ∧ x < base) ∧ (j < base → x = j) from fun j hj => ⟨Ks[j]'(by omega), List.getElem?_eq_getElem (by omega), HK.out.rng _ (List.getElem_mem _), fun hb => HK.out.own j (by omega) hb⟩)
      clear HR HS HK hk hlt hgk
      go_upto_region 12 with (fail)
      obtain ⟨wE, hwE⟩ : ∃ wE, wo.alloc (.cells #[] 63) = wE := ⟨_, rfl⟩
      rw [hwE]
      have HS1 := Lib.hid (hwE ▸ HS0.out 63 rfl)
      have hszE : wE.heap.size = wo.heap.size + 1 := by rw [← hwE]; simp
      have HZE := Lib.hid hszE
      clear HS0 hwE hszE
      have hmul : (2 : Int) + 2 * (base : Int) ≤ 10 := by omega
      have S5 := Lib.hid (srcPick _ p ((2 : Int) + 2 * (base : Int)) wE (by omega) HS1.out.dk.src (by omega) (by omega))
      go_wp2_with fail
      refine S5.out.mono ?_
      rintro _ wF ⟨⟨n0, rfl, hn0, hn1⟩, hs6, hu6⟩
      have HS2 := Lib.hid (HS1.out.call hs6 hu6)
      obtain ⟨n, rfl⟩ : ∃ n : Nat, n0 = n := ⟨n0.toNat, by omega⟩
      have hn9 : n ≤ 9 := by omega
      clear S5 hs6 hu6 HS1 hn0 hn1
      go_wp2_with fail
      go_loopw [8, 9] (fun ev nv wr => ∃ (m : Nat) (E : List Ed) (ge ce : Nat), m ≤ n ∧ nv = .int .i64 m ∧ ev = .slice (some ⟨ge, 0, none⟩) E.length ce ∧ Hid (E.length ≤ 6 * (n - m)) ∧ Hid (EkSt (N + 40 + 20 * (n - m)) p wo.heap.size wD.heap.size g cap Ks M (.slice (some ⟨gL, 0, none⟩) L.length cL) L E ge ce w wr)) (fun _ nv _ => (intOf nv).toNat)
      case atStart => exact ⟨n, [], _, _, Nat.le_refl _, rfl, rfl, Lib.hid (by simp), Lib.hid (HS2.out.mono (by omega))⟩
      case round =>
        clear HS2
        obtain ⟨wG, rfl⟩ : ∃ wG : World, wG = wr := ⟨_, rfl⟩
        obtain ⟨m, E, ge, ce, hm, rfl, rfl, HEL, HS⟩ := hrel
        by_cases hm0 : 0 < m
        · have hmi : (0 : Int) < (m : Int) := by omega
          have S6 := Lib.hid (srcPick _ p (base : Int) wG (by omega) HS.out.dk.src (by omega) (by omega))
          go_wp2_with fail
          refine S6.out.mono ?_
          rintro _ w1 ⟨⟨fr, rfl, hf0, hf1⟩, hs1, hu1⟩
          have HS1 := Lib.hid (HS.out.call hs1 hu1)
          have S7 := Lib.hid (srcPick _ p (L.length : Int) w1 (by omega) hs1 (by omega) (by omega))
          clear S6 hs1 hu1 HS
          go_wp2_with fail
          refine S7.out.mono ?_
          rintro _ w2 ⟨⟨lb, rfl, hl0, hl1⟩, hs2, hu2⟩
          have HS2 := Lib.hid (HS1.out.call hs2 hu2)
          have S8 := Lib.hid (srcPick _ p (base : Int) w2 (by omega) hs2 (by omega) (by omega))
          clear S7 hs2 hu2 HS1
          go_wp2_with fail
          refine S8.out.mono ?_
          rintro _ w3 ⟨⟨ty9, rfl, ht0, ht1⟩, hs3, hu3⟩
          have HS3 := Lib.hid (HS2.out.call hs3 hu3)
          obtain ⟨tz9, rfl⟩ : ∃ q : Nat, ty9 = q := ⟨ty9.toNat, by omega⟩
          have HLB := Lib.hid (show 0 ≤ lb ∧ lb < L.length from by omega)
          have HTO := Lib.hid (show tz9 < base from by omega)
          clear S8 hs3 hu3 HS2 hf0 hf1 hl0 hl1 ht0 ht1
          go_wp2_with fail
          go_loopw [8, 13] (fun ev kv wr => ∃ (k : Nat) (F : List Ed) (gf cf : Nat), k ≤ M ∧ kv = .int .i64 k ∧ ev = .slice (some ⟨gf, 0, none⟩) F.length cf ∧ Hid (F.length ≤ E.length + k) ∧ Hid (EkSt (N + 40 + 20 * (n - m) + 2 + 2 + 2 + 2 * k) p wo.heap.size wD.heap.size g cap Ks M (.slice (some ⟨gL, 0, none⟩) L.length cL) L F gf cf w wr)) (fun _ kv _ => M - (intOf kv).toNat)
          case atStart => exact ⟨0, E, ge, ce, Nat.zero_le _, rfl, rfl, Lib.hid (Nat.le_refl _), Lib.hid HS3.out⟩
          case round =>
            clear HS3
            obtain ⟨wH, rfl⟩ : ∃ wH : World, wH = wr := ⟨_, rfl⟩
            obtain ⟨k, F, gf, cf, hk, rfl, rfl, HFL, HS⟩ := hrel
            have hcf := HS.out.row.cap
            by_cases hkM : k < M
            · have hki : (k : Int) < (M : Int) := by omega
              obtain ⟨x, hx, -, -⟩ := HKS.out k hkM
              have hcx := HS.out.ks.cell2 hx
              have hkl : (k : Int) < (Ks.length : Int) := by omega
              clear hx
              by_cases hxf : x = fr
              · have hne : (x != fr) = false := by simp [hxf]
                have HA0 := Lib.hid (show ∀ T, T = 2 → RowI (wH.alloc (.cells #[] T)) wH.heap.size wH.heap.size 0 [] ∧ Upd [] wH (wH.alloc (.cells #[] T)) from fun T hT => by subst hT; exact ⟨RowI.lit wH, (Upd.refl _ _).alloc _⟩)
                clear hxf
                go_wp2_with fail
                go_loopw [14, 15] (fun av jv wr => ∃ (j : Nat) (A : List Int) (ga ca : Nat), j ≤ M ∧ jv = .int .i64 j ∧ av = .slice (some ⟨ga, 0, none⟩) A.length ca ∧ Hid (A.length ≤ j ∧ (∀ y ∈ A, 0 ≤ y ∧ y < M) ∧ (tz9 < j → 0 < A.length)) ∧ Hid (RowI wr wH.heap.size ga ca A) ∧ Hid (Upd [] wH wr)) (fun _ jv _ => M - (intOf jv).toNat)
                case atStart => exact ⟨0, [], _, _, Nat.zero_le _, rfl, rfl, Lib.hid ⟨by simp, by simp, fun h => absurd h (by omega)⟩, Lib.hid (HA0.out _ rfl).1, Lib.hid (HA0.out _ rfl).2⟩
                case round =>
                  clear HA0 hcx hne
                  obtain ⟨wI, rfl⟩ : ∃ wI : World, wI = wr := ⟨_, rfl⟩
                  obtain ⟨j, A, ga, ca, hj, rfl, rfl, HA, HRA, HUA⟩ := hrel
                  have hca := HRA.out.cap
                  have hAj := HA.out.1
                  by_cases hjM : j < M
                  · have hji : (j : Int) < (M : Int) := by omega
                    obtain ⟨z, hz, -, hzj⟩ := HKS.out j hjM
                    have hcz := (HS.out.ks.far HUA.out (by simp)).cell2 hz
                    have hjl : (j : Int) < (Ks.length : Int) := by omega
                    have HZJ := Lib.hid hzj
                    clear hz hzj
                    by_cases hzt : z = (tz9 : Int)
                    · have heq : (z == (tz9 : Int)) = true := by simp [hzt]
                      have HG := Lib.hid (fun w4 g4 c4 cs T h1 h2 => HRA.out.grow (w4 := w4) (x := (j : Int)) (g4 := g4) (c4 := c4) (cs := cs) (T := T) h1 h2)
                      have hro := HRA.out
                      unfold RowI at hro
                      obtain ⟨us, hus⟩ : ∃ us, A.map ei = us := ⟨_, rfl⟩
                      rw [hus] at hro HG
                      have HA2 := Lib.hid (show (A ++ [(j : Int)]).length ≤ j + 1 ∧ (∀ y ∈ A ++ [(j : Int)], 0 ≤ y ∧ y < M) ∧ (tz9 < j + 1 → 0 < (A ++ [(j : Int)]).length) from by
                        refine ⟨by simp; omega, fun y hy => ?_, fun _ => by simp⟩
                        rcases List.mem_append.1 hy with hy | hy
                        · exact HA.out.2.1 y hy
                        · simp at hy; subst hy; omega)
                      have hsH := HUA.out.size
                      clear hus hzt HRA HA HZJ
                      go_wp2_with (first
                        | (at_builtin; refine wpList_append_lies _ rfl _ _ 34 rfl wH.heap.size 2 i1 (.int .i64 0) 1 8 Tryz.underlying34 ki kz0 kz1 kz2 rfl (by decide) (.slice (some ⟨ga, 0, none⟩) A.length ca) A.length us rfl (ownsRow_upd hro ((Upd.refl _ _).alloc _)) ⟨wI.heap.size, 0, none⟩ 1 1 [ei (j : Int)] rfl rfl (fun q u hj => by rw [addr_add]; exact cell_new wI #[ei (j : Int)] _ _ rfl _ _ (by simpa using hj)) (by simp [Value.oneCell']) (by decide) (by unfold maxLen; omega) (by omega) (by simp; omega) (wI.heap.size + 1) (by simp) ?_)
                        | fail)
                      intro g4 c4 w4 hown4 hg4 hat4 hlt4
                      obtain ⟨hr4, hu4⟩ := HG.out w4 g4 c4 _ _ hown4 hg4
                      have hgB : wH.heap.size ≤ ga := (hro.lt ga rfl).1
                      have HR4 := Lib.hid hr4
                      have HU4 := Lib.hid (HUA.out.fresh hu4 (fun b hb => Or.inl (by simp at hb; omega)))
                      clear hown4 hg4 hat4 hlt4 HG hro hr4 hu4 HUA
                      go_wp2_with fail
                      go_roundw
                      case rel => exact ⟨j + 1, A ++ [(j : Int)], g4, c4, by omega, by go_num, by simp, HA2, HR4, HU4⟩
                      case measure => simp [intOf]; omega
                    · have heq : (z == (tz9 : Int)) = false := by simp [hzt]
                      have HA2 := Lib.hid (show A.length ≤ j + 1 ∧ (∀ y ∈ A, 0 ≤ y ∧ y < M) ∧ (tz9 < j + 1 → 0 < A.length) from by
                        refine ⟨by omega, HA.out.2.1, fun h => HA.out.2.2 ?_⟩
                        have h1 := HTO.out
                        by_cases hjt : j = tz9
                        · exact absurd (by rw [HZJ.out (by omega), hjt]) hzt
                        · omega)
                      clear hzt HA HZJ
                      go_wp2_with fail
                      go_roundw
                      case rel => exact ⟨j + 1, A, ga, ca, by omega, by go_num, rfl, HA2, HRA, HUA⟩
                      case measure => simp [intOf]; omega
                  · have hji : ¬ (j : Int) < (M : Int) := by omega
                    have hA0 : 0 < A.length := HA.out.2.2 (by have := HTO.out; omega)
                    have hgaH := HRA.out.lt.1
                    have HSI := Lib.hid (HS.out.other HUA.out (by simp) (by simp))
                    obtain ⟨fpA, hfA, hfg⟩ := HRA.out.read
                    have hpB : p < wH.heap.size := by have := HS.out.dk.lt; have := HS.out.dk.big; have := HS.out.dk.size; omega
                    have S9 := Lib.hid (amongD _ p _ A wI fpA (by omega) HSI.out.dk.src hfA hA0 (by omega) (fun hm => by have := hfg p hm; omega))
                    have HAM := Lib.hid HA.out.2.1
                    clear hfA hfg HRA HUA HS HA hA0
                    go_wp2_with fail
                    refine S9.out.mono ?_
                    rintro _ w5 ⟨⟨z, rfl, hz⟩, hs5, hu5⟩
                    have HS5 := Lib.hid (HSI.out.call hs5 hu5)
                    have HIN := Lib.hid (show EdIn M L.length ⟨(k : Int), lb, z⟩ from ⟨⟨by simp only; omega, by simp only; omega⟩, HAM.out z hz, HLB.out⟩)
                    have hro := HS5.out.row
                    have hBo := HS5.out.dk.size
                    unfold RowE at hro
                    have HG := Lib.hid (fun w4 g4 c4 cs T h1 h2 => RowE.grow (w4 := w4) HS5.out.row (x := ⟨(k : Int), lb, z⟩) (g4 := g4) (c4 := c4) (cs := cs) (T := T) h1 h2)
                    obtain ⟨us, hus⟩ : ∃ us, eR F = us := ⟨_, rfl⟩
                    rw [hus] at hro HG
                    have hFl := HFL.out
                    have hEl := HEL.out
                    clear hus S9 hs5 hu5 HSI HAM hz
                    go_wp2_with (first
                      | (at_builtin; refine wpList_append_lies _ rfl _ _ 25 rfl wo.heap.size 63 i3 (.agg #[.int .i64 0, .int .i64 0, .int .i64 0]) 3 24 Tryz.underlying25 ni nz0 nz1 nz2 rfl (by decide) (.slice (some ⟨gf, 0, none⟩) F.length cf) F.length us rfl (ownsRow_upd hro ((Upd.refl _ _).alloc _)) ⟨w5.heap.size, 0, none⟩ 1 1 [ei (k : Int), ei lb, ei z] rfl rfl (fun q u hj => by rw [addr_add]; exact cell_new w5 #[ei (k : Int), ei lb, ei z] _ _ rfl _ _ (by simpa using hj)) (by simp [Value.oneCell']) (by decide) (by unfold maxLen; omega) (by omega) (by simp; omega) (w5.heap.size + 1) (by simp) ?_)
                      | fail)
                    intro g4 c4 w4 hown4 hg4 hat4 hlt4
                    obtain ⟨hr4, hu4⟩ := HG.out w4 g4 c4 _ _ hown4 hg4
                    have HS6 := Lib.hid ((HS5.out.push HIN.out hr4 hu4).mono (show N + 40 + 20 * (n - m) + 2 + 2 + 2 + 2 * k + 2 ≤ N + 40 + 20 * (n - m) + 2 + 2 + 2 + 2 * (k + 1) by omega))
                    clear hown4 hg4 hat4 hlt4 HG hro hr4 hu4 HS5
                    go_wp2_with fail
                    go_roundw
                    case rel => exact ⟨k + 1, F ++ [⟨(k : Int), lb, z⟩], g4, c4, by omega, by go_num, by simp, Lib.hid (by simp; omega), HS6⟩
                    case measure => simp [intOf]; omega
              · have hne : (x != fr) = true := by simp [hxf]
                clear hxf
                go_wp2_with fail
                go_roundw
                case rel => exact ⟨k + 1, F, gf, cf, by omega, by go_num, rfl, Lib.hid (Nat.le_succ_of_le HFL.out), Lib.hid (HS.out.mono (by omega))⟩
                case measure => simp [intOf]; omega
            · have hki : ¬ (k : Int) < (M : Int) := by omega
              have HS9 := Lib.hid (HS.out.mono (show N + 40 + 20 * (n - m) + 2 + 2 + 2 + 2 * k ≤ N + 40 + 20 * (n - (m - 1)) by omega))
              have HF9 := Lib.hid (show F.length ≤ 6 * (n - (m - 1)) from by have := HFL.out; have := HEL.out; omega)
              have hwm : IntKind.i64.wrap ((m : Int) - 1) = ((m - 1 : Nat) : Int) := by rw [IntKind.wrap_i64]; omega
              clear HS HFL
              go_wp2_with fail
              go_roundw
              case rel => exact ⟨m - 1, F, gf, cf, by omega, by go_num, rfl, HF9, HS9⟩
              case measure => simp [intOf]; omega
        · have hmi : ¬ (0 : Int) < (m : Int) := by omega
          have HS9 := Lib.hid (HS.out.mono (show N + 40 + 20 * (n - m) ≤ N + 220 by omega))
          have HE9 := Lib.hid (show E.length ≤ 54 from by have := HEL.out; omega)
          clear HS HEL hm0
          have S10 := Lib.hid (srcOne (N + 220) p 3 wG (by omega) HS9.out.dk.src (by omega) (by omega))
          go_wp2_with fail
          refine S10.out.mono ?_
          rintro _ w1 ⟨⟨q, rfl⟩, hs1, hu1⟩
          have HS1 := Lib.hid (HS9.out.call hs1 hu1)
          clear S10 hs1 hu1 HS9
          cases q with
          | false =>
            have S11 := Lib.hid (srcPick _ p (M : Int) w1 (by omega) HS1.out.dk.src (by omega) (by omega))
            go_wp2_with fail
            refine S11.out.mono ?_
            rintro _ w8 ⟨⟨ini, rfl, hi0, hi1⟩, hs8, hu8⟩
            have HS8 := Lib.hid (HS1.out.call hs8 hu8)
            have HI := Lib.hid (show 0 ≤ ini ∧ ini < M from by omega)
            have MK := Lib.hid (show Calls Tryz.prog 29 #[ei (M : Int), ei ini, .slice (some ⟨gL, 0, none⟩) L.length cL, .slice (some ⟨_, 0, none⟩) (E).length _] w8 (fun e w' => SysD ⟨(M : Int), ini, L, (E).foldl putE []⟩ w8 e w' ∧ Upd [] w8 w') from by
              obtain ⟨fL, q1, -⟩ := HS8.out.dk.labs
              obtain ⟨fE, q2, -, -⟩ := row_E1 HS8.out.row
              exact makeD (M : Int) ini L (E) HNL.out (fun e he => (HS8.out.each e he).2.2) (by have := HE9.out; omega) _ _ fL fE w8 q1 q2)
            clear S11 hs8 hu8 HS1 hi0 hi1
            go_wp2_with fail
            refine MK.out.mono ?_
            rintro _ w9 ⟨⟨v1, v2, f1, f2, rfl, r1, r2, o1, o2, b1, b2, bd⟩, hu9⟩
            have hres := HS8.out.dk.res.upd hu9 (by simp)
            unfold RowAt at hres
            have HOUT := Lib.hid (fun cs => DrOut.of (S := ⟨(M : Int), ini, L, (E).foldl putE []⟩) hpl (HS8.out.dk.src.mono (show _ ≤ N + 1000 by omega)) HS8.out.dk.upd (by have := HS8.out.dk.big; have := HS8.out.dk.size; omega) hu9 r1 r2 o1 o2 b1 b2 bd (DrSys.of HNL.out (by omega) HI.out (by have := HE9.out; omega) rfl HS8.out.each) cs)
            obtain ⟨c1, y1, hv1, -, -⟩ := slF1_open r1
            obtain ⟨c2, y2, hv2, -, -⟩ := slF3_open r2
            simp only at hv1 hv2
            subst hv1 hv2
            clear MK HS8 hu9 r1 r2 o1 o2 b1 b2 bd
            go_wp2_with (first
              | (refine wpList_store_row rfl 27 _ _ rfl w.heap.size #[ei (M : Int), ei ini, .slice c1 _ y1, .slice c2 _ y2] rfl rfl 27 _ hres Lts_size rfl (by simp [Value.oneCell']) ?_)
              | fail)
            have hC := setRow_heap w9 w.heap.size _ #[ei (M : Int), ei ini, .slice c1 L.length y1, .slice c2 ((E).foldl putE []).length y2] _ _ hres
            refine bodyPost_ret (results_cell_row Tryz.results26 _ _ w.heap.size 27 _ (0, 0) _ rfl hC Tryz.underlying27 rfl Lts_size) rfl ?_
            exact HOUT.out _
          | true =>
            have S6 := Lib.hid (srcPick _ p (M : Int) w1 (by omega) HS1.out.dk.src (by omega) (by omega))
            go_wp2_with fail
            refine S6.out.mono ?_
            rintro _ w2 ⟨⟨fr, rfl, hf0, hf1⟩, hs2, hu2⟩
            have HS2 := Lib.hid (HS1.out.call hs2 hu2)
            have S7 := Lib.hid (srcPick _ p (L.length : Int) w2 (by omega) hs2 (by omega) (by omega))
            clear S6 hs2 hu2 HS1
            go_wp2_with fail
            refine S7.out.mono ?_
            rintro _ w3 ⟨⟨lb, rfl, hl0, hl1⟩, hs3, hu3⟩
            have HS3 := Lib.hid (HS2.out.call hs3 hu3)
            have S8 := Lib.hid (srcPick _ p (M : Int) w3 (by omega) hs3 (by omega) (by omega))
            clear S7 hs3 hu3 HS2
            go_wp2_with fail
            refine S8.out.mono ?_
            rintro _ w5 ⟨⟨tt, rfl, ht0, ht1⟩, hs5, hu5⟩
            have HS5 := Lib.hid (HS3.out.call hs5 hu5)
            have HIN := Lib.hid (show EdIn M L.length ⟨fr, lb, tt⟩ from ⟨⟨by simp only; omega, by simp only; omega⟩, ⟨by simp only; omega, by simp only; omega⟩, by simp only; omega, by simp only; omega⟩)
            have hro := HS5.out.row
            have hBo := HS5.out.dk.size
            have hce := HS5.out.row.cap
            unfold RowE at hro
            have HG := Lib.hid (fun w4 g4 c4 cs T h1 h2 => RowE.grow (w4 := w4) HS5.out.row (x := ⟨fr, lb, tt⟩) (g4 := g4) (c4 := c4) (cs := cs) (T := T) h1 h2)
            obtain ⟨us, hus⟩ : ∃ us, eR E = us := ⟨_, rfl⟩
            rw [hus] at hro HG
            have hEl := HE9.out
            clear hus S8 hs5 hu5 HS3 hf0 hf1 hl0 hl1 ht0 ht1
            go_wp2_with (first
              | (at_builtin; refine wpList_append_lies _ rfl _ _ 25 rfl wo.heap.size 63 i3 (.agg #[.int .i64 0, .int .i64 0, .int .i64 0]) 3 24 Tryz.underlying25 ni nz0 nz1 nz2 rfl (by decide) (.slice (some ⟨ge, 0, none⟩) E.length ce) E.length us rfl (ownsRow_upd hro ((Upd.refl _ _).alloc _)) ⟨w5.heap.size, 0, none⟩ 1 1 [ei fr, ei lb, ei tt] rfl rfl (fun q u hj => by rw [addr_add]; exact cell_new w5 #[ei fr, ei lb, ei tt] _ _ rfl _ _ (by simpa using hj)) (by simp [Value.oneCell']) (by decide) (by unfold maxLen; omega) (by omega) (by simp; omega) (w5.heap.size + 1) (by simp) ?_)
              | fail)
            intro g4 c4 w4 hown4 hg4 hat4 hlt4
            obtain ⟨hr4, hu4⟩ := HG.out w4 g4 c4 _ _ hown4 hg4
            have HS6 := Lib.hid (HS5.out.push HIN.out hr4 hu4)
            have HE6 := Lib.hid (show (E ++ [(⟨fr, lb, tt⟩ : Ed)]).length ≤ 55 from by simp; omega)
            have hlen6 : (E ++ [(⟨fr, lb, tt⟩ : Ed)]).length = E.length + 1 := by simp
            obtain ⟨E6, hE6⟩ : ∃ E6, E ++ [(⟨fr, lb, tt⟩ : Ed)] = E6 := ⟨_, rfl⟩
            rw [hE6] at HS6 HE6 hlen6
            have hl6i : (E.length : Int) + 1 = (E6.length : Int) := by omega
            have hl6n : E.length + 1 = E6.length := by omega
            clear hown4 hg4 hat4 hlt4 HG hro hr4 hu4 HS5 hE6 hlen6
            rw [hl6n]
            have S11 := Lib.hid (srcPick _ p (M : Int) w4 (by omega) HS6.out.dk.src (by omega) (by omega))
            go_wp2_with fail
            refine S11.out.mono ?_
            rintro _ w8 ⟨⟨ini, rfl, hi0, hi1⟩, hs8, hu8⟩
            have HS8 := Lib.hid (HS6.out.call hs8 hu8)
            have HI := Lib.hid (show 0 ≤ ini ∧ ini < M from by omega)
            have MK := Lib.hid (show Calls Tryz.prog 29 #[ei (M : Int), ei ini, .slice (some ⟨gL, 0, none⟩) L.length cL, .slice (some ⟨_, 0, none⟩) (E6).length _] w8 (fun e w' => SysD ⟨(M : Int), ini, L, (E6).foldl putE []⟩ w8 e w' ∧ Upd [] w8 w') from by
              obtain ⟨fL, q1, -⟩ := HS8.out.dk.labs
              obtain ⟨fE, q2, -, -⟩ := row_E1 HS8.out.row
              exact makeD (M : Int) ini L (E6) HNL.out (fun e he => (HS8.out.each e he).2.2) (by have := HE6.out; omega) _ _ fL fE w8 q1 q2)
            clear S11 hs8 hu8 HS6 hi0 hi1
            go_wp2_with fail
            refine MK.out.mono ?_
            rintro _ w9 ⟨⟨v1, v2, f1, f2, rfl, r1, r2, o1, o2, b1, b2, bd⟩, hu9⟩
            have hres := HS8.out.dk.res.upd hu9 (by simp)
            unfold RowAt at hres
            have HOUT := Lib.hid (fun cs => DrOut.of (S := ⟨(M : Int), ini, L, (E6).foldl putE []⟩) hpl (HS8.out.dk.src.mono (show _ ≤ N + 1000 by omega)) HS8.out.dk.upd (by have := HS8.out.dk.big; have := HS8.out.dk.size; omega) hu9 r1 r2 o1 o2 b1 b2 bd (DrSys.of HNL.out (by omega) HI.out (by have := HE6.out; omega) rfl HS8.out.each) cs)
            obtain ⟨c1, y1, hv1, -, -⟩ := slF1_open r1
            obtain ⟨c2, y2, hv2, -, -⟩ := slF3_open r2
            simp only at hv1 hv2
            subst hv1 hv2
            clear MK HS8 hu9 r1 r2 o1 o2 b1 b2 bd
            go_wp2_with (first
              | (refine wpList_store_row rfl 27 _ _ rfl w.heap.size #[ei (M : Int), ei ini, .slice c1 _ y1, .slice c2 _ y2] rfl rfl 27 _ hres Lts_size rfl (by simp [Value.oneCell']) ?_)
              | fail)
            have hC := setRow_heap w9 w.heap.size _ #[ei (M : Int), ei ini, .slice c1 L.length y1, .slice c2 ((E6).foldl putE []).length y2] _ _ hres
            refine bodyPost_ret (results_cell_row Tryz.results26 _ _ w.heap.size 27 _ (0, 0) _ rfl hC Tryz.underlying27 rfl Lts_size) rfl ?_
            exact HOUT.out _

end Go.Proofs.YtdnjjanacbkijaaGreatDoor

/-
  Systems drawn: those with internal edges (l15DrawOk, B10Lts).
-/
namespace Go.Proofs.YtdnjjanacbkijaaGreatDoor
open Go.RowKit

/-- the state while internal edges are drawn: the result's cells, the first system T, the source, the edges. -/
structure LkSt (N p T : Nat) (S : Sys) (v1 v2 : Value) (f1 f2 : List Nat) (E : List Ed) (g cap : Nat) (w wr : World) : Prop where
  res : RowAt wr w.heap.size 27 [ei 0, ei 0, .slice none 0 0, .slice none 0 0]
  sys : RowAt wr T 27 [ei S.st, ei S.ini, v1, v2]
  labs : R_S1 f1 wr [v1] S.labs
  eds : R_E1 f2 wr [v2] S.eds
  b1 : ∀ b ∈ f1, w.heap.size < b ∧ b < T
  b2 : ∀ b ∈ f2, w.heap.size < b ∧ b < T
  src : IsSrc N p wr
  upd : Upd [p] w wr
  lt : p < w.heap.size
  big : w.heap.size < T
  row : RowE wr (T + 1) g cap E
  each : ∀ e ∈ E, EdIn S.st.toNat S.labs.length e
theorem LkSt.call {N N' p T : Nat} {S : Sys} {v1 v2 : Value} {f1 f2 : List Nat} {E : List Ed} {g cap : Nat} {w wr w1 : World} (h : LkSt N p T S v1 v2 f1 f2 E g cap w wr) (hs : IsSrc N' p w1) (hu : Upd [p] wr w1) : LkSt N' p T S v1 v2 f1 f2 E g cap w w1 := by
  have h1 := h.lt
  have h2 := h.big
  have h3 := h.row.lt.1
  exact ⟨h.res.upd hu (by simp; omega), h.sys.upd hu (by simp; omega), R_S1k.upd h.labs hu (fun b hb hm => by have := (h.b1 b hb).1; simp at hm; omega), R_E1k.upd h.eds hu (fun b hb hm => by have := (h.b2 b hb).1; simp at hm; omega), h.b1, h.b2, hs, h.upd.trans hu, h1, h2, h.row.far hu (by simp; omega), h.each⟩
theorem LkSt.other {N p T : Nat} {S : Sys} {v1 v2 : Value} {f1 f2 : List Nat} {E : List Ed} {g cap : Nat} {w wr w1 : World} (h : LkSt N p T S v1 v2 f1 f2 E g cap w wr) {f : List Nat} (hu : Upd f wr w1) (hf : ∀ b ∈ f, T + 1 ≤ b) (hg : g ∉ f) : LkSt N p T S v1 v2 f1 f2 E g cap w w1 := by
  have h1 := h.lt
  have h2 := h.big
  exact ⟨h.res.upd hu (fun hm => by have := hf _ hm; omega), h.sys.upd hu (fun hm => by have := hf _ hm; omega), R_S1k.upd h.labs hu (fun b hb hm => by have := (h.b1 b hb).2; have := hf b hm; omega), R_E1k.upd h.eds hu (fun b hb hm => by have := (h.b2 b hb).2; have := hf b hm; omega), h.b1, h.b2,
    h.src.other hu (fun b hb => by have := hf b hb; omega), h.upd.fresh hu (fun b hb => Or.inl (by have := hf b hb; omega)), h1, h2, h.row.far hu hg, h.each⟩
theorem LkSt.push {N p T : Nat} {S : Sys} {v1 v2 : Value} {f1 f2 : List Nat} {E : List Ed} {g cap : Nat} {w wr w4 : World} (h : LkSt N p T S v1 v2 f1 f2 E g cap w wr) {x : Ed} (hx : EdIn S.st.toNat S.labs.length x) {g4 c4 : Nat} (hr : RowE w4 (T + 1) g4 c4 (E ++ [x])) (hu : Upd [g] wr w4) : LkSt N p T S v1 v2 f1 f2 (E ++ [x]) g4 c4 w w4 := by
  have h1 := h.lt
  have h2 := h.big
  have h3 := h.row.lt.1
  exact ⟨h.res.upd hu (by simp; omega), h.sys.upd hu (by simp; omega), R_S1k.upd h.labs hu (fun b hb hm => by have := (h.b1 b hb).2; simp at hm; omega), R_E1k.upd h.eds hu (fun b hb hm => by have := (h.b2 b hb).2; simp at hm; omega), h.b1, h.b2,
    h.src.other hu (fun b hb => by simp at hb; omega), h.upd.fresh hu (fun b hb => Or.inl (by simp at hb; omega)), h1, h2, hr, fun e he => by
    rcases List.mem_append.1 he with he | he
    · exact h.each e he
    · simp at he; rw [he]; exact hx⟩
theorem LkSt.mono {N N' p T : Nat} {S : Sys} {v1 v2 : Value} {f1 f2 : List Nat} {E : List Ed} {g cap : Nat} {w wr : World} (h : LkSt N p T S v1 v2 f1 f2 E g cap w wr) (hN : N ≤ N') : LkSt N' p T S v1 v2 f1 f2 E g cap w wr :=
  ⟨h.res, h.sys, h.labs, h.eds, h.b1, h.b2, h.src.mono hN, h.upd, h.lt, h.big, h.row, h.each⟩

/-- what is drawn with internal edges. -/
structure DrSys2 (S : Sys) : Prop where
  st0 : 1 ≤ S.st
  st1 : S.st ≤ 6
  in0 : 0 ≤ S.ini
  in1 : S.ini < S.st
  labs : NamL S.labs
  sorted : S.eds.Pairwise fun a b => edLt a b = true
  each : ∀ e ∈ S.eds, EdIn S.st.toNat S.labs.length e
  len : S.eds.length ≤ 70
theorem DrSys2.of {S : Sys} (h : DrSys S) {E : List Ed} (hE : E.length ≤ 70) (he : ∀ e ∈ E, EdIn S.st.toNat S.labs.length e) : DrSys2 ⟨S.st, S.ini, S.labs, E.foldl putE []⟩ := by
  obtain ⟨h1, h2, h3⟩ := puts_facts E [] (EdIn S.st.toNat S.labs.length) List.Pairwise.nil (by simp) he
  exact ⟨h.st0, h.st1, h.in0, h.in1, h.labs, h1, h2, by simp at h3; simp only; omega⟩
def DrOut2 (N p : Nat) (w : World) (e : Ending) (w' : World) : Prop := (∃ S, SysD S w e w' ∧ DrSys2 S) ∧ IsSrc N p w' ∧ Upd [p] w w'
theorem DrOut2.of {N p : Nat} {w W W' : World} {S : Sys} {v1 v2 : Value} {f1 f2 : List Nat} (hp : p < w.heap.size) (hs : IsSrc N p W) (hu : Upd [p] w W) (hw : w.heap.size < W.heap.size) (hu2 : Upd [] W W')
    (h1 : R_S1 f1 W' [v1] S.labs) (h2 : R_E1 f2 W' [v2] S.eds) (o1 : Own f1 W') (o2 : Own f2 W') (b1 : ∀ b ∈ f1, W.heap.size ≤ b) (b2 : ∀ b ∈ f2, W.heap.size ≤ b) (hd : ∀ b ∈ f1, b ∉ f2) (hS : DrSys2 S) (cs : Array Value) :
    DrOut2 N p w (.returned (.agg #[ei S.st, ei S.ini, v1, v2])) (W'.setRow w.heap.size cs) := by
  have DB : Upd [w.heap.size] W' (W'.setRow w.heap.size cs) := (Upd.refl _ _).row (Or.inr (by simp)) _
  have d1 : ∀ b ∈ f1, b ∉ [w.heap.size] := fun b hb hm => by have := b1 b hb; simp at hm; omega
  have d2 : ∀ b ∈ f2, b ∉ [w.heap.size] := fun b hb hm => by have := b2 b hb; simp at hm; omega
  exact ⟨⟨S, ⟨_, _, f1, f2, rfl, R_S1k.upd h1 DB d1, R_E1k.upd h2 DB d2, o1.upd DB d1, o2.upd DB d2, fun b hb => by have := b1 b hb; omega, fun b hb => by have := b2 b hb; omega, hd⟩, hS⟩,
    (hs.upd hu2).other DB (fun b hb => by simp at hb; omega), (hu.trans (hu2.mono (by simp))).fresh DB (fun b hb => Or.inl (by simp at hb; omega))⟩

set_option maxRecDepth 20000 in
set_option maxHeartbeats 8000000 in
theorem drawLts2 (N p : Nat) (w : World) (hN : N ≤ 400000) (h : IsSrc N p w) : Calls Tryz.prog 15 #[.pointer (some ⟨p, 0, none⟩)] w (DrOut2 (N + 1400) p w) := by
  obtain ⟨i3, ni, nz0, nz1, nz2⟩ := info_parts Tryz.infoEd
  have hpl := h.lt
  have HW0 := Lib.hid (show ∀ W, w.alloc (.cells #[ei 0, ei 0, .slice none 0 0, .slice none 0 0] 27) = W → IsSrc N p W ∧ Upd [] w W ∧ RowAt W w.heap.size 27 [ei 0, ei 0, .slice none 0 0, .slice none 0 0] ∧ W.heap.size = w.heap.size + 1 from fun W hW => by
    subst hW
    exact ⟨h.upd ((Upd.refl _ _).alloc _), (Upd.refl _ _).alloc _, RowAt.new w 27 [ei 0, ei 0, .slice none 0 0, .slice none 0 0], by simp⟩)
  clear h
  go_enter Tryz.func15, Tryz.ntmps15
  go_upto_region 1 with (fail)
  obtain ⟨wA, hwA⟩ : ∃ wA, w.alloc (.cells #[.int .i64 0, .int .i64 0, .slice none 0 0, .slice none 0 0] 27) = wA := ⟨_, rfl⟩
  rw [hwA]
  obtain ⟨hsA, huA, hrA, hzA⟩ := HW0.out wA hwA
  clear hwA HW0
  have S1 := Lib.hid (drawLts N p wA (by omega) hsA)
  have HA := Lib.hid (And.intro huA hrA)
  have HZA := Lib.hid hzA
  clear hsA huA hrA hzA
  go_wp2_with fail
  refine S1.out.mono ?_
  rintro _ w1 ⟨⟨S, ⟨v1, v2, f1, f2, rfl, r1, r2, o1, o2, b1, b2, bd⟩, hS⟩, hs1, hu1⟩
  have HSS := Lib.hid hS
  have HS0 := Lib.hid (show ∀ T1 T2, T1 = 27 → T2 = 63 → LkSt (N + 1000) p w1.heap.size S v1 v2 f1 f2 [] (w1.heap.size + 1) 0 w ((w1.alloc (.cells #[ei S.st, ei S.ini, v1, v2] T1)).alloc (.cells #[] T2)) from fun T1 T2 h1 h2 => by
    subst h1 h2
    have u : Upd [] w1 ((w1.alloc (.cells #[ei S.st, ei S.ini, v1, v2] 27)).alloc (.cells #[] 63)) := ((Upd.refl _ _).alloc _).alloc _
    have hz := HZA.out
    have l1 := R_S1k.lt r1
    have l2 := R_E1k.lt r2
    have hzz := hu1.size
    have hl := RowE.lit (w1.alloc (.cells #[ei S.st, ei S.ini, v1, v2] 27))
    have hsz : (w1.alloc (.cells #[ei S.st, ei S.ini, v1, v2] 27)).heap.size = w1.heap.size + 1 := by simp
    rw [hsz] at hl
    exact ⟨(HA.out.2.upd hu1 (by simp; omega)).upd u (by simp), (RowAt.new w1 27 [ei S.st, ei S.ini, v1, v2]).upd ((Upd.refl [] _).alloc _) (by simp), R_S1k.upd r1 u (by simp), R_E1k.upd r2 u (by simp), fun b hb => by have := b1 b hb; have := l1 b hb; omega, fun b hb => by have := b2 b hb; have := l2 b hb; omega,
      hs1.upd u, ((HA.out.1.mono (by simp)).trans hu1).trans (u.mono (by simp)), hpl, by omega, hl, by simp⟩)
  obtain ⟨c1, y1, hv1, -, -⟩ := slF1_open r1
  obtain ⟨c2, y2, hv2, -, -⟩ := slF3_open r2
  subst hv1 hv2
  have hSE : S.eds.length ≤ 60 := HSS.out.len
  have hSst : 1 ≤ S.st ∧ S.st ≤ 6 := ⟨HSS.out.st0, HSS.out.st1⟩
  clear S1 r1 r2 o1 o2 b1 b2 bd hS hs1 hu1 HA HZA
  obtain ⟨st, ini, labs, eds⟩ := S
  simp only at hSE hSst HS0
  go_wp2_with fail
  go_loopw [4, 5] (fun ev iv wr => ∃ (i : Nat) (E : List Ed) (g cap : Nat), i ≤ eds.length ∧ iv = .int .i64 i ∧ ev = .slice (some ⟨g, 0, none⟩) E.length cap ∧ Hid (E.length ≤ i) ∧ Hid (LkSt (N + 1000 + 2 * i) p w1.heap.size ⟨st, ini, labs, eds⟩ (.slice c1 labs.length y1) (.slice c2 eds.length y2) f1 f2 E g cap w wr)) (fun _ iv _ => eds.length - (intOf iv).toNat)
  case atStart => exact ⟨0, [], _, _, Nat.zero_le _, rfl, rfl, Lib.hid (Nat.le_refl _), Lib.hid (HS0.out _ _ rfl rfl)⟩
  case round =>
    clear HS0
    obtain ⟨wo, rfl⟩ : ∃ wo : World, wo = wr := ⟨_, rfl⟩
    obtain ⟨i, E, g, cap, hi, rfl, rfl, HL, HS⟩ := hrel
    have s3 := HS.out.sys.cell 3 _ rfl
    have hce := HS.out.row.cap
    have hEl := HL.out
    by_cases hlt : i < eds.length
    · obtain ⟨cc, yy, hv, -, -, hc⟩ := slF3_open HS.out.eds
      cases hv
      obtain ⟨b3, o3, rfl, -, hb3, e1, e2, e3⟩ := hc i hlt
      have HEX := Lib.hid (show EdIn st.toNat labs.length eds[i] from by
        have h := HSS.out.each eds[i] (List.getElem_mem hlt)
        simp only at h
        exact ⟨⟨h.1.1, by omega⟩, ⟨h.2.1.1, by omega⟩, h.2.2⟩)
      generalize eds[i] = x at *
      obtain ⟨x1, x2, x3⟩ := x
      simp only at e1 e2 e3
      have HB := Lib.hid (show ∀ T, ∃ wB, wo.alloc (.cells #[ei x1, ei x2, ei x3] T) = wB ∧ Upd [] wo wB ∧ Own [wo.heap.size] wB ∧ wB.cell? ⟨wo.heap.size, 0, none⟩ = some (ei x1) ∧ wB.cell? ⟨wo.heap.size, 1, none⟩ = some (ei x2) ∧ wB.cell? ⟨wo.heap.size, 2, none⟩ = some (ei x3) from fun T =>
        ⟨_, rfl, (Upd.refl _ _).alloc _, own_new _ _ _, cell_new _ _ _ _ rfl 0 _ rfl, cell_new _ _ _ _ rfl 1 _ rfl, cell_new _ _ _ _ rfl 2 _ rfl⟩)
      clear hc
      go_upto_region 7 with (fail)
      obtain ⟨wB, hwB, uB, oB, x0c, x1c, x2c⟩ := HB.out _
      rw [hwB]
      have HSB := Lib.hid (HS.out.other uB (by simp) (by simp))
      have hXT : w1.heap.size + 1 < wo.heap.size := by have := HS.out.row.lt; omega
      have hgX : g < wo.heap.size := HS.out.row.lt.2
      have hpX : p < wo.heap.size := by have := HS.out.lt; have := HS.out.big; omega
      have HX := Lib.hid (And.intro oB (And.intro x0c (And.intro x1c x2c)))
      have S2 := Lib.hid (srcOne _ p 3 wB (by omega) HSB.out.src (by omega) (by omega))
      clear hwB uB oB x0c x1c x2c HB HS e1 e2 e3 s3
      go_wp2_with fail
      refine S2.out.mono ?_
      rintro _ w2 ⟨⟨q, rfl⟩, hs2, hu2⟩
      have HS2 := Lib.hid (HSB.out.call hs2 hu2)
      have hXp : wo.heap.size ∉ [p] := by simp; omega
      have g0 := hu2.keepF hXp HX.out.2.1
      have g1 := hu2.keepF hXp HX.out.2.2.1
      have g2 := hu2.keepF hXp HX.out.2.2.2
      have gz := (HX.out.1.upd hu2 (by simpa using hXp)).frozen (List.mem_singleton.2 rfl) 1
      clear S2 hs2 hu2 HSB HX
      cases q with
      | false =>
        have HG := Lib.hid (fun w4 g4 c4 cs T h1 h2 => RowE.grow (w4 := w4) HS2.out.row (x := ⟨x1, x2, x3⟩) (g4 := g4) (c4 := c4) (cs := cs) (T := T) h1 h2)
        have hro := HS2.out.row
        have hb2 := Nat.le_trans HS2.out.row.lt.1 (Nat.le_of_lt HS2.out.row.lt.2)
        unfold RowE at hro
        obtain ⟨us, hus⟩ : ∃ us, eR E = us := ⟨_, rfl⟩
        rw [hus] at hro HG
        clear hus
        go_wp2_with (first
          | (at_builtin; refine wpList_append_lies _ rfl _ _ 25 rfl (w1.heap.size + 1) 63 i3 (.agg #[.int .i64 0, .int .i64 0, .int .i64 0]) 3 24 Tryz.underlying25 ni nz0 nz1 nz2 rfl (by decide) (.slice (some ⟨g, 0, none⟩) E.length cap) E.length us rfl (ownsRow_upd hro ((Upd.refl _ _).alloc _)) ⟨w2.heap.size, 0, none⟩ 1 1 [ei x1, ei x2, ei x3] rfl rfl (fun q u hj => by rw [addr_add]; exact cell_new w2 #[ei x1, ei x2, ei x3] _ _ rfl _ _ (by simpa using hj)) (by simp [Value.oneCell']) (by decide) (by unfold maxLen; omega) (by omega) (by simp; omega) (w2.heap.size + 1) (by simp) ?_)
          | fail)
        intro g4 c4 w4 hown4 hg4 hat4 hlt4
        obtain ⟨hr4, hu4⟩ := HG.out w4 g4 c4 _ _ hown4 hg4
        have HS4 := Lib.hid ((HS2.out.push HEX.out hr4 hu4).mono (show N + 1000 + 2 * i + 2 ≤ N + 1000 + 2 * (i + 1) by omega))
        clear hown4 hg4 hat4 hlt4 HG hro hr4 hu4 HS2 g0 g1 g2 gz
        go_wp2_with fail
        go_roundw
        case rel => exact ⟨i + 1, E ++ [⟨x1, x2, x3⟩], g4, c4, by omega, by go_num, by simp, Lib.hid (by simp; omega), HS4⟩
        case measure => simp [intOf]; omega
      | true =>
        have HE0 := Lib.hid (show EdIn st.toNat labs.length ⟨x1, 0, x3⟩ from ⟨HEX.out.1, HEX.out.2.1, by simp only; have := HEX.out.2.2; omega⟩)
        go_upto_region 9 with (fail)
        obtain ⟨wC, hwC⟩ : ∃ wC, w2.setCell ⟨wo.heap.size, 1, none⟩ (.int .i64 0) = wC := ⟨_, rfl⟩
        rw [hwC]
        have HSC := Lib.hid (show LkSt (N + 1000 + 2 * i + 2) p w1.heap.size ⟨st, ini, labs, eds⟩ (.slice c1 labs.length y1) (.slice (some ⟨b3, o3, none⟩) eds.length y2) f1 f2 E g cap w wC from by
          rw [← hwC]
          exact HS2.out.other (f := [wo.heap.size]) ((Upd.refl _ _).setCell (by simp) _) (by simp; omega) (by simp; omega))
        have z0 : wC.cell? ⟨wo.heap.size, 0, none⟩ = some (ei x1) := by rw [← hwC]; exact (World.cell?_setCell_other _ _ _ _ (by simp)).trans g0
        have z1 : wC.cell? ⟨wo.heap.size, 1, none⟩ = some (ei 0) := by rw [← hwC]; exact World.cell?_setCell_same _ _ _ g1
        have z2 : wC.cell? ⟨wo.heap.size, 2, none⟩ = some (ei x3) := by rw [← hwC]; exact (World.cell?_setCell_other _ _ _ _ (by simp)).trans g2
        clear hwC g0 g1 g2 gz HS2
        have HG := Lib.hid (fun w4 g4 c4 cs T h1 h2 => RowE.grow (w4 := w4) HSC.out.row (x := ⟨x1, 0, x3⟩) (g4 := g4) (c4 := c4) (cs := cs) (T := T) h1 h2)
        have hro := HSC.out.row
        have hb2 := Nat.le_trans HSC.out.row.lt.1 (Nat.le_of_lt HSC.out.row.lt.2)
        unfold RowE at hro
        obtain ⟨us, hus⟩ : ∃ us, eR E = us := ⟨_, rfl⟩
        rw [hus] at hro HG
        clear hus
        go_wp2_with (first
          | (at_builtin; refine wpList_append_lies _ rfl _ _ 25 rfl (w1.heap.size + 1) 63 i3 (.agg #[.int .i64 0, .int .i64 0, .int .i64 0]) 3 24 Tryz.underlying25 ni nz0 nz1 nz2 rfl (by decide) (.slice (some ⟨g, 0, none⟩) E.length cap) E.length us rfl (ownsRow_upd hro ((Upd.refl _ _).alloc _)) ⟨wC.heap.size, 0, none⟩ 1 1 [ei x1, ei 0, ei x3] rfl rfl (fun q u hj => by rw [addr_add]; exact cell_new wC #[ei x1, ei 0, ei x3] _ _ rfl _ _ (by simpa using hj)) (by simp [Value.oneCell']) (by decide) (by unfold maxLen; omega) (by omega) (by simp; omega) (wC.heap.size + 1) (by simp) ?_)
          | fail)
        intro g4 c4 w4 hown4 hg4 hat4 hlt4
        obtain ⟨hr4, hu4⟩ := HG.out w4 g4 c4 _ _ hown4 hg4
        have HS4 := Lib.hid ((HSC.out.push HE0.out hr4 hu4).mono (show N + 1000 + 2 * i + 2 ≤ N + 1000 + 2 * (i + 1) by omega))
        clear hown4 hg4 hat4 hlt4 HG hro hr4 hu4 HSC z0 z1 z2
        go_wp2_with fail
        go_roundw
        case rel => exact ⟨i + 1, E ++ [⟨x1, 0, x3⟩], g4, c4, by omega, by go_num, by simp, Lib.hid (by simp; omega), HS4⟩
        case measure => simp [intOf]; omega
    · have hge : ¬ (i : Int) < (eds.length : Int) := by omega
      have HE9 := Lib.hid (show E.length ≤ 60 from by omega)
      have HS9 := Lib.hid (HS.out.mono (show N + 1000 + 2 * i ≤ N + 1200 by omega))
      have S3 := Lib.hid (srcPick _ p 3 wo (by omega) HS9.out.src (by omega) (by omega))
      clear HS HL hEl
      go_wp2_with fail
      refine S3.out.mono ?_
      rintro _ w2 ⟨⟨n0, rfl, hn0, hn1⟩, hs2, hu2⟩
      have HS2 := Lib.hid (HS9.out.call hs2 hu2)
      obtain ⟨n, rfl⟩ : ∃ n : Nat, n0 = n := ⟨n0.toNat, by omega⟩
      have hn2 : n ≤ 2 := by omega
      clear S3 hs2 hu2 HS9 hn0 hn1
      go_wp2_with fail
      go_loopw [4, 7] (fun ev nv wr => ∃ (m : Nat) (F : List Ed) (gf cf : Nat), m ≤ n ∧ nv = .int .i64 m ∧ ev = .slice (some ⟨gf, 0, none⟩) F.length cf ∧ Hid (F.length ≤ 60 + (n - m)) ∧ Hid (LkSt (N + 1202 + 4 * (n - m)) p w1.heap.size ⟨st, ini, labs, eds⟩ (.slice c1 labs.length y1) (.slice c2 eds.length y2) f1 f2 F gf cf w wr)) (fun _ nv _ => (intOf nv).toNat)
      case atStart => exact ⟨n, E, g, cap, Nat.le_refl _, rfl, rfl, Lib.hid (by have := HE9.out; omega), Lib.hid (HS2.out.mono (by omega))⟩
      case round =>
        clear HS2 HE9
        obtain ⟨wG, rfl⟩ : ∃ wG : World, wG = wr := ⟨_, rfl⟩
        obtain ⟨m, F, gf, cf, hm, rfl, rfl, HFL, HS⟩ := hrel
        have hcf := HS.out.row.cap
        have hFl := HFL.out
        by_cases hm0 : 0 < m
        · have hmi : (0 : Int) < (m : Int) := by omega
          have s0 := HS.out.sys.cell 0 _ rfl
          simp only at s0
          have HSD := Lib.hid (HS.out.other (f := []) (Upd.refl [] wG).drew (by simp) (by simp))
          have PK1 := Lib.hid (srcPick _ p st wG.drew (by omega) HSD.out.src (by omega) (by omega))
          have PK2 := Lib.hid (fun W (h : IsSrc (N + 1202 + 4 * (n - m) + 2) p W) => srcPick _ p st W (by omega) h (by omega) (by omega))
          have hTp : w1.heap.size ∉ [p] := by have := HS.out.lt; have := HS.out.big; simp; omega
          have hTg : w1.heap.size ∉ [gf] := by have := HS.out.row.lt.1; simp; omega
          have hwm : IntKind.i64.wrap ((m : Int) - 1) = ((m - 1 : Nat) : Int) := by rw [IntKind.wrap_i64]; omega
          have HG := Lib.hid (fun (w6 w4 : World) (z1 z2 : Int) g4 c4 cs T (h : LkSt (N + 1202 + 4 * (n - m) + 2 + 2) p w1.heap.size ⟨st, ini, labs, eds⟩ (.slice c1 labs.length y1) (.slice c2 eds.length y2) f1 f2 F gf cf w w6) h1 h2 => RowE.grow (w := w6) (w4 := w4) h.row (x := ⟨z1, 0, z2⟩) (g4 := g4) (c4 := c4) (cs := cs) (T := T) h1 h2)
          have hlab := HSS.out.labs.len
          simp only at hlab
          clear HS hm0
          go_upto_region 13 with (fail)
          go_region_held3 (fun w' => w'.cell? ⟨w1.heap.size, 0, none⟩ = some (ei st)) (go_keep) (first
            | ((with_reducible refine PK1.out.mono ?_); rintro e w5 ⟨⟨z1, rfl, hz10, hz11⟩, hs5, hu5⟩; have t1 := hu5.keepF hTp s0)
            | ((with_reducible refine (PK2.out _ hs5).mono ?_); rintro e w6 ⟨⟨z2, rfl, hz20, hz21⟩, hs6, hu6⟩; have t2 := hu6.keepF hTp t1; have HS6 := Lib.hid ((HSD.out.call hs5 hu5).call hs6 hu6))
            | ((refine step_append_lies _ (by rfl) _ _ 25 (by rfl) (w1.heap.size + 1) 63 i3 (.agg #[.int .i64 0, .int .i64 0, .int .i64 0]) 3 24 Tryz.underlying25 ni nz0 nz1 nz2 rfl (by decide) (.slice (some ⟨gf, 0, none⟩) F.length cf) F.length (eR F) rfl (ownsRow_upd HS6.out.row ((Upd.refl _ _).alloc _)) ⟨w6.heap.size, 0, none⟩ 1 1 [ei z1, ei 0, ei z2] (by go_simp) rfl (fun q u hj => by rw [addr_add]; exact cell_new w6 #[ei z1, ei 0, ei z2] _ _ rfl _ _ (by simpa using hj)) (by simp [Value.oneCell']) (by decide) (by unfold maxLen; omega) (by omega) (Nat.le_trans HS6.out.row.lt.1 (Nat.le_of_lt (Nat.lt_of_lt_of_le HS6.out.row.lt.2 (by simp)))) (w6.heap.size + 1) (by simp) ?_); intro g4 c4 w4 hown4 hg4 hat4 hlt4; have t3 := (((Upd.refl [gf] w6).alloc _).grown hg4 (fun b hb => Or.inr (by simpa [Value.ownBlock, eq_comm] using hb))).keepF hTg t2))
          all_goals
            obtain ⟨hr4, hu4⟩ := HG.out _ _ _ _ g4 c4 _ _ HS6.out hown4 hg4
            have HIN := Lib.hid (show EdIn st.toNat labs.length ⟨z1, 0, z2⟩ from ⟨⟨hz10, by simp only; omega⟩, ⟨hz20, by simp only; omega⟩, by simp only; omega, by simp only; omega⟩)
            have HS7 := Lib.hid ((HS6.out.push HIN.out hr4 hu4).mono (show N + 1202 + 4 * (n - m) + 2 + 2 ≤ N + 1202 + 4 * (n - (m - 1)) by omega))
            clear hown4 hg4 hat4 hlt4 HG hr4 hu4 HS6 t1 t2 t3 s0 hs5 hu5 hs6 hu6 PK1 PK2 HSD HIN
            go_wp2_with fail
            go_roundw
            case rel => exact ⟨m - 1, F ++ [⟨z1, 0, z2⟩], g4, c4, by omega, by go_num, by simp, Lib.hid (by simp; omega), HS7⟩
            case measure => simp [intOf]; omega
        · have hmi : ¬ (0 : Int) < (m : Int) := by omega
          have HS8 := Lib.hid (HS.out.mono (show N + 1202 + 4 * (n - m) ≤ N + 1400 by omega))
          have s0 := HS8.out.sys.cell 0 _ rfl
          have s1 := HS8.out.sys.cell 1 _ rfl
          have s2 := HS8.out.sys.cell 2 _ rfl
          simp only at s0 s1 s2
          have HF9 := Lib.hid (show F.length ≤ 62 from by omega)
          have MK := Lib.hid (show Calls Tryz.prog 29 #[ei st, ei ini, .slice c1 labs.length y1, .slice (some ⟨gf, 0, none⟩) F.length cf] wG (fun e w' => SysD ⟨st, ini, labs, F.foldl putE []⟩ wG e w' ∧ Upd [] wG w') from by
            obtain ⟨fE, q2, -, -⟩ := row_E1 HS8.out.row
            exact makeD st ini labs F HSS.out.labs (fun e he => (HS8.out.each e he).2.2) (by have := HF9.out; omega) _ _ f1 fE wG HS8.out.labs q2)
          clear HS HFL hFl hm0
          go_wp2_with fail
          refine MK.out.mono ?_
          rintro _ w9 ⟨⟨v1, v2, g1, g2, rfl, r1, r2, o1, o2, b1, b2, bd⟩, hu9⟩
          have hres := HS8.out.res.upd hu9 (by simp)
          unfold RowAt at hres
          have HOUT := Lib.hid (fun cs => DrOut2.of (S := ⟨st, ini, labs, F.foldl putE []⟩) hpl HS8.out.src HS8.out.upd (by have := HS8.out.big; have := HS8.out.sys.lt; omega) hu9 r1 r2 o1 o2 b1 b2 bd (DrSys2.of HSS.out (by have := HF9.out; omega) HS8.out.each) cs)
          obtain ⟨d1, y3, hv1, -, -⟩ := slF1_open r1
          obtain ⟨d2, y4, hv2, -, -⟩ := slF3_open r2
          simp only at hv1 hv2
          subst hv1 hv2
          clear MK HS8 hu9 r1 r2 o1 o2 b1 b2 bd s0 s1 s2
          go_wp2_with (first
            | (refine wpList_store_row rfl 27 _ _ rfl w.heap.size #[ei st, ei ini, .slice d1 _ y3, .slice d2 _ y4] rfl rfl 27 _ hres Lts_size rfl (by simp [Value.oneCell']) ?_)
            | fail)
          have hC := setRow_heap w9 w.heap.size _ #[ei st, ei ini, .slice d1 labs.length y3, .slice d2 (F.foldl putE []).length y4] _ _ hres
          refine bodyPost_ret (results_cell_row Tryz.results15 _ _ w.heap.size 27 _ (0, 0) _ rfl hC Tryz.underlying27 rfl Lts_size) rfl ?_
          exact HOUT.out _

/-- a drawn system in new memory; nothing that was there is written. -/
def LtsOut (w : World) (e : Ending) (w' : World) : Prop := (∃ S, SysD S w e w' ∧ DrSys2 S) ∧ Upd [] w w'
theorem SysD.mono {S : Sys} {w0 w w' : World} {e : Ending} (h : SysD S w e w') (hs : w0.heap.size ≤ w.heap.size) : SysD S w0 e w' := by
  obtain ⟨v1, v2, f1, f2, h1, h2, h3, h4, h5, h6, h7, h8⟩ := h
  exact ⟨v1, v2, f1, f2, h1, h2, h3, h4, h5, fun b hb => by have := h6 b hb; omega, fun b hb => by have := h7 b hb; omega, h8⟩

set_option maxRecDepth 20000 in
set_option maxHeartbeats 4000000 in
theorem b10Lts (v : Value) (code : List Int) (w : World) (fc : List Nat) (hR : R_B fc w [v] code) (hb : bytesOk code) (hl : code.length ≤ 1048576) :
    Calls Tryz.prog 5 #[v] w (LtsOut w) := by
  have HW0 := Lib.hid (show ∀ W, w.alloc (.cells #[ei 0, ei 0, .slice none 0 0, .slice none 0 0] 27) = W → R_B fc W [v] code ∧ Upd [] w W ∧ RowAt W w.heap.size 27 [ei 0, ei 0, .slice none 0 0, .slice none 0 0] ∧ W.heap.size = w.heap.size + 1 from fun W hW => by
    subst hW
    exact ⟨R_Bk.upd hR ((Upd.refl [] _).alloc _) (by simp), (Upd.refl _ _).alloc _, RowAt.new w 27 [ei 0, ei 0, .slice none 0 0, .slice none 0 0], by simp⟩)
  clear hR
  go_enter Tryz.func5, Tryz.ntmps5
  go_upto_region 1 with (fail)
  obtain ⟨wA, hwA⟩ : ∃ wA, w.alloc (.cells #[.int .i64 0, .int .i64 0, .slice none 0 0, .slice none 0 0] 27) = wA := ⟨_, rfl⟩
  rw [hwA]
  obtain ⟨hRA, huA, hrA, hzA⟩ := HW0.out wA hwA
  clear hwA HW0
  have S1 := Lib.hid (srcFrom v code wA fc hRA hb hl)
  have HA := Lib.hid (And.intro huA hrA)
  have HZA := Lib.hid hzA
  clear hRA huA hrA hzA hb
  go_wp2_with fail
  refine S1.out.mono ?_
  rintro _ w1 ⟨⟨p, rfl, hs1, hp⟩, hu1⟩
  have S2 := Lib.hid (drawLts2 0 p w1 (by omega) hs1)
  have HU1 := Lib.hid hu1
  have HP := Lib.hid hp
  clear S1 hs1 hu1 hp
  go_wp2_with fail
  refine S2.out.mono ?_
  rintro _ w2 ⟨⟨S, hD, hS⟩, hs2, hu2⟩
  have hsz1 := HU1.out.size
  have hpp := HP.out
  have hzz := HZA.out
  have hu12 : Upd [p] wA w2 := (HU1.out.mono (by simp)).trans hu2
  have hres := HA.out.2.upd hu12 (by simp; omega)
  unfold RowAt at hres
  obtain ⟨v1, v2, f1, f2, rfl, r1, r2, o1, o2, b1, b2, bd⟩ := hD
  have HU2 := Lib.hid (show Upd [] w w2 from (HA.out.1.trans HU1.out).fresh hu2 (fun b hb => Or.inl (by simp at hb; omega)))
  have HOUT := Lib.hid (show ∀ cs, LtsOut w (.returned (.agg #[ei S.st, ei S.ini, v1, v2])) (w2.setRow w.heap.size cs) from fun cs => by
    have DB : Upd [w.heap.size] w2 (w2.setRow w.heap.size cs) := (Upd.refl _ _).row (Or.inr (by simp)) _
    have d1 : ∀ b ∈ f1, b ∉ [w.heap.size] := fun b hb hm => by have := b1 b hb; simp at hm; omega
    have d2 : ∀ b ∈ f2, b ∉ [w.heap.size] := fun b hb hm => by have := b2 b hb; simp at hm; omega
    exact ⟨⟨S, ⟨_, _, f1, f2, rfl, R_S1k.upd r1 DB d1, R_E1k.upd r2 DB d2, o1.upd DB d1, o2.upd DB d2, fun b hb => by have := b1 b hb; omega, fun b hb => by have := b2 b hb; omega, bd⟩, hS⟩, HU2.out.fresh DB (fun b hb => Or.inl (by simp at hb; omega))⟩)
  obtain ⟨d1, y3, hv1, -, -⟩ := slF1_open r1
  obtain ⟨d2, y4, hv2, -, -⟩ := slF3_open r2
  subst hv1 hv2
  clear S2 r1 r2 o1 o2 b1 b2 bd hS hs2 hu2 hu12 HA HZA HU1 HP
  obtain ⟨st, ini, labs, eds⟩ := S
  simp only at HOUT
  go_wp2_with (first
    | (refine wpList_store_row rfl 27 _ _ rfl w.heap.size #[ei st, ei ini, .slice d1 _ y3, .slice d2 _ y4] rfl rfl 27 _ hres Lts_size rfl (by simp [Value.oneCell']) ?_)
    | fail)
  have hC := setRow_heap w2 w.heap.size _ #[ei st, ei ini, .slice d1 labs.length y3, .slice d2 eds.length y4] _ _ hres
  refine bodyPost_ret (results_cell_row Tryz.results5 _ _ w.heap.size 27 _ (0, 0) _ rfl hC Tryz.underlying27 rfl Lts_size) rfl ?_
  exact HOUT.out _

end Go.Proofs.YtdnjjanacbkijaaGreatDoor

/-
  What the law FnLabels draws.
-/
namespace Go.Proofs.YtdnjjanacbkijaaGreatDoor
open Go.RowKit

def SrcText (N p : Nat) (w : World) (ps : List (List UInt8)) (e : Ending) (w' : World) : Prop := (∃ s, e = .returned (es s) ∧ s ∈ ps) ∧ IsSrc N p w' ∧ Upd [p] w w'

set_option maxRecDepth 20000 in
set_option maxHeartbeats 2000000 in
theorem srcText (N p : Nat) (v : Value) (ps : List (List UInt8)) (w : World) (fp : List Nat) (hN : N ≤ 900000000) (h : IsSrc N p w) (hR : RS fp w [v] ps) (h0 : 0 < ps.length) (h1 : ps.length ≤ 1000) (hp : p ∉ fp) :
    Calls Tryz.prog 67 #[.pointer (some ⟨p, 0, none⟩), v] w (SrcText (N + 2) p w ps) := by
  obtain ⟨a, cap, rfl, h2, h3, -⟩ := slF1_open hR
  unfold maxLen at h3
  have S1 := Lib.hid (srcPick N p ps.length w hN h (by omega) (by omega))
  have HR := Lib.hid hR
  have HP := Lib.hid hp
  clear h hR hp
  go_enter Tryz.func67, Tryz.ntmps67
  go_wp2_with fail
  refine S1.out.mono ?_
  rintro e w1 ⟨⟨x, rfl, hx0, hx1⟩, hs1, hu1⟩
  obtain ⟨q, rfl⟩ : ∃ q : Nat, x = q := ⟨x.toNat, by omega⟩
  have hq : q < ps.length := by omega
  obtain ⟨a', cap', hv, -, -, hc⟩ := slF1_open (RSk.upd HR.out hu1 (fun b hb hm => by simp at hm; subst hm; exact HP.out hb))
  cases hv
  obtain ⟨b, o, rfl, -, -, c1⟩ := hc q hq
  have HS := Lib.hid (And.intro hs1 hu1)
  have HM := Lib.hid (show ps[q] ∈ ps from List.getElem_mem hq)
  generalize ps[q] = y at *
  clear hc hs1 hu1 S1
  go_wp2_with fail
  go_ret
  exact ⟨⟨_, rfl, HM.out⟩, HS.out.1, HS.out.2⟩

end Go.Proofs.YtdnjjanacbkijaaGreatDoor

/-
  Formulas drawn: patterns.
-/
namespace Go.Proofs.YtdnjjanacbkijaaGreatDoor
open Go.RowKit

theorem labOfD {name s : List UInt8} {vs : List Int} (h : labT name vs = some s) : isLab s = true := by
  unfold isLab
  rw [readF_labT h]; rfl
def patLr : List (List UInt8) := [[], [116, 97, 117], [97, 42], [98], [99, 40, 49, 41], [115, 101, 110, 100, 40, 49, 44, 50, 41], [122, 122]]
/-- the patterns that are drawn. -/
def patDr : List (List UInt8) := patLr ++ [[97], [99], [103, 101, 116, 40, 48, 41], [103, 101, 116, 40, 49, 41], [98, 42], [99, 42], [103, 101, 116, 42]]
theorem itoa1 (n : Nat) (h : n < 10) : Lib.itoa (n : Int) = [UInt8.ofNat (48 + n)] := by
  have : Lib.itoa (n : Int) = Lib.decDigits n := by simp [Lib.itoa]
  rw [this, Lib.decDigits_one h]
theorem lab_name {s : List UInt8} (h : actF s = true) (h2 : s ≠ tauL) : isLab s = true := labOfD (name := s) (vs := []) (by unfold labT; rw [if_neg h2]; simp [h])
theorem lab_one {s : List UInt8} {n : Nat} (h : actF s = true) (h2 : s ≠ tauL) (hn : n < 10) : isLab (((s ++ [40]) ++ [UInt8.ofNat (48 + n)]) ++ [41]) = true := labOfD (name := s) (vs := [(n : Int)]) (by
  unfold labT
  rw [if_neg h2]
  have hv : isV (n : Int) = true := by unfold isV; exact inB_mk ⟨by omega, by omega⟩
  simp [h, hv, txtV, joinC, itoa1 n hn])
theorem lab_two {s : List UInt8} {n m : Nat} (h : actF s = true) (h2 : s ≠ tauL) (hn : n < 10) (hm : m < 10) : isLab (((s ++ [40]) ++ ([UInt8.ofNat (48 + n)] ++ [44] ++ [UInt8.ofNat (48 + m)])) ++ [41]) = true := labOfD (name := s) (vs := [(n : Int), (m : Int)]) (by
  unfold labT
  rw [if_neg h2]
  have hv : isV (n : Int) = true := by unfold isV; exact inB_mk ⟨by omega, by omega⟩
  have hv2 : isV (m : Int) = true := by unfold isV; exact inB_mk ⟨by omega, by omega⟩
  simp [h, hv, hv2, txtV, joinC, itoa1 n hn, itoa1 m hm])
theorem patF_lab {s : List UInt8} (h : isLab s = true) : patF s = true := by unfold patF; rw [h]; simp
theorem patF_star {s : List UInt8} (h : actF s = true) : patF (s ++ [42]) = true := by unfold patF; simp [h]
theorem lab_tau : isLab tauL = true := labOfD (name := tauL) (vs := []) (by simp [labT])
theorem patDr_ok : ∀ s ∈ patDr, patF s = true ∧ s.length ≤ 9 := by
  intro s hs
  simp only [patDr, patLr, List.cons_append, List.nil_append, List.mem_cons, List.not_mem_nil, or_false] at hs
  rcases hs with h | h | h | h | h | h | h | h | h | h | h | h | h | h <;> subst h
  · exact ⟨by decide, by decide⟩
  · exact ⟨patF_lab lab_tau, by decide⟩
  · exact ⟨patF_star (s := [97]) (by decide), by decide⟩
  · exact ⟨patF_lab (lab_name (by decide) (by decide)), by decide⟩
  · exact ⟨patF_lab (lab_one (s := [99]) (n := 1) (by decide) (by decide) (by decide)), by decide⟩
  · exact ⟨patF_lab (lab_two (s := [115, 101, 110, 100]) (n := 1) (m := 2) (by decide) (by decide) (by decide) (by decide)), by decide⟩
  · exact ⟨patF_lab (lab_name (by decide) (by decide)), by decide⟩
  · exact ⟨patF_lab (lab_name (by decide) (by decide)), by decide⟩
  · exact ⟨patF_lab (lab_name (by decide) (by decide)), by decide⟩
  · exact ⟨patF_lab (lab_one (s := [103, 101, 116]) (n := 0) (by decide) (by decide) (by decide)), by decide⟩
  · exact ⟨patF_lab (lab_one (s := [103, 101, 116]) (n := 1) (by decide) (by decide) (by decide)), by decide⟩
  · exact ⟨patF_star (s := [98]) (by decide), by decide⟩
  · exact ⟨patF_star (s := [99]) (by decide), by decide⟩
  · exact ⟨patF_star (s := [103, 101, 116]) (by decide), by decide⟩
/-- the labels of a drawn system are labels. -/
theorem NamL.isLab {L : List (List UInt8)} (h : NamL L) : ∀ x ∈ L, isLab x = true := fun x hx => by
  rcases h.mem x hx with rfl | h
  · exact lab_tau
  · rcases lst5_cases h with rfl | rfl | rfl | rfl | rfl
    · exact lab_name (by decide) (by decide)
    · exact lab_name (by decide) (by decide)
    · exact lab_name (by decide) (by decide)
    · exact lab_one (s := [103, 101, 116]) (n := 0) (by decide) (by decide) (by decide)
    · exact lab_one (s := [103, 101, 116]) (n := 1) (by decide) (by decide) (by decide)
theorem NamL.pat {L : List (List UInt8)} (h : NamL L) : ∀ x ∈ L, x ∈ patDr ∧ (x ≠ tauL → x.take (openAt x) ++ [42] ∈ patDr) := fun x hx => by
  rcases h.mem x hx with rfl | h
  · exact ⟨by decide, fun h => absurd rfl h⟩
  · rcases lst5_cases h with rfl | rfl | rfl | rfl | rfl <;> exact ⟨by decide, fun _ => by decide⟩

set_option maxRecDepth 20000 in
theorem labelNameD (s : List UInt8) (w : World) (hl : s.length ≤ 1000) : Calls Tryz.prog 68 #[es s] w fun e w' => e = .returned (es (s.take (openAt s))) ∧ w = w' := by
  have S1 := Lib.hid (openS s w (by omega))
  have hle : openAt s ≤ s.length := (List.takeWhile_prefix _).length_le
  obtain ⟨n, hn⟩ : ∃ n : Nat, openAt s = n := ⟨_, rfl⟩
  have hx := extract_list s 0 n
  rw [List.drop_zero, Nat.sub_zero] at hx
  rw [hn] at S1 hle ⊢
  clear hn
  have hni : (n : Int) ≤ (s.length : Int) := by omega
  go_enter Tryz.func68, Tryz.ntmps68
  go_wp2_with fail
  refine S1.out.mono ?_
  rintro _ w1 ⟨rfl, rfl⟩
  clear S1
  go_wp2_with fail
  go_ret
  exact ⟨rfl, rfl⟩

/-- a pattern is drawn. -/
def PatOut (N p : Nat) (w : World) (e : Ending) (w' : World) : Prop := (∃ s, e = .returned (es s) ∧ s ∈ patDr) ∧ IsSrc N p w' ∧ Upd [p] w w'

set_option maxRecDepth 20000 in
set_option maxHeartbeats 4000000 in
theorem patD (N p : Nat) (v : Value) (L : List (List UInt8)) (f : List Nat) (w : World) (hN : N ≤ 800000) (h : IsSrc N p w) (hR : R_S1 f w [v] L) (hL : NamL L) (hp : p ∉ f) :
    Calls Tryz.prog 54 #[.pointer (some ⟨p, 0, none⟩), v] w (PatOut (N + 10) p w) := by
  have hlen := hL.len
  have S1 := Lib.hid (srcText N p v L w f (by omega) h hR (by omega) (by omega) hp)
  have HP := Lib.hid hL.pat
  have HZ := Lib.hid hL.size
  have hpl := h.lt
  clear h hR hL hp
  go_enter Tryz.func54, Tryz.ntmps54
  go_wp2_with fail
  refine S1.out.mono ?_
  rintro _ w1 ⟨⟨lab, rfl, hm⟩, hs1, hu1⟩
  have S2 := Lib.hid (srcPick (N + 2) p 8 w1 (by omega) hs1 (by omega) (by omega))
  have hin := (HP.out lab hm).1
  have HST := Lib.hid (HP.out lab hm).2
  have hsz := (HZ.out lab hm).2
  have HIN := Lib.hid hin
  have HU1 := Lib.hid hu1
  clear S1 hs1 hu1 hm hin HP HZ
  go_wp2_with fail
  refine S2.out.mono ?_
  rintro _ w2 ⟨⟨x, rfl, hx0, hx1⟩, hs2, hu2⟩
  have HS2 := Lib.hid (And.intro hs2 (HU1.out.trans hu2))
  clear S2 hs2 hu2 HU1
  have HFIN := Lib.hid (show ∀ s, s ∈ patDr → PatOut (N + 10) p w (.returned (es s)) w2 from fun s hs => ⟨⟨s, rfl, hs⟩, HS2.out.1.mono (by omega), HS2.out.2⟩)
  by_cases h0 : x = 0
  · subst h0
    go_wp2_with fail
    go_ret
    exact HFIN.out [] (by decide)
  · have q0 : (x == 0) = false := by simpa using h0
    by_cases h1 : x = 1
    · subst h1
      by_cases ht : lab = tauL
      · have hq : (lab != [116, 97, 117]) = false := by rw [ht]; rfl
        have hq2 : (lab == [116, 97, 117]) = true := by rw [ht]; rfl
        clear ht
        go_wp2_with fail
        go_ret
        exact HFIN.out lab HIN.out
      · have hq : (lab != [116, 97, 117]) = true := by simpa [tauL] using ht
        have hq2 : (lab == [116, 97, 117]) = false := by simpa [tauL] using ht
        have hstar := HST.out ht
        have S3 := Lib.hid (labelNameD lab w2 (by omega))
        obtain ⟨nm, hnm⟩ : ∃ nm, lab.take (openAt lab) = nm := ⟨_, rfl⟩
        rw [hnm] at S3 hstar
        have hnl : nm.length ≤ 6 := by rw [← hnm, List.length_take]; omega
        obtain ⟨P, hP⟩ : ∃ P, nm ++ [42] = P := ⟨_, rfl⟩
        have hcat : (ByteArray.mk nm.toArray ++ ByteArray.mk #[42]) = ByteArray.mk P.toArray := by rw [← hP]; exact ByteArray.mk_append_mk nm [42]
        have n1 : ¬ (9223372036854775807 < nm.length + 1) := by omega
        rw [hP] at hstar
        have HST2 := Lib.hid hstar
        clear ht hnm hP hstar
        go_wp2_with fail
        refine S3.out.mono ?_
        rintro _ w3 ⟨rfl, rfl⟩
        clear S3
        go_wp2_with fail
        go_ret
        exact HFIN.out P HST2.out
    · have q1 : (x == 1) = false := by simpa using h1
      by_cases h2 : x = 2
      · subst h2
        obtain ⟨fl, hfl, -, hge⟩ := new_lit (enc := es) w2 9 patLr (by simp [maxLen, patLr])
        have hsl := HS2.out.1.upd ((Upd.refl [] w2).alloc (.cells (patLr.map es).toArray 9))
        have P3 := Lib.hid (srcText (N + 2 + 2) p _ patLr _ fl (by omega) hsl hfl (by decide) (by decide) (fun hm => by have := hge p hm; have := HS2.out.1.lt; omega))
        have HUL := Lib.hid (HS2.out.2.alloc (.cells (patLr.map es).toArray 9))
        clear hfl hge hsl HS2 HFIN
        go_wp2_with fail
        refine P3.out.mono ?_
        rintro _ w3 ⟨⟨s, rfl, hs⟩, hs3, hu3⟩
        have HF := Lib.hid (show PatOut (N + 10) p w (.returned (es s)) w3 from ⟨⟨s, rfl, List.mem_append_left _ hs⟩, hs3.mono (by omega), HUL.out.trans hu3⟩)
        clear P3 hs hs3 hu3 HUL
        go_wp2_with fail
        go_ret
        exact HF.out
      · have q2 : (x == 2) = false := by simpa using h2
        clear h0 h1 h2
        go_wp2_with fail
        go_ret
        exact HFIN.out lab HIN.out

end Go.Proofs.YtdnjjanacbkijaaGreatDoor

/-
  Formulas drawn: l14DrawDeep, B10Modal.
-/
namespace Go.Proofs.YtdnjjanacbkijaaGreatDoor
open Go.RowKit

/-- a node of a drawn formula. -/
def NdD (n : Nd) : Prop := KdM n ∧ n.vr = 0 ∧ n.lb ∈ patDr ∧ (n.kd < 4 → n.lb = [] ∧ n.nt = false)
theorem NdD.mod {n : Nd} (h : NdD n) : modB n = false := by
  obtain ⟨h1, h2, h3, h4⟩ := h
  have hk : inB n.kd 0 5 = true := inB_mk ⟨h1.1, h1.2⟩
  have hf : fieldsF n = true := by
    unfold fieldsF
    cases hm : modF n.kd with
    | true => exact (patDr_ok _ h3).1
    | false =>
      have hlt : n.kd < 4 := by
        unfold modF at hm
        have a1 := h1.1
        have a2 := h1.2
        simp at hm
        omega
      obtain ⟨e1, e2⟩ := h4 hlt
      simp [e1, e2]
  unfold modB
  rw [hk, hf, h2]; rfl
theorem shape_mx {x : Tr Nd} (h : MX x) : ∀ (m : Int) (r : List Nd), 1 ≤ m → shapeF arI m (flatT x ++ r) = shapeF arI (m - 1) r := by
  induction h with
  | leaf t ht =>
    intro m r hm
    have ha : arI t.kd = 0 := by rcases ht with h | h <;> rw [h] <;> rfl
    simp only [flatT, flatTs, List.cons_append, List.nil_append, shapeF, ha]
    rw [if_neg (by omega), show m + 0 - 1 = m - 1 by omega]
  | two t ht _ _ ih1 ih2 =>
    intro m r hm
    have ha : arI t.kd = 2 := by rcases ht with h | h <;> rw [h] <;> rfl
    simp only [flatT, flatTs, List.cons_append, List.append_nil, List.append_assoc, shapeF, ha]
    rw [if_neg (by omega), ih1 _ _ (by omega), ih2 _ _ (by omega)]
    congr 1; omega
  | one t ht _ ih =>
    intro m r hm
    have ha : arI t.kd = 1 := by rcases ht with h | h <;> rw [h] <;> rfl
    simp only [flatT, flatTs, List.cons_append, List.append_nil, shapeF, ha]
    rw [if_neg (by omega), ih _ _ (by omega)]
    congr 1; omega
theorem modOk_of {x : Tr Nd} (h : MX x) (hn : ∀ n ∈ flatT x, NdD n) (hl : (flatT x).length ≤ 200) : modOk (flatT x) = true := by
  unfold modOk
  have hp := flatT_pos x
  have hs : shapeF arI 1 (flatT x) = true := by
    have := shape_mx h 1 [] (by omega)
    rw [List.append_nil] at this
    rw [this]; rfl
  rw [hs, inB_mk ⟨by omega, by omega⟩]
  simp only [Bool.true_and, Bool.not_eq_true']
  exact List.any_eq_false.2 fun n hh => by rw [(hn n hh).mod]; decide

def lenD : Nat → Nat
  | 0 => 1
  | d + 1 => 2 * lenD d + 1
theorem lenD_pos (d : Nat) : 1 ≤ lenD d := by cases d <;> simp [lenD]
/-- choices and nodes that are still due, by the items that are. -/
def csD (d : Nat) : Nat → Nat
  | 0 => 60 * lenD d
  | 1 => 30 * lenD d
  | _ => 0
def msD (d : Nat) : Nat → Nat
  | 0 => 2 * lenD d
  | 1 => lenD d
  | _ => 0
theorem csD_step {d k : Nat} (h0 : 0 < k) (h2 : k ≤ 2) : csD d k + 30 * lenD d ≤ csD d (k - 1) ∧ msD d k + lenD d ≤ msD d (k - 1) ∧ csD d k + 30 * lenD d ≤ 60 * lenD d ∧ msD d k + lenD d ≤ 2 * lenD d := by
  rcases (by omega : k = 1 ∨ k = 2) with h | h <;> subst h <;> simp [csD, msD] <;> omega
theorem flatTs_of {xs : List (Tr Nd)} {n : Nd} (h : n ∈ flatTs xs) : ∃ T ∈ xs, n ∈ flatT T := by
  induction xs with
  | nil => cases h
  | cons x xs ih =>
    rw [flatTs] at h
    rcases List.mem_append.1 h with h | h
    · exact ⟨x, by simp, h⟩
    · obtain ⟨T, h1, h2⟩ := ih h
      exact ⟨T, by simp [h1], h2⟩
/-- what is drawn: a formula in new memory. -/
def DeepOut (N p d : Nat) (w : World) (e : Ending) (w' : World) : Prop :=
  (∃ (v' : Value) (x : Tr Nd), e = .returned v' ∧ MX x ∧ (∀ n ∈ flatT x, NdD n) ∧ (flatT x).length ≤ lenD d ∧ New R_F1 w w' v' (flatT x)) ∧ IsSrc N p w' ∧ Upd [p] w w'

/-- the state while the items of a node are drawn. -/
structure DgSt (N p B : Nat) (v : Value) (f : List Nat) (L : List (List UInt8)) (M : List Nd) (g cap : Nat) (w wr : World) : Prop where
  row : wr.ownsRow B 53 4 (.slice (some ⟨g, 0, none⟩) M.length cap) M.length (M.flatMap encN)
  labs : R_S1 f wr [v] L
  fl : ∀ b ∈ f, b < B
  pf : p ∉ f
  src : IsSrc N p wr
  upd : Upd [p] w wr
  lt : p < w.heap.size
  big : w.heap.size ≤ B
theorem DgSt.call {N N' p B : Nat} {v : Value} {f : List Nat} {L : List (List UInt8)} {M : List Nd} {g cap : Nat} {w wr w1 : World} (h : DgSt N p B v f L M g cap w wr) (hs : IsSrc N' p w1) (hu : Upd [p] wr w1) : DgSt N' p B v f L M g cap w w1 :=
  ⟨ownsRow_keep h.row (fun b hb => hu.block b (h.row.lt b hb).2 (fun hm => by have := (h.row.lt b hb).1; have := h.lt; have := h.big; simp at hm; omega)), R_S1k.upd h.labs hu (fun b hb hm => by simp at hm; subst hm; exact h.pf hb), h.fl, h.pf, hs, h.upd.trans hu, h.lt, h.big⟩
theorem DgSt.grow {N p B : Nat} {v : Value} {f : List Nat} {L : List (List UInt8)} {M M2 : List Nd} {g cap : Nat} {w wr w4 : World} (h : DgSt N p B v f L M g cap w wr) {g4 c4 : Nat}
    (hown : w4.ownsRow B 53 4 (.slice (some ⟨g4, 0, none⟩) (M.length + M2.length) c4) (M.length + M2.length) (M.flatMap encN ++ M2.flatMap encN)) (hg : wr.grownBy w4 (some g)) : DgSt N p B v f L (M ++ M2) g4 c4 w w4 := by
  have hB : B ≤ g := (h.row.lt g rfl).1
  have h1 := h.lt
  have h2 := h.big
  have hu : Upd [g] wr w4 := (Upd.refl [g] wr).grown hg (fun b hb => Or.inr (by simpa using hb.symm))
  refine ⟨by rw [List.length_append, List.flatMap_append]; exact hown, R_S1k.upd h.labs hu (fun b hb hm => by have := h.fl b hb; simp at hm; omega), h.fl, h.pf, h.src.other hu (fun b hb => by simp at hb; omega), h.upd.fresh hu (fun b hb => Or.inl (by simp at hb; omega)), h1, h2⟩
theorem DgSt.new {N p B : Nat} {v : Value} {f : List Nat} {L : List (List UInt8)} {M : List Nd} {g cap : Nat} {w wr : World} (h : DgSt N p B v f L M g cap w wr) : New R_F1 w wr (.slice (some ⟨g, 0, none⟩) M.length cap) M := by
  obtain ⟨fp, h1, h2, h3, -⟩ := Flat.ofOwns h.row
  exact ⟨fp, ⟨_, rfl, h1⟩, h2, fun b hb => by have := h3 b hb; have := h.big; omega⟩
theorem DgSt.mono {N N' p B : Nat} {v : Value} {f : List Nat} {L : List (List UInt8)} {M : List Nd} {g cap : Nat} {w wr : World} (h : DgSt N p B v f L M g cap w wr) (hN : N ≤ N') : DgSt N' p B v f L M g cap w wr := ⟨h.row, h.labs, h.fl, h.pf, h.src.mono hN, h.upd, h.lt, h.big⟩
theorem DgSt.cap {N p B : Nat} {v : Value} {f : List Nat} {L : List (List UInt8)} {M : List Nd} {g cap : Nat} {w wr : World} (h : DgSt N p B v f L M g cap w wr) : M.length ≤ cap ∧ cap ≤ 9223372036854775807 := by
  rcases h.row.2 with ⟨h0, -⟩ | ⟨g', cap', cur, hv, -, -, h3, h4, -⟩
  · cases h0
  · cases hv; unfold maxLen at h4; exact ⟨h3, by omega⟩
/-- the state behind the literal of one node. -/
theorem DgSt.lit {N p : Nat} {v : Value} {f : List Nat} {L : List (List UInt8)} {w wS : World} (n : Nd) (hl : R_S1 f wS [v] L) (hf : ∀ b ∈ f, b < wS.heap.size) (hp : p ∉ f) (hs : IsSrc N p wS) (hu : Upd [p] w wS) (hlt : p < w.heap.size) :
    DgSt N p wS.heap.size v f L [n] wS.heap.size 1 w (wS.alloc (.cells #[ei n.kd, ei n.vr, es n.lb, .bool n.nt] 53)) := by
  have hlit := World.ownsRow_lit (base := wS.heap.size) (e := 53) (size := 4) wS #[ei n.kd, ei n.vr, es n.lb, .bool n.nt] 1 (Nat.le_refl _) (by simp [maxLen]) (by simp)
  have u : Upd [] wS (wS.alloc (.cells #[ei n.kd, ei n.vr, es n.lb, .bool n.nt] 53)) := (Upd.refl _ _).alloc _
  exact ⟨by simpa using hlit, R_S1k.upd hl u (by simp), hf, hp, hs.upd u, hu.trans (u.mono (by simp)), hlt, hu.size⟩

set_option maxRecDepth 20000 in
set_option maxHeartbeats 8000000 in
theorem drawDeep (d : Nat) : ∀ (N p : Nat) (v : Value) (L : List (List UInt8)) (f : List Nat) (w : World), d ≤ 10 → N + 30 * lenD d ≤ 700000 → lenD d ≤ 1000 → IsSrc N p w → R_S1 f w [v] L → NamL L → p ∉ f →
    Calls Tryz.prog 30 #[.pointer (some ⟨p, 0, none⟩), v, .int .i64 d] w (DeepOut (N + 30 * lenD d) p d w) := by
  obtain ⟨i0, ji, jz0, jz1, jz2⟩ := info_parts Tryz.infoNd
  induction d with
  | zero =>
    intro N p v L f w hd10 hN hd h hR hL hp
    have hld : lenD 0 = 1 := rfl
    have hlt := R_S1k.lt hR
    have hpl := h.lt
    have HFW := Lib.hid (And.intro hlt hp)
    have HLB := Lib.hid (fun W (hu : Upd [p] w W) => show R_S1 f W [v] L from R_S1k.upd hR hu (fun b hb hm => by simp at hm; subst hm; exact hp hb))
    obtain ⟨a0, c0, hv0, -, -⟩ := slF1_open hR
    obtain ⟨fl, hfl, -, hge⟩ := new_lit (enc := fun n => ei n) w 2 [0, 1, 2, 3, 4, 4, 5, 5] (by simp [maxLen])
    have hsl := h.upd ((Upd.refl [] w).alloc (.cells #[ei 0, ei 1, ei 2, ei 3, ei 4, ei 4, ei 5, ei 5] 2))
    have S1 := Lib.hid (amongD N p (.slice (some ⟨w.heap.size, 0, none⟩) 8 8) [0, 1, 2, 3, 4, 4, 5, 5] (w.alloc (.cells #[ei 0, ei 1, ei 2, ei 3, ei 4, ei 4, ei 5, ei 5] 2)) fl (by omega) hsl hfl (by simp) (by simp) (fun hm => by have := hge p hm; omega))
    have HLU := Lib.hid (show Upd [p] w (w.alloc (.cells #[ei 0, ei 1, ei 2, ei 3, ei 4, ei 4, ei 5, ei 5] 2)) from (Upd.refl _ _).alloc _)
    clear hfl hge hsl h hR hlt hL hp
    subst hv0
    go_enter Tryz.func30, Tryz.ntmps30
    have hd0 : (((0 : Nat) : Int) == 0) = true := rfl
    go_wp2_with fail
    refine S1.out.mono ?_
    rintro _ w2 ⟨⟨x0, rfl, -⟩, hs2, hu2⟩
    have S2 := Lib.hid (srcPick (N + 2) p 2 w2 (by omega) hs2 (by omega) (by omega))
    have HU2 := Lib.hid (HLU.out.trans hu2)
    clear S1 hs2 hu2 HLU
    go_wp2_with fail
    refine S2.out.mono ?_
    rintro _ w3 ⟨⟨x, rfl, hx0, hx1⟩, hs3, hu3⟩
    have HU3 := Lib.hid (HU2.out.trans hu3)
    have HS3 := Lib.hid hs3
    clear S2 hs3 hu3 HU2
    have hx5 : 0 ≤ x ∧ x < 2 := by omega
    have q4 : (x == 4) = false := beq_eq_false_iff_ne.2 (by omega)
    have q5 : (x == 5) = false := beq_eq_false_iff_ne.2 (by omega)
    have HAR := Lib.hid (show arS x = 0 from by
      rcases (by omega : x = 0 ∨ x = 1) with h | h <;> rw [h] <;> rfl)
    have HNW := Lib.hid (show ∀ T, ∃ wN, w3.alloc (.cells #[ei x, ei 0, es [], .bool false] T) = wN ∧ Upd [] w3 wN ∧ Own [w3.heap.size] wN ∧ wN.cell? ⟨w3.heap.size, 0, none⟩ = some (ei x) ∧ wN.cell? ⟨w3.heap.size, 1, none⟩ = some (ei 0) ∧ wN.cell? ⟨w3.heap.size, 2, none⟩ = some (es []) ∧ wN.cell? ⟨w3.heap.size, 3, none⟩ = some (.bool false) from fun T =>
      ⟨_, rfl, (Upd.refl _ _).alloc _, own_new _ _ _, cell_new _ _ _ _ rfl 0 _ rfl, cell_new _ _ _ _ rfl 1 _ rfl, cell_new _ _ _ _ rfl 2 _ rfl, cell_new _ _ _ _ rfl 3 _ rfl⟩)
    go_upto_region 5 with (fail)
    obtain ⟨wN, hwN, uN, oN, n0, n1, n2, n3⟩ := HNW.out _
    have hwN2 : w3.alloc (.cells #[.int .i64 x, .int .i64 0, .string ⟨#[]⟩, .bool false] _) = wN := hwN
    rw [hwN2]
    have HUN := Lib.hid (HU3.out.trans (uN.mono (by simp)))
    have HSN := Lib.hid (HS3.out.upd uN)
    clear hwN hwN2 HNW uN HS3 HU3
    have HS5 := Lib.hid (show ∀ T, T = 53 → DgSt (N + 2 + 2) p wN.heap.size (.slice a0 L.length c0) f L [⟨x, 0, [], false⟩] wN.heap.size 1 w (wN.alloc (.cells #[ei x, ei 0, es [], .bool false] T)) from fun T hT => by
      subst hT
      exact DgSt.lit ⟨x, 0, [], false⟩ (HLB.out wN (HUN.out)) (fun b hb => by have := HFW.out.1 b hb; have := HUN.out.size; omega) HFW.out.2 HSN.out HUN.out hpl)
    have AR := Lib.hid (fun W => arityS x W)
    clear HSN HUN
    go_wp2_with fail
    refine (AR.out _).mono ?_
    rintro _ w6 ⟨rfl, rfl⟩
    rw [HAR.out]
    clear AR
    go_wp2_with fail
    go_loopw [9, 10] (fun av kv wr => av = .slice (some ⟨wN.heap.size, 0, none⟩) 1 1 ∧ kv = .int .i64 0 ∧ wr = wN.alloc (.cells #[ei x, ei 0, es [], .bool false] 53)) (fun _ _ _ => 0)
    case atStart => exact ⟨rfl, rfl, rfl⟩
    case round =>
      obtain ⟨rfl, rfl, hw⟩ := hrel
      subst hw
      have HF := Lib.hid (show DeepOut (N + 30 * lenD 0) p 0 w (.returned (.slice (some ⟨wN.heap.size, 0, none⟩) 1 1)) (wN.alloc (.cells #[ei x, ei 0, es [], .bool false] 53)) from by
        have h := HS5.out _ rfl
        refine ⟨⟨_, .mk ⟨x, 0, [], false⟩ [], rfl, .leaf _ (by simp only; omega), fun n hn => ?_, by simp [flatT, flatTs, lenD], h.new⟩, h.src.mono (by omega), h.upd⟩
        simp [flatT, flatTs] at hn
        subst hn
        exact ⟨⟨by simp only; omega, by simp only; omega⟩, rfl, (show ([] : List UInt8) ∈ patDr by decide), fun _ => ⟨rfl, rfl⟩⟩)
      clear HS5
      go_wp2_with fail
      go_ret
      exact HF.out
  | succ d ih =>
    intro N p v L f w hd10 hN hd h hR hL hp
    have hld : lenD (d + 1) = 2 * lenD d + 1 := rfl
    have hlp := lenD_pos d
    have HNL := Lib.hid hL
    have HIH := Lib.hid (fun (N' : Nat) (W : World) (h1 : N' + 30 * lenD d ≤ 700000) (h2 : IsSrc N' p W) (h3 : R_S1 f W [v] L) => ih N' p v L f W (by omega) h1 (by omega) h2 h3 HNL.out hp)
    clear ih
    have hlt := R_S1k.lt hR
    have hpl := h.lt
    have HFW := Lib.hid (And.intro hlt hp)
    have HLB := Lib.hid (fun W (hu : Upd [p] w W) => show R_S1 f W [v] L from R_S1k.upd hR hu (fun b hb hm => by simp at hm; subst hm; exact hp hb))
    obtain ⟨a0, c0, hv0, -, -⟩ := slF1_open hR
    obtain ⟨fl, hfl, -, hge⟩ := new_lit (enc := fun n => ei n) w 2 [0, 1, 2, 3, 4, 4, 5, 5] (by simp [maxLen])
    have hsl := h.upd ((Upd.refl [] w).alloc (.cells #[ei 0, ei 1, ei 2, ei 3, ei 4, ei 4, ei 5, ei 5] 2))
    have S1 := Lib.hid (amongD N p (.slice (some ⟨w.heap.size, 0, none⟩) 8 8) [0, 1, 2, 3, 4, 4, 5, 5] (w.alloc (.cells #[ei 0, ei 1, ei 2, ei 3, ei 4, ei 4, ei 5, ei 5] 2)) fl (by omega) hsl hfl (by simp) (by simp) (fun hm => by have := hge p hm; omega))
    have HLU := Lib.hid (show Upd [p] w (w.alloc (.cells #[ei 0, ei 1, ei 2, ei 3, ei 4, ei 4, ei 5, ei 5] 2)) from (Upd.refl _ _).alloc _)
    clear hfl hge hsl h hR hlt hL hp
    subst hv0
    go_enter Tryz.func30, Tryz.ntmps30
    have hd0 : (((d + 1 : Nat) : Int) == 0) = false := beq_eq_false_iff_ne.2 (by omega)
    have hdw : IntKind.i64.wrap (((d + 1 : Nat) : Int) - 1) = (d : Int) := by rw [IntKind.wrap_i64]; omega
    generalize ((d + 1 : Nat) : Int) = dd at *
    go_wp2_with fail
    refine S1.out.mono ?_
    rintro _ w3 ⟨⟨x, rfl, hx⟩, hs3, hu3⟩
    have hx5 : 0 ≤ x ∧ x ≤ 5 := by simp at hx; omega
    have HU3 := Lib.hid (HLU.out.trans hu3)
    have HS3 := Lib.hid hs3
    clear S1 hs3 hu3 HLU hx
    by_cases hm : x = 4 ∨ x = 5
    · have q45 : (x == 4) = false → (x == 5) = true := fun h => by
        rcases hm with h1 | h1
        · rw [h1] at h; cases h
        · rw [h1]; rfl
      obtain ⟨b4, hb4⟩ : ∃ b, (x == 4) = b := ⟨_, rfl⟩
      have HAR := Lib.hid (show arS x = 1 from by rcases hm with h | h <;> rw [h] <;> rfl)
      have HKD := Lib.hid hm
      have HU3S := Lib.hid (show w.heap.size ≤ w3.heap.size ∧ p < w.heap.size from ⟨HU3.out.size, hpl⟩)
      clear hm
      cases b4 with
      | true =>
        clear q45
        have HNW := Lib.hid (show ∀ T, ∃ wN, w3.alloc (.cells #[ei x, ei 0, es [], .bool false] T) = wN ∧ Upd [] w3 wN ∧ Own [w3.heap.size] wN ∧ wN.cell? ⟨w3.heap.size, 0, none⟩ = some (ei x) ∧ wN.cell? ⟨w3.heap.size, 1, none⟩ = some (ei 0) ∧ wN.cell? ⟨w3.heap.size, 2, none⟩ = some (es []) ∧ wN.cell? ⟨w3.heap.size, 3, none⟩ = some (.bool false) from fun T =>
          ⟨_, rfl, (Upd.refl _ _).alloc _, own_new _ _ _, cell_new _ _ _ _ rfl 0 _ rfl, cell_new _ _ _ _ rfl 1 _ rfl, cell_new _ _ _ _ rfl 2 _ rfl, cell_new _ _ _ _ rfl 3 _ rfl⟩)
        go_upto_region 5 with (fail)
        obtain ⟨wN, hwN, uN, oN, n0, n1, n2, n3⟩ := HNW.out _
        have hwN2 : w3.alloc (.cells #[.int .i64 x, .int .i64 0, .string ⟨#[]⟩, .bool false] _) = wN := hwN
        rw [hwN2]
        have HUN := Lib.hid (HU3.out.trans (uN.mono (by simp)))
        have HSN := Lib.hid (HS3.out.upd uN)
        clear hwN hwN2 HNW uN HS3 HU3
        have S4 := Lib.hid (patD (N + 2) p (.slice a0 L.length c0) L f wN (by omega) HSN.out (HLB.out wN HUN.out) HNL.out HFW.out.2)
        have hXp : w3.heap.size ∉ [p] := by have := HU3S.out; simp; omega
        go_wp2_with fail
        refine S4.out.mono ?_
        rintro _ w4 ⟨⟨s, rfl, hs⟩, hs4, hu4⟩
        have HPS := Lib.hid hs
        have m0 := hu4.keepF hXp n0
        have m1 := hu4.keepF hXp n1
        have m2 := hu4.keepF hXp n2
        have m3 := hu4.keepF hXp n3
        have o4 := oN.upd hu4 (by simpa using hXp)
        have z2 := o4.frozen (List.mem_singleton.2 rfl) 2
        have HU4 := Lib.hid (HUN.out.trans hu4)
        have HS4 := Lib.hid hs4
        clear S4 hs hs4 hu4 HUN HSN n0 n1 n2 n3 oN
        go_upto_region 7 with (fail)
        obtain ⟨wP, hwP⟩ : ∃ wP, w4.setCell ⟨w3.heap.size, 2, none⟩ (es s) = wP := ⟨_, rfl⟩
        rw [hwP]
        have huP : Upd [w3.heap.size] w4 wP := by rw [← hwP]; exact (Upd.refl _ _).setCell (by simp) _
        have hp3 : p < w3.heap.size := by have := HU3S.out; omega
        have k0 : wP.cell? ⟨w3.heap.size, 0, none⟩ = some (ei x) := by rw [← hwP, World.cell?_setCell_other _ _ _ _ (by simp)]; exact m0
        have k1 : wP.cell? ⟨w3.heap.size, 1, none⟩ = some (ei 0) := by rw [← hwP, World.cell?_setCell_other _ _ _ _ (by simp)]; exact m1
        have k2 : wP.cell? ⟨w3.heap.size, 2, none⟩ = some (es s) := by rw [← hwP]; exact World.cell?_setCell_same _ _ _ m2
        have k3 : wP.cell? ⟨w3.heap.size, 3, none⟩ = some (.bool false) := by rw [← hwP, World.cell?_setCell_other _ _ _ _ (by simp)]; exact m3
        have oP : Own [w3.heap.size] wP := by rw [← hwP]; exact o4.setCell _ _
        have hsP := HS4.out.other huP (fun b hb => by simp at hb; omega)
        have HUP := Lib.hid (show Upd [p] w wP from HU4.out.fresh huP (fun b hb => Or.inl (by have := HU3S.out; simp at hb; omega)))
        have S5 := Lib.hid (srcOne (N + 2 + 10) p 6 wP (by omega) hsP (by omega) (by omega))
        clear hwP huP m0 m1 m2 m3 o4 z2 HS4 HU4 hsP
        go_wp2_with fail
        refine S5.out.mono ?_
        rintro _ w5 ⟨⟨nb, rfl⟩, hs5, hu5⟩
        have m0 := hu5.keepF hXp k0
        have m1 := hu5.keepF hXp k1
        have m2 := hu5.keepF hXp k2
        have m3 := hu5.keepF hXp k3
        have o5 := oP.upd hu5 (by simpa using hXp)
        have z3 := o5.frozen (List.mem_singleton.2 rfl) 3
        have HU5 := Lib.hid (HUP.out.trans hu5)
        have HS55 := Lib.hid hs5
        clear S5 hs5 hu5 HUP k0 k1 k2 k3 oP
        go_upto_region 8 with (fail)
        obtain ⟨wQ, hwQ⟩ : ∃ wQ, w5.setCell ⟨w3.heap.size, 3, none⟩ (.bool nb) = wQ := ⟨_, rfl⟩
        rw [hwQ]
        have huQ : Upd [w3.heap.size] w5 wQ := by rw [← hwQ]; exact (Upd.refl _ _).setCell (by simp) _
        have k0 : wQ.cell? ⟨w3.heap.size, 0, none⟩ = some (ei x) := by rw [← hwQ, World.cell?_setCell_other _ _ _ _ (by simp)]; exact m0
        have k1 : wQ.cell? ⟨w3.heap.size, 1, none⟩ = some (ei 0) := by rw [← hwQ, World.cell?_setCell_other _ _ _ _ (by simp)]; exact m1
        have k2 : wQ.cell? ⟨w3.heap.size, 2, none⟩ = some (es s) := by rw [← hwQ, World.cell?_setCell_other _ _ _ _ (by simp)]; exact m2
        have k3 : wQ.cell? ⟨w3.heap.size, 3, none⟩ = some (.bool nb) := by rw [← hwQ]; exact World.cell?_setCell_same _ _ _ m3
        have HSQ := Lib.hid (HS55.out.other huQ (fun b hb => by simp at hb; omega))
        have HUQ := Lib.hid (show Upd [p] w wQ from HU5.out.fresh huQ (fun b hb => Or.inl (by have := HU3S.out; simp at hb; omega)))
        clear hwQ huQ m0 m1 m2 m3 o5 z3 HS55 HU5
        have HS5 := Lib.hid (show ∀ T, T = 53 → DgSt (N + 2 + 10 + 2) p (wQ).heap.size (.slice a0 L.length c0) f L [⟨x, 0, s, nb⟩] (wQ).heap.size 1 w ((wQ).alloc (.cells #[ei (⟨x, 0, s, nb⟩ : Nd).kd, ei (⟨x, 0, s, nb⟩ : Nd).vr, es (⟨x, 0, s, nb⟩ : Nd).lb, .bool (⟨x, 0, s, nb⟩ : Nd).nt] T)) from fun T hT => by
          subst hT
          exact DgSt.lit ⟨x, 0, s, nb⟩ (HLB.out (wQ) (HUQ.out)) (fun b hb => by have := HFW.out.1 b hb; have := HUQ.out.size; omega) HFW.out.2 HSQ.out HUQ.out hpl)
        simp only at HS5
        have AR := Lib.hid (fun W => arityS x W)
        obtain ⟨ND, hND⟩ : ∃ q : Nd, q = ⟨x, 0, s, nb⟩ := ⟨_, rfl⟩
        rw [← hND] at HS5
        have HDN := Lib.hid hND
        clear HSQ HUQ hND
        go_wp2_with fail
        refine (AR.out _).mono ?_
        rintro _ w6 ⟨rfl, rfl⟩
        rw [HAR.out]
        clear AR
        have HS6 := Lib.hid (HS5.out _ rfl)
        clear HS5
        go_wp2_with fail
        go_loopw [9, 10] (fun av kv wr => ∃ (k : Nat) (Ts : List (Tr Nd)) (M : List Nd) (g cap : Nat), k ≤ 2 ∧ kv = .int .i64 k ∧ av = .slice (some ⟨g, 0, none⟩) M.length cap ∧ Hid (M = ND :: flatTs Ts ∧ k + Ts.length = 1 ∧ ∀ T ∈ Ts, MX T ∧ ∀ n ∈ flatT T, NdD n) ∧ Hid (M.length ≤ 1 + msD d k) ∧ Hid (DgSt (N + 20 + csD d k) p (wQ).heap.size (.slice a0 L.length c0) f L M g cap w wr)) (fun _ kv _ => (intOf kv).toNat)
        case atStart => exact ⟨1, [], [ND], _, _, by omega, rfl, rfl, Lib.hid ⟨by simp [flatTs], by simp, by simp⟩, Lib.hid (by simp), Lib.hid (HS6.out.mono (by omega))⟩
        case round =>
          clear HS6
          obtain ⟨wG, rfl⟩ : ∃ wG : World, wG = wr := ⟨_, rfl⟩
          obtain ⟨k, Ts, M, g, cap, hk2, rfl, rfl, HM, HL9, HS⟩ := hrel
          have hcap := HS.out.cap
          by_cases hk : 0 < k
          · have hki : (0 : Int) < (k : Int) := by omega
            have hst := csD_step (d := d) hk hk2
            have HST := Lib.hid hst
            have hml := HL9.out
            have D1 := Lib.hid (HIH.out (N + 20 + csD d k) wG (by omega) HS.out.src HS.out.labs)
            have hwk : IntKind.i64.wrap ((k : Int) - 1) = ((k - 1 : Nat) : Int) := by rw [IntKind.wrap_i64]; omega
            go_wp2_with fail
            refine D1.out.mono ?_
            rintro _ w8 ⟨⟨v8, X, rfl, hX, hXn, hXl, fX, rX, -, -⟩, hs8, hu8⟩
            have HS8 := Lib.hid (HS.out.call hs8 hu8)
            have hXp := flatT_pos X
            obtain ⟨bl, ol, cl, rfl, l1, l2, l3, l4⟩ := slF_src rX (by omega)
            have HXX := Lib.hid (And.intro hX hXn)
            have HSRC := Lib.hid l4
            have H1C := Lib.hid (show ∀ u ∈ (flatT X).flatMap encN, u.oneCell' = true from fun u hu => by
              obtain ⟨t, -, ht⟩ := List.mem_flatMap.1 hu
              simp at ht
              rcases ht with rfl | rfl | rfl | rfl <;> rfl)
            have HFT := Lib.hid (show flatTs (Ts ++ [X]) = flatTs Ts ++ flatT X from by rw [flatTs_append]; simp [flatTs])
            have hro := HS8.out.row
            have HG := Lib.hid (fun (w4 : World) g4 c4 h1 h2 => HS8.out.grow (M2 := flatT X) (w4 := w4) (g4 := g4) (c4 := c4) h1 h2)
            have hB8 : (wQ).heap.size ≤ w8.heap.size := Nat.le_trans (HS8.out.row.lt g rfl).1 (Nat.le_of_lt (HS8.out.row.lt g rfl).2)
            obtain ⟨us, hus⟩ : ∃ us, M.flatMap encN = us := ⟨_, rfl⟩
            rw [hus] at hro HG
            obtain ⟨FX, hFX⟩ : ∃ FX, flatT X = FX := ⟨_, rfl⟩
            rw [hFX] at HXX HSRC H1C HFT HG hXp hXl l1 l3
            clear hus D1 hs8 hu8 rX l4 hX hXn HS hst
            have hmd := HST.out.2.1
            have hm2 := HST.out.2.2.2
            obtain ⟨NEWS, hNEWS⟩ : ∃ NEWS, FX.flatMap encN = NEWS := ⟨_, rfl⟩
            rw [hNEWS] at HSRC H1C HG l3
            rw [hFX]
            clear hNEWS
            go_wp2_with (first
              | (at_builtin; refine wpList_append_lies _ rfl _ _ 29 rfl (wQ).heap.size 53 i0 (.agg #[.int .i64 0, .int .i64 0, .string ⟨#[]⟩, .bool false]) 4 40 Tryz.underlying29 ji jz0 jz1 jz2 rfl (by decide) (.slice (some ⟨g, 0, none⟩) M.length cap) M.length us rfl hro ⟨bl, ol, none⟩ FX.length cl NEWS rfl l3 HSRC.out H1C.out (by omega) (by unfold maxLen; omega) (by omega) hB8 w8.heap.size rfl ?_)
              | fail)
            intro g4 c4 w4 hown4 hg4 hat4 hlt4
            have HS9 := Lib.hid ((HG.out w4 g4 c4 hown4 hg4).mono (show N + 20 + csD d k + 30 * lenD d ≤ N + 20 + csD d (k - 1) by have := HST.out.1; omega))
            have HM9 := Lib.hid (show M ++ FX = ND :: flatTs (Ts ++ [X]) ∧ k - 1 + (Ts ++ [X]).length = 1 ∧ ∀ T ∈ Ts ++ [X], MX T ∧ ∀ n ∈ flatT T, NdD n from by
              refine ⟨by rw [HFT.out, HM.out.1]; rfl, by have := HM.out.2.1; simp; omega, fun T hT => ?_⟩
              rcases List.mem_append.1 hT with hT | hT
              · exact HM.out.2.2 T hT
              · simp at hT
                rw [hT, hFX]
                exact HXX.out)
            have HL8 := Lib.hid (show (M ++ FX).length ≤ 1 + msD d (k - 1) from by rw [List.length_append]; omega)
            have hln : M.length + FX.length = (M ++ FX).length := by rw [List.length_append]
            clear hown4 hg4 hat4 hlt4 HG hro HS8 HM HFT HXX HSRC H1C
            rw [hln]
            go_wp2_with fail
            go_roundw
            case rel => exact ⟨k - 1, Ts ++ [X], M ++ FX, g4, c4, by omega, by go_num, rfl, HM9, HL8, HS9⟩
            case measure => simp [intOf]; omega
          · have hki : ¬ (0 : Int) < (k : Int) := by omega
            have hk0 : k = 0 := by omega
            have HF := Lib.hid (show DeepOut (N + 30 * lenD (d + 1)) p (d + 1) w (.returned (.slice (some ⟨g, 0, none⟩) M.length cap)) wG from by
              obtain ⟨h1, h2, h3⟩ := HM.out
              have hl9 := HL9.out
              have hS := HS.out
              rw [hk0] at hl9 hS h2
              simp only [msD, csD] at hl9 hS
              refine ⟨⟨_, .mk ND Ts, rfl, ?_, fun n hn => ?_, by rw [flatT, ← h1]; omega, by rw [flatT, ← h1]; exact hS.new⟩, hS.src.mono (by omega), hS.upd⟩
              · have hl1 : Ts.length = 1 := by omega
                obtain ⟨T, rfl⟩ := List.length_eq_one_iff.1 hl1
                exact .one _ (by rw [HDN.out]; exact HKD.out) (h3 T (by simp)).1
              · rw [flatT] at hn
                rcases List.mem_cons.1 hn with rfl | hn
                · rw [HDN.out]; exact ⟨⟨by simp only; omega, by simp only; omega⟩, rfl, HPS.out, fun h => absurd h (by have := HKD.out; simp only; omega)⟩
                · obtain ⟨T, hT, hnT⟩ := flatTs_of hn
                  exact (h3 T hT).2 n hnT)
            clear HM HL9 HS
            go_wp2_with fail
            go_ret
            exact HF.out
      | false =>
        have q5 := q45 hb4
        clear q45
        have HNW := Lib.hid (show ∀ T, ∃ wN, w3.alloc (.cells #[ei x, ei 0, es [], .bool false] T) = wN ∧ Upd [] w3 wN ∧ Own [w3.heap.size] wN ∧ wN.cell? ⟨w3.heap.size, 0, none⟩ = some (ei x) ∧ wN.cell? ⟨w3.heap.size, 1, none⟩ = some (ei 0) ∧ wN.cell? ⟨w3.heap.size, 2, none⟩ = some (es []) ∧ wN.cell? ⟨w3.heap.size, 3, none⟩ = some (.bool false) from fun T =>
          ⟨_, rfl, (Upd.refl _ _).alloc _, own_new _ _ _, cell_new _ _ _ _ rfl 0 _ rfl, cell_new _ _ _ _ rfl 1 _ rfl, cell_new _ _ _ _ rfl 2 _ rfl, cell_new _ _ _ _ rfl 3 _ rfl⟩)
        go_upto_region 5 with (fail)
        obtain ⟨wN, hwN, uN, oN, n0, n1, n2, n3⟩ := HNW.out _
        have hwN2 : w3.alloc (.cells #[.int .i64 x, .int .i64 0, .string ⟨#[]⟩, .bool false] _) = wN := hwN
        rw [hwN2]
        have HUN := Lib.hid (HU3.out.trans (uN.mono (by simp)))
        have HSN := Lib.hid (HS3.out.upd uN)
        clear hwN hwN2 HNW uN HS3 HU3
        have S4 := Lib.hid (patD (N + 2) p (.slice a0 L.length c0) L f wN (by omega) HSN.out (HLB.out wN HUN.out) HNL.out HFW.out.2)
        have hXp : w3.heap.size ∉ [p] := by have := HU3S.out; simp; omega
        go_wp2_with fail
        refine S4.out.mono ?_
        rintro _ w4 ⟨⟨s, rfl, hs⟩, hs4, hu4⟩
        have HPS := Lib.hid hs
        have m0 := hu4.keepF hXp n0
        have m1 := hu4.keepF hXp n1
        have m2 := hu4.keepF hXp n2
        have m3 := hu4.keepF hXp n3
        have o4 := oN.upd hu4 (by simpa using hXp)
        have z2 := o4.frozen (List.mem_singleton.2 rfl) 2
        have HU4 := Lib.hid (HUN.out.trans hu4)
        have HS4 := Lib.hid hs4
        clear S4 hs hs4 hu4 HUN HSN n0 n1 n2 n3 oN
        go_upto_region 7 with (fail)
        obtain ⟨wP, hwP⟩ : ∃ wP, w4.setCell ⟨w3.heap.size, 2, none⟩ (es s) = wP := ⟨_, rfl⟩
        rw [hwP]
        have huP : Upd [w3.heap.size] w4 wP := by rw [← hwP]; exact (Upd.refl _ _).setCell (by simp) _
        have hp3 : p < w3.heap.size := by have := HU3S.out; omega
        have k0 : wP.cell? ⟨w3.heap.size, 0, none⟩ = some (ei x) := by rw [← hwP, World.cell?_setCell_other _ _ _ _ (by simp)]; exact m0
        have k1 : wP.cell? ⟨w3.heap.size, 1, none⟩ = some (ei 0) := by rw [← hwP, World.cell?_setCell_other _ _ _ _ (by simp)]; exact m1
        have k2 : wP.cell? ⟨w3.heap.size, 2, none⟩ = some (es s) := by rw [← hwP]; exact World.cell?_setCell_same _ _ _ m2
        have k3 : wP.cell? ⟨w3.heap.size, 3, none⟩ = some (.bool false) := by rw [← hwP, World.cell?_setCell_other _ _ _ _ (by simp)]; exact m3
        have oP : Own [w3.heap.size] wP := by rw [← hwP]; exact o4.setCell _ _
        have hsP := HS4.out.other huP (fun b hb => by simp at hb; omega)
        have HUP := Lib.hid (show Upd [p] w wP from HU4.out.fresh huP (fun b hb => Or.inl (by have := HU3S.out; simp at hb; omega)))
        have S5 := Lib.hid (srcOne (N + 2 + 10) p 6 wP (by omega) hsP (by omega) (by omega))
        clear hwP huP m0 m1 m2 m3 o4 z2 HS4 HU4 hsP
        go_wp2_with fail
        refine S5.out.mono ?_
        rintro _ w5 ⟨⟨nb, rfl⟩, hs5, hu5⟩
        have m0 := hu5.keepF hXp k0
        have m1 := hu5.keepF hXp k1
        have m2 := hu5.keepF hXp k2
        have m3 := hu5.keepF hXp k3
        have o5 := oP.upd hu5 (by simpa using hXp)
        have z3 := o5.frozen (List.mem_singleton.2 rfl) 3
        have HU5 := Lib.hid (HUP.out.trans hu5)
        have HS55 := Lib.hid hs5
        clear S5 hs5 hu5 HUP k0 k1 k2 k3 oP
        go_upto_region 8 with (fail)
        obtain ⟨wQ, hwQ⟩ : ∃ wQ, w5.setCell ⟨w3.heap.size, 3, none⟩ (.bool nb) = wQ := ⟨_, rfl⟩
        rw [hwQ]
        have huQ : Upd [w3.heap.size] w5 wQ := by rw [← hwQ]; exact (Upd.refl _ _).setCell (by simp) _
        have k0 : wQ.cell? ⟨w3.heap.size, 0, none⟩ = some (ei x) := by rw [← hwQ, World.cell?_setCell_other _ _ _ _ (by simp)]; exact m0
        have k1 : wQ.cell? ⟨w3.heap.size, 1, none⟩ = some (ei 0) := by rw [← hwQ, World.cell?_setCell_other _ _ _ _ (by simp)]; exact m1
        have k2 : wQ.cell? ⟨w3.heap.size, 2, none⟩ = some (es s) := by rw [← hwQ, World.cell?_setCell_other _ _ _ _ (by simp)]; exact m2
        have k3 : wQ.cell? ⟨w3.heap.size, 3, none⟩ = some (.bool nb) := by rw [← hwQ]; exact World.cell?_setCell_same _ _ _ m3
        have HSQ := Lib.hid (HS55.out.other huQ (fun b hb => by simp at hb; omega))
        have HUQ := Lib.hid (show Upd [p] w wQ from HU5.out.fresh huQ (fun b hb => Or.inl (by have := HU3S.out; simp at hb; omega)))
        clear hwQ huQ m0 m1 m2 m3 o5 z3 HS55 HU5
        have HS5 := Lib.hid (show ∀ T, T = 53 → DgSt (N + 2 + 10 + 2) p (wQ).heap.size (.slice a0 L.length c0) f L [⟨x, 0, s, nb⟩] (wQ).heap.size 1 w ((wQ).alloc (.cells #[ei (⟨x, 0, s, nb⟩ : Nd).kd, ei (⟨x, 0, s, nb⟩ : Nd).vr, es (⟨x, 0, s, nb⟩ : Nd).lb, .bool (⟨x, 0, s, nb⟩ : Nd).nt] T)) from fun T hT => by
          subst hT
          exact DgSt.lit ⟨x, 0, s, nb⟩ (HLB.out (wQ) (HUQ.out)) (fun b hb => by have := HFW.out.1 b hb; have := HUQ.out.size; omega) HFW.out.2 HSQ.out HUQ.out hpl)
        simp only at HS5
        have AR := Lib.hid (fun W => arityS x W)
        obtain ⟨ND, hND⟩ : ∃ q : Nd, q = ⟨x, 0, s, nb⟩ := ⟨_, rfl⟩
        rw [← hND] at HS5
        have HDN := Lib.hid hND
        clear HSQ HUQ hND
        go_wp2_with fail
        refine (AR.out _).mono ?_
        rintro _ w6 ⟨rfl, rfl⟩
        rw [HAR.out]
        clear AR
        have HS6 := Lib.hid (HS5.out _ rfl)
        clear HS5
        go_wp2_with fail
        go_loopw [9, 10] (fun av kv wr => ∃ (k : Nat) (Ts : List (Tr Nd)) (M : List Nd) (g cap : Nat), k ≤ 2 ∧ kv = .int .i64 k ∧ av = .slice (some ⟨g, 0, none⟩) M.length cap ∧ Hid (M = ND :: flatTs Ts ∧ k + Ts.length = 1 ∧ ∀ T ∈ Ts, MX T ∧ ∀ n ∈ flatT T, NdD n) ∧ Hid (M.length ≤ 1 + msD d k) ∧ Hid (DgSt (N + 20 + csD d k) p (wQ).heap.size (.slice a0 L.length c0) f L M g cap w wr)) (fun _ kv _ => (intOf kv).toNat)
        case atStart => exact ⟨1, [], [ND], _, _, by omega, rfl, rfl, Lib.hid ⟨by simp [flatTs], by simp, by simp⟩, Lib.hid (by simp), Lib.hid (HS6.out.mono (by omega))⟩
        case round =>
          clear HS6
          obtain ⟨wG, rfl⟩ : ∃ wG : World, wG = wr := ⟨_, rfl⟩
          obtain ⟨k, Ts, M, g, cap, hk2, rfl, rfl, HM, HL9, HS⟩ := hrel
          have hcap := HS.out.cap
          by_cases hk : 0 < k
          · have hki : (0 : Int) < (k : Int) := by omega
            have hst := csD_step (d := d) hk hk2
            have HST := Lib.hid hst
            have hml := HL9.out
            have D1 := Lib.hid (HIH.out (N + 20 + csD d k) wG (by omega) HS.out.src HS.out.labs)
            have hwk : IntKind.i64.wrap ((k : Int) - 1) = ((k - 1 : Nat) : Int) := by rw [IntKind.wrap_i64]; omega
            go_wp2_with fail
            refine D1.out.mono ?_
            rintro _ w8 ⟨⟨v8, X, rfl, hX, hXn, hXl, fX, rX, -, -⟩, hs8, hu8⟩
            have HS8 := Lib.hid (HS.out.call hs8 hu8)
            have hXp := flatT_pos X
            obtain ⟨bl, ol, cl, rfl, l1, l2, l3, l4⟩ := slF_src rX (by omega)
            have HXX := Lib.hid (And.intro hX hXn)
            have HSRC := Lib.hid l4
            have H1C := Lib.hid (show ∀ u ∈ (flatT X).flatMap encN, u.oneCell' = true from fun u hu => by
              obtain ⟨t, -, ht⟩ := List.mem_flatMap.1 hu
              simp at ht
              rcases ht with rfl | rfl | rfl | rfl <;> rfl)
            have HFT := Lib.hid (show flatTs (Ts ++ [X]) = flatTs Ts ++ flatT X from by rw [flatTs_append]; simp [flatTs])
            have hro := HS8.out.row
            have HG := Lib.hid (fun (w4 : World) g4 c4 h1 h2 => HS8.out.grow (M2 := flatT X) (w4 := w4) (g4 := g4) (c4 := c4) h1 h2)
            have hB8 : (wQ).heap.size ≤ w8.heap.size := Nat.le_trans (HS8.out.row.lt g rfl).1 (Nat.le_of_lt (HS8.out.row.lt g rfl).2)
            obtain ⟨us, hus⟩ : ∃ us, M.flatMap encN = us := ⟨_, rfl⟩
            rw [hus] at hro HG
            obtain ⟨FX, hFX⟩ : ∃ FX, flatT X = FX := ⟨_, rfl⟩
            rw [hFX] at HXX HSRC H1C HFT HG hXp hXl l1 l3
            clear hus D1 hs8 hu8 rX l4 hX hXn HS hst
            have hmd := HST.out.2.1
            have hm2 := HST.out.2.2.2
            obtain ⟨NEWS, hNEWS⟩ : ∃ NEWS, FX.flatMap encN = NEWS := ⟨_, rfl⟩
            rw [hNEWS] at HSRC H1C HG l3
            rw [hFX]
            clear hNEWS
            go_wp2_with (first
              | (at_builtin; refine wpList_append_lies _ rfl _ _ 29 rfl (wQ).heap.size 53 i0 (.agg #[.int .i64 0, .int .i64 0, .string ⟨#[]⟩, .bool false]) 4 40 Tryz.underlying29 ji jz0 jz1 jz2 rfl (by decide) (.slice (some ⟨g, 0, none⟩) M.length cap) M.length us rfl hro ⟨bl, ol, none⟩ FX.length cl NEWS rfl l3 HSRC.out H1C.out (by omega) (by unfold maxLen; omega) (by omega) hB8 w8.heap.size rfl ?_)
              | fail)
            intro g4 c4 w4 hown4 hg4 hat4 hlt4
            have HS9 := Lib.hid ((HG.out w4 g4 c4 hown4 hg4).mono (show N + 20 + csD d k + 30 * lenD d ≤ N + 20 + csD d (k - 1) by have := HST.out.1; omega))
            have HM9 := Lib.hid (show M ++ FX = ND :: flatTs (Ts ++ [X]) ∧ k - 1 + (Ts ++ [X]).length = 1 ∧ ∀ T ∈ Ts ++ [X], MX T ∧ ∀ n ∈ flatT T, NdD n from by
              refine ⟨by rw [HFT.out, HM.out.1]; rfl, by have := HM.out.2.1; simp; omega, fun T hT => ?_⟩
              rcases List.mem_append.1 hT with hT | hT
              · exact HM.out.2.2 T hT
              · simp at hT
                rw [hT, hFX]
                exact HXX.out)
            have HL8 := Lib.hid (show (M ++ FX).length ≤ 1 + msD d (k - 1) from by rw [List.length_append]; omega)
            have hln : M.length + FX.length = (M ++ FX).length := by rw [List.length_append]
            clear hown4 hg4 hat4 hlt4 HG hro HS8 HM HFT HXX HSRC H1C
            rw [hln]
            go_wp2_with fail
            go_roundw
            case rel => exact ⟨k - 1, Ts ++ [X], M ++ FX, g4, c4, by omega, by go_num, rfl, HM9, HL8, HS9⟩
            case measure => simp [intOf]; omega
          · have hki : ¬ (0 : Int) < (k : Int) := by omega
            have hk0 : k = 0 := by omega
            have HF := Lib.hid (show DeepOut (N + 30 * lenD (d + 1)) p (d + 1) w (.returned (.slice (some ⟨g, 0, none⟩) M.length cap)) wG from by
              obtain ⟨h1, h2, h3⟩ := HM.out
              have hl9 := HL9.out
              have hS := HS.out
              rw [hk0] at hl9 hS h2
              simp only [msD, csD] at hl9 hS
              refine ⟨⟨_, .mk ND Ts, rfl, ?_, fun n hn => ?_, by rw [flatT, ← h1]; omega, by rw [flatT, ← h1]; exact hS.new⟩, hS.src.mono (by omega), hS.upd⟩
              · have hl1 : Ts.length = 1 := by omega
                obtain ⟨T, rfl⟩ := List.length_eq_one_iff.1 hl1
                exact .one _ (by rw [HDN.out]; exact HKD.out) (h3 T (by simp)).1
              · rw [flatT] at hn
                rcases List.mem_cons.1 hn with rfl | hn
                · rw [HDN.out]; exact ⟨⟨by simp only; omega, by simp only; omega⟩, rfl, HPS.out, fun h => absurd h (by have := HKD.out; simp only; omega)⟩
                · obtain ⟨T, hT, hnT⟩ := flatTs_of hn
                  exact (h3 T hT).2 n hnT)
            clear HM HL9 HS
            go_wp2_with fail
            go_ret
            exact HF.out
    · have q4 : (x == 4) = false := beq_eq_false_iff_ne.2 (by omega)
      have q5 : (x == 5) = false := beq_eq_false_iff_ne.2 (by omega)
      obtain ⟨a, ha⟩ : ∃ a : Nat, arS x = a := ⟨(arS x).toNat, by rcases (by omega : x = 0 ∨ x = 1 ∨ x = 2 ∨ x = 3) with h | h | h | h <;> rw [h] <;> rfl⟩
      have HAR := Lib.hid ha
      have HA2 := Lib.hid (show (a = 0 ∧ (x = 0 ∨ x = 1)) ∨ (a = 2 ∧ (x = 2 ∨ x = 3)) from by
        rcases (by omega : x = 0 ∨ x = 1 ∨ x = 2 ∨ x = 3) with h | h | h | h <;> rw [h] at ha <;> simp [arS] at ha <;> omega)
      have ha2 : a ≤ 2 := by rcases HA2.out with h | h <;> omega
      clear hm ha
      have HNW := Lib.hid (show ∀ T, ∃ wQ, w3.alloc (.cells #[ei x, ei 0, es [], .bool false] T) = wQ ∧ Upd [] w3 wQ ∧ Own [w3.heap.size] wQ ∧ wQ.cell? ⟨w3.heap.size, 0, none⟩ = some (ei x) ∧ wQ.cell? ⟨w3.heap.size, 1, none⟩ = some (ei 0) ∧ wQ.cell? ⟨w3.heap.size, 2, none⟩ = some (es []) ∧ wQ.cell? ⟨w3.heap.size, 3, none⟩ = some (.bool false) from fun T =>
        ⟨_, rfl, (Upd.refl _ _).alloc _, own_new _ _ _, cell_new _ _ _ _ rfl 0 _ rfl, cell_new _ _ _ _ rfl 1 _ rfl, cell_new _ _ _ _ rfl 2 _ rfl, cell_new _ _ _ _ rfl 3 _ rfl⟩)
      go_upto_region 5 with (fail)
      obtain ⟨wQ, hwQ, uN, oN, n0, n1, n2, n3⟩ := HNW.out _
      have hwQ2 : w3.alloc (.cells #[.int .i64 x, .int .i64 0, .string ⟨#[]⟩, .bool false] _) = wQ := hwQ
      rw [hwQ2]
      have HUQ := Lib.hid (HU3.out.trans (uN.mono (by simp)))
      have HSQ := Lib.hid (HS3.out.upd uN)
      clear hwQ hwQ2 HNW uN HS3 HU3
      have HS5 := Lib.hid (show ∀ T, T = 53 → DgSt (N + 2) p (wQ).heap.size (.slice a0 L.length c0) f L [⟨x, 0, [], false⟩] (wQ).heap.size 1 w ((wQ).alloc (.cells #[ei (⟨x, 0, [], false⟩ : Nd).kd, ei (⟨x, 0, [], false⟩ : Nd).vr, es (⟨x, 0, [], false⟩ : Nd).lb, .bool (⟨x, 0, [], false⟩ : Nd).nt] T)) from fun T hT => by
        subst hT
        exact DgSt.lit ⟨x, 0, [], false⟩ (HLB.out (wQ) (HUQ.out)) (fun b hb => by have := HFW.out.1 b hb; have := HUQ.out.size; omega) HFW.out.2 HSQ.out HUQ.out hpl)
      simp only at HS5
      have AR := Lib.hid (fun W => arityS x W)
      obtain ⟨ND, hND⟩ : ∃ q : Nd, q = ⟨x, 0, [], false⟩ := ⟨_, rfl⟩
      rw [← hND] at HS5
      have HDN := Lib.hid hND
      clear HSQ HUQ hND
      go_wp2_with fail
      refine (AR.out _).mono ?_
      rintro _ w6 ⟨rfl, rfl⟩
      rw [HAR.out]
      clear AR
      have HS6 := Lib.hid (HS5.out _ rfl)
      clear HS5
      go_wp2_with fail
      go_loopw [9, 10] (fun av kv wr => ∃ (k : Nat) (Ts : List (Tr Nd)) (M : List Nd) (g cap : Nat), k ≤ 2 ∧ kv = .int .i64 k ∧ av = .slice (some ⟨g, 0, none⟩) M.length cap ∧ Hid (M = ND :: flatTs Ts ∧ k + Ts.length = a ∧ ∀ T ∈ Ts, MX T ∧ ∀ n ∈ flatT T, NdD n) ∧ Hid (M.length ≤ 1 + msD d k) ∧ Hid (DgSt (N + 20 + csD d k) p (wQ).heap.size (.slice a0 L.length c0) f L M g cap w wr)) (fun _ kv _ => (intOf kv).toNat)
      case atStart => exact ⟨a, [], [ND], _, _, by omega, rfl, rfl, Lib.hid ⟨by simp [flatTs], by simp, by simp⟩, Lib.hid (by simp), Lib.hid (HS6.out.mono (by omega))⟩
      case round =>
        clear HS6
        obtain ⟨wG, rfl⟩ : ∃ wG : World, wG = wr := ⟨_, rfl⟩
        obtain ⟨k, Ts, M, g, cap, hk2, rfl, rfl, HM, HL9, HS⟩ := hrel
        have hcap := HS.out.cap
        by_cases hk : 0 < k
        · have hki : (0 : Int) < (k : Int) := by omega
          have hst := csD_step (d := d) hk hk2
          have HST := Lib.hid hst
          have hml := HL9.out
          have D1 := Lib.hid (HIH.out (N + 20 + csD d k) wG (by omega) HS.out.src HS.out.labs)
          have hwk : IntKind.i64.wrap ((k : Int) - 1) = ((k - 1 : Nat) : Int) := by rw [IntKind.wrap_i64]; omega
          go_wp2_with fail
          refine D1.out.mono ?_
          rintro _ w8 ⟨⟨v8, X, rfl, hX, hXn, hXl, fX, rX, -, -⟩, hs8, hu8⟩
          have HS8 := Lib.hid (HS.out.call hs8 hu8)
          have hXp := flatT_pos X
          obtain ⟨bl, ol, cl, rfl, l1, l2, l3, l4⟩ := slF_src rX (by omega)
          have HXX := Lib.hid (And.intro hX hXn)
          have HSRC := Lib.hid l4
          have H1C := Lib.hid (show ∀ u ∈ (flatT X).flatMap encN, u.oneCell' = true from fun u hu => by
            obtain ⟨t, -, ht⟩ := List.mem_flatMap.1 hu
            simp at ht
            rcases ht with rfl | rfl | rfl | rfl <;> rfl)
          have HFT := Lib.hid (show flatTs (Ts ++ [X]) = flatTs Ts ++ flatT X from by rw [flatTs_append]; simp [flatTs])
          have hro := HS8.out.row
          have HG := Lib.hid (fun (w4 : World) g4 c4 h1 h2 => HS8.out.grow (M2 := flatT X) (w4 := w4) (g4 := g4) (c4 := c4) h1 h2)
          have hB8 : (wQ).heap.size ≤ w8.heap.size := Nat.le_trans (HS8.out.row.lt g rfl).1 (Nat.le_of_lt (HS8.out.row.lt g rfl).2)
          obtain ⟨us, hus⟩ : ∃ us, M.flatMap encN = us := ⟨_, rfl⟩
          rw [hus] at hro HG
          obtain ⟨FX, hFX⟩ : ∃ FX, flatT X = FX := ⟨_, rfl⟩
          rw [hFX] at HXX HSRC H1C HFT HG hXp hXl l1 l3
          clear hus D1 hs8 hu8 rX l4 hX hXn HS hst
          have hmd := HST.out.2.1
          have hm2 := HST.out.2.2.2
          obtain ⟨NEWS, hNEWS⟩ : ∃ NEWS, FX.flatMap encN = NEWS := ⟨_, rfl⟩
          rw [hNEWS] at HSRC H1C HG l3
          rw [hFX]
          clear hNEWS
          go_wp2_with (first
            | (at_builtin; refine wpList_append_lies _ rfl _ _ 29 rfl (wQ).heap.size 53 i0 (.agg #[.int .i64 0, .int .i64 0, .string ⟨#[]⟩, .bool false]) 4 40 Tryz.underlying29 ji jz0 jz1 jz2 rfl (by decide) (.slice (some ⟨g, 0, none⟩) M.length cap) M.length us rfl hro ⟨bl, ol, none⟩ FX.length cl NEWS rfl l3 HSRC.out H1C.out (by omega) (by unfold maxLen; omega) (by omega) hB8 w8.heap.size rfl ?_)
            | fail)
          intro g4 c4 w4 hown4 hg4 hat4 hlt4
          have HS9 := Lib.hid ((HG.out w4 g4 c4 hown4 hg4).mono (show N + 20 + csD d k + 30 * lenD d ≤ N + 20 + csD d (k - 1) by have := HST.out.1; omega))
          have HM9 := Lib.hid (show M ++ FX = ND :: flatTs (Ts ++ [X]) ∧ k - 1 + (Ts ++ [X]).length = a ∧ ∀ T ∈ Ts ++ [X], MX T ∧ ∀ n ∈ flatT T, NdD n from by
            refine ⟨by rw [HFT.out, HM.out.1]; rfl, by have := HM.out.2.1; simp; omega, fun T hT => ?_⟩
            rcases List.mem_append.1 hT with hT | hT
            · exact HM.out.2.2 T hT
            · simp at hT
              rw [hT, hFX]
              exact HXX.out)
          have HL8 := Lib.hid (show (M ++ FX).length ≤ 1 + msD d (k - 1) from by rw [List.length_append]; omega)
          have hln : M.length + FX.length = (M ++ FX).length := by rw [List.length_append]
          clear hown4 hg4 hat4 hlt4 HG hro HS8 HM HFT HXX HSRC H1C
          rw [hln]
          go_wp2_with fail
          go_roundw
          case rel => exact ⟨k - 1, Ts ++ [X], M ++ FX, g4, c4, by omega, by go_num, rfl, HM9, HL8, HS9⟩
          case measure => simp [intOf]; omega
        · have hki : ¬ (0 : Int) < (k : Int) := by omega
          have hk0 : k = 0 := by omega
          have HF := Lib.hid (show DeepOut (N + 30 * lenD (d + 1)) p (d + 1) w (.returned (.slice (some ⟨g, 0, none⟩) M.length cap)) wG from by
            obtain ⟨h1, h2, h3⟩ := HM.out
            have hl9 := HL9.out
            have hS := HS.out
            rw [hk0] at hl9 hS h2
            simp only [msD, csD] at hl9 hS
            refine ⟨⟨_, .mk ND Ts, rfl, ?_, fun n hn => ?_, by rw [flatT, ← h1]; omega, by rw [flatT, ← h1]; exact hS.new⟩, hS.src.mono (by omega), hS.upd⟩
            · rcases HA2.out with ⟨ha, hx⟩ | ⟨ha, hx⟩
              · have : Ts = [] := List.eq_nil_of_length_eq_zero (by omega)
                subst this
                exact .leaf _ (by rw [HDN.out]; exact hx)
              · match Ts, (by omega : Ts.length = 2), h3 with
                | [T1, T2], _, h3 => exact .two _ (by rw [HDN.out]; exact hx) (h3 T1 (by simp)).1 (h3 T2 (by simp)).1
            · rw [flatT] at hn
              rcases List.mem_cons.1 hn with rfl | hn
              · rw [HDN.out]; exact ⟨⟨by simp only; omega, by simp only; omega⟩, rfl, (show ([] : List UInt8) ∈ patDr by decide), fun _ => ⟨rfl, rfl⟩⟩
              · obtain ⟨T, hT, hnT⟩ := flatTs_of hn
                exact (h3 T hT).2 n hnT)
          clear HM HL9 HS
          go_wp2_with fail
          go_ret
          exact HF.out

theorem lenD_mono {d : Nat} (h1 : 1 ≤ d) (h3 : d ≤ 3) : lenD d ≤ 15 := by
  rcases (by omega : d = 1 ∨ d = 2 ∨ d = 3) with h | h | h <;> subst h <;> decide
theorem DeepOut.up {N N' p d : Nat} {w0 w w' : World} {e : Ending} (h : DeepOut N p d w e w') (hN : N ≤ N') (hd : lenD d ≤ 15) (hu : Upd [p] w0 w) : DeepOut N' p 3 w0 e w' := by
  obtain ⟨⟨v, x, h1, h2, h3, h4, h5⟩, h6, h7⟩ := h
  exact ⟨⟨v, x, h1, h2, h3, Nat.le_trans h4 hd, h5.mono hu.size⟩, h6.mono hN, hu.trans h7⟩

set_option maxRecDepth 20000 in
theorem drawOkF (N p : Nat) (v : Value) (L : List (List UInt8)) (f : List Nat) (w : World) (hN : N ≤ 500000) (h : IsSrc N p w) (hR : R_S1 f w [v] L) (hL : NamL L) (hp : p ∉ f) :
    Calls Tryz.prog 16 #[.pointer (some ⟨p, 0, none⟩), v] w (DeepOut (N + 600) p 3 w) := by
  have S1 := Lib.hid (srcPick N p 3 w (by omega) h (by omega) (by omega))
  have D1 := Lib.hid (fun (d : Nat) (w1 : World) (hd1 : 1 ≤ d) (hd3 : d ≤ 3) (hs : IsSrc (N + 2) p w1) (hu : Upd [p] w w1) => show Calls Tryz.prog 30 #[.pointer (some ⟨p, 0, none⟩), v, .int .i64 d] w1 (DeepOut (N + 600) p 3 w) from by
    have hl := lenD_mono hd1 hd3
    refine (drawDeep d (N + 2) p v L f w1 (by omega) (by omega) (by omega) hs (R_S1k.upd hR hu (fun b hb hm => by simp at hm; subst hm; exact hp hb)) hL hp).mono fun e w' ho => ho.up (by omega) hl hu)
  clear h hR hL hp
  go_enter Tryz.func16, Tryz.ntmps16
  go_wp2_with fail
  refine S1.out.mono ?_
  rintro _ w1 ⟨⟨x, rfl, hx0, hx1⟩, hs1, hu1⟩
  obtain ⟨d, hd⟩ : ∃ d : Nat, (1 : Int) + x = d := ⟨(1 + x).toNat, by omega⟩
  have hd13 : 1 ≤ d ∧ d ≤ 3 := by omega
  have D2 := Lib.hid (D1.out d w1 hd13.1 hd13.2 hs1 hu1)
  clear S1 D1 hs1 hu1 hx0 hx1
  go_wp2_with fail
  refine D2.out.mono ?_
  rintro _ w2 ho
  have HO := Lib.hid ho
  obtain ⟨⟨v', X, rfl, -⟩, -⟩ := ho
  clear D2
  go_wp2_with fail
  go_ret
  exact HO.out

/-- what B10Modal draws. -/
def ModalOut (w : World) (e : Ending) (w' : World) : Prop :=
  (∃ (v' : Value) (x : Tr Nd), e = .returned v' ∧ MX x ∧ (∀ n ∈ flatT x, NdD n) ∧ (flatT x).length ≤ 15 ∧ New R_F1 w w' v' (flatT x)) ∧ Upd [] w w'

set_option maxRecDepth 20000 in
set_option maxHeartbeats 4000000 in
theorem b10Modal (v : Value) (code : List Int) (L : List (List UInt8)) (st ini : Int) (v1 v2 : Value) (w : World) (fc f1 : List Nat) (hR : R_B fc w [v] code) (hb : bytesOk code) (hl : code.length ≤ 1048576) (h1 : R_S1 f1 w [v1] L) (hN : NamL L) :
    Calls Tryz.prog 6 #[v, .agg #[ei st, ei ini, v1, v2]] w (ModalOut w) := by
  have HW0 := Lib.hid (show ∀ W T, w.alloc (.cells #[ei st, ei ini, v1, v2] T) = W → R_B fc W [v] code ∧ Upd [] w W ∧ R_S1 f1 W [v1] L ∧ W.cell? ⟨w.heap.size, 2, none⟩ = some v1 from fun W T hW => by
    subst hW
    exact ⟨R_Bk.upd hR ((Upd.refl [] _).alloc _) (by simp), (Upd.refl _ _).alloc _, R_S1k.upd h1 ((Upd.refl [] _).alloc _) (by simp), cell_new w _ _ _ rfl 2 _ rfl⟩)
  have hlt := R_S1k.lt h1
  obtain ⟨a1, c1, hv1, -, -⟩ := slF1_open h1
  subst hv1
  clear hR h1
  go_enter Tryz.func6, Tryz.ntmps6
  go_upto_region 1 with (fail)
  obtain ⟨wA, hwA⟩ : ∃ wA, w.alloc (.cells #[ei st, ei ini, .slice a1 L.length c1, v2] 27) = wA := ⟨_, rfl⟩
  rw [hwA]
  obtain ⟨hRA, huA, hlA, hcA⟩ := HW0.out wA _ hwA
  have S1 := Lib.hid (srcFrom v code wA fc hRA hb hl)
  have HA := Lib.hid (And.intro huA hlA)
  clear hwA HW0 hRA huA hlA hb
  go_wp2_with fail
  refine S1.out.mono ?_
  rintro _ w2 ⟨⟨p, rfl, hs, hp⟩, hu⟩
  have hc2 := hu.keep hcA
  have hl2 := R_S1k.upd HA.out.2 hu (by simp)
  have hszA := HA.out.1.size
  have HU2 := Lib.hid (HA.out.1.trans hu)
  have HL2 := Lib.hid hl2
  have HPF := Lib.hid (show p ∉ f1 from fun hm => by have := hlt p hm; omega)
  have hpw : w.heap.size ≤ p := by omega
  have S2 := Lib.hid (drawOkF 0 p (.slice a1 L.length c1) L f1 w2 (by omega) hs hl2 hN HPF.out)
  clear S1 hs hp hu hcA hl2
  go_wp2_with fail
  refine S2.out.mono ?_
  rintro _ w3 ⟨⟨v', X, rfl, h1, h2, h3, h4⟩, h5, h6⟩
  have HO := Lib.hid (show ModalOut w (.returned v') w3 from ⟨⟨v', X, rfl, h1, h2, Nat.le_trans h3 (by decide), h4.mono HU2.out.size⟩, HU2.out.fresh h6 (fun b hb => Or.inl (by simp at hb; omega))⟩)
  clear S2 h1 h2 h3 h4 h5 h6
  go_wp2_with fail
  go_ret
  exact HO.out

end Go.Proofs.YtdnjjanacbkijaaGreatDoor

/-
  Modal formulas: systems as they are drawn are systems.
-/
namespace Go.Proofs.YtdnjjanacbkijaaGreatDoor
open Go.RowKit

theorem lst5_sorted : lst5.Pairwise fun a b => bl a b = true := by
  unfold lst5
  repeat' constructor
  all_goals first | decide | (intro a h; simp at h; rcases h with rfl | rfl | rfl | rfl <;> decide)
theorem allF_mk3 {P : Nat → Bool} : ∀ {m k : Nat}, (∀ i, k ≤ i → i < k + m → P i = true) → allF P k m = true
  | 0, _, _ => rfl
  | m + 1, k, h => by
    rw [allF, h k (Nat.le_refl _) (by omega), Bool.true_and]
    exact allF_mk3 fun i h1 h2 => h i (by omega) (by omega)
theorem lst5_tau : ∀ x ∈ lst5, (x == tauL) = false := by
  intro x hx
  unfold lst5 at hx
  simp only [List.mem_cons, List.not_mem_nil, or_false] at hx
  rcases hx with rfl | rfl | rfl | rfl | rfl <;> decide
theorem pw_get {α : Type} {R : α → α → Prop} {l : List α} (h : l.Pairwise R) {i j : Nat} (hi : i < l.length) (hj : j < l.length) (hij : i < j) : R l[i] l[j] := List.pairwise_iff_getElem.1 h i j hi hj hij
theorem NamL.labsOk {L : List (List UInt8)} (h : NamL L) : labsOk L = true := by
  have hi := h.isLab
  have hl := h.len
  obtain ⟨sub, hs, h1, h2, rfl⟩ := h
  have hp := lst5_sorted.sublist hs
  unfold Go.Proofs.YtdnjjanacbkijaaGreatDoor.labsOk
  simp only [Bool.and_eq_true, decide_eq_true_eq]
  refine ⟨⟨by omega, by omega⟩, allF_mk3 fun i _ h4 => ?_⟩
  have h4' : i < (tauL :: sub).length := by omega
  unfold labP
  have hgd : ∀ j, (hj : j < (tauL :: sub).length) → (tauL :: sub).getD j [] = (tauL :: sub)[j] := fun j hj => by rw [List.getD_eq_getElem?_getD, List.getElem?_eq_getElem hj]; rfl
  rw [hgd i h4', hi _ (List.getElem_mem h4'), Bool.true_and]
  cases i with
  | zero => simp
  | succ i =>
    have h5 : i < sub.length := by simpa using h4'
    rw [List.getElem_cons_succ, lst5_tau _ (hs.subset (List.getElem_mem h5))]
    cases i with
    | zero => simp
    | succ i =>
      rw [hgd (i + 1 + 1 - 1) (by simp; omega)]
      simp only [Nat.add_sub_cancel, List.getElem_cons_succ]
      rw [pw_get hp (i := i) (j := i + 1) (by omega) h5 (by omega)]
      simp
theorem DrSys2.ok {S : Sys} (h : DrSys2 S) : sysOk S = true := by
  have hl := h.labs.len
  have hst := h.st0
  have hst1 := h.st1
  have hi0 := h.in0
  have hi1 := h.in1
  have hlen := h.len
  have hgd : ∀ j, (hj : j < S.eds.length) → S.eds.getD j ⟨0, 0, 0⟩ = S.eds[j] := fun j hj => by rw [List.getD_eq_getElem?_getD, List.getElem?_eq_getElem hj]; rfl
  have hE : allF (edP S) 0 S.eds.length = true := allF_mk3 fun i _ h4 => by
    have h4' : i < S.eds.length := by omega
    unfold edP
    have he := h.each _ (List.getElem_mem h4')
    unfold EdIn at he
    rw [hgd i h4']
    have q1 : inB S.eds[i].fr 0 (S.st - 1) = true := by unfold inB; simp; omega
    have q2 : inB S.eds[i].to 0 (S.st - 1) = true := by unfold inB; simp; omega
    have q3 : inB S.eds[i].lb 0 (S.labs.length - 1) = true := by unfold inB; simp; omega
    rw [q1, q2, q3]
    cases i with
    | zero => simp
    | succ i =>
      rw [hgd (i + 1 - 1) (by omega)]
      simp only [Nat.add_sub_cancel]
      rw [pw_get h.sorted (i := i) (j := i + 1) (by omega) h4' (by omega)]
      simp
  unfold sysOk
  rw [hE, h.labs.labsOk]
  have p1 : inB S.st 1 40 = true := by unfold inB; simp; omega
  have p2 : inB S.ini 0 (S.st - 1) = true := by unfold inB; simp; omega
  rw [p1, p2]
  simp; omega

end Go.Proofs.YtdnjjanacbkijaaGreatDoor
