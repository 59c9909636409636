/-
  slices.Concat of lists of expressions; the expressions of a summand: what the program's calls return.
-/
import Derived.Test.YtnfghgaadnobbaaGreatDoorLib4
import Derived.Test.YtnfghgaadnobbaaGreatDoorOpen
import Derived.Test.YtnfghgaadnobbaaGreatDoorLinV
import Derived.Lib.AppendZeros
import Derived.Lib.AppendZerosOnto
namespace Go.Proofs.YtnfghgaadnobbaaGreatDoor
open Go.RowKit

theorem slP_parts {α : Type} {R : Rp α} {fp : List Nat} {w : World} {v : Value} {xs : List α} (h : slP R fp w [v] xs) :
    ∃ us fb, Flat fb w v 1 xs.length us ∧ ∀ (i : Nat) (u : Value) (x : α), us[i]? = some u → xs[i]? = some x → ∃ f, R f w [u] x := by
  obtain ⟨v', us, fb, fps, hv, hF, hl, rfl, hr⟩ := h
  cases hv
  refine ⟨us, fb, hF, fun i u x hu hx => ?_⟩
  obtain ⟨hi, rfl⟩ := List.getElem?_eq_some_iff.1 hx
  exact ⟨fps[i], hr i hi u _ hu (by simp)⟩
theorem slP_join {α : Type} {R : Rp α} {fb : List Nat} {w : World} {v : Value} {xs : List α} {us : List Value} (hF : Flat fb w v 1 xs.length us) (h : ∀ (i : Nat) (u : Value) (x : α), us[i]? = some u → xs[i]? = some x → ∃ f, R f w [u] x) :
    ∃ fp, slP R fp w [v] xs := by
  have hul : us.length = xs.length := by obtain ⟨_, _, _, _, _, h3, _⟩ := hF; simpa using h3
  obtain ⟨fps, hl, hq⟩ := list_choice (fun i (f : List Nat) => ∀ u x, us[i]? = some u → xs[i]? = some x → R f w [u] x) xs.length (fun i hi => by
    obtain ⟨f, hf⟩ := h i us[i] xs[i] (by simp) (by simp)
    refine ⟨f, fun u x hu hx => ?_⟩
    rw [List.getElem?_eq_getElem (by omega)] at hu hx
    cases hu; cases hx; exact hf)
  exact ⟨fb ++ fps.flatten, v, us, fb, fps, rfl, hF, hl, rfl, fun i hi u f hu hf => hq i f hf u _ hu (by simp)⟩
theorem one_slP {α : Type} {n : Nat} {enc : α → List Value} {fb : List Nat} {w : World} {v : Value} {xs : List (List α)} {us : List Value} (hF : Flat fb w v 1 xs.length us) (h : ∀ (i : Nat) (u : Value) (x : List α), us[i]? = some u → xs[i]? = some x → ∃ f, slF n enc f w [u] x) : ∀ u ∈ us, u.oneCell' = true := by
  have hul : us.length = xs.length := by obtain ⟨_, _, _, _, _, h3, _⟩ := hF; simpa using h3
  intro u hu
  obtain ⟨i, hi, rfl⟩ := List.mem_iff_getElem.1 hu
  obtain ⟨f, v', hv, a, cap, hv2, -⟩ := h i us[i] xs[i] (by simp) (by simp)
  rw [List.cons.injEq] at hv
  rw [hv.1, hv2]; rfl

set_option maxRecDepth 20000 in
set_option maxHeartbeats 1000000 in
theorem growNilE (n : Nat) (h0 : 0 < n) (hn : n ≤ 2000000) (w : World) :
    Calls Tryz.prog 97 #[.slice none 0 0, .int .i64 n] w fun e w' => (∃ v', e = .returned v' ∧ w'.ownsRow w.heap.size 45 1 v' 0 []) ∧ Upd [] w w' := by
  obtain ⟨i0, hi, hz0, hz1, hz2⟩ := info_parts Tryz.infoTS
  have hold : (Builtin.firstCells i0.size 0 (.slice none 0 0)).run Tryz.prog w.drew = .ok #[] w.drew := run_firstCells_none w.drew i0.size 0 0 0
  have hrz : ∀ ty, (Builtin.append_ #[46, 3] ty #[.slice none 0 0, .int .i64 (n : Int)]).run Tryz.prog w =
      .ok (.slice (some ⟨w.heap.size, 0, none⟩) n (grownCap w n 0 45)) (w.drew.alloc (.cells ((#[] : Array Value) ++ Builtin.zeroCells (Value.slice none 0 0).cells n ++ Builtin.zeroCells (Value.slice none 0 0).cells (grownCap w n 0 45 - n)) 45)) := fun ty => by
    have h := Lib.run_append_grow_zeros w 46 3 ty 45 i0 (.slice none 0 0) .i64 .i64 Tryz.underlying46 Tryz.underlying3 hi hz0 none 0 0 [] (by simpa using hold) n h0 (by omega) (by omega) (by omega)
      (by rw [hz2]; omega) (growslice_fits (by omega) (by rw [hz2]; omega))
    simpa using h
  have hG := grownCap_ge w n 0 45
  have hG2 := grownCap_le_maxLen w n 0 45 (by unfold maxLen; omega)
  obtain ⟨G, hGe⟩ : ∃ G, G = grownCap w n 0 45 := ⟨_, rfl⟩
  rw [← hGe] at hrz hG hG2
  have HO := Lib.hid (show (w.drew.alloc (.cells ((#[] : Array Value) ++ Builtin.zeroCells (Value.slice none 0 0).cells n ++ Builtin.zeroCells (Value.slice none 0 0).cells (G - n)) 45)).ownsRow w.heap.size 45 1 (.slice (some ⟨w.heap.size, 0, none⟩) 0 G) 0 [] from by
    refine ⟨by simp, Or.inr ⟨w.heap.size, G, _, rfl, Nat.le_refl _, heap_alloc_new w.drew _, Nat.zero_le _, hG2, ?_, by simp⟩⟩
    simp [Builtin.zeroCells, Value.cells]; omega)
  have HU := Lib.hid (((Upd.refl [] w).drew).alloc (.cells ((#[] : Array Value) ++ Builtin.zeroCells (Value.slice none 0 0).cells n ++ Builtin.zeroCells (Value.slice none 0 0).cells (G - n)) 45))
  unfold maxLen at hG2
  clear hold hGe
  generalize (Obj.cells ((#[] : Array Value) ++ Builtin.zeroCells (Value.slice none 0 0).cells n ++ Builtin.zeroCells (Value.slice none 0 0).cells (G - n)) 45) = ob at *
  go_enter Tryz.func97, Tryz.ntmps97
  go_wp2_with (at_builtin; refine Lib.wpList_append_run _ rfl _ _ _ _ rfl _ _ rfl rfl _ _ (hrz _) ?_)
  all_goals
    go_ret
    exact ⟨⟨_, rfl, HO.out⟩, HU.out⟩

abbrev R_T3 : Rp (List (List (List Tm))) := slP R_T2
def lensP (l : List (List (List Tm))) : Nat := (l.map List.length).sum
theorem lensP_snoc (l : List (List (List Tm))) (k : Nat) (h : k < l.length) : lensP (l.take (k + 1)) = lensP (l.take k) + l[k].length := by
  unfold lensP; rw [List.take_succ_eq_append_getElem h, List.map_append, List.sum_append]; simp
theorem lensP_take (l : List (List (List Tm))) (k : Nat) : lensP (l.take k) ≤ lensP l := by
  conv => rhs; rw [← List.take_append_drop k l]
  unfold lensP; rw [List.map_append, List.sum_append]; omega
theorem lensP_flat (l : List (List (List Tm))) : l.flatten.length = lensP l := by unfold lensP; rw [List.length_flatten]

set_option maxRecDepth 20000 in
set_option maxHeartbeats 2000000 in
theorem concatE (v : Value) (xss : List (List (List Tm))) (w : World) (fp : List Nat) (h0 : 0 < lensP xss) (hn : lensP xss ≤ 2000000) (hR : R_T3 fp w [v] xss) :
    Calls Tryz.prog 84 #[v] w fun e w' => (∃ v' f', e = .returned v' ∧ R_T2 f' w' [v'] xss.flatten) ∧ Upd [] w w' := by
  obtain ⟨i0, hi, hz0, hz1, hz2⟩ := info_parts Tryz.infoTS
  obtain ⟨a, cap, rfl, h1, h2, hc⟩ := slP_open hR
  unfold maxLen at h2
  have HC := Lib.hid hc
  have HSN := Lib.hid (fun k (hk : k < xss.length) => lensP_snoc xss k hk)
  have HTK := Lib.hid (fun k => lensP_take xss k)
  have HFL := Lib.hid (fun k (hk : k < xss.length) => show (xss.take (k + 1)).flatten = (xss.take k).flatten ++ xss[k] by rw [List.take_succ_eq_append_getElem hk, List.flatten_append]; simp)
  have HLF := Lib.hid (fun k => lensP_flat (xss.take k))
  clear hR hc
  go_enter Tryz.func84, Tryz.ntmps84
  go_wp2_with fail
  go_loopw [3, 11] (fun pv iv wr => ∃ (k q : Nat), k ≤ xss.length ∧ iv = .int .i64 k ∧ pv = .int .i64 q ∧ q ≤ 2000000 ∧ Hid (q = lensP (xss.take k)) ∧ wr = w) (fun _ iv _ => xss.length - (intOf iv).toNat)
  case atStart => exact ⟨0, 0, Nat.zero_le _, rfl, rfl, by omega, Lib.hid (by simp [lensP]), rfl⟩
  case round =>
    obtain ⟨k, q, hk, rfl, rfl, hq, HQ, rfl⟩ := hrel
    by_cases hlt : k < xss.length
    · obtain ⟨b, off, u, f, rfl, -, -, p0, -, hr⟩ := HC.out k hlt
      have hkl : (k : Int) < (xss.length : Int) := by omega
      have hs := HSN.out k hlt
      have ht := HTK.out (k + 1)
      have hq2 : q + xss[k].length = lensP (xss.take (k + 1)) := by rw [hs, HQ.out]
      have hq3 : q + xss[k].length ≤ 2000000 := by omega
      have HQ2 := Lib.hid hq2
      obtain ⟨a2, c2, rfl, g1, g2, -⟩ := slP_open hr
      unfold maxLen at g2
      clear hs ht hq2 hr
      generalize xss[k].length = m at *
      go_wp2_with fail
      go_roundw
      case rel => exact ⟨k + 1, q + m, by omega, by go_num, by go_num, hq3, HQ2, by first | rfl | trivial⟩
      case measure => simp [intOf]; omega
    · obtain ⟨wo, rfl⟩ : ∃ wo : World, wo = wr := ⟨_, rfl⟩
      obtain rfl : k = xss.length := by omega
      have hq4 := HQ.out
      rw [List.take_length] at hq4
      have S1 := Lib.hid (growNilE q (by omega) hq wo)
      clear hq4 HQ
      go_wp2_with fail
      refine S1.out.mono ?_
      rintro e w1 ⟨⟨v1, rfl, hown⟩, hu1⟩
      have HO := Lib.hid hown
      have HU := Lib.hid hu1
      clear S1 hown hu1
      go_wp2_with fail
      go_loopw [6, 27] (fun cv iv wr => ∃ (k : Nat) (us : List Value), k ≤ xss.length ∧ iv = .int .i64 k ∧ Hid (Upd [] wo wr) ∧ Hid (wr.ownsRow wo.heap.size 45 1 cv (xss.take k).flatten.length us) ∧ Hid (∀ (i : Nat) (u : Value) (x : List Tm), us[i]? = some u → (xss.take k).flatten[i]? = some x → ∃ f, R_T1 f wo [u] x)) (fun _ iv _ => xss.length - (intOf iv).toNat)
      case atStart => exact ⟨0, [], Nat.zero_le _, rfl, HU, Lib.hid (by simpa using HO.out), Lib.hid (by simp)⟩
      case round =>
        clear HO HU
        obtain ⟨k, us, hk, rfl, HU, HO, HE⟩ := hrel
        by_cases hlt : k < xss.length
        · obtain ⟨b, off, u, f, rfl, -, hbl, p0, -, hr⟩ := HC.out k hlt
          have p0 := HU.out.keep p0
          have hkl : (k : Int) < (xss.length : Int) := by omega
          obtain ⟨us2, fb, hF, hE2⟩ := slP_parts hr
          have h1c := one_slP hF hE2
          have HF := Lib.hid (hF.upd HU.out (by simp))
          obtain ⟨a2, c2, rfl, g1, g2, -⟩ := slP_open hr
          have hlen : (xss.take k).flatten.length ≤ 2000000 := by rw [HLF.out]; have := HTK.out k; omega
          have hlen2 : (xss.take k).flatten.length + xss[k].length ≤ 2000000 := by
            have := HTK.out (k + 1); have := HSN.out k hlt; rw [HLF.out]; omega
          have hus : us.length = (xss.take k).flatten.length := by obtain ⟨h, -⟩ := HO.out; simpa using h
          have hus2 : us2.length = xss[k].length := by obtain ⟨_, _, _, _, _, h3, _⟩ := hF; simpa using h3
          have HE2 := Lib.hid (show ∀ (i : Nat) (u : Value) (x : List Tm), (us ++ us2)[i]? = some u → (xss.take (k + 1)).flatten[i]? = some x → ∃ f, R_T1 f wo [u] x from fun i u x hu hx => by
            rw [HFL.out k hlt] at hx
            by_cases hi : i < us.length
            · rw [List.getElem?_append_left hi] at hu
              rw [List.getElem?_append_left (by omega)] at hx
              exact HE.out i u x hu hx
            · rw [List.getElem?_append_right (by omega)] at hu
              rw [List.getElem?_append_right (by omega)] at hx
              rw [← hus] at hx
              exact hE2 _ u x hu hx)
          have HFK := Lib.hid (HFL.out k hlt)
          have HH := Lib.hid HO.out
          have h1H := Lib.hid h1c
          have hsz := HU.out.size
          clear hF hE2 hr h1c hus hus2 HO HE
          go_wp2_with (first
            | (at_builtin; refine wpList_append_flat rfl _ _ 46 rfl wo.heap.size 45 i0 (.slice none 0 0) 1 24 Tryz.underlying46 hi hz0 hz1 hz2 rfl (by decide) _ _ _ rfl HH.out _ xss[k].length us2 rfl _ HF.out h1H.out (by unfold maxLen; omega) (by omega) hsz ?_)
            | fail)
          intro v2 w2 hown2 hg2 ht2
          have HP := Lib.hid (And.intro (show w2.ownsRow wo.heap.size 45 1 v2 (xss.take (k + 1)).flatten.length (us ++ us2) by
            rw [HFK.out, List.length_append]
            have e9 : (xss.take k).flatten.length = (List.take k (List.map List.length xss)).sum := by rw [List.length_flatten, List.map_take]
            rw [e9]; exact hown2) (HU.out.grown hg2 (fun b hb => Or.inl (HH.out.lt b hb).1)))
          clear hown2 hg2 ht2
          go_wp2_with fail
          go_roundw
          case rel => exact ⟨k + 1, us ++ us2, by omega, by go_num, Lib.hid HP.out.2, Lib.hid HP.out.1, HE2⟩
          case measure => simp [intOf]; omega
        · obtain rfl : k = xss.length := by omega
          have ho := HO.out
          have he := HE.out
          rw [List.take_length] at ho he
          obtain ⟨fb, hF, -, -, -⟩ := Flat.ofOwns ho
          obtain ⟨fq, hq⟩ := slP_join (R := R_T1) hF (fun i u x hu hx => by obtain ⟨f, hf⟩ := he i u x hu hx; exact ⟨f, R_T1k.upd hf HU.out (by simp)⟩)
          have HR := Lib.hid hq
          clear ho he hF hq
          go_wp2_with fail
          go_ret
          exact ⟨⟨_, _, rfl, HR.out⟩, HU.out⟩

end Go.Proofs.YtnfghgaadnobbaaGreatDoor
