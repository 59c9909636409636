/-
  Texts joined in one file: PrR, HarnRg, PrgW, LawParseReg, LabZ.
-/
import Derived.Test.YtaahjpmndkcijaaGreatDoorZP2
import Derived.Lib.LaidTab
import Derived.Stop.LaidErr
import Derived.HandedShaped
import Derived.Handed
import Derived.Shelf.Vars
/-
  Regular expressions parsed: the program's ParseRegular over a whole text.
-/
namespace Go.Proofs.YtaahjpmndkcijaaGreatDoor
open Go.RowKit

/-- what is collected at C when the reading went well. -/
def KeptR (s : List UInt8) (C A : Nat) (V : World) : Prop :=
  ∀ x p, regP s 0 = .ok (x, p) → ∃ v fp, V.cell? ⟨C, 0, none⟩ = some v ∧ R_G1 fp V [v] (flatT x) ∧ Own fp V ∧ ∀ b ∈ fp, A < b
def resR (s : List UInt8) : Except Nat (Nat × Bool × Int) :=
  match regP s 0 with
  | .error a => .error a
  | .ok (x, p) => .ok (p, decide (20 < (flatT x).length), -1)

set_option maxRecDepth 20000 in
set_option maxHeartbeats 4000000 in
theorem closR (P D C A : Nat) (W : World) (s : List UInt8) (hs : s.length ≤ 1000000) (hR : RdAt P W s 0 false (-1)) (hE : ∀ V, Upd [P] W V → Env V) (hD : W.cell? ⟨D, 0, none⟩ = some (.pointer (some ⟨P, 0, none⟩))) (hDP : D ≠ P) (hCP : C ≠ P)
    (hC : W.heap[C]? = some (.cells #[.slice none 0 0] 22)) (hA : A < W.heap.size) (hPA : P < A) :
    Calls Tryz.prog 17 #[.pointer (some ⟨D, 0, none⟩), .pointer (some ⟨C, 0, none⟩)] W (ClR P C s (resR s) (KeptR s C A) W) := by
  have S1 := regularR P W s 0 false (-1) hs hR hE
  have hLN := Lib.hid (fun x p (h : regP s 0 = .ok (x, p)) => eitherF_len _ 0 x p (Nat.zero_le _) h)
  have hPS := Lib.hid (fun x p (h : regP s 0 = .ok (x, p)) => eitherF_pos _ 0 x p (Nat.zero_le _) h)
  have hCl := heap_lt hC
  have HC := Lib.hid hC
  clear hE hR hC
  cases he : regP s 0 with
  | error a =>
    rw [he] at S1
    have HX := Lib.hid (show resR s = .error a by unfold resR; rw [he])
    have HS := Lib.hid S1
    clear S1 hLN hPS he
    go_enter Tryz.func17, Tryz.ntmps17
    go_wp2_with fail
    refine HS.out.mono ?_
    rintro e w1 ⟨rfl, hu⟩
    have HU := Lib.hid hu
    clear HS hu
    go_wp2_with fail
    refine ⟨rfl, ?_⟩
    rw [HX.out]
    exact ⟨rfl, HU.out.mono (by simp)⟩
  | ok r =>
    obtain ⟨x, p⟩ := r
    have HX := Lib.hid (show resR s = .ok (p, decide (20 < (flatT x).length), -1) by unfold resR; rw [he])
    have HK := Lib.hid (show ∀ V, (∃ v fp, V.cell? ⟨C, 0, none⟩ = some v ∧ R_G1 fp V [v] (flatT x) ∧ Own fp V ∧ ∀ b ∈ fp, A < b) → KeptR s C A V from fun V h x' p' h' => by rw [he] at h'; cases h'; exact h)
    have hl := hLN.out x p he
    have hp2 := (hPS.out x p he).2.1
    have hxl : (flatT x).length ≤ 1000000 := by omega
    rw [he] at S1
    have HS := Lib.hid S1
    clear S1 hLN hPS he
    go_enter Tryz.func17, Tryz.ntmps17
    go_wp2_with fail
    refine HS.out.mono ?_
    rintro e w1 ⟨⟨⟨v, rfl, hn⟩, hr⟩, hu⟩
    obtain ⟨fv, r1, o1, g1⟩ := id hn
    have S2 := Lib.hid (elemsY x w1 v fv hxl r1)
    have HR := Lib.hid hr
    have HU := Lib.hid hu
    have hc1 := (hu.block C hCl (by simp; exact hCP)).trans HC.out
    have HC1 := Lib.hid hc1
    clear HS hn hr hu r1 o1 g1 hc1
    go_wp2_with fail
    refine S2.out.mono ?_
    rintro e w2 ⟨⟨v2, rfl, hn2⟩, hu2⟩
    obtain ⟨a2, cp2, rfl⟩ := hn2.form
    have hc2 := (hu2.block C (heap_lt HC1.out) (by simp)).trans HC1.out
    have c2 : w2.cell? ⟨C, 0, none⟩ = some (.slice none 0 0) := by simp [World.cell?, hc2]
    have f2 : w2.frozen? ⟨C, 0, none⟩ = false := by simp [World.frozen?, hc2]
    obtain ⟨w3, hw3⟩ : ∃ w3, w2.setCell ⟨C, 0, none⟩ (.slice a2 (flatT x).length cp2) = w3 := ⟨_, rfl⟩
    have hv : Upd [C] w2 w3 := by rw [← hw3]; exact (Upd.refl _ _).setCell (Or.inr (by simp)) _
    have hc3 : w3.cell? ⟨C, 0, none⟩ = some (.slice a2 (flatT x).length cp2) := by rw [← hw3]; exact World.cell?_setCell_same _ _ _ c2
    obtain ⟨f3, r3, o3, g3⟩ := hn2
    have hsz1 := HU.out.size
    have hfar : ∀ b ∈ f3, b ∉ [C] := fun b hb hm => by have := g3 b hb; have := heap_lt HC1.out; simp at hm; omega
    have HKV := Lib.hid (HK.out w3 ⟨_, f3, hc3, R_G1k.upd r3 hv hfar, o3.upd hv hfar, fun b hb => by have := g3 b hb; omega⟩)
    have HR3 := Lib.hid ((HR.out.keep hu2).far hv (by simp; exact Ne.symm hCP))
    have HU3 := Lib.hid (((HU.out.mono (g := [P, C]) (by simp)).trans (hu2.mono (by simp))).trans (hv.mono (by simp)))
    clear S2 hu2 hv hc3 r3 o3 g3 hfar HC1 hc2 HU HR HK
    go_wp2_with fail
    go_end0
    rw [HX.out]
    exact ⟨⟨rfl, HR3.out, HKV.out⟩, HU3.out⟩

set_option maxRecDepth 20000 in
set_option maxHeartbeats 4000000 in
theorem parseRI (s : List UInt8) (w : World) (hs : s.length ≤ 1048576) (hE : Env w) :
    Calls Tryz.prog 6 #[es s] w fun e w' => (∃ v, e = .returned (.tuple #[v, .int .i64 (regF s).2.1, .int .i64 (regF s).2.2]) ∧ New R_G1 w w' v (regF s).1) ∧ Upd [] w w' := by
  by_cases hlong : 400 < s.length
  · have HX := Lib.hid (show regF s = ([], 0, 2) by unfold regF; rw [if_pos hlong])
    have hl : (400 : Int) < (s.length : Int) := by omega
    go_enter Tryz.func6, Tryz.ntmps6
    go_wp2_with fail
    go_ret3
    rw [HX.out]
    exact ⟨⟨_, rfl, New.nilF 3 _ _ _⟩, Upd.refl _ _⟩
  · have hl : ¬ (400 : Int) < (s.length : Int) := by omega
    go_enter Tryz.func6, Tryz.ntmps6
    go_upto_region 5 with (fail)
    obtain ⟨P, hP⟩ : ∃ P, w.heap.size = P := ⟨_, rfl⟩
    obtain ⟨w3, hw3⟩ : ∃ w3, w3 = ((w.alloc (.cells #[.string ⟨#[]⟩, .int .i64 0, .int .i64 0, .slice none 0 0, .slice none 0 0, .slice none 0 0, .slice none 0 0, .slice none 0 0, .slice none 0 0, .bool false, .int .i64 0] 46)).alloc (.cells #[.pointer (some ⟨w.heap.size, 0, none⟩)] 35)).alloc (.cells #[.slice none 0 0] 22) := ⟨_, rfl⟩
    have hu3 : Upd [] w w3 := by rw [hw3]; exact (((Upd.refl _ _).alloc _).alloc _).alloc _
    have hsz3 : w3.heap.size = P + 1 + 1 + 1 := by rw [hw3, ← hP]; simp
    have b0 : w3.heap[P]? = some (.cells #[.string ⟨#[]⟩, .int .i64 0, .int .i64 0, .slice none 0 0, .slice none 0 0, .slice none 0 0, .slice none 0 0, .slice none 0 0, .slice none 0 0, .bool false, .int .i64 0] 46) := by
      rw [hw3, Below.heap_alloc _ _ _ (by simp; omega), Below.heap_alloc _ _ _ (by simp; omega), ← hP]
      exact heap_alloc_new w _
    have b1 : w3.heap[P + 1]? = some (.cells #[.pointer (some ⟨P, 0, none⟩)] 35) := by
      have e1 : ∀ o, (w.alloc o).heap.size = P + 1 := fun o => by rw [← hP]; simp
      rw [hw3, Below.heap_alloc _ _ _ (by simp; omega), ← e1, hP]
      exact heap_alloc_new _ _
    have b2 : w3.heap[P + 1 + 1]? = some (.cells #[.slice none 0 0] 22) := by
      have e1 : ∀ o o', ((w.alloc o).alloc o').heap.size = P + 1 + 1 := fun o o' => by rw [← hP]; simp
      rw [hw3, ← e1]
      exact heap_alloc_new _ _
    have hr3 : RdAt P w3 [] 0 false 0 := by
      have hc : ∀ j, w3.cell? ⟨P, j, none⟩ = (#[.string ⟨#[]⟩, .int .i64 0, .int .i64 0, .slice none 0 0, .slice none 0 0, .slice none 0 0, .slice none 0 0, .slice none 0 0, .slice none 0 0, .bool false, .int .i64 0] : Array Value)[j]? := fun j => by simp [World.cell?, b0]
      exact ⟨⟨by simp, fun c hcc => (by obtain rfl : c = P := (by simpa using hcc); exact ⟨_, _, b0⟩)⟩, (hc 0).trans rfl, (hc 2).trans rfl, (hc 9).trans rfl, (hc 10).trans rfl, Nat.zero_le _⟩
    have hE3 : ∀ V, Upd [P] w3 V → Env V := fun V h => hE.upd (hu3.fresh h (fun b hb => Or.inl (by simp at hb; omega)))
    have d1 : ∀ V, Upd [P] w3 V → V.cell? ⟨P + 1, 0, none⟩ = some (.pointer (some ⟨P, 0, none⟩)) := fun V h => by
      rw [World.cell?_of_block (w := w3) (h.block (P + 1) (heap_lt b1) (by simp))]; simp [World.cell?, b1]
    have S1 := runR 17 #[.pointer (some ⟨P + 1, 0, none⟩), .pointer (some ⟨P + 1 + 1, 0, none⟩)] P (P + 1 + 1) w3 s (resR s) (KeptR s (P + 1 + 1) w3.heap.size) (by omega) hr3 (by omega)
      (fun args W => by go_simp)
      (fun W hr hu hsz => closR P (P + 1) (P + 1 + 1) w3.heap.size W s (by omega) hr (fun V h => hE3 V (hu.trans h)) (d1 W hu) (by omega) (by omega) ((hu.block _ (heap_lt b2) (by simp; omega)).trans b2) hsz (by omega))
      (fun V V' hk hu x p h => by
        obtain ⟨v, fp, h1, h2, h3, h4⟩ := hk x p h
        have hcl : P + 1 + 1 < V.heap.size := World.block_lt_of_cell? V _ h1
        have hd : ∀ b ∈ fp, b ∉ [P, w3.heap.size] := fun b hb hm => by have := h4 b hb; simp at hm; omega
        exact ⟨v, fp, (World.cell?_of_block (w := V) (hu.block _ hcl (by simp; omega))).trans h1, R_G1k.upd h2 hu hd, h3.upd hu hd, h4⟩)
    have HS := Lib.hid S1
    have HU3 := Lib.hid hu3
    have HPS := Lib.hid (fun x p (h : regP s 0 = .ok (x, p)) => eitherF_pos _ 0 x p (Nat.zero_le _) h)
    have D1 := Lib.hid (show ∀ V, Upd [P, P + 1 + 1] w3 V → V.cell? ⟨P + 1, 0, none⟩ = some (.pointer (some ⟨P, 0, none⟩)) from fun V h => by
      rw [World.cell?_of_block (w := w3) (h.block (P + 1) (heap_lt b1) (by simp))]; simp [World.cell?, b1])
    have d1 := d1 w3 (Upd.refl _ _)
    have HRG := Lib.hid (show regF s = _ from by rw [regF, if_neg hlong])
    rw [← hw3, hP]
    clear hw3 b0 b1 b2 hr3 hE3 hu3 S1
    cases he : regP s 0 with
    | error a =>
      have HX := Lib.hid (show regF s = ([], (a : Int), 8) by rw [HRG.out, he])
      rw [show resR s = .error a by unfold resR; rw [he]] at HS
      clear HRG HPS he
      go_wp2_with fail
      refine HS.out.mono ?_
      rintro e w4 ⟨rfl, hu4⟩
      have HU4 := Lib.hid (HU3.out.fresh hu4 (fun b hb => Or.inl (by simp at hb; omega)))
      clear HS hu4
      go_wp2_with fail
      go_ret3
      rw [HX.out]
      exact ⟨⟨_, rfl, New.nilF 3 _ _ _⟩, HU4.out⟩
    | ok r =>
      obtain ⟨x, p⟩ := r
      have hp := HPS.out x p he
      have hp3 := hp.2.2
      have hp2 := hp.2.1
      rw [show resR s = .ok (p, decide (20 < (flatT x).length), -1) by unfold resR; rw [he]] at HS
      have HG2 := Lib.hid (show regF s = (if p < s.length then ([], (p : Int), 8) else if 20 < (flatT x).length then ([], 0, 5) else (flatT x, 0, 0)) by rw [HRG.out, he])
      have HKR := Lib.hid (show ∀ V, KeptR s (P + 1 + 1) w3.heap.size V → ∃ v fp, V.cell? ⟨P + 1 + 1, 0, none⟩ = some v ∧ R_G1 fp V [v] (flatT x) ∧ Own fp V ∧ ∀ b ∈ fp, w3.heap.size < b from fun V h => h x p he)
      clear HRG HPS hp he
      by_cases hpl : p = s.length
      · have hc : skR s p = s.length := by rw [hp3, hpl]
        have HS2 := Lib.hid (HS.out.mono (R' := fun e w' => (e = .returned (.int .i64 (-1)) ∧ RdAt P w' s s.length (decide (20 < (flatT x).length)) (-1) ∧ KeptR s (P + 1 + 1) w3.heap.size w') ∧ Upd [P, P + 1 + 1] w3 w') (by
          rintro e w4 ⟨h, hu⟩
          simp only [if_pos hc] at h
          exact ⟨h, hu⟩))
        clear HS hc
        go_wp2_with fail
        refine HS2.out.mono ?_
        rintro e w4 ⟨⟨rfl, hr4, hk4⟩, hu4⟩
        have HU4 := Lib.hid (HU3.out.fresh hu4 (fun b hb => Or.inl (by simp at hb; omega)))
        have e1 := D1.out w4 hu4
        have e9 := hr4.c9
        obtain ⟨v, fp, k1, k2, k3, k4⟩ := HKR.out w4 hk4
        by_cases h20 : 20 < (flatT x).length
        · have HX := Lib.hid (show regF s = ([], 0, 5) by rw [HG2.out, if_neg (by omega), if_pos h20])
          rw [decide_eq_true h20] at e9
          clear HS2 hu4 hr4 hk4 HG2 HKR HU3 k1 k2 k3 k4
          go_wp2_with fail
          go_ret3
          rw [HX.out]
          exact ⟨⟨_, rfl, New.nilF 3 _ _ _⟩, HU4.out⟩
        · have HX := Lib.hid (show regF s = (flatT x, 0, 0) by rw [HG2.out, if_neg (by omega), if_neg h20])
          rw [decide_eq_false h20] at e9
          have HN := Lib.hid (show New R_G1 w w4 v (flatT x) from ⟨fp, k2, k3, fun b hb => by have := k4 b hb; omega⟩)
          clear HS2 hu4 hr4 hk4 HG2 HKR HU3 k2 k3 k4
          go_wp2_with fail
          go_ret3
          rw [HX.out]
          exact ⟨⟨_, rfl, HN.out⟩, HU4.out⟩
      · have hc : ¬ skR s p = s.length := by rw [hp3]; exact hpl
        have HX := Lib.hid (show regF s = ([], (p : Int), 8) by rw [HG2.out, if_pos (by omega)])
        have HS2 := Lib.hid (HS.out.mono (R' := fun e w' => e = .returned (.int .i64 p) ∧ Upd [P, P + 1 + 1] w3 w') (by
          rintro e w4 ⟨h, hu⟩
          simp only [if_neg hc] at h
          rw [hp3] at h
          exact ⟨h, hu⟩))
        clear HS hc HG2 HKR
        go_wp2_with fail
        refine HS2.out.mono ?_
        rintro e w4 ⟨rfl, hu4⟩
        have HU4 := Lib.hid (HU3.out.fresh hu4 (fun b hb => Or.inl (by simp at hb; omega)))
        clear HS2 hu4
        go_wp2_with fail
        go_ret3
        rw [HX.out]
        exact ⟨⟨_, rfl, New.nilF 3 _ _ _⟩, HU4.out⟩

end Go.Proofs.YtaahjpmndkcijaaGreatDoor

/-
  Elements of regular expressions marked and found marked by the laws' helper functions.
-/
namespace Go.Proofs.YtaahjpmndkcijaaGreatDoor
open Go.RowKit Go.ChangeShapes

/-- the element that marks the number k. -/
def mkRg (k : Int) : Rg := ⟨k, mtx (k + 1), (k + 1 + 1) % 3 == 0⟩
def upG (k : Int) : Nat → List Rg
  | 0 => []
  | n + 1 => mkRg k :: upG (k + 3) n
@[simp] theorem upG_length (k : Int) (n : Nat) : (upG k n).length = n := by
  induction n generalizing k with
  | zero => rfl
  | succ n ih => simp [upG, ih]
theorem upG_snoc (k : Int) (n : Nat) : upG k (n + 1) = upG k n ++ [mkRg (k + 3 * n)] := by
  induction n generalizing k with
  | zero => simp [upG]
  | succ n ih =>
    rw [upG, ih (k + 3)]
    simp only [upG, List.cons_append, List.cons.injEq, List.append_cancel_left_eq, true_and, and_true]
    congr 1; omega
theorem upG_get (k : Int) (n i : Nat) (h : i < n) : (upG k n)[i]'(by simpa using h) = mkRg (k + 3 * i) := by
  induction n generalizing k i with
  | zero => omega
  | succ n ih =>
    cases i with
    | zero => simp [upG]
    | succ i => simp only [upG, List.getElem_cons_succ]; rw [ih _ _ (by omega)]; congr 1; omega
theorem upG_set (xs : List Rg) (k0 : Int) (k : Nat) (hk : k < xs.length) :
    (upG k0 k ++ xs.drop k).set k (mkRg (k0 + 3 * k)) = upG k0 (k + 1) ++ xs.drop (k + 1) := by
  rw [List.set_append_right _ _ (by simp), upG_length, Nat.sub_self, List.drop_eq_getElem_cons hk, List.set_cons_zero, upG_snoc]
  simp

set_option maxRecDepth 20000 in
set_option maxHeartbeats 2000000 in
theorem mark_G1 (v : Value) (xs : List Rg) (k0 : Int) (w : World) (fp : List Nat) (hk0 : 0 ≤ k0) (hk1 : k0 + mkF_G1 xs ≤ 4611686018427387904) (hR : R_G1 fp w [v] xs) (hO : Own fp w) :
    Calls Tryz.prog 8 #[v, .int .i64 k0] w fun e w' => e = .returned (.int .i64 (k0 + mkF_G1 xs)) ∧ R_G1 fp w' [v] (upG k0 xs.length) ∧ Own fp w' ∧ Upd fp w w' := by
  obtain ⟨a, cap, rfl, h1, h2, -⟩ := slF3_open hR
  unfold maxLen at h2
  unfold mkF_G1 at hk1 ⊢
  go_enter Tryz.func8, Tryz.ntmps8
  go_wp2
  go_loopw [1, 5] (fun kk i wr => ∃ k : Nat, k ≤ xs.length ∧ i = .int .i64 k ∧ kk = .int .i64 (k0 + 3 * k) ∧ Upd fp w wr ∧ Own fp wr ∧
      R_G1 fp wr [.slice a xs.length cap] (upG k0 k ++ xs.drop k))
    (fun _ i _ => xs.length - (intOf i).toNat)
  case atStart => exact ⟨0, Nat.zero_le _, rfl, by simp, Upd.refl _ _, hO, by simpa [upG] using hR⟩
  case round =>
    clear hR hO
    obtain ⟨wo, rfl⟩ : ∃ wo : World, wo = wr := ⟨_, rfl⟩
    obtain ⟨k, hk, rfl, rfl, hU, hO, hT⟩ := hrel
    have hlen : (upG k0 k ++ xs.drop k).length = xs.length := by simp; omega
    by_cases hlt : k < xs.length
    · obtain ⟨a', cap', hv, -, -, hcell⟩ := slF3_open hT
      obtain ⟨b, off, rfl, hfo, hb', r1, r3, r4⟩ := hcell k (by omega)
      simp only [Value.slice.injEq] at hv
      obtain ⟨rfl, -, rfl⟩ := hv
      have hin : b ∈ fp := by rw [hfo]; simp
      have hfr1 : wo.frozen? ⟨b, off + k * 3, none⟩ = false := hO.frozen hin _
      obtain ⟨v', hv', hF⟩ := hT
      cases hv'
      rw [hlen] at hF
      have g1 := hF.set (j := k * 3) (by omega) (ei (k0 + 3 * k))
      have HSET := Lib.hid (upG_set xs k0 k hlt)
      obtain ⟨wa, hwa⟩ : ∃ wa, wa = wo.setCell ⟨b, off + k * 3, none⟩ (ei (k0 + 3 * k)) := ⟨_, rfl⟩
      have S1 := Lib.hid (markText (k0 + 3 * k + 1) wa (by omega) (by omega))
      have HUa := Lib.hid (show Upd fp w wa by rw [hwa]; exact hU.setCell (Or.inr hin) _)
      have HOa := Lib.hid (show Own fp wa by rw [hwa]; exact hO.setCell _ _)
      rw [← hwa] at g1
      have HF2 := Lib.hid g1
      have k3 : wa.cell? ⟨b, off + k * 3 + 1, none⟩ = some (es ((upG k0 k ++ xs.drop k)[k]'(by omega)).lb) := by
        rw [hwa, World.cell?_setCell_other _ _ _ _ (by simp)]; exact r3
      have k4 : wa.cell? ⟨b, off + k * 3 + 2, none⟩ = some (.bool ((upG k0 k ++ xs.drop k)[k]'(by omega)).nt) := by
        rw [hwa, World.cell?_setCell_other _ _ _ _ (by simp)]; exact r4
      have HLEN := Lib.hid hlen
      generalize ((upG k0 k ++ xs.drop k)[k]'_) = el at r1 r3 r4 k3 k4
      clear hF g1 hcell hO hU hlen
      go_wp2_with fail
      have hwb : wo.setCell ⟨b, off + k * 3, none⟩ (.int .i64 (k0 + 3 * k)) = wa := hwa.symm
      rw [hwb]
      clear hwa hwb r1 r3 r4 hfr1
      refine S1.out.mono ?_
      rintro e w1 ⟨rfl, hu1⟩
      have m3 := hu1.keep k3
      have m4 := hu1.keep k4
      have hO1 := HOa.out.upd hu1 (by simp)
      have hfr3 : w1.frozen? ⟨b, off + k * 3 + 1, none⟩ = false := hO1.frozen hin _
      have hfr4 : w1.frozen? ⟨b, off + k * 3 + 2, none⟩ = false := hO1.frozen hin _
      have g2 := Flat.upd HF2.out hu1 (by simp)
      have g3 := g2.set (j := k * 3 + 1) (by omega) (es (mtx (k0 + 3 * k + 1)))
      have g4 := g3.set (j := k * 3 + 2) (by omega) (.bool ((k0 + 3 * (k : Int) + 1 + 1) % 3 == 0))
      have hfs := flatMap_three_set (fun t : Rg => ei t.kd) (fun t => es t.lb) (fun t => Value.bool t.nt) (upG k0 k ++ xs.drop k) k (by rw [HLEN.out]; exact hlt) (mkRg (k0 + 3 * k))
      have hfin : ((((upG k0 k ++ xs.drop k).flatMap fun t => [ei t.kd, es t.lb, .bool t.nt]).set (k * 3) (ei (k0 + 3 * k))).set (k * 3 + 1) (es (mtx (k0 + 3 * k + 1)))).set (k * 3 + 2) (.bool ((k0 + 3 * (k : Int) + 1 + 1) % 3 == 0)) = (upG k0 (k + 1) ++ xs.drop (k + 1)).flatMap fun t => [ei t.kd, es t.lb, .bool t.nt] := by
        rw [← HSET.out]; exact hfs
      rw [hfin] at g4
      have HT2 := Lib.hid (show R_G1 fp ((w1.setCell ⟨b, off + k * 3 + 1, none⟩ (es (mtx (k0 + 3 * k + 1)))).setCell ⟨b, off + k * 3 + 2, none⟩ (.bool ((k0 + 3 * (k : Int) + 1 + 1) % 3 == 0))) [.slice (some ⟨b, off, none⟩) xs.length cap] (upG k0 (k + 1) ++ xs.drop (k + 1)) from by
        refine ⟨_, rfl, ?_⟩
        have e : (upG k0 (k + 1) ++ xs.drop (k + 1)).length = xs.length := by simp; omega
        rw [e]
        simpa only [Nat.add_assoc] using g4)
      have HO2 := Lib.hid ((hO1.setCell ⟨b, off + k * 3 + 1, none⟩ (es (mtx (k0 + 3 * k + 1)))).setCell ⟨b, off + k * 3 + 2, none⟩ (.bool ((k0 + 3 * (k : Int) + 1 + 1) % 3 == 0)))
      have HU2 := Lib.hid (((HUa.out.trans (hu1.mono (by simp))).setCell (p := ⟨b, off + k * 3 + 1, none⟩) (Or.inr hin) (es (mtx (k0 + 3 * k + 1)))).setCell (p := ⟨b, off + k * 3 + 2, none⟩) (Or.inr hin) (.bool ((k0 + 3 * (k : Int) + 1 + 1) % 3 == 0)))
      generalize mtx (k0 + 3 * k + 1) = T at *
      clear S1 HUa HOa HF2 k3 k4 hu1 hO1 g2 g3 g4 hfs hfin HSET
      go_wp2_with fail
      go_roundw
      case rel => exact ⟨k + 1, by omega, by go_num, by go_num, HU2.out, HO2.out, HT2.out⟩
      case measure => simp [intOf]; omega
    · obtain rfl : k = xs.length := by omega
      go_wp2_with fail
      go_ret
      refine ⟨rfl, by simpa using hT, hO, hU⟩

set_option maxRecDepth 20000 in
set_option maxHeartbeats 2000000 in
theorem held_G1 (v : Value) (xs : List Rg) (k0 : Int) (w : World) (fp : List Nat) (hk0 : 0 ≤ k0) (hk1 : k0 + mkF_G1 xs ≤ 4611686018427387904) (hR : R_G1 fp w [v] (upG k0 xs.length)) :
    Calls Tryz.prog 9 #[v, .int .i64 k0] w fun e w' => e = .returned (.int .i64 (k0 + mkF_G1 xs)) ∧ Upd [] w w' := by
  obtain ⟨a, cap, rfl, h1, h2, hc⟩ := slF3_open hR
  simp only [upG_length] at *
  unfold maxLen at h2
  unfold mkF_G1 at hk1 ⊢
  have HC := Lib.hid hc
  clear hR hc
  generalize xs.length = n at *
  go_enter Tryz.func9, Tryz.ntmps9
  go_wp2
  go_loopw [1, 5] (fun kk i wr => ∃ k : Nat, k ≤ n ∧ i = .int .i64 k ∧ kk = .int .i64 (k0 + 3 * k) ∧ Hid (Upd [] w wr)) (fun _ i _ => n - (intOf i).toNat)
  case atStart => exact ⟨0, Nat.zero_le _, rfl, by simp, Lib.hid (Upd.refl _ _)⟩
  case round =>
    obtain ⟨wo, rfl⟩ : ∃ wo : World, wo = wr := ⟨_, rfl⟩
    obtain ⟨k, hk, rfl, rfl, HU⟩ := hrel
    by_cases hlt : k < n
    · obtain ⟨b, off, rfl, -, hb, p1, p3, p4⟩ := HC.out k hlt
      rw [upG_get k0 n k hlt] at p1 p3 p4
      unfold mkRg at p1 p3 p4
      simp only at p1 p3 p4
      have q1 := HU.out.keep p1
      have q3 := HU.out.keep p3
      have q4 := HU.out.keep p4
      have S1 := Lib.hid (fun W : World => markText (k0 + 3 * k + 1) W (by omega) (by omega))
      have hne : ((k0 + 3 * (k : Int)) != (k0 + 3 * (k : Int))) = false := by simp
      generalize mtx (k0 + 3 * k + 1) = T at *
      have hne3 : (T != T) = false := by simp
      have hne3' : (T == T) = true := by simp
      obtain ⟨z, hz⟩ : ∃ z, k0 + 3 * (k : Int) + 1 + 1 = z := ⟨_, rfl⟩
      have hne4 : ((z % 3 == 0) != (z % 3 == 0)) = false := by simp
      rw [hz] at q4
      have HZ := Lib.hid hz
      clear p1 p3 p4
      go_upto_region 7 with (fail)
      go_region_held3 (fun w' => w'.cell? ⟨b, off + k * 3 + 1, none⟩ = some (es T)) (go_keep) (((with_reducible refine (S1.out _).mono ?_); rintro e w1 ⟨rfl, hu1⟩; have t3 := hu1.keep q3))
      have HU1 := Lib.hid (HU.out.drew.trans hu1)
      have t4 := (HU.out.drew.trans hu1)
      have u4 := hu1.keep (show wo.drew.cell? ⟨b, off + k * 3 + 2, none⟩ = some (.bool (z % 3 == 0)) from q4)
      clear hu1 HU S1 q1 q3 q4 t3 t4
      go_wp2_with fail
      go_roundw
      case rel => exact ⟨k + 1, by omega, by go_num, by go_num, HU1⟩
      case measure => simp [intOf]; omega
    · obtain rfl : k = n := by omega
      go_wp2_with fail
      go_ret
      exact ⟨rfl, HU.out⟩

end Go.Proofs.YtaahjpmndkcijaaGreatDoor

/-
  Regular expressions parsed: both sides, as the law wants them.
-/
namespace Go.Proofs.YtaahjpmndkcijaaGreatDoor
open Go.RowKit

theorem preg_i (s : List UInt8) (w : World) (hl : s.length ≤ 1048576) (hE : Env w) :
    Calls Tryz.prog 6 #[es s] w fun e w' => (∃ v', e = .returned (.tuple #[v', .int .i64 (regF s).2.1, .int .i64 (regF s).2.2]) ∧ New R_G1 w w' v' (regF s).1) ∧ Upd [] w w' := parseRI s w hl hE
theorem preg_s (s : List UInt8) (w : World) (hl : s.length ≤ 1048576) :
    Calls Tryz.prog 5 #[es s] w fun e w' => (∃ v', e = .returned (.tuple #[v', .int .i64 (regF s).2.1, .int .i64 (regF s).2.2]) ∧ New R_G1 w w' v' (regF s).1) ∧ Upd [] w w' := parseRS s w hl
theorem preg_b (s : List UInt8) (_h : s.length ≤ 1048576) : mkF_G1 (regF s).1 ≤ 1000000000 := by
  unfold regF
  split
  · simp [mkF_G1]
  · split
    · simp [mkF_G1]
    · split
      · simp [mkF_G1]
      · split
        · simp [mkF_G1]
        · rename_i h
          unfold mkF_G1
          simp only
          omega

end Go.Proofs.YtaahjpmndkcijaaGreatDoor

/-
  The law FnExactParseRegular: the call returns true for every input, and writes nothing that was there.
-/
namespace Go.Proofs.YtaahjpmndkcijaaGreatDoor
open Go.RowKit

set_option maxHeartbeats 2000000 in
theorem lawParseReg (s : List UInt8)  (w : World)  (bs_s : s.length ≤ 9223372036854775807) (hE : Env w) :
    Calls Tryz.prog 3 #[es s] w fun e w' => e = .returned (.bool true) ∧ Upd [] w w' := by
  have HE := Lib.hid hE
  by_cases lb_s : 1048576 < (s.length : Int)
  · go_enter Tryz.func3, Tryz.ntmps3
    go_wp2_with fail
    go_ret
    exact ⟨rfl, Upd.refl _ _⟩
  · have lx_s : s.length ≤ 1048576 := by omega
    have hT := preg_b s lx_s
    go_enter Tryz.func3, Tryz.ntmps3
    generalize hG : regF s = G at *
    have HG := Lib.hid hG
    clear hG
    have u0 : Upd [] w w := Upd.refl _ _
    have hc1 : (G.2.1 != G.2.1) = false := by simp
    have hc2 : (G.2.2 != G.2.2) = false := by simp
    have S2 := preg_s s w lx_s 
    rw [HG.out] at S2
    go_wp2_with fail
    refine S2.mono ?_
    clear S2
    rintro e w1 ⟨⟨v_w0, rfl, ⟨fp_w0, r1_w0, o1_w0, ge_w0⟩⟩, uu1⟩
    have u1 : Upd [] w w1 := u0.trans (uu1)
    have HL_w0 := Lib.hid (show ∀ b ∈ fp_w0, w.heap.size ≤ b from fun b hb => by have := ge_w0 b hb; have := u0.size; omega)
    have lt_w0 := R_G1k.lt r1_w0
    clear u0 ge_w0 uu1 lt_w0
    have S2 := preg_i s w1 lx_s (HE.out.upd u1) 
    rw [HG.out] at S2
    go_wp2_with fail
    refine S2.mono ?_
    clear S2
    rintro e w2 ⟨⟨v_g0, rfl, ⟨fp_g0, r2_g0, o2_g0, ge_g0⟩⟩, uu2⟩
    have lt_w0 := R_G1k.lt r1_w0
    have u2 : Upd [] w w2 := u1.trans (uu2)
    have r2_w0 := R_G1k.upd r1_w0 (uu2) (by simp)
    have o2_w0 := o1_w0.upd (uu2) (by simp)
    have HL_g0 := Lib.hid (show ∀ b ∈ fp_g0, w.heap.size ≤ b from fun b hb => by have := ge_g0 b hb; have := u1.size; omega)
    have HD_w0_g0 := Lib.hid (show ∀ b ∈ fp_w0, b ∉ fp_g0 from fun b hb hm => by have := lt_w0 b hb; have := ge_g0 b hm; omega)
    have lt_g0 := R_G1k.lt r2_g0
    clear u1 r1_w0 o1_w0 ge_g0 uu2 lt_w0 lt_g0
    go_wp2_with fail
    refine (eq_G1 v_g0 v_w0 _ _ fp_g0 fp_w0 r2_g0 r2_w0).mono ?_
    rintro e w3 ⟨rfl, uu3⟩
    have u3 : Upd [] w w3 := u2.trans (uu3)
    have r3_w0 := R_G1k.upd r2_w0 (uu3) (by simp)
    have o3_w0 := o2_w0.upd (uu3) (by simp)
    have r3_g0 := R_G1k.upd r2_g0 (uu3) (by simp)
    have o3_g0 := o2_g0.upd (uu3) (by simp)
    clear u2 r2_w0 o2_w0 r2_g0 o2_g0 uu3
    have tg0 := mkF_G1_nonneg G.1
    go_wp2_with fail
    refine (mark_G1 v_g0 G.1 _ _ fp_g0 (by omega) (by omega) r3_g0 o3_g0).mono ?_
    rintro e w4 ⟨rfl, r4_g0, o4_g0, uu4⟩
    have u4 : Upd [] w w4 := u3.fresh (uu4) (fun b hb => Or.inl (HL_g0.out b hb))
    have r4_w0 := R_G1k.upd r3_w0 (uu4) HD_w0_g0.out
    have o4_w0 := o3_w0.upd (uu4) HD_w0_g0.out
    clear u3 r3_w0 o3_w0 r3_g0 o3_g0 uu4
    have hk0 : 0 ≤ 1 + mkF_G1 G.1 := by omega
    have hne : ((1 + mkF_G1 G.1) != (1 + mkF_G1 G.1)) = false := by simp
    go_wp2_with fail
    refine (held_G1 v_g0 G.1 _ _ fp_g0 (by omega) (by omega) r4_g0).mono ?_
    rintro e w5 ⟨rfl, uu5⟩
    have u5 : Upd [] w w5 := u4.trans (uu5)
    have r5_w0 := R_G1k.upd r4_w0 (uu5) (by simp)
    have o5_w0 := o4_w0.upd (uu5) (by simp)
    have r5_g0 := R_G1k.upd r4_g0 (uu5) (by simp)
    have o5_g0 := o4_g0.upd (uu5) (by simp)
    clear u4 r4_w0 o4_w0 r4_g0 o4_g0 uu5
    have S2 := preg_i s w5 lx_s (HE.out.upd u5) 
    rw [HG.out] at S2
    go_wp2_with fail
    refine S2.mono ?_
    clear S2
    rintro e w6 ⟨⟨v_h0, rfl, ⟨fp_h0, r6_h0, o6_h0, ge_h0⟩⟩, uu6⟩
    have lt_w0 := R_G1k.lt r5_w0
    have lt_g0 := R_G1k.lt r5_g0
    have u6 : Upd [] w w6 := u5.trans (uu6)
    have r6_w0 := R_G1k.upd r5_w0 (uu6) (by simp)
    have o6_w0 := o5_w0.upd (uu6) (by simp)
    have r6_g0 := R_G1k.upd r5_g0 (uu6) (by simp)
    have o6_g0 := o5_g0.upd (uu6) (by simp)
    have HL_h0 := Lib.hid (show ∀ b ∈ fp_h0, w.heap.size ≤ b from fun b hb => by have := ge_h0 b hb; have := u5.size; omega)
    have HD_w0_h0 := Lib.hid (show ∀ b ∈ fp_w0, b ∉ fp_h0 from fun b hb hm => by have := lt_w0 b hb; have := ge_h0 b hm; omega)
    have HD_g0_h0 := Lib.hid (show ∀ b ∈ fp_g0, b ∉ fp_h0 from fun b hb hm => by have := lt_g0 b hb; have := ge_h0 b hm; omega)
    have lt_h0 := R_G1k.lt r6_h0
    clear u5 r5_w0 o5_w0 r5_g0 o5_g0 ge_h0 uu6 lt_w0 lt_g0 lt_h0
    go_wp2_with fail
    refine (eq_G1 v_h0 v_w0 _ _ fp_h0 fp_w0 r6_h0 r6_w0).mono ?_
    rintro e w7 ⟨rfl, uu7⟩
    have u7 : Upd [] w w7 := u6.trans (uu7)
    have r7_w0 := R_G1k.upd r6_w0 (uu7) (by simp)
    have o7_w0 := o6_w0.upd (uu7) (by simp)
    have r7_g0 := R_G1k.upd r6_g0 (uu7) (by simp)
    have o7_g0 := o6_g0.upd (uu7) (by simp)
    have r7_h0 := R_G1k.upd r6_h0 (uu7) (by simp)
    have o7_h0 := o6_h0.upd (uu7) (by simp)
    clear u6 r6_w0 o6_w0 r6_g0 o6_g0 r6_h0 o6_h0 uu7
    go_wp2_with fail
    refine (held_G1 v_g0 G.1 _ _ fp_g0 (by omega) (by omega) r7_g0).mono ?_
    rintro e w8 ⟨rfl, uu8⟩
    have u8 : Upd [] w w8 := u7.trans (uu8)
    have r8_w0 := R_G1k.upd r7_w0 (uu8) (by simp)
    have o8_w0 := o7_w0.upd (uu8) (by simp)
    have r8_g0 := R_G1k.upd r7_g0 (uu8) (by simp)
    have o8_g0 := o7_g0.upd (uu8) (by simp)
    have r8_h0 := R_G1k.upd r7_h0 (uu8) (by simp)
    have o8_h0 := o7_h0.upd (uu8) (by simp)
    clear u7 r7_w0 o7_w0 r7_g0 o7_g0 r7_h0 o7_h0 uu8
    go_wp2_with fail
    go_ret
    exact ⟨rfl, u8⟩

end Go.Proofs.YtaahjpmndkcijaaGreatDoor

/-
  What the listed variables and the world's shape give the walks of labels.
-/
namespace Go.Proofs.YtaahjpmndkcijaaGreatDoor
open Go.RowKit Go.ChangeShapes

theorem errStar : "*" ++ "errors.errorString" = "*errors.errorString" := by decide
theorem errRow (u : TypeId) (h : Tryz.prog.typeName? 3 u = some "*errors.errorString") : u = 181 :=
  typeName_ptr_named (nm := "errors.errorString") (by rw [errStar]; kernel_rfl) (by kernel_rfl) (by decide) u (by rw [errStar]; exact h)

theorem env_of {W : World} {r1 r2 r3 : List (String × DataW Unit)} {d : DataW Unit} {x1 x2 : List UInt8} (hd : d = Lib.tabData .u64 Lib.pow10Tab)
    (h1 : laidMet Tryz.prog (("internal/strconv.uint64pow10", d) :: r1) W)
    (h2 : laidMet Tryz.prog (("strconv.ErrRange", .iface "*errors.errorString" (.ptr (.agg [.lit (.string x1)]))) :: r2) W)
    (h3 : laidMet Tryz.prog (("strconv.ErrSyntax", .iface "*errors.errorString" (.ptr (.agg [.lit (.string x2)]))) :: r3) W)
    (hs : W.ShapedOpen Tryz.prog) : Env W := by
  subst hd
  refine ⟨?_, ?_, ?_, ?_⟩
  · exact cell_of_shapedOpen_int (g := 0) (zero := #[.int .i64 0]) (t := 3) hs (of_decide_eq_true (by kernel_rfl)) (by kernel_rfl) rfl (by kernel_rfl) (by kernel_rfl) Tryz.underlying3
  · exact Lib.tabIs_of_head (g := 5) (t := 185) (e := 157) (n := 20) (by kernel_rfl) (by kernel_rfl) Tryz.underlying185 Tryz.underlying157 (by kernel_rfl) (by kernel_rfl) h1
  · obtain ⟨a, s, hv, -⟩ := laid_sentinel (g := 1) (ti := 132) (tp := 181) (te := 183) (ts := 9) h3 (by kernel_rfl) (by kernel_rfl) Tryz.underlying132 errRow Tryz.underlying181 Tryz.underlying183 rfl rfl Tryz.underlying9 (by kernel_rfl) (by kernel_rfl)
    exact ⟨_, _, hv⟩
  · obtain ⟨a, s, hv, -⟩ := laid_sentinel (g := 2) (ti := 132) (tp := 181) (te := 183) (ts := 9) h2 (by kernel_rfl) (by kernel_rfl) Tryz.underlying132 errRow Tryz.underlying181 Tryz.underlying183 rfl rfl Tryz.underlying9 (by kernel_rfl) (by kernel_rfl)
    exact ⟨_, _, hv⟩

/-- the wrap with a condition on the world, the world's shape kept. -/
theorem handed_and_shaped {H : Type} {enc : TypeId × Value → H} {a : Assume} {C : Checked} {os : Os} {f : FuncId} {fn : Func} {s : ChangeSpec} {conds : List PathCond} {apart fresh handsOn twice : Bool} {X : World → Array Value → Prop}
    (hX : ∀ (w w' : World) (args : Array Value), w.heap = w'.heap → X w args → X w' args)
    (own : ownKnob C.prog.godebug = none) (started : os.Started) (noInit : C.prog.inits.idxOf? f = none) (hfn : C.prog.funcs[f]? = some fn)
    (witness : ∃ (w : World) (tape : Tape) (i : Input), w.os = os ∧ (w.forCall tape i).Shaped C.prog ∧ i.vars = [] ∧ Input.okWide C.prog (w.forCall tape i) .any w.heap.size f i ∧
      ((s.pre enc C.prog fn conds apart (w.forCall tape i).memory i.args ∧ X (w.forCall tape i).memory i.args) ∧ sizedMet enc C.prog fn (OpenSpec.ofChange s) apart (w.forCall tape i).memory i.args) ∧ a.holds C.prog (lone (Frame.enter C.prog f i.args CallKind.normal) [] (w.forCall tape i)))
    (contract : ∀ (W : World) (base : Nat) (args : Array Value) (ds gs : List (DataW H)) (before : List MemPlace),
      (∀ (j : Nat) t v, fn.params[j]? = some t → args[j]? = some v → Value.okWide C.prog W .any base t v) →
      DataW.Whole enc C.prog fn.params.toList s.vars apart W args.toList ds gs before →
      conds.all (PathCond.test C.prog ⟨fn.params.toList, ds, s.plain.varTypes C.prog, gs⟩) = true → X W args →
      W.ShapedOpen C.prog →
      Calls C.prog f args W fun e W' => ∃ v, e = .returned v ∧ s.post enc C.prog fn apart fresh handsOn twice W args v W') :
    ReturnsInHanded a C os f .any (fun w args => (s.pre enc C.prog fn conds apart w args ∧ X w args) ∧ sizedMet enc C.prog fn (OpenSpec.ofChange s) apart w args) (s.post enc C.prog fn apart fresh handsOn twice) := by
  refine returnsInHanded_of_calls own started noInit witness ?_
  intro w tape i _ hsh _ hok hpre _
  obtain ⟨_, _, _, fn', hfn', _, _, _, _, hval⟩ := hok
  have e : fn' = fn := Option.some.inj (hfn'.symm.trans hfn)
  subst e
  obtain ⟨⟨⟨ds, gs, before, hw, hc⟩, hx⟩, hz⟩ := hpre
  have hw' := DataW.Whole.of_heap (w' := w.forCall tape i) (by rfl) hw
  refine (contract (w.forCall tape i) w.heap.size i.args ds gs before hval hw' hc (hX _ _ _ (by rfl) hx) hsh).mono fun e W' ⟨v, he, hp⟩ => ?_
  subst he
  exact ChangeSpec.post_blind hp

end Go.Proofs.YtaahjpmndkcijaaGreatDoor
