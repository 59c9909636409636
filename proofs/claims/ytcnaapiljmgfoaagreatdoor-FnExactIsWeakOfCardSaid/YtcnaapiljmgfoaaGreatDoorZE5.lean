/-
  Texts joined in one file: BisG, BisW, BisWU, BisY, BisMW, BisL0, EncN.
-/
import Derived.Test.YtcnaapiljmgfoaaGreatDoorZE1
import Derived.Test.YtcnaapiljmgfoaaGreatDoorZE2
import Derived.Test.YtcnaapiljmgfoaaGreatDoorZE3
import Derived.Test.YtcnaapiljmgfoaaGreatDoorZE4
import Derived.Deep.RegionLaw
/-
  Relations between systems, the program's strongly, related and certificate.
-/
namespace Go.Proofs.YtcnaapiljmgfoaaGreatDoor
open Go.RowKit Go.Maps

theorem flat_ei (xs : List Int) : xs.flatMap (fun n => [ei n]) = xs.map ei := by
  induction xs with
  | nil => rfl
  | cons x xs ih => rw [List.flatMap_cons, ih]; rfl
/-- a new block of numbers, read as a slice. -/
theorem r1_new (w : World) (xs : List Int) (B : Nat) (hB : w.heap.size = B) (hm : xs.length ≤ maxLen) : R1 [B] (w.alloc (.cells (xs.map ei).toArray 2)) [.slice (some ⟨B, 0, none⟩) xs.length xs.length] xs := by
  refine ⟨_, rfl, some ⟨B, 0, none⟩, xs.length, rfl, Nat.le_refl _, hm, ?_, ?_⟩
  · rw [flat_ei]; simp
  · refine Or.inr ⟨B, 0, rfl, rfl, by simp; omega, fun j u hj => ?_⟩
    rw [flat_ei] at hj
    rw [show (⟨B, 0 + j, none⟩ : Addr) = ⟨B, j, none⟩ by simp]
    exact cell_new w _ _ _ hB j u (by simpa using hj)
theorem enter_related1 (args : Array Value) (w : World) : Sem.run Tryz.prog (callFunc 91 args) w = .ok (.enter 91 args) w := by go_simp
theorem enter_cert1 (args : Array Value) (w : World) : Sem.run Tryz.prog (callFunc 61 args) w = .ok (.enter 61 args) w := by go_simp
set_option maxRecDepth 20000 in
theorem related1I (P b n : Nat) (S : List (Int × Int)) (D : DataW Unit) (x y : Int) (w : World) (hc : w.cell? ⟨P, 0, none⟩ = some (.map (some b))) (hm : w.ownsMap Tryz.prog 108 ElB b n D) (hp : PMap S D) (hx : In64 x) (hy : In64 y) :
    Calls Tryz.prog 91 #[.int .i64 x, .int .i64 y, .pointer (some ⟨P, 0, none⟩)] w fun e w' => e = .returned (.bool (decide ((x, y) ∈ S))) ∧ Upd [] w w' := by
  have hl := run_pairs hm hp hx hy
  generalize decide ((x, y) ∈ S) = bb at *
  clear hm hp hx hy
  go_enter Tryz.func91, Tryz.ntmps91
  go_wp2_with fail
  go_ret
  exact ⟨rfl, Upd.refl _ _⟩

/-- pairs are a relation of a kind. -/
def relatedF (F : Sys → Sys → (Int → Int → Bool) → Int → Int → List UInt8 → Int → Bool) (A B : Sys) (R : List (List Int)) : Bool := pairsF R A.st B.st && (pairsOf R).all (relF F A B fun x y => decide ((x, y) ∈ pairsOf R))
theorem pairsF_bd {R : List (List Int)} {a b : Int} (h : pairsF R a b = true) : ∀ p ∈ pairsOf R, (0 ≤ p.1 ∧ p.1 < a) ∧ 0 ≤ p.2 ∧ p.2 < b := by
  intro p hp
  unfold pairsOf at hp
  obtain ⟨q, hq, rfl⟩ := List.mem_map.1 hp
  obtain ⟨i, hi, rfl⟩ := List.getElem_of_mem hq
  have h2 := allF_get h i (by omega) (by omega)
  unfold pairP at h2
  have gk : R.getD i [] = R[i] := by rw [List.getD_eq_getElem?_getD, List.getElem?_eq_getElem hi]; rfl
  rw [gk] at h2
  simp only [Bool.and_eq_true] at h2
  have r1 := inB_true h2.1.1.2
  have r2 := inB_true h2.1.2
  omega

set_option maxRecDepth 20000 in
set_option maxHeartbeats 4000000 in
theorem relatedI (fn : FuncId) (F : Sys → Sys → (Int → Int → Bool) → Int → Int → List UInt8 → Int → Bool) (hway : WayC fn F) (A B : Sys) (a1 a2 b1 b2 v : Value) (R : List (List Int)) (w : World) (f1 f2 f3 f4 fr : List Nat)
    (h : Two w A B a1 a2 b1 b2 f1 f2 f3 f4) (hR : R_N2 fr w [v] R) (hR9 : R.length ≤ 2000000) :
    Calls Tryz.prog 63 #[.agg #[ei A.st, ei A.ini, a1, a2], .agg #[ei B.st, ei B.ini, b1, b2], v, .func (.func fn) #[] #[]] w fun e w' => e = .returned (.bool (relatedF F A B R)) ∧ Upd [] w w' := by
  obtain ⟨av, cap, rfl, -, -, -⟩ := slP_open hR
  have hAs := (sys_parts h.oka).1
  have hBs := (sys_parts h.okb).1
  obtain ⟨wA, hwA⟩ : ∃ wA, wA = (w.alloc (.cells #[ei A.st, ei A.ini, a1, a2] 32)).alloc (.cells #[ei B.st, ei B.ini, b1, b2] 32) := ⟨_, rfl⟩
  have U := Lib.hid (show Upd [] w wA by rw [hwA]; exact ((Upd.refl _ _).alloc _).alloc _)
  have s1 : SysAt w.heap.size (w.alloc (.cells #[ei A.st, ei A.ini, a1, a2] 32)) A.st A.ini a1 a2 := heap_alloc_new w _
  have s2 : SysAt (w.heap.size + 1) wA B.st B.ini b1 b2 := by
    have : SysAt (w.alloc (.cells #[ei A.st, ei A.ini, a1, a2] 32)).heap.size wA B.st B.ini b1 b2 := by rw [hwA]; exact heap_alloc_new _ _
    simpa using this
  have s3 : SysAt w.heap.size wA A.st A.ini a1 a2 := by rw [hwA]; exact s1.upd ((Upd.refl [] _).alloc _) (by simp)
  obtain ⟨BA, hBA⟩ : ∃ BA, BA = w.heap.size := ⟨_, rfl⟩
  rw [← hBA] at s2 s3
  have HA := Lib.hid s3
  have HB := Lib.hid s2
  have HT := Lib.hid h
  have S1 := Lib.hid (pairsOkI A.st A.ini B.st B.ini a1 a2 b1 b2 (.slice av R.length cap) R wA fr (R_N2k.upd hR U.out (by simp)) hAs.1 hAs.2 hBs.1 hBs.2 hR9)
  have S2 := Lib.hid (fun (P b n : Nat) (D : DataW Unit) W (hu : Upd [] wA W) (hc : W.cell? ⟨P, 0, none⟩ = some (.map (some b))) (hm : W.ownsMap Tryz.prog 108 ElB b n D) (hp : PMap (pairsOf R) D) (hb : pairsF R A.st B.st = true) =>
    holdsI fn F hway A B a1 a2 b1 b2 (.func (.func 91) #[] #[.pointer (some ⟨P, 0, none⟩)]) (fun x y => decide ((x, y) ∈ pairsOf R)) b n (pairsOf R) D W f1 f2 f3 f4 (h.upd (U.out.trans hu))
      ⟨91, #[.pointer (some ⟨P, 0, none⟩)], rfl, enter_related1, fun W2 x y hu2 hx0 hx1 hy0 hy1 => related1I P b n (pairsOf R) D x y W2 (hu2.keep hc) (ownsMap_upd hm hu2 (by simp)) hp (in64_of (by omega)) (in64_of (by omega))⟩ hm hp (pairsF_bd hb))
  have HZ := Lib.hid (show relatedF F A B R = (pairsF R A.st B.st && (pairsOf R).all (relF F A B fun x y => decide ((x, y) ∈ pairsOf R))) from rfl)
  obtain ⟨z0, z1, z2, z3, -⟩ := s3.facts
  obtain ⟨y0, y1, y2, y3, -⟩ := s2.facts
  have hent := hway.1
  clear s1 s2 s3 h hR hR9 hAs hBs hway
  generalize relatedF F A B R = Z at *
  go_enter Tryz.func63, Tryz.ntmps63
  go_upto_region 1 with (fail)
  rw [← hwA, ← hBA]
  clear hwA hBA
  go_wp2_with fail
  refine S1.out.mono ?_
  rintro e w1 ⟨hP, hu1⟩
  have U1 := Lib.hid hu1
  rcases hP with ⟨hb, rfl⟩ | ⟨hb, b, n, D, rfl, hbl, hm, hp⟩
  · have HE := Lib.hid (show Z = false by rw [HZ.out, hb]; rfl)
    clear S1 S2 HZ hb hu1 z0 z1 z2 z3 y0 y1 y2 y3
    go_wp2_with fail
    go_ret
    exact ⟨by rw [HE.out]; rfl, U.out.trans (U1.out.alloc _)⟩
  · have HE := Lib.hid (show Z = (pairsOf R).all (relF F A B fun x y => decide ((x, y) ∈ pairsOf R)) by rw [HZ.out, hb]; rfl)
    obtain ⟨w2, hw2⟩ : ∃ w2, w2 = w1.alloc (.cells #[.map (some b)] 105) := ⟨_, rfl⟩
    have U2 := Lib.hid (show Upd [] wA w2 by rw [hw2]; exact U1.out.alloc _)
    have hc : w2.cell? ⟨w1.heap.size, 0, none⟩ = some (.map (some b)) := by rw [hw2]; exact cell_new w1 _ _ _ rfl 0 _ rfl
    have hm2 : w2.ownsMap Tryz.prog 108 ElB b n D := by rw [hw2]; exact hm.alloc _
    have T2 := Lib.hid (S2.out w1.heap.size b n D w2 U2.out hc hm2 hp hb)
    obtain ⟨z0, z1, z2, z3, -⟩ := (HA.out.upd U2.out (by simp)).facts
    obtain ⟨y0, y1, y2, y3, -⟩ := (HB.out.upd U2.out (by simp)).facts
    obtain ⟨BP, hBP⟩ : ∃ BP, BP = w1.heap.size := ⟨_, rfl⟩
    rw [← hBP] at hc T2
    clear S1 S2 HZ hb hu1 hm hm2 hp hbl
    generalize (pairsOf R).all (relF F A B fun x y => decide ((x, y) ∈ pairsOf R)) = Y at *
    go_upto_region 4 with (fail)
    rw [← hw2, ← hBP]
    clear hw2 hBP
    go_wp2_with fail
    refine T2.out.mono ?_
    rintro e w3 ⟨rfl, hu3⟩
    have U3 := Lib.hid hu3
    clear T2 hu3
    go_wp2_with fail
    go_ret
    exact ⟨by rw [HE.out]; rfl, U.out.trans (U2.out.trans U3.out)⟩

set_option maxRecDepth 20000 in
set_option maxHeartbeats 2000000 in
theorem cert1I (BA BB : Nat) (sa ia sb ib : Int) (a1 a2 b1 b2 u : Value) (p : List Int) (w : World) (f : List Nat) (hA : SysAt BA w sa ia a1 a2) (hB : SysAt BB w sb ib b1 b2) (hr : R1 f w [u] p) :
    Calls Tryz.prog 61 #[u, .pointer (some ⟨BA, 0, none⟩), .pointer (some ⟨BB, 0, none⟩)] w fun e w' => e = .returned (.bool (p == [ia, ib])) ∧ Upd [] w w' := by
  obtain ⟨la, ca, rfl, -, -, -⟩ := slF1_open hr
  obtain ⟨wB, hwB⟩ : ∃ wB, wB = w.alloc (.cells #[ei ia, ei ib] 2) := ⟨_, rfl⟩
  have U := Lib.hid (show Upd [] w wB by rw [hwB]; exact (Upd.refl _ _).alloc _)
  have hY : R1 [w.heap.size] wB [.slice (some ⟨w.heap.size, 0, none⟩) 2 2] [ia, ib] := by
    rw [hwB]; exact r1_new w [ia, ib] _ rfl (by unfold maxLen; simp)
  have S1 := Lib.hid (equalLI _ _ p [ia, ib] wB f _ (R1k.upd hr U.out (by simp)) hY)
  have zA := hA.facts.2.1
  have zB := hB.facts.2.1
  generalize (p == [ia, ib]) = bb at *
  clear hY hr hA hB
  go_enter Tryz.func61, Tryz.ntmps61
  go_wp2_with fail
  rw [← hwB]
  clear hwB
  refine S1.out.mono ?_
  rintro e w1 ⟨rfl, n, rfl⟩
  clear S1
  go_wp2_with fail
  go_ret
  exact ⟨rfl, U.out.drewN n⟩

/-- pairs are a relation of a kind between two valid systems, with that of both initial states. -/
def certF (F : Sys → Sys → (Int → Int → Bool) → Int → Int → List UInt8 → Int → Bool) (A B : Sys) (R : List (List Int)) : Bool := sysOk A && sysOk B && R.any (fun p => p == [A.ini, B.ini]) && relatedF F A B R

set_option maxRecDepth 20000 in
set_option maxHeartbeats 4000000 in
theorem certI (fn : FuncId) (F : Sys → Sys → (Int → Int → Bool) → Int → Int → List UInt8 → Int → Bool) (hway : WayC fn F) (A B : Sys) (a1 a2 b1 b2 v : Value) (R : List (List Int)) (w : World) (f1 f2 f3 f4 fr : List Nat)
    (hA1 : RS f1 w [a1] A.labs) (hA2 : R_E1 f2 w [a2] A.eds) (hB1 : RS f3 w [b1] B.labs) (hB2 : R_E1 f4 w [b2] B.eds) (hR : R_N2 fr w [v] R) (hR9 : R.length ≤ 2000000)
    (hpA : ∀ p ∈ A.labs, p.length ≤ 2000000) (hpB : ∀ p ∈ B.labs, p.length ≤ 2000000) (he : Env w) :
    Calls Tryz.prog 34 #[.agg #[ei A.st, ei A.ini, a1, a2], .agg #[ei B.st, ei B.ini, b1, b2], v, .func (.func fn) #[] #[]] w fun e w' => e = .returned (.bool (certF F A B R)) ∧ Upd [] w w' := by
  obtain ⟨av, cap, rfl, -, -, -⟩ := slP_open hR
  obtain ⟨wA, hwA⟩ : ∃ wA, wA = (w.alloc (.cells #[ei A.st, ei A.ini, a1, a2] 32)).alloc (.cells #[ei B.st, ei B.ini, b1, b2] 32) := ⟨_, rfl⟩
  have U := Lib.hid (show Upd [] w wA by rw [hwA]; exact ((Upd.refl _ _).alloc _).alloc _)
  have s1 : SysAt w.heap.size (w.alloc (.cells #[ei A.st, ei A.ini, a1, a2] 32)) A.st A.ini a1 a2 := heap_alloc_new w _
  have s2 : SysAt (w.heap.size + 1) wA B.st B.ini b1 b2 := by
    have : SysAt (w.alloc (.cells #[ei A.st, ei A.ini, a1, a2] 32)).heap.size wA B.st B.ini b1 b2 := by rw [hwA]; exact heap_alloc_new _ _
    simpa using this
  have s3 : SysAt w.heap.size wA A.st A.ini a1 a2 := by rw [hwA]; exact s1.upd ((Upd.refl [] _).alloc _) (by simp)
  obtain ⟨BA, hBA⟩ : ∃ BA, BA = w.heap.size := ⟨_, rfl⟩
  rw [← hBA] at s2 s3
  have HA := Lib.hid s3
  have HB := Lib.hid s2
  have hent := hway.1
  have C1 := Lib.hid (fun W (hu : Upd [] wA W) => validI A a1 a2 W f1 f2 (RSk.upd hA1 (U.out.trans hu) (by simp)) (R_E1k.upd hA2 (U.out.trans hu) (by simp)) hpA (he.upd (U.out.trans hu)))
  have C2 := Lib.hid (fun W (hu : Upd [] wA W) => validI B b1 b2 W f3 f4 (RSk.upd hB1 (U.out.trans hu) (by simp)) (R_E1k.upd hB2 (U.out.trans hu) (by simp)) hpB (he.upd (U.out.trans hu)))
  have C3 := Lib.hid (fun W (hu : Upd [] wA W) => containsFuncM (fun p => p == [A.ini, B.ini]) 61 #[.pointer (some ⟨BA, 0, none⟩), .pointer (some ⟨BA + 1, 0, none⟩)] (.slice av R.length cap) R W fr (R_N2k.upd hR (U.out.trans hu) (by simp)) enter_cert1
    (fun wr u f x hx hu2 hr => cert1I BA (BA + 1) A.st A.ini B.st B.ini a1 a2 b1 b2 u x wr f (s3.upd (hu.trans hu2) (by simp)) (s2.upd (hu.trans hu2) (by simp)) hr))
  have C4 := Lib.hid (fun W (hu : Upd [] wA W) (okA : sysOk A = true) (okB : sysOk B = true) => relatedI fn F hway A B a1 a2 b1 b2 (.slice av R.length cap) R W f1 f2 f3 f4 fr ((show Two w A B a1 a2 b1 b2 f1 f2 f3 f4 from ⟨hA1, hA2, hB1, hB2, okA, okB⟩).upd (U.out.trans hu)) (R_N2k.upd hR (U.out.trans hu) (by simp)) hR9)
  have HZ := Lib.hid (show certF F A B R = (sysOk A && sysOk B && R.any (fun p => p == [A.ini, B.ini]) && relatedF F A B R) from rfl)
  obtain ⟨z0, z1, z2, z3, -⟩ := s3.facts
  obtain ⟨y0, y1, y2, y3, -⟩ := s2.facts
  have T1 := Lib.hid (C1.out wA (Upd.refl _ _))
  clear s1 s2 s3 hA1 hA2 hB1 hB2 hR hR9 hpA hpB he hway C1
  generalize certF F A B R = Z at *
  generalize relatedF F A B R = Y at *
  generalize R.any (fun p => p == [A.ini, B.ini]) = X at *
  go_enter Tryz.func34, Tryz.ntmps34
  go_upto_region 1 with (fail)
  rw [← hwA, ← hBA]
  clear hwA hBA
  cases okA : sysOk A with
  | false =>
    have HE := Lib.hid (show Z = false by rw [HZ.out, okA]; rfl)
    rw [okA] at T1
    clear HZ okA C2 C3 C4
    go_wp2_with fail
    refine T1.out.mono ?_
    rintro e w1 ⟨rfl, hu1⟩
    have U1 := Lib.hid hu1
    clear T1 hu1
    go_wp2_with fail
    go_ret
    exact ⟨by rw [HE.out]; rfl, U.out.trans U1.out⟩
  | true =>
    rw [okA] at T1
    go_wp2_with fail
    refine T1.out.mono ?_
    rintro e w1 ⟨rfl, hu1⟩
    have U1 := Lib.hid hu1
    have T2 := Lib.hid (C2.out w1 hu1)
    obtain ⟨y0, y1, y2, y3, -⟩ := (HB.out.upd hu1 (by simp)).facts
    clear T1 hu1 C2
    cases okB : sysOk B with
    | false =>
      have HE := Lib.hid (show Z = false by rw [HZ.out, okA, okB]; rfl)
      rw [okB] at T2
      clear HZ okA okB C3 C4
      go_wp2_with fail
      refine T2.out.mono ?_
      rintro e w2 ⟨rfl, hu2⟩
      have U2 := Lib.hid (U1.out.trans hu2)
      clear T2 hu2
      go_wp2_with fail
      go_ret
      exact ⟨by rw [HE.out]; rfl, U.out.trans U2.out⟩
    | true =>
      have HZ2 := Lib.hid (show Z = (X && Y) by rw [HZ.out, okA, okB]; rfl)
      rw [okB] at T2
      have C5 := Lib.hid (fun W hu => C4.out W hu okA okB)
      clear HZ okA okB C4
      go_wp2_with fail
      refine T2.out.mono ?_
      rintro e w2 ⟨rfl, hu2⟩
      have U2 := Lib.hid (U1.out.trans hu2)
      have T3 := Lib.hid (C3.out w2 U2.out)
      clear T2 hu2 C3
      go_wp2_with fail
      refine T3.out.mono ?_
      rintro e w3 ⟨rfl, hu3⟩
      have U3 := Lib.hid (U2.out.trans hu3)
      have T4 := Lib.hid (C5.out w3 U3.out)
      obtain ⟨z0, z1, z2, z3, -⟩ := (HA.out.upd U3.out (by simp)).facts
      obtain ⟨y0, y1, y2, y3, -⟩ := (HB.out.upd U3.out (by simp)).facts
      clear T3 hu3 C5
      cases X with
      | false =>
        have HE := Lib.hid (show Z = false by rw [HZ2.out]; rfl)
        clear HZ2 T4
        go_wp2_with fail
        go_ret
        exact ⟨by rw [HE.out]; rfl, U.out.trans U3.out⟩
      | true =>
        have HE := Lib.hid (show Z = Y by rw [HZ2.out]; rfl)
        clear HZ2
        go_wp2_with fail
        refine T4.out.mono ?_
        rintro e w4 ⟨rfl, hu4⟩
        have U4 := Lib.hid (U3.out.trans hu4)
        clear T4 hu4
        go_wp2_with fail
        go_ret
        exact ⟨by rw [HE.out]; rfl, U.out.trans U4.out⟩

end Go.Proofs.YtcnaapiljmgfoaaGreatDoor

/-
  Relations between systems, the program's weakly, weakWay and branchingWay.
-/
namespace Go.Proofs.YtcnaapiljmgfoaaGreatDoor
open Go.RowKit

/-- a weak step with a label leads from k to j. -/
def WeakR (T : Sys) (k : Int) (s : List UInt8) (j : Int) : Prop := (s = tauL ∧ ReachT T k j) ∨ (s ≠ tauL ∧ ∃ x l, ReachT T k x ∧ l ∈ folF T [x] s ∧ ReachT T l j)
theorem ReachT.bd {T : Sys} (h : sysOk T = true) {k j : Int} (hr : ReachT T k j) (hk : 0 ≤ k ∧ k < T.st) : 0 ≤ j ∧ j < T.st := by
  induction hr with
  | refl => exact hk
  | step _ h2 _ => exact folF_bd2 h _ h2
theorem folF_some (T : Sys) (ys : List Int) (s : List UInt8) (j : Int) : j ∈ folF T ys s ↔ ∃ x ∈ ys, j ∈ folF T [x] s := by
  unfold folF folP
  simp only [List.mem_map, List.mem_filter, Bool.and_eq_true, List.contains_cons, List.contains_nil, Bool.or_false, beq_iff_eq]
  constructor
  · rintro ⟨e, ⟨h1, h2, h3⟩, rfl⟩
    exact ⟨e.fr, by simpa using h3, e, ⟨h1, h2, rfl⟩, rfl⟩
  · rintro ⟨x, hx, e, ⟨h1, h2, rfl⟩, rfl⟩
    exact ⟨e, ⟨h1, h2, by simpa using hx⟩, rfl⟩

set_option maxRecDepth 20000 in
set_option maxHeartbeats 4000000 in
theorem visibleI (T : Sys) (v1 v2 v3 : Value) (ys : List Int) (s : List UInt8) (w : World) (f1 f2 f3 : List Nat) (h1 : RS f1 w [v1] T.labs) (h2 : R_E1 f2 w [v2] T.eds) (h3 : R1 f3 w [v3] ys) (hok : sysOk T = true) :
    Calls Tryz.prog 108 #[.agg #[ei T.st, ei T.ini, v1, v2], v3, es s] w fun e w' => (∃ v' f' zs, e = .returned v' ∧ R1 f' w' [v'] zs ∧ NoSpot v' ∧ zs.Nodup ∧ ∀ k, k ∈ zs ↔ ∃ x ∈ ys, ∃ l ∈ folF T [x] s, ReachT T l k) ∧ Upd [] w w' := by
  obtain ⟨la, ca, rfl, -, -, -⟩ := slF1_open h1
  obtain ⟨a, cap, rfl, -, -, -⟩ := slF3_open h2
  obtain ⟨xa, xc, rfl, -, -, -⟩ := slF1_open h3
  obtain ⟨wA, hwA⟩ : ∃ wA, wA = w.alloc (.cells #[ei T.st, ei T.ini, .slice la T.labs.length ca, .slice a T.eds.length cap] 32) := ⟨_, rfl⟩
  have U := Lib.hid (show Upd [] w wA by rw [hwA]; exact (Upd.refl _ _).alloc _)
  have hS : SysAt w.heap.size wA T.st T.ini (.slice la T.labs.length ca) (.slice a T.eds.length cap) := by rw [hwA]; exact heap_alloc_new w _
  obtain ⟨BT, hBT⟩ : ∃ BT, BT = w.heap.size := ⟨_, rfl⟩
  rw [← hBT] at hS
  obtain ⟨z0, z1, z2, z3, -⟩ := hS.facts
  have F1 := Lib.hid (followG T (.slice la T.labs.length ca) (.slice a T.eds.length cap) (.slice xa ys.length xc) ys s wA.drew f1 f2 f3 (RSk.upd h1 (U.out.drew) (by simp)) (R_E1k.upd h2 (U.out.drew) (by simp)) (R1k.upd h3 (U.out.drew) (by simp)) hok)
  have F2 := Lib.hid (fun v f zs W (hu : Upd [] wA W) (hr : R1 f W [v] zs) (hn : NoSpot v) (hd : zs.Nodup) (hb : ∀ x ∈ zs, 0 ≤ x ∧ x < T.st) => internalI T (.slice la T.labs.length ca) (.slice a T.eds.length cap) v zs W f1 f2 f (RSk.upd h1 (U.out.trans hu) (by simp)) (R_E1k.upd h2 (U.out.trans hu) (by simp)) hr hn hok hd hb)
  have HP := Lib.hid (show (setF (folF T ys s)).Nodup from (setF_pair _).imp (fun {a b} h => by omega))
  have HB := Lib.hid (fun x (hx : x ∈ setF (folF T ys s)) => folF_bd2 hok x ((setF_mem _ x).1 hx))
  have HM := Lib.hid (fun x => setF_mem (folF T ys s) x)
  clear h1 h2 h3 hok hS
  generalize setF (folF T ys s) = FO at *
  go_enter Tryz.func108, Tryz.ntmps108
  go_upto_region 1 with (fail)
  rw [← hwA, ← hBT]
  clear hwA hBT
  go_region_held3 (fun w' => w'.cell? ⟨BT, 0, none⟩ = some (ei T.st) ∧ w'.cell? ⟨BT, 1, none⟩ = some (ei T.ini) ∧ w'.cell? ⟨BT, 2, none⟩ = some (.slice la T.labs.length ca) ∧ w'.cell? ⟨BT, 3, none⟩ = some (.slice a T.eds.length cap)) (go_keep)
    (first
      | ((go_at_call 65); (with_reducible refine F1.out.mono ?_); rintro e w4 ⟨⟨v4, g4, rfl, r4, ns4, -⟩, hu4⟩; have x0 := hu4.keep z0; have x1 := hu4.keep z1; have x2 := hu4.keep z2; have x3 := hu4.keep z3)
      | ((go_at_call 70); (with_reducible refine (F2.out _ _ _ _ ((Upd.refl [] wA).drew.trans hu4) r4 ns4 HP.out HB.out).mono ?_); rintro e w5 ⟨⟨v5, g5, zs, rfl, r5, ns5, nd5, hm5⟩, hu5⟩; have y0 := hu5.keep x0; have y1 := hu5.keep x1; have y2 := hu5.keep x2; have y3 := hu5.keep x3))
  have HU := Lib.hid ((U.out.drew.trans hu4).trans hu5)
  have HR := Lib.hid (And.intro r5 (And.intro ns5 (And.intro nd5 hm5)))
  clear x0 x1 x2 x3 y0 y1 y2 y3 hu4 hu5 r5 ns5 nd5 hm5 r4 ns4 z0 z1 z2 z3 F1 F2
  go_wp2_with fail
  go_ret
  refine ⟨⟨v5, g5, zs, rfl, HR.out.1, HR.out.2.1, HR.out.2.2.1, fun k => ?_⟩, HU.out⟩
  rw [HR.out.2.2.2 k]
  constructor
  · rintro ⟨l, hl, hr⟩
    obtain ⟨x, hx, hf⟩ := (folF_some T ys s l).1 ((HM.out l).1 hl)
    exact ⟨x, hx, l, hf, hr⟩
  · rintro ⟨x, hx, l, hf, hr⟩
    exact ⟨l, (HM.out l).2 ((folF_some T ys s l).2 ⟨x, hx, hf⟩), hr⟩

theorem WeakR.bd {T : Sys} (h : sysOk T = true) {k j : Int} {s : List UInt8} (hr : WeakR T k s j) (hk : 0 ≤ k ∧ k < T.st) : 0 ≤ j ∧ j < T.st := by
  rcases hr with ⟨-, hr⟩ | ⟨-, x, l, -, h2, h3⟩
  · exact hr.bd h hk
  · exact h3.bd h (folF_bd2 h _ h2)

set_option maxRecDepth 20000 in
set_option maxHeartbeats 4000000 in
theorem weaklyI (T : Sys) (v1 v2 : Value) (k : Int) (s : List UInt8) (w : World) (f1 f2 : List Nat) (h1 : RS f1 w [v1] T.labs) (h2 : R_E1 f2 w [v2] T.eds) (hok : sysOk T = true) (hk : 0 ≤ k ∧ k < T.st) :
    Calls Tryz.prog 81 #[.agg #[ei T.st, ei T.ini, v1, v2], .int .i64 k, es s] w fun e w' => (∃ v' f' zs, e = .returned v' ∧ R1 f' w' [v'] zs ∧ ∀ j, j ∈ zs ↔ WeakR T k s j) ∧ Upd [] w w' := by
  obtain ⟨la, ca, rfl, -, -, -⟩ := slF1_open h1
  obtain ⟨a, cap, rfl, -, -, -⟩ := slF3_open h2
  obtain ⟨wA, hwA⟩ : ∃ wA, wA = w.alloc (.cells #[ei T.st, ei T.ini, .slice la T.labs.length ca, .slice a T.eds.length cap] 32) := ⟨_, rfl⟩
  have U := Lib.hid (show Upd [] w wA by rw [hwA]; exact (Upd.refl _ _).alloc _)
  have hS : SysAt w.heap.size wA T.st T.ini (.slice la T.labs.length ca) (.slice a T.eds.length cap) := by rw [hwA]; exact heap_alloc_new w _
  obtain ⟨wB, hwB⟩ : ∃ wB, wB = wA.alloc (.cells #[ei k] 2) := ⟨_, rfl⟩
  have UB := Lib.hid (show Upd [] wA wB by rw [hwB]; exact (Upd.refl _ _).alloc _)
  have hY : R1 [wA.heap.size] wB [.slice (some ⟨wA.heap.size, 0, none⟩) 1 1] [k] := by rw [hwB]; exact r1_one wA k _ rfl
  have hszA : wA.heap.size = w.heap.size + 1 := by rw [hwA]; simp
  obtain ⟨BT, hBT⟩ : ∃ BT, BT = w.heap.size := ⟨_, rfl⟩
  rw [← hBT] at hS hszA
  rw [hszA] at hY
  have HS := Lib.hid hS
  obtain ⟨z0, z1, z2, z3, -⟩ := hS.facts
  have F1 := Lib.hid (internalI T (.slice la T.labs.length ca) (.slice a T.eds.length cap) (.slice (some ⟨BT + 1, 0, none⟩) 1 1) [k] wB f1 f2 [BT + 1] (RSk.upd h1 (U.out.trans UB.out) (by simp)) (R_E1k.upd h2 (U.out.trans UB.out) (by simp)) hY (NoSpot.mk _ _ _ _) hok (by simp) (fun x hx => by simp at hx; subst hx; exact hk))
  have F2 := Lib.hid (fun v f zs W (hu : Upd [] wA W) (hr : R1 f W [v] zs) => visibleI T (.slice la T.labs.length ca) (.slice a T.eds.length cap) v zs s W f1 f2 f (RSk.upd h1 (U.out.trans hu) (by simp)) (R_E1k.upd h2 (U.out.trans hu) (by simp)) hr hok)
  clear h1 h2 hok hS hY hk
  go_enter Tryz.func81, Tryz.ntmps81
  go_upto_region 1 with (fail)
  rw [← hwA, ← hBT]
  clear hwA hBT
  go_wp2_with fail
  rw [← hwB]
  clear hwB hszA
  refine F1.out.mono ?_
  rintro e w1 ⟨⟨v1', g1, zs, rfl, r1, ns1, nd1, hm1⟩, hu1⟩
  obtain ⟨xa, xc, rfl, -, -, -⟩ := slF1_open r1
  have U1 := Lib.hid (UB.out.trans hu1)
  have R1' := Lib.hid r1
  have HM := Lib.hid (fun j => show j ∈ zs ↔ ReachT T k j by rw [hm1 j]; simp)
  obtain ⟨z0, z1, z2, z3, -⟩ := (HS.out.upd U1.out (by simp)).facts
  clear F1 hu1 r1 nd1 hm1 ns1
  by_cases hs : s = tauL
  · have hse : (s == tauL) = true := by simp [hs]
    have HW := Lib.hid (fun j => show j ∈ zs ↔ WeakR T k s j by
      rw [HM.out j]
      unfold WeakR
      simp [hs])
    subst hs
    clear F2 HM
    go_wp2_with fail
    go_ret
    exact ⟨⟨_, g1, zs, rfl, R1'.out, HW.out⟩, U.out.trans U1.out⟩
  · have hse : (s == tauL) = false := by simp [hs]
    have hse2 : (s == [116, 97, 117]) = false := hse
    have T2 := Lib.hid (F2.out _ g1 zs w1 U1.out R1'.out)
    have HS2 := Lib.hid hs
    clear F2 hs
    go_wp2_with fail
    refine T2.out.mono ?_
    rintro e w2 ⟨⟨v2', g2, zs2, rfl, r2, -, -, hm2⟩, hu2⟩
    have R2 := Lib.hid (And.intro r2 hm2)
    have U2 := Lib.hid (U1.out.trans hu2)
    clear T2 hu2 r2 hm2
    go_wp2_with fail
    go_ret
    refine ⟨⟨_, g2, zs2, rfl, R2.out.1, fun j => ?_⟩, U.out.trans U2.out⟩
    rw [R2.out.2 j]
    unfold WeakR
    constructor
    · rintro ⟨x, hx, l, hl, hr⟩
      exact Or.inr ⟨HS2.out, x, l, (HM.out x).1 hx, hl, hr⟩
    · rintro (⟨h, -⟩ | ⟨-, x, l, hx, hl, hr⟩)
      · exact absurd h HS2.out
      · exact ⟨x, (HM.out x).2 hx, l, hl, hr⟩

end Go.Proofs.YtcnaapiljmgfoaaGreatDoor

/-
  Relations between systems, the reference's l11Find; weak steps by a label's number and by its text.
-/
namespace Go.Proofs.YtcnaapiljmgfoaaGreatDoor
open Go.RowKit

/-- a text's place in a list, or -1. -/
def FindP (L : List (List UInt8)) (s : List UInt8) (k : Int) : Prop := (k = -1 ∧ ∀ p ∈ L, p ≠ s) ∨ (0 ≤ k ∧ k < L.length ∧ L.getD k.toNat [] = s)

set_option maxRecDepth 20000 in
set_option maxHeartbeats 2000000 in
theorem findS (v : Value) (L : List (List UInt8)) (s : List UInt8) (w : World) (fp : List Nat) (hR : RS fp w [v] L) :
    Calls Tryz.prog 106 #[v, es s] w fun e w' => (∃ k : Int, e = .returned (.int .i64 k) ∧ FindP L s k) ∧ w = w' := by
  obtain ⟨a, cap, rfl, l1, l2, hc⟩ := slF1_open hR
  unfold maxLen at l2
  have HC := Lib.hid hc
  clear hR hc
  go_enter Tryz.func106, Tryz.ntmps106
  go_wp2_with fail
  go_loop [5] (fun iv => ∃ k : Nat, k ≤ L.length ∧ iv = .int .i64 k ∧ Hid (∀ p ∈ L.take k, p ≠ s)) (fun iv => L.length - (intOf iv).toNat)
  case atStart => exact ⟨0, Nat.zero_le _, rfl, Lib.hid (fun p hp => by simp at hp)⟩
  case round =>
    obtain ⟨k, hk, rfl, HI⟩ := hrel
    by_cases hlt : k < L.length
    · obtain ⟨b, o, rfl, -, -, p1⟩ := HC.out k hlt
      have hkl : (k : Int) < (L.length : Int) := by omega
      have HTK := Lib.hid (show L.take (k + 1) = L.take k ++ [L[k]] from List.take_succ_eq_append_getElem hlt)
      have HGD := Lib.hid (show L.getD k [] = L[k] by rw [List.getD_eq_getElem?_getD, List.getElem?_eq_getElem hlt]; rfl)
      generalize L[k] = q at *
      cases hq : (q == s) with
      | true =>
        have hne : (q != s) = false := by simp [bne, hq]
        have HE := Lib.hid (show FindP L s (k : Int) from Or.inr ⟨by omega, hkl, by rw [Int.toNat_natCast, HGD.out]; simpa using hq⟩)
        clear HI HTK HGD
        go_wp2_with fail
        go_ret
        exact ⟨⟨_, rfl, HE.out⟩, rfl⟩
      | false =>
        have hne : (q != s) = true := by simp [bne, hq]
        have HI9 := Lib.hid (show ∀ p ∈ L.take (k + 1), p ≠ s from fun p hp => by
          rw [HTK.out] at hp
          rcases List.mem_append.1 hp with h | h
          · exact HI.out p h
          · simp at h; subst h; simpa using hq)
        clear HI HTK HGD
        go_wp2_with fail
        go_round
        case rel => exact ⟨k + 1, by omega, by go_num, HI9⟩
        case measure => simp [intOf]; omega
    · obtain rfl : k = L.length := by omega
      have HE := Lib.hid (show FindP L s (-1) from Or.inl ⟨rfl, fun p hp => HI.out p (by rw [List.take_length]; exact hp)⟩)
      clear HI
      go_wp2_with fail
      go_ret
      exact ⟨⟨_, rfl, HE.out⟩, rfl⟩

/-- steps by a label's number are steps by its text. -/
theorem step_weak {B : Sys} (h : sysOk B = true) {s : List UInt8} {k : Int} (hk : 0 ≤ k ∧ k < B.labs.length) (hs : B.labs.getD k.toNat [] = s) (y j : Int) : StepR B y k j ↔ WeakR B y s j := by
  have hl : labsOk B.labs = true := by
    have h' := h
    unfold sysOk at h'
    simp only [Bool.and_eq_true] at h'
    exact h'.1.1.2
  have ht := tau_lab hl hk.1 hk.2
  unfold StepR WeakR
  have e1 : k = 0 ↔ s = tauL := by rw [← hs]; exact ht.symm
  constructor
  · rintro (⟨h1, h2⟩ | ⟨h1, g, hg, h2, h3, h4⟩)
    · exact Or.inl ⟨e1.1 h1, h2⟩
    · refine Or.inr ⟨fun h => h1 (e1.2 h), g.fr, g.to, h3, ?_, h4⟩
      unfold folF folP
      rw [List.mem_map]
      exact ⟨g, List.mem_filter.2 ⟨hg, by rw [h2, hs]; simp⟩, rfl⟩
  · rintro (⟨h1, h2⟩ | ⟨h1, x, l, h2, h3, h4⟩)
    · exact Or.inl ⟨e1.2 h1, h2⟩
    · unfold folF folP at h3
      obtain ⟨g, hg, rfl⟩ := List.mem_map.1 h3
      obtain ⟨hg1, hg2⟩ := List.mem_filter.1 hg
      simp only [Bool.and_eq_true, beq_iff_eq, List.contains_cons, List.contains_nil, Bool.or_false] at hg2
      have hgb := sys_labs h g hg1
      have := labs_inj hl g.lb.toNat k.toNat (by omega) (by omega) (hg2.1.trans hs.symm)
      exact Or.inr ⟨fun h => h1 (e1.1 h), g, hg1, by omega, by rw [hg2.2]; exact h2, h4⟩
/-- no weak step has a label that the system lacks. -/
theorem no_weak {B : Sys} (h : sysOk B = true) {s : List UInt8} (hs : ∀ p ∈ B.labs, p ≠ s) (y j : Int) : ¬ WeakR B y s j := by
  have hl : labsOk B.labs = true := by
    have h' := h
    unfold sysOk at h'
    simp only [Bool.and_eq_true] at h'
    exact h'.1.1.2
  have hlen := (sys_parts h).2.2.1.1
  rintro (⟨rfl, -⟩ | ⟨-, x, l, -, h3, -⟩)
  · have ht := (tau_lab hl (n := 0) (by omega) (by omega)).2 rfl
    have hm : B.labs.getD 0 [] ∈ B.labs := by
      rw [List.getD_eq_getElem?_getD, List.getElem?_eq_getElem (by omega)]
      exact List.getElem_mem _
    exact hs _ hm ht
  · unfold folF folP at h3
    obtain ⟨g, hg, rfl⟩ := List.mem_map.1 h3
    obtain ⟨hg1, hg2⟩ := List.mem_filter.1 hg
    simp only [Bool.and_eq_true, beq_iff_eq] at hg2
    have hgb := sys_labs h g hg1
    have hm : B.labs.getD g.lb.toNat [] ∈ B.labs := by
      rw [List.getD_eq_getElem?_getD, List.getElem?_eq_getElem (by omega)]
      exact List.getElem_mem _
    exact hs _ hm hg2.1

end Go.Proofs.YtcnaapiljmgfoaaGreatDoor

/-
  Relations between systems, the program's weakWay and branchingWay. (The loop is printed twice by tools/genbisw.py.)
-/
namespace Go.Proofs.YtcnaapiljmgfoaaGreatDoor
open Go.RowKit

theorem enter_weak (args : Array Value) (w : World) : Sem.run Tryz.prog (callFunc 52 args) w = .ok (.enter 52 args) w := by go_simp
theorem enter_weak1 (args : Array Value) (w : World) : Sem.run Tryz.prog (callFunc 82 args) w = .ok (.enter 82 args) w := by go_simp
theorem weak1I (T V : Nat) (A B : Sys) (a1 a2 b1 b2 hv : Value) (H : Int → Int → Bool) (v u : Int) (w : World) (hT : RelAt T w A B a1 a2 b1 b2 hv) (hV : w.cell? ⟨V, 0, none⟩ = some (ei v)) (hh : HasC hv A.st B.st H w) (h1 : 0 ≤ v) (h2 : v < A.st) (h3 : 0 ≤ u) (h4 : u < B.st) :
    Calls Tryz.prog 82 #[.int .i64 u, .pointer (some ⟨T, 0, none⟩), .pointer (some ⟨V, 0, none⟩)] w fun e w' => e = .returned (.bool (H v u)) ∧ Upd [] w w' := by
  obtain ⟨g, caps, rfl, hent, hc⟩ := hh
  have S1 := Lib.hid (hc w v u (Upd.refl _ _) h1 h2 h3 h4)
  have z8 := hT.facts.2.2
  generalize H v u = b at *
  clear hc hT h1 h2 h3 h4
  go_enter Tryz.func82, Tryz.ntmps82
  go_wp2_with fail
  refine S1.out.mono ?_
  rintro e w1 ⟨rfl, hu⟩
  have U := Lib.hid hu
  clear S1 hu
  go_wp2_with fail
  go_ret
  exact ⟨rfl, U.out⟩

open Classical in
/-- an edge answered by a weak step. -/
noncomputable def weakF (_A B : Sys) (H : Int → Int → Bool) (_x y : Int) (s : List UInt8) (v : Int) : Bool := decide (∃ u, WeakR B y s u ∧ H v u = true)
theorem weakF_any (A B : Sys) (H : Int → Int → Bool) (x y : Int) (s : List UInt8) (v : Int) (zs : List Int) (h : ∀ j, j ∈ zs ↔ WeakR B y s j) : zs.any (fun u => H v u) = weakF A B H x y s v := by
  classical
  unfold weakF
  rw [Bool.eq_iff_iff, List.any_eq_true, decide_eq_true_iff]
  constructor
  · rintro ⟨u, hu, hq⟩; exact ⟨u, (h u).1 hu, hq⟩
  · rintro ⟨u, hu, hq⟩; exact ⟨u, (h u).2 hu, hq⟩

set_option maxRecDepth 20000 in
set_option maxHeartbeats 4000000 in
theorem weakWayI : WayC 52 weakF := by
  refine ⟨enter_weak, ?_⟩
  intro A B a1 a2 b1 b2 hv H x y v s w f1 f2 f3 f4 h hh hx0 hx1 hy0 hy1 hv0 hv1
  obtain ⟨wA, hwA⟩ : ∃ wA, wA = (w.alloc (.cells #[ei A.st, ei A.ini, a1, a2, ei B.st, ei B.ini, b1, b2, hv] 86)).alloc (.cells #[ei v] 2) := ⟨_, rfl⟩
  have U := Lib.hid (show Upd [] w wA by rw [hwA]; exact ((Upd.refl _ _).alloc _).alloc _)
  have hR : RelAt w.heap.size wA A B a1 a2 b1 b2 hv := by
    have h0 : RelAt w.heap.size (w.alloc (.cells #[ei A.st, ei A.ini, a1, a2, ei B.st, ei B.ini, b1, b2, hv] 86)) A B a1 a2 b1 b2 hv := RelAt.new w A B a1 a2 b1 b2 hv
    rw [hwA]; exact h0.upd ((Upd.refl [] _).alloc _) (by simp)
  have hV : wA.cell? ⟨w.heap.size + 1, 0, none⟩ = some (ei v) := by rw [hwA]; exact cell_new _ _ _ _ (by simp) 0 _ rfl
  obtain ⟨BR, hBR⟩ : ∃ BR, BR = w.heap.size := ⟨_, rfl⟩
  rw [← hBR] at hR hV
  have HR := Lib.hid hR
  have HV := Lib.hid hV
  obtain ⟨-, ⟨z4, z5, z6, z7⟩, -⟩ := hR.facts
  have S1 := Lib.hid (weaklyI B b1 b2 y s wA f3 f4 (RSk.upd h.lb U.out (by simp)) (R_E1k.upd h.eb U.out (by simp)) h.okb ⟨hy0, hy1⟩)
  have S2 := Lib.hid (fun (vv : Value) (f : List Nat) (zs : List Int) W (hu : Upd [] wA W) (hr : R1 f W [vv] zs) (hm : ∀ j, j ∈ zs ↔ WeakR B y s j) => containsFuncN (fun u => H v u) 82 #[.pointer (some ⟨BR, 0, none⟩), .pointer (some ⟨BR + 1, 0, none⟩)] vv zs W f hr enter_weak1
    (fun wr u hu1 hu2 => weak1I BR (BR + 1) A B a1 a2 b1 b2 hv H v u wr (HR.out.upd (hu.trans hu2) (by simp)) ((hu.trans hu2).keep HV.out) (hh.upd (U.out.trans (hu.trans hu2))) hv0 hv1 (WeakR.bd h.okb ((hm u).1 hu1) ⟨hy0, hy1⟩).1 (WeakR.bd h.okb ((hm u).1 hu1) ⟨hy0, hy1⟩).2))
  have HZ := Lib.hid (fun zs (hm : ∀ j, j ∈ zs ↔ WeakR B y s j) => weakF_any A B H x y s v zs hm)
  clear hR hV h hh hx0 hx1 hy0 hy1 hv0 hv1
  generalize weakF A B H x y s v = Z at *
  go_enter Tryz.func52, Tryz.ntmps52
  go_upto_region 1 with (fail)
  rw [← hwA, ← hBR]
  clear hwA hBR
  go_wp2_with fail
  refine S1.out.mono ?_
  rintro e w1 ⟨⟨vv, ff, zs, rfl, hr, hm⟩, hu1⟩
  have T2 := Lib.hid (S2.out vv ff zs w1 hu1 hr hm)
  have U1 := Lib.hid hu1
  have HE := Lib.hid (HZ.out zs hm)
  clear S1 S2 hu1 hr hm
  go_wp2_with fail
  refine T2.out.mono ?_
  rintro e w2 ⟨rfl, hu2⟩
  have U2 := Lib.hid hu2
  clear T2 hu2
  rw [HE.out]
  go_wp2_with fail
  go_ret
  exact ⟨rfl, U.out.trans (U1.out.trans U2.out)⟩

end Go.Proofs.YtcnaapiljmgfoaaGreatDoor

/-
  Relations between systems, the reference's l16Met. (The drawn region's way is printed by tools/genbismw.py.)
-/
namespace Go.Proofs.YtcnaapiljmgfoaaGreatDoor
open Go.RowKit

theorem stepS (B : Sys) (Tb : Nat) (b2 v : Value) (y : Nat) (lb : Int) (n : Nat) (hn : B.st = n) (w : World) (f4 fm : List Nat) (z0 : w.cell? ⟨Tb, 0, none⟩ = some (ei B.st)) (z3 : w.cell? ⟨Tb, 3, none⟩ = some b2) (hE : R_E1 f4 w [b2] B.eds) (hM : Rb fm w [v] (flat n (closeF n (tauM B.eds)))) (hok : sysOk B = true) (hy : y < n) :
    Calls Tryz.prog 107 #[.pointer (some ⟨Tb, 0, none⟩), v, .int .i64 y, .int .i64 lb] w fun e w' => (∃ (b : Nat) (S : List Bool), e = .returned (.slice (some ⟨b, 0, none⟩) S.length S.length) ∧ BlkB b w' S ∧ S.length = n ∧ ∀ j : Nat, j < n → (S.getD j false = true ↔ StepR B y lb j)) ∧ Upd [] w w' := by
  by_cases h : lb = 0
  · subst h; exact stepS0 B Tb v y n hn w fm z0 hM hok hy
  · exact stepS1 B Tb b2 v y lb h n hn w f4 fm z0 z3 hE hM hok hy
theorem weakF_iff (A B : Sys) (H : Int → Int → Bool) (x y : Int) (s : List UInt8) (v : Int) : weakF A B H x y s v = true ↔ ∃ u, WeakR B y s u ∧ H v u = true := by
  classical
  unfold weakF
  rw [decide_eq_true_iff]

set_option maxRecDepth 20000 in
set_option maxHeartbeats 16000000 in
theorem metWS (A B : Sys) (Ta Tb : Nat) (a1 a2 b1 b2 sv v : Value) (R : List (List Int)) (back : Bool) (x : Int) (y n : Nat) (hn : B.st = n) (w : World) (f1 f2 f3 f4 fm fr : List Nat)
    (za2 : w.cell? ⟨Ta, 2, none⟩ = some a1) (za3 : w.cell? ⟨Ta, 3, none⟩ = some a2) (zb0 : w.cell? ⟨Tb, 0, none⟩ = some (ei B.st)) (zb2 : w.cell? ⟨Tb, 2, none⟩ = some b1) (zb3 : w.cell? ⟨Tb, 3, none⟩ = some b2)
    (hA1 : RS f1 w [a1] A.labs) (hA2 : R_E1 f2 w [a2] A.eds) (hB1 : RS f3 w [b1] B.labs) (hB2 : R_E1 f4 w [b2] B.eds) (hM : Rb fm w [sv] (flat n (closeF n (tauM B.eds)))) (hR : R_N2 fr w [v] R) (hR2 : ∀ p ∈ R, p.length = 2)
    (hokA : sysOk A = true) (hokB : sysOk B = true) (hy : y < n) :
    Calls Tryz.prog 80 #[.pointer (some ⟨Ta, 0, none⟩), .pointer (some ⟨Tb, 0, none⟩), sv, .int .i64 x, .int .i64 y, v, .bool back] w fun r w' => r = .returned (.bool (ansF A x (weakF A B (fun u v => inPF R u v back) x y))) ∧ Upd [] w w' := by
  obtain ⟨-, -, -, hAl, -, -⟩ := sys_parts hokA
  obtain ⟨hBst, -, -, -, -, -⟩ := sys_parts hokB
  have hn40 : n ≤ 40 := by omega
  have HLA := Lib.hid (sys_labs hokA)
  have FS0 := Lib.hid (fun s W (hu : Upd [] w W) => findS b1 B.labs s W f3 (RSk.upd hB1 hu (by simp)))
  have ST := Lib.hid (fun lb W (hu : Upd [] w W) => stepS B Tb b2 sv y lb n hn W f4 fm (hu.keep zb0) (hu.keep zb3) (R_E1k.upd hB2 hu (by simp)) (Rbk.upd hM hu (by simp)) hokB hy)
  have HP := Lib.hid (fun p q W (hu : Upd [] w W) => hasPS v R p q W fr (R_N2k.upd hR hu (by simp)) hR2)
  have SW := Lib.hid (fun (s : List UInt8) (k : Int) (hk : 0 ≤ k ∧ k < B.labs.length) (hs : B.labs.getD k.toNat [] = s) (j : Int) => step_weak hokB hk hs y j)
  have NW := Lib.hid (fun (s : List UInt8) (hs : ∀ p ∈ B.labs, p ≠ s) (j : Int) => no_weak hokB hs y j)
  have WB := Lib.hid (fun (s : List UInt8) (j : Int) (h : WeakR B y s j) => WeakR.bd hokB h (show 0 ≤ (y : Int) ∧ (y : Int) < B.st by omega))
  have HN := Lib.hid hn
  obtain ⟨la, ca, rfl, la1, la2, hca⟩ := slF1_open hA1
  obtain ⟨lbb, cbb, rfl, -, -, -⟩ := slF1_open hB1
  obtain ⟨ea, cea, rfl, -, ea2, hce⟩ := slF3_open hA2
  obtain ⟨rv, rc, hv, -, -, -⟩ := slP_open hR
  subst hv
  unfold maxLen at la2 ea2
  have HCA := Lib.hid hca
  have HCE := Lib.hid hce
  have HZ := Lib.hid (And.intro za2 (And.intro za3 (And.intro (show w.cell? ⟨Tb, 0, none⟩ = some (ei (n : Int)) by rw [← hn]; exact zb0) zb2)))
  have HWI := Lib.hid (fun s q => weakF_iff A B (fun u v => inPF R u v back) x y s q)
  have HAN := Lib.hid (show ansF A x (weakF A B (fun u v => inPF R u v back) x y) = (outF (A.eds.take A.eds.length) x).all fun e => weakF A B (fun u v => inPF R u v back) x y (A.labs.getD e.lb.toNat []) e.to by rw [List.take_length]; rfl)
  have HIN := Lib.hid (fun (e : Ed) (he : e ∈ A.eds) (hx : e.fr = x) (hw : weakF A B (fun u v => inPF R u v back) x y (A.labs.getD e.lb.toNat []) e.to = false) => show ansF A x (weakF A B (fun u v => inPF R u v back) x y) = false by
    rw [Bool.eq_false_iff]
    intro h9
    unfold ansF at h9
    have := List.all_eq_true.1 h9 e (List.mem_filter.2 ⟨he, by simpa using hx⟩)
    rw [hw] at this
    cases this)
  clear za2 za3 zb0 zb2 zb3 hA1 hA2 hB1 hB2 hM hR hR2 hokA hokB hn hca hce
  generalize weakF A B (fun u v => inPF R u v back) x y = WF at *
  generalize ansF A x WF = Z at *
  go_enter Tryz.func80, Tryz.ntmps80
  go_wp2_with fail
  go_loopw [15] (fun iv wr => ∃ i : Nat, i ≤ A.eds.length ∧ iv = .int .i64 i ∧ Hid (((outF (A.eds.take i) x).all fun e => WF (A.labs.getD e.lb.toNat []) e.to) = true) ∧ Hid (Upd [] w wr)) (fun iv _ => A.eds.length - (intOf iv).toNat)
  case atStart => exact ⟨0, Nat.zero_le _, rfl, Lib.hid rfl, Lib.hid (Upd.refl _ _)⟩
  case round =>
    obtain ⟨wo, rfl⟩ : ∃ wo : World, wo = wr := ⟨_, rfl⟩
    obtain ⟨i, hi, rfl, HI, HU⟩ := hrel
    obtain ⟨ya2, ya3, yb0, yb2⟩ := HZ.out
    have xa3 := HU.out.keep ya3
    by_cases hlt : i < A.eds.length
    · obtain ⟨eb, eo, rfl, -, -, p1, p2, p3⟩ := HCE.out i hlt
      have p1 := HU.out.keep p1
      have p2 := HU.out.keep p2
      have p3 := HU.out.keep p3
      have hg := List.getElem_mem hlt
      have hil : (i : Int) < (A.eds.length : Int) := by omega
      have hlab := HLA.out _ hg
      have HST := Lib.hid (outF_step A.eds x i hlt)
      have HIN2 := Lib.hid (HIN.out _ hg)
      generalize A.eds[i] = e at *
      obtain ⟨e1, e2, e3⟩ := e
      simp only at p1 p2 p3 hlab HST HIN2
      obtain ⟨le, rfl⟩ : ∃ N : Nat, e2 = N := ⟨e2.toNat, by omega⟩
      have hle : le < A.labs.length := by omega
      have hlei : (le : Int) < (A.labs.length : Int) := by omega
      obtain ⟨ba, oa, rfl, -, -, pA⟩ := HCA.out le hle
      have gA : A.labs.getD le [] = A.labs[le] := by rw [List.getD_eq_getElem?_getD, List.getElem?_eq_getElem hle]; rfl
      simp only [Int.toNat_natCast, gA] at HIN2
      have HGA := Lib.hid gA
      clear gA hlab
      generalize A.labs[le] = sa at *
      obtain ⟨wB, hwB⟩ : ∃ wB, wB = wo.alloc (.cells #[.int .i64 e1, .int .i64 le, .int .i64 e3] 74) := ⟨_, rfl⟩
      have UB : Upd [] wo wB := by rw [hwB]; exact (Upd.refl _ _).alloc _
      have HUB := Lib.hid (HU.out.trans UB)
      have t0 : wB.cell? ⟨wo.heap.size, 0, none⟩ = some (ei e1) := by rw [hwB]; exact cell_new wo _ _ _ rfl 0 _ rfl
      have t1 : wB.cell? ⟨wo.heap.size, 1, none⟩ = some (ei le) := by rw [hwB]; exact cell_new wo _ _ _ rfl 1 _ rfl
      have t2 : wB.cell? ⟨wo.heap.size, 2, none⟩ = some (ei e3) := by rw [hwB]; exact cell_new wo _ _ _ rfl 2 _ rfl
      have HT2 := Lib.hid (fun W (hu : Upd [] wB W) => hu.keep t2)
      have zb2 := HUB.out.keep yb2
      have za2 := HUB.out.keep ya2
      have pA := HUB.out.keep pA
      have FS := Lib.hid (fun W (hu : Upd [] wB W) => FS0.out sa W (HUB.out.trans hu))
      obtain ⟨BE, hBE⟩ : ∃ BE, BE = wo.heap.size := ⟨_, rfl⟩
      rw [← hBE] at t0 t1 t2 HT2
      go_upto_region 5 with (fail)
      rw [← hwB, ← hBE]
      clear hwB hBE p1 p2 p3 HU UB hg FS0
      cases hx : (e1 == x) with
      | false =>
        have hne : (e1 != x) = true := by simp [bne, hx]
        have HI9 := Lib.hid (show ((outF (A.eds.take (i + 1)) x).all fun e => WF (A.labs.getD e.lb.toNat []) e.to) = true by rw [HST.out, hx]; simpa using HI.out)
        clear HI HST
        go_wp2_with fail
        go_roundw
        case rel => exact ⟨i + 1, by omega, by go_num, HI9, HUB⟩
        case measure => simp [intOf]; omega
      | true =>
        have hne : (e1 != x) = false := by simp [bne, hx]
        have HNX := Lib.hid (fun (h : WF sa e3 = true) => show ((outF (A.eds.take (i + 1)) x).all fun e => WF (A.labs.getD e.lb.toNat []) e.to) = true by
          rw [HST.out, hx, List.all_append, HI.out]
          simp only [if_true, List.all_cons, List.all_nil, Int.toNat_natCast]
          rw [HGA.out, h]; rfl)
        have HFX := Lib.hid (fun (h : WF sa e3 = false) => HIN2.out (by simpa using hx) h)
        clear HI HST HIN2
        go_upto_region 6 with (fail)
        refine wp_region_held_drew (S := fun w' => w'.cell? ⟨Tb, 2, none⟩ = some (.slice lbb B.labs.length cbb) ∧ w'.cell? ⟨Ta, 2, none⟩ = some (.slice (some ⟨ba, oa, none⟩) A.labs.length ca) ∧ w'.cell? ⟨BE, 1, none⟩ = some (ei le) ∧ w'.cell? ⟨ba, oa + le, none⟩ = some (es sa)) (by kernel_rfl) ?_ (fun hHeld => ?_)
        · exact ⟨zb2, za2, t1, pA⟩
        refine wpAnyH_take (i := 0) (v := ?_) rfl (by kernel_rfl) (by kernel_rfl) (by kernel_rfl) (fun _ _ _ h => h) (Or.inl ⟨by rfl, ?_⟩) (by assumption) ?_
        rotate_left
        · (intro w hSw; (try dsimp only at hSw); go_simp)
          first | done | with_reducible rfl
        simp only [Act.put, List.getElem_toArray, List.getElem_cons_zero, List.getElem_cons_succ, List.setIfInBounds_toArray, List.set_cons_zero, List.set_cons_succ]
        refine wpAnyH_take (i := 1) (v := ?_) rfl (by kernel_rfl) (by kernel_rfl) (by kernel_rfl) (fun _ _ _ h => h) (Or.inl ⟨by rfl, ?_⟩) (by assumption) ?_
        rotate_left
        · (intro w hSw; (try dsimp only at hSw); go_simp)
          first | done | with_reducible rfl
        simp only [Act.put, List.getElem_toArray, List.getElem_cons_zero, List.getElem_cons_succ, List.setIfInBounds_toArray, List.set_cons_zero, List.set_cons_succ]
        refine wpAnyH_take (i := 2) (v := ?_) rfl (by kernel_rfl) (by kernel_rfl) (by kernel_rfl) (fun _ _ _ h => h) (Or.inl ⟨by rfl, ?_⟩) (by assumption) ?_
        rotate_left
        · (intro w hSw; (try dsimp only at hSw); go_simp)
          first | done | with_reducible rfl
        simp only [Act.put, List.getElem_toArray, List.getElem_cons_zero, List.getElem_cons_succ, List.setIfInBounds_toArray, List.set_cons_zero, List.set_cons_succ]
        refine wpAnyH_take (i := 3) (v := ?_) rfl (by kernel_rfl) (by kernel_rfl) (by kernel_rfl) (fun _ _ _ h => h) (Or.inl ⟨by rfl, ?_⟩) (by assumption) ?_
        rotate_left
        · (intro w hSw; (try dsimp only at hSw); go_simp)
          first | done | with_reducible rfl
        simp only [Act.put, List.getElem_toArray, List.getElem_cons_zero, List.getElem_cons_succ, List.setIfInBounds_toArray, List.set_cons_zero, List.set_cons_succ]
        refine wpAnyH_take (i := 4) (v := ?_) rfl (by kernel_rfl) (by kernel_rfl) (by kernel_rfl) (fun _ _ _ h => h) (Or.inl ⟨by rfl, ?_⟩) (by assumption) ?_
        rotate_left
        · (intro w hSw; (try dsimp only at hSw); go_simp)
          first | done | with_reducible rfl
        simp only [Act.put, List.getElem_toArray, List.getElem_cons_zero, List.getElem_cons_succ, List.setIfInBounds_toArray, List.set_cons_zero, List.set_cons_succ]
        refine wpAnyH_take (i := 5) (v := ?_) rfl (by kernel_rfl) (by kernel_rfl) (by kernel_rfl) (fun _ _ _ h => h) (Or.inl ⟨by rfl, ?_⟩) (by assumption) ?_
        rotate_left
        · (intro w hSw; (try dsimp only at hSw); go_simp)
          first | done | with_reducible rfl
        simp only [Act.put, List.getElem_toArray, List.getElem_cons_zero, List.getElem_cons_succ, List.setIfInBounds_toArray, List.set_cons_zero, List.set_cons_succ]
        refine wpAnyH_take (i := 6) (v := ?_) rfl (by kernel_rfl) (by kernel_rfl) (by kernel_rfl) (fun _ _ _ h => h) (Or.inl ⟨by rfl, ?_⟩) (by assumption) ?_
        rotate_left
        · (intro w hSw; (try dsimp only at hSw); go_simp)
          first | done | with_reducible rfl
        simp only [Act.put, List.getElem_toArray, List.getElem_cons_zero, List.getElem_cons_succ, List.setIfInBounds_toArray, List.set_cons_zero, List.set_cons_succ]
        refine wpAnyH_take (i := 7) (v := ?_) rfl (by kernel_rfl) (by kernel_rfl) (by kernel_rfl) (fun _ _ _ h => h) (Or.inl ⟨by rfl, ?_⟩) (by assumption) ?_
        rotate_left
        · (intro w hSw; (try dsimp only at hSw); go_simp)
          first | done | with_reducible rfl
        simp only [Act.put, List.getElem_toArray, List.getElem_cons_zero, List.getElem_cons_succ, List.setIfInBounds_toArray, List.set_cons_zero, List.set_cons_succ]
        refine wpAnyH_take (i := 8) (v := ?_) rfl (by kernel_rfl) (by kernel_rfl) (by kernel_rfl) (fun _ _ _ h => h) (Or.inl ⟨by rfl, ?_⟩) (by assumption) ?_
        rotate_left
        · (intro w hSw; (try dsimp only at hSw); go_simp)
          first | done | with_reducible rfl
        simp only [Act.put, List.getElem_toArray, List.getElem_cons_zero, List.getElem_cons_succ, List.setIfInBounds_toArray, List.set_cons_zero, List.set_cons_succ]
        refine wpAnyH_take (i := 9) (v := ?_) rfl (by kernel_rfl) (by kernel_rfl) (by kernel_rfl) (fun _ _ _ h => h) (Or.inl ⟨by rfl, ?_⟩) (by assumption) ?_
        rotate_left
        · (intro w hSw; (try dsimp only at hSw); go_simp)
          first | done | with_reducible rfl
        simp only [Act.put, List.getElem_toArray, List.getElem_cons_zero, List.getElem_cons_succ, List.setIfInBounds_toArray, List.set_cons_zero, List.set_cons_succ]
        refine wpAnyH_take (i := 10) (v := ?_) rfl (by kernel_rfl) (by kernel_rfl) (by kernel_rfl) (fun _ _ _ h => h) (Or.inl ⟨by rfl, ?_⟩) (by assumption) ?_
        rotate_left
        · (intro w hSw; (try dsimp only at hSw); go_simp)
          first | done | with_reducible rfl
        simp only [Act.put, List.getElem_toArray, List.getElem_cons_zero, List.getElem_cons_succ, List.setIfInBounds_toArray, List.set_cons_zero, List.set_cons_succ]
        refine wpAnyH_take (i := 11) (v := ?_) rfl (by kernel_rfl) (by kernel_rfl) (by kernel_rfl) (fun _ _ _ h => h) (Or.inl ⟨by rfl, ?_⟩) (by assumption) ?_
        rotate_left
        · (intro w hSw; (try dsimp only at hSw); go_simp)
          first | done | with_reducible rfl
        simp only [Act.put, List.getElem_toArray, List.getElem_cons_zero, List.getElem_cons_succ, List.setIfInBounds_toArray, List.set_cons_zero, List.set_cons_succ]
        refine wpAnyH_ready (rs := [12]) (by kernel_rfl) (by simp) ?_
        refine AllReadyH.cons rfl (fun K hK => ?_) AllReadyH.nil
        go_simp
        refine (FS.out _ ((Upd.refl [] wB).drew)).mono ?_
        rintro e w12 ⟨⟨kk, rfl, hfk⟩, rfl⟩
        refine hK.out _ _ ?_ (fun hHeld => ?_)
        · exact ⟨hHeld.1, hHeld.2.1, hHeld.2.2.1, hHeld.2.2.2⟩
        clear hK K
        try simp only [Act.put, List.getElem_toArray, List.getElem_cons_zero, List.getElem_cons_succ, List.setIfInBounds_toArray, List.set_cons_zero, List.set_cons_succ]
        refine wpAnyH_take (i := 13) (v := ?_) rfl (by kernel_rfl) (by kernel_rfl) (by kernel_rfl) (fun _ _ _ h => h) (Or.inl ⟨by rfl, ?_⟩) (by assumption) ?_
        rotate_left
        · (intro w hSw; (try dsimp only at hSw); go_simp)
          first | done | with_reducible rfl
        simp only [Act.put, List.getElem_toArray, List.getElem_cons_zero, List.getElem_cons_succ, List.setIfInBounds_toArray, List.set_cons_zero, List.set_cons_succ]
        refine wpAnyH_done (by kernel_rfl) ?_ _
        have HU6 := Lib.hid (HUB.out.drew)
        have HT6 := Lib.hid (fun W (hu : Upd [] wB.drew W) => HT2.out W (((Upd.refl [] wB).drew).trans hu))
        clear hHeld zb2 za2 t0 t1 t2 pA FS HUB HT2
        generalize wB.drew = w6 at *
        rcases hfk with ⟨rfl, hno⟩ | ⟨h0, h1, hs⟩
        · have HE := Lib.hid (HFX.out (by
            rw [Bool.eq_false_iff]
            intro hw
            obtain ⟨u, hu, -⟩ := (HWI.out sa e3).1 hw
            exact NW.out sa hno u hu))
          clear hno
          go_wp2_with fail
          go_ret
          exact ⟨by rw [HE.out]; rfl, HU6.out⟩
        · have T9 := Lib.hid (ST.out kk w6 HU6.out)
          have HSW := Lib.hid (SW.out sa kk ⟨h0, h1⟩ hs)
          clear ST hs h1
          go_wp2_with fail
          refine T9.out.mono ?_
          rintro r w7 ⟨⟨bs, S, rfl, hbk, hsl, hst⟩, hu7⟩
          have HBK := Lib.hid hbk
          have HS7 := Lib.hid hst
          have U7 := Lib.hid (HU6.out.trans hu7)
          have HT7 := Lib.hid (fun W (hu : Upd [] w7 W) => HT6.out W (hu7.trans hu))
          have HSL := Lib.hid hsl
          clear T9 hbk hst hu7 HT6 HU6
          go_wp2_with fail
          go_loopw [19, 20] (fun qv jv wr => ∃ (q : Bool) (j : Nat), j ≤ n ∧ qv = .bool q ∧ jv = .int .i64 j ∧ Hid (q = true ↔ ∃ u : Nat, u < j ∧ S.getD u false = true ∧ inPF R e3 u back = true) ∧ Hid (Upd [] w7 wr)) (fun _ jv _ => n - (intOf jv).toNat)
          case atStart => exact ⟨false, 0, Nat.zero_le _, rfl, rfl, Lib.hid ⟨(fun h => by cases h), (fun ⟨u, hu, _⟩ => by omega)⟩, Lib.hid (Upd.refl _ _)⟩
          case round =>
            obtain ⟨wi, rfl⟩ : ∃ wi : World, wi = wr := ⟨_, rfl⟩
            obtain ⟨q, j, hj, rfl, rfl, HQ, HV⟩ := hrel
            have xb0 := HV.out.keep (U7.out.keep yb0)
            have te := HT7.out wi HV.out
            have hSn := HSL.out
            cases q with
            | true =>
              have HI9 := Lib.hid (HNX.out (by
                rw [HWI.out]
                obtain ⟨u, hu1, hu2, hu3⟩ := HQ.out.1 rfl
                exact ⟨u, (HSW.out u).1 ((HS7.out u (by omega)).1 hu2), hu3⟩))
              have HU9 := Lib.hid (U7.out.trans HV.out)
              clear HQ
              by_cases hjn : j < n
              · have hji : (j : Int) < (n : Int) := by omega
                go_wp2_with fail
                go_roundw
                case rel => exact ⟨i + 1, by omega, by go_num, HI9, HU9⟩
                case measure => simp [intOf]; omega
              · have hji : ¬ (j : Int) < (n : Int) := by omega
                go_wp2_with fail
                go_roundw
                case rel => exact ⟨i + 1, by omega, by go_num, HI9, HU9⟩
                case measure => simp [intOf]; omega
            | false =>
              by_cases hjn : j < n
              · have hji : (j : Int) < (n : Int) := by omega
                have dj : j < S.length := by omega
                have cj := (HBK.out.upd HV.out (by simp)).cell j dj
                have gj : S.getD j false = S[j] := by rw [List.getD_eq_getElem?_getD, List.getElem?_eq_getElem dj]; rfl
                have HGJ := Lib.hid gj
                clear gj
                have HNJ := Lib.hid (fun (c : Bool) (hc : c = true ↔ (S[j] = true ∧ inPF R e3 j back = true)) => show c = true ↔ ∃ u : Nat, u < j + 1 ∧ S.getD u false = true ∧ inPF R e3 u back = true by
                  rw [hc]
                  constructor
                  · rintro ⟨h2, h3⟩; exact ⟨j, by omega, by rw [HGJ.out]; exact h2, h3⟩
                  · rintro ⟨u, h2, h3, h4⟩
                    by_cases e : u = j
                    · subst e; exact ⟨by rw [← HGJ.out]; exact h3, h4⟩
                    · exact absurd (HQ.out.2 ⟨u, by omega, h3, h4⟩) (by simp))
                cases hS : S[j] with
                | false =>
                  rw [hS] at cj
                  have HQ9 := Lib.hid (HNJ.out false (by rw [hS]; simp))
                  clear HQ HNJ
                  go_wp2_with fail
                  go_roundw
                  case rel => exact ⟨false, j + 1, by omega, rfl, by go_num, HQ9, HV⟩
                  case measure => simp [intOf]; omega
                | true =>
                  rw [hS] at cj
                  cases back with
                  | true =>
                    have T10 := Lib.hid (HP.out (j : Int) e3 wi (U7.out.trans HV.out))
                    have HQ9 := Lib.hid (HNJ.out (hasP R j e3) (by rw [hS]; simp [inPF]))
                    clear HQ HNJ
                    generalize hasP R j e3 = c at *
                    go_wp2_with fail
                    refine T10.out.mono ?_
                    rintro r w8 ⟨rfl, rfl⟩
                    clear T10
                    go_wp2_with fail
                    go_roundw
                    case rel => exact ⟨c, j + 1, by omega, rfl, by go_num, HQ9, HV⟩
                    case measure => simp [intOf]; omega
                  | false =>
                    have T10 := Lib.hid (HP.out e3 (j : Int) wi (U7.out.trans HV.out))
                    have HQ9 := Lib.hid (HNJ.out (hasP R e3 j) (by rw [hS]; simp [inPF]))
                    clear HQ HNJ
                    generalize hasP R e3 j = c at *
                    go_wp2_with fail
                    refine T10.out.mono ?_
                    rintro r w8 ⟨rfl, rfl⟩
                    clear T10
                    go_wp2_with fail
                    go_roundw
                    case rel => exact ⟨c, j + 1, by omega, rfl, by go_num, HQ9, HV⟩
                    case measure => simp [intOf]; omega
              · have hji : ¬ (j : Int) < (n : Int) := by omega
                have HE := Lib.hid (HFX.out (by
                  rw [Bool.eq_false_iff]
                  intro hw
                  obtain ⟨u, hu, hp⟩ := (HWI.out sa e3).1 hw
                  have hub := WB.out sa u hu
                  obtain ⟨un, rfl⟩ : ∃ N : Nat, u = N := ⟨u.toNat, by omega⟩
                  have hn2 := HN.out
                  have hun : un < n := by omega
                  have := HQ.out.2 ⟨un, by omega, (HS7.out un hun).2 ((HSW.out un).2 hu), hp⟩
                  cases this))
                clear HQ
                go_wp2_with fail
                go_ret
                exact ⟨by rw [HE.out]; rfl, U7.out.trans HV.out⟩
    · obtain rfl : i = A.eds.length := by omega
      have HE := Lib.hid (show Z = true by rw [HAN.out]; exact HI.out)
      clear HI
      go_wp2_with fail
      go_ret
      exact ⟨by rw [HE.out]; rfl, HU.out⟩

end Go.Proofs.YtcnaapiljmgfoaaGreatDoor

/-
  Relations between systems: pairs as a list and as a set; an edge answered by an edge.
-/
namespace Go.Proofs.YtcnaapiljmgfoaaGreatDoor
open Go.RowKit

theorem pair_eq {p : List Int} (h : p.length = 2) (a b : Int) : (p == [a, b]) = ((p.getD 0 0 == a) && (p.getD 1 0 == b)) := by
  match p, h with
  | [u, v], _ => simp [Bool.beq_eq_decide_eq]
theorem hasP_any {R : List (List Int)} (h : ∀ p ∈ R, p.length = 2) (a b : Int) : R.any (fun p => p == [a, b]) = hasP R a b := by
  unfold hasP
  rw [Bool.eq_iff_iff, List.any_eq_true, List.any_eq_true]
  constructor <;> rintro ⟨p, hp, hq⟩ <;> refine ⟨p, hp, ?_⟩
  · rw [pair_eq (h p hp)] at hq; exact hq
  · rw [pair_eq (h p hp)]; exact hq
theorem hasP_of (R : List (List Int)) (a b : Int) : decide ((a, b) ∈ pairsOf R) = hasP R a b := by
  unfold hasP pairsOf
  rw [Bool.eq_iff_iff, decide_eq_true_iff, List.any_eq_true, List.mem_map]
  constructor
  · rintro ⟨p, hp, he⟩
    refine ⟨p, hp, ?_⟩
    cases he
    simp
  · rintro ⟨p, hp, he⟩
    refine ⟨p, hp, ?_⟩
    simp only [Bool.and_eq_true, beq_iff_eq] at he
    rw [he.1, he.2]
theorem all_eq_of {α : Type} {l : List α} {f g : α → Bool} (h : ∀ x ∈ l, f x = g x) : l.all f = l.all g := by
  induction l with
  | nil => rfl
  | cons x xs ih => rw [List.all_cons, List.all_cons, h x (by simp), ih (fun y hy => h y (by simp [hy]))]
end Go.Proofs.YtcnaapiljmgfoaaGreatDoor

/-
  Labels in order: what the reference's call returns.
-/
namespace Go.Proofs.YtcnaapiljmgfoaaGreatDoor
open Go.RowKit

theorem isLab_tau : isLab tauL = true := by
  unfold isLab; rw [readF_labT (name := tauL) (vs := []) (by simp [labT])]; rfl

set_option maxRecDepth 20000 in
set_option maxHeartbeats 4000000 in
theorem namesS (labs : List (List UInt8)) (v : Value) (w : World) (fp : List Nat) (hR : RS fp w [v] labs) (hp : ∀ p ∈ labs, p.length ≤ 2000000) :
    Calls Tryz.prog 54 #[v] w fun e w' => e = .returned (.bool (labsOk labs)) ∧ Upd [] w w' := by
  have HLO := Lib.hid (show labsOk labs = (decide (1 ≤ labs.length) && decide (labs.length ≤ 12) && allF (labP labs) 0 labs.length) from rfl)
  have HR1 := Lib.hid hR
  have HP := Lib.hid hp
  obtain ⟨a1, c1, rfl, hl1, hm1, hc⟩ := slF1_open hR
  unfold maxLen at hm1
  clear hR hp
  by_cases h0 : labs.length = 0
  · have HF := Lib.hid (show labsOk labs = false by rw [HLO.out, h0]; rfl)
    clear HLO HR1 hc HP
    rw [h0]
    go_enter Tryz.func54, Tryz.ntmps54
    go_wp2_with fail
    go_ret
    exact ⟨by rw [HF.out]; rfl, Upd.refl _ _⟩
  · have h0b : ((labs.length : Int) == 0) = false := beq_eq_false_iff_ne.2 (by omega)
    have h0c : ¬ (labs.length : Int) = 0 := by omega
    by_cases h12 : 12 < labs.length
    · have HF := Lib.hid (show labsOk labs = false by rw [HLO.out, decide_eq_false (show ¬ labs.length ≤ 12 by omega)]; simp)
      have h12i : (12 : Int) < (labs.length : Int) := by omega
      clear HLO HR1 hc HP
      go_enter Tryz.func54, Tryz.ntmps54
      go_wp2_with fail
      go_ret
      exact ⟨by rw [HF.out]; rfl, Upd.refl _ _⟩
    · have HLO2 := Lib.hid (show labsOk labs = allF (labP labs) 0 labs.length by rw [HLO.out, decide_eq_true (show labs.length ≤ 12 by omega), decide_eq_true (show 1 ≤ labs.length by omega)]; simp)
      have h12i : ¬ (12 : Int) < (labs.length : Int) := by omega
      have hpos : 0 < labs.length := by omega
      have hposi : (0 : Int) < (labs.length : Int) := by omega
      obtain ⟨b1, o1, rfl, -, -, p0⟩ := hc 0 hpos
      rw [Nat.add_zero] at p0
      have HA0 := Lib.hid (allF_step (labP labs) 0 labs.length hpos)
      have HLP0 := Lib.hid (labP_at labs 0 hpos)
      generalize labs[0] = s0 at *
      clear HLO hc h0
      by_cases ht0 : s0 = tauL
      · have HA := Lib.hid (show allF (labP labs) 1 (labs.length - 1) = allF (labP labs) 0 labs.length by
          have := HA0.out
          rw [HLP0.out, ht0, isLab_tau] at this
          rw [Nat.sub_zero] at this
          rw [this]; simp)
        have g1 : (s0 == [116, 97, 117]) = true := by simpa [tauL] using ht0
        have g1n : (s0 != [116, 97, 117]) = false := by simp [bne, g1]
        clear HA0 HLP0 ht0
        go_enter Tryz.func54, Tryz.ntmps54
        go_wp2_with fail
        go_loopw [3] (fun iv wr => ∃ k : Nat, 1 ≤ k ∧ k ≤ labs.length ∧ iv = .int .i64 k ∧ Hid (allF (labP labs) k (labs.length - k) = allF (labP labs) 0 labs.length) ∧ Upd [] w wr) (fun iv _ => labs.length - (intOf iv).toNat)
        case atStart => exact ⟨1, Nat.le_refl _, hpos, rfl, HA, Upd.refl _ _⟩
        case round =>
          clear HA
          obtain ⟨k, hk1, hk, rfl, HA, hU⟩ := hrel
          by_cases hlt : k < labs.length
          · obtain ⟨a', c', hv, -, -, hc⟩ := slF1_open (RSk.upd HR1.out hU (by simp))
            cases hv
            obtain ⟨b2, o2, hv2, -, -, x0⟩ := hc k hlt
            cases hv2
            obtain ⟨b2, o2, hv2, -, -, q0⟩ := hc (k - 1) (by omega)
            cases hv2
            have HA2 := Lib.hid (HA.out.symm.trans (allF_step (labP labs) k labs.length hlt))
            have HLP := Lib.hid (labP_at labs k hlt)
            have hpv : labs.getD (k - 1) [] = labs[k - 1] := by rw [List.getD_eq_getElem?_getD, List.getElem?_eq_getElem (by omega)]; rfl
            rw [← hpv] at q0
            have SL := Lib.hid (fun W => labelS labs[k] W (HP.out labs[k] (List.getElem_mem hlt)))
            generalize labs.getD (k - 1) [] = pv at *
            generalize labs[k] = s at *
            have HU := Lib.hid hU
            have k0 : decide (k = 0) = false := decide_eq_false (by omega)
            rw [k0] at HLP
            clear hc HA hU hpv k0 p0
            cases hls : isLab s with
            | false =>
              have HRR := Lib.hid (show labsOk labs = false by rw [HLO2.out, HA2.out, HLP.out, hls]; rfl)
              rw [hls] at SL
              clear HLO2 HA2 HLP hls
              go_wp2_with fail
              refine wp_region_held_drew (S := fun w' => w'.cell? ⟨b1, o1 + k, none⟩ = some (es s) ∧ w'.cell? ⟨b1, o1 + (k - 1), none⟩ = some (es pv)) (by kernel_rfl) ?_ (fun hHeld => ?_)
              · exact ⟨x0, q0⟩
              refine wpAnyH_take (i := 0) (v := ?_) rfl (by kernel_rfl) (by kernel_rfl) (by kernel_rfl) (fun _ _ _ h => h) (Or.inl ⟨by rfl, ?_⟩) (by assumption) ?_
              rotate_left
              · (intro w hSw; (try dsimp only at hSw); go_simp)
                first | done | with_reducible rfl
              simp only [Act.put, List.getElem_toArray, List.getElem_cons_zero, List.setIfInBounds_toArray, List.set_cons_zero, List.set_cons_succ]
              refine wpAnyH_take (i := 1) (v := ?_) rfl (by kernel_rfl) (by kernel_rfl) (by kernel_rfl) (fun _ _ _ h => h) (Or.inl ⟨by rfl, ?_⟩) (by assumption) ?_
              rotate_left
              · (intro w hSw; (try dsimp only at hSw); go_simp)
                first | done | with_reducible rfl
              simp only [Act.put, List.getElem_toArray, List.getElem_cons_zero, List.getElem_cons_succ, List.setIfInBounds_toArray, List.set_cons_zero, List.set_cons_succ]
              refine wpAnyH_take (i := 2) (v := ?_) rfl (by kernel_rfl) (by kernel_rfl) (by kernel_rfl) (fun _ _ _ h => h) (Or.inl ⟨by rfl, ?_⟩) (by assumption) ?_
              rotate_left
              · (intro w hSw; (try dsimp only at hSw); go_simp)
                first | done | with_reducible rfl
              simp only [Act.put, List.getElem_toArray, List.getElem_cons_zero, List.getElem_cons_succ, List.setIfInBounds_toArray, List.set_cons_zero, List.set_cons_succ]
              refine wpAnyH_take (i := 3) (v := ?_) rfl (by kernel_rfl) (by kernel_rfl) (by kernel_rfl) (fun _ _ _ h => h) (Or.inl ⟨by rfl, ?_⟩) (by assumption) ?_
              rotate_left
              · (intro w hSw; (try dsimp only at hSw); go_simp)
                first | done | with_reducible rfl
              simp only [Act.put, List.getElem_toArray, List.getElem_cons_zero, List.getElem_cons_succ, List.setIfInBounds_toArray, List.set_cons_zero, List.set_cons_succ]
              refine wpAnyH_ready (rs := [4]) (by kernel_rfl) (by simp) ?_
              refine AllReadyH.cons rfl (fun K hK => ?_) AllReadyH.nil
              go_simp
              refine (SL.out _).mono ?_
              rintro e w4 ⟨rfl, hu1⟩
              refine hK.out _ _ ?_ (fun hHeld => ?_)
              · exact ⟨hu1.keep hHeld.1, hu1.keep hHeld.2⟩
              clear hK K
              try simp only [Act.put, List.getElem_toArray, List.getElem_cons_zero, List.getElem_cons_succ, List.setIfInBounds_toArray, List.set_cons_zero, List.set_cons_succ]
              refine wpAnyH_take (i := 5) (v := ?_) rfl (by kernel_rfl) (by kernel_rfl) (by kernel_rfl) (fun _ _ _ h => h) (Or.inl ⟨by rfl, ?_⟩) (by assumption) ?_
              rotate_left
              · (intro w hSw; (try dsimp only at hSw); go_simp)
                first | done | with_reducible rfl
              simp only [Act.put, List.getElem_toArray, List.getElem_cons_zero, List.getElem_cons_succ, List.setIfInBounds_toArray, List.set_cons_zero, List.set_cons_succ]
              refine wpAnyH_take (i := 6) (v := ?_) rfl (by kernel_rfl) (by kernel_rfl) (by kernel_rfl) (fun _ _ _ h => h) (Or.inl ⟨by rfl, ?_⟩) (by assumption) ?_
              rotate_left
              · (intro w hSw; (try dsimp only at hSw); go_simp)
                first | done | with_reducible rfl
              simp only [Act.put, List.getElem_toArray, List.getElem_cons_zero, List.getElem_cons_succ, List.setIfInBounds_toArray, List.set_cons_zero, List.set_cons_succ]
              refine wpAnyH_take (i := 7) rfl (by kernel_rfl) (by kernel_rfl) (by kernel_rfl) (fun _ _ _ h => h) (Or.inr ⟨by rfl, rfl⟩) (by assumption) ?_
              simp only [Act.put, List.getElem_toArray, List.getElem_cons_zero, List.getElem_cons_succ, List.setIfInBounds_toArray, List.set_cons_zero, List.set_cons_succ]
              refine wpAnyH_take (i := 8) rfl (by kernel_rfl) (by kernel_rfl) (by kernel_rfl) (fun _ _ _ h => h) (Or.inr ⟨by rfl, rfl⟩) (by assumption) ?_
              simp only [Act.put, List.getElem_toArray, List.getElem_cons_zero, List.getElem_cons_succ, List.setIfInBounds_toArray, List.set_cons_zero, List.set_cons_succ]
              refine wpAnyH_take (i := 9) rfl (by kernel_rfl) (by kernel_rfl) (by kernel_rfl) (fun _ _ _ h => h) (Or.inr ⟨by rfl, rfl⟩) (by assumption) ?_
              simp only [Act.put, List.getElem_toArray, List.getElem_cons_zero, List.getElem_cons_succ, List.setIfInBounds_toArray, List.set_cons_zero, List.set_cons_succ]
              refine wpAnyH_take (i := 10) rfl (by kernel_rfl) (by kernel_rfl) (by kernel_rfl) (fun _ _ _ h => h) (Or.inr ⟨by rfl, rfl⟩) (by assumption) ?_
              simp only [Act.put, List.getElem_toArray, List.getElem_cons_zero, List.getElem_cons_succ, List.setIfInBounds_toArray, List.set_cons_zero, List.set_cons_succ]
              refine wpAnyH_take (i := 11) rfl (by kernel_rfl) (by kernel_rfl) (by kernel_rfl) (fun _ _ _ h => h) (Or.inr ⟨by rfl, rfl⟩) (by assumption) ?_
              simp only [Act.put, List.getElem_toArray, List.getElem_cons_zero, List.getElem_cons_succ, List.setIfInBounds_toArray, List.set_cons_zero, List.set_cons_succ]
              refine wpAnyH_take (i := 12) (v := ?_) rfl (by kernel_rfl) (by kernel_rfl) (by kernel_rfl) (fun _ _ _ h => h) (Or.inl ⟨by rfl, ?_⟩) (by assumption) ?_
              rotate_left
              · (intro w hSw; (try dsimp only at hSw); go_simp)
                first | done | with_reducible rfl
              simp only [Act.put, List.getElem_toArray, List.getElem_cons_zero, List.getElem_cons_succ, List.setIfInBounds_toArray, List.set_cons_zero, List.set_cons_succ]
              refine wpAnyH_take (i := 13) (v := ?_) rfl (by kernel_rfl) (by kernel_rfl) (by kernel_rfl) (fun _ _ _ h => h) (Or.inl ⟨by rfl, ?_⟩) (by assumption) ?_
              rotate_left
              · (intro w hSw; (try dsimp only at hSw); go_simp)
                first | done | with_reducible rfl
              simp only [Act.put, List.getElem_toArray, List.getElem_cons_zero, List.getElem_cons_succ, List.setIfInBounds_toArray, List.set_cons_zero, List.set_cons_succ]
              refine wpAnyH_take (i := 14) rfl (by kernel_rfl) (by kernel_rfl) (by kernel_rfl) (fun _ _ _ h => h) (Or.inr ⟨by rfl, rfl⟩) (by assumption) ?_
              simp only [Act.put, List.getElem_toArray, List.getElem_cons_zero, List.getElem_cons_succ, List.setIfInBounds_toArray, List.set_cons_zero, List.set_cons_succ]
              refine wpAnyH_take (i := 15) rfl (by kernel_rfl) (by kernel_rfl) (by kernel_rfl) (fun _ _ _ h => h) (Or.inr ⟨by rfl, rfl⟩) (by assumption) ?_
              simp only [Act.put, List.getElem_toArray, List.getElem_cons_zero, List.getElem_cons_succ, List.setIfInBounds_toArray, List.set_cons_zero, List.set_cons_succ]
              refine wpAnyH_take (i := 16) rfl (by kernel_rfl) (by kernel_rfl) (by kernel_rfl) (fun _ _ _ h => h) (Or.inr ⟨by rfl, rfl⟩) (by assumption) ?_
              simp only [Act.put, List.getElem_toArray, List.getElem_cons_zero, List.getElem_cons_succ, List.setIfInBounds_toArray, List.set_cons_zero, List.set_cons_succ]
              refine wpAnyH_take (i := 17) rfl (by kernel_rfl) (by kernel_rfl) (by kernel_rfl) (fun _ _ _ h => h) (Or.inr ⟨by rfl, rfl⟩) (by assumption) ?_
              simp only [Act.put, List.getElem_toArray, List.getElem_cons_zero, List.getElem_cons_succ, List.setIfInBounds_toArray, List.set_cons_zero, List.set_cons_succ]
              refine wpAnyH_take (i := 18) rfl (by kernel_rfl) (by kernel_rfl) (by kernel_rfl) (fun _ _ _ h => h) (Or.inr ⟨by rfl, rfl⟩) (by assumption) ?_
              simp only [Act.put, List.getElem_toArray, List.getElem_cons_zero, List.getElem_cons_succ, List.setIfInBounds_toArray, List.set_cons_zero, List.set_cons_succ]
              refine wpAnyH_take (i := 19) rfl (by kernel_rfl) (by kernel_rfl) (by kernel_rfl) (fun _ _ _ h => h) (Or.inr ⟨by rfl, rfl⟩) (by assumption) ?_
              simp only [Act.put, List.getElem_toArray, List.getElem_cons_zero, List.getElem_cons_succ, List.setIfInBounds_toArray, List.set_cons_zero, List.set_cons_succ]
              refine wpAnyH_take (i := 20) rfl (by kernel_rfl) (by kernel_rfl) (by kernel_rfl) (fun _ _ _ h => h) (Or.inr ⟨by rfl, rfl⟩) (by assumption) ?_
              simp only [Act.put, List.getElem_toArray, List.getElem_cons_zero, List.getElem_cons_succ, List.setIfInBounds_toArray, List.set_cons_zero, List.set_cons_succ]
              refine wpAnyH_take (i := 21) rfl (by kernel_rfl) (by kernel_rfl) (by kernel_rfl) (fun _ _ _ h => h) (Or.inr ⟨by rfl, rfl⟩) (by assumption) ?_
              simp only [Act.put, List.getElem_toArray, List.getElem_cons_zero, List.getElem_cons_succ, List.setIfInBounds_toArray, List.set_cons_zero, List.set_cons_succ]
              refine wpAnyH_take (i := 22) rfl (by kernel_rfl) (by kernel_rfl) (by kernel_rfl) (fun _ _ _ h => h) (Or.inr ⟨by rfl, rfl⟩) (by assumption) ?_
              simp only [Act.put, List.getElem_toArray, List.getElem_cons_zero, List.getElem_cons_succ, List.setIfInBounds_toArray, List.set_cons_zero, List.set_cons_succ]
              refine wpAnyH_take (i := 23) rfl (by kernel_rfl) (by kernel_rfl) (by kernel_rfl) (fun _ _ _ h => h) (Or.inr ⟨by rfl, rfl⟩) (by assumption) ?_
              simp only [Act.put, List.getElem_toArray, List.getElem_cons_zero, List.getElem_cons_succ, List.setIfInBounds_toArray, List.set_cons_zero, List.set_cons_succ]
              refine wpAnyH_take (i := 24) rfl (by kernel_rfl) (by kernel_rfl) (by kernel_rfl) (fun _ _ _ h => h) (Or.inr ⟨by rfl, rfl⟩) (by assumption) ?_
              simp only [Act.put, List.getElem_toArray, List.getElem_cons_zero, List.getElem_cons_succ, List.setIfInBounds_toArray, List.set_cons_zero, List.set_cons_succ]
              refine wpAnyH_take (i := 25) rfl (by kernel_rfl) (by kernel_rfl) (by kernel_rfl) (fun _ _ _ h => h) (Or.inr ⟨by rfl, rfl⟩) (by assumption) ?_
              simp only [Act.put, List.getElem_toArray, List.getElem_cons_zero, List.getElem_cons_succ, List.setIfInBounds_toArray, List.set_cons_zero, List.set_cons_succ]
              refine wpAnyH_take (i := 26) rfl (by kernel_rfl) (by kernel_rfl) (by kernel_rfl) (fun _ _ _ h => h) (Or.inr ⟨by rfl, rfl⟩) (by assumption) ?_
              simp only [Act.put, List.getElem_toArray, List.getElem_cons_zero, List.getElem_cons_succ, List.setIfInBounds_toArray, List.set_cons_zero, List.set_cons_succ]
              refine wpAnyH_take (i := 27) rfl (by kernel_rfl) (by kernel_rfl) (by kernel_rfl) (fun _ _ _ h => h) (Or.inr ⟨by rfl, rfl⟩) (by assumption) ?_
              simp only [Act.put, List.getElem_toArray, List.getElem_cons_zero, List.getElem_cons_succ, List.setIfInBounds_toArray, List.set_cons_zero, List.set_cons_succ]
              refine wpAnyH_take (i := 28) (v := ?_) rfl (by kernel_rfl) (by kernel_rfl) (by kernel_rfl) (fun _ _ _ h => h) (Or.inl ⟨by rfl, ?_⟩) (by assumption) ?_
              rotate_left
              · (intro w hSw; (try dsimp only at hSw); go_simp)
                first | done | with_reducible rfl
              simp only [Act.put, List.getElem_toArray, List.getElem_cons_zero, List.getElem_cons_succ, List.setIfInBounds_toArray, List.set_cons_zero, List.set_cons_succ]
              refine wpAnyH_done (by kernel_rfl) ?_ _
              have HU9 := Lib.hid (HU.out.drew.trans hu1)
              clear HU hHeld x0 q0
              go_wp2_with fail
              go_ret
              exact ⟨by rw [HRR.out]; rfl, HU9.out⟩
            | true =>
              rw [hls] at SL HLP
              by_cases ht : s = tauL
              · have HRR := Lib.hid (show labsOk labs = false by rw [HLO2.out, HA2.out, HLP.out, ht]; simp)
                have g2 : (s == [116, 97, 117]) = true := by simpa [tauL] using ht
                clear HLO2 HA2 HLP hls ht
                go_wp2_with fail
                refine wp_region_held_drew (S := fun w' => w'.cell? ⟨b1, o1 + k, none⟩ = some (es s) ∧ w'.cell? ⟨b1, o1 + (k - 1), none⟩ = some (es pv)) (by kernel_rfl) ?_ (fun hHeld => ?_)
                · exact ⟨x0, q0⟩
                refine wpAnyH_take (i := 0) (v := ?_) rfl (by kernel_rfl) (by kernel_rfl) (by kernel_rfl) (fun _ _ _ h => h) (Or.inl ⟨by rfl, ?_⟩) (by assumption) ?_
                rotate_left
                · (intro w hSw; (try dsimp only at hSw); go_simp)
                  first | done | with_reducible rfl
                simp only [Act.put, List.getElem_toArray, List.getElem_cons_zero, List.setIfInBounds_toArray, List.set_cons_zero, List.set_cons_succ]
                refine wpAnyH_take (i := 1) (v := ?_) rfl (by kernel_rfl) (by kernel_rfl) (by kernel_rfl) (fun _ _ _ h => h) (Or.inl ⟨by rfl, ?_⟩) (by assumption) ?_
                rotate_left
                · (intro w hSw; (try dsimp only at hSw); go_simp)
                  first | done | with_reducible rfl
                simp only [Act.put, List.getElem_toArray, List.getElem_cons_zero, List.getElem_cons_succ, List.setIfInBounds_toArray, List.set_cons_zero, List.set_cons_succ]
                refine wpAnyH_take (i := 2) (v := ?_) rfl (by kernel_rfl) (by kernel_rfl) (by kernel_rfl) (fun _ _ _ h => h) (Or.inl ⟨by rfl, ?_⟩) (by assumption) ?_
                rotate_left
                · (intro w hSw; (try dsimp only at hSw); go_simp)
                  first | done | with_reducible rfl
                simp only [Act.put, List.getElem_toArray, List.getElem_cons_zero, List.getElem_cons_succ, List.setIfInBounds_toArray, List.set_cons_zero, List.set_cons_succ]
                refine wpAnyH_take (i := 3) (v := ?_) rfl (by kernel_rfl) (by kernel_rfl) (by kernel_rfl) (fun _ _ _ h => h) (Or.inl ⟨by rfl, ?_⟩) (by assumption) ?_
                rotate_left
                · (intro w hSw; (try dsimp only at hSw); go_simp)
                  first | done | with_reducible rfl
                simp only [Act.put, List.getElem_toArray, List.getElem_cons_zero, List.getElem_cons_succ, List.setIfInBounds_toArray, List.set_cons_zero, List.set_cons_succ]
                refine wpAnyH_ready (rs := [4]) (by kernel_rfl) (by simp) ?_
                refine AllReadyH.cons rfl (fun K hK => ?_) AllReadyH.nil
                go_simp
                refine (SL.out _).mono ?_
                rintro e w4 ⟨rfl, hu1⟩
                refine hK.out _ _ ?_ (fun hHeld => ?_)
                · exact ⟨hu1.keep hHeld.1, hu1.keep hHeld.2⟩
                clear hK K
                try simp only [Act.put, List.getElem_toArray, List.getElem_cons_zero, List.getElem_cons_succ, List.setIfInBounds_toArray, List.set_cons_zero, List.set_cons_succ]
                refine wpAnyH_take (i := 5) (v := ?_) rfl (by kernel_rfl) (by kernel_rfl) (by kernel_rfl) (fun _ _ _ h => h) (Or.inl ⟨by rfl, ?_⟩) (by assumption) ?_
                rotate_left
                · (intro w hSw; (try dsimp only at hSw); go_simp)
                  first | done | with_reducible rfl
                simp only [Act.put, List.getElem_toArray, List.getElem_cons_zero, List.getElem_cons_succ, List.setIfInBounds_toArray, List.set_cons_zero, List.set_cons_succ]
                refine wpAnyH_take (i := 6) (v := ?_) rfl (by kernel_rfl) (by kernel_rfl) (by kernel_rfl) (fun _ _ _ h => h) (Or.inl ⟨by rfl, ?_⟩) (by assumption) ?_
                rotate_left
                · (intro w hSw; (try dsimp only at hSw); go_simp)
                  first | done | with_reducible rfl
                simp only [Act.put, List.getElem_toArray, List.getElem_cons_zero, List.getElem_cons_succ, List.setIfInBounds_toArray, List.set_cons_zero, List.set_cons_succ]
                refine wpAnyH_take (i := 7) (v := ?_) rfl (by kernel_rfl) (by kernel_rfl) (by kernel_rfl) (fun _ _ _ h => h) (Or.inl ⟨by rfl, ?_⟩) (by assumption) ?_
                rotate_left
                · (intro w hSw; (try dsimp only at hSw); go_simp)
                  first | done | with_reducible rfl
                simp only [Act.put, List.getElem_toArray, List.getElem_cons_zero, List.getElem_cons_succ, List.setIfInBounds_toArray, List.set_cons_zero, List.set_cons_succ]
                refine wpAnyH_take (i := 8) (v := ?_) rfl (by kernel_rfl) (by kernel_rfl) (by kernel_rfl) (fun _ _ _ h => h) (Or.inl ⟨by rfl, ?_⟩) (by assumption) ?_
                rotate_left
                · (intro w hSw; (try dsimp only at hSw); go_simp)
                  first | done | with_reducible rfl
                simp only [Act.put, List.getElem_toArray, List.getElem_cons_zero, List.getElem_cons_succ, List.setIfInBounds_toArray, List.set_cons_zero, List.set_cons_succ]
                refine wpAnyH_take (i := 9) (v := ?_) rfl (by kernel_rfl) (by kernel_rfl) (by kernel_rfl) (fun _ _ _ h => h) (Or.inl ⟨by rfl, ?_⟩) (by assumption) ?_
                rotate_left
                · (intro w hSw; (try dsimp only at hSw); go_simp)
                  first | done | with_reducible rfl
                simp only [Act.put, List.getElem_toArray, List.getElem_cons_zero, List.getElem_cons_succ, List.setIfInBounds_toArray, List.set_cons_zero, List.set_cons_succ]
                refine wpAnyH_take (i := 10) (v := ?_) rfl (by kernel_rfl) (by kernel_rfl) (by kernel_rfl) (fun _ _ _ h => h) (Or.inl ⟨by rfl, ?_⟩) (by assumption) ?_
                rotate_left
                · (intro w hSw; (try dsimp only at hSw); go_simp)
                  first | done | with_reducible rfl
                simp only [Act.put, List.getElem_toArray, List.getElem_cons_zero, List.getElem_cons_succ, List.setIfInBounds_toArray, List.set_cons_zero, List.set_cons_succ]
                refine wpAnyH_take (i := 11) (v := ?_) rfl (by kernel_rfl) (by kernel_rfl) (by kernel_rfl) (fun _ _ _ h => h) (Or.inl ⟨by rfl, ?_⟩) (by assumption) ?_
                rotate_left
                · (intro w hSw; (try dsimp only at hSw); go_simp)
                  first | done | with_reducible rfl
                simp only [Act.put, List.getElem_toArray, List.getElem_cons_zero, List.getElem_cons_succ, List.setIfInBounds_toArray, List.set_cons_zero, List.set_cons_succ]
                refine wpAnyH_take (i := 12) (v := ?_) rfl (by kernel_rfl) (by kernel_rfl) (by kernel_rfl) (fun _ _ _ h => h) (Or.inl ⟨by rfl, ?_⟩) (by assumption) ?_
                rotate_left
                · (intro w hSw; (try dsimp only at hSw); go_simp)
                  first | done | with_reducible rfl
                simp only [Act.put, List.getElem_toArray, List.getElem_cons_zero, List.getElem_cons_succ, List.setIfInBounds_toArray, List.set_cons_zero, List.set_cons_succ]
                refine wpAnyH_take (i := 13) (v := ?_) rfl (by kernel_rfl) (by kernel_rfl) (by kernel_rfl) (fun _ _ _ h => h) (Or.inl ⟨by rfl, ?_⟩) (by assumption) ?_
                rotate_left
                · (intro w hSw; (try dsimp only at hSw); go_simp)
                  first | done | with_reducible rfl
                simp only [Act.put, List.getElem_toArray, List.getElem_cons_zero, List.getElem_cons_succ, List.setIfInBounds_toArray, List.set_cons_zero, List.set_cons_succ]
                refine wpAnyH_take (i := 14) rfl (by kernel_rfl) (by kernel_rfl) (by kernel_rfl) (fun _ _ _ h => h) (Or.inr ⟨by rfl, rfl⟩) (by assumption) ?_
                simp only [Act.put, List.getElem_toArray, List.getElem_cons_zero, List.getElem_cons_succ, List.setIfInBounds_toArray, List.set_cons_zero, List.set_cons_succ]
                refine wpAnyH_take (i := 15) rfl (by kernel_rfl) (by kernel_rfl) (by kernel_rfl) (fun _ _ _ h => h) (Or.inr ⟨by rfl, rfl⟩) (by assumption) ?_
                simp only [Act.put, List.getElem_toArray, List.getElem_cons_zero, List.getElem_cons_succ, List.setIfInBounds_toArray, List.set_cons_zero, List.set_cons_succ]
                refine wpAnyH_take (i := 16) rfl (by kernel_rfl) (by kernel_rfl) (by kernel_rfl) (fun _ _ _ h => h) (Or.inr ⟨by rfl, rfl⟩) (by assumption) ?_
                simp only [Act.put, List.getElem_toArray, List.getElem_cons_zero, List.getElem_cons_succ, List.setIfInBounds_toArray, List.set_cons_zero, List.set_cons_succ]
                refine wpAnyH_take (i := 17) rfl (by kernel_rfl) (by kernel_rfl) (by kernel_rfl) (fun _ _ _ h => h) (Or.inr ⟨by rfl, rfl⟩) (by assumption) ?_
                simp only [Act.put, List.getElem_toArray, List.getElem_cons_zero, List.getElem_cons_succ, List.setIfInBounds_toArray, List.set_cons_zero, List.set_cons_succ]
                refine wpAnyH_take (i := 18) rfl (by kernel_rfl) (by kernel_rfl) (by kernel_rfl) (fun _ _ _ h => h) (Or.inr ⟨by rfl, rfl⟩) (by assumption) ?_
                simp only [Act.put, List.getElem_toArray, List.getElem_cons_zero, List.getElem_cons_succ, List.setIfInBounds_toArray, List.set_cons_zero, List.set_cons_succ]
                refine wpAnyH_take (i := 19) rfl (by kernel_rfl) (by kernel_rfl) (by kernel_rfl) (fun _ _ _ h => h) (Or.inr ⟨by rfl, rfl⟩) (by assumption) ?_
                simp only [Act.put, List.getElem_toArray, List.getElem_cons_zero, List.getElem_cons_succ, List.setIfInBounds_toArray, List.set_cons_zero, List.set_cons_succ]
                refine wpAnyH_take (i := 20) rfl (by kernel_rfl) (by kernel_rfl) (by kernel_rfl) (fun _ _ _ h => h) (Or.inr ⟨by rfl, rfl⟩) (by assumption) ?_
                simp only [Act.put, List.getElem_toArray, List.getElem_cons_zero, List.getElem_cons_succ, List.setIfInBounds_toArray, List.set_cons_zero, List.set_cons_succ]
                refine wpAnyH_take (i := 21) rfl (by kernel_rfl) (by kernel_rfl) (by kernel_rfl) (fun _ _ _ h => h) (Or.inr ⟨by rfl, rfl⟩) (by assumption) ?_
                simp only [Act.put, List.getElem_toArray, List.getElem_cons_zero, List.getElem_cons_succ, List.setIfInBounds_toArray, List.set_cons_zero, List.set_cons_succ]
                refine wpAnyH_take (i := 22) rfl (by kernel_rfl) (by kernel_rfl) (by kernel_rfl) (fun _ _ _ h => h) (Or.inr ⟨by rfl, rfl⟩) (by assumption) ?_
                simp only [Act.put, List.getElem_toArray, List.getElem_cons_zero, List.getElem_cons_succ, List.setIfInBounds_toArray, List.set_cons_zero, List.set_cons_succ]
                refine wpAnyH_take (i := 23) rfl (by kernel_rfl) (by kernel_rfl) (by kernel_rfl) (fun _ _ _ h => h) (Or.inr ⟨by rfl, rfl⟩) (by assumption) ?_
                simp only [Act.put, List.getElem_toArray, List.getElem_cons_zero, List.getElem_cons_succ, List.setIfInBounds_toArray, List.set_cons_zero, List.set_cons_succ]
                refine wpAnyH_take (i := 24) rfl (by kernel_rfl) (by kernel_rfl) (by kernel_rfl) (fun _ _ _ h => h) (Or.inr ⟨by rfl, rfl⟩) (by assumption) ?_
                simp only [Act.put, List.getElem_toArray, List.getElem_cons_zero, List.getElem_cons_succ, List.setIfInBounds_toArray, List.set_cons_zero, List.set_cons_succ]
                refine wpAnyH_take (i := 25) rfl (by kernel_rfl) (by kernel_rfl) (by kernel_rfl) (fun _ _ _ h => h) (Or.inr ⟨by rfl, rfl⟩) (by assumption) ?_
                simp only [Act.put, List.getElem_toArray, List.getElem_cons_zero, List.getElem_cons_succ, List.setIfInBounds_toArray, List.set_cons_zero, List.set_cons_succ]
                refine wpAnyH_take (i := 26) rfl (by kernel_rfl) (by kernel_rfl) (by kernel_rfl) (fun _ _ _ h => h) (Or.inr ⟨by rfl, rfl⟩) (by assumption) ?_
                simp only [Act.put, List.getElem_toArray, List.getElem_cons_zero, List.getElem_cons_succ, List.setIfInBounds_toArray, List.set_cons_zero, List.set_cons_succ]
                refine wpAnyH_take (i := 27) rfl (by kernel_rfl) (by kernel_rfl) (by kernel_rfl) (fun _ _ _ h => h) (Or.inr ⟨by rfl, rfl⟩) (by assumption) ?_
                simp only [Act.put, List.getElem_toArray, List.getElem_cons_zero, List.getElem_cons_succ, List.setIfInBounds_toArray, List.set_cons_zero, List.set_cons_succ]
                refine wpAnyH_take (i := 28) (v := ?_) rfl (by kernel_rfl) (by kernel_rfl) (by kernel_rfl) (fun _ _ _ h => h) (Or.inl ⟨by rfl, ?_⟩) (by assumption) ?_
                rotate_left
                · (intro w hSw; (try dsimp only at hSw); go_simp)
                  first | done | with_reducible rfl
                simp only [Act.put, List.getElem_toArray, List.getElem_cons_zero, List.getElem_cons_succ, List.setIfInBounds_toArray, List.set_cons_zero, List.set_cons_succ]
                refine wpAnyH_done (by kernel_rfl) ?_ _
                have HU9 := Lib.hid (HU.out.drew.trans hu1)
                clear HU hHeld x0 q0
                go_wp2_with fail
                go_ret
                exact ⟨by rw [HRR.out]; rfl, HU9.out⟩
              · have g2 : (s == [116, 97, 117]) = false := by simpa [tauL] using ht
                have hst0 : (s == tauL) = false := by simpa using ht
                rw [hst0] at HLP
                clear hls ht hst0
                by_cases h1k : 1 < k
                · have kI : decide ((1 : Int) < (k : Int)) = true := decide_eq_true (by omega)
                  have kN : decide (1 < k) = true := decide_eq_true h1k
                  have kP : (1 : Int) < (k : Int) := by omega
                  have i0 : IntKind.i64.wrap ((k : Int) - 1) = (k : Int) - 1 := IntWalk.i64_in _ (by omega)
                  have i1 : ((k : Int) - 1).toNat = k - 1 := by omega
                  have i3 : (0 : Int) ≤ (k : Int) - 1 := by omega
                  have i4 : (k : Int) - 1 < (labs.length : Int) := by omega
                  have i5 : (1 : Int) ≤ (k : Int) := by omega
                  rw [kN] at HLP
                  have hcmp : (Op.bytesLess s pv || s == pv) = !bl pv s := bl_total s pv
                  have hcmp2 : (Op.bytesLess s pv || pv == s) = !bl pv s := by rw [← hcmp]; congr 1; rw [Bool.eq_iff_iff]; simp; exact eq_comm
                  cases hbl : bl pv s with
                  | false =>
                    rw [hbl] at HLP hcmp hcmp2
                    have hbl3 : Op.bytesLess pv s = false := hbl
                    have HRR := Lib.hid (show labsOk labs = false by rw [HLO2.out, HA2.out, HLP.out]; rfl)
                    clear HLO2 HA2 HLP hbl
                    go_wp2_with fail
                    refine wp_region_held_drew (S := fun w' => w'.cell? ⟨b1, o1 + k, none⟩ = some (es s) ∧ w'.cell? ⟨b1, o1 + (k - 1), none⟩ = some (es pv)) (by kernel_rfl) ?_ (fun hHeld => ?_)
                    · exact ⟨x0, q0⟩
                    refine wpAnyH_take (i := 0) (v := ?_) rfl (by kernel_rfl) (by kernel_rfl) (by kernel_rfl) (fun _ _ _ h => h) (Or.inl ⟨by rfl, ?_⟩) (by assumption) ?_
                    rotate_left
                    · (intro w hSw; (try dsimp only at hSw); go_simp)
                      first | done | with_reducible rfl
                    simp only [Act.put, List.getElem_toArray, List.getElem_cons_zero, List.setIfInBounds_toArray, List.set_cons_zero, List.set_cons_succ]
                    refine wpAnyH_take (i := 1) (v := ?_) rfl (by kernel_rfl) (by kernel_rfl) (by kernel_rfl) (fun _ _ _ h => h) (Or.inl ⟨by rfl, ?_⟩) (by assumption) ?_
                    rotate_left
                    · (intro w hSw; (try dsimp only at hSw); go_simp)
                      first | done | with_reducible rfl
                    simp only [Act.put, List.getElem_toArray, List.getElem_cons_zero, List.getElem_cons_succ, List.setIfInBounds_toArray, List.set_cons_zero, List.set_cons_succ]
                    refine wpAnyH_take (i := 2) (v := ?_) rfl (by kernel_rfl) (by kernel_rfl) (by kernel_rfl) (fun _ _ _ h => h) (Or.inl ⟨by rfl, ?_⟩) (by assumption) ?_
                    rotate_left
                    · (intro w hSw; (try dsimp only at hSw); go_simp)
                      first | done | with_reducible rfl
                    simp only [Act.put, List.getElem_toArray, List.getElem_cons_zero, List.getElem_cons_succ, List.setIfInBounds_toArray, List.set_cons_zero, List.set_cons_succ]
                    refine wpAnyH_take (i := 3) (v := ?_) rfl (by kernel_rfl) (by kernel_rfl) (by kernel_rfl) (fun _ _ _ h => h) (Or.inl ⟨by rfl, ?_⟩) (by assumption) ?_
                    rotate_left
                    · (intro w hSw; (try dsimp only at hSw); go_simp)
                      first | done | with_reducible rfl
                    simp only [Act.put, List.getElem_toArray, List.getElem_cons_zero, List.getElem_cons_succ, List.setIfInBounds_toArray, List.set_cons_zero, List.set_cons_succ]
                    refine wpAnyH_ready (rs := [4]) (by kernel_rfl) (by simp) ?_
                    refine AllReadyH.cons rfl (fun K hK => ?_) AllReadyH.nil
                    go_simp
                    refine (SL.out _).mono ?_
                    rintro e w4 ⟨rfl, hu1⟩
                    refine hK.out _ _ ?_ (fun hHeld => ?_)
                    · exact ⟨hu1.keep hHeld.1, hu1.keep hHeld.2⟩
                    clear hK K
                    try simp only [Act.put, List.getElem_toArray, List.getElem_cons_zero, List.getElem_cons_succ, List.setIfInBounds_toArray, List.set_cons_zero, List.set_cons_succ]
                    refine wpAnyH_take (i := 5) (v := ?_) rfl (by kernel_rfl) (by kernel_rfl) (by kernel_rfl) (fun _ _ _ h => h) (Or.inl ⟨by rfl, ?_⟩) (by assumption) ?_
                    rotate_left
                    · (intro w hSw; (try dsimp only at hSw); go_simp)
                      first | done | with_reducible rfl
                    simp only [Act.put, List.getElem_toArray, List.getElem_cons_zero, List.getElem_cons_succ, List.setIfInBounds_toArray, List.set_cons_zero, List.set_cons_succ]
                    refine wpAnyH_take (i := 6) (v := ?_) rfl (by kernel_rfl) (by kernel_rfl) (by kernel_rfl) (fun _ _ _ h => h) (Or.inl ⟨by rfl, ?_⟩) (by assumption) ?_
                    rotate_left
                    · (intro w hSw; (try dsimp only at hSw); go_simp)
                      first | done | with_reducible rfl
                    simp only [Act.put, List.getElem_toArray, List.getElem_cons_zero, List.getElem_cons_succ, List.setIfInBounds_toArray, List.set_cons_zero, List.set_cons_succ]
                    refine wpAnyH_take (i := 7) (v := ?_) rfl (by kernel_rfl) (by kernel_rfl) (by kernel_rfl) (fun _ _ _ h => h) (Or.inl ⟨by rfl, ?_⟩) (by assumption) ?_
                    rotate_left
                    · (intro w hSw; (try dsimp only at hSw); go_simp)
                      first | done | with_reducible rfl
                    simp only [Act.put, List.getElem_toArray, List.getElem_cons_zero, List.getElem_cons_succ, List.setIfInBounds_toArray, List.set_cons_zero, List.set_cons_succ]
                    refine wpAnyH_take (i := 8) (v := ?_) rfl (by kernel_rfl) (by kernel_rfl) (by kernel_rfl) (fun _ _ _ h => h) (Or.inl ⟨by rfl, ?_⟩) (by assumption) ?_
                    rotate_left
                    · (intro w hSw; (try dsimp only at hSw); go_simp)
                      first | done | with_reducible rfl
                    simp only [Act.put, List.getElem_toArray, List.getElem_cons_zero, List.getElem_cons_succ, List.setIfInBounds_toArray, List.set_cons_zero, List.set_cons_succ]
                    refine wpAnyH_take (i := 9) (v := ?_) rfl (by kernel_rfl) (by kernel_rfl) (by kernel_rfl) (fun _ _ _ h => h) (Or.inl ⟨by rfl, ?_⟩) (by assumption) ?_
                    rotate_left
                    · (intro w hSw; (try dsimp only at hSw); go_simp)
                      first | done | with_reducible rfl
                    simp only [Act.put, List.getElem_toArray, List.getElem_cons_zero, List.getElem_cons_succ, List.setIfInBounds_toArray, List.set_cons_zero, List.set_cons_succ]
                    refine wpAnyH_take (i := 10) (v := ?_) rfl (by kernel_rfl) (by kernel_rfl) (by kernel_rfl) (fun _ _ _ h => h) (Or.inl ⟨by rfl, ?_⟩) (by assumption) ?_
                    rotate_left
                    · (intro w hSw; (try dsimp only at hSw); go_simp)
                      first | done | with_reducible rfl
                    simp only [Act.put, List.getElem_toArray, List.getElem_cons_zero, List.getElem_cons_succ, List.setIfInBounds_toArray, List.set_cons_zero, List.set_cons_succ]
                    refine wpAnyH_take (i := 11) (v := ?_) rfl (by kernel_rfl) (by kernel_rfl) (by kernel_rfl) (fun _ _ _ h => h) (Or.inl ⟨by rfl, ?_⟩) (by assumption) ?_
                    rotate_left
                    · (intro w hSw; (try dsimp only at hSw); go_simp)
                      first | done | with_reducible rfl
                    simp only [Act.put, List.getElem_toArray, List.getElem_cons_zero, List.getElem_cons_succ, List.setIfInBounds_toArray, List.set_cons_zero, List.set_cons_succ]
                    refine wpAnyH_take (i := 12) (v := ?_) rfl (by kernel_rfl) (by kernel_rfl) (by kernel_rfl) (fun _ _ _ h => h) (Or.inl ⟨by rfl, ?_⟩) (by assumption) ?_
                    rotate_left
                    · (intro w hSw; (try dsimp only at hSw); go_simp)
                      first | done | with_reducible rfl
                    simp only [Act.put, List.getElem_toArray, List.getElem_cons_zero, List.getElem_cons_succ, List.setIfInBounds_toArray, List.set_cons_zero, List.set_cons_succ]
                    refine wpAnyH_take (i := 13) (v := ?_) rfl (by kernel_rfl) (by kernel_rfl) (by kernel_rfl) (fun _ _ _ h => h) (Or.inl ⟨by rfl, ?_⟩) (by assumption) ?_
                    rotate_left
                    · (intro w hSw; (try dsimp only at hSw); go_simp)
                      first | done | with_reducible rfl
                    simp only [Act.put, List.getElem_toArray, List.getElem_cons_zero, List.getElem_cons_succ, List.setIfInBounds_toArray, List.set_cons_zero, List.set_cons_succ]
                    refine wpAnyH_take (i := 14) (v := ?_) rfl (by kernel_rfl) (by kernel_rfl) (by kernel_rfl) (fun _ _ _ h => h) (Or.inl ⟨by rfl, ?_⟩) (by assumption) ?_
                    rotate_left
                    · (intro w hSw; (try dsimp only at hSw); go_simp)
                      first | done | with_reducible rfl
                    simp only [Act.put, List.getElem_toArray, List.getElem_cons_zero, List.getElem_cons_succ, List.setIfInBounds_toArray, List.set_cons_zero, List.set_cons_succ]
                    refine wpAnyH_take (i := 15) (v := ?_) rfl (by kernel_rfl) (by kernel_rfl) (by kernel_rfl) (fun _ _ _ h => h) (Or.inl ⟨by rfl, ?_⟩) (by assumption) ?_
                    rotate_left
                    · (intro w hSw; (try dsimp only at hSw); go_simp)
                      first | done | with_reducible rfl
                    simp only [Act.put, List.getElem_toArray, List.getElem_cons_zero, List.getElem_cons_succ, List.setIfInBounds_toArray, List.set_cons_zero, List.set_cons_succ]
                    try simp only [kN]
                    try simp only [kI]
                    refine wpAnyH_take (i := 16) (v := ?_) rfl (by kernel_rfl) (by kernel_rfl) (by kernel_rfl) (fun _ _ _ h => h) (Or.inl ⟨by rfl, ?_⟩) (by assumption) ?_
                    rotate_left
                    · (intro w hSw; (try dsimp only at hSw); go_simp)
                      first | done | with_reducible rfl
                    simp only [Act.put, List.getElem_toArray, List.getElem_cons_zero, List.getElem_cons_succ, List.setIfInBounds_toArray, List.set_cons_zero, List.set_cons_succ]
                    refine wpAnyH_take (i := 17) (v := ?_) rfl (by kernel_rfl) (by kernel_rfl) (by kernel_rfl) (fun _ _ _ h => h) (Or.inl ⟨by rfl, ?_⟩) (by assumption) ?_
                    rotate_left
                    · (intro w hSw; (try dsimp only at hSw); go_simp)
                      first | done | with_reducible rfl
                    simp only [Act.put, List.getElem_toArray, List.getElem_cons_zero, List.getElem_cons_succ, List.setIfInBounds_toArray, List.set_cons_zero, List.set_cons_succ]
                    refine wpAnyH_take (i := 18) (v := ?_) rfl (by kernel_rfl) (by kernel_rfl) (by kernel_rfl) (fun _ _ _ h => h) (Or.inl ⟨by rfl, ?_⟩) (by assumption) ?_
                    rotate_left
                    · (intro w hSw; (try dsimp only at hSw); go_simp)
                      first | done | with_reducible rfl
                    simp only [Act.put, List.getElem_toArray, List.getElem_cons_zero, List.getElem_cons_succ, List.setIfInBounds_toArray, List.set_cons_zero, List.set_cons_succ]
                    refine wpAnyH_take (i := 19) (v := ?_) rfl (by kernel_rfl) (by kernel_rfl) (by kernel_rfl) (fun _ _ _ h => h) (Or.inl ⟨by rfl, ?_⟩) (by assumption) ?_
                    rotate_left
                    · (intro w hSw; (try dsimp only at hSw); go_simp)
                      first | done | with_reducible rfl
                    simp only [Act.put, List.getElem_toArray, List.getElem_cons_zero, List.getElem_cons_succ, List.setIfInBounds_toArray, List.set_cons_zero, List.set_cons_succ]
                    try simp only [i0]
                    refine wpAnyH_take (i := 20) (v := ?_) rfl (by kernel_rfl) (by kernel_rfl) (by kernel_rfl) (fun _ _ _ h => h) (Or.inl ⟨by rfl, ?_⟩) (by assumption) ?_
                    rotate_left
                    · (intro w hSw; (try dsimp only at hSw); go_simp)
                      first | done | with_reducible rfl
                    simp only [Act.put, List.getElem_toArray, List.getElem_cons_zero, List.getElem_cons_succ, List.setIfInBounds_toArray, List.set_cons_zero, List.set_cons_succ]
                    try simp only [i1]
                    refine wpAnyH_take (i := 21) (v := ?_) rfl (by kernel_rfl) (by kernel_rfl) (by kernel_rfl) (fun _ _ _ h => h) (Or.inl ⟨by rfl, ?_⟩) (by assumption) ?_
                    rotate_left
                    · (intro w hSw; (try dsimp only at hSw); go_simp)
                      first | done | with_reducible rfl
                    simp only [Act.put, List.getElem_toArray, List.getElem_cons_zero, List.getElem_cons_succ, List.setIfInBounds_toArray, List.set_cons_zero, List.set_cons_succ]
                    refine wpAnyH_take (i := 22) (v := ?_) rfl (by kernel_rfl) (by kernel_rfl) (by kernel_rfl) (fun _ _ _ h => h) (Or.inl ⟨by rfl, ?_⟩) (by assumption) ?_
                    rotate_left
                    · (intro w hSw; (try dsimp only at hSw); go_simp)
                      first | done | with_reducible rfl
                    simp only [Act.put, List.getElem_toArray, List.getElem_cons_zero, List.getElem_cons_succ, List.setIfInBounds_toArray, List.set_cons_zero, List.set_cons_succ]
                    refine wpAnyH_take (i := 23) (v := ?_) rfl (by kernel_rfl) (by kernel_rfl) (by kernel_rfl) (fun _ _ _ h => h) (Or.inl ⟨by rfl, ?_⟩) (by assumption) ?_
                    rotate_left
                    · (intro w hSw; (try dsimp only at hSw); go_simp)
                      first | done | with_reducible rfl
                    simp only [Act.put, List.getElem_toArray, List.getElem_cons_zero, List.getElem_cons_succ, List.setIfInBounds_toArray, List.set_cons_zero, List.set_cons_succ]
                    refine wpAnyH_take (i := 24) (v := ?_) rfl (by kernel_rfl) (by kernel_rfl) (by kernel_rfl) (fun _ _ _ h => h) (Or.inl ⟨by rfl, ?_⟩) (by assumption) ?_
                    rotate_left
                    · (intro w hSw; (try dsimp only at hSw); go_simp)
                      first | done | with_reducible rfl
                    simp only [Act.put, List.getElem_toArray, List.getElem_cons_zero, List.getElem_cons_succ, List.setIfInBounds_toArray, List.set_cons_zero, List.set_cons_succ]
                    refine wpAnyH_take (i := 25) (v := ?_) rfl (by kernel_rfl) (by kernel_rfl) (by kernel_rfl) (fun _ _ _ h => h) (Or.inl ⟨by rfl, ?_⟩) (by assumption) ?_
                    rotate_left
                    · (intro w hSw; (try dsimp only at hSw); go_simp)
                      first | done | with_reducible rfl
                    simp only [Act.put, List.getElem_toArray, List.getElem_cons_zero, List.getElem_cons_succ, List.setIfInBounds_toArray, List.set_cons_zero, List.set_cons_succ]
                    refine wpAnyH_take (i := 26) (v := ?_) rfl (by kernel_rfl) (by kernel_rfl) (by kernel_rfl) (fun _ _ _ h => h) (Or.inl ⟨by rfl, ?_⟩) (by assumption) ?_
                    rotate_left
                    · (intro w hSw; (try dsimp only at hSw); go_simp)
                      first | done | with_reducible rfl
                    simp only [Act.put, List.getElem_toArray, List.getElem_cons_zero, List.getElem_cons_succ, List.setIfInBounds_toArray, List.set_cons_zero, List.set_cons_succ]
                    refine wpAnyH_take (i := 27) (v := ?_) rfl (by kernel_rfl) (by kernel_rfl) (by kernel_rfl) (fun _ _ _ h => h) (Or.inl ⟨by rfl, ?_⟩) (by assumption) ?_
                    rotate_left
                    · (intro w hSw; (try dsimp only at hSw); go_simp)
                      first | done | with_reducible rfl
                    simp only [Act.put, List.getElem_toArray, List.getElem_cons_zero, List.getElem_cons_succ, List.setIfInBounds_toArray, List.set_cons_zero, List.set_cons_succ]
                    refine wpAnyH_take (i := 28) (v := ?_) rfl (by kernel_rfl) (by kernel_rfl) (by kernel_rfl) (fun _ _ _ h => h) (Or.inl ⟨by rfl, ?_⟩) (by assumption) ?_
                    rotate_left
                    · (intro w hSw; (try dsimp only at hSw); go_simp)
                      first | done | with_reducible rfl
                    simp only [Act.put, List.getElem_toArray, List.getElem_cons_zero, List.getElem_cons_succ, List.setIfInBounds_toArray, List.set_cons_zero, List.set_cons_succ]
                    refine wpAnyH_done (by kernel_rfl) ?_ _
                    have HU9 := Lib.hid (HU.out.drew.trans hu1)
                    clear HU hHeld x0 q0
                    go_wp2_with fail
                    go_ret
                    exact ⟨by rw [HRR.out]; rfl, HU9.out⟩
                  | true =>
                    rw [hbl] at HLP hcmp hcmp2
                    have hbl3 : Op.bytesLess pv s = true := hbl
                    have HA3 := Lib.hid (show allF (labP labs) (k + 1) (labs.length - (k + 1)) = allF (labP labs) 0 labs.length by rw [HA2.out, HLP.out]; simp)
                    clear HA2 HLP hbl
                    go_wp2_with fail
                    refine wp_region_held_drew (S := fun w' => w'.cell? ⟨b1, o1 + k, none⟩ = some (es s) ∧ w'.cell? ⟨b1, o1 + (k - 1), none⟩ = some (es pv)) (by kernel_rfl) ?_ (fun hHeld => ?_)
                    · exact ⟨x0, q0⟩
                    refine wpAnyH_take (i := 0) (v := ?_) rfl (by kernel_rfl) (by kernel_rfl) (by kernel_rfl) (fun _ _ _ h => h) (Or.inl ⟨by rfl, ?_⟩) (by assumption) ?_
                    rotate_left
                    · (intro w hSw; (try dsimp only at hSw); go_simp)
                      first | done | with_reducible rfl
                    simp only [Act.put, List.getElem_toArray, List.getElem_cons_zero, List.setIfInBounds_toArray, List.set_cons_zero, List.set_cons_succ]
                    refine wpAnyH_take (i := 1) (v := ?_) rfl (by kernel_rfl) (by kernel_rfl) (by kernel_rfl) (fun _ _ _ h => h) (Or.inl ⟨by rfl, ?_⟩) (by assumption) ?_
                    rotate_left
                    · (intro w hSw; (try dsimp only at hSw); go_simp)
                      first | done | with_reducible rfl
                    simp only [Act.put, List.getElem_toArray, List.getElem_cons_zero, List.getElem_cons_succ, List.setIfInBounds_toArray, List.set_cons_zero, List.set_cons_succ]
                    refine wpAnyH_take (i := 2) (v := ?_) rfl (by kernel_rfl) (by kernel_rfl) (by kernel_rfl) (fun _ _ _ h => h) (Or.inl ⟨by rfl, ?_⟩) (by assumption) ?_
                    rotate_left
                    · (intro w hSw; (try dsimp only at hSw); go_simp)
                      first | done | with_reducible rfl
                    simp only [Act.put, List.getElem_toArray, List.getElem_cons_zero, List.getElem_cons_succ, List.setIfInBounds_toArray, List.set_cons_zero, List.set_cons_succ]
                    refine wpAnyH_take (i := 3) (v := ?_) rfl (by kernel_rfl) (by kernel_rfl) (by kernel_rfl) (fun _ _ _ h => h) (Or.inl ⟨by rfl, ?_⟩) (by assumption) ?_
                    rotate_left
                    · (intro w hSw; (try dsimp only at hSw); go_simp)
                      first | done | with_reducible rfl
                    simp only [Act.put, List.getElem_toArray, List.getElem_cons_zero, List.getElem_cons_succ, List.setIfInBounds_toArray, List.set_cons_zero, List.set_cons_succ]
                    refine wpAnyH_ready (rs := [4]) (by kernel_rfl) (by simp) ?_
                    refine AllReadyH.cons rfl (fun K hK => ?_) AllReadyH.nil
                    go_simp
                    refine (SL.out _).mono ?_
                    rintro e w4 ⟨rfl, hu1⟩
                    refine hK.out _ _ ?_ (fun hHeld => ?_)
                    · exact ⟨hu1.keep hHeld.1, hu1.keep hHeld.2⟩
                    clear hK K
                    try simp only [Act.put, List.getElem_toArray, List.getElem_cons_zero, List.getElem_cons_succ, List.setIfInBounds_toArray, List.set_cons_zero, List.set_cons_succ]
                    refine wpAnyH_take (i := 5) (v := ?_) rfl (by kernel_rfl) (by kernel_rfl) (by kernel_rfl) (fun _ _ _ h => h) (Or.inl ⟨by rfl, ?_⟩) (by assumption) ?_
                    rotate_left
                    · (intro w hSw; (try dsimp only at hSw); go_simp)
                      first | done | with_reducible rfl
                    simp only [Act.put, List.getElem_toArray, List.getElem_cons_zero, List.getElem_cons_succ, List.setIfInBounds_toArray, List.set_cons_zero, List.set_cons_succ]
                    refine wpAnyH_take (i := 6) (v := ?_) rfl (by kernel_rfl) (by kernel_rfl) (by kernel_rfl) (fun _ _ _ h => h) (Or.inl ⟨by rfl, ?_⟩) (by assumption) ?_
                    rotate_left
                    · (intro w hSw; (try dsimp only at hSw); go_simp)
                      first | done | with_reducible rfl
                    simp only [Act.put, List.getElem_toArray, List.getElem_cons_zero, List.getElem_cons_succ, List.setIfInBounds_toArray, List.set_cons_zero, List.set_cons_succ]
                    refine wpAnyH_take (i := 7) (v := ?_) rfl (by kernel_rfl) (by kernel_rfl) (by kernel_rfl) (fun _ _ _ h => h) (Or.inl ⟨by rfl, ?_⟩) (by assumption) ?_
                    rotate_left
                    · (intro w hSw; (try dsimp only at hSw); go_simp)
                      first | done | with_reducible rfl
                    simp only [Act.put, List.getElem_toArray, List.getElem_cons_zero, List.getElem_cons_succ, List.setIfInBounds_toArray, List.set_cons_zero, List.set_cons_succ]
                    refine wpAnyH_take (i := 8) (v := ?_) rfl (by kernel_rfl) (by kernel_rfl) (by kernel_rfl) (fun _ _ _ h => h) (Or.inl ⟨by rfl, ?_⟩) (by assumption) ?_
                    rotate_left
                    · (intro w hSw; (try dsimp only at hSw); go_simp)
                      first | done | with_reducible rfl
                    simp only [Act.put, List.getElem_toArray, List.getElem_cons_zero, List.getElem_cons_succ, List.setIfInBounds_toArray, List.set_cons_zero, List.set_cons_succ]
                    refine wpAnyH_take (i := 9) (v := ?_) rfl (by kernel_rfl) (by kernel_rfl) (by kernel_rfl) (fun _ _ _ h => h) (Or.inl ⟨by rfl, ?_⟩) (by assumption) ?_
                    rotate_left
                    · (intro w hSw; (try dsimp only at hSw); go_simp)
                      first | done | with_reducible rfl
                    simp only [Act.put, List.getElem_toArray, List.getElem_cons_zero, List.getElem_cons_succ, List.setIfInBounds_toArray, List.set_cons_zero, List.set_cons_succ]
                    refine wpAnyH_take (i := 10) (v := ?_) rfl (by kernel_rfl) (by kernel_rfl) (by kernel_rfl) (fun _ _ _ h => h) (Or.inl ⟨by rfl, ?_⟩) (by assumption) ?_
                    rotate_left
                    · (intro w hSw; (try dsimp only at hSw); go_simp)
                      first | done | with_reducible rfl
                    simp only [Act.put, List.getElem_toArray, List.getElem_cons_zero, List.getElem_cons_succ, List.setIfInBounds_toArray, List.set_cons_zero, List.set_cons_succ]
                    refine wpAnyH_take (i := 11) (v := ?_) rfl (by kernel_rfl) (by kernel_rfl) (by kernel_rfl) (fun _ _ _ h => h) (Or.inl ⟨by rfl, ?_⟩) (by assumption) ?_
                    rotate_left
                    · (intro w hSw; (try dsimp only at hSw); go_simp)
                      first | done | with_reducible rfl
                    simp only [Act.put, List.getElem_toArray, List.getElem_cons_zero, List.getElem_cons_succ, List.setIfInBounds_toArray, List.set_cons_zero, List.set_cons_succ]
                    refine wpAnyH_take (i := 12) (v := ?_) rfl (by kernel_rfl) (by kernel_rfl) (by kernel_rfl) (fun _ _ _ h => h) (Or.inl ⟨by rfl, ?_⟩) (by assumption) ?_
                    rotate_left
                    · (intro w hSw; (try dsimp only at hSw); go_simp)
                      first | done | with_reducible rfl
                    simp only [Act.put, List.getElem_toArray, List.getElem_cons_zero, List.getElem_cons_succ, List.setIfInBounds_toArray, List.set_cons_zero, List.set_cons_succ]
                    refine wpAnyH_take (i := 13) (v := ?_) rfl (by kernel_rfl) (by kernel_rfl) (by kernel_rfl) (fun _ _ _ h => h) (Or.inl ⟨by rfl, ?_⟩) (by assumption) ?_
                    rotate_left
                    · (intro w hSw; (try dsimp only at hSw); go_simp)
                      first | done | with_reducible rfl
                    simp only [Act.put, List.getElem_toArray, List.getElem_cons_zero, List.getElem_cons_succ, List.setIfInBounds_toArray, List.set_cons_zero, List.set_cons_succ]
                    refine wpAnyH_take (i := 14) (v := ?_) rfl (by kernel_rfl) (by kernel_rfl) (by kernel_rfl) (fun _ _ _ h => h) (Or.inl ⟨by rfl, ?_⟩) (by assumption) ?_
                    rotate_left
                    · (intro w hSw; (try dsimp only at hSw); go_simp)
                      first | done | with_reducible rfl
                    simp only [Act.put, List.getElem_toArray, List.getElem_cons_zero, List.getElem_cons_succ, List.setIfInBounds_toArray, List.set_cons_zero, List.set_cons_succ]
                    refine wpAnyH_take (i := 15) (v := ?_) rfl (by kernel_rfl) (by kernel_rfl) (by kernel_rfl) (fun _ _ _ h => h) (Or.inl ⟨by rfl, ?_⟩) (by assumption) ?_
                    rotate_left
                    · (intro w hSw; (try dsimp only at hSw); go_simp)
                      first | done | with_reducible rfl
                    simp only [Act.put, List.getElem_toArray, List.getElem_cons_zero, List.getElem_cons_succ, List.setIfInBounds_toArray, List.set_cons_zero, List.set_cons_succ]
                    try simp only [kN]
                    try simp only [kI]
                    refine wpAnyH_take (i := 16) (v := ?_) rfl (by kernel_rfl) (by kernel_rfl) (by kernel_rfl) (fun _ _ _ h => h) (Or.inl ⟨by rfl, ?_⟩) (by assumption) ?_
                    rotate_left
                    · (intro w hSw; (try dsimp only at hSw); go_simp)
                      first | done | with_reducible rfl
                    simp only [Act.put, List.getElem_toArray, List.getElem_cons_zero, List.getElem_cons_succ, List.setIfInBounds_toArray, List.set_cons_zero, List.set_cons_succ]
                    refine wpAnyH_take (i := 17) (v := ?_) rfl (by kernel_rfl) (by kernel_rfl) (by kernel_rfl) (fun _ _ _ h => h) (Or.inl ⟨by rfl, ?_⟩) (by assumption) ?_
                    rotate_left
                    · (intro w hSw; (try dsimp only at hSw); go_simp)
                      first | done | with_reducible rfl
                    simp only [Act.put, List.getElem_toArray, List.getElem_cons_zero, List.getElem_cons_succ, List.setIfInBounds_toArray, List.set_cons_zero, List.set_cons_succ]
                    refine wpAnyH_take (i := 18) (v := ?_) rfl (by kernel_rfl) (by kernel_rfl) (by kernel_rfl) (fun _ _ _ h => h) (Or.inl ⟨by rfl, ?_⟩) (by assumption) ?_
                    rotate_left
                    · (intro w hSw; (try dsimp only at hSw); go_simp)
                      first | done | with_reducible rfl
                    simp only [Act.put, List.getElem_toArray, List.getElem_cons_zero, List.getElem_cons_succ, List.setIfInBounds_toArray, List.set_cons_zero, List.set_cons_succ]
                    refine wpAnyH_take (i := 19) (v := ?_) rfl (by kernel_rfl) (by kernel_rfl) (by kernel_rfl) (fun _ _ _ h => h) (Or.inl ⟨by rfl, ?_⟩) (by assumption) ?_
                    rotate_left
                    · (intro w hSw; (try dsimp only at hSw); go_simp)
                      first | done | with_reducible rfl
                    simp only [Act.put, List.getElem_toArray, List.getElem_cons_zero, List.getElem_cons_succ, List.setIfInBounds_toArray, List.set_cons_zero, List.set_cons_succ]
                    try simp only [i0]
                    refine wpAnyH_take (i := 20) (v := ?_) rfl (by kernel_rfl) (by kernel_rfl) (by kernel_rfl) (fun _ _ _ h => h) (Or.inl ⟨by rfl, ?_⟩) (by assumption) ?_
                    rotate_left
                    · (intro w hSw; (try dsimp only at hSw); go_simp)
                      first | done | with_reducible rfl
                    simp only [Act.put, List.getElem_toArray, List.getElem_cons_zero, List.getElem_cons_succ, List.setIfInBounds_toArray, List.set_cons_zero, List.set_cons_succ]
                    try simp only [i1]
                    refine wpAnyH_take (i := 21) (v := ?_) rfl (by kernel_rfl) (by kernel_rfl) (by kernel_rfl) (fun _ _ _ h => h) (Or.inl ⟨by rfl, ?_⟩) (by assumption) ?_
                    rotate_left
                    · (intro w hSw; (try dsimp only at hSw); go_simp)
                      first | done | with_reducible rfl
                    simp only [Act.put, List.getElem_toArray, List.getElem_cons_zero, List.getElem_cons_succ, List.setIfInBounds_toArray, List.set_cons_zero, List.set_cons_succ]
                    refine wpAnyH_take (i := 22) (v := ?_) rfl (by kernel_rfl) (by kernel_rfl) (by kernel_rfl) (fun _ _ _ h => h) (Or.inl ⟨by rfl, ?_⟩) (by assumption) ?_
                    rotate_left
                    · (intro w hSw; (try dsimp only at hSw); go_simp)
                      first | done | with_reducible rfl
                    simp only [Act.put, List.getElem_toArray, List.getElem_cons_zero, List.getElem_cons_succ, List.setIfInBounds_toArray, List.set_cons_zero, List.set_cons_succ]
                    refine wpAnyH_take (i := 23) (v := ?_) rfl (by kernel_rfl) (by kernel_rfl) (by kernel_rfl) (fun _ _ _ h => h) (Or.inl ⟨by rfl, ?_⟩) (by assumption) ?_
                    rotate_left
                    · (intro w hSw; (try dsimp only at hSw); go_simp)
                      first | done | with_reducible rfl
                    simp only [Act.put, List.getElem_toArray, List.getElem_cons_zero, List.getElem_cons_succ, List.setIfInBounds_toArray, List.set_cons_zero, List.set_cons_succ]
                    refine wpAnyH_take (i := 24) (v := ?_) rfl (by kernel_rfl) (by kernel_rfl) (by kernel_rfl) (fun _ _ _ h => h) (Or.inl ⟨by rfl, ?_⟩) (by assumption) ?_
                    rotate_left
                    · (intro w hSw; (try dsimp only at hSw); go_simp)
                      first | done | with_reducible rfl
                    simp only [Act.put, List.getElem_toArray, List.getElem_cons_zero, List.getElem_cons_succ, List.setIfInBounds_toArray, List.set_cons_zero, List.set_cons_succ]
                    refine wpAnyH_take (i := 25) (v := ?_) rfl (by kernel_rfl) (by kernel_rfl) (by kernel_rfl) (fun _ _ _ h => h) (Or.inl ⟨by rfl, ?_⟩) (by assumption) ?_
                    rotate_left
                    · (intro w hSw; (try dsimp only at hSw); go_simp)
                      first | done | with_reducible rfl
                    simp only [Act.put, List.getElem_toArray, List.getElem_cons_zero, List.getElem_cons_succ, List.setIfInBounds_toArray, List.set_cons_zero, List.set_cons_succ]
                    refine wpAnyH_take (i := 26) (v := ?_) rfl (by kernel_rfl) (by kernel_rfl) (by kernel_rfl) (fun _ _ _ h => h) (Or.inl ⟨by rfl, ?_⟩) (by assumption) ?_
                    rotate_left
                    · (intro w hSw; (try dsimp only at hSw); go_simp)
                      first | done | with_reducible rfl
                    simp only [Act.put, List.getElem_toArray, List.getElem_cons_zero, List.getElem_cons_succ, List.setIfInBounds_toArray, List.set_cons_zero, List.set_cons_succ]
                    refine wpAnyH_take (i := 27) (v := ?_) rfl (by kernel_rfl) (by kernel_rfl) (by kernel_rfl) (fun _ _ _ h => h) (Or.inl ⟨by rfl, ?_⟩) (by assumption) ?_
                    rotate_left
                    · (intro w hSw; (try dsimp only at hSw); go_simp)
                      first | done | with_reducible rfl
                    simp only [Act.put, List.getElem_toArray, List.getElem_cons_zero, List.getElem_cons_succ, List.setIfInBounds_toArray, List.set_cons_zero, List.set_cons_succ]
                    refine wpAnyH_take (i := 28) (v := ?_) rfl (by kernel_rfl) (by kernel_rfl) (by kernel_rfl) (fun _ _ _ h => h) (Or.inl ⟨by rfl, ?_⟩) (by assumption) ?_
                    rotate_left
                    · (intro w hSw; (try dsimp only at hSw); go_simp)
                      first | done | with_reducible rfl
                    simp only [Act.put, List.getElem_toArray, List.getElem_cons_zero, List.getElem_cons_succ, List.setIfInBounds_toArray, List.set_cons_zero, List.set_cons_succ]
                    refine wpAnyH_done (by kernel_rfl) ?_ _
                    have HU9 := Lib.hid (HU.out.drew.trans hu1)
                    clear HU hHeld x0 q0
                    go_wp2_with fail
                    go_roundw
                    case rel => exact ⟨k + 1, by omega, by omega, by go_num, HA3, HU9.out⟩
                    case measure => simp [intOf]; omega
                · have kI : decide ((1 : Int) < (k : Int)) = false := decide_eq_false (by omega)
                  have kN : decide (1 < k) = false := decide_eq_false h1k
                  have kP : ¬ (1 : Int) < (k : Int) := by omega
                  rw [kN] at HLP
                  have HA3 := Lib.hid (show allF (labP labs) (k + 1) (labs.length - (k + 1)) = allF (labP labs) 0 labs.length by rw [HA2.out, HLP.out]; simp)
                  clear HA2 HLP
                  go_wp2_with fail
                  refine wp_region_held_drew (S := fun w' => w'.cell? ⟨b1, o1 + k, none⟩ = some (es s) ∧ w'.cell? ⟨b1, o1 + (k - 1), none⟩ = some (es pv)) (by kernel_rfl) ?_ (fun hHeld => ?_)
                  · exact ⟨x0, q0⟩
                  refine wpAnyH_take (i := 0) (v := ?_) rfl (by kernel_rfl) (by kernel_rfl) (by kernel_rfl) (fun _ _ _ h => h) (Or.inl ⟨by rfl, ?_⟩) (by assumption) ?_
                  rotate_left
                  · (intro w hSw; (try dsimp only at hSw); go_simp)
                    first | done | with_reducible rfl
                  simp only [Act.put, List.getElem_toArray, List.getElem_cons_zero, List.setIfInBounds_toArray, List.set_cons_zero, List.set_cons_succ]
                  refine wpAnyH_take (i := 1) (v := ?_) rfl (by kernel_rfl) (by kernel_rfl) (by kernel_rfl) (fun _ _ _ h => h) (Or.inl ⟨by rfl, ?_⟩) (by assumption) ?_
                  rotate_left
                  · (intro w hSw; (try dsimp only at hSw); go_simp)
                    first | done | with_reducible rfl
                  simp only [Act.put, List.getElem_toArray, List.getElem_cons_zero, List.getElem_cons_succ, List.setIfInBounds_toArray, List.set_cons_zero, List.set_cons_succ]
                  refine wpAnyH_take (i := 2) (v := ?_) rfl (by kernel_rfl) (by kernel_rfl) (by kernel_rfl) (fun _ _ _ h => h) (Or.inl ⟨by rfl, ?_⟩) (by assumption) ?_
                  rotate_left
                  · (intro w hSw; (try dsimp only at hSw); go_simp)
                    first | done | with_reducible rfl
                  simp only [Act.put, List.getElem_toArray, List.getElem_cons_zero, List.getElem_cons_succ, List.setIfInBounds_toArray, List.set_cons_zero, List.set_cons_succ]
                  refine wpAnyH_take (i := 3) (v := ?_) rfl (by kernel_rfl) (by kernel_rfl) (by kernel_rfl) (fun _ _ _ h => h) (Or.inl ⟨by rfl, ?_⟩) (by assumption) ?_
                  rotate_left
                  · (intro w hSw; (try dsimp only at hSw); go_simp)
                    first | done | with_reducible rfl
                  simp only [Act.put, List.getElem_toArray, List.getElem_cons_zero, List.getElem_cons_succ, List.setIfInBounds_toArray, List.set_cons_zero, List.set_cons_succ]
                  refine wpAnyH_ready (rs := [4]) (by kernel_rfl) (by simp) ?_
                  refine AllReadyH.cons rfl (fun K hK => ?_) AllReadyH.nil
                  go_simp
                  refine (SL.out _).mono ?_
                  rintro e w4 ⟨rfl, hu1⟩
                  refine hK.out _ _ ?_ (fun hHeld => ?_)
                  · exact ⟨hu1.keep hHeld.1, hu1.keep hHeld.2⟩
                  clear hK K
                  try simp only [Act.put, List.getElem_toArray, List.getElem_cons_zero, List.getElem_cons_succ, List.setIfInBounds_toArray, List.set_cons_zero, List.set_cons_succ]
                  refine wpAnyH_take (i := 5) (v := ?_) rfl (by kernel_rfl) (by kernel_rfl) (by kernel_rfl) (fun _ _ _ h => h) (Or.inl ⟨by rfl, ?_⟩) (by assumption) ?_
                  rotate_left
                  · (intro w hSw; (try dsimp only at hSw); go_simp)
                    first | done | with_reducible rfl
                  simp only [Act.put, List.getElem_toArray, List.getElem_cons_zero, List.getElem_cons_succ, List.setIfInBounds_toArray, List.set_cons_zero, List.set_cons_succ]
                  refine wpAnyH_take (i := 6) (v := ?_) rfl (by kernel_rfl) (by kernel_rfl) (by kernel_rfl) (fun _ _ _ h => h) (Or.inl ⟨by rfl, ?_⟩) (by assumption) ?_
                  rotate_left
                  · (intro w hSw; (try dsimp only at hSw); go_simp)
                    first | done | with_reducible rfl
                  simp only [Act.put, List.getElem_toArray, List.getElem_cons_zero, List.getElem_cons_succ, List.setIfInBounds_toArray, List.set_cons_zero, List.set_cons_succ]
                  refine wpAnyH_take (i := 7) (v := ?_) rfl (by kernel_rfl) (by kernel_rfl) (by kernel_rfl) (fun _ _ _ h => h) (Or.inl ⟨by rfl, ?_⟩) (by assumption) ?_
                  rotate_left
                  · (intro w hSw; (try dsimp only at hSw); go_simp)
                    first | done | with_reducible rfl
                  simp only [Act.put, List.getElem_toArray, List.getElem_cons_zero, List.getElem_cons_succ, List.setIfInBounds_toArray, List.set_cons_zero, List.set_cons_succ]
                  refine wpAnyH_take (i := 8) (v := ?_) rfl (by kernel_rfl) (by kernel_rfl) (by kernel_rfl) (fun _ _ _ h => h) (Or.inl ⟨by rfl, ?_⟩) (by assumption) ?_
                  rotate_left
                  · (intro w hSw; (try dsimp only at hSw); go_simp)
                    first | done | with_reducible rfl
                  simp only [Act.put, List.getElem_toArray, List.getElem_cons_zero, List.getElem_cons_succ, List.setIfInBounds_toArray, List.set_cons_zero, List.set_cons_succ]
                  refine wpAnyH_take (i := 9) (v := ?_) rfl (by kernel_rfl) (by kernel_rfl) (by kernel_rfl) (fun _ _ _ h => h) (Or.inl ⟨by rfl, ?_⟩) (by assumption) ?_
                  rotate_left
                  · (intro w hSw; (try dsimp only at hSw); go_simp)
                    first | done | with_reducible rfl
                  simp only [Act.put, List.getElem_toArray, List.getElem_cons_zero, List.getElem_cons_succ, List.setIfInBounds_toArray, List.set_cons_zero, List.set_cons_succ]
                  refine wpAnyH_take (i := 10) (v := ?_) rfl (by kernel_rfl) (by kernel_rfl) (by kernel_rfl) (fun _ _ _ h => h) (Or.inl ⟨by rfl, ?_⟩) (by assumption) ?_
                  rotate_left
                  · (intro w hSw; (try dsimp only at hSw); go_simp)
                    first | done | with_reducible rfl
                  simp only [Act.put, List.getElem_toArray, List.getElem_cons_zero, List.getElem_cons_succ, List.setIfInBounds_toArray, List.set_cons_zero, List.set_cons_succ]
                  refine wpAnyH_take (i := 11) (v := ?_) rfl (by kernel_rfl) (by kernel_rfl) (by kernel_rfl) (fun _ _ _ h => h) (Or.inl ⟨by rfl, ?_⟩) (by assumption) ?_
                  rotate_left
                  · (intro w hSw; (try dsimp only at hSw); go_simp)
                    first | done | with_reducible rfl
                  simp only [Act.put, List.getElem_toArray, List.getElem_cons_zero, List.getElem_cons_succ, List.setIfInBounds_toArray, List.set_cons_zero, List.set_cons_succ]
                  refine wpAnyH_take (i := 12) (v := ?_) rfl (by kernel_rfl) (by kernel_rfl) (by kernel_rfl) (fun _ _ _ h => h) (Or.inl ⟨by rfl, ?_⟩) (by assumption) ?_
                  rotate_left
                  · (intro w hSw; (try dsimp only at hSw); go_simp)
                    first | done | with_reducible rfl
                  simp only [Act.put, List.getElem_toArray, List.getElem_cons_zero, List.getElem_cons_succ, List.setIfInBounds_toArray, List.set_cons_zero, List.set_cons_succ]
                  refine wpAnyH_take (i := 13) (v := ?_) rfl (by kernel_rfl) (by kernel_rfl) (by kernel_rfl) (fun _ _ _ h => h) (Or.inl ⟨by rfl, ?_⟩) (by assumption) ?_
                  rotate_left
                  · (intro w hSw; (try dsimp only at hSw); go_simp)
                    first | done | with_reducible rfl
                  simp only [Act.put, List.getElem_toArray, List.getElem_cons_zero, List.getElem_cons_succ, List.setIfInBounds_toArray, List.set_cons_zero, List.set_cons_succ]
                  refine wpAnyH_take (i := 14) (v := ?_) rfl (by kernel_rfl) (by kernel_rfl) (by kernel_rfl) (fun _ _ _ h => h) (Or.inl ⟨by rfl, ?_⟩) (by assumption) ?_
                  rotate_left
                  · (intro w hSw; (try dsimp only at hSw); go_simp)
                    first | done | with_reducible rfl
                  simp only [Act.put, List.getElem_toArray, List.getElem_cons_zero, List.getElem_cons_succ, List.setIfInBounds_toArray, List.set_cons_zero, List.set_cons_succ]
                  refine wpAnyH_take (i := 15) (v := ?_) rfl (by kernel_rfl) (by kernel_rfl) (by kernel_rfl) (fun _ _ _ h => h) (Or.inl ⟨by rfl, ?_⟩) (by assumption) ?_
                  rotate_left
                  · (intro w hSw; (try dsimp only at hSw); go_simp)
                    first | done | with_reducible rfl
                  simp only [Act.put, List.getElem_toArray, List.getElem_cons_zero, List.getElem_cons_succ, List.setIfInBounds_toArray, List.set_cons_zero, List.set_cons_succ]
                  try simp only [kN]
                  try simp only [kI]
                  refine wpAnyH_take (i := 16) (v := ?_) rfl (by kernel_rfl) (by kernel_rfl) (by kernel_rfl) (fun _ _ _ h => h) (Or.inl ⟨by rfl, ?_⟩) (by assumption) ?_
                  rotate_left
                  · (intro w hSw; (try dsimp only at hSw); go_simp)
                    first | done | with_reducible rfl
                  simp only [Act.put, List.getElem_toArray, List.getElem_cons_zero, List.getElem_cons_succ, List.setIfInBounds_toArray, List.set_cons_zero, List.set_cons_succ]
                  refine wpAnyH_take (i := 17) rfl (by kernel_rfl) (by kernel_rfl) (by kernel_rfl) (fun _ _ _ h => h) (Or.inr ⟨by rfl, rfl⟩) (by assumption) ?_
                  simp only [Act.put, List.getElem_toArray, List.getElem_cons_zero, List.getElem_cons_succ, List.setIfInBounds_toArray, List.set_cons_zero, List.set_cons_succ]
                  refine wpAnyH_take (i := 18) rfl (by kernel_rfl) (by kernel_rfl) (by kernel_rfl) (fun _ _ _ h => h) (Or.inr ⟨by rfl, rfl⟩) (by assumption) ?_
                  simp only [Act.put, List.getElem_toArray, List.getElem_cons_zero, List.getElem_cons_succ, List.setIfInBounds_toArray, List.set_cons_zero, List.set_cons_succ]
                  refine wpAnyH_take (i := 19) rfl (by kernel_rfl) (by kernel_rfl) (by kernel_rfl) (fun _ _ _ h => h) (Or.inr ⟨by rfl, rfl⟩) (by assumption) ?_
                  simp only [Act.put, List.getElem_toArray, List.getElem_cons_zero, List.getElem_cons_succ, List.setIfInBounds_toArray, List.set_cons_zero, List.set_cons_succ]
                  refine wpAnyH_take (i := 20) rfl (by kernel_rfl) (by kernel_rfl) (by kernel_rfl) (fun _ _ _ h => h) (Or.inr ⟨by rfl, rfl⟩) (by assumption) ?_
                  simp only [Act.put, List.getElem_toArray, List.getElem_cons_zero, List.getElem_cons_succ, List.setIfInBounds_toArray, List.set_cons_zero, List.set_cons_succ]
                  refine wpAnyH_take (i := 21) rfl (by kernel_rfl) (by kernel_rfl) (by kernel_rfl) (fun _ _ _ h => h) (Or.inr ⟨by rfl, rfl⟩) (by assumption) ?_
                  simp only [Act.put, List.getElem_toArray, List.getElem_cons_zero, List.getElem_cons_succ, List.setIfInBounds_toArray, List.set_cons_zero, List.set_cons_succ]
                  refine wpAnyH_take (i := 22) rfl (by kernel_rfl) (by kernel_rfl) (by kernel_rfl) (fun _ _ _ h => h) (Or.inr ⟨by rfl, rfl⟩) (by assumption) ?_
                  simp only [Act.put, List.getElem_toArray, List.getElem_cons_zero, List.getElem_cons_succ, List.setIfInBounds_toArray, List.set_cons_zero, List.set_cons_succ]
                  refine wpAnyH_take (i := 23) rfl (by kernel_rfl) (by kernel_rfl) (by kernel_rfl) (fun _ _ _ h => h) (Or.inr ⟨by rfl, rfl⟩) (by assumption) ?_
                  simp only [Act.put, List.getElem_toArray, List.getElem_cons_zero, List.getElem_cons_succ, List.setIfInBounds_toArray, List.set_cons_zero, List.set_cons_succ]
                  refine wpAnyH_take (i := 24) rfl (by kernel_rfl) (by kernel_rfl) (by kernel_rfl) (fun _ _ _ h => h) (Or.inr ⟨by rfl, rfl⟩) (by assumption) ?_
                  simp only [Act.put, List.getElem_toArray, List.getElem_cons_zero, List.getElem_cons_succ, List.setIfInBounds_toArray, List.set_cons_zero, List.set_cons_succ]
                  refine wpAnyH_take (i := 25) rfl (by kernel_rfl) (by kernel_rfl) (by kernel_rfl) (fun _ _ _ h => h) (Or.inr ⟨by rfl, rfl⟩) (by assumption) ?_
                  simp only [Act.put, List.getElem_toArray, List.getElem_cons_zero, List.getElem_cons_succ, List.setIfInBounds_toArray, List.set_cons_zero, List.set_cons_succ]
                  refine wpAnyH_take (i := 26) rfl (by kernel_rfl) (by kernel_rfl) (by kernel_rfl) (fun _ _ _ h => h) (Or.inr ⟨by rfl, rfl⟩) (by assumption) ?_
                  simp only [Act.put, List.getElem_toArray, List.getElem_cons_zero, List.getElem_cons_succ, List.setIfInBounds_toArray, List.set_cons_zero, List.set_cons_succ]
                  refine wpAnyH_take (i := 27) (v := ?_) rfl (by kernel_rfl) (by kernel_rfl) (by kernel_rfl) (fun _ _ _ h => h) (Or.inl ⟨by rfl, ?_⟩) (by assumption) ?_
                  rotate_left
                  · (intro w hSw; (try dsimp only at hSw); go_simp)
                    first | done | with_reducible rfl
                  simp only [Act.put, List.getElem_toArray, List.getElem_cons_zero, List.getElem_cons_succ, List.setIfInBounds_toArray, List.set_cons_zero, List.set_cons_succ]
                  refine wpAnyH_take (i := 28) (v := ?_) rfl (by kernel_rfl) (by kernel_rfl) (by kernel_rfl) (fun _ _ _ h => h) (Or.inl ⟨by rfl, ?_⟩) (by assumption) ?_
                  rotate_left
                  · (intro w hSw; (try dsimp only at hSw); go_simp)
                    first | done | with_reducible rfl
                  simp only [Act.put, List.getElem_toArray, List.getElem_cons_zero, List.getElem_cons_succ, List.setIfInBounds_toArray, List.set_cons_zero, List.set_cons_succ]
                  refine wpAnyH_done (by kernel_rfl) ?_ _
                  have HU9 := Lib.hid (HU.out.drew.trans hu1)
                  clear HU hHeld x0 q0
                  go_wp2_with fail
                  go_roundw
                  case rel => exact ⟨k + 1, by omega, by omega, by go_num, HA3, HU9.out⟩
                  case measure => simp [intOf]; omega
          · obtain rfl : k = labs.length := by omega
            have HRR := Lib.hid (show labsOk labs = true by rw [HLO2.out, ← HA.out]; exact allF_end _ _)
            have HU := Lib.hid hU
            clear hlt hk HA hU HLO2 p0 HR1
            go_wp2_with fail
            go_ret
            exact ⟨by rw [HRR.out]; rfl, HU.out⟩
      · have HRR := Lib.hid (show labsOk labs = false by
          have := HA0.out
          rw [HLP0.out, show (s0 == tauL) = false by simpa using ht0] at this
          rw [Nat.sub_zero] at this
          rw [HLO2.out, this]; simp)
        have g1 : (s0 == [116, 97, 117]) = false := by simpa [tauL] using ht0
        have g1n : (s0 != [116, 97, 117]) = true := by simp [bne, g1]
        clear HA0 HLP0 ht0 HLO2 HR1 HP
        go_enter Tryz.func54, Tryz.ntmps54
        go_wp2_with fail
        go_ret
        exact ⟨by rw [HRR.out]; rfl, Upd.refl _ _⟩

end Go.Proofs.YtcnaapiljmgfoaaGreatDoor
