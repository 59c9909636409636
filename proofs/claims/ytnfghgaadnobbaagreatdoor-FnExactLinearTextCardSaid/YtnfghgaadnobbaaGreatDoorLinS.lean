/-
  The reference's check of a linear process: what the calls return.
-/
import Derived.Test.YtnfghgaadnobbaaGreatDoorLinV
import Derived.Test.YtnfghgaadnobbaaGreatDoorLabSp
import Derived.Test.YtnfghgaadnobbaaGreatDoorOpenLn
namespace Go.Proofs.YtnfghgaadnobbaaGreatDoor
open Go.RowKit

set_option maxRecDepth 20000 in
set_option maxHeartbeats 800000 in
theorem eachES (v : Value) (xs : List (List Tm)) (nv : Int) (w : World) (fp : List Nat) (h0 : 0 ≤ nv) (h1 : nv ≤ 29) (hR : R_T2 fp w [v] xs) :
    Calls Tryz.prog 55 #[v, .int .i64 nv] w fun e w' => e = .returned (.bool (xs.all fun e => isE e nv 60)) ∧ w = w' := by
  obtain ⟨a, cap, rfl, g1, g2, hc⟩ := slP_open hR
  unfold maxLen at g2
  have HC := Lib.hid hc
  clear hR hc
  go_enter Tryz.func55, Tryz.ntmps55
  go_wp2_with fail
  go_loop [5] (fun i => ∃ k : Nat, k ≤ xs.length ∧ i = .int .i64 k ∧ Hid (((xs.drop k).all fun e => isE e nv 60) = xs.all fun e => isE e nv 60)) (fun i => xs.length - (intOf i).toNat)
  case atStart => exact ⟨0, Nat.zero_le _, rfl, Lib.hid rfl⟩
  case round =>
    obtain ⟨k, hk, rfl, HF⟩ := hrel
    by_cases hlt : k < xs.length
    · obtain ⟨b, off, u, f, rfl, -, -, p0, -, hr⟩ := HC.out k hlt
      have hf := HF.out
      rw [List.drop_eq_getElem_cons hlt, List.all_cons] at hf
      have HD := Lib.hid hf
      have hkl : (k : Int) < (xs.length : Int) := by omega
      have S1 := Lib.hid (l03Is u xs[k] nv 60 w f h0 h1 (by omega) hr)
      clear hf hr
      generalize isE xs[k] nv 60 = q at *
      cases q with
      | false =>
        have HZ := Lib.hid (show (xs.all fun e => isE e nv 60) = false by rw [← HD.out]; rfl)
        clear HD HF
        go_wp2_with fail
        refine S1.out.mono ?_
        rintro e w1 ⟨rfl, rfl⟩
        go_wp2_with fail
        go_ret
        exact ⟨by rw [HZ.out]; rfl, rfl⟩
      | true =>
        go_wp2_with fail
        refine S1.out.mono ?_
        rintro e w1 ⟨rfl, rfl⟩
        go_wp2_with fail
        go_round
        case rel => exact ⟨k + 1, by omega, by go_num, Lib.hid (by rw [← HD.out]; rfl)⟩
        case measure => simp [intOf]; omega
    · have hf := HF.out
      rw [List.drop_of_length_le (by omega)] at hf
      have HZ := Lib.hid (show (xs.all fun e => isE e nv 60) = true by rw [← hf]; rfl)
      clear hf HF
      go_wp2_with fail
      go_ret
      exact ⟨by rw [HZ.out]; rfl, rfl⟩

set_option maxRecDepth 20000 in
set_option maxHeartbeats 4000000 in
theorem smOkS (b o : Nat) (u : List Value) (x : Sm) (p : Int) (w : World) (f : List Nat) (hp0 : 0 ≤ p) (hp1 : p ≤ 21) (hcell : ∀ (j : Nat) c, u[j]? = some c → w.cell? ⟨b, o + j, none⟩ = some c) (hR : R_Sm f w u x) (hn : x.name.length ≤ 2000000) :
    Calls Tryz.prog 28 #[.pointer (some ⟨b, o, none⟩), .int .i64 p] w fun e w' => e = .returned (.bool (smOk p x)) ∧ w = w' := by
  obtain ⟨v0, v1, v3, v4, f0, f1, f3, f4, rfl, h0, h1, h3, h4, rfl⟩ := hR
  have p0 := hcell 0 _ rfl
  have p1 := hcell 1 _ rfl
  have p2 := hcell 2 _ rfl
  have p3 := hcell 3 _ rfl
  have p4 := hcell 4 _ rfl
  simp only [Nat.add_zero] at p0
  have HM := Lib.hid (show smOk p x = (sumsP x.sums && decide ((x.next.length : Int) = p) && (!(decide (0 < x.args.length) && (x.name == tauL || decide (2 < x.args.length))) && (x.name == tauL || actF x.name)) && (isE x.guard (p + x.sums.length) 60 && ((x.args.all fun e => isE e (p + x.sums.length) 60) && (x.next.all fun e => isE e (p + x.sums.length) 60)))) by
    unfold smOk namesP expsP; rw [List.all_cons, List.all_append])
  have S0 := Lib.hid (triesS v0 x.sums w f0 h0)
  have HT := Lib.hid (show triesP x.sums = if sumsP x.sums then prodP x.sums else 0 from rfl)
  have HS8 := Lib.hid (show sumsP x.sums = true → x.sums.length ≤ 8 ∧ 1 ≤ prodP x.sums from fun h => by
    unfold sumsP at h
    simp only [Bool.and_eq_true, decide_eq_true_eq] at h
    exact ⟨h.1.2, (prodP_bd _ h.1.1).1⟩)
  have HA := Lib.hid (actionS x.name w hn)
  have G1 := Lib.hid (fun nv (q0 : 0 ≤ nv) (q1 : nv ≤ 29) => l03Is v1 x.guard nv 60 w f1 q0 q1 (by omega) h1)
  have G3 := Lib.hid (fun nv (q0 : 0 ≤ nv) (q1 : nv ≤ 29) => eachES v3 x.args nv w f3 q0 q1 h3)
  have G4 := Lib.hid (fun nv (q0 : 0 ≤ nv) (q1 : nv ≤ 29) => eachES v4 x.next nv w f4 q0 q1 h4)
  obtain ⟨a0, c0, rfl, l0, m0, -⟩ := slF1_open h0
  obtain ⟨a3, c3, rfl, l3, m3, -⟩ := slP_open h3
  obtain ⟨a4, c4, rfl, l4, m4, -⟩ := slP_open h4
  unfold maxLen at m0 m3 m4
  clear h0 h1 h3 h4 hcell
  obtain ⟨sums, guard, name, args, next⟩ := x
  simp only at *
  generalize smOk p ⟨sums, guard, name, args, next⟩ = Z at *
  cases hs : sumsP sums with
  | false =>
    have HZ := Lib.hid (show Z = false by rw [HM.out, hs]; rfl)
    have ht := HT.out
    rw [hs] at ht
    rw [show triesP sums = 0 from ht] at S0
    clear HM HT HS8 hs ht G1 G3 G4 HA
    go_enter Tryz.func28, Tryz.ntmps28
    go_wp2_with fail
    refine S0.out.mono ?_
    rintro e w1 ⟨rfl, rfl⟩
    go_wp2_with fail
    go_ret
    exact ⟨by rw [HZ.out]; rfl, rfl⟩
  | true =>
    obtain ⟨h8, hpr⟩ := HS8.out hs
    have ht := HT.out
    rw [hs, if_pos rfl] at ht
    rw [ht] at S0
    have hm2 := HM.out
    rw [hs, Bool.true_and] at hm2
    have HM := Lib.hid hm2
    obtain ⟨nv, hnv⟩ : ∃ nv : Int, nv = p + sums.length := ⟨_, rfl⟩
    rw [← hnv] at HM
    have hnv0 : 0 ≤ nv := by omega
    have hnv1 : nv ≤ 29 := by omega
    have hnv2 : p + (sums.length : Int) = nv := hnv.symm
    have T1 := Lib.hid (G1.out nv hnv0 hnv1)
    have T3 := Lib.hid (G3.out nv hnv0 hnv1)
    have T4 := Lib.hid (G4.out nv hnv0 hnv1)
    have hprb : (prodP sums == 0) = false := by simp; omega
    clear HT HS8 hs ht G1 G3 G4 hm2 hnv
    generalize prodP sums = PP at *
    generalize isE guard nv 60 = g at *
    generalize (args.all fun e => isE e nv 60) = ga at *
    generalize (next.all fun e => isE e nv 60) = gn at *
    have HM := Lib.hid HM.out
    generalize args.length = n at *
    generalize next.length = m at *
    cases g with
    | false =>
      have HZ := Lib.hid (show Z = false by rw [HM.out]; simp)
      clear HM T3 T4 HA
      go_enter Tryz.func28, Tryz.ntmps28
      go_wp2_with fail
      refine S0.out.mono ?_
      rintro e w1 ⟨rfl, rfl⟩
      go_wp2_with fail
      refine T1.out.mono ?_
      rintro e w1 ⟨rfl, rfl⟩
      go_wp2_with fail
      go_ret
      exact ⟨by rw [HZ.out]; rfl, rfl⟩
    | true =>
      by_cases hnx : (m : Int) = p
      · have hm2 := HM.out
        rw [decide_eq_true hnx, Bool.true_and, Bool.true_and] at hm2
        have HM := Lib.hid hm2
        have hnb : ((m : Int) != p) = false := by simpa using hnx
        clear hm2 hnx
        by_cases htau : name = tauL
        · have HM := Lib.hid (show Z = (!decide (0 < n) && (ga && gn)) by
            rw [HM.out, htau]; simp)
          have htb : (name == [116, 97, 117]) = true := by simpa [tauL] using htau
          have htn : (name != [116, 97, 117]) = false := by simp [bne, htb]
          clear htau
          by_cases ha : 0 < n
          · have HZ := Lib.hid (show Z = false by rw [HM.out, decide_eq_true ha]; rfl)
            have ha' : (0 : Int) < (n : Int) := by omega
            have hab : decide (0 < n) = true := decide_eq_true ha
            clear HM T3 T4 HA
            go_enter Tryz.func28, Tryz.ntmps28
            go_wp2_with fail
            refine S0.out.mono ?_
            rintro e w1 ⟨rfl, rfl⟩
            go_wp2_with fail
            refine T1.out.mono ?_
            rintro e w1 ⟨rfl, rfl⟩
            go_wp2_with fail
            go_ret
            exact ⟨by rw [HZ.out]; rfl, rfl⟩
          · have HM := Lib.hid (show Z = (ga && gn) by rw [HM.out, decide_eq_false ha]; rfl)
            obtain rfl : n = 0 := by omega
            clear HA ha
            go_enter Tryz.func28, Tryz.ntmps28
            go_wp2_with fail
            refine S0.out.mono ?_
            rintro e w1 ⟨rfl, rfl⟩
            go_wp2_with fail
            refine T1.out.mono ?_
            rintro e w1 ⟨rfl, rfl⟩
            go_wp2_with fail
            refine T3.out.mono ?_
            rintro e w1 ⟨rfl, rfl⟩
            cases ga with
            | false =>
              go_wp2_with fail
              go_ret
              exact ⟨by rw [HM.out]; rfl, rfl⟩
            | true =>
              go_wp2_with fail
              refine T4.out.mono ?_
              rintro e w1 ⟨rfl, rfl⟩
              go_wp2_with fail
              go_ret
              exact ⟨by rw [HM.out]; rfl, rfl⟩
        · have HM := Lib.hid (show Z = (!decide (2 < n) && actF name && (ga && gn)) by
            rw [HM.out, show (name == tauL) = false by simpa using htau]
            by_cases h2 : 2 < n
            · rw [decide_eq_true h2, decide_eq_true (show 0 < n by omega)]; simp
            · rw [decide_eq_false h2]; simp)
          have htb : (name == [116, 97, 117]) = false := by simpa [tauL] using htau
          have htn : (name != [116, 97, 117]) = true := by simp [bne, htb]
          clear htau
          generalize actF name = q at *
          cases q with
          | false =>
            have HZ := Lib.hid (show Z = false by rw [HM.out]; simp)
            clear HM T3 T4
            go_enter Tryz.func28, Tryz.ntmps28
            go_wp2_with fail
            refine S0.out.mono ?_
            rintro e w1 ⟨rfl, rfl⟩
            go_wp2_with fail
            refine T1.out.mono ?_
            rintro e w1 ⟨rfl, rfl⟩
            go_wp2_with fail
            refine HA.out.mono ?_
            rintro e w1 ⟨rfl, rfl⟩
            go_wp2_with fail
            go_ret
            exact ⟨by rw [HZ.out]; rfl, rfl⟩
          | true =>
            by_cases h2 : 2 < n
            · have HZ := Lib.hid (show Z = false by rw [HM.out, decide_eq_true h2]; rfl)
              have ha2 : (2 : Int) < (n : Int) := by omega
              have ha3 : decide (2 < n) = true := decide_eq_true h2
              clear HM T3 T4
              go_enter Tryz.func28, Tryz.ntmps28
              go_wp2_with fail
              refine S0.out.mono ?_
              rintro e w1 ⟨rfl, rfl⟩
              go_wp2_with fail
              refine T1.out.mono ?_
              rintro e w1 ⟨rfl, rfl⟩
              go_wp2_with fail
              refine HA.out.mono ?_
              rintro e w1 ⟨rfl, rfl⟩
              go_wp2_with fail
              go_ret
              exact ⟨by rw [HZ.out]; rfl, rfl⟩
            · have HM := Lib.hid (show Z = (ga && gn) by rw [HM.out, decide_eq_false h2]; rfl)
              have ha2 : ¬ (2 : Int) < (n : Int) := by omega
              have ha3 : decide (2 < n) = false := decide_eq_false h2
              go_enter Tryz.func28, Tryz.ntmps28
              go_wp2_with fail
              refine S0.out.mono ?_
              rintro e w1 ⟨rfl, rfl⟩
              go_wp2_with fail
              refine T1.out.mono ?_
              rintro e w1 ⟨rfl, rfl⟩
              go_wp2_with fail
              refine HA.out.mono ?_
              rintro e w1 ⟨rfl, rfl⟩
              go_wp2_with fail
              refine T3.out.mono ?_
              rintro e w1 ⟨rfl, rfl⟩
              cases ga with
              | false =>
                go_wp2_with fail
                go_ret
                exact ⟨by rw [HM.out]; rfl, rfl⟩
              | true =>
                go_wp2_with fail
                refine T4.out.mono ?_
                rintro e w1 ⟨rfl, rfl⟩
                go_wp2_with fail
                go_ret
                exact ⟨by rw [HM.out]; rfl, rfl⟩
      · have HZ := Lib.hid (show Z = false by rw [HM.out, decide_eq_false hnx]; simp)
        have hnb : ((m : Int) != p) = true := by simpa using hnx
        clear HM T3 T4 HA hnx
        go_enter Tryz.func28, Tryz.ntmps28
        go_wp2_with fail
        refine S0.out.mono ?_
        rintro e w1 ⟨rfl, rfl⟩
        go_wp2_with fail
        refine T1.out.mono ?_
        rintro e w1 ⟨rfl, rfl⟩
        go_wp2_with fail
        go_ret
        exact ⟨by rw [HZ.out]; rfl, rfl⟩

end Go.Proofs.YtnfghgaadnobbaaGreatDoor
