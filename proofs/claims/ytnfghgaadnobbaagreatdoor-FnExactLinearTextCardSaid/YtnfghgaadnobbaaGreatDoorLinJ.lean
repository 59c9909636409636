/-
  The program's check of a summand and of a linear process: what the calls return.
-/
import Derived.Test.YtnfghgaadnobbaaGreatDoorLinI
namespace Go.Proofs.YtnfghgaadnobbaaGreatDoor
open Go.RowKit

theorem enter_valid1 (args : Array Value) (w : World) : Sem.run Tryz.prog (callFunc 66 args) w = .ok (.enter 66 args) w := by go_simp
theorem enter_validL1 (args : Array Value) (w : World) : Sem.run Tryz.prog (callFunc 37 args) w = .ok (.enter 37 args) w := by go_simp
theorem smOk_any (p : Int) (x : Sm) : smOk p x = (sumsP x.sums && decide ((x.next.length : Int) = p) && (!(decide (0 < x.args.length) && (x.name == tauL || decide (2 < x.args.length))) && (x.name == tauL || actF x.name)) && !((x.guard :: (x.args ++ x.next)).any fun e => !isE e (p + x.sums.length) 60)) := by
  have : (x.guard :: (x.args ++ x.next)).all (fun e => isE e (p + x.sums.length) 60) = !((x.guard :: (x.args ++ x.next)).any fun e => !isE e (p + x.sums.length) 60) := by
    rw [List.all_eq_not_any_not]
  unfold smOk namesP expsP
  rw [this]

set_option maxRecDepth 20000 in
set_option maxHeartbeats 4000000 in
theorem smValidI (cs : List Value) (x : Sm) (p : Int) (w : World) (fp : List Nat) (hp0 : 0 ≤ p) (hp1 : p ≤ 21) (hR : R_Sm fp w cs x) (hn : x.name.length ≤ 2000000) (hb : x.args.length + x.next.length ≤ 1900000) :
    Calls Tryz.prog 38 #[.agg cs.toArray, .int .i64 p] w fun e w' => e = .returned (.bool (smOk p x)) ∧ Upd [] w w' := by
  have hR' := hR
  obtain ⟨v0, v1, v3, v4, f0, f1, f3, f4, rfl, h0, h1, h3, h4, rfl⟩ := hR
  have HM := Lib.hid (smOk_any p x)
  have HS8 := Lib.hid (show sumsP x.sums = true → x.sums.length ≤ 8 from fun h => by
    unfold sumsP at h
    simp only [Bool.and_eq_true, decide_eq_true_eq] at h
    exact h.1.2)
  obtain ⟨wA, hwA⟩ : ∃ wA, wA = (w.alloc (.cells #[v0, v1, es x.name, v3, v4] 48)).alloc (.cells #[ei p] 2) := ⟨_, rfl⟩
  obtain ⟨BA, hBA⟩ : ∃ BA, BA = w.heap.size := ⟨_, rfl⟩
  have uA : Upd [] w wA := by rw [hwA]; exact ((Upd.refl _ _).alloc _).alloc _
  have HC := Lib.hid (fun W (hu : Upd [] wA W) => show (W.cell? ⟨BA, 0, none⟩ = some v0 ∧ W.cell? ⟨BA, 1, none⟩ = some v1 ∧ W.cell? ⟨BA, 2, none⟩ = some (es x.name) ∧ W.cell? ⟨BA, 3, none⟩ = some v3 ∧ W.cell? ⟨BA, 4, none⟩ = some v4) ∧ W.cell? ⟨BA + 1, 0, none⟩ = some (ei p) from by
    have s1 : (w.alloc (.cells #[v0, v1, es x.name, v3, v4] 48)).heap.size = BA + 1 := by rw [hBA]; simp
    have hk : ∀ (j : Nat) c, (#[v0, v1, es x.name, v3, v4] : Array Value)[j]? = some c → wA.cell? ⟨BA, j, none⟩ = some c := fun j c hc => by
      rw [hwA, hBA]; exact ((Upd.refl [] _).alloc _).keep (cell_new w _ _ _ rfl j _ hc)
    exact ⟨⟨hu.keep (hk 0 _ rfl), hu.keep (hk 1 _ rfl), hu.keep (hk 2 _ rfl), hu.keep (hk 3 _ rfl), hu.keep (hk 4 _ rfl)⟩, hu.keep (by rw [hwA]; exact cell_new _ _ _ _ s1 0 _ rfl)⟩)
  have S0 := Lib.hid (sumsOkI _ x wA _ (R_Smk.upd hR' uA (by simp)))
  have HA := Lib.hid (fun W => isActionI x.name W hn)
  have SX := Lib.hid (fun W (hu : Upd [] w W) => expressionsI _ x W _ (R_Smk.upd hR' hu (by simp)) hb)
  have SV := Lib.hid (fun (h8 : x.sums.length ≤ 8) W (hu : Upd [] wA W) (c3 : W.cell? ⟨BA + 1, 0, none⟩ = some (ei p)) (c2 : W.cell? ⟨BA, 0, none⟩ = some v0) (v' : Value) f' (hr : R_T2 f' W [v'] (x.guard :: (x.args ++ x.next))) =>
    containsFuncE (fun e => !isE e (p + x.sums.length) 60) 66 #[.pointer (some ⟨BA + 1, 0, none⟩), .pointer (some ⟨BA, 0, none⟩)] v' _ W f' hr enter_valid1 (fun wr u f y hu2 hy => valid1I u y p x.sums v0 (BA + 1) BA wr f f0 hp0 hp1 h8 hy (hu2.keep c3) (hu2.keep c2) (R_I1k.upd h0 ((uA.trans hu).trans hu2) (by simp))))
  have UA := Lib.hid uA
  obtain ⟨a0, q0, hv0, l0, m0, -⟩ := slF1_open h0
  obtain ⟨a3, q3, hv3, l3, m3, -⟩ := slP_open h3
  obtain ⟨a4, q4, hv4, l4, m4, -⟩ := slP_open h4
  unfold maxLen at m0 m3 m4
  subst hv0 hv3 hv4
  clear h0 h1 h3 h4 hR' uA
  obtain ⟨sums, guard, name, args, next⟩ := x
  simp only at *
  generalize smOk p ⟨sums, guard, name, args, next⟩ = Z at *
  generalize hany : ((guard :: (args ++ next)).any fun e => !isE e (p + sums.length) 60) = ga at *
  clear hany
  obtain ⟨⟨c0, c1, c2, c3, c4⟩, c5⟩ := HC.out wA (Upd.refl _ _)
  cases hs : sumsP sums with
  | false =>
    have HZ := Lib.hid (show Z = false by rw [HM.out, hs]; rfl)
    rw [hs] at S0
    clear HM HS8 hs HA SX SV
    go_enter Tryz.func38, Tryz.ntmps38
    go_upto_region 1 with (fail)
    rw [← hwA, ← hBA]
    clear hwA hBA
    go_wp2_with fail
    refine S0.out.mono ?_
    rintro e w1 ⟨rfl, hu⟩
    have HU := Lib.hid (UA.out.trans hu)
    clear hu
    go_wp2_with fail
    go_ret
    exact ⟨by rw [HZ.out]; rfl, HU.out⟩
  | true =>
    have h8 := HS8.out hs
    rw [hs] at S0
    have hm2 := HM.out
    rw [hs, Bool.true_and] at hm2
    have HM := Lib.hid hm2
    have SV := Lib.hid (SV.out h8)
    clear hs hm2 HS8
    generalize args.length = n at *
    generalize next.length = m at *
    by_cases hnx : (m : Int) = p
    · have hm2 := HM.out
      rw [decide_eq_true hnx, Bool.true_and] at hm2
      have HM := Lib.hid hm2
      have hnb : ((m : Int) != p) = false := by simpa using hnx
      clear hm2 hnx
      by_cases htau : name = tauL
      · have HM := Lib.hid (show Z = (!decide (0 < n) && !ga) by rw [HM.out, htau]; simp)
        have htb : (name == [116, 97, 117]) = true := by simpa [tauL] using htau
        have htn : (name != [116, 97, 117]) = false := by simp [bne, htb]
        clear htau HA
        by_cases ha : 0 < n
        · have HZ := Lib.hid (show Z = false by rw [HM.out, decide_eq_true ha]; rfl)
          have ha' : (0 : Int) < (n : Int) := by omega
          have hab : decide (0 < n) = true := decide_eq_true ha
          clear HM SX SV
          go_enter Tryz.func38, Tryz.ntmps38
          go_upto_region 1 with (fail)
          rw [← hwA, ← hBA]
          clear hwA hBA
          go_wp2_with fail
          refine S0.out.mono ?_
          rintro e w1 ⟨rfl, hu⟩
          obtain ⟨⟨c0, c1, c2, c3, c4⟩, c5⟩ := HC.out w1 hu
          have HU := Lib.hid (UA.out.trans hu)
          clear hu
          go_wp2_with fail
          go_ret
          exact ⟨by rw [HZ.out]; rfl, HU.out⟩
        · obtain rfl : n = 0 := by omega
          have HM := Lib.hid (show Z = !ga by rw [HM.out]; rfl)
          clear ha
          go_enter Tryz.func38, Tryz.ntmps38
          go_upto_region 1 with (fail)
          rw [← hwA, ← hBA]
          clear hwA hBA
          go_wp2_with fail
          refine S0.out.mono ?_
          rintro e w1 ⟨rfl, hu⟩
          obtain ⟨⟨c0, c1, c2, c3, c4⟩, c5⟩ := HC.out w1 hu
          have TX := Lib.hid (SX.out w1 (UA.out.trans hu))
          have H1 := Lib.hid hu
          clear hu SX
          go_wp2_with fail
          refine TX.out.mono ?_
          rintro e w2 ⟨⟨v', f', rfl, hr⟩, hu2⟩
          have hu3 := H1.out.trans hu2
          obtain ⟨⟨c0, c1, c2, c3, c4⟩, c5⟩ := HC.out w2 hu3
          have TV := Lib.hid (SV.out w2 hu3 c5 c0 v' f' hr)
          have H2 := Lib.hid (UA.out.trans hu3)
          obtain ⟨L9, a9, q9, rfl⟩ : ∃ L a q, v' = Value.slice a L q := by obtain ⟨a, q, h, -⟩ := slP_open hr; exact ⟨_, a, q, h⟩
          clear hu2 hu3 hr TX SV H1
          have hent := enter_valid1
          go_wp2_with fail
          refine TV.out.mono ?_
          rintro e w3 ⟨rfl, hu4⟩
          have H3 := Lib.hid (H2.out.trans hu4)
          clear hu4 TV
          go_wp2_with fail
          go_ret
          exact ⟨by rw [HM.out]; rfl, H3.out⟩
      · have HM := Lib.hid (show Z = (!decide (2 < n) && actF name && !ga) by
          rw [HM.out, show (name == tauL) = false by simpa using htau]
          by_cases h2 : 2 < n
          · rw [decide_eq_true h2, decide_eq_true (show 0 < n by omega)]; simp
          · rw [decide_eq_false h2]; simp)
        have htb : (name == [116, 97, 117]) = false := by simpa [tauL] using htau
        have htn : (name != [116, 97, 117]) = true := by simp [bne, htb]
        clear htau
        by_cases h2 : 2 < n
        · have HZ := Lib.hid (show Z = false by rw [HM.out, decide_eq_true h2]; rfl)
          have ha1 : (0 : Int) < (n : Int) := by omega
          have ha2 : (2 : Int) < (n : Int) := by omega
          have hb1 : decide (0 < n) = true := decide_eq_true (by omega)
          have hb2 : decide (2 < n) = true := decide_eq_true h2
          clear HM SX SV HA
          go_enter Tryz.func38, Tryz.ntmps38
          go_upto_region 1 with (fail)
          rw [← hwA, ← hBA]
          clear hwA hBA
          go_wp2_with fail
          refine S0.out.mono ?_
          rintro e w1 ⟨rfl, hu⟩
          obtain ⟨⟨c0, c1, c2, c3, c4⟩, c5⟩ := HC.out w1 hu
          have HU := Lib.hid (UA.out.trans hu)
          clear hu
          go_wp2_with fail
          go_ret
          exact ⟨by rw [HZ.out]; rfl, HU.out⟩
        · have HM := Lib.hid (show Z = (actF name && !ga) by rw [HM.out, decide_eq_false h2]; rfl)
          have ha2 : ¬ (2 : Int) < (n : Int) := by omega
          have hb2 : decide (2 < n) = false := decide_eq_false h2
          generalize actF name = q at *
          cases q with
          | false =>
            have HZ := Lib.hid (show Z = false by rw [HM.out]; rfl)
            clear HM SX SV
            rcases Nat.eq_zero_or_pos n with rfl | hpos
            · skip
              go_enter Tryz.func38, Tryz.ntmps38
              go_upto_region 1 with (fail)
              rw [← hwA, ← hBA]
              clear hwA hBA
              go_wp2_with fail
              refine S0.out.mono ?_
              rintro e w1 ⟨rfl, hu⟩
              obtain ⟨⟨c0, c1, c2, c3, c4⟩, c5⟩ := HC.out w1 hu
              have HU := Lib.hid (UA.out.trans hu)
              clear hu
              go_wp2_with fail
              refine (HA.out _).mono ?_
              rintro e w2 ⟨rfl, rfl⟩
              go_wp2_with fail
              go_ret
              exact ⟨by rw [HZ.out]; rfl, HU.out⟩
            · have hpi : (0 : Int) < (n : Int) := by omega
              have hpb : decide (0 < n) = true := decide_eq_true hpos
              go_enter Tryz.func38, Tryz.ntmps38
              go_upto_region 1 with (fail)
              rw [← hwA, ← hBA]
              clear hwA hBA
              go_wp2_with fail
              refine S0.out.mono ?_
              rintro e w1 ⟨rfl, hu⟩
              obtain ⟨⟨c0, c1, c2, c3, c4⟩, c5⟩ := HC.out w1 hu
              have HU := Lib.hid (UA.out.trans hu)
              clear hu
              go_wp2_with fail
              refine (HA.out _).mono ?_
              rintro e w2 ⟨rfl, rfl⟩
              go_wp2_with fail
              go_ret
              exact ⟨by rw [HZ.out]; rfl, HU.out⟩
          | true =>
            have HM := Lib.hid (show Z = !ga by rw [HM.out]; rfl)
            have hent := enter_valid1
            rcases Nat.eq_zero_or_pos n with rfl | hpos
            · skip
              go_enter Tryz.func38, Tryz.ntmps38
              go_upto_region 1 with (fail)
              rw [← hwA, ← hBA]
              clear hwA hBA
              go_wp2_with fail
              refine S0.out.mono ?_
              rintro e w1 ⟨rfl, hu⟩
              obtain ⟨⟨c0, c1, c2, c3, c4⟩, c5⟩ := HC.out w1 hu
              have TX := Lib.hid (SX.out w1 (UA.out.trans hu))
              have H1 := Lib.hid hu
              clear hu SX
              go_wp2_with fail
              refine (HA.out _).mono ?_
              rintro e w8 ⟨rfl, rfl⟩
              go_wp2_with fail
              refine TX.out.mono ?_
              rintro e w2 ⟨⟨v', f', rfl, hr⟩, hu2⟩
              have hu3 := H1.out.trans hu2
              obtain ⟨⟨c0, c1, c2, c3, c4⟩, c5⟩ := HC.out w2 hu3
              have TV := Lib.hid (SV.out w2 hu3 c5 c0 v' f' hr)
              have H2 := Lib.hid (UA.out.trans hu3)
              obtain ⟨L9, a9, q9, rfl⟩ : ∃ L a q, v' = Value.slice a L q := by obtain ⟨a, q, h, -⟩ := slP_open hr; exact ⟨_, a, q, h⟩
              clear hu2 hu3 hr TX SV H1
              go_wp2_with fail
              refine TV.out.mono ?_
              rintro e w3 ⟨rfl, hu4⟩
              have H3 := Lib.hid (H2.out.trans hu4)
              clear hu4 TV
              go_wp2_with fail
              go_ret
              exact ⟨by rw [HM.out]; rfl, H3.out⟩
            · have hpi : (0 : Int) < (n : Int) := by omega
              have hpb : decide (0 < n) = true := decide_eq_true hpos
              go_enter Tryz.func38, Tryz.ntmps38
              go_upto_region 1 with (fail)
              rw [← hwA, ← hBA]
              clear hwA hBA
              go_wp2_with fail
              refine S0.out.mono ?_
              rintro e w1 ⟨rfl, hu⟩
              obtain ⟨⟨c0, c1, c2, c3, c4⟩, c5⟩ := HC.out w1 hu
              have TX := Lib.hid (SX.out w1 (UA.out.trans hu))
              have H1 := Lib.hid hu
              clear hu SX
              go_wp2_with fail
              refine (HA.out _).mono ?_
              rintro e w8 ⟨rfl, rfl⟩
              go_wp2_with fail
              refine TX.out.mono ?_
              rintro e w2 ⟨⟨v', f', rfl, hr⟩, hu2⟩
              have hu3 := H1.out.trans hu2
              obtain ⟨⟨c0, c1, c2, c3, c4⟩, c5⟩ := HC.out w2 hu3
              have TV := Lib.hid (SV.out w2 hu3 c5 c0 v' f' hr)
              have H2 := Lib.hid (UA.out.trans hu3)
              obtain ⟨L9, a9, q9, rfl⟩ : ∃ L a q, v' = Value.slice a L q := by obtain ⟨a, q, h, -⟩ := slP_open hr; exact ⟨_, a, q, h⟩
              clear hu2 hu3 hr TX SV H1
              go_wp2_with fail
              refine TV.out.mono ?_
              rintro e w3 ⟨rfl, hu4⟩
              have H3 := Lib.hid (H2.out.trans hu4)
              clear hu4 TV
              go_wp2_with fail
              go_ret
              exact ⟨by rw [HM.out]; rfl, H3.out⟩
    · have HZ := Lib.hid (show Z = false by rw [HM.out, decide_eq_false hnx]; simp)
      have hnb : ((m : Int) != p) = true := by simpa using hnx
      clear HM SX SV HA hnx
      go_enter Tryz.func38, Tryz.ntmps38
      go_upto_region 1 with (fail)
      rw [← hwA, ← hBA]
      clear hwA hBA
      go_wp2_with fail
      refine S0.out.mono ?_
      rintro e w1 ⟨rfl, hu⟩
      obtain ⟨⟨c0, c1, c2, c3, c4⟩, c5⟩ := HC.out w1 hu
      have HU := Lib.hid (UA.out.trans hu)
      clear hu
      go_wp2_with fail
      go_ret
      exact ⟨by rw [HZ.out]; rfl, HU.out⟩

end Go.Proofs.YtnfghgaadnobbaaGreatDoor
