/-
  The program's check of a whole linear process: what the calls return.
-/
import Derived.Test.YtnfghgaadnobbaaGreatDoorLinJ
namespace Go.Proofs.YtnfghgaadnobbaaGreatDoor
open Go.RowKit

def IdxSm (P : Sm → Bool) (xs : List Sm) (w : World) (e : Ending) (w' : World) : Prop := (∃ q : Int, e = .returned (.int .i64 q) ∧ -1 ≤ q ∧ q ≤ 9223372036854775807 ∧ decide (0 ≤ q) = xs.any P) ∧ Upd [] w w'
set_option maxRecDepth 20000 in
set_option maxHeartbeats 1000000 in
theorem indexFuncSm (P : Sm → Bool) (fn : FuncId) (caps : Array Value) (v : Value) (xs : List Sm) (w : World) (fp : List Nat) (hR : R_Sm1 fp w [v] xs)
    (hent : ∀ args w, Sem.run Tryz.prog (callFunc fn args) w = .ok (.enter fn args) w)
    (hby : ∀ wr us f x, x ∈ xs → Upd [] w wr → R_Sm f wr us x → Calls Tryz.prog fn (#[.agg us.toArray] ++ caps) wr fun e w' => e = .returned (.bool (P x)) ∧ Upd [] wr w') :
    Calls Tryz.prog 61 #[v, .func (.func fn) #[] caps] w (IdxSm P xs w) := by
  obtain ⟨a1, c1, rfl, hl1, hm1, hc1⟩ := slQ_open hR
  unfold maxLen at hm1
  have HBY := Lib.hid hby
  have HC := Lib.hid hc1
  clear hR hby hc1
  go_enter Tryz.func61, Tryz.ntmps61
  go_wp2_with fail
  go_loopw [8] (fun i wr => ∃ k : Nat, k ≤ xs.length ∧ i = .int .i64 k ∧ Hid (Upd [] w wr) ∧ Hid ((xs.drop k).any P = xs.any P)) (fun i _ => xs.length - (intOf i).toNat)
  case atStart => exact ⟨0, Nat.zero_le _, rfl, Lib.hid (Upd.refl _ _), Lib.hid rfl⟩
  case round =>
    obtain ⟨k, hk, rfl, HU, HF⟩ := hrel
    by_cases hlt : k < xs.length
    · obtain ⟨b, off, u, f, rfl, -, -, -, hcell, -, hr⟩ := HC.out k hlt
      have S1 := Lib.hid (HBY.out wr u f xs[k] (List.getElem_mem hlt) HU.out (R_Smk.upd hr HU.out (by simp)))
      obtain ⟨v0, v1, v3, v4, f0, f1, f3, f4, rfl, -, -, -, -, -⟩ := hr
      have p0 := HU.out.keep (hcell 0 _ rfl)
      have p1 := HU.out.keep (hcell 1 _ rfl)
      have p2 := HU.out.keep (hcell 2 _ rfl)
      have p3 := HU.out.keep (hcell 3 _ rfl)
      have p4 := HU.out.keep (hcell 4 _ rfl)
      simp only [Nat.add_zero] at p0
      have hf := HF.out
      rw [List.drop_eq_getElem_cons hlt, List.any_cons] at hf
      have HD := Lib.hid hf
      have hkl : (k : Int) < (xs.length : Int) := by omega
      generalize P xs[k] = bb at *
      clear hf hcell
      go_wp2_with fail
      refine S1.out.mono ?_
      rintro e w1 ⟨rfl, hu1⟩
      have HU1 := Lib.hid (HU.out.trans hu1)
      clear S1 hu1
      cases bb
      · go_wp2_with fail
        go_roundw
        case rel => exact ⟨k + 1, by omega, by go_num, HU1, Lib.hid (by rw [← HD.out]; rfl)⟩
        case measure => simp [intOf]; omega
      · have HZ := Lib.hid (show decide (0 ≤ (k : Int)) = xs.any P by rw [← HD.out]; simp)
        go_wp2_with fail
        go_ret
        exact ⟨⟨k, rfl, by omega, by omega, HZ.out⟩, HU1.out⟩
    · have hf := HF.out
      rw [List.drop_of_length_le (by omega)] at hf
      have HZ := Lib.hid (show decide (0 ≤ (-1 : Int)) = xs.any P by rw [← hf]; rfl)
      clear hf
      go_wp2_with fail
      go_ret
      exact ⟨⟨-1, rfl, by omega, by omega, HZ.out⟩, HU.out⟩

set_option maxRecDepth 20000 in
theorem containsFuncSm (P : Sm → Bool) (fn : FuncId) (caps : Array Value) (v : Value) (xs : List Sm) (w : World) (fp : List Nat) (hR : R_Sm1 fp w [v] xs)
    (hent : ∀ args w, Sem.run Tryz.prog (callFunc fn args) w = .ok (.enter fn args) w)
    (hby : ∀ wr us f x, x ∈ xs → Upd [] w wr → R_Sm f wr us x → Calls Tryz.prog fn (#[.agg us.toArray] ++ caps) wr fun e w' => e = .returned (.bool (P x)) ∧ Upd [] wr w') :
    Calls Tryz.prog 36 #[v, .func (.func fn) #[] caps] w fun e w' => e = .returned (.bool (xs.any P)) ∧ Upd [] w w' := by
  have S2 := Lib.hid (indexFuncSm P fn caps v xs w fp hR hent hby)
  clear hby hent hR
  go_enter Tryz.func36, Tryz.ntmps36
  go_wp2_with fail
  refine S2.out.mono ?_
  rintro e w1 ⟨⟨q, rfl, h1, h2, h3⟩, hu⟩
  have H3 := Lib.hid (And.intro h3 hu)
  clear h3 hu
  go_wp2_with fail
  go_ret
  exact ⟨by rw [← H3.out.1]; rfl, H3.out.2⟩

set_option maxRecDepth 20000 in
set_option maxHeartbeats 1000000 in
theorem validL1I (cs : List Value) (x : Sm) (p : Int) (T : Nat) (w : World) (fp : List Nat) (hp0 : 0 ≤ p) (hp1 : p ≤ 21) (hR : R_Sm fp w cs x) (hn : x.name.length ≤ 2000000) (hb : x.args.length + x.next.length ≤ 1900000) (c0 : w.cell? ⟨T, 0, none⟩ = some (ei p)) :
    Calls Tryz.prog 37 #[.agg cs.toArray, .pointer (some ⟨T, 0, none⟩)] w fun e w' => e = .returned (.bool (!smOk p x)) ∧ Upd [] w w' := by
  have hR' := hR
  obtain ⟨v0, v1, v3, v4, f0, f1, f3, f4, rfl, -, -, -, -, -⟩ := hR
  obtain ⟨wA, hwA⟩ : ∃ wA, wA = w.alloc (.cells #[v0, v1, es x.name, v3, v4] 48) := ⟨_, rfl⟩
  have uA : Upd [] w wA := by rw [hwA]; exact (Upd.refl _ _).alloc _
  have S1 := Lib.hid (smValidI _ x p wA _ hp0 hp1 (R_Smk.upd hR' uA (by simp)) hn hb)
  have UA := Lib.hid uA
  have c0' := uA.keep c0
  rw [hwA] at c0'
  generalize smOk p x = q at *
  generalize x.name = t2 at *
  clear uA hR' c0
  go_enter Tryz.func37, Tryz.ntmps37
  go_wp2_with fail
  rw [← hwA]
  clear hwA
  refine S1.out.mono ?_
  rintro e w1 ⟨rfl, hu⟩
  have HU := Lib.hid (UA.out.trans hu)
  clear hu
  go_wp2_with fail
  go_ret
  exact ⟨rfl, HU.out⟩

/-- what bounds a copied process. -/
def LnFit (x : Ln) : Prop := ∀ s ∈ x.sms, s.name.length ≤ 2000000 ∧ s.args.length + s.next.length ≤ 1900000 ∧ s.sums.length ≤ 2000000 ∧ s.guard.length ≤ 2000000
set_option maxRecDepth 20000 in
set_option maxHeartbeats 2000000 in
theorem validLnI (cs : List Value) (x : Ln) (w : World) (fp : List Nat) (hR : R_Ln fp w cs x) (hF : LnFit x) :
    Calls Tryz.prog 15 #[.agg cs.toArray] w fun e w' => e = .returned (.bool (lnOk x)) ∧ Upd [] w w' := by
  have hR' := hR
  obtain ⟨v1, v2, f1, f2, rfl, r1, r2, rfl⟩ := hR
  have HM := Lib.hid (show lnOk x = (inB x.pars 0 21 && stP x.start x.pars && decide (x.sms.length ≤ 60) && !(x.sms.any fun s => !smOk x.pars s)) by
    have e9 : x.sms.all (smOk x.pars) = !(x.sms.any fun s => !smOk x.pars s) := by rw [List.all_eq_not_any_not]
    unfold lnOk stP
    rw [e9]; rfl)
  obtain ⟨wA, hwA⟩ : ∃ wA, wA = w.alloc (.cells #[ei x.pars, v1, v2] 30) := ⟨_, rfl⟩
  obtain ⟨BA, hBA⟩ : ∃ BA, BA = w.heap.size := ⟨_, rfl⟩
  have uA : Upd [] w wA := by rw [hwA]; exact (Upd.refl _ _).alloc _
  have HC := Lib.hid (fun W (hu : Upd [] wA W) => show W.cell? ⟨BA, 0, none⟩ = some (ei x.pars) ∧ W.cell? ⟨BA, 1, none⟩ = some v1 ∧ W.cell? ⟨BA, 2, none⟩ = some v2 from
    ⟨hu.keep (by rw [hwA, hBA]; exact cell_new w _ _ _ rfl 0 _ rfl), hu.keep (by rw [hwA, hBA]; exact cell_new w _ _ _ rfl 1 _ rfl), hu.keep (by rw [hwA, hBA]; exact cell_new w _ _ _ rfl 2 _ rfl)⟩)
  have S0 := Lib.hid (fun W => within x.pars 0 21 W)
  have S1 := Lib.hid (lnStateI _ x v1 x.start wA _ f1 (R_Lnk.upd hR' uA (by simp)) (R_I1k.upd r1 uA (by simp)))
  have S2 := Lib.hid (fun (hp0 : 0 ≤ x.pars) (hp1 : x.pars ≤ 21) W (hu : Upd [] wA W) => containsFuncSm (fun s => !smOk x.pars s) 37 #[.pointer (some ⟨BA, 0, none⟩)] v2 x.sms W f2 (R_Sm1k.upd r2 (uA.trans hu) (by simp)) enter_validL1
    (fun wr us f s hs hu2 hr => validL1I us s x.pars BA wr f hp0 hp1 hr (hF s hs).1 (hF s hs).2.1 (hu2.keep (HC.out W hu).1)))
  have UA := Lib.hid uA
  obtain ⟨a2, q2, hv2, l2, m2, -⟩ := slQ_open r2
  unfold maxLen at m2
  subst hv2
  clear r1 r2 hR' hF uA
  obtain ⟨pars, start, sms⟩ := x
  simp only at *
  obtain ⟨c0, c1, c2⟩ := HC.out wA (Upd.refl _ _)
  generalize lnOk ⟨pars, start, sms⟩ = Z at *
  generalize stP start pars = st at *
  generalize hany : (sms.any fun s => !smOk pars s) = ga at *
  clear hany
  have hent := enter_validL1
  generalize sms.length = n at *
  cases hp : inB pars 0 21 with
  | false =>
    have HZ := Lib.hid (show Z = false by rw [HM.out, hp]; rfl)
    rw [hp] at S0
    clear HM hp S1 S2
    go_enter Tryz.func15, Tryz.ntmps15
    go_upto_region 1 with (fail)
    rw [← hwA, ← hBA]
    clear hwA hBA
    go_wp2_with fail
    refine (S0.out _).mono ?_
    rintro e w1 ⟨rfl, rfl⟩
    go_wp2_with fail
    go_ret
    exact ⟨by rw [HZ.out]; rfl, UA.out⟩
  | true =>
    have hpb := inB_true hp
    have hm2 := HM.out
    rw [hp, Bool.true_and] at hm2
    rw [hp] at S0
    have HM := Lib.hid hm2
    clear hp hm2
    cases st with
    | false =>
      have HZ := Lib.hid (show Z = false by rw [HM.out]; rfl)
      clear HM S2
      go_enter Tryz.func15, Tryz.ntmps15
      go_upto_region 1 with (fail)
      rw [← hwA, ← hBA]
      clear hwA hBA
      go_wp2_with fail
      refine (S0.out _).mono ?_
      rintro e w1 ⟨rfl, rfl⟩
      go_wp2_with fail
      refine S1.out.mono ?_
      rintro e w1 ⟨rfl, hu⟩
      have HU := Lib.hid (UA.out.trans hu)
      clear hu
      go_wp2_with fail
      go_ret
      exact ⟨by rw [HZ.out]; rfl, HU.out⟩
    | true =>
      by_cases h60 : n ≤ 60
      · have HM := Lib.hid (show Z = !ga by rw [HM.out, decide_eq_true h60]; rfl)
        have h60' : ¬ (60 : Int) < (n : Int) := by omega
        have S2 := Lib.hid (S2.out hpb.1 hpb.2)
        go_enter Tryz.func15, Tryz.ntmps15
        go_upto_region 1 with (fail)
        rw [← hwA, ← hBA]
        clear hwA hBA
        go_wp2_with fail
        refine (S0.out _).mono ?_
        rintro e w1 ⟨rfl, rfl⟩
        go_wp2_with fail
        refine S1.out.mono ?_
        rintro e w1 ⟨rfl, hu⟩
        obtain ⟨c0, c1, c2⟩ := HC.out w1 hu
        have T2 := Lib.hid (S2.out w1 hu)
        have HU := Lib.hid (UA.out.trans hu)
        clear hu S2
        go_wp2_with fail
        refine T2.out.mono ?_
        rintro e w2 ⟨rfl, hu⟩
        have HU2 := Lib.hid (HU.out.trans hu)
        clear hu T2
        go_wp2_with fail
        go_ret
        exact ⟨by rw [HM.out]; rfl, HU2.out⟩
      · have HZ := Lib.hid (show Z = false by rw [HM.out, decide_eq_false h60]; rfl)
        have h60' : (60 : Int) < (n : Int) := by omega
        clear HM S2
        go_enter Tryz.func15, Tryz.ntmps15
        go_upto_region 1 with (fail)
        rw [← hwA, ← hBA]
        clear hwA hBA
        go_wp2_with fail
        refine (S0.out _).mono ?_
        rintro e w1 ⟨rfl, rfl⟩
        go_wp2_with fail
        refine S1.out.mono ?_
        rintro e w1 ⟨rfl, hu⟩
        obtain ⟨c0, c1, c2⟩ := HC.out w1 hu
        have HU := Lib.hid (UA.out.trans hu)
        clear hu
        go_wp2_with fail
        go_ret
        exact ⟨by rw [HZ.out]; rfl, HU.out⟩

end Go.Proofs.YtnfghgaadnobbaaGreatDoor
