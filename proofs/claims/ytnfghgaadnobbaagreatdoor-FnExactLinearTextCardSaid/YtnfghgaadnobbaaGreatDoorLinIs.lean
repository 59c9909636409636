/-
  The reference's check of a whole linear process: what the call returns.
-/
import Derived.Test.YtnfghgaadnobbaaGreatDoorLinS
namespace Go.Proofs.YtnfghgaadnobbaaGreatDoor
open Go.RowKit

/-- a linear process in a block of its own. -/
structure LnAt (W : World) (P : Nat) (v1 v2 : Value) (f1 f2 : List Nat) (x : Ln) : Prop where
  c0 : W.cell? ⟨P, 0, none⟩ = some (ei x.pars)
  c1 : W.cell? ⟨P, 1, none⟩ = some v1
  c2 : W.cell? ⟨P, 2, none⟩ = some v2
  r1 : R_I1 f1 W [v1] x.start
  r2 : R_Sm1 f2 W [v2] x.sms
theorem LnAt.upd {W W' : World} {P : Nat} {v1 v2 : Value} {f1 f2 : List Nat} {x : Ln} (h : LnAt W P v1 v2 f1 f2 x) (hu : Upd [] W W') : LnAt W' P v1 v2 f1 f2 x :=
  ⟨hu.keep h.c0, hu.keep h.c1, hu.keep h.c2, R_I1k.upd h.r1 hu (by simp), R_Sm1k.upd h.r2 hu (by simp)⟩
theorem LnAt.new (w : World) (T : TypeId) (v1 v2 : Value) (f1 f2 : List Nat) (x : Ln) (h1 : R_I1 f1 w [v1] x.start) (h2 : R_Sm1 f2 w [v2] x.sms) : LnAt (w.alloc (.cells #[ei x.pars, v1, v2] T)) w.heap.size v1 v2 f1 f2 x :=
  ⟨cell_new w _ _ _ rfl 0 _ rfl, cell_new w _ _ _ rfl 1 _ rfl, cell_new w _ _ _ rfl 2 _ rfl, R_I1k.upd h1 ((Upd.refl [] _).alloc _) (by simp), R_Sm1k.upd h2 ((Upd.refl [] _).alloc _) (by simp)⟩

set_option maxRecDepth 20000 in
set_option maxHeartbeats 2000000 in
theorem isLnS (P : Nat) (v1 v2 : Value) (x : Ln) (w : World) (f1 f2 : List Nat) (hL : LnAt w P v1 v2 f1 f2 x) (hn : ∀ s ∈ x.sms, s.name.length ≤ 2000000) :
    Calls Tryz.prog 11 #[.pointer (some ⟨P, 0, none⟩)] w fun e w' => e = .returned (.bool (lnOk x)) ∧ ∃ n, w' = w.drewN n := by
  obtain ⟨c0, c1, c2, r1, r2⟩ := hL
  have HM := Lib.hid (show lnOk x = (inB x.pars 0 21 && stP x.start x.pars && decide (x.sms.length ≤ 60) && x.sms.all (smOk x.pars)) from rfl)
  have S0 := Lib.hid (fun W => l00In x.pars 0 21 W)
  have S1 := Lib.hid (fun n' => Calls.quiet_of_same (n := n') ((l08DataS v1 x.start x.pars (w.drewN n') f1 (R_I1k.drewN r1 n')).mono (fun e w' h => ⟨h.1, h.2.symm⟩)))
  have Q0 := Lib.hid (fun n' => Calls.quiet_of_same (n := n') ((l00In x.pars 0 21 (w.drewN n')).mono (fun e w' h => ⟨h.1, h.2.symm⟩)))
  obtain ⟨a2, cp2, rfl, l2, m2, hc⟩ := slQ_open r2
  unfold maxLen at m2
  have HC := Lib.hid hc
  have HN := Lib.hid hn
  clear r1 r2 hc hn
  obtain ⟨pars, start, sms⟩ := x
  simp only at *
  generalize lnOk ⟨pars, start, sms⟩ = Z at *
  generalize stP start pars = st at *
  cases hp : inB pars 0 21 with
  | false =>
    rw [hp] at Q0
    have HZ := Lib.hid (show Z = false by rw [HM.out, hp]; rfl)
    clear HM hp S0 S1
    go_enter Tryz.func11, Tryz.ntmps11
    go_upto_region 1 with (fail)
    go_quiet ((go_at_call 26; with_reducible exact Q0.out _))
    go_wp2_with fail
    go_ret
    exact ⟨by rw [HZ.out]; rfl, _, rfl⟩
  | true =>
    rw [hp] at Q0
    have hpb := inB_true hp
    have hm2 := HM.out
    rw [hp, Bool.true_and] at hm2
    have HM := Lib.hid hm2
    clear hp hm2 S0
    cases st with
    | false =>
      have HZ := Lib.hid (show Z = false by rw [HM.out]; rfl)
      clear HM
      go_enter Tryz.func11, Tryz.ntmps11
      go_upto_region 1 with (fail)
      go_quiet (first | (go_at_call 26; with_reducible exact Q0.out _) | (go_at_call 27; with_reducible exact S1.out _))
      go_wp2_with fail
      go_ret
      exact ⟨by rw [HZ.out]; rfl, _, rfl⟩
    | true =>
      by_cases h60 : sms.length ≤ 60
      · have HM := Lib.hid (show Z = sms.all (smOk pars) by rw [HM.out, decide_eq_true h60]; rfl)
        have h60' : ¬ (60 : Int) < (sms.length : Int) := by omega
        clear h60
        go_enter Tryz.func11, Tryz.ntmps11
        go_upto_region 1 with (fail)
        go_quiet (first | (go_at_call 26; with_reducible exact Q0.out _) | (go_at_call 27; with_reducible exact S1.out _))
        go_wp2_with fail
        clear Q0 S1
        go_loopw [3] (fun iv wr => ∃ (k n : Nat), k ≤ sms.length ∧ iv = .int .i64 k ∧ wr = w.drewN n ∧ Hid ((sms.drop k).all (smOk pars) = Z)) (fun iv _ => sms.length - (intOf iv).toNat)
        case atStart => exact ⟨0, _, Nat.zero_le _, rfl, rfl, Lib.hid (by rw [HM.out]; rfl)⟩
        case round =>
          obtain ⟨k, n, hk, rfl, rfl, HF⟩ := hrel
          by_cases hlt : k < sms.length
          · obtain ⟨b, off, u, f, rfl, -, -, -, hcell, -, hr⟩ := HC.out k hlt
            have hf := HF.out
            rw [List.drop_eq_getElem_cons hlt, List.all_cons] at hf
            have HD := Lib.hid hf
            have hkl : (k : Int) < (sms.length : Int) := by omega
            have hnm := HN.out sms[k] (List.getElem_mem hlt)
            obtain ⟨wo, hwo⟩ : ∃ wo, wo = w.drewN n := ⟨_, rfl⟩
            have d0 : wo.cell? ⟨P, 0, none⟩ = some (ei pars) := by rw [hwo]; exact c0
            have d2 : wo.cell? ⟨P, 2, none⟩ = some (.slice (some ⟨b, off, none⟩) sms.length cp2) := by rw [hwo]; exact c2
            have hr2 := R_Smk.drewN hr n
            have hcell2 : ∀ (j : Nat) c, u[j]? = some c → wo.cell? ⟨b, off + k * 5 + j, none⟩ = some c := fun j c hj => by rw [hwo]; exact hcell j c hj
            rw [← hwo] at hr2
            have S3 := Lib.hid (fun n' => Calls.quiet_of_same (n := n') ((smOkS b (off + k * 5) u sms[k] pars (wo.drewN n') f hpb.1 hpb.2 hcell2 (R_Smk.drewN hr2 n') hnm).mono (fun e w' h => ⟨h.1, h.2.symm⟩)))
            rw [← hwo]
            clear hf hcell hcell2 hr hr2 hnm c0 c2
            have HWO := Lib.hid hwo
            clear hwo
            generalize smOk pars sms[k] = q at *
            go_wp2_with fail
            go_quiet ((go_at_call 28; with_reducible exact S3.out _))
            cases q with
            | false =>
              have HZ := Lib.hid (show Z = false by rw [← HD.out]; rfl)
              go_wp2_with fail
              go_ret
              exact ⟨by rw [HZ.out]; rfl, _, by rw [HWO.out]; exact drewN_add _ _ _⟩
            | true =>
              go_wp2_with fail
              go_roundw
              case rel => exact ⟨k + 1, _, by omega, by go_num, by rw [HWO.out]; exact drewN_add _ _ _, Lib.hid (by rw [← HD.out]; rfl)⟩
              case measure => simp [intOf]; omega
          · have hf := HF.out
            rw [List.drop_of_length_le (by omega)] at hf
            have HZ := Lib.hid (show Z = true by rw [← hf]; rfl)
            clear hf HF
            obtain ⟨wo, hwo⟩ : ∃ wo, wo = w.drewN n := ⟨_, rfl⟩
            have d2 : wo.cell? ⟨P, 2, none⟩ = some (.slice a2 sms.length cp2) := by rw [hwo]; exact c2
            rw [← hwo]
            have HWO := Lib.hid hwo
            clear hwo c0 c2
            go_wp2_with fail
            go_ret
            exact ⟨by rw [HZ.out]; rfl, n, HWO.out⟩
      · have HZ := Lib.hid (show Z = false by rw [HM.out, decide_eq_false h60]; rfl)
        have h60' : (60 : Int) < (sms.length : Int) := by omega
        clear h60 HM
        go_enter Tryz.func11, Tryz.ntmps11
        go_upto_region 1 with (fail)
        go_quiet (first | (go_at_call 26; with_reducible exact Q0.out _) | (go_at_call 27; with_reducible exact S1.out _))
        go_wp2_with fail
        go_ret
        exact ⟨by rw [HZ.out]; rfl, _, rfl⟩

end Go.Proofs.YtnfghgaadnobbaaGreatDoor
