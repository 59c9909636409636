/-
  The law FnClosures: the call returns true for every input, and writes nothing that was there.
-/
import Derived.Test.YtkcafdobiloeiaaB10
import Derived.Test.YtkcafdobiloeiaaInv
namespace Go.Proofs.Ytkcafdobiloeiaa
open Go.RowKit

theorem contains_take (c : List (List Int)) (x : List Int) (q : Nat) (h : q < c.length) : (c.take (q + 1)).contains x = ((c.take q).contains x || (x == c[q])) := by
  rw [List.take_succ_eq_append_getElem h, Bool.eq_iff_iff]
  simp only [List.contains_iff_mem, List.mem_append, List.mem_singleton, Bool.or_eq_true, beq_iff_eq]

set_option maxRecDepth 40000 in
set_option maxHeartbeats 4000000 in
theorem lawFnClos (code : List Int) (v : Value) (fc : List Nat) (w : World) (hR : R_B fc w [v] code) (hb : bytesOk code) :
    Calls Try.prog 6 #[v] w fun e w' => e = .returned (.bool true) ∧ Upd [] w w' := by
  have S0 := Lib.hid (b10Long v code w fc hR)
  by_cases hlen : 1048576 < (code.length : Int)
  · rw [decide_eq_true hlen] at S0
    clear hR hb
    go_enter Try.func6, Try.ntmps6
    go_wp2_with fail
    refine S0.out.mono ?_
    rintro e w1 ⟨rfl, rfl⟩
    go_wp2_with fail
    go_ret
    exact ⟨rfl, Upd.refl _ _⟩
  · rw [decide_eq_false hlen] at S0
    have S1 := Lib.hid (b10Relation v code w fc hR hb (by omega))
    clear hR hb hlen
    go_enter Try.func6, Try.ntmps6
    go_wp2_with fail
    refine S0.out.mono ?_
    rintro e w1 ⟨rfl, rfl⟩
    clear S0
    go_wp2_with fail
    refine S1.out.mono ?_
    rintro e w1 ⟨⟨m, r, vr, fr, rfl, hrel, hr⟩, hu1⟩
    clear S1
    have hn := relB_n hrel
    obtain ⟨ar, cr, rfl, hr1, hr2, -⟩ := slP_open hr
    have hbn : (-9223372036854775808 : Int) ≤ m ∧ (m : Int) ≤ 9223372036854775807 := by omega
    obtain ⟨c, hc⟩ : ∃ c, c = allTo m (closeF m (hasF r)) m := ⟨_, rfl⟩
    obtain ⟨L, hL⟩ : ∃ L, L = allTo m (compF r c) m := ⟨_, rfl⟩
    obtain ⟨V, hV⟩ : ∃ V, V = allTo m (invTo r r.length) m := ⟨_, rfl⟩
    have hcr : relB m c = true := by rw [hc]; exact relB_allTo m _ (by omega) (by omega)
    have hvr : relB m V = true := by rw [hV]; exact relB_allTo m _ (by omega) (by omega)
    have hclen : m ≤ c.length := by rw [hc]; exact allTo_refl_len m _ m (Nat.le_refl _) (fun i hi => closeF_refl m _ i hi)
    have hLc : ∀ p ∈ L, p ∈ c := by rw [hL, hc]; exact clos_left hrel
    have e1 : closRes m r = (c, 0) := by simp [closRes, hrel, hc]
    have e2 : compRes m c c = (c, 0) := by
      have := clos_twice (m := m) (r := r); rw [← hc] at this
      simp only [compRes, hcr, Bool.and_self, if_true, Int.toNat_natCast, this]
    have e3 : compRes m r c = (L, 0) := by simp [compRes, hrel, hcr, hL]
    have e4 : invRes m r = (V, 0) := by simp [invRes, hrel, hV]
    have e5 : invRes m V = (r, 0) := by
      have := inv_back hrel; rw [← hV] at this
      simp only [invRes, hvr, if_true, Int.toNat_natCast, this]
    have e6 : normL (leadL m r) = normL (leadL m c) := by rw [hc]; exact clos_span hrel
    have e7 : (normL (leadL m r)).length = m := by simp [normL, leadL_length]
    have S2 := clos_i m r _ w1 hbn fr hr
    rw [e1] at S2
    have S3 := fun (v : Value) (w' : World) (fp : List Nat) (h : R2 fp w' [v] c) => comp_i m c v c v w' hbn fp h fp h
    rw [e2] at S3
    have S4 := fun (v v2 : Value) (w' : World) (fp fq : List Nat) (h : R2 fp w' [v] r) (h2 : R2 fq w' [v2] c) => comp_i m r v c v2 w' hbn fp h fq h2
    rw [e3] at S4
    have S5 := fun (v : Value) (w' : World) (fp : List Nat) (h : R2 fp w' [v] r) => inv_i m r v w' hbn fp h
    rw [e4] at S5
    have S6 := fun (v : Value) (w' : World) (fp : List Nat) (h : R2 fp w' [v] V) => inv_i m V v w' hbn fp h
    rw [e5] at S6
    have S7 := fun (v : Value) (w' : World) (fp : List Nat) (h : R2 fp w' [v] r) => spanOf m r v w' fp hrel h
    have S8 := fun (v : Value) (w' : World) (fp : List Nat) (h : R2 fp w' [v] c) => spanOf m c v w' fp hcr h
    rw [← e6] at S8
    have HS2 := Lib.hid S2
    have HS3 := Lib.hid S3
    have HS4 := Lib.hid S4
    have HS5 := Lib.hid S5
    have HS6 := Lib.hid S6
    have HS7 := Lib.hid S7
    have HS8 := Lib.hid S8
    generalize normL (leadL m r) = P at *
    have HPL := Lib.hid e7
    have HLC := Lib.hid hLc
    have HR1 := Lib.hid hr
    unfold maxLen at hr2
    clear S2 S3 S4 S5 S6 S7 S8 e1 e2 e3 e4 e5 e6 e7 hc hL hV hcr hvr hLc hrel hr hbn
    go_wp2_with fail
    refine HS2.out.mono ?_
    rintro e w2 ⟨⟨vc, rfl, fpc, hc2, -, -⟩, hu2⟩
    obtain ⟨ac, cc, rfl, hc3, hc4, -⟩ := slP_open hc2
    unfold maxLen at hc4
    have HU2 := Lib.hid (hu1.trans hu2)
    have HC2 := Lib.hid hc2
    have HR2 := Lib.hid (R2k.upd HR1.out hu2 (by simp))
    clear HS2 hc2 hu1 hu2
    go_wp2_with fail
    refine (HS3.out _ _ _ HC2.out).mono ?_
    rintro e w3 ⟨⟨vt, rfl, fpt, ht, -, -⟩, hu3⟩
    obtain ⟨at3, ct, rfl, ht1, ht2, -⟩ := slP_open ht
    have HU3 := Lib.hid (HU2.out.trans hu3)
    have HC3 := Lib.hid (R2k.upd HC2.out hu3 (by simp))
    have HR3 := Lib.hid (R2k.upd HR2.out hu3 (by simp))
    have HT3 := Lib.hid ht
    clear HS3 ht hu3
    go_wp2_with fail
    refine (HS4.out _ _ _ _ _ HR3.out HC3.out).mono ?_
    rintro e w4 ⟨⟨vl, rfl, fpl, hl, -, -⟩, hu4⟩
    obtain ⟨al, cl, rfl, hl1, hl2, -⟩ := slP_open hl
    have HU4 := Lib.hid (HU3.out.trans hu4)
    have HC4 := Lib.hid (R2k.upd HC3.out hu4 (by simp))
    have HR4 := Lib.hid (R2k.upd HR3.out hu4 (by simp))
    have HT4 := Lib.hid (R2k.upd HT3.out hu4 (by simp))
    have HL4 := Lib.hid hl
    unfold maxLen at hl2
    clear HS4 hl hu4
    go_wp2_with fail
    refine (HS5.out _ _ _ HR4.out).mono ?_
    rintro e w5 ⟨⟨vv, rfl, fpv, hv, -, -⟩, hu5⟩
    have HU5 := Lib.hid (HU4.out.trans hu5)
    have HC5 := Lib.hid (R2k.upd HC4.out hu5 (by simp))
    have HR5 := Lib.hid (R2k.upd HR4.out hu5 (by simp))
    have HT5 := Lib.hid (R2k.upd HT4.out hu5 (by simp))
    have HL5 := Lib.hid (R2k.upd HL4.out hu5 (by simp))
    have HV5 := Lib.hid hv
    clear HS5 hv hu5
    go_wp2_with fail
    refine (HS6.out _ _ _ HV5.out).mono ?_
    rintro e w6 ⟨⟨vb, rfl, fpb, hb6, -, -⟩, hu6⟩
    have HU6 := Lib.hid (HU5.out.trans hu6)
    have HC6 := Lib.hid (R2k.upd HC5.out hu6 (by simp))
    have HR6 := Lib.hid (R2k.upd HR5.out hu6 (by simp))
    have HT6 := Lib.hid (R2k.upd HT5.out hu6 (by simp))
    have HL6 := Lib.hid (R2k.upd HL5.out hu6 (by simp))
    have HB6 := Lib.hid hb6
    clear HS6 hb6 hu6
    go_wp2_with fail
    refine (HS7.out _ _ _ HR6.out).mono ?_
    rintro e w7 ⟨⟨vp, rfl, fpp, hp7, -, -⟩, hu7⟩
    obtain ⟨ap, cp, rfl, hp1, hp2, -⟩ := slF1_open hp7
    have HU7 := Lib.hid (HU6.out.trans hu7)
    have HC7 := Lib.hid (R2k.upd HC6.out hu7 (by simp))
    have HR7 := Lib.hid (R2k.upd HR6.out hu7 (by simp))
    have HT7 := Lib.hid (R2k.upd HT6.out hu7 (by simp))
    have HL7 := Lib.hid (R2k.upd HL6.out hu7 (by simp))
    have HB7 := Lib.hid (R2k.upd HB6.out hu7 (by simp))
    have HP7 := Lib.hid hp7
    unfold maxLen at hp2
    clear HS7 hp7 hu7
    go_wp2_with fail
    refine (HS8.out _ _ _ HC7.out).mono ?_
    rintro e w8 ⟨⟨vq, rfl, fpq, hq8, -, -⟩, hu8⟩
    have HU8 := Lib.hid (HU7.out.trans hu8)
    have HC8 := Lib.hid (R2k.upd HC7.out hu8 (by simp))
    have HR8 := Lib.hid (R2k.upd HR7.out hu8 (by simp))
    have HT8 := Lib.hid (R2k.upd HT7.out hu8 (by simp))
    have HL8 := Lib.hid (R2k.upd HL7.out hu8 (by simp))
    have HB8 := Lib.hid (R2k.upd HB7.out hu8 (by simp))
    have HP8 := Lib.hid (R1k.upd HP7.out hu8 (by simp))
    have HQ8 := Lib.hid hq8
    clear HS8 hq8 hu8
    have T1 := rows2 _ _ c c w8 _ _ HT8.out HC8.out
    rw [beq_self_eq_true] at T1
    have HT1 := Lib.hid T1
    have T2 := fun n => rows2 _ _ r r (w8.drewN n) _ _ (R2k.drewN HB8.out n) (R2k.drewN HR8.out n)
    rw [beq_self_eq_true] at T2
    have HT2 := Lib.hid T2
    have T3 := fun n => nums1 _ _ P P (w8.drewN n) _ _ (R1k.drewN HP8.out n) (R1k.drewN HQ8.out n)
    rw [beq_self_eq_true] at T3
    have HT3' := Lib.hid T3
    have hpl : ((P.length : Int) != (m : Int)) = false := by rw [HPL.out]; simp
    clear T1 T2 T3
    go_wp2_with fail
    refine HT1.out.mono ?_
    rintro e w9 ⟨rfl, n1, rfl⟩
    go_wp2_with fail
    refine (HT2.out _).mono ?_
    rintro e w9 ⟨rfl, n2, rfl⟩
    rw [drewN_add]
    go_wp2_with fail
    refine (HT3'.out _).mono ?_
    rintro e w9 ⟨rfl, n3, rfl⟩
    rw [drewN_add]
    clear HT1 HT2 HT3'
    go_wp2_with fail
    have hCx := Lib.hid (slP_open HC8.out)
    have hLx := Lib.hid (slP_open HL8.out)
    go_loopw [19] (fun i wr => ∃ k n : Nat, k ≤ L.length ∧ i = .int .i64 k ∧ wr = w8.drewN n) (fun i _ => L.length - (intOf i).toNat)
    case atStart => exact ⟨0, _, Nat.zero_le _, rfl, rfl⟩
    case round =>
      obtain ⟨k, n, hk, rfl, hw⟩ := hrel
      have HW := Lib.hid hw
      clear hw
      by_cases hlt : k < L.length
      · obtain ⟨_, _, hv9, -, -, hx⟩ := hLx.out
        simp only [Value.slice.injEq] at hv9
        obtain ⟨rfl, -, rfl⟩ := hv9
        obtain ⟨lb, lo, u, f, rfl, -, -, hu, -, hr⟩ := hx k hlt
        have hmem : c.contains L[k] = true := by rw [List.contains_iff_mem]; exact HLC.out _ (by simp)
        have HM := Lib.hid hmem
        clear hmem hx
        generalize L[k] = x at *
        obtain ⟨wo, hwo⟩ : ∃ wo : World, wo = wr := ⟨_, rfl⟩
        subst hwo
        go_wp2_with fail
        go_loopw [20, 21] (fun fv jv wi => ∃ (q n : Nat) (bb : Bool), q ≤ c.length ∧ jv = .int .i64 q ∧ fv = .bool bb ∧ Hid (bb = (c.take q).contains x) ∧ wi = w8.drewN n) (fun _ jv _ => c.length - (intOf jv).toNat)
        case atStart => exact ⟨0, n, false, Nat.zero_le _, rfl, rfl, Lib.hid (by simp), HW.out⟩
        case round =>
          obtain ⟨q, n2, bb, hq, rfl, rfl, HBB, hw⟩ := hrel
          have HW2 := Lib.hid hw
          by_cases hlt2 : q < c.length
          · obtain ⟨_, _, hv9, -, -, hx⟩ := hCx.out
            simp only [Value.slice.injEq] at hv9
            obtain ⟨rfl, -, rfl⟩ := hv9
            obtain ⟨cb, co, u2, f2, rfl, -, -, hu2, -, hr2⟩ := hx q hlt2
            have hu' : wr.cell? ⟨lb, lo + k, none⟩ = some u := by rw [hw]; exact hu
            have hu2' : wr.cell? ⟨cb, co + q, none⟩ = some u2 := by rw [hw]; exact hu2
            have hcon := contains_take c x q hlt2
            have hcall : ∀ n', Calls Try.prog 30 #[u, u2] (wr.drewN n') fun e w'' => e = .returned (.bool (x == c[q])) ∧ ∃ m, w'' = wr.drewN m :=
              fun n' => Calls.quiet_of (nums1 u u2 _ _ _ _ _ (R1k.drewN (by rw [HW2.out]; exact R1k.drewN hr _) _) (R1k.drewN (by rw [HW2.out]; exact R1k.drewN hr2 _) _))
            have HC := Lib.hid hcall
            have HCON := Lib.hid hcon
            clear hx hu2 hr2 hcall hcon hw
            cases bb
            · generalize (x == c[q]) = eb at *
              go_wp2_with fail
              go_quiet ((go_at_call 30; with_reducible exact HC.out _))
              go_wp2_with fail
              go_roundw
              case rel => exact ⟨q + 1, _, eb, by omega, by go_num, rfl, Lib.hid (by rw [HCON.out, ← HBB.out]; rfl), by rw [HW2.out, drewN_add]⟩
              case measure => simp [intOf]; omega
            · go_wp2_with fail
              go_quiet ((go_at_call 30; with_reducible exact HC.out _))
              go_wp2_with fail
              go_roundw
              case rel => exact ⟨q + 1, _, true, by omega, by go_num, rfl, Lib.hid (by rw [HCON.out, ← HBB.out]; rfl), by rw [HW2.out, drewN_add]⟩
              case measure => simp [intOf]; omega
          · obtain rfl : q = c.length := by omega
            rw [List.take_length, HM.out] at HBB
            have hbb := HBB.out
            subst hbb
            clear hw
            go_wp2_with fail
            go_roundw
            case rel => exact ⟨k + 1, _, by omega, by go_num, HW2.out⟩
            case measure => simp [intOf]; omega
      · clear hLx hCx
        go_wp2_with fail
        go_ret
        exact ⟨rfl, by rw [HW.out]; exact HU8.out.drewN _⟩

end Go.Proofs.Ytkcafdobiloeiaa
