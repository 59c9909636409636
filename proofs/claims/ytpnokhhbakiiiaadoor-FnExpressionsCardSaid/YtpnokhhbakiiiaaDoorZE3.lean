/-
  Texts joined in one file: PsJ, PsK, PsL, PsM, PsN, PsU, PsV, PsW, PsX, PsO, PsYa, PsYb, PsQ, PsR, PsZ, PsE, PsF, LawFnExpr.
-/
import Derived.Test.YtpnokhhbakiiiaaDoorZE1
import Derived.Test.YtpnokhhbakiiiaaDoorZE2
import Derived.Deep.DeepCutAuto
import Derived.Deep.CutBlock
/-
  Expressions parsed: the program's tokens of a text.
-/
namespace Go.Proofs.YtpnokhhbakiiiaaDoor
open Go.RowKit

theorem kdF_some (t : List UInt8) : (kdF t).isSome = ((opIx t).isSome || (t == [33]) || (t == [40]) || (t == [41]) || (smallF 64 t).isSome || (varF t).isSome) := by
  unfold kdF
  cases opIx t with
  | some o => rfl
  | none =>
    simp only [Option.isSome_none, Bool.false_or]
    by_cases h1 : t = [33]
    · rw [if_pos h1, beq_iff_eq.2 h1]; rfl
    · rw [if_neg h1, beq_eq_false_iff_ne.2 h1]
      by_cases h2 : t = [40]
      · rw [if_pos h2, beq_iff_eq.2 h2]; rfl
      · rw [if_neg h2, beq_eq_false_iff_ne.2 h2]
        by_cases h3 : t = [41]
        · rw [if_pos h3, beq_iff_eq.2 h3]; rfl
        · rw [if_neg h3, beq_eq_false_iff_ne.2 h3]
          cases smallF 64 t with
          | some n => rfl
          | none => cases varF t <;> rfl

set_option maxRecDepth 20000 in
set_option maxHeartbeats 2000000 in
theorem isTokenI (t : List UInt8) (w : World) (hl : t.length ≤ 2000000) (hG : Glob w) (he : EnvT w) :
    Calls Tryd.prog 37 #[es t] w fun e w' => e = .returned (.bool (kdF t).isSome) ∧ Upd [] w w' := by
  have S1 := Lib.hid (readOpI t w hG)
  have S2 := Lib.hid (fun W (hu : Upd [] w W) => numberTokenI 64 t W hl (by omega) (by omega) (he.upd hu))
  have S3 := Lib.hid (fun W (hu : Upd [] w W) => variableTokenI t W hl (he.upd hu))
  have HK := Lib.hid (kdF_some t)
  generalize (kdF t).isSome = Z at *
  obtain ⟨q0, hq0⟩ : ∃ q, (opIx t).isSome = q := ⟨_, rfl⟩
  rw [hq0] at S1 HK
  generalize ((opIx t).map Int.ofNat).getD 0 = N0 at *
  obtain ⟨q1, hq1⟩ : ∃ q, (t == [33]) = q := ⟨_, rfl⟩
  obtain ⟨q2, hq2⟩ : ∃ q, (t == [40]) = q := ⟨_, rfl⟩
  obtain ⟨q3, hq3⟩ : ∃ q, (t == [41]) = q := ⟨_, rfl⟩
  rw [hq1, hq2, hq3] at HK
  clear hl hG he hq0
  go_enter Tryd.func37, Tryd.ntmps37
  go_wp2_with fail
  refine S1.out.mono ?_
  rintro e w1 ⟨rfl, hu⟩
  have HU := Lib.hid hu
  have T2 := Lib.hid (S2.out w1 hu)
  clear S1 S2 hu
  go_upto_region 2 with (fail)
  go_cut [26] (fun c wx => c = .bool (q0 || q1 || q2 || q3) ∧ wx = w1)
  case first =>
    clear S3 T2 HK
    cases q0 with
    | true => clear hq1 hq2 hq3; go_wp2_with fail; go_meet; exact ⟨rfl, rfl⟩
    | false =>
      cases q1 with
      | true => clear hq2 hq3; go_wp2_with fail; go_meet; exact ⟨rfl, rfl⟩
      | false =>
        cases q2 with
        | true => clear hq3; go_wp2_with fail; go_meet; exact ⟨rfl, rfl⟩
        | false =>
          go_wp2_with fail
          go_meet
          exact ⟨by first | rfl | (rw [hq3]; rfl) | simp, rfl⟩
  case rest =>
    obtain ⟨rfl, hwx⟩ := hcut
    obtain ⟨wz, rfl⟩ : ∃ q : World, q = wc := ⟨_, rfl⟩
    subst hwx
    clear hq1 hq2 hq3
    generalize (q0 || q1 || q2 || q3) = qq at *
    cases qq with
    | true =>
      have HX := Lib.hid (show Z = true by rw [HK.out]; rfl)
      clear HK S3 T2
      go_wp2_with fail
      go_ret
      exact ⟨by rw [HX.out]; rfl, HU.out⟩
    | false =>
      have HK2 := Lib.hid (show Z = ((smallF 64 t).isSome || (varF t).isSome) by rw [HK.out]; rfl)
      clear HK
      go_wp2_with fail
      refine T2.out.mono ?_
      rintro e w2 ⟨⟨N, rfl, -⟩, hu⟩
      have HU2 := Lib.hid (HU.out.trans hu)
      clear T2 hu
      generalize (smallF 64 t).isSome = q4 at *
      cases q4 with
      | true =>
        have HX := Lib.hid (show Z = true by rw [HK2.out]; rfl)
        clear HK2 S3
        go_wp2_with fail
        go_ret
        exact ⟨by rw [HX.out]; rfl, HU2.out⟩
      | false =>
        have HX := Lib.hid (show Z = (varF t).isSome by rw [HK2.out]; rfl)
        have T3 := Lib.hid (S3.out w2 HU2.out)
        clear HK2 S3
        go_wp2_with fail
        refine T3.out.mono ?_
        rintro e w3 ⟨⟨N2, rfl, -⟩, hu⟩
        have HU3 := Lib.hid (HU2.out.trans hu)
        clear T3 hu
        generalize (varF t).isSome = q5 at *
        go_wp2_with fail
        go_ret
        exact ⟨by rw [HX.out]; rfl, HU3.out⟩

end Go.Proofs.YtpnokhhbakiiiaaDoor

/-
  Expressions parsed: the program's tokens of a text.
-/
namespace Go.Proofs.YtpnokhhbakiiiaaDoor
open Go.RowKit

theorem Tryd.infoTok : (Tryd.prog.info? 74).map (fun i => (i.zero, i.size, i.bytes)) = some (some (.agg #[.string ⟨#[]⟩, .int .i64 0]), 2, 24) := by kernel_rfl
abbrev R_Tx : Rp (List (List UInt8 × Nat)) := slF 2 (fun e => [es e.1, ei (e.2 : Int)])
def txCs (e : List UInt8 × Nat) : List Value := [es e.1, ei (e.2 : Int)]
theorem pre_le (b : UInt8) (r : List UInt8) : Lib.hasPrefix (b :: r) [60, 61] = (b == 60 && r.head? == some 61) := by
  cases r with
  | nil => simp [Lib.hasPrefix, List.isPrefixOf]
  | cons c r =>
    simp only [Lib.hasPrefix, List.isPrefixOf, List.head?_cons, Bool.and_true]
    rw [Bool.eq_iff_iff]
    simp only [Bool.and_eq_true, beq_iff_eq, Option.some.injEq]
    exact ⟨fun h => ⟨h.1.symm, h.2.symm⟩, fun h => ⟨h.1.symm, h.2.symm⟩⟩
theorem byte_beq (b : UInt8) (k : Nat) (hk : k < 256) : ((b.toNat : Int) == (k : Int)) = (b == UInt8.ofNat k) := by
  rw [Bool.eq_iff_iff]
  simp only [beq_iff_eq]
  constructor
  · intro h
    apply UInt8.toNat_inj.1
    simp
    omega
  · intro h
    rw [h]
    simp
    omega

set_option maxRecDepth 20000 in
set_option maxHeartbeats 4000000 in
theorem tokensI (s : List UInt8) (w : World) (hl : s.length ≤ 1000000) (hG : Glob w) (he : EnvT w) :
    Calls Tryd.prog 20 #[es s] w fun e w' => (∃ v', e = .returned (.tuple #[v', .int .i64 (tkS s 0).2]) ∧ New R_Tx w w' v' (tkS s 0).1) ∧ Upd [] w w' := by
  obtain ⟨i1, ki, kz0, kz1, kz2⟩ := info_parts Tryd.infoTok
  have HD := Lib.hid isDigitI
  have HE := Lib.hid (fun n W (hn : n ≤ s.length) => digitsEndI s n W (by omega) hn)
  have HT := Lib.hid (fun t W (ht : t.length ≤ s.length) (hu : Upd [] w W) => isTokenI t W (by omega) (hG.upd hu) (he.upd hu))
  have HST := Lib.hid (fun n (h : n < s.length) => tkS_step h)
  have HEND := Lib.hid (tkS_end (s := s) (n := s.length) (Nat.le_refl _))
  obtain ⟨R, hR⟩ : ∃ R, tkS s 0 = R := ⟨_, rfl⟩
  rw [hR]
  have HR := Lib.hid hR
  have hRL : R.1.length ≤ s.length := by rw [← hR]; have := tkS_len s s.length 0 (by omega); omega
  have HRL := Lib.hid hRL
  clear hG he hR hRL
  go_enter Tryd.func20, Tryd.ntmps20
  go_wp2_with fail
  go_loopw [4, 5] (fun ov iv wr => ∃ (n : Nat) (L : List (List UInt8 × Nat)), n ≤ s.length ∧ iv = .int .i64 n ∧ Hid (wr.ownsRow w.heap.size 74 2 ov L.length (L.flatMap txCs)) ∧ Hid (R = (L ++ (tkS s n).1, (tkS s n).2)) ∧ Hid (Upd [] w wr)) (fun _ iv _ => s.length - (intOf iv).toNat)
  case atStart => exact ⟨0, [], Nat.zero_le _, rfl, Lib.hid (World.ownsRow_nil _ _ _ _), Lib.hid (by rw [HR.out]; rfl), Lib.hid (Upd.refl _ _)⟩
  case round =>
    obtain ⟨wo, rfl⟩ : ∃ wo : World, wo = wr := ⟨_, rfl⟩
    obtain ⟨n, L, hn, rfl, HO, HX, HU⟩ := hrel
    obtain ⟨oa, oc, hov⟩ := ownsRow_form HO.out
    subst hov
    have hLl : L.length ≤ s.length := by have h1 := HRL.out; have h2 := HX.out; rw [h2] at h1; simp only [List.length_append] at h1; omega
    by_cases hlt : n < s.length
    · obtain ⟨b, hb⟩ : ∃ b, s[n] = b := ⟨_, rfl⟩
      have hix : (⟨s.toArray⟩ : ByteArray)[n]'(by simpa [ByteArray.size] using hlt) = b := by rw [← hb]; simp [ByteArray.getElem_eq_getElem_data]
      have hnl : (n : Int) < (s.length : Int) := by omega
      have HS := Lib.hid (HST.out n hlt)
      rw [hb] at HS
      have hdr : s.drop n = b :: s.drop (n + 1) := by rw [List.drop_eq_getElem_cons hlt, hb]
      by_cases h32 : b = 32
      · have hq : ((b.toNat : Int) == 32) = true := by rw [h32]; rfl
        have HX2 := Lib.hid (show R = (L ++ (tkS s (n + 1)).1, (tkS s (n + 1)).2) by rw [HX.out, HS.out, if_pos h32])
        clear HX HS hb hdr h32
        go_wp2_with fail
        go_roundw
        case rel => exact ⟨n + 1, L, by omega, by go_num, HO, HX2, HU⟩
        case measure => simp [intOf]; omega
      · have hq : ((b.toNat : Int) == 32) = false := by
          have := byte_beq b 32 (by omega)
          rw [show ((32 : Nat) : Int) = 32 from rfl] at this
          rw [this]
          exact beq_eq_false_iff_ne.2 h32
        have HS2 := Lib.hid (show tkS s n = if (kdF ((s.drop n).take (cutF (s.drop n)))).isSome then (((s.drop n).take (cutF (s.drop n)), n) :: (tkS s (n + cutF (s.drop n))).1, (tkS s (n + cutF (s.drop n))).2) else ([], n) by rw [HS.out, if_neg h32])
        have HCP := Lib.hid (cutF_pos (s := s.drop n) (by rw [hdr]; exact List.cons_ne_nil _ _))
        have D1 := Lib.hid (HD.out b)
        have E1 := Lib.hid (HE.out (n + 1))
        have hq118 := byte_beq b 118 (by omega)
        rw [show ((118 : Nat) : Int) = 118 from rfl] at hq118
        have hext0 := extract_list s n s.length
        have hdt : (s.drop n).take (s.length - n) = s.drop n := List.take_of_length_le (by simp)
        rw [hdt] at hext0
        have PF := Lib.hid (Tryd.strings_HasPrefix ⟨(s.drop n).toArray⟩ ⟨#[60, 61]⟩)
        have e1 : (⟨(s.drop n).toArray⟩ : ByteArray).data.toList = s.drop n := rfl
        have e2 : (⟨#[60, 61]⟩ : ByteArray).data.toList = [60, 61] := rfl
        rw [e1, e2] at PF
        have HCV := Lib.hid (show cutF (s.drop n) = if isDig b || (b == 118) then 1 + ((s.drop (n + 1)).takeWhile isDig).length else if Lib.hasPrefix (s.drop n) [60, 61] then 2 else 1 by
          rw [hdr, pre_le]; rfl)
        obtain ⟨c, hc⟩ : ∃ c, cutF (s.drop n) = c := ⟨_, rfl⟩
        rw [hc] at HS2 HCP HCV
        obtain ⟨q1, hq1⟩ : ∃ q, isDig b = q := ⟨_, rfl⟩
        obtain ⟨q2, hq2⟩ : ∃ q, (b == UInt8.ofNat 118) = q := ⟨_, rfl⟩
        obtain ⟨q3, hq3⟩ : ∃ q, Lib.hasPrefix (s.drop n) [60, 61] = q := ⟨_, rfl⟩
        have HCV2 := Lib.hid (show c = if q1 || q2 then 1 + ((s.drop (n + 1)).takeWhile isDig).length else if q3 then 2 else 1 by
          rw [HCV.out, hq1, hq3, ← hq2]; rfl)
        rw [hq1] at D1
        rw [hq2] at hq118
        rw [hq3] at PF
        have hcl : c ≤ s.length - n := by have := HCP.out.2; simp at this; omega
        have hc1 : 1 ≤ c := HCP.out.1
        have hni : (n : Int) + 1 ≤ (s.length : Int) := by omega
        clear hb hdr h32 hc hq1 hq2 hq3 e1 e2 hdt HS HCV HCP
        go_upto_block 2 with (fail)
        go_cut [5, 6] (fun av ev wx => av = .int .i64 n ∧ ev = .int .i64 ((n + c : Nat) : Int) ∧ Hid (Upd [] wo wx))
        case first =>
          have HU0 := Lib.hid (Upd.refl [] wo)
          clear HT HS2 HX HO HEND HST
          go_wp2_with fail
          refine (D1.out wo).mono ?_
          rintro e w1 ⟨rfl, rfl⟩
          cases q1 with
          | true =>
            have HZ := Lib.hid (show ((n + 1 + ((s.drop (n + 1)).takeWhile isDig).length : Nat) : Int) = ((n + c : Nat) : Int) by rw [HCV2.out]; simp; omega)
            have E2 := Lib.hid (E1.out wo (by omega))
            rw [HZ.out] at E2
            rw [show ((n + 1 : Nat) : Int) = (n : Int) + 1 by omega] at E2
            clear D1 E1 HCV2 PF HZ
            go_wp2_with fail
            refine E2.out.mono ?_
            rintro e w2 ⟨rfl, hu⟩
            have HUE := Lib.hid hu
            clear E2 hu
            go_wp2_with fail
            go_meet
            exact ⟨rfl, rfl, HUE⟩
          | false =>
            cases q2 with
            | true =>
              have HZ := Lib.hid (show ((n + 1 + ((s.drop (n + 1)).takeWhile isDig).length : Nat) : Int) = ((n + c : Nat) : Int) by rw [HCV2.out]; simp; omega)
              have E2 := Lib.hid (E1.out wo (by omega))
              rw [HZ.out] at E2
              rw [show ((n + 1 : Nat) : Int) = (n : Int) + 1 by omega] at E2
              clear D1 E1 HCV2 PF HZ
              go_wp2_with fail
              refine E2.out.mono ?_
              rintro e w2 ⟨rfl, hu⟩
              have HUE := Lib.hid hu
              clear E2 hu
              go_wp2_with fail
              go_meet
              exact ⟨rfl, rfl, HUE⟩
            | false =>
              have HZ := Lib.hid (show c = if q3 then 2 else 1 by rw [HCV2.out]; rfl)
              clear D1 E1 HCV2
              go_wp2_with fail
              refine (PF.out wo).mono ?_
              rintro e w2 ⟨rfl, rfl⟩
              cases q3 with
              | true =>
                have hcc : c = 2 := HZ.out
                subst hcc
                clear PF HZ
                go_wp2_with fail
                go_meet
                exact ⟨rfl, by first | rfl | (simp; omega), HU0⟩
              | false =>
                have hcc : c = 1 := HZ.out
                subst hcc
                clear PF HZ
                go_wp2_with fail
                go_meet
                exact ⟨rfl, by first | rfl | (simp; omega), HU0⟩
        case rest =>
          obtain ⟨rfl, rfl, HUX⟩ := hcut
          obtain ⟨wz, rfl⟩ : ∃ q : World, q = wc := ⟨_, rfl⟩
          clear HCV2 PF D1 E1 hq hq118 hext0 hix
          obtain ⟨ne, hne2⟩ : ∃ ne : Nat, n + c = ne := ⟨_, rfl⟩
          rw [hne2] at HS2 ⊢
          have hext := extract_list s n ne
          rw [show ne - n = c by omega] at hext
          have hec : (ne : Int) ≤ (s.length : Int) := by omega
          have hne : (n : Int) ≤ (ne : Int) := by omega
          have hn0 : (0 : Int) ≤ (n : Int) := by omega
          have htl : ((s.drop n).take c).length ≤ s.length := by rw [List.length_take, List.length_drop]; omega
          have T1 := Lib.hid (HT.out ((s.drop n).take c) wz htl (HU.out.trans HUX.out))
          obtain ⟨tx, htx⟩ : ∃ tx, (s.drop n).take c = tx := ⟨_, rfl⟩
          rw [htx] at hext T1 HS2
          obtain ⟨qk, hqk⟩ : ∃ q, (kdF tx).isSome = q := ⟨_, rfl⟩
          rw [hqk] at T1 HS2
          clear htl htx hqk HT HST
          have HNE := Lib.hid hne2
          clear hne2
          go_wp2_with fail
          refine T1.out.mono ?_
          rintro e w2 ⟨rfl, hu⟩
          have HU2 := Lib.hid ((HU.out.trans HUX.out).trans hu)
          have HO2 := Lib.hid (ownsRow_upd (ownsRow_upd HO.out HUX.out) hu)
          clear T1 hu HO HUX
          cases qk with
          | false =>
            have HY := Lib.hid (show R = (L, (n : Int)) by rw [HX.out, HS2.out]; simp)
            clear HX HS2
            go_wp2_with fail
            go_ret2
            refine ⟨⟨_, by rw [HY.out]; rfl, ?_⟩, HU2.out⟩
            rw [HY.out]
            exact New.ofOwns2 (e := 74) HO2.out
          | true =>
            have HY := Lib.hid (show R = ((L ++ [(tx, n)]) ++ (tkS s ne).1, (tkS s ne).2) by rw [HX.out, HS2.out]; simp)
            have hown0 := HO2.out.alloc (.cells #[es tx, .int .i64 n] 74)
            have hsz2 := HU2.out.size
            clear HX HS2
            go_wp2_with (first
              | (at_builtin; refine wpList_append_tight _ rfl _ _ 40 rfl w.heap.size 74 i1 (.agg #[.string ⟨#[]⟩, .int .i64 0]) 2 24 Tryd.underlying40 ki kz0 kz1 kz2 rfl (by decide) _ _ _ rfl hown0 ⟨w2.heap.size, 0, none⟩ 1 1 [es tx, .int .i64 n] rfl rfl (fun j u hj => by rw [addr_add]; exact cell_new w2 #[es tx, .int .i64 n] _ _ rfl _ _ (by simpa using hj)) (by simp [Value.oneCell']) (by unfold maxLen; omega) (by omega) (by simp; omega) ?_)
              | fail)
            intro v4 w4 hown4 hg4 ht4
            have hu4 : Upd [] w w4 := (HU2.out.alloc _).grown hg4 (fun b hb => Or.inl (by have := (hown0.lt b hb).1; omega))
            have HQ := Lib.hid (And.intro hown4 hu4)
            clear hown4 hg4 ht4 hu4 hown0 HO2 HU2
            go_wp2_with fail
            go_roundw
            case rel => exact ⟨ne, L ++ [(tx, n)], by omega, by go_num, Lib.hid (by simpa [txCs] using HQ.out.1), HY, Lib.hid HQ.out.2⟩
            case measure => have h1 := HNE.out; simp [intOf]; omega
    · obtain rfl : n = s.length := by omega
      have HY := Lib.hid (show R = (L, -1) by rw [HX.out, HEND.out]; simp)
      clear HX HEND HST HT HE HD
      go_wp2_with fail
      go_ret2
      refine ⟨⟨_, by rw [HY.out]; rfl, ?_⟩, HU.out⟩
      rw [HY.out]
      exact New.ofOwns2 (e := 74) HO.out

end Go.Proofs.YtpnokhhbakiiiaaDoor

/-
  Expressions parsed: the program's first error.
-/
namespace Go.Proofs.YtpnokhhbakiiiaaDoor
open Go.RowKit

def isOpK : Tk → Bool | .op _ => true | _ => false
def isBangK : Tk → Bool | .bang => true | _ => false
def isLparK : Tk → Bool | .lpar => true | _ => false
def isRparK : Tk → Bool | .rpar => true | _ => false
theorem opT_ne {t : List UInt8} {o : Nat} (h : opIx t = some o) : (t == [33]) = false ∧ (t == [40]) = false ∧ (t == [41]) = false := by
  obtain ⟨h1, h2⟩ := opIx_lt h
  rcases (show o = 0 ∨ o = 1 ∨ o = 2 ∨ o = 3 ∨ o = 4 ∨ o = 5 ∨ o = 6 ∨ o = 7 ∨ o = 8 by omega) with h | h | h | h | h | h | h | h | h <;> subst h <;> rw [← h2] <;> decide
theorem kd_facts {t : List UInt8} {k : Tk} (h : kdF t = some k) : (opIx t).isSome = isOpK k ∧ (t == [33]) = isBangK k ∧ (t == [40]) = isLparK k ∧ (t == [41]) = isRparK k := by
  unfold kdF at h
  cases ho : opIx t with
  | some o =>
    rw [ho] at h
    cases h
    obtain ⟨a, b, c⟩ := opT_ne ho
    exact ⟨rfl, a, b, c⟩
  | none =>
    rw [ho] at h
    simp only at h
    by_cases h1 : t = [33]
    · rw [if_pos h1] at h; cases h; subst h1; exact ⟨rfl, rfl, rfl, rfl⟩
    · rw [if_neg h1] at h
      by_cases h2 : t = [40]
      · rw [if_pos h2] at h; cases h; subst h2; exact ⟨rfl, rfl, rfl, rfl⟩
      · rw [if_neg h2] at h
        by_cases h3 : t = [41]
        · rw [if_pos h3] at h; cases h; subst h3; exact ⟨rfl, rfl, rfl, rfl⟩
        · rw [if_neg h3] at h
          have e1 := beq_eq_false_iff_ne.2 h1
          have e2 := beq_eq_false_iff_ne.2 h2
          have e3 := beq_eq_false_iff_ne.2 h3
          split at h
          · cases h; exact ⟨rfl, e1, e2, e3⟩
          · cases hv : varF t with
            | none => rw [hv] at h; cases h
            | some v => rw [hv] at h; cases h; exact ⟨rfl, e1, e2, e3⟩

set_option maxRecDepth 20000 in
set_option maxHeartbeats 8000000 in
theorem firstErrorI (s : List UInt8) (L : List (List UInt8 × Nat)) (v : Value) (bad : Int) (w : World) (fp : List Nat) (hR : R_Tx fp w [v] L) (_hl : s.length ≤ 1000000) (hk : ∀ e ∈ L, (kdF e.1).isSome = true) (hG : Glob w) :
    Calls Tryd.prog 21 #[es s, v, .int .i64 bad] w fun e w' => e = .returned (.int .i64 (errF bad s.length true 0 L)) ∧ Upd [] w w' := by
  obtain ⟨a, cap, rfl, l1, l2, hc⟩ := slF2_open hR
  unfold maxLen at l2
  have HC := Lib.hid hc
  have HK := Lib.hid hk
  have HRO := Lib.hid (fun t W (hu : Upd [] w W) => readOpI t W (hG.upd hu))
  have HE0 := Lib.hid (fun b d => show errF bad s.length b d [] = if 0 ≤ bad then bad else if b || decide (0 < d) then s.length else -1 by cases b <;> rfl)
  obtain ⟨EF, hEF⟩ : ∃ EF, EF = errF bad s.length := ⟨_, rfl⟩
  have HET := Lib.hid (show ∀ d t n r, EF true d ((t, n) :: r) = match kdF t with
    | some .bang => EF true d r
    | some .lpar => EF true (d + 1) r
    | some (.num _) => EF false d r
    | some (.var _) => EF false d r
    | _ => (n : Int) from fun d t n r => by rw [hEF]; rfl)
  have HEF := Lib.hid (show ∀ d t n r, EF false d ((t, n) :: r) = match kdF t with
    | some (.op _) => EF true d r
    | some .rpar => if 0 < d then EF false (d - 1) r else (n : Int)
    | _ => (n : Int) from fun d t n r => by rw [hEF]; rfl)
  rw [← hEF] at HE0 ⊢
  obtain ⟨Z, hZ⟩ : ∃ Z, EF true 0 L = Z := ⟨_, rfl⟩
  rw [hZ]
  have HZ := Lib.hid hZ
  clear hR hc hk hG hZ hEF
  go_enter Tryd.func21, Tryd.ntmps21
  go_wp2_with fail
  go_loopw [7, 8, 15] (fun bv dv iv wr => ∃ (b : Bool) (d k : Nat), k ≤ L.length ∧ d ≤ k ∧ bv = .bool b ∧ dv = .int .i64 d ∧ iv = .int .i64 k ∧ Hid (EF b d (L.drop k) = Z) ∧ Hid (Upd [] w wr)) (fun _ _ iv _ => L.length - (intOf iv).toNat)
  case atStart => exact ⟨true, 0, 0, Nat.zero_le _, Nat.le_refl _, rfl, rfl, rfl, Lib.hid HZ.out, Lib.hid (Upd.refl _ _)⟩
  case round =>
    clear HZ
    obtain ⟨wo, rfl⟩ : ∃ wo : World, wo = wr := ⟨_, rfl⟩
    obtain ⟨b, d, k, hk, hdk, rfl, rfl, rfl, HZ, HU⟩ := hrel
    by_cases hlt : k < L.length
    · obtain ⟨ba, oa, rfl, -, -, p1, p2⟩ := HC.out k hlt
      replace p1 := HU.out.keep p1
      replace p2 := HU.out.keep p2
      have hkl : (k : Int) < (L.length : Int) := by omega
      have hks := HK.out _ (List.getElem_mem hlt)
      have hz := HZ.out
      rw [List.drop_eq_getElem_cons hlt] at hz
      obtain ⟨e, he⟩ : ∃ e, L[k] = e := ⟨_, rfl⟩
      rw [he] at p1 p2 hks hz
      obtain ⟨t, n⟩ := e
      simp only at p1 p2 hks
      have HZ2 := Lib.hid hz
      obtain ⟨kk, hkk⟩ := Option.isSome_iff_exists.1 hks
      have hf := kd_facts hkk
      have HKK := Lib.hid hkk
      obtain ⟨wB, hwB⟩ : ∃ wB, wB = wo.alloc (.cells #[es t, .int .i64 n] 74) := ⟨_, rfl⟩
      obtain ⟨BE, hBE⟩ : ∃ B, B = wo.heap.size := ⟨_, rfl⟩
      have uB : Upd [] wo wB := by rw [hwB]; exact (Upd.refl _ _).alloc _
      have HQ := Lib.hid (fun W (hu : Upd [] wB W) => show W.cell? ⟨BE, 0, none⟩ = some (es t) ∧ W.cell? ⟨BE, 1, none⟩ = some (.int .i64 n) from
        ⟨hu.keep (by rw [hwB, hBE]; exact cell_new wo _ _ _ rfl 0 _ rfl), hu.keep (by rw [hwB, hBE]; exact cell_new wo _ _ _ rfl 1 _ rfl)⟩)
      obtain ⟨t0, t1⟩ := HQ.out wB (Upd.refl _ _)
      have HUB := Lib.hid (HU.out.trans uB)
      have R1' := Lib.hid (HRO.out t wB HUB.out)
      obtain ⟨qo, hqo⟩ : ∃ q, (opIx t).isSome = q := ⟨_, rfl⟩
      rw [hqo] at R1' hf
      generalize ((opIx t).map Int.ofNat).getD 0 = N0 at *
      clear hz he hks hkk hqo uB HZ HU
      go_upto_region 6 with (fail)
      rw [← hwB, ← hBE]
      clear hwB hBE p1 p2
      go_wp2_with fail
      refine R1'.out.mono ?_
      rintro r w2 ⟨rfl, hu2⟩
      obtain ⟨t0, t1⟩ := HQ.out w2 hu2
      have HU2 := Lib.hid (HUB.out.trans hu2)
      clear R1' hu2 HUB
      cases b with
      | true =>
        cases kk with
        | op o =>
          obtain ⟨f0, f1, f2, f3⟩ := hf
          replace f0 : qo = true := f0
          replace f1 : (t == [33]) = false := f1
          replace f2 : (t == [40]) = false := f2
          replace f3 : (t == [41]) = false := f3
          subst f0
          have HX := Lib.hid (show (n : Int) = Z by have := HZ2.out; rw [HET.out, HKK.out] at this; exact this)
          clear HZ2 HKK HET HEF HQ
          go_wp2_with fail
          go_ret
          exact ⟨by rw [← HX.out]; rfl, HU2.out⟩
        | bang =>
          obtain ⟨f0, f1, f2, f3⟩ := hf
          replace f0 : qo = false := f0
          replace f1 : (t == [33]) = true := f1
          replace f2 : (t == [40]) = false := f2
          replace f3 : (t == [41]) = false := f3
          subst f0
          have HX := Lib.hid (show EF true d (L.drop (k + 1)) = Z by have := HZ2.out; rw [HET.out, HKK.out] at this; exact this)
          clear HZ2 HKK HET HEF HQ
          go_wp2_with fail
          go_roundw
          case rel => exact ⟨true, d, k + 1, by omega, by omega, rfl, by go_num, by go_num, HX, HU2⟩
          case measure => simp [intOf]; omega
        | lpar =>
          obtain ⟨f0, f1, f2, f3⟩ := hf
          replace f0 : qo = false := f0
          replace f1 : (t == [33]) = false := f1
          replace f2 : (t == [40]) = true := f2
          replace f3 : (t == [41]) = false := f3
          subst f0
          have HX := Lib.hid (show EF true (d + 1) (L.drop (k + 1)) = Z by have := HZ2.out; rw [HET.out, HKK.out] at this; exact this)
          clear HZ2 HKK HET HEF HQ
          go_wp2_with fail
          go_roundw
          case rel => exact ⟨true, (d + 1), k + 1, by omega, by omega, rfl, by go_num, by go_num, HX, HU2⟩
          case measure => simp [intOf]; omega
        | rpar =>
          obtain ⟨f0, f1, f2, f3⟩ := hf
          replace f0 : qo = false := f0
          replace f1 : (t == [33]) = false := f1
          replace f2 : (t == [40]) = false := f2
          replace f3 : (t == [41]) = true := f3
          have f4 : (t != [41]) = false := by simp only [bne, f3]; rfl
          subst f0
          have HX := Lib.hid (show (n : Int) = Z by have := HZ2.out; rw [HET.out, HKK.out] at this; exact this)
          clear HZ2 HKK HET HEF HQ
          go_wp2_with fail
          go_ret
          exact ⟨by rw [← HX.out]; rfl, HU2.out⟩
        | num m =>
          obtain ⟨f0, f1, f2, f3⟩ := hf
          replace f0 : qo = false := f0
          replace f1 : (t == [33]) = false := f1
          replace f2 : (t == [40]) = false := f2
          replace f3 : (t == [41]) = false := f3
          have f4 : (t != [41]) = true := by simp only [bne, f3]; rfl
          subst f0
          have HX := Lib.hid (show EF false d (L.drop (k + 1)) = Z by have := HZ2.out; rw [HET.out, HKK.out] at this; exact this)
          clear HZ2 HKK HET HEF HQ
          go_wp2_with fail
          go_roundw
          case rel => exact ⟨false, d, k + 1, by omega, by omega, rfl, by go_num, by go_num, HX, HU2⟩
          case measure => simp [intOf]; omega
        | var m =>
          obtain ⟨f0, f1, f2, f3⟩ := hf
          replace f0 : qo = false := f0
          replace f1 : (t == [33]) = false := f1
          replace f2 : (t == [40]) = false := f2
          replace f3 : (t == [41]) = false := f3
          have f4 : (t != [41]) = true := by simp only [bne, f3]; rfl
          subst f0
          have HX := Lib.hid (show EF false d (L.drop (k + 1)) = Z by have := HZ2.out; rw [HET.out, HKK.out] at this; exact this)
          clear HZ2 HKK HET HEF HQ
          go_wp2_with fail
          go_roundw
          case rel => exact ⟨false, d, k + 1, by omega, by omega, rfl, by go_num, by go_num, HX, HU2⟩
          case measure => simp [intOf]; omega
      | false =>
        cases kk with
        | op o =>
          obtain ⟨f0, f1, f2, f3⟩ := hf
          replace f0 : qo = true := f0
          replace f1 : (t == [33]) = false := f1
          replace f2 : (t == [40]) = false := f2
          replace f3 : (t == [41]) = false := f3
          subst f0
          have HX := Lib.hid (show EF true d (L.drop (k + 1)) = Z by have := HZ2.out; rw [HEF.out, HKK.out] at this; exact this)
          clear HZ2 HKK HET HEF HQ
          go_wp2_with fail
          go_roundw
          case rel => exact ⟨true, d, k + 1, by omega, by omega, rfl, by go_num, by go_num, HX, HU2⟩
          case measure => simp [intOf]; omega
        | bang =>
          obtain ⟨f0, f1, f2, f3⟩ := hf
          replace f0 : qo = false := f0
          replace f1 : (t == [33]) = true := f1
          replace f2 : (t == [40]) = false := f2
          replace f3 : (t == [41]) = false := f3
          subst f0
          have HX := Lib.hid (show (n : Int) = Z by have := HZ2.out; rw [HEF.out, HKK.out] at this; exact this)
          clear HZ2 HKK HET HEF HQ
          go_wp2_with fail
          go_ret
          exact ⟨by rw [← HX.out]; rfl, HU2.out⟩
        | lpar =>
          obtain ⟨f0, f1, f2, f3⟩ := hf
          replace f0 : qo = false := f0
          replace f1 : (t == [33]) = false := f1
          replace f2 : (t == [40]) = true := f2
          replace f3 : (t == [41]) = false := f3
          subst f0
          have HX := Lib.hid (show (n : Int) = Z by have := HZ2.out; rw [HEF.out, HKK.out] at this; exact this)
          clear HZ2 HKK HET HEF HQ
          go_wp2_with fail
          go_ret
          exact ⟨by rw [← HX.out]; rfl, HU2.out⟩
        | rpar =>
          obtain ⟨f0, f1, f2, f3⟩ := hf
          replace f0 : qo = false := f0
          replace f1 : (t == [33]) = false := f1
          replace f2 : (t == [40]) = false := f2
          replace f3 : (t == [41]) = true := f3
          subst f0
          by_cases hd : 0 < d
          · have hdi : (0 : Int) < (d : Int) := by omega
            have HX := Lib.hid (show EF false (d - 1) (L.drop (k + 1)) = Z by have := HZ2.out; rw [HEF.out, HKK.out] at this; rw [← this]; show _ = if 0 < d then _ else _; rw [if_pos hd])
            clear HZ2 HKK HET HEF HQ
            go_wp2_with fail
            go_roundw
            case rel => exact ⟨false, (d - 1), k + 1, by omega, by omega, rfl, by go_num, by go_num, HX, HU2⟩
            case measure => simp [intOf]; omega
          · obtain rfl : d = 0 := by omega
            have HX := Lib.hid (show (n : Int) = Z by have := HZ2.out; rw [HEF.out, HKK.out] at this; exact this)
            clear HZ2 HKK HET HEF HQ
            go_wp2_with fail
            go_ret
            exact ⟨by rw [← HX.out]; rfl, HU2.out⟩
        | num m =>
          obtain ⟨f0, f1, f2, f3⟩ := hf
          replace f0 : qo = false := f0
          replace f1 : (t == [33]) = false := f1
          replace f2 : (t == [40]) = false := f2
          replace f3 : (t == [41]) = false := f3
          subst f0
          have HX := Lib.hid (show (n : Int) = Z by have := HZ2.out; rw [HEF.out, HKK.out] at this; exact this)
          clear HZ2 HKK HET HEF HQ
          go_wp2_with fail
          go_ret
          exact ⟨by rw [← HX.out]; rfl, HU2.out⟩
        | var m =>
          obtain ⟨f0, f1, f2, f3⟩ := hf
          replace f0 : qo = false := f0
          replace f1 : (t == [33]) = false := f1
          replace f2 : (t == [40]) = false := f2
          replace f3 : (t == [41]) = false := f3
          subst f0
          have HX := Lib.hid (show (n : Int) = Z by have := HZ2.out; rw [HEF.out, HKK.out] at this; exact this)
          clear HZ2 HKK HET HEF HQ
          go_wp2_with fail
          go_ret
          exact ⟨by rw [← HX.out]; rfl, HU2.out⟩
    · obtain rfl : k = L.length := by omega
      have HY := Lib.hid (show (if 0 ≤ bad then bad else if b || decide (0 < d) then (s.length : Int) else -1) = Z by
        have := HZ.out
        rw [List.drop_of_length_le (Nat.le_refl _), HE0.out] at this
        exact this)
      clear HZ HET HEF HE0
      by_cases hb : 0 ≤ bad
      · have HX := Lib.hid (show bad = Z by have := HY.out; rw [if_pos hb] at this; exact this)
        clear HY
        go_wp2_with fail
        go_ret
        exact ⟨by rw [← HX.out]; rfl, HU.out⟩
      · have hb2 : bad < 0 := by omega
        cases b with
        | true =>
          have HX := Lib.hid (show (s.length : Int) = Z by have := HY.out; rw [if_neg hb] at this; simpa using this)
          clear HY
          go_wp2_with fail
          go_ret
          exact ⟨by rw [← HX.out]; rfl, HU.out⟩
        | false =>
          by_cases hd : 0 < d
          · have HX := Lib.hid (show (s.length : Int) = Z by have := HY.out; rw [if_neg hb, decide_eq_true hd] at this; simpa using this)
            have hdi : (0 : Int) < (d : Int) := by omega
            clear HY
            go_wp2_with fail
            go_ret
            exact ⟨by rw [← HX.out]; rfl, HU.out⟩
          · obtain rfl : d = 0 := by omega
            have HX := Lib.hid (show (-1 : Int) = Z by have := HY.out; rw [if_neg hb] at this; simpa using this)
            clear HY
            go_wp2_with fail
            go_ret
            exact ⟨by rw [← HX.out]; rfl, HU.out⟩

end Go.Proofs.YtpnokhhbakiiiaaDoor

/-
  Expressions parsed: the program's parser looks at a token and goes on.
-/
namespace Go.Proofs.YtpnokhhbakiiiaaDoor
open Go.RowKit

/-- texts that are tokens. -/
def Toks (L : List (List UInt8 × Nat)) : Prop := ∀ e ∈ L, ∃ k, kdF e.1 = some k ∧ e.1.length ≤ 2000000
theorem Toks.tail {e : List UInt8 × Nat} {L : List (List UInt8 × Nat)} (h : Toks (e :: L)) : Toks L := fun x hx => h x (List.mem_cons_of_mem _ hx)

/-- the parser at P holds the tokens L. -/
structure PS (w0 : World) (P : Nat) (w : World) (L : List (List UInt8 × Nat)) : Prop where
  upd : Upd [] w0 w
  ge : w0.heap.size ≤ P
  own : Own [P] w
  got : ∃ v f, w.cell? ⟨P, 0, none⟩ = some v ∧ R_Tx f w0 [v] L
theorem PS.keep {w0 w w' : World} {P : Nat} {L : List (List UInt8 × Nat)} (h : PS w0 P w L) (hu : Upd [] w w') : PS w0 P w' L :=
  ⟨h.upd.trans hu, h.ge, h.own.upd hu (by simp), by obtain ⟨v, f, h1, h2⟩ := h.got; exact ⟨v, f, hu.keep h1, h2⟩⟩
theorem PS.lt {w0 w : World} {P : Nat} {L : List (List UInt8 × Nat)} (h : PS w0 P w L) : P < w.heap.size := h.own.lt P (by simp)

set_option maxRecDepth 20000 in
set_option maxHeartbeats 2000000 in
theorem peekI (w0 : World) (P : Nat) (w : World) (L : List (List UInt8 × Nat)) (hG : Glob w0) (hP : PS w0 P w L) (hk : Toks L) :
    Calls Tryd.prog 40 #[.pointer (some ⟨P, 0, none⟩)] w fun e w' => (∃ o : Int, e = .returned (.tuple #[.int .i64 o, .int .i64 (nlv (kinds L))]) ∧ Hid (∀ (k : Nat) r, kinds L = .op k :: r → o = k)) ∧ Upd [] w w' := by
  obtain ⟨v, f, hc, hR⟩ := hP.got
  obtain ⟨a, cap, rfl, l1, l2, hcc⟩ := slF2_open hR
  unfold maxLen at l2
  match L, hk, hcc with
  | [], _, _ =>
    have HN := Lib.hid (show nlv (kinds []) = 0 from rfl)
    generalize hZ : nlv (kinds []) = Z at *
    have HX := Lib.hid (show ∀ (k : Nat) r, kinds [] = .op k :: r → (0 : Int) = k from fun k r h => by cases h)
    clear hR hG hP hZ
    simp only [List.length_nil] at hc l1
    go_enter Tryd.func40, Tryd.ntmps40
    go_wp2_with fail
    go_ret2
    exact ⟨⟨0, by rw [HN.out]; rfl, HX⟩, Upd.refl _ _⟩
  | (t, n) :: L2, hk, hcc =>
    obtain ⟨b, o, rfl, -, -, p1, -⟩ := hcc 0 (by simp)
    replace p1 := hP.upd.keep p1
    simp only [List.getElem_cons_zero] at p1
    rw [Nat.zero_mul, Nat.add_zero] at p1
    obtain ⟨k, hkk, htl⟩ := hk (t, n) List.mem_cons_self
    simp only at hkk
    have hGw := hG.upd hP.upd
    have S1 := Lib.hid (readOpI t w hGw)
    have hf := (kd_facts hkk).1
    have hkn : kinds ((t, n) :: L2) = k :: kinds L2 := by simp [kinds, hkk]
    rw [hkn]
    clear hcc hk hR hG hP
    generalize kinds L2 = KL at *
    have hl0 : ((L2.length : Int) + 1 == 0) = false := by simp; omega
    have hl1 : (0 : Int) < (L2.length : Int) + 1 := by omega
    simp only [List.length_cons] at hc l1
    by_cases hop : isOpK k = true
    · obtain ⟨q, rfl⟩ : ∃ q, k = .op q := by cases k <;> first | exact ⟨_, rfl⟩ | cases hop
      obtain ⟨hq, hox⟩ := kdF_op hkk
      have hlv := hGw.lvs q hq
      rw [hox, show (Option.map Int.ofNat (some q)).getD 0 = (q : Int) from rfl, show (some q).isSome = true from rfl] at S1
      have HN := Lib.hid (show nlv (.op q :: KL) = lvl q from rfl)
      generalize nlv (.op q :: KL) = Z at *
      generalize lvl q = LQ at *
      have HX := Lib.hid (show ∀ (k : Nat) r, Tk.op q :: KL = .op k :: r → (q : Int) = k from fun k r h => by cases h; rfl)
      generalize Tk.op q :: KL = KK at *
      have hq9 : (q : Int) < 9 := by omega
      clear hf hkk hop htl hkn hox hGw
      go_enter Tryd.func40, Tryd.ntmps40
      go_wp2_with fail
      refine S1.out.mono ?_
      rintro e w1 ⟨rfl, hu⟩
      have HU := Lib.hid hu
      replace hlv := hu.keep hlv
      clear S1 hu
      go_wp2_with fail
      go_region_law (fail)
      go_wp2_with fail
      go_ret2
      exact ⟨⟨q, by rw [HN.out]; rfl, HX⟩, HU.out.drew⟩
    · have hof : isOpK k = false := by simpa using hop
      rw [hof] at hf
      rw [hf] at S1
      have HN := Lib.hid (show nlv (k :: KL) = 0 by cases k <;> first | rfl | cases hof)
      have HX := Lib.hid (show ∀ (o : Nat) r, k :: KL = .op o :: r → (0 : Int) = o from fun o r h => by cases h; cases hof)
      generalize k :: KL = KK at *
      generalize nlv KK = Z at *
      generalize ((opIx t).map Int.ofNat).getD 0 = N0 at *
      clear hf hkk hop htl hkn hGw hof
      go_enter Tryd.func40, Tryd.ntmps40
      go_wp2_with fail
      refine S1.out.mono ?_
      rintro e w1 ⟨rfl, hu⟩
      have HU := Lib.hid hu
      clear S1 hu
      go_wp2_with fail
      go_ret2
      exact ⟨⟨0, by rw [HN.out]; rfl, HX⟩, HU.out⟩

set_option maxRecDepth 20000 in
set_option maxHeartbeats 2000000 in
theorem nextI (w0 : World) (P : Nat) (w : World) (t : List UInt8) (n : Nat) (L : List (List UInt8 × Nat)) (hP : PS w0 P w ((t, n) :: L)) :
    Calls Tryd.prog 41 #[.pointer (some ⟨P, 0, none⟩)] w fun e w' => e = .returned (es t) ∧ PS w0 P w' L ∧ Upd [P] w w' := by
  obtain ⟨v, f, hc, hR⟩ := hP.got
  have hR0 := hR
  obtain ⟨a, cap, rfl, l1, l2, hcc⟩ := slF2_open hR
  unfold maxLen at l2
  obtain ⟨b, o, rfl, -, hbl, p1, -⟩ := hcc 0 (by simp)
  replace p1 := hP.upd.keep p1
  simp only [List.getElem_cons_zero] at p1
  rw [Nat.zero_mul, Nat.add_zero] at p1
  simp only [List.length_cons] at hc l1
  have hl1 : (0 : Int) < (L.length : Int) + 1 := by omega
  have hfz : w.frozen? ⟨P, 0, none⟩ = false := hP.own.frozen (by simp) _
  have HP := Lib.hid hP
  have HST := Lib.hid (fun (o' : Nat) (ho : L ≠ [] → o' = o + 2) => show PS w0 P (w.setCell ⟨P, 0, none⟩ (.slice (some ⟨b, o', none⟩) L.length (cap - 1))) L ∧ Upd [P] w (w.setCell ⟨P, 0, none⟩ (.slice (some ⟨b, o', none⟩) L.length (cap - 1))) from by
    obtain ⟨fp', hs, hf'⟩ := slF_tail (n := 2) (by intro x; rfl) hR0 o' ho
    simp only [List.length_cons, Nat.add_sub_cancel] at hs
    exact ⟨⟨hP.upd.setCell (Or.inl hP.ge) _, hP.ge, hP.own.setCell _ _, _, fp', World.cell?_setCell_same _ _ _ hc, hs⟩, (Upd.refl _ _).setCell (by simp) _⟩)
  clear hcc hR hR0 hP hbl
  by_cases hcap : cap = 1
  · subst hcap
    obtain rfl : L = [] := List.eq_nil_of_length_eq_zero (by omega)
    have HS2 := Lib.hid (HST.out o (fun h => absurd rfl h))
    clear HST HP
    go_enter Tryd.func41, Tryd.ntmps41
    go_wp2_with fail
    go_ret
    exact ⟨rfl, HS2.out⟩
  · have HS2 := Lib.hid (HST.out (o + 2) (fun _ => rfl))
    have hc2 : 1 < cap := by omega
    clear HST HP
    go_enter Tryd.func41, Tryd.ntmps41
    go_wp2_with fail
    go_ret
    exact ⟨rfl, HS2.out⟩

end Go.Proofs.YtpnokhhbakiiiaaDoor

/-
  Expressions parsed: a tree over operands that are made anew.
-/
namespace Go.Proofs.YtpnokhhbakiiiaaDoor
open Go.RowKit

theorem var_small {t : List UInt8} {k : Int} (h : varF t = some k) : smallF 64 t = none := by
  cases t with
  | nil => cases h
  | cons c r =>
    have hc : c = 118 := by
      by_cases hc : c = 118
      · exact hc
      · have h' : (if c = 118 then smallF 29 r else none) = some k := h
        rw [if_neg hc] at h'; cases h'
    subst hc
    unfold smallF
    cases hn : numF (118 :: r) with
    | none => rfl
    | some n =>
      exfalso
      have h1 := (numF_some hn).1
      have h2 := itoa_no n 118 (by decide) (by decide)
      rw [← h1] at h2
      exact h2 List.mem_cons_self

/-- a tree over no operand, made anew. -/
theorem node0 (w : World) (a b : Int) (T : TypeId) : New R_E w (w.alloc (.cells #[ei a, ei b, .slice none 0 0] T)) (.pointer (some ⟨w.heap.size, 0, none⟩)) (.mk (a, b) []) := by
  refine ⟨[w.heap.size], R_E_mk (cell_new w _ _ _ rfl 0 _ rfl) (cell_new w _ _ _ rfl 1 _ rfl) (cell_new w _ _ _ rfl 2 _ rfl) ⟨_, [], [], [], rfl, flat_nil _ 1, rfl, rfl, by simp⟩, ⟨by simp, fun b hb => ?_⟩, by simp⟩
  obtain rfl : b = w.heap.size := by simpa using hb
  exact ⟨_, _, heap_alloc_new w _⟩

theorem nodeK {w0 w : World} {us : List Value} {fps : List (List Nat)} {xs : List Ex} (hn : 0 < xs.length) (hn2 : xs.length ≤ 100) (h1 : us.length = xs.length) (h2 : fps.length = xs.length) (hs : w0.heap.size ≤ w.heap.size)
    (hr : ∀ i (h : i < xs.length) u (f : List Nat), us[i]? = some u → fps[i]? = some f → R_E f w [u] xs[i]) (ho : Own fps.flatten w) (hg : ∀ b ∈ fps.flatten, w0.heap.size ≤ b) (a b : Int) (T1 T : TypeId) :
    New R_E w0 ((w.alloc (.cells us.toArray T1)).alloc (.cells #[ei a, ei b, .slice (some ⟨w.heap.size, 0, none⟩) xs.length xs.length] T)) (.pointer (some ⟨w.heap.size + 1, 0, none⟩)) (.mk (a, b) xs) := by
  obtain ⟨w2, hw2⟩ : ∃ w2, (w.alloc (.cells us.toArray T1)).alloc (.cells #[ei a, ei b, .slice (some ⟨w.heap.size, 0, none⟩) xs.length xs.length] T) = w2 := ⟨_, rfl⟩
  have hz : (w.alloc (.cells us.toArray T1)).heap.size = w.heap.size + 1 := by simp
  have c0 := cell_new (w.alloc (.cells us.toArray T1)) #[ei a, ei b, .slice (some ⟨w.heap.size, 0, none⟩) xs.length xs.length] T _ rfl 0 _ rfl
  have c1 := cell_new (w.alloc (.cells us.toArray T1)) #[ei a, ei b, .slice (some ⟨w.heap.size, 0, none⟩) xs.length xs.length] T _ rfl 1 _ rfl
  have c2 := cell_new (w.alloc (.cells us.toArray T1)) #[ei a, ei b, .slice (some ⟨w.heap.size, 0, none⟩) xs.length xs.length] T _ rfl 2 _ rfl
  have hu : Upd [] w w2 := by rw [← hw2]; exact ((Upd.refl _ _).alloc _).alloc _
  have hb1 : w2.heap[w.heap.size]? = some (.cells us.toArray T1) := by rw [← hw2, Below.heap_alloc _ _ _ (by rw [hz]; omega)]; exact heap_alloc_new w _
  have hb2 : w2.heap[w.heap.size + 1]? = some (.cells #[ei a, ei b, .slice (some ⟨w.heap.size, 0, none⟩) xs.length xs.length] T) := by rw [← hw2, ← hz]; exact heap_alloc_new _ _
  have hsz : w2.heap.size = w.heap.size + 2 := by rw [← hw2]; simp
  rw [hw2] at c0 c1 c2 ⊢
  rw [hz] at c0 c1 c2
  clear hw2
  have hfl : ∀ c ∈ fps.flatten, c < w.heap.size := ho.lt
  refine ⟨(w.heap.size + 1) :: ([w.heap.size] ++ fps.flatten), R_E_mk c0 c1 c2 ⟨_, us, [w.heap.size], fps, rfl, ⟨_, xs.length, rfl, Nat.le_refl _, by unfold maxLen; omega, by omega, Or.inr ⟨_, 0, rfl, rfl, by omega, fun j u hu => ?_⟩⟩, h2, rfl, fun i hi u f hu' hf => ?_⟩, ⟨?_, fun c hc => ?_⟩, fun c hc => ?_⟩
  · rw [Nat.zero_add]
    simp [World.cell?, hb1, hu]
  · exact R_Ek.upd (hr i hi u f hu' hf) hu (by simp)
  · rw [List.singleton_append, List.nodup_cons, List.nodup_cons]
    refine ⟨fun hm => ?_, fun hm => ?_, ho.1⟩
    · rcases List.mem_cons.1 hm with h | h
      · omega
      · have := hfl _ h; omega
    · have := hfl _ hm; omega
  · rcases List.mem_cons.1 hc with rfl | hc
    · exact ⟨_, _, hb2⟩
    · rcases List.mem_append.1 hc with hc | hc
      · obtain rfl : c = w.heap.size := by simpa using hc
        exact ⟨_, _, hb1⟩
      · obtain ⟨q, t, hq⟩ := ho.2 c hc
        exact ⟨q, t, by rw [hu.block c (hfl c hc) (by simp)]; exact hq⟩
  · rcases List.mem_cons.1 hc with rfl | hc
    · omega
    · rcases List.mem_append.1 hc with hc | hc
      · obtain rfl : c = w.heap.size := by simpa using hc
        omega
      · exact hg c hc

/-- a tree over one operand. -/
theorem node1 {w0 w : World} {v : Value} {x : Ex} (h : New R_E w0 w v x) (hs : w0.heap.size ≤ w.heap.size) (a b : Int) (T1 T : TypeId) :
    New R_E w0 ((w.alloc (.cells #[v] T1)).alloc (.cells #[ei a, ei b, .slice (some ⟨w.heap.size, 0, none⟩) 1 1] T)) (.pointer (some ⟨w.heap.size + 1, 0, none⟩)) (.mk (a, b) [x]) := by
  obtain ⟨fp, h1, h2, h3⟩ := h
  exact nodeK (us := [v]) (fps := [fp]) (xs := [x]) (by simp) (by simp) rfl rfl hs (fun i hi u f hu hf => by
    match i, hi, hu, hf with
    | 0, _, hu, hf => simp at hu hf; subst hu hf; exact h1) (by simpa using h2) (by simpa using h3) a b T1 T
/-- a tree over two operands; the second is made behind the first. -/
theorem node2 {w0 w1 w : World} {u v : Value} {x y : Ex} {f : List Nat} (hx : New R_E w0 w1 u x) (hu : Upd f w1 w) (hf : ∀ b ∈ f, b < w0.heap.size) (hy : New R_E w1 w v y) (hs : w0.heap.size ≤ w1.heap.size) (a b : Int) (T1 T : TypeId) :
    New R_E w0 ((w.alloc (.cells #[u, v] T1)).alloc (.cells #[ei a, ei b, .slice (some ⟨w.heap.size, 0, none⟩) 2 2] T)) (.pointer (some ⟨w.heap.size + 1, 0, none⟩)) (.mk (a, b) [x, y]) := by
  obtain ⟨fx, x1, x2, x3⟩ := hx
  obtain ⟨fy, y1, y2, y3⟩ := hy
  have hd : ∀ b ∈ fx, b ∉ f := fun b hb hm => by have := hf b hm; have := x3 b hb; omega
  have x1' := R_Ek.upd x1 hu hd
  have x2' := x2.upd hu hd
  have hxl := x2.lt
  refine nodeK (us := [u, v]) (fps := [fx, fy]) (xs := [x, y]) (by simp) (by simp) rfl rfl (by have := hu.size; omega) (fun i hi q g hq hg => ?_) ⟨?_, fun c hc => ?_⟩ (fun c hc => ?_) a b T1 T
  · match i, hi, hq, hg with
    | 0, _, hq, hg => simp at hq hg; subst hq hg; exact x1'
    | 1, _, hq, hg => simp at hq hg; subst hq hg; exact y1
  · simp only [List.flatten_cons, List.flatten_nil, List.append_nil]
    exact List.nodup_append.2 ⟨x2'.1, y2.1, fun p hp q hq e => by subst e; have := hxl p hp; have := y3 p hq; omega⟩
  · simp only [List.flatten_cons, List.flatten_nil, List.append_nil, List.mem_append] at hc
    rcases hc with h | h
    · exact x2'.2 c h
    · exact y2.2 c h
  · simp only [List.flatten_cons, List.flatten_nil, List.append_nil, List.mem_append] at hc
    rcases hc with h | h
    · exact x3 c h
    · have := y3 c h; omega

end Go.Proofs.YtpnokhhbakiiiaaDoor

/-
  Expressions parsed: the reference reads blanks, digits, operators and small numbers.
-/
namespace Go.Proofs.YtpnokhhbakiiiaaDoor
open Go.RowKit

end Go.Proofs.YtpnokhhbakiiiaaDoor

/-
  Expressions parsed: the reference's token at an offset.
-/
namespace Go.Proofs.YtpnokhhbakiiiaaDoor
open Go.RowKit

theorem cutF_cons (c : UInt8) (r : List UInt8) : cutF (c :: r) = if isDig c || c == 118 then 1 + (r.takeWhile isDig).length else if c == 60 && r.head? == some 61 then 2 else 1 := rfl

end Go.Proofs.YtpnokhhbakiiiaaDoor

/-
  Expressions parsed: the reference applies an operator to its parts.
-/
namespace Go.Proofs.YtpnokhhbakiiiaaDoor
open Go.RowKit

section
variable {α : Type} {R : Rp α} {base : Nat} {G : Nat → Prop} {e : TypeId} {w : World} {g n cap : Nat} {xs : List α}
end
def R_OT : Rp (List Tm) := fun fp w cs x => R_T1 fp w cs x ∧ Own fp w ∧ ∀ b ∈ fp, ∃ c, w.heap[b]? = some (.cells c 50)
abbrev GotP (B0 : Nat) (w : World) (v : Value) (Q : List (List Tm)) : Prop := Got R_OT B0 (fun b => B0 ≤ b) 24 w v Q

end Go.Proofs.YtpnokhhbakiiiaaDoor

/-
  Expressions parsed: the reference's two rows, parts and waiting operators.
-/
namespace Go.Proofs.YtpnokhhbakiiiaaDoor
open Go.RowKit

/-- the rows hold the machine's parts and waiting operators. -/
structure StP (B0 : Nat) (w : World) (g cap : Nat) (P : List (List Tm)) (gw cw : Nat) (W : List Nat) : Prop where
  got : GotP B0 w (.slice (some ⟨g, 0, none⟩) P.length cap) P.reverse
  wt : w.ownsRow B0 2 1 (.slice (some ⟨gw, 0, none⟩) W.length cw) W.length (W.reverse.map fun v : Nat => ei (v : Int))
  ne : g ≠ gw
  base : B0 ≤ w.heap.size

/-- the waiting operator under the top. -/
theorem StP.cell {B0 : Nat} {w : World} {g cap : Nat} {P : List (List Tm)} {gw cw : Nat} {V W' : List Nat} {o : Nat} (h : StP B0 w g cap P gw cw (V ++ o :: W')) : w.cell? ⟨gw, W'.length, none⟩ = some (ei (o : Int)) := by
  have h1 := h.wt.cellAt W'.length (by simp; omega)
  rw [h1]
  simp

end Go.Proofs.YtpnokhhbakiiiaaDoor

/-
  Expressions parsed: the program's parser makes the tree of an operand.
-/
namespace Go.Proofs.YtpnokhhbakiiiaaDoor
open Go.RowKit

theorem kdF_num {t : List UInt8} {n : Int} (h : kdF t = some (.num n)) : smallF 64 t = some n ∧ varF t = none := by
  have hs : smallF 64 t = some n := by
    unfold kdF at h
    cases ho : opIx t with
    | some o => rw [ho] at h; cases h
    | none =>
      rw [ho] at h
      simp only at h
      split at h
      · cases h
      · split at h
        · cases h
        · split at h
          · cases h
          · split at h
            · rename_i hq; cases h; exact hq
            · cases hv : varF t <;> rw [hv] at h <;> cases h
  refine ⟨hs, ?_⟩
  cases hv : varF t with
  | none => rfl
  | some k => have := var_small hv; rw [this] at hs; cases hs
theorem kdF_var {t : List UInt8} {k : Int} (h : kdF t = some (.var k)) : varF t = some k := by
  unfold kdF at h
  cases ho : opIx t with
  | some o => rw [ho] at h; cases h
  | none =>
    rw [ho] at h
    simp only at h
    split at h
    · cases h
    · split at h
      · cases h
      · split at h
        · cases h
        · split at h
          · cases h
          · cases hv : varF t with
            | none => rw [hv] at h; cases h
            | some v => rw [hv] at h; cases h; rfl

/-- a call returns the tree x, made anew; the parser at P then holds tokens of the kinds r. -/
def ParB (w0 : World) (P : Nat) (w : World) (x : Ex) (r : List Tk) (e : Ending) (w' : World) : Prop :=
  (∃ v', e = .returned v' ∧ New R_E w w' v' x) ∧ Upd [P] w w' ∧ ∃ L', kinds L' = r ∧ Toks L' ∧ PS w0 P w' L'
def OpdC (w0 : World) (P N : Nat) : Prop := ∀ (L : List (List UInt8 × Nat)) (x : Ex) (r : List Tk) (w : World), L.length ≤ N → Toks L → PS w0 P w L → Ps .opd (kinds L) x r →
  Calls Tryd.prog 39 #[.pointer (some ⟨P, 0, none⟩)] w (ParB w0 P w x r)
def ExpC (w0 : World) (P N : Nat) : Prop := ∀ (L : List (List UInt8 × Nat)) (l : Int) (x : Ex) (r : List Tk) (w : World), L.length ≤ N → Toks L → PS w0 P w L → Ps (.exp l) (kinds L) x r →
  Calls Tryd.prog 22 #[.pointer (some ⟨P, 0, none⟩), .int .i64 l] w (ParB w0 P w x r)

theorem New.formE {w w' : World} {v : Value} {x : Ex} (h : New R_E w w' v x) : ∃ b, v = .pointer (some ⟨b, 0, none⟩) := by
  obtain ⟨fp, h1, -⟩ := h
  exact R_E_form h1

set_option maxHeartbeats 400000 in
theorem numberI (n : Int) (w : World) : Calls Tryd.prog 58 #[.int .i64 n] w fun e w' => (∃ v', e = .returned v' ∧ New R_E w w' v' (.mk (0, n) [])) ∧ Upd [] w w' := by
  have HN := Lib.hid (fun T => node0 w 0 n T)
  go_enter Tryd.func58, Tryd.ntmps58
  go_wp2_with fail
  go_ret
  exact ⟨⟨_, rfl, HN.out _⟩, (Upd.refl _ _).alloc _⟩

set_option maxRecDepth 20000 in
set_option maxHeartbeats 4000000 in
theorem opdStep (w0 : World) (P N : Nat) (_hG : Glob w0) (he : EnvT w0) (ho : OpdC w0 P N) (hx : ExpC w0 P N) : OpdC w0 P (N + 1) := by
  intro L x r w hl hk hP hps
  match L, hl, hk, hP, hps with
  | [], _, _, _, hps => exact absurd hps (by intro h; cases h)
  | (t, n) :: L2, hl, hk, hP, hps =>
    obtain ⟨k, hkk, htl⟩ := hk (t, n) List.mem_cons_self
    simp only at hkk htl
    have hkn : kinds ((t, n) :: L2) = k :: kinds L2 := by simp [kinds, hkk]
    rw [hkn] at hps
    have hf := (kd_facts hkk).2
    have S1 := Lib.hid (nextI w0 P w t n L2 hP)
    have HT := Lib.hid hk.tail
    have hl2 : L2.length ≤ N := by simpa using hl
    have HO := Lib.hid (fun x r w' hp h => ho L2 x r w' hl2 hk.tail hp h)
    have HX := Lib.hid (fun l x r w' hp h => hx L2 l x r w' hl2 hk.tail hp h)
    obtain ⟨KL, hKL⟩ : ∃ KL, kinds L2 = KL := ⟨_, rfl⟩
    rw [hKL] at hps HO HX
    have HKL := Lib.hid hKL
    have hPl := hP.lt
    clear hk hkn _hG ho hx hl hKL
    cases hps with
    | num m r =>
      obtain ⟨f1, f2, -⟩ := hf
      replace f1 : (t == [33]) = false := f1
      replace f2 : (t == [40]) = false := f2
      obtain ⟨g1, g2⟩ := kdF_num hkk
      have S2 := Lib.hid (fun W (hu : Upd [] w0 W) => variableTokenI t W htl (he.upd hu))
      have S3 := Lib.hid (fun W (hu : Upd [] w0 W) => numberTokenI 64 t W htl (by omega) (by omega) (he.upd hu))
      rw [g2] at S2
      rw [g1] at S3
      simp only [Option.isSome_none, Option.isSome_some] at S2 S3
      clear hkk htl he g1 g2 HO HX hP
      go_enter Tryd.func39, Tryd.ntmps39
      go_wp2_with fail
      refine S1.out.mono ?_
      rintro e w1 ⟨rfl, hp1, hu1⟩
      have HP1 := Lib.hid hp1
      have HU1 := Lib.hid hu1
      have T2 := Lib.hid (S2.out w1 hp1.upd)
      clear S1 S2 hp1 hu1
      go_wp2_with fail
      refine T2.out.mono ?_
      rintro e w2 ⟨⟨N1, rfl, -⟩, hu2⟩
      have HP2 := Lib.hid (HP1.out.keep hu2)
      have HU2 := Lib.hid (HU1.out.trans (hu2.mono (g := [P]) (by simp)))
      have T3 := Lib.hid (S3.out w2 HP2.out.upd)
      clear S3 T2 hu2 HP1 HU1
      go_wp2_with fail
      refine T3.out.mono ?_
      rintro e w3 ⟨⟨N2, rfl, HN2⟩, hu3⟩
      obtain rfl : N2 = m := HN2.out m rfl
      have HP3 := Lib.hid (HP2.out.keep hu3)
      have HU3 := Lib.hid (HU2.out.trans (hu3.mono (g := [P]) (by simp)))
      clear T3 hu3 HP2 HU2 HN2
      have T4 := Lib.hid (numberI N2 w3)
      go_wp2_with fail
      refine T4.out.mono ?_
      rintro e w4 ⟨⟨v', rfl, hnew⟩, hu4⟩
      have HNW := Lib.hid (hnew.mono HU3.out.size)
      have HP4 := Lib.hid (HP3.out.keep hu4)
      have HU4 := Lib.hid (HU3.out.trans (hu4.mono (g := [P]) (by simp)))
      clear T4 hu4 HP3 HU3 hnew
      go_wp2_with fail
      go_ret
      exact ⟨⟨_, rfl, HNW.out⟩, HU4.out, L2, HKL.out, HT.out, HP4.out⟩
    | var m r =>
      obtain ⟨f1, f2, -⟩ := hf
      replace f1 : (t == [33]) = false := f1
      replace f2 : (t == [40]) = false := f2
      have g1 := kdF_var hkk
      have S2 := Lib.hid (fun W (hu : Upd [] w0 W) => variableTokenI t W htl (he.upd hu))
      rw [g1] at S2
      simp only [Option.isSome_some] at S2
      clear hkk htl he g1 HO HX hP
      go_enter Tryd.func39, Tryd.ntmps39
      go_wp2_with fail
      refine S1.out.mono ?_
      rintro e w1 ⟨rfl, hp1, hu1⟩
      have HP1 := Lib.hid hp1
      have HU1 := Lib.hid hu1
      have T2 := Lib.hid (S2.out w1 hp1.upd)
      clear S1 S2 hp1 hu1
      go_wp2_with fail
      refine T2.out.mono ?_
      rintro e w2 ⟨⟨N1, rfl, HN1⟩, hu2⟩
      obtain rfl : N1 = m := HN1.out m rfl
      have HP2 := Lib.hid (HP1.out.keep hu2)
      have HU2 := Lib.hid (HU1.out.trans (hu2.mono (g := [P]) (by simp)))
      have HN := Lib.hid (fun T => (node0 w2 1 N1 T).mono HU2.out.size)
      clear T2 hu2 HP1 HU1 HN1
      go_wp2_with fail
      go_ret
      exact ⟨⟨_, rfl, HN.out _⟩, HU2.out.alloc _, L2, HKL.out, HT.out, HP2.out.keep ((Upd.refl _ _).alloc _)⟩
    | bang hps =>
      obtain ⟨f1, -⟩ := hf
      replace f1 : (t == [33]) = true := f1
      have S2 := Lib.hid (fun W (hp : PS w0 P W L2) => HO.out _ r W hp hps)
      clear hkk htl he HO HX hP
      go_enter Tryd.func39, Tryd.ntmps39
      go_wp2_with fail
      refine S1.out.mono ?_
      rintro e w1 ⟨rfl, hp1, hu1⟩
      have HU1 := Lib.hid hu1
      have T2 := Lib.hid (S2.out w1 hp1)
      clear S1 S2 hp1 hu1
      go_wp2_with fail
      refine T2.out.mono ?_
      rintro e w2 ⟨⟨v', rfl, hnew⟩, hu2, hrest⟩
      obtain ⟨pb, rfl⟩ := hnew.formE
      have HN := Lib.hid (fun T1 T => (node1 hnew hu2.size 3 0 T1 T).mono HU1.out.size)
      have HU2 := Lib.hid (HU1.out.trans hu2)
      have HR := Lib.hid hrest
      clear T2 hu2 HU1 hrest hnew
      go_wp2_with fail
      go_ret
      obtain ⟨L', r1, r2, r3⟩ := HR.out
      exact ⟨⟨_, rfl, HN.out _ _⟩, (HU2.out.alloc _).alloc _, L', r1, r2, r3.keep (((Upd.refl _ _).alloc _).alloc _)⟩
    | par hps =>
      obtain ⟨f1, f2, -⟩ := hf
      replace f1 : (t == [33]) = false := f1
      replace f2 : (t == [40]) = true := f2
      have S2 := Lib.hid (fun W (hp : PS w0 P W L2) => HX.out 1 x (.rpar :: r) W hp hps)
      have S3 := Lib.hid (nextI w0 P)
      clear hkk htl he HO HX hP
      go_enter Tryd.func39, Tryd.ntmps39
      go_wp2_with fail
      refine S1.out.mono ?_
      rintro e w1 ⟨rfl, hp1, hu1⟩
      have HU1 := Lib.hid hu1
      have T2 := Lib.hid (S2.out w1 hp1)
      have HPL := Lib.hid hp1.lt
      clear S1 S2 hp1 hu1
      go_wp2_with fail
      refine T2.out.mono ?_
      rintro e w2 ⟨⟨v', rfl, hnew⟩, hu2, L', hr1, hr2, hr3⟩
      obtain ⟨pb, rfl⟩ := hnew.formE
      match L', hr1, hr2, hr3 with
      | [], hr1, _, _ => exact absurd hr1 (by intro h; cases h)
      | (t2, n2) :: L3, hr1, hr2, hr3 =>
        have hr4 : kinds L3 = r := by simp only [kinds, List.map_cons, List.cons.injEq] at hr1; exact hr1.2
        have T3 := Lib.hid (S3.out w2 t2 n2 L3 hr3)
        have HNW := Lib.hid hnew
        have HU2 := Lib.hid (HU1.out.trans hu2)
        have HR := Lib.hid (And.intro hr4 hr2.tail)
        clear T2 S3 hu2 hr1 hr2 hr3 hr4 hnew
        go_wp2_with fail
        refine T3.out.mono ?_
        rintro e w3 ⟨rfl, hp3, hu3⟩
        have HP3 := Lib.hid hp3
        have HU3 := Lib.hid (HU2.out.trans hu3)
        have HNW3 := Lib.hid ((R_Ek.new HNW.out hu3 (fun b hb => by obtain rfl : b = P := (by simpa using hb); exact HPL.out)).mono HU1.out.size)
        clear T3 hp3 hu3 HNW HU2
        go_wp2_with fail
        go_ret
        exact ⟨⟨_, rfl, HNW3.out⟩, HU3.out, L3, HR.out.1, HR.out.2, HP3.out⟩

end Go.Proofs.YtpnokhhbakiiiaaDoor

/-
  Expressions parsed: what the first byte of a token tells; plain.
-/
namespace Go.Proofs.YtpnokhhbakiiiaaDoor
open Go.RowKit

def isNumK : Tk → Bool | .num _ => true | _ => false
def isVarK : Tk → Bool | .var _ => true | _ => false

theorem small_dig {c : UInt8} {r : List UInt8} {lim n : Int} (h : smallF lim (c :: r) = some n) : isDig c = true := by
  unfold smallF at h
  cases hn : numF (c :: r) with
  | none => rw [hn] at h; cases h
  | some m =>
    rw [hn] at h
    simp only at h
    split at h
    · rename_i hb
      have h1 := (numF_some hn).1
      obtain ⟨q, rfl⟩ : ∃ q : Nat, m = q := ⟨m.toNat, by omega⟩
      have h2 := dec_digits q
      rw [show Lib.decDigits q = c :: r by rw [h1]; simp [Lib.itoa]] at h2
      simp only [List.all_cons, Bool.and_eq_true] at h2
      exact h2.1
    · cases h

theorem kdF_inv {t : List UInt8} {k : Tk} (h : kdF t = some k) : match k with
    | .op o => o < 9 ∧ opIx t = some o ∧ opT o = t
    | .bang => t = [33]
    | .lpar => t = [40]
    | .rpar => t = [41]
    | .num n => smallF 64 t = some n
    | .var n => varF t = some n := by
  have hf := kd_facts h
  cases k with
  | op o => have := kdF_op h; exact ⟨this.1, this.2, (opIx_lt this.2).2⟩
  | bang => simpa [isBangK] using hf.2.1
  | lpar => simpa [isLparK] using hf.2.2.1
  | rpar => simpa [isRparK] using hf.2.2.2
  | num n => exact (kdF_num h).1
  | var n => exact kdF_var h

end Go.Proofs.YtpnokhhbakiiiaaDoor

/-
  Expressions parsed: the reference's parser.
-/
namespace Go.Proofs.YtpnokhhbakiiiaaDoor
open Go.RowKit

end Go.Proofs.YtpnokhhbakiiiaaDoor

/-
  Expressions parsed: the program's parser makes the tree of an expression.
-/
namespace Go.Proofs.YtpnokhhbakiiiaaDoor
open Go.RowKit

def lenAt (w : World) (P : Nat) : Nat := match w.cell? ⟨P, 0, none⟩ with | some (.slice _ n _) => n | _ => 0
theorem PS.len {w0 w : World} {P : Nat} {L : List (List UInt8 × Nat)} (h : PS w0 P w L) : lenAt w P = L.length := by
  obtain ⟨v, f, h1, h2⟩ := h.got
  obtain ⟨a, cap, rfl, -⟩ := slF2_open h2
  unfold lenAt
  rw [h1]

set_option maxRecDepth 20000 in
set_option maxHeartbeats 4000000 in
theorem expStep (w0 : World) (P N : Nat) (hG : Glob w0) (ho : OpdC w0 P (N + 1)) (hx : ExpC w0 P N) : ExpC w0 P (N + 1) := by
  intro L l x r w hl hk hP hps
  cases hps with
  | exp h1 h2 =>
    rename_i r1 x1
    have S1 := Lib.hid (ho L _ _ w hl hk hP h1)
    have HX := Lib.hid hx
    have HPK := Lib.hid (fun W L' (hp : PS w0 P W L') (hk : Toks L') => peekI w0 P W L' hG hp hk)
    have HNX := Lib.hid (nextI w0 P)
    have hlen := (ps_len h1).2 rfl
    have hkl : (kinds L).length = L.length := by simp [kinds]
    have HLN := Lib.hid (show r1.length ≤ N by omega)
    have HH := Lib.hid h2
    have HPL := Lib.hid hP.lt
    have HPL2 := Lib.hid (show ∀ b ∈ [P], b < w.heap.size from fun b hb => by obtain rfl : b = P := (by simpa using hb); exact hP.lt)
    clear hG ho hx hl hk hP h1 h2 hlen hkl
    go_enter Tryd.func22, Tryd.ntmps22
    go_wp2_with fail
    refine S1.out.mono ?_
    rintro e w1 ⟨⟨v', rfl, hnew⟩, hu1, L1, hr1, hr2, hr3⟩
    have HQ := Lib.hid (show New R_E w w1 v' x1 ∧ Upd [P] w w1 ∧ PS w0 P w1 L1 ∧ Toks L1 ∧ Ps (.lop l x1) (kinds L1) x r ∧ L1.length ≤ N from
      ⟨hnew, hu1, hr3, hr2, by rw [hr1]; exact HH.out, by have h := HLN.out; rw [← hr1] at h; simpa [kinds] using h⟩)
    clear S1 hnew hu1 hr1 hr2 hr3 HH HLN
    go_wp2_with fail
    go_loopw [5] (fun xv wr => ∃ (y : Ex) (L : List (List UInt8 × Nat)), Hid (New R_E w wr xv y ∧ Upd [P] w wr ∧ PS w0 P wr L ∧ Toks L ∧ Ps (.lop l y) (kinds L) x r ∧ L.length ≤ N)) (fun _ wr => lenAt wr P)
    case atStart => exact ⟨x1, L1, HQ⟩
    case round =>
      clear HQ
      obtain ⟨wo, rfl⟩ : ∃ wo : World, wo = wr := ⟨_, rfl⟩
      obtain ⟨y, L, HQ⟩ := hrel
      obtain ⟨qn, qu, qp, qk, ql, qN⟩ := HQ.out
      obtain ⟨pv, rfl⟩ := qn.formE
      have S2 := Lib.hid (HPK.out wo L qp qk)
      obtain ⟨K, hK⟩ : ∃ K, kinds L = K := ⟨_, rfl⟩
      obtain ⟨Z, hZ⟩ : ∃ Z, nlv K = Z := ⟨_, rfl⟩
      rw [hK] at S2 ql
      rw [hZ] at S2
      by_cases hlt : Z < l
      · have HXR := Lib.hid (show y = x ∧ K = r by
          cases ql with
          | stop _ => exact ⟨rfl, rfl⟩
          | more h1 h2 h3 h4 => exfalso; have h5 : lvl _ = Z := hZ; omega)
        have HK := Lib.hid hK
        clear ql qn qu qp qk qN hZ hK
        go_wp2_with fail
        refine S2.out.mono ?_
        rintro e w2 ⟨⟨o, rfl, -⟩, hu2⟩
        have HU2 := Lib.hid hu2
        clear S2 hu2
        go_wp2_with fail
        go_ret
        obtain ⟨qn, qu, qp, qk, -, -⟩ := HQ.out
        refine ⟨⟨_, rfl, ?_⟩, qu.trans (HU2.out.mono (by simp)), L, by rw [HK.out]; exact HXR.out.2, qk, qp.keep HU2.out⟩
        rw [← HXR.out.1]
        exact R_Ek.new qn HU2.out (by simp)
      · obtain ⟨o, KL, z, r1, hKo, ho9, hy, hl⟩ : ∃ (o : Nat) (KL : List Tk) (z : Ex) (r1 : List Tk), K = .op o :: KL ∧ o < 9 ∧ Ps (.exp (lvl o + 1)) KL z r1 ∧ Ps (.lop l (.mk (2, (o : Int)) [y, z])) r1 x r := by
          cases ql with
          | stop h => exact absurd h (by rw [hZ]; exact hlt)
          | more h1 h2 h3 h4 => exact ⟨_, _, _, _, rfl, h1, h3, h4⟩
        have hZo : Z = lvl o := by rw [← hZ, hKo]; rfl
        have hb := lvl_bd o ho9
        rw [← hZo] at hy hb
        match L, HQ, S2, qn, qu, qp, qk, qN, hK with
        | [], _, _, _, _, _, _, _, hK => exact absurd (hK.trans hKo) (by intro h; cases h)
        | (t, n) :: L2, HQ, S2, qn, qu, qp, qk, qN, hK =>
          have hk2 : kinds L2 = KL := by have h := hK.trans hKo; simp only [kinds, List.map_cons, List.cons.injEq] at h; exact h.2
          have hN2 : L2.length ≤ N := by simp only [List.length_cons] at qN; omega
          have HLE := Lib.hid (show lenAt wo P = L2.length + 1 from qp.len)
          have HN1 := Lib.hid (fun W (hp : PS w0 P W ((t, n) :: L2)) => HNX.out W t n L2 hp)
          have HX1 := Lib.hid (fun W (hp : PS w0 P W L2) => HX.out L2 (Z + 1) z r1 W hN2 qk.tail hp (by rw [hk2]; exact hy))
          have HKo := Lib.hid hKo
          have HLL := Lib.hid hl
          have HRL := Lib.hid (show r1.length ≤ L2.length by have h := (ps_len hy).1; rw [← hk2] at h; simpa [kinds] using h)
          have HN2 := Lib.hid hN2
          have hwr : IntKind.i64.wrap (Z + 1) = Z + 1 := by rw [IntKind.wrap_i64]; omega
          clear qn qu qp qk qN hZ hK ql hl hy hk2 hN2 hKo hZo HX HPK HNX
          go_wp2_with fail
          refine S2.out.mono ?_
          rintro e w2 ⟨⟨q, rfl, HO⟩, hu2⟩
          obtain rfl : q = o := HO.out o KL HKo.out
          have HU2 := Lib.hid hu2
          have T3 := Lib.hid (HN1.out w2 (HQ.out.2.2.1.keep hu2))
          clear S2 hu2 HN1 HO HKo
          go_wp2_with fail
          refine T3.out.mono ?_
          rintro e w3 ⟨rfl, hp3, hu3⟩
          have HU3 := Lib.hid ((HU2.out.mono (g := [P]) (by simp)).trans hu3)
          have HNA := Lib.hid (R_Ek.new HQ.out.1 ((HU2.out.mono (g := [P]) (by simp)).trans hu3) HPL2.out)
          have T4 := Lib.hid (HX1.out w3 hp3)
          clear T3 HX1 hp3 hu3 HU2
          go_wp2_with fail
          refine T4.out.mono ?_
          rintro e w4 ⟨⟨v4, rfl, hnew4⟩, hu4, L4, hr1, hr2, hr3⟩
          obtain ⟨pc, rfl⟩ := hnew4.formE
          have HA := Lib.hid (HQ.out.2.1.trans (HU3.out.trans hu4))
          have HNB := Lib.hid (fun T1 T => node2 HNA.out hu4 HPL2.out hnew4 (by have h1 := HQ.out.2.1.size; have h2 := HU3.out.size; omega) 2 (o : Int) T1 T)
          have HR := Lib.hid (show PS w0 P w4 L4 ∧ Toks L4 ∧ Ps (.lop l (.mk (2, (o : Int)) [y, z])) (kinds L4) x r ∧ L4.length ≤ L2.length from
            ⟨hr3, hr2, by rw [hr1]; exact HLL.out, by have h := HRL.out; rw [← hr1] at h; simpa [kinds] using h⟩)
          clear T4 hu4 hnew4 hr1 hr2 hr3 HNA HU3 HLL HRL
          go_wp2_with fail
          go_roundw
          case rel =>
            exact ⟨_, L4, Lib.hid ⟨HNB.out _ _, (HA.out.alloc _).alloc _, HR.out.1.keep (((Upd.refl _ _).alloc _).alloc _), HR.out.2.1, HR.out.2.2.1, by have h1 := HR.out.2.2.2; have h2 := HN2.out; omega⟩⟩
          case measure =>
            have h1 := fun o1 o2 => (HR.out.1.keep (((Upd.refl [] w4).alloc o1).alloc o2)).len
            have h2 := HLE.out
            have h3 := HR.out.2.2.2
            rw [h2, h1]
            omega

theorem parse_step (w0 : World) (P : Nat) (hG : Glob w0) (he : EnvT w0) : ∀ N, OpdC w0 P N ∧ ExpC w0 P N
  | 0 => by
    refine ⟨fun L x r w hl _ _ h => ?_, fun L l x r w hl _ _ h => ?_⟩
    · obtain rfl : L = [] := List.eq_nil_of_length_eq_zero (by omega)
      exact absurd h (by intro h; cases h)
    · obtain rfl : L = [] := List.eq_nil_of_length_eq_zero (by omega)
      exact absurd h (by
        intro h
        obtain ⟨K, hK⟩ : ∃ K, kinds [] = K := ⟨_, rfl⟩
        rw [hK] at h
        cases h with
        | exp h1 _ => rw [← hK] at h1; cases h1)
  | N + 1 => by
    have ih := parse_step w0 P hG he N
    have h1 := opdStep w0 P N hG he ih.1 ih.2
    exact ⟨h1, expStep w0 P N hG h1 ih.2⟩

theorem ps_flat {m : Md} {toks r : List Tk} {x : Ex} (h : Ps m toks x r) : (flatE x).length + r.length ≤ toks.length + (match m with | .lop _ y => (flatE y).length | _ => 0) := by
  induction h with
  | num => simp [flatE, flatEs]; omega
  | var => simp [flatE, flatEs]; omega
  | bang _ ih => simp only [flatE, flatEs, List.length_cons, List.length_append, List.length_nil] at ih ⊢; omega
  | par _ ih => simp only [List.length_cons] at ih ⊢; omega
  | exp _ _ ih1 ih2 => simp only at ih1 ih2 ⊢; omega
  | stop _ => simp only; omega
  | more _ _ _ _ ih1 ih2 => simp only [flatE, flatEs, List.length_cons, List.length_append, List.length_nil] at ih1 ih2 ⊢; omega

end Go.Proofs.YtpnokhhbakiiiaaDoor

/-
  Expressions parsed: the program's parser, whole.
-/
namespace Go.Proofs.YtpnokhhbakiiiaaDoor
open Go.RowKit

theorem toks_tk (s : List UInt8) (h : s.length ≤ 400) : Toks (tkS s 0).1 := fun e he => by
  obtain ⟨h1, -, h3⟩ := tkS_kd s s.length 0 (by omega) e he
  obtain ⟨k, hk⟩ := Option.isSome_iff_exists.1 h1
  exact ⟨k, hk, by omega⟩
theorem parseF_2 {s : List UInt8} (h : 400 < s.length) : parseF s = ([], 0, 2) := by unfold parseF; rw [if_pos h]
theorem parseF_8 {s : List UInt8} (h : ¬ 400 < s.length) (h2 : 0 ≤ errF (tkS s 0).2 s.length true 0 (tkS s 0).1) : parseF s = ([], errF (tkS s 0).2 s.length true 0 (tkS s 0).1, 8) := by
  unfold parseF; rw [if_neg h, if_pos h2]
theorem parseF_x {s : List UInt8} (h : ¬ 400 < s.length) (h2 : ¬ 0 ≤ errF (tkS s 0).2 s.length true 0 (tkS s 0).1) :
    ∃ x, Ps (.exp 1) (kinds (tkS s 0).1) x [] ∧ (flatE x).length ≤ 400 ∧ parseF s = if 60 < (flatE x).length then ([], 0, 5) else (flatE x, 0, 0) := by
  obtain ⟨x, h3, h4⟩ := parse_tree (s := s) (by omega)
  refine ⟨x, h3, ?_, ?_⟩
  · have h5 := ps_flat h3
    have h6 := tkS_len s s.length 0 (by omega)
    simp only [kinds, List.length_map, List.length_nil] at h5
    omega
  · unfold parseF; rw [if_neg h, if_neg h2, h4]

set_option maxRecDepth 20000 in
set_option maxHeartbeats 4000000 in
theorem parseI (s : List UInt8) (w : World) (hl0 : s.length ≤ 1048576) (hG : Glob w) (he : EnvT w) :
    Calls Tryd.prog 8 #[es s] w fun e w' => (∃ v', e = .returned (.tuple #[v', .int .i64 (parseF s).2.1, .int .i64 (parseF s).2.2]) ∧ New R_T1 w w' v' (parseF s).1) ∧ Upd [] w w' := by
  by_cases h4 : 400 < s.length
  · have HR := Lib.hid (parseF_2 h4)
    have h4' : (400 : Int) < (s.length : Int) := by omega
    generalize parseF s = R at *
    clear hG he h4 hl0
    go_enter Tryd.func8, Tryd.ntmps8
    go_wp2_with fail
    go_ret3
    exact ⟨⟨_, by rw [HR.out]; rfl, by rw [HR.out]; exact New.nilF 2 _ _ _⟩, Upd.refl _ _⟩
  · have h4' : ¬ (400 : Int) < (s.length : Int) := by omega
    have hl : s.length ≤ 1000000 := by omega
    clear hl0
    have S1 := Lib.hid (tokensI s w hl hG he)
    have S2 := Lib.hid (fun W v f (hu : Upd [] w W) (hR : R_Tx f W [v] (tkS s 0).1) => firstErrorI s _ v (tkS s 0).2 W f hR hl (fun e h => by obtain ⟨k, hk, -⟩ := toks_tk s (by omega) e h; rw [hk]; rfl) (hG.upd hu))
    have HT := Lib.hid (toks_tk s (by omega))
    have S3 := Lib.hid (fun W P (hu : Upd [] w W) => (parse_step W P (hG.upd hu) (he.upd hu) (tkS s 0).1.length).2)
    have HR8 := Lib.hid (fun h => parseF_8 h4 h)
    have HRX := Lib.hid (fun h => parseF_x h4 h)
    generalize parseF s = R at *
    generalize errF (tkS s 0).2 s.length true 0 (tkS s 0).1 = E at *
    obtain ⟨L, hL⟩ : ∃ L, (tkS s 0).1 = L := ⟨_, rfl⟩
    obtain ⟨bad, hbad⟩ : ∃ q, (tkS s 0).2 = q := ⟨_, rfl⟩
    rw [hL] at S1 S2 S3 HT HRX
    rw [hbad] at S1 S2
    clear hG he h4 hL hbad
    go_enter Tryd.func8, Tryd.ntmps8
    go_wp2_with fail
    refine S1.out.mono ?_
    rintro e w1 ⟨⟨v1, rfl, hnew1⟩, hu1⟩
    obtain ⟨f1, hR1, -, -⟩ := hnew1
    have HU1 := Lib.hid hu1
    have HF := Lib.hid hR1
    have T2 := Lib.hid (S2.out w1 v1 f1 hu1 hR1)
    obtain ⟨a1, c1, hv1, -, -, -⟩ := slF2_open hR1
    subst hv1
    clear S1 S2 hR1 hu1
    go_wp2_with fail
    refine T2.out.mono ?_
    rintro e w2 ⟨rfl, hu2⟩
    have HU2 := Lib.hid (HU1.out.trans hu2)
    have HF2 := Lib.hid ((slF_kept 2 _).upd HF.out hu2 (by simp))
    clear T2 hu2 HU1 HF
    by_cases hE : 0 ≤ E
    · have HX := Lib.hid (HR8.out hE)
      clear HR8 HRX S3 HT
      go_wp2_with fail
      go_ret3
      exact ⟨⟨_, by rw [HX.out]; rfl, by rw [HX.out]; exact New.nilF 2 _ _ _⟩, HU2.out⟩
    · obtain ⟨x, hps, hfl, hX⟩ := HRX.out (by omega)
      have HPS := Lib.hid hps
      have HX := Lib.hid hX
      have S4 := Lib.hid (fun W v fp (hR : R_E fp W [v] x) => listE x W v fp (by omega) hR)
      generalize flatE x = FX at *
      obtain ⟨P, hP⟩ : ∃ P, w2.heap.size = P := ⟨_, rfl⟩
      have T3 := Lib.hid (fun T cs (hcs : cs = #[Value.slice a1 L.length c1]) => S3.out w2 P HU2.out L 1 x [] (w2.alloc (.cells cs T)) (Nat.le_refl _) HT.out
        ⟨(Upd.refl _ _).alloc _, by omega, ⟨by simp, fun b hb => by obtain rfl : b = P := (by simpa using hb); rw [← hP]; exact ⟨_, _, heap_alloc_new w2 _⟩⟩, _, f1, cell_new w2 _ T P hP 0 _ (by rw [hcs]; rfl), HF2.out⟩ HPS.out)
      clear hps hX HR8 HRX S3 HT
      go_wp2_with fail
      refine (T3.out _ _ rfl).mono ?_
      rintro e w4 ⟨⟨v', rfl, hnew⟩, hu4, -⟩
      have HU4 := Lib.hid ((HU2.out.alloc _).fresh hu4 (fun b hb => Or.inl (by obtain rfl : b = P := (by simpa using hb); have := HU2.out.size; omega)))
      obtain ⟨fp, hR, -, -⟩ := hnew
      have T4 := Lib.hid (S4.out w4 v' fp hR)
      obtain ⟨pb, rfl⟩ := R_E_form hR
      clear T3 S4 hR hu4
      go_wp2_with fail
      refine T4.out.mono ?_
      rintro e w5 ⟨⟨v5, rfl, hnew5⟩, hu5⟩
      have HN5 := Lib.hid (hnew5.mono HU4.out.size)
      have HU5 := Lib.hid (HU4.out.trans hu5)
      obtain ⟨a5, c5, rfl⟩ := hnew5.form
      clear T4 hu5 HU4 hnew5
      by_cases h60 : 60 < FX.length
      · have HX2 := Lib.hid (HX.out.trans (if_pos h60))
        have h60' : (60 : Int) < (FX.length : Int) := by omega
        clear HX h60
        go_wp2_with fail
        go_ret3
        exact ⟨⟨_, by rw [HX2.out]; rfl, by rw [HX2.out]; exact New.nilF 2 _ _ _⟩, HU5.out⟩
      · have HX2 := Lib.hid (HX.out.trans (if_neg h60))
        have h60' : ¬ (60 : Int) < (FX.length : Int) := by omega
        clear HX h60
        go_wp2_with fail
        go_ret3
        exact ⟨⟨_, by rw [HX2.out]; rfl, by rw [HX2.out]; exact HN5.out⟩, HU5.out⟩

end Go.Proofs.YtpnokhhbakiiiaaDoor

/-
  Expressions parsed: the reference's parser, whole.
-/
namespace Go.Proofs.YtpnokhhbakiiiaaDoor
open Go.RowKit

end Go.Proofs.YtpnokhhbakiiiaaDoor

/-
  Expressions parsed: both sides, as the law wants them.
-/
namespace Go.Proofs.YtpnokhhbakiiiaaDoor
open Go.RowKit

/-- the variables of the library and of the program that a parser reads. -/
def PEnv (w : World) : Prop := Glob w ∧ EnvT w
theorem PEnv.upd {w w' : World} (h : PEnv w) (hu : Upd [] w w') : PEnv w' := ⟨h.1.upd hu, h.2.upd hu⟩

theorem parse_i (s : List UInt8) (w : World) (hl : s.length ≤ 1048576) (hE : PEnv w) :
    Calls Tryd.prog 8 #[es s] w fun e w' => (∃ v', e = .returned (.tuple #[v', .int .i64 (parseF s).2.1, .int .i64 (parseF s).2.2]) ∧ New R_T1 w w' v' (parseF s).1) ∧ Upd [] w w' := parseI s w hl hE.1 hE.2
end Go.Proofs.YtpnokhhbakiiiaaDoor

/-
  Expressions parsed: the text of an expression is parsed to it, and errors in its beginnings stand at their ends; plain.
-/
namespace Go.Proofs.YtpnokhhbakiiiaaDoor
open Go.RowKit

/-- the text of a token. -/
def rtk : Tk → List UInt8
  | .op o => opT o
  | .bang => [33]
  | .lpar => [40]
  | .rpar => [41]
  | .num n => Lib.itoa n
  | .var k => 118 :: Lib.itoa k
def gtk : Tk → Prop
  | .op o => o < 9
  | .num n => 0 ≤ n ∧ n < 64
  | .var k => 0 ≤ k ∧ k < 29
  | _ => True

theorem op_cases {o : Nat} (h : o < 9) : o = 0 ∨ o = 1 ∨ o = 2 ∨ o = 3 ∨ o = 4 ∨ o = 5 ∨ o = 6 ∨ o = 7 ∨ o = 8 := by omega

/-- a small number's text. -/
theorem itoa_two {n : Int} (h0 : 0 ≤ n) (h1 : n < 64) : (n < 10 ∧ ∃ c, Lib.itoa n = [c] ∧ isDig c = true) ∨ (10 ≤ n ∧ ∃ c d, Lib.itoa n = [c, d] ∧ isDig c = true ∧ isDig d = true ∧ Lib.itoa (n / 10) = [c]) := by
  obtain ⟨q, rfl⟩ : ∃ q : Nat, n = q := ⟨n.toNat, by omega⟩
  have hi : ∀ q : Nat, Lib.itoa (q : Int) = Lib.decDigits q := fun q => by simp [Lib.itoa]
  by_cases h : q < 10
  · left
    refine ⟨by omega, _, by rw [hi, Lib.decDigits_one h], isDig_nat h⟩
  · right
    refine ⟨by omega, _, _, by rw [hi, Lib.decDigits_two h (by omega)], isDig_nat (by omega), isDig_nat (by omega), ?_⟩
    rw [show ((q : Int) / 10) = ((q / 10 : Nat) : Int) by omega, hi, Lib.decDigits_one (by omega)]
theorem itoa_dig {n : Int} (h0 : 0 ≤ n) (h1 : n < 64) : (Lib.itoa n).all isDig = true ∧ Lib.itoa n ≠ [] ∧ (Lib.itoa n).length ≤ 2 := by
  rcases itoa_two h0 h1 with ⟨-, c, h, hc⟩ | ⟨-, c, d, h, hc, hd, -⟩
  · rw [h]; simp [hc]
  · rw [h]; simp [hc, hd]
theorem small_itoa {lim n : Int} (h0 : 0 ≤ n) (h1 : n < lim) (h2 : lim ≤ 64) : smallF lim (Lib.itoa n) = some n := by
  unfold smallF
  rw [numF_itoa n (by
    have h := (itoa_dig h0 (by omega : n < 64)).2.2
    have h3 : (digL (Lib.itoa n)).length ≤ (Lib.itoa n).length := by unfold digL; split <;> simp
    omega)]
  simp only
  rw [if_pos ⟨h0, h1⟩]
theorem small_itoa_inv {lim n : Int} {t : List UInt8} (h : smallF lim t = some n) : 0 ≤ n ∧ n < lim ∧ t = Lib.itoa n := by
  unfold smallF at h
  cases hn : numF t with
  | none => rw [hn] at h; cases h
  | some m =>
    rw [hn] at h
    simp only at h
    split at h
    · rename_i hb
      injection h with h
      subst h
      exact ⟨hb.1, hb.2, (numF_some hn).1⟩
    · cases h
theorem opIx_none {t : List UInt8} {c : UInt8} {r : List UInt8} (ht : t = c :: r) (hc : isDig c = true ∨ c = 118 ∨ c = 33 ∨ c = 40 ∨ c = 41) : opIx t = none := by
  cases h : opIx t with
  | none => rfl
  | some o =>
    obtain ⟨h1, h2⟩ := opIx_lt h
    rw [ht] at h2
    rcases op_cases h1 with h | h | h | h | h | h | h | h | h <;> subst h <;> (simp only [opT] at h2; simp at h2; obtain ⟨rfl, -⟩ := h2; revert hc; decide)
theorem kd_rtk {k : Tk} (h : gtk k) : kdF (rtk k) = some k := by
  cases k with
  | op o =>
    have h : o < 9 := h
    rcases op_cases h with h | h | h | h | h | h | h | h | h <;> subst h <;> decide
  | bang => decide
  | lpar => decide
  | rpar => decide
  | num n =>
    obtain ⟨h0, h1⟩ : 0 ≤ n ∧ n < 64 := h
    obtain ⟨ha, hne, -⟩ := itoa_dig h0 h1
    show kdF (Lib.itoa n) = _
    have hs := small_itoa h0 h1 (Int.le_refl 64)
    obtain ⟨c, r, hc⟩ : ∃ c r, Lib.itoa n = c :: r := by
      cases hq : Lib.itoa n with
      | nil => exact absurd hq hne
      | cons c r => exact ⟨c, r, rfl⟩
    have hd : isDig c = true := by rw [hc] at ha; simp only [List.all_cons, Bool.and_eq_true] at ha; exact ha.1
    have hx : ∀ d : UInt8, isDig d = false → Lib.itoa n ≠ [d] := fun d hd' e => by
      rw [hc] at e; injection e with e1 _; subst e1; rw [hd] at hd'; cases hd'
    unfold kdF
    rw [opIx_none hc (Or.inl hd)]
    simp only
    rw [if_neg (hx 33 (by decide)), if_neg (hx 40 (by decide)), if_neg (hx 41 (by decide)), hs]
  | var n =>
    obtain ⟨h0, h1⟩ : 0 ≤ n ∧ n < 29 := h
    obtain ⟨ha, hne, -⟩ := itoa_dig h0 (by omega : n < 64)
    show kdF (118 :: Lib.itoa n) = _
    have hs := small_itoa h0 h1 (by omega : (29 : Int) ≤ 64)
    unfold kdF
    rw [opIx_none rfl (Or.inr (Or.inl rfl))]
    simp only
    rw [if_neg (by simp), if_neg (by simp), if_neg (by simp)]
    have h64 : smallF 64 (118 :: Lib.itoa n) = none := by
      cases hq : smallF 64 (118 :: Lib.itoa n) with
      | none => rfl
      | some m => exact absurd (small_dig hq) (by decide)
    rw [h64]
    simp only [varF, if_pos, hs, Option.map_some]

theorem takeWhile_app {p : UInt8 → Bool} : ∀ (a r : List UInt8), a.all p = true → (∀ c, r.head? = some c → p c = false) → (a ++ r).takeWhile p = a
  | [], r, _, h => by
    cases r with
    | nil => rfl
    | cons c r => simp [h c rfl]
  | c :: a, r, ha, h => by
    simp only [List.all_cons, Bool.and_eq_true] at ha
    simp [ha.1, takeWhile_app a r ha.2 h]
theorem takeWhile_take {p : UInt8 → Bool} : ∀ (r : List UInt8) (m : Nat), (r.takeWhile p).length ≤ m → (r.take m).takeWhile p = r.takeWhile p
  | [], m, _ => by simp
  | c :: r, 0, h => by
    simp only [List.takeWhile_cons] at h ⊢
    split at h
    · simp at h
    · rename_i hc; simp [hc]
  | c :: r, m + 1, h => by
    simp only [List.takeWhile_cons, List.take_succ_cons] at h ⊢
    split
    · rename_i hc
      simp only [hc, if_true, List.length_cons] at h
      rw [takeWhile_take r m (by omega)]
    · rfl

/-- a token ends where another byte follows than one that goes on with it. -/
theorem cut_rtk {k : Tk} (h : gtk k) {r : List UInt8} (hn : (isNumK k || isVarK k) = true → ∀ c, r.head? = some c → isDig c = false) (ho : isOpK k = true → r.head? ≠ some 61) : cutF (rtk k ++ r) = (rtk k).length := by
  cases k with
  | op o =>
    have h : o < 9 := h
    have ho' : (r.head? == some 61) = false := by simp [ho rfl]
    rcases op_cases h with h | h | h | h | h | h | h | h | h <;> subst h <;> simp [rtk, opT, cutF, isDig, ho']
  | bang => simp [rtk, cutF, isDig]
  | lpar => simp [rtk, cutF, isDig]
  | rpar => simp [rtk, cutF, isDig]
  | num n =>
    obtain ⟨h0, h1⟩ : 0 ≤ n ∧ n < 64 := h
    obtain ⟨ha, hne, -⟩ := itoa_dig h0 h1
    show cutF (Lib.itoa n ++ r) = (Lib.itoa n).length
    cases hq : Lib.itoa n with
    | nil => exact absurd hq hne
    | cons c l =>
      rw [hq] at ha
      simp only [List.all_cons, Bool.and_eq_true] at ha
      simp only [List.cons_append, cutF, ha.1, Bool.true_or, if_true, List.length_cons]
      rw [takeWhile_app l r ha.2 (hn rfl)]
      omega
  | var n =>
    obtain ⟨h0, h1⟩ : 0 ≤ n ∧ n < 29 := h
    obtain ⟨ha, hne, -⟩ := itoa_dig h0 (by omega : n < 64)
    show cutF (118 :: (Lib.itoa n ++ r)) = (118 :: Lib.itoa n).length
    have e : cutF (118 :: (Lib.itoa n ++ r)) = 1 + ((Lib.itoa n ++ r).takeWhile isDig).length := by simp [cutF]
    rw [e, takeWhile_app _ r ha (hn rfl), List.length_cons]
    omega

theorem head_rtk {k : Tk} (h : gtk k) : ∃ c l, rtk k = c :: l ∧ c ≠ 32 ∧ ((isNumK k || isVarK k || isBangK k || isLparK k) = true → c ≠ 61) ∧ ((isRparK k || (opIx (rtk k)).isSome) = true → isDig c = false) := by
  cases k with
  | op o =>
    have h : o < 9 := h
    rcases op_cases h with h | h | h | h | h | h | h | h | h <;> subst h <;> exact ⟨_, _, rfl, by decide, by decide, by decide⟩
  | bang => exact ⟨_, _, rfl, by decide, by decide, by decide⟩
  | lpar => exact ⟨_, _, rfl, by decide, by decide, by decide⟩
  | rpar => exact ⟨_, _, rfl, by decide, by decide, by decide⟩
  | num n =>
    obtain ⟨h0, h1⟩ : 0 ≤ n ∧ n < 64 := h
    obtain ⟨ha, hne, -⟩ := itoa_dig h0 h1
    show ∃ c l, Lib.itoa n = c :: l ∧ c ≠ 32 ∧ (_ → c ≠ 61) ∧ ((false || (opIx (Lib.itoa n)).isSome) = true → isDig c = false)
    cases hq : Lib.itoa n with
    | nil => exact absurd hq hne
    | cons c l =>
      rw [hq] at ha
      simp only [List.all_cons, Bool.and_eq_true] at ha
      refine ⟨c, l, rfl, fun e => by subst e; exact absurd ha.1 (by decide), fun _ e => by subst e; exact absurd ha.1 (by decide), fun h => ?_⟩
      rw [opIx_none rfl (Or.inl ha.1)] at h
      simp at h
  | var n =>
    refine ⟨118, Lib.itoa n, rfl, by decide, fun _ => by decide, fun _ => by decide⟩

theorem okT_head {b : Bool} {d : Nat} {toks : List Tk} (h : okT b d toks = true) (hg : ∀ k ∈ toks, gtk k) {c : UInt8} (hc : (toks.flatMap rtk).head? = some c) : (b = true → c ≠ 61) ∧ (b = false → isDig c = false) := by
  cases toks with
  | nil => simp at hc
  | cons k r =>
    obtain ⟨c', l, h1, -, h3, h4⟩ := head_rtk (hg k (by simp))
    rw [List.flatMap_cons, h1] at hc
    obtain rfl : c' = c := by simpa using hc
    have hgk := hg k (by simp)
    cases b with
    | true =>
      refine ⟨fun _ => h3 ?_, fun h => by cases h⟩
      cases k <;> first | rfl | simp [okT] at h
    | false =>
      refine ⟨fun h => (by cases h), fun _ => h4 ?_⟩
      cases k with
      | op o => have := (kdF_op (kd_rtk hgk)).2; simp [this]
      | rpar => rfl
      | _ => simp [okT] at h

/-- what follows a good token. -/
theorem okT_step {b : Bool} {d : Nat} {k : Tk} {r : List Tk} (h : okT b d (k :: r) = true) : ∃ b' d', okT b' d' r = true ∧ ((isNumK k || isVarK k) = true → b' = false) ∧ (isOpK k = true → b' = true) ∧
    ∀ (bad : Int) (len : Nat) (t : List UInt8) (n : Nat) (L : List (List UInt8 × Nat)), kdF t = some k → errF bad len b d ((t, n) :: L) = errF bad len b' d' L := by
  cases b with
  | true =>
    cases k with
    | op o => simp [okT] at h
    | rpar => simp [okT] at h
    | bang => exact ⟨true, d, h, fun h => (by cases h), fun _ => rfl, fun bad len t n L hk => by rw [errF, hk]⟩
    | lpar => exact ⟨true, d + 1, h, fun h => (by cases h), fun _ => rfl, fun bad len t n L hk => by rw [errF, hk]⟩
    | num v => exact ⟨false, d, h, fun _ => rfl, fun h => (by cases h), fun bad len t n L hk => by rw [errF, hk]⟩
    | var v => exact ⟨false, d, h, fun _ => rfl, fun h => (by cases h), fun bad len t n L hk => by rw [errF, hk]⟩
  | false =>
    cases k with
    | op o =>
      simp only [okT, Bool.and_eq_true, decide_eq_true_eq] at h
      exact ⟨true, d, h.2, fun h => (by cases h), fun _ => rfl, fun bad len t n L hk => by rw [errF, hk]⟩
    | rpar =>
      simp only [okT, Bool.and_eq_true, decide_eq_true_eq] at h
      exact ⟨false, d - 1, h.2, fun h => (by cases h), fun h => (by cases h), fun bad len t n L hk => by rw [errF, hk]; simp only; rw [if_pos h.1]⟩
    | _ => simp [okT] at h

theorem rtk_len {k : Tk} (h : gtk k) : 1 ≤ (rtk k).length := by
  obtain ⟨c, l, h1, -⟩ := head_rtk h
  rw [h1]; simp

/-- a text that is made of tokens in order has these tokens, and no error. -/
theorem tk_cat (s : List UInt8) : ∀ (toks : List Tk) (b : Bool) (d n : Nat), okT b d toks = true → (∀ k ∈ toks, gtk k) → n ≤ s.length → s.drop n = toks.flatMap rtk →
    ∃ L, tkS s n = (L, -1) ∧ kinds L = toks ∧ errF (-1) s.length b d L = -1
  | [], b, d, n, h, _, hn, hd => by
    have hl : s.length ≤ n := by
      have := congrArg List.length hd
      simp at this; omega
    refine ⟨[], tkS_end hl, rfl, ?_⟩
    cases b with
    | true => simp [okT] at h
    | false => 
      have hd0 : d = 0 := by simpa [okT] using h
      subst hd0; rfl
  | k :: r, b, d, n, h, hg, hn, hd => by
    have hgk := hg k (by simp)
    obtain ⟨b', d', h1, h2, h3, h4⟩ := okT_step h
    obtain ⟨c, l, hc, h32, -, -⟩ := head_rtk hgk
    have hlen := rtk_len hgk
    rw [List.flatMap_cons] at hd
    have hlt : n < s.length := by
      have := congrArg List.length hd
      simp only [List.length_drop, List.length_append] at this
      omega
    have hcut : cutF (s.drop n) = (rtk k).length := by
      rw [hd]
      refine cut_rtk hgk (fun hk e he => ?_) (fun hk he => ?_)
      · exact (okT_head h1 (fun k hk => hg k (by simp [hk])) he).2 (h2 hk)
      · exact (okT_head h1 (fun k hk => hg k (by simp [hk])) he).1 (h3 hk) rfl
    have hle : n + (rtk k).length ≤ s.length := by
      have := congrArg List.length hd
      simp only [List.length_drop, List.length_append] at this
      omega
    have hdr : s.drop (n + (rtk k).length) = r.flatMap rtk := by
      rw [← List.drop_drop, hd, List.drop_left]
    obtain ⟨L, e1, e2, e3⟩ := tk_cat s r b' d' (n + (rtk k).length) h1 (fun k hk => hg k (by simp [hk])) hle hdr
    have hsn : s[n] ≠ 32 := by
      have := List.drop_eq_getElem_cons hlt
      rw [hd, hc] at this
      simp only [List.cons_append, List.cons.injEq] at this
      rw [← this.1]; exact h32
    have hst := tkS_step hlt
    rw [if_neg hsn, hcut, hd, List.take_left, kd_rtk hgk, if_pos (show (some k).isSome = true from rfl), e1] at hst
    refine ⟨(rtk k, n) :: L, hst, ?_, ?_⟩
    · show (kdF (rtk k)).getD .bang :: kinds L = _
      rw [kd_rtk hgk, e2]; rfl
    · rw [h4 _ _ _ _ _ (kd_rtk hgk)]; exact e3

/-- terms: tokens that are no parentheses. -/
def cntK (L : List Tk) : Nat := L.countP fun k => !(isLparK k || isRparK k)
theorem ps_cnt {m : Md} {toks r : List Tk} {x : Ex} (h : Ps m toks x r) : (flatE x).length + cntK r = cntK toks + (match m with | .lop _ y => (flatE y).length | _ => 0) := by
  induction h with
  | num => simp [flatE, flatEs, cntK, isLparK, isRparK]; omega
  | var => simp [flatE, flatEs, cntK, isLparK, isRparK]; omega
  | bang _ ih => simp only [flatE, flatEs, List.length_cons, List.length_append, List.length_nil, cntK, List.countP_cons, isLparK, isRparK] at ih ⊢; simp at ih ⊢; omega
  | par _ ih => simp only [cntK, List.countP_cons, isLparK, isRparK] at ih ⊢; simp at ih ⊢; omega
  | exp _ _ ih1 ih2 => simp only at ih1 ih2 ⊢; omega
  | stop _ => simp only; omega
  | more _ _ _ _ ih1 ih2 => simp only [flatE, flatEs, List.length_cons, List.length_append, List.length_nil, cntK, List.countP_cons, isLparK, isRparK] at ih1 ih2 ⊢; simp at ih1 ih2 ⊢; omega

def dueM : Md → Bool | .lop _ _ => false | _ => true
theorem ps_ok {m : Md} {toks r : List Tk} {x : Ex} (h : Ps m toks x r) : ∀ d, okT false d r = true → okT (dueM m) d toks = true := by
  induction h with
  | num => exact fun d h => h
  | var => exact fun d h => h
  | bang _ ih => exact fun d h => ih d h
  | par _ ih =>
    intro d h
    exact ih (d + 1) (by
      show (decide (0 < d + 1) && okT false d _) = true
      rw [decide_eq_true (by omega)]; exact h)
  | exp _ _ ih1 ih2 => exact fun d h => ih1 d (ih2 d h)
  | stop _ => exact fun d h => h
  | more ho _ _ _ ih1 ih2 =>
    intro d h
    have h1 := ih1 d (ih2 d h)
    show (decide (_ < 9) && okT true d _) = true
    rw [decide_eq_true ho]
    exact h1

/-- the tokens of an expression's text. -/
def parT (b : Bool) (l : List Tk) : List Tk := if b then .lpar :: (l ++ [.rpar]) else l
mutual
def toksE : Ex → List Tk
  | .mk t args => if t.1 = 0 then [.num t.2] else if t.1 = 1 then [.var t.2] else if t.1 = 3 then .bang :: parT ((args.map isOp).getD 0 false) ((toksEs args).getD 0 [])
    else parT (decide ((args.map lvE).getD 0 9 < lvl t.2)) ((toksEs args).getD 0 []) ++ (.op t.2.toNat :: parT (decide ((args.map lvE).getD 1 9 ≤ lvl t.2)) ((toksEs args).getD 1 []))
def toksEs : List Ex → List (List Tk)
  | [] => []
  | x :: xs => toksE x :: toksEs xs
end

/-- a good expression. -/
inductive GX : Ex → Prop
  | num (n : Int) : 0 ≤ n → n < 64 → GX (.mk (0, n) [])
  | var (n : Int) : 0 ≤ n → n < 29 → GX (.mk (1, n) [])
  | neg {x : Ex} : GX x → GX (.mk (3, 0) [x])
  | op {x y : Ex} {o : Nat} : o < 9 → GX x → GX y → GX (.mk (2, (o : Int)) [x, y])

mutual
theorem gx_of : ∀ x : Ex, goodE 29 x = true → GX x
  | .mk t args, h => by
    rw [goodE_mk] at h
    simp only [Bool.and_eq_true, decide_eq_true_eq] at h
    obtain ⟨⟨hl, hok⟩, hg⟩ := h
    have ih := gxs_of args hg
    obtain ⟨a, v⟩ := t
    unfold tOk at hok
    unfold arity at hl
    simp only at hok hl
    split at hok
    · rename_i h0; subst h0
      have := inB_true hok
      have hl : args = [] := by simpa using hl
      subst hl
      exact .num v this.1 (by omega)
    · split at hok
      · rename_i h0; subst h0
        have := inB_true hok
        have hl : args = [] := by simpa using hl
        subst hl
        exact .var v this.1 (by omega)
      · split at hok
        · rename_i h0; subst h0
          have := inB_true hok
          have hl : args.length = 2 := by simp at hl; omega
          match args, hl, ih with
          | [x, y], _, ih =>
            obtain ⟨q, rfl⟩ : ∃ q : Nat, v = q := ⟨v.toNat, by omega⟩
            exact .op (by omega) (ih x (by simp)) (ih y (by simp))
        · split at hok
          · rename_i h0; subst h0
            have hl : args.length = 1 := by simp at hl; omega
            have hv : v = 0 := by simpa using hok
            subst hv
            match args, hl, ih with
            | [x], _, ih => exact .neg (ih x (by simp))
          · cases hok
theorem gxs_of : ∀ xs : List Ex, goodEs 29 xs = true → ∀ x ∈ xs, GX x
  | [], _ => fun x h => by cases h
  | y :: ys, h => fun x hx => by
    rw [goodEs_cons, Bool.and_eq_true] at h
    rcases List.mem_cons.1 hx with h1 | hx
    · rw [h1]; exact gx_of y h.1
    · exact gxs_of ys h.2 x hx
end

theorem par_tok (b : Bool) (l : List Tk) : (parT b l).flatMap rtk = par b (l.flatMap rtk) := by
  cases b <;> simp [parT, par, rtk, List.flatMap_append]
theorem text_toks {x : Ex} (h : GX x) : textE x = (toksE x).flatMap rtk ∧ ∀ k ∈ toksE x, gtk k := by
  have hp : ∀ (b : Bool) (l : List Tk), (∀ k ∈ l, gtk k) → ∀ k ∈ parT b l, gtk k := fun b l hl k hk => by
    cases b with
    | false => exact hl k hk
    | true =>
      simp only [parT, if_true, List.mem_cons, List.mem_append, List.not_mem_nil, or_false] at hk
      rcases hk with rfl | hk | rfl
      · trivial
      · exact hl k hk
      · trivial
  induction h with
  | num n h0 h1 => exact ⟨by simp [textE, toksE, rtk], fun k hk => by simp [toksE] at hk; subst hk; exact ⟨h0, h1⟩⟩
  | var n h0 h1 => exact ⟨by simp [textE, toksE, rtk], fun k hk => by simp [toksE] at hk; subst hk; exact ⟨h0, h1⟩⟩
  | neg _ ih =>
    refine ⟨?_, fun k hk => ?_⟩
    · simp [textE, toksE, textEs, toksEs, par_tok, ih.1, rtk]
    · simp only [toksE, toksEs] at hk
      simp only [show ¬ ((3 : Int) = 0) by decide, show ¬ ((3 : Int) = 1) by decide, if_false, if_true, List.mem_cons] at hk
      rcases hk with rfl | hk
      · trivial
      · exact hp _ _ ih.2 k hk
  | op ho _ _ ih1 ih2 =>
    refine ⟨?_, fun k hk => ?_⟩
    · simp [textE, toksE, textEs, toksEs, par_tok, ih1.1, ih2.1, rtk, List.flatMap_append]
    · simp only [toksE, toksEs] at hk
      simp only [show ¬ ((2 : Int) = 0) by decide, show ¬ ((2 : Int) = 1) by decide, show ¬ ((2 : Int) = 3) by decide, if_false, List.mem_append, List.mem_cons] at hk
      rcases hk with hk | rfl | hk
      · exact hp _ _ ih1.2 k hk
      · show _ < 9
        simp; omega
      · exact hp _ _ ih2.2 k hk

/-- an expression's tokens are parsed to it: where it stands alone as an operand, or as a sum of operands of a level. -/
theorem ps_text {x : Ex} (h : GX x) : (isOp x = false → ∀ r, Ps .opd (toksE x ++ r) x r) ∧
    ∀ (l : Int) (r r2 : List Tk) (z : Ex), l ≤ lvE x → nlv r ≤ lvE x → Ps (.lop l x) r z r2 → Ps (.exp l) (toksE x ++ r) z r2 := by
  have hpar : ∀ {x : Ex}, (∀ (l : Int) (r r2 : List Tk) (z : Ex), l ≤ lvE x → nlv r ≤ lvE x → Ps (.lop l x) r z r2 → Ps (.exp l) (toksE x ++ r) z r2) → 1 ≤ lvE x → ∀ r, Ps .opd (parT true (toksE x) ++ r) x r := fun {x} hx h1 r => by
    have := hx 1 (.rpar :: r) (.rpar :: r) x h1 (by show (0 : Int) ≤ _; omega) (.stop (by show (0 : Int) < 1; omega))
    have h2 := Ps.par this
    simpa [parT] using h2
  have hlv : ∀ {x : Ex}, GX x → 1 ≤ lvE x ∧ (isOp x = false → lvE x = 9) := fun {x} hx => by
    cases hx with
    | num => simp [lvE]
    | var => simp [lvE]
    | neg => simp [lvE]
    | op ho =>
      have := lvl_bd _ ho
      exact ⟨by simp [lvE]; omega, by simp [isOp]⟩
  induction h with
  | num n h0 h1 =>
    have hb : ∀ r, Ps .opd (toksE (.mk (0, n) []) ++ r) (.mk (0, n) []) r := fun r => by simpa [toksE] using Ps.num n r
    exact ⟨fun _ => hb, fun l r r2 z _ _ h => Ps.exp (hb r) h⟩
  | var n h0 h1 =>
    have hb : ∀ r, Ps .opd (toksE (.mk (1, n) []) ++ r) (.mk (1, n) []) r := fun r => by simpa [toksE] using Ps.var n r
    exact ⟨fun _ => hb, fun l r r2 z _ _ h => Ps.exp (hb r) h⟩
  | @neg x hx ih =>
    have hb : ∀ r, Ps .opd (toksE (.mk (3, 0) [x]) ++ r) (.mk (3, 0) [x]) r := fun r => by
      have e : toksE (.mk (3, 0) [x]) = .bang :: parT (isOp x) (toksE x) := by simp [toksE, toksEs]
      rw [e, List.cons_append]
      refine Ps.bang ?_
      cases ho : isOp x with
      | false => exact ih.1 ho r
      | true => exact hpar ih.2 (hlv hx).1 r
    exact ⟨fun _ => hb, fun l r r2 z _ _ h => Ps.exp (hb r) h⟩
  | @op x y o ho hx hy ih1 ih2 =>
    refine ⟨fun h => by simp [isOp] at h, fun l r r2 z hl hr h => ?_⟩
    have e : toksE (.mk (2, (o : Int)) [x, y]) = parT (decide (lvE x < lvl o)) (toksE x) ++ (.op o :: parT (decide (lvE y ≤ lvl o)) (toksE y)) := by simp [toksE, toksEs]
    have hl : l ≤ lvl o := by simpa [lvE] using hl
    have hr : nlv r ≤ lvl o := by simpa [lvE] using hr
    have hlo := lvl_bd o ho
    rw [e, List.append_assoc, List.cons_append]
    have hright : Ps (.exp (lvl o + 1)) (parT (decide (lvE y ≤ lvl o)) (toksE y) ++ r) y r := by
      by_cases hc : lvE y ≤ lvl o
      · rw [decide_eq_true hc]
        exact Ps.exp (hpar ih2.2 (hlv hy).1 r) (.stop (by omega))
      · rw [decide_eq_false hc]
        exact ih2.2 (lvl o + 1) r r y (by omega) (by omega) (.stop (by omega))
    have hmore : Ps (.lop l x) (.op o :: (parT (decide (lvE y ≤ lvl o)) (toksE y) ++ r)) z r2 := Ps.more ho hl hright h
    by_cases hc : lvE x < lvl o
    · rw [decide_eq_true hc]
      exact Ps.exp (hpar ih1.2 (hlv hx).1 _) hmore
    · rw [decide_eq_false hc]
      exact ih1.2 l _ r2 z (by omega) (by show lvl o ≤ _; omega) hmore

/-- a text of tokens in order is parsed. -/
theorem parse_toks {s : List UInt8} {toks : List Tk} {x : Ex} (hs : s = toks.flatMap rtk) (hg : ∀ k ∈ toks, gtk k) (hp : Ps (.exp 1) toks x []) (hl : s.length ≤ 400) (h60 : (flatE x).length ≤ 60) : parseF s = (flatE x, 0, 0) := by
  have hok : okT true 0 toks = true := ps_ok hp 0 rfl
  obtain ⟨L, h1, h2, h3⟩ := tk_cat s toks true 0 0 hok hg (by omega) (by rw [List.drop_zero]; exact hs)
  unfold parseF
  rw [if_neg (by omega), h1]
  simp only
  rw [h3, if_neg (by omega), h2, sy_all hp]
  exact if_neg (by show ¬ 60 < (flatE x).length; omega)
theorem parse_text {x : Ex} (h : goodE 29 x = true) (h60 : (flatE x).length ≤ 60) (hl : (textE x).length ≤ 400) : parseF (textE x) = (flatE x, 0, 0) := by
  obtain ⟨h1, h2⟩ := text_toks (gx_of x h)
  have hp := (ps_text (gx_of x h)).2 1 [] [] x (by
    have := gx_of x h
    cases this with
    | op ho => have := lvl_bd _ ho; simp [lvE]; omega
    | _ => simp [lvE]) (by
    have := gx_of x h
    cases this with
    | op ho => have := lvl_bd _ ho; simp [lvE, nlv]; omega
    | _ => simp [lvE, nlv]) (.stop (by simp [nlv]))
  rw [List.append_nil] at hp
  exact parse_toks h1 h2 hp hl h60
theorem parse_par {x : Ex} (h : goodE 29 x = true) (h60 : (flatE x).length ≤ 60) (hl : (textE x).length + 2 ≤ 400) : parseF ([40] ++ textE x ++ [41]) = (flatE x, 0, 0) := by
  obtain ⟨h1, h2⟩ := text_toks (gx_of x h)
  have hlv : 1 ≤ lvE x := by
    have := gx_of x h
    cases this with
    | op ho => have := lvl_bd _ ho; simp [lvE]; omega
    | _ => simp [lvE]
  have hp := (ps_text (gx_of x h)).2 1 [.rpar] [.rpar] x hlv (by show (0 : Int) ≤ _; omega) (.stop (by simp [nlv]))
  refine parse_toks (toks := .lpar :: (toksE x ++ [.rpar])) ?_ (fun k hk => ?_) (Ps.exp (Ps.par hp) (.stop (by simp [nlv]))) (by simp; omega) h60
  · rw [h1]; simp [rtk, List.flatMap_append]
  · simp only [List.mem_cons, List.mem_append, List.not_mem_nil, or_false] at hk
    rcases hk with rfl | hk | rfl
    · trivial
    · exact h2 k hk
    · trivial

theorem cut_take {x : List UInt8} {m : Nat} (h0 : x ≠ []) (h : cutF x ≤ m) : cutF (x.take m) = cutF x := by
  cases x with
  | nil => exact absurd rfl h0
  | cons c r =>
    have hp := cutF_pos (s := c :: r) (by simp)
    obtain ⟨m, rfl⟩ : ∃ m', m = m' + 1 := ⟨m - 1, by omega⟩
    rw [List.take_succ_cons]
    rw [cutF_cons] at h ⊢
    rw [cutF_cons]
    by_cases h1 : (isDig c || c == 118) = true
    · rw [if_pos h1] at h ⊢
      rw [if_pos h1, takeWhile_take r m (by omega)]
    · rw [if_neg h1] at h ⊢
      rw [if_neg h1]
      cases m with
      | zero =>
        split at h
        · omega
        · rename_i h2
          rw [if_neg h2]
          simp
      | succ m =>
        cases r with
        | nil => simp
        | cons d r => simp

/-- a token that is cut short: one of the same kind, or no token. -/
theorem tk_short {t : List UInt8} {k : Tk} (h : kdF t = some k) {j : Nat} (hj : 1 ≤ j) (hl : j < t.length) :
    (∃ k', kdF (t.take j) = some k' ∧ cutF (t.take j) = j ∧ (isOpK k = true ∧ isOpK k' = true ∨ isNumK k = true ∧ isNumK k' = true ∨ isVarK k = true ∧ isVarK k' = true)) ∨
    (j = 1 ∧ kdF (t.take j) = none ∧ cutF (t.take j) = 1 ∧ isVarK k = true) := by
  have hi := kdF_inv h
  have hkd : ∀ {k' : Tk}, gtk k' → t.take j = rtk k' → kdF (t.take j) = some k' ∧ cutF (t.take j) = j := fun {k'} hg he => by
    refine ⟨by rw [he]; exact kd_rtk hg, ?_⟩
    have := cut_rtk hg (r := []) (by simp) (by simp)
    rw [List.append_nil, ← he] at this
    rw [this, List.length_take]
    omega
  cases k with
  | op o =>
    obtain ⟨h1, -, h2⟩ := hi
    rcases op_cases h1 with h | h | h | h | h | h | h | h | h <;> subst h <;> subst h2 <;> simp only [opT] at hl hkd ⊢ <;> simp at hl
    all_goals first | omega | skip
    obtain rfl : j = 1 := by omega
    left
    obtain ⟨a, b⟩ := hkd (k' := .op 5) (by show 5 < 9; omega) rfl
    exact ⟨.op 5, a, b, Or.inl ⟨rfl, rfl⟩⟩
  | bang => simp at hi; subst hi; simp at hl; omega
  | lpar => simp at hi; subst hi; simp at hl; omega
  | rpar => simp at hi; subst hi; simp at hl; omega
  | num n =>
    have hn := (small_itoa_inv (show smallF 64 t = some n from hi))
    obtain ⟨h0, h1, rfl⟩ := hn
    rcases itoa_two h0 h1 with ⟨-, c, he, -⟩ | ⟨h10, c, d, he, -, -, h3⟩
    · rw [he] at hl; simp at hl; omega
    · rw [he] at hl
      simp at hl
      obtain rfl : j = 1 := by omega
      left
      obtain ⟨a, b⟩ := hkd (k' := .num (n / 10)) ⟨by omega, by omega⟩ (by rw [he]; exact h3.symm)
      exact ⟨_, a, b, Or.inr (Or.inl ⟨rfl, rfl⟩)⟩
  | var n =>
    cases t with
    | nil => simp at hl
    | cons c r =>
      have hv : (if c = 118 then smallF 29 r else none) = some n := hi
      split at hv
      · rename_i hc
        subst hc
        obtain ⟨h0, h1, rfl⟩ := small_itoa_inv hv
        have h64 : n < 64 := by omega
        by_cases hj1 : j = 1
        · subst hj1
          right
          refine ⟨rfl, ?_, by rw [List.take_succ_cons, List.take_zero]; decide, rfl⟩
          rw [List.take_succ_cons, List.take_zero]
          decide
        · rcases itoa_two h0 h64 with ⟨-, c, he, -⟩ | ⟨h10, c, d, he, -, -, h3⟩
          · rw [he] at hl; simp at hl; omega
          · rw [he] at hl
            simp at hl
            obtain rfl : j = 2 := by omega
            left
            obtain ⟨a, b⟩ := hkd (k' := .var (n / 10)) ⟨by omega, by omega⟩ (by rw [he]; show [118, c] = 118 :: Lib.itoa (n / 10); rw [h3])
            exact ⟨_, a, b, Or.inr (Or.inr ⟨rfl, rfl⟩)⟩
      · cases hv

/-- an error in a beginning of a text without errors is where the beginning ends, or one byte before. -/
theorem pre_err (t : List UInt8) (k : Nat) (hk : k ≤ t.length) : ∀ (f n : Nat) (b : Bool) (d : Nat), t.length - n ≤ f → n ≤ k → errF (tkS t n).2 t.length b d (tkS t n).1 < 0 →
    (errF (tkS (t.take k) n).2 k b d (tkS (t.take k) n).1 < 0 ∨ ((k : Int) - 1 ≤ errF (tkS (t.take k) n).2 k b d (tkS (t.take k) n).1 ∧ errF (tkS (t.take k) n).2 k b d (tkS (t.take k) n).1 ≤ k)) ∧
    cntK (kinds (tkS (t.take k) n).1) ≤ cntK (kinds (tkS t n).1) := by
  intro f
  have hend : ∀ (b : Bool) (d : Nat), errF (-1) k b d [] < 0 ∨ ((k : Int) - 1 ≤ errF (-1) k b d [] ∧ errF (-1) k b d [] ≤ k) := fun b d => by
    rw [show errF (-1) k b d [] = if b || decide (0 < d) then (k : Int) else -1 by cases b <;> rfl]
    split <;> omega
  have hlen : (t.take k).length = k := by rw [List.length_take]; omega
  induction f with
  | zero =>
    intro n b d hf hn he
    have : n = k := by omega
    subst this
    rw [tkS_end (s := t.take n) (by omega)]
    exact ⟨hend b d, by simp [kinds, cntK]⟩
  | succ f ih =>
    intro n b d hf hn he
    by_cases hnk : n = k
    · subst hnk
      rw [tkS_end (s := t.take n) (by omega)]
      exact ⟨hend b d, by simp [kinds, cntK]⟩
    · have hlt : n < t.length := by omega
      have hlt2 : n < (t.take k).length := by omega
      have hgn : (t.take k)[n] = t[n] := by rw [List.getElem_take]
      have hdr : (t.take k).drop n = (t.drop n).take (k - n) := List.drop_take ..
      have hst := tkS_step hlt
      have hst2 := tkS_step hlt2
      rw [hgn] at hst2
      by_cases h32 : t[n] = 32
      · rw [if_pos h32] at hst hst2
        rw [hst] at he ⊢
        rw [hst2]
        exact ih (n + 1) b d (by omega) (by omega) he
      · rw [if_neg h32] at hst hst2
        have hne : t.drop n ≠ [] := by rw [List.drop_eq_getElem_cons hlt]; exact List.cons_ne_nil _ _
        have hcp := cutF_pos hne
        rw [List.length_drop] at hcp
        cases hkd : kdF ((t.drop n).take (cutF (t.drop n))) with
        | none =>
          rw [hkd, if_neg (by simp)] at hst
          rw [hst] at he
          exfalso
          rw [show errF (n : Int) t.length b d [] = if 0 ≤ (n : Int) then (n : Int) else if b || decide (0 < d) then (t.length : Int) else -1 by cases b <;> rfl, if_pos (by omega)] at he
          omega
        | some κ =>
          rw [hkd, if_pos (show (some κ).isSome = true from rfl)] at hst
          rw [hst] at he ⊢
          simp only at he ⊢
          have hgo : ∃ b' d', (∀ (bad : Int) (len : Nat) (t' : List UInt8) (n : Nat) (L : List (List UInt8 × Nat)) (κ' : Tk), kdF t' = some κ' → (κ' = κ ∨ isOpK κ = true ∧ isOpK κ' = true ∨ isNumK κ = true ∧ isNumK κ' = true ∨ isVarK κ = true ∧ isVarK κ' = true) → errF bad len b d ((t', n) :: L) = errF bad len b' d' L) := by
            have hbad : ∀ {x : Int}, x = (n : Int) → x < 0 → False := fun h1 h2 => by omega
            cases b with
            | true =>
              cases κ with
              | op o => exact (hbad (by rw [errF, hkd]) he).elim
              | rpar => exact (hbad (by rw [errF, hkd]) he).elim
              | bang => exact ⟨true, d, fun bad len t' n L κ' h1 h2 => by rcases h2 with rfl | ⟨h2, -⟩ | ⟨h2, -⟩ | ⟨h2, -⟩ <;> first | (rw [errF, h1]; done) | cases h2⟩
              | lpar => exact ⟨true, d + 1, fun bad len t' n L κ' h1 h2 => by rcases h2 with rfl | ⟨h2, -⟩ | ⟨h2, -⟩ | ⟨h2, -⟩ <;> first | (rw [errF, h1]; done) | cases h2⟩
              | num v => exact ⟨false, d, fun bad len t' n L κ' h1 h2 => by
                  rcases h2 with rfl | ⟨h2, -⟩ | ⟨-, h2⟩ | ⟨h2, -⟩
                  · rw [errF, h1]
                  · cases h2
                  · cases κ' <;> first | (rw [errF, h1]; done) | cases h2
                  · cases h2⟩
              | var v => exact ⟨false, d, fun bad len t' n L κ' h1 h2 => by
                  rcases h2 with rfl | ⟨h2, -⟩ | ⟨h2, -⟩ | ⟨-, h2⟩
                  · rw [errF, h1]
                  · cases h2
                  · cases h2
                  · cases κ' <;> first | (rw [errF, h1]; done) | cases h2⟩
            | false =>
              cases κ with
              | op o => exact ⟨true, d, fun bad len t' n L κ' h1 h2 => by
                  rcases h2 with rfl | ⟨-, h2⟩ | ⟨h2, -⟩ | ⟨h2, -⟩
                  · rw [errF, h1]
                  · cases κ' <;> first | (rw [errF, h1]; done) | cases h2
                  · cases h2
                  · cases h2⟩
              | rpar =>
                by_cases hd : 0 < d
                · exact ⟨false, d - 1, fun bad len t' n L κ' h1 h2 => by
                    rcases h2 with rfl | ⟨h2, -⟩ | ⟨h2, -⟩ | ⟨h2, -⟩ <;> first | (rw [errF, h1]; simp only; rw [if_pos hd]; done) | cases h2⟩
                · exact (hbad (by rw [errF, hkd]; simp only; rw [if_neg hd]) he).elim
              | bang => exact (hbad (by rw [errF, hkd]) he).elim
              | lpar => exact (hbad (by rw [errF, hkd]) he).elim
              | num v => exact (hbad (by rw [errF, hkd]) he).elim
              | var v => exact (hbad (by rw [errF, hkd]) he).elim
          obtain ⟨b', d', hgo⟩ := hgo
          rw [hgo _ _ _ _ _ κ hkd (Or.inl rfl)] at he
          by_cases hfit : n + cutF (t.drop n) ≤ k
          · have hc2 : cutF ((t.take k).drop n) = cutF (t.drop n) := by rw [hdr]; exact cut_take hne (by omega)
            have ht2 : ((t.take k).drop n).take (cutF (t.drop n)) = (t.drop n).take (cutF (t.drop n)) := by
              rw [hdr, List.take_take, Nat.min_eq_left (by omega)]
            rw [hc2, ht2, hkd, if_pos (show (some κ).isSome = true from rfl)] at hst2
            rw [hst2]
            simp only
            rw [hgo _ _ _ _ _ κ hkd (Or.inl rfl)]
            obtain ⟨h1, h2⟩ := ih (n + cutF (t.drop n)) b' d' (by omega) hfit he
            refine ⟨h1, ?_⟩
            simp only [kinds, List.map_cons, cntK, List.countP_cons] at h2 ⊢
            omega
          · have ht2 : (t.take k).drop n = ((t.drop n).take (cutF (t.drop n))).take (k - n) := by
              rw [hdr, List.take_take, Nat.min_eq_left (by omega)]
            have htl : ((t.drop n).take (cutF (t.drop n))).length = cutF (t.drop n) := by rw [List.length_take, List.length_drop]; omega
            rcases tk_short hkd (j := k - n) (by omega) (by omega) with ⟨κ', g1, g2, g3⟩ | ⟨g0, g1, g2, g3⟩
            · rw [← ht2] at g1 g2
              have hall : ((t.take k).drop n).take (k - n) = (t.take k).drop n := List.take_of_length_le (by rw [List.length_drop]; omega)
              rw [g2, hall, g1, if_pos (show (some κ').isSome = true from rfl), show n + (k - n) = k by omega, tkS_end (s := t.take k) (n := k) (by omega)] at hst2
              rw [hst2]
              simp only
              rw [hgo _ _ _ _ _ κ' g1 (Or.inr g3)]
              refine ⟨hend b' d', ?_⟩
              simp only [kinds, List.map_cons, List.map_nil, cntK, List.countP_cons, List.countP_nil, hkd, g1, Option.getD_some]
              have hp : (!(isLparK κ || isRparK κ)) = true := by
                rcases g3 with ⟨g3, -⟩ | ⟨g3, -⟩ | ⟨g3, -⟩ <;> cases κ <;> first | rfl | cases g3
              rw [hp]
              split <;> simp
            · rw [← ht2] at g1 g2
              have hall : ((t.take k).drop n).take 1 = (t.take k).drop n := List.take_of_length_le (by rw [List.length_drop]; omega)
              rw [g2, hall, g1, if_neg (by simp)] at hst2
              rw [hst2]
              simp only
              rw [show errF (n : Int) k b d [] = if 0 ≤ (n : Int) then (n : Int) else if b || decide (0 < d) then (k : Int) else -1 by cases b <;> rfl, if_pos (by omega)]
              exact ⟨Or.inr ⟨by omega, by omega⟩, by simp [kinds, cntK]⟩

/-- a beginning of a text that is parsed: parsed, or an error at its end. -/
theorem parse_pre {t : List UInt8} {e : List Tm} (h : parseF t = (e, 0, 0)) (k : Nat) (hk : k ≤ t.length) :
    (parseF (t.take k)).2.2 = 0 ∨ ((parseF (t.take k)).2.2 = 8 ∧ (k : Int) - 1 ≤ (parseF (t.take k)).2.1 ∧ (parseF (t.take k)).2.1 ≤ k) := by
  have hlen : (t.take k).length = k := by rw [List.length_take]; omega
  have h4 : ¬ 400 < t.length := fun hh => by rw [parseF_2 hh] at h; injection h with _ h; injection h with _ h; cases h
  have hE : ¬ 0 ≤ errF (tkS t 0).2 t.length true 0 (tkS t 0).1 := fun hh => by rw [parseF_8 h4 hh] at h; injection h with _ h; injection h with _ h; cases h
  obtain ⟨x, hx, -, hX⟩ := parseF_x h4 hE
  have h60 : (flatE x).length ≤ 60 := by
    rw [h] at hX
    by_cases h6 : 60 < (flatE x).length
    · rw [if_pos h6] at hX; injection hX with _ h; injection h with _ h; cases h
    · omega
  have hc := ps_cnt hx
  obtain ⟨p1, p2⟩ := pre_err t k hk t.length 0 true 0 (by omega) (by omega) (by omega)
  have h4' : ¬ 400 < (t.take k).length := by omega
  by_cases hE' : 0 ≤ errF (tkS (t.take k) 0).2 (t.take k).length true 0 (tkS (t.take k) 0).1
  · rw [parseF_8 h4' hE']
    right
    rw [hlen] at hE' ⊢
    rcases p1 with p1 | p1
    · omega
    · exact ⟨rfl, p1.1, p1.2⟩
  · left
    obtain ⟨y, hy, -, hY⟩ := parseF_x h4' hE'
    have hc' := ps_cnt hy
    simp only [cntK, List.countP_nil] at hc hc' p2
    rw [hY, if_neg (by omega)]

end Go.Proofs.YtpnokhhbakiiiaaDoor

/-
  The law FnExpressions: the call returns true for every input, where the tables hold what they hold at the start, and writes nothing that was there.
-/
namespace Go.Proofs.YtpnokhhbakiiiaaDoor
open Go.RowKit

theorem textRes_flat {x : Ex} (hok : okE x = true) (he : eOk (flatE x) = true) : textRes (flatE x) = textE x := by
  obtain ⟨h1, h2⟩ := treeOf_ok _ he
  have := tree_inj h1 hok h2
  simp [textRes, he, this]
theorem catFX (a b : List UInt8) : (ByteArray.mk a.toArray ++ ByteArray.mk b.toArray) = ByteArray.mk (a ++ b).toArray := ByteArray.mk_append_mk a b
theorem text_pos {x : Ex} (h : goodE 29 x = true) : 1 ≤ (textE x).length := by
  obtain ⟨h1, h2⟩ := text_toks (gx_of x h)
  rw [h1]
  have h3 : toksE x ≠ [] := by
    have := gx_of x h
    cases this <;> simp [toksE, toksEs]
  cases ht : toksE x with
  | nil => exact absurd ht h3
  | cons k r =>
    have := rtk_len (h2 k (by rw [ht]; simp))
    rw [List.flatMap_cons, List.length_append]
    omega

/-- what the text of an expression is parsed to, and its beginnings. -/
structure TxtP (T : List UInt8) (X : List Tm) : Prop where
  pos : 1 ≤ T.length
  len : T.length ≤ 91
  one : parseF T = (X, 0, 0)
  two : parseF ([40] ++ T ++ [41]) = (X, 0, 0)
  pre : ∀ k, k ≤ T.length → (parseF (T.take k)).2.2 = 0 ∨ ((parseF (T.take k)).2.2 = 8 ∧ (k : Int) - 1 ≤ (parseF (T.take k)).2.1 ∧ (parseF (T.take k)).2.1 ≤ k)
theorem TxtP.of {x : Ex} (hg : goodE 3 x = true) (hl : (flatE x).length ≤ 13) : TxtP (textE x) (flatE x) := by
  have h29 := goodE_more (show (3 : Int) ≤ 29 by omega) x hg
  have h1 := textE_len x h29
  have h2 := parse_text h29 (by omega) (by omega)
  exact ⟨text_pos h29, by omega, h2, parse_par h29 (by omega) (by omega), fun k hk => parse_pre h2 k hk⟩

set_option maxRecDepth 40000 in
set_option maxHeartbeats 4000000 in
theorem lawFnExpr (code : List Int) (v : Value) (fc : List Nat) (w : World) (hE : PEnv w) (hR : R_B fc w [v] code) (hb : bytesOk code) :
    Calls Tryd.prog 3 #[v] w fun e w' => e = .returned (.bool true) ∧ Upd [] w w' := by
  have S0 := Lib.hid (b10Long v code w fc hR)
  have HE := Lib.hid hE
  by_cases hlen : 1048576 < (code.length : Int)
  · rw [decide_eq_true hlen] at S0
    clear hR hb hE
    go_enter Tryd.func3, Tryd.ntmps3
    go_wp2_with fail
    refine S0.out.mono ?_
    rintro e w1 ⟨rfl, rfl⟩
    go_wp2_with fail
    go_ret
    exact ⟨rfl, Upd.refl _ _⟩
  · rw [decide_eq_false hlen] at S0
    have S1 := Lib.hid (b10Terms_draw v code w fc hR hb (by omega))
    clear hR hb hlen hE
    go_enter Tryd.func3, Tryd.ntmps3
    go_wp2_with fail
    refine S0.out.mono ?_
    rintro e w1 ⟨rfl, rfl⟩
    clear S0
    go_wp2_with fail
    refine S1.out.mono ?_
    rintro e w1 ⟨⟨v1, x, rfl, hgx, hlx, hn1⟩, hu1⟩
    have hokx : okE x = true := by unfold goodE at hgx; rw [Bool.and_eq_true] at hgx; exact hgx.1
    have hex := eOk_of_good hgx (by omega) (by omega)
    have HT := Lib.hid (TxtP.of hgx hlx)
    obtain ⟨a1, c1, rfl⟩ := hn1.form
    obtain ⟨f1, h1, -, -⟩ := hn1
    have S2 := text_i (flatE x) _ w1 f1 (HE.out.upd hu1).1 h1
    rw [textRes_flat hokx hex] at S2
    have HS2 := Lib.hid S2
    have H1 := Lib.hid h1
    have HU1 := Lib.hid hu1
    generalize flatE x = X at *
    generalize textE x = T at *
    clear S1 S2 hgx hokx hex h1 hu1 hlx
    go_wp2_with fail
    refine HS2.out.mono ?_
    rintro e w2 ⟨rfl, hu2⟩
    have HW2 := Lib.hid hu2
    have hp := HT.out.pos
    have hq := HT.out.len
    have hne : ((T.length : Int) == 0) = false := beq_eq_false_iff_ne.2 (by omega)
    have h398 : ¬ (400 : Int) < (T.length : Int) + 2 := by omega
    have hx2 := HT.out.two
    obtain ⟨T1, hT1⟩ : ∃ T1, [40] ++ T = T1 := ⟨_, rfl⟩
    obtain ⟨T2, hT2⟩ : ∃ T2, T1 ++ [41] = T2 := ⟨_, rfl⟩
    have n1 : ¬ (9223372036854775807 < 1 + T.length) := by omega
    have hl1 : T1.length = 1 + T.length := by rw [← hT1]; simp; omega
    have n2 : ¬ (9223372036854775807 < T1.length + 1) := by omega
    have hl2 : T2.length ≤ 100 := by rw [← hT2]; simp; omega
    have hc1 : (ByteArray.mk #[40] ++ ByteArray.mk T.toArray) = ByteArray.mk T1.toArray := by rw [← hT1]; exact catFX [40] T
    have hc2 : (ByteArray.mk T1.toArray ++ ByteArray.mk #[41]) = ByteArray.mk T2.toArray := by rw [← hT2]; exact catFX T1 [41]
    have P0 := fun W (hE : PEnv W) => parse_i T W (by omega) hE
    rw [HT.out.one] at P0
    have HP0 := Lib.hid P0
    have P1 := fun W (hE : PEnv W) => parse_i T2 W (by omega) hE
    rw [← hT2, ← hT1, hx2, hT1, hT2] at P1
    have HP1 := Lib.hid P1
    have HPK := Lib.hid (fun W k (hE : PEnv W) => parse_i (T.take k) W (by simp; omega) hE)
    have HPR := Lib.hid HT.out.pre
    have HE2 := Lib.hid ((HE.out.upd HU1.out).upd HW2.out)
    clear HS2 hu2 P0 P1 hT1 hT2 hl1 hx2 HT HE
    have T0 := Lib.hid (HP0.out w2 HE2.out)
    go_wp2_with fail
    refine T0.out.mono ?_
    rintro e w3 ⟨⟨v3, rfl, hn3⟩, hu3⟩
    obtain ⟨a3, c3, rfl⟩ := hn3.form
    obtain ⟨f3, h3, -, -⟩ := hn3
    have HW3 := Lib.hid (HW2.out.trans hu3)
    have HX3 := Lib.hid h3
    have HE3 := Lib.hid (HE2.out.upd hu3)
    have T1' := Lib.hid (HP1.out w3 HE3.out)
    clear T0 HP0 HP1 h3 hu3 HW2 HE2
    go_wp2_with fail
    refine T1'.out.mono ?_
    rintro e w4 ⟨⟨v4, rfl, hn4⟩, hu4⟩
    obtain ⟨a4, c4, rfl⟩ := hn4.form
    obtain ⟨f4, h4, -, -⟩ := hn4
    have HW4 := Lib.hid (HW3.out.trans hu4)
    have HX4 := Lib.hid h4
    have HE4 := Lib.hid (HE3.out.upd hu4)
    have T2' := Lib.hid (b10Terms_eq _ _ X w4 _ _ (R_T1k.upd HX3.out hu4 (by simp)) (R_T1k.upd H1.out HW4.out (by simp)))
    clear T1' h4 hu4 HW3 HE3 HX3
    go_wp2_with fail
    refine T2'.out.mono ?_
    rintro e w5 ⟨rfl, n5, rfl⟩
    have HW5 := Lib.hid (HW4.out.drewN n5)
    have HE5 := Lib.hid (show PEnv (w4.drewN n5) from HE4.out.upd ((Upd.refl _ _).drewN n5))
    have T3' := Lib.hid (b10Terms_eq _ _ X (w4.drewN n5) _ _ (R_T1k.drewN HX4.out n5) (R_T1k.upd H1.out HW5.out (by simp)))
    clear T2' HW4 HE4 HX4
    go_wp2_with fail
    refine T3'.out.mono ?_
    rintro e w6 ⟨rfl, n6, rfl⟩
    have HW6 := Lib.hid (HU1.out.trans (HW5.out.drewN n6))
    have HE6 := Lib.hid (show PEnv ((w4.drewN n5).drewN n6) from HE5.out.upd ((Upd.refl _ _).drewN n6))
    clear T3' HW5 HE5 H1 HU1
    go_wp2_with fail
    go_loopw [11] (fun kv wr => ∃ k : Nat, k ≤ T.length ∧ kv = .int .i64 k ∧ Hid (Upd [] w wr ∧ PEnv wr)) (fun kv _ => T.length - (intOf kv).toNat)
    case atStart => exact ⟨0, by omega, rfl, Lib.hid ⟨by have h := HW6.out; rwa [drewN_add] at h, by have h := HE6.out; rwa [drewN_add] at h⟩⟩
    case round =>
      clear HW6 HE6
      obtain ⟨wp, rfl⟩ : ∃ wp : World, wp = wr := ⟨_, rfl⟩
      obtain ⟨k, hk, rfl, HR⟩ := hrel
      by_cases hlt : k < T.length
      · have S3 := Lib.hid (HPK.out wp k HR.out.2)
        have hext := extract_list T 0 k
        rw [List.drop_zero, Nat.sub_zero] at hext
        have hF := HPR.out k hk
        generalize parseF (T.take k) = F at *
        obtain ⟨F0, A, C⟩ := F
        simp only at hF
        have hki : (k : Int) ≤ (T.length : Int) := by omega
        have hw2 : IntKind.i64.wrap ((k : Int) - 2) = (k : Int) - 2 := by rw [IntKind.wrap_i64]; omega
        rcases hF with hF | ⟨hF, hA1, hA2⟩
        · subst hF
          go_wp2_with fail
          refine S3.out.mono ?_
          rintro e w7 ⟨⟨v7, rfl, -⟩, hu7⟩
          have HU7 := Lib.hid (show Upd [] w w7 ∧ PEnv w7 from ⟨HR.out.1.trans hu7, HR.out.2.upd hu7⟩)
          clear S3 hu7 HR
          go_wp2_with fail
          go_roundw
          case rel => exact ⟨k + 1, by omega, by go_num, HU7⟩
          case measure => simp [intOf]; omega
        · subst hF
          have hA3 : ¬ A < (k : Int) - 2 := by omega
          have hA4 : ¬ (k : Int) < A := by omega
          go_wp2_with fail
          refine S3.out.mono ?_
          rintro e w7 ⟨⟨v7, rfl, -⟩, hu7⟩
          have HU7 := Lib.hid (show Upd [] w w7 ∧ PEnv w7 from ⟨HR.out.1.trans hu7, HR.out.2.upd hu7⟩)
          clear S3 hu7 HR
          go_wp2_with fail
          go_roundw
          case rel => exact ⟨k + 1, by omega, by go_num, HU7⟩
          case measure => simp [intOf]; omega
      · go_wp2_with fail
        go_ret
        exact ⟨rfl, HR.out.1⟩

end Go.Proofs.YtpnokhhbakiiiaaDoor
