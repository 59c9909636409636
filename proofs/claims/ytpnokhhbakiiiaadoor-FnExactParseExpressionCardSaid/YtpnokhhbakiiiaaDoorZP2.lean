/-
  Texts joined in one file: PsJ, PsK, PsL, PsM, PsN, PsU, PsV, PsW, PsX, PsO, PsYa, PsYb, PsQ, PsR, PsZ, PsE, LawParseExp.
-/
import Derived.Test.YtpnokhhbakiiiaaDoorZP1
import Derived.Deep.DeepCutAuto
import Derived.Deep.CutBlock
/-
  Expressions parsed: the program's tokens of a text.
-/
namespace Go.Proofs.YtpnokhhbakiiiaaDoor
open Go.RowKit

theorem kdF_some (t : List UInt8) : (kdF t).isSome = ((opIx t).isSome || (t == [33]) || (t == [40]) || (t == [41]) || (smallF 64 t).isSome || (varF t).isSome) := by
  unfold kdF
  cases opIx t with
  | some o => rfl
  | none =>
    simp only [Option.isSome_none, Bool.false_or]
    by_cases h1 : t = [33]
    · rw [if_pos h1, beq_iff_eq.2 h1]; rfl
    · rw [if_neg h1, beq_eq_false_iff_ne.2 h1]
      by_cases h2 : t = [40]
      · rw [if_pos h2, beq_iff_eq.2 h2]; rfl
      · rw [if_neg h2, beq_eq_false_iff_ne.2 h2]
        by_cases h3 : t = [41]
        · rw [if_pos h3, beq_iff_eq.2 h3]; rfl
        · rw [if_neg h3, beq_eq_false_iff_ne.2 h3]
          cases smallF 64 t with
          | some n => rfl
          | none => cases varF t <;> rfl

set_option maxRecDepth 20000 in
set_option maxHeartbeats 2000000 in
theorem isTokenI (t : List UInt8) (w : World) (hl : t.length ≤ 2000000) (hG : Glob w) (he : EnvT w) :
    Calls Tryd.prog 37 #[es t] w fun e w' => e = .returned (.bool (kdF t).isSome) ∧ Upd [] w w' := by
  have S1 := Lib.hid (readOpI t w hG)
  have S2 := Lib.hid (fun W (hu : Upd [] w W) => numberTokenI 64 t W hl (by omega) (by omega) (he.upd hu))
  have S3 := Lib.hid (fun W (hu : Upd [] w W) => variableTokenI t W hl (he.upd hu))
  have HK := Lib.hid (kdF_some t)
  generalize (kdF t).isSome = Z at *
  obtain ⟨q0, hq0⟩ : ∃ q, (opIx t).isSome = q := ⟨_, rfl⟩
  rw [hq0] at S1 HK
  generalize ((opIx t).map Int.ofNat).getD 0 = N0 at *
  obtain ⟨q1, hq1⟩ : ∃ q, (t == [33]) = q := ⟨_, rfl⟩
  obtain ⟨q2, hq2⟩ : ∃ q, (t == [40]) = q := ⟨_, rfl⟩
  obtain ⟨q3, hq3⟩ : ∃ q, (t == [41]) = q := ⟨_, rfl⟩
  rw [hq1, hq2, hq3] at HK
  clear hl hG he hq0
  go_enter Tryd.func37, Tryd.ntmps37
  go_wp2_with fail
  refine S1.out.mono ?_
  rintro e w1 ⟨rfl, hu⟩
  have HU := Lib.hid hu
  have T2 := Lib.hid (S2.out w1 hu)
  clear S1 S2 hu
  go_upto_region 2 with (fail)
  go_cut [26] (fun c wx => c = .bool (q0 || q1 || q2 || q3) ∧ wx = w1)
  case first =>
    clear S3 T2 HK
    cases q0 with
    | true => clear hq1 hq2 hq3; go_wp2_with fail; go_meet; exact ⟨rfl, rfl⟩
    | false =>
      cases q1 with
      | true => clear hq2 hq3; go_wp2_with fail; go_meet; exact ⟨rfl, rfl⟩
      | false =>
        cases q2 with
        | true => clear hq3; go_wp2_with fail; go_meet; exact ⟨rfl, rfl⟩
        | false =>
          go_wp2_with fail
          go_meet
          exact ⟨by first | rfl | (rw [hq3]; rfl) | simp, rfl⟩
  case rest =>
    obtain ⟨rfl, hwx⟩ := hcut
    obtain ⟨wz, rfl⟩ : ∃ q : World, q = wc := ⟨_, rfl⟩
    subst hwx
    clear hq1 hq2 hq3
    generalize (q0 || q1 || q2 || q3) = qq at *
    cases qq with
    | true =>
      have HX := Lib.hid (show Z = true by rw [HK.out]; rfl)
      clear HK S3 T2
      go_wp2_with fail
      go_ret
      exact ⟨by rw [HX.out]; rfl, HU.out⟩
    | false =>
      have HK2 := Lib.hid (show Z = ((smallF 64 t).isSome || (varF t).isSome) by rw [HK.out]; rfl)
      clear HK
      go_wp2_with fail
      refine T2.out.mono ?_
      rintro e w2 ⟨⟨N, rfl, -⟩, hu⟩
      have HU2 := Lib.hid (HU.out.trans hu)
      clear T2 hu
      generalize (smallF 64 t).isSome = q4 at *
      cases q4 with
      | true =>
        have HX := Lib.hid (show Z = true by rw [HK2.out]; rfl)
        clear HK2 S3
        go_wp2_with fail
        go_ret
        exact ⟨by rw [HX.out]; rfl, HU2.out⟩
      | false =>
        have HX := Lib.hid (show Z = (varF t).isSome by rw [HK2.out]; rfl)
        have T3 := Lib.hid (S3.out w2 HU2.out)
        clear HK2 S3
        go_wp2_with fail
        refine T3.out.mono ?_
        rintro e w3 ⟨⟨N2, rfl, -⟩, hu⟩
        have HU3 := Lib.hid (HU2.out.trans hu)
        clear T3 hu
        generalize (varF t).isSome = q5 at *
        go_wp2_with fail
        go_ret
        exact ⟨by rw [HX.out]; rfl, HU3.out⟩

end Go.Proofs.YtpnokhhbakiiiaaDoor

/-
  Expressions parsed: the program's tokens of a text.
-/
namespace Go.Proofs.YtpnokhhbakiiiaaDoor
open Go.RowKit

theorem Tryd.infoTok : (Tryd.prog.info? 74).map (fun i => (i.zero, i.size, i.bytes)) = some (some (.agg #[.string ⟨#[]⟩, .int .i64 0]), 2, 24) := by kernel_rfl
abbrev R_Tx : Rp (List (List UInt8 × Nat)) := slF 2 (fun e => [es e.1, ei (e.2 : Int)])
def txCs (e : List UInt8 × Nat) : List Value := [es e.1, ei (e.2 : Int)]
theorem pre_le (b : UInt8) (r : List UInt8) : Lib.hasPrefix (b :: r) [60, 61] = (b == 60 && r.head? == some 61) := by
  cases r with
  | nil => simp [Lib.hasPrefix, List.isPrefixOf]
  | cons c r =>
    simp only [Lib.hasPrefix, List.isPrefixOf, List.head?_cons, Bool.and_true]
    rw [Bool.eq_iff_iff]
    simp only [Bool.and_eq_true, beq_iff_eq, Option.some.injEq]
    exact ⟨fun h => ⟨h.1.symm, h.2.symm⟩, fun h => ⟨h.1.symm, h.2.symm⟩⟩
theorem byte_beq (b : UInt8) (k : Nat) (hk : k < 256) : ((b.toNat : Int) == (k : Int)) = (b == UInt8.ofNat k) := by
  rw [Bool.eq_iff_iff]
  simp only [beq_iff_eq]
  constructor
  · intro h
    apply UInt8.toNat_inj.1
    simp
    omega
  · intro h
    rw [h]
    simp
    omega

set_option maxRecDepth 20000 in
set_option maxHeartbeats 4000000 in
theorem tokensI (s : List UInt8) (w : World) (hl : s.length ≤ 1000000) (hG : Glob w) (he : EnvT w) :
    Calls Tryd.prog 20 #[es s] w fun e w' => (∃ v', e = .returned (.tuple #[v', .int .i64 (tkS s 0).2]) ∧ New R_Tx w w' v' (tkS s 0).1) ∧ Upd [] w w' := by
  obtain ⟨i1, ki, kz0, kz1, kz2⟩ := info_parts Tryd.infoTok
  have HD := Lib.hid isDigitI
  have HE := Lib.hid (fun n W (hn : n ≤ s.length) => digitsEndI s n W (by omega) hn)
  have HT := Lib.hid (fun t W (ht : t.length ≤ s.length) (hu : Upd [] w W) => isTokenI t W (by omega) (hG.upd hu) (he.upd hu))
  have HST := Lib.hid (fun n (h : n < s.length) => tkS_step h)
  have HEND := Lib.hid (tkS_end (s := s) (n := s.length) (Nat.le_refl _))
  obtain ⟨R, hR⟩ : ∃ R, tkS s 0 = R := ⟨_, rfl⟩
  rw [hR]
  have HR := Lib.hid hR
  have hRL : R.1.length ≤ s.length := by rw [← hR]; have := tkS_len s s.length 0 (by omega); omega
  have HRL := Lib.hid hRL
  clear hG he hR hRL
  go_enter Tryd.func20, Tryd.ntmps20
  go_wp2_with fail
  go_loopw [4, 5] (fun ov iv wr => ∃ (n : Nat) (L : List (List UInt8 × Nat)), n ≤ s.length ∧ iv = .int .i64 n ∧ Hid (wr.ownsRow w.heap.size 74 2 ov L.length (L.flatMap txCs)) ∧ Hid (R = (L ++ (tkS s n).1, (tkS s n).2)) ∧ Hid (Upd [] w wr)) (fun _ iv _ => s.length - (intOf iv).toNat)
  case atStart => exact ⟨0, [], Nat.zero_le _, rfl, Lib.hid (World.ownsRow_nil _ _ _ _), Lib.hid (by rw [HR.out]; rfl), Lib.hid (Upd.refl _ _)⟩
  case round =>
    obtain ⟨wo, rfl⟩ : ∃ wo : World, wo = wr := ⟨_, rfl⟩
    obtain ⟨n, L, hn, rfl, HO, HX, HU⟩ := hrel
    obtain ⟨oa, oc, hov⟩ := ownsRow_form HO.out
    subst hov
    have hLl : L.length ≤ s.length := by have h1 := HRL.out; have h2 := HX.out; rw [h2] at h1; simp only [List.length_append] at h1; omega
    by_cases hlt : n < s.length
    · obtain ⟨b, hb⟩ : ∃ b, s[n] = b := ⟨_, rfl⟩
      have hix : (⟨s.toArray⟩ : ByteArray)[n]'(by simpa [ByteArray.size] using hlt) = b := by rw [← hb]; simp [ByteArray.getElem_eq_getElem_data]
      have hnl : (n : Int) < (s.length : Int) := by omega
      have HS := Lib.hid (HST.out n hlt)
      rw [hb] at HS
      have hdr : s.drop n = b :: s.drop (n + 1) := by rw [List.drop_eq_getElem_cons hlt, hb]
      by_cases h32 : b = 32
      · have hq : ((b.toNat : Int) == 32) = true := by rw [h32]; rfl
        have HX2 := Lib.hid (show R = (L ++ (tkS s (n + 1)).1, (tkS s (n + 1)).2) by rw [HX.out, HS.out, if_pos h32])
        clear HX HS hb hdr h32
        go_wp2_with fail
        go_roundw
        case rel => exact ⟨n + 1, L, by omega, by go_num, HO, HX2, HU⟩
        case measure => simp [intOf]; omega
      · have hq : ((b.toNat : Int) == 32) = false := by
          have := byte_beq b 32 (by omega)
          rw [show ((32 : Nat) : Int) = 32 from rfl] at this
          rw [this]
          exact beq_eq_false_iff_ne.2 h32
        have HS2 := Lib.hid (show tkS s n = if (kdF ((s.drop n).take (cutF (s.drop n)))).isSome then (((s.drop n).take (cutF (s.drop n)), n) :: (tkS s (n + cutF (s.drop n))).1, (tkS s (n + cutF (s.drop n))).2) else ([], n) by rw [HS.out, if_neg h32])
        have HCP := Lib.hid (cutF_pos (s := s.drop n) (by rw [hdr]; exact List.cons_ne_nil _ _))
        have D1 := Lib.hid (HD.out b)
        have E1 := Lib.hid (HE.out (n + 1))
        have hq118 := byte_beq b 118 (by omega)
        rw [show ((118 : Nat) : Int) = 118 from rfl] at hq118
        have hext0 := extract_list s n s.length
        have hdt : (s.drop n).take (s.length - n) = s.drop n := List.take_of_length_le (by simp)
        rw [hdt] at hext0
        have PF := Lib.hid (Tryd.strings_HasPrefix ⟨(s.drop n).toArray⟩ ⟨#[60, 61]⟩)
        have e1 : (⟨(s.drop n).toArray⟩ : ByteArray).data.toList = s.drop n := rfl
        have e2 : (⟨#[60, 61]⟩ : ByteArray).data.toList = [60, 61] := rfl
        rw [e1, e2] at PF
        have HCV := Lib.hid (show cutF (s.drop n) = if isDig b || (b == 118) then 1 + ((s.drop (n + 1)).takeWhile isDig).length else if Lib.hasPrefix (s.drop n) [60, 61] then 2 else 1 by
          rw [hdr, pre_le]; rfl)
        obtain ⟨c, hc⟩ : ∃ c, cutF (s.drop n) = c := ⟨_, rfl⟩
        rw [hc] at HS2 HCP HCV
        obtain ⟨q1, hq1⟩ : ∃ q, isDig b = q := ⟨_, rfl⟩
        obtain ⟨q2, hq2⟩ : ∃ q, (b == UInt8.ofNat 118) = q := ⟨_, rfl⟩
        obtain ⟨q3, hq3⟩ : ∃ q, Lib.hasPrefix (s.drop n) [60, 61] = q := ⟨_, rfl⟩
        have HCV2 := Lib.hid (show c = if q1 || q2 then 1 + ((s.drop (n + 1)).takeWhile isDig).length else if q3 then 2 else 1 by
          rw [HCV.out, hq1, hq3, ← hq2]; rfl)
        rw [hq1] at D1
        rw [hq2] at hq118
        rw [hq3] at PF
        have hcl : c ≤ s.length - n := by have := HCP.out.2; simp at this; omega
        have hc1 : 1 ≤ c := HCP.out.1
        have hni : (n : Int) + 1 ≤ (s.length : Int) := by omega
        clear hb hdr h32 hc hq1 hq2 hq3 e1 e2 hdt HS HCV HCP
        go_upto_block 2 with (fail)
        go_cut [5, 6] (fun av ev wx => av = .int .i64 n ∧ ev = .int .i64 ((n + c : Nat) : Int) ∧ Hid (Upd [] wo wx))
        case first =>
          have HU0 := Lib.hid (Upd.refl [] wo)
          clear HT HS2 HX HO HEND HST
          go_wp2_with fail
          refine (D1.out wo).mono ?_
          rintro e w1 ⟨rfl, rfl⟩
          cases q1 with
          | true =>
            have HZ := Lib.hid (show ((n + 1 + ((s.drop (n + 1)).takeWhile isDig).length : Nat) : Int) = ((n + c : Nat) : Int) by rw [HCV2.out]; simp; omega)
            have E2 := Lib.hid (E1.out wo (by omega))
            rw [HZ.out] at E2
            rw [show ((n + 1 : Nat) : Int) = (n : Int) + 1 by omega] at E2
            clear D1 E1 HCV2 PF HZ
            go_wp2_with fail
            refine E2.out.mono ?_
            rintro e w2 ⟨rfl, hu⟩
            have HUE := Lib.hid hu
            clear E2 hu
            go_wp2_with fail
            go_meet
            exact ⟨rfl, rfl, HUE⟩
          | false =>
            cases q2 with
            | true =>
              have HZ := Lib.hid (show ((n + 1 + ((s.drop (n + 1)).takeWhile isDig).length : Nat) : Int) = ((n + c : Nat) : Int) by rw [HCV2.out]; simp; omega)
              have E2 := Lib.hid (E1.out wo (by omega))
              rw [HZ.out] at E2
              rw [show ((n + 1 : Nat) : Int) = (n : Int) + 1 by omega] at E2
              clear D1 E1 HCV2 PF HZ
              go_wp2_with fail
              refine E2.out.mono ?_
              rintro e w2 ⟨rfl, hu⟩
              have HUE := Lib.hid hu
              clear E2 hu
              go_wp2_with fail
              go_meet
              exact ⟨rfl, rfl, HUE⟩
            | false =>
              have HZ := Lib.hid (show c = if q3 then 2 else 1 by rw [HCV2.out]; rfl)
              clear D1 E1 HCV2
              go_wp2_with fail
              refine (PF.out wo).mono ?_
              rintro e w2 ⟨rfl, rfl⟩
              cases q3 with
              | true =>
                have hcc : c = 2 := HZ.out
                subst hcc
                clear PF HZ
                go_wp2_with fail
                go_meet
                exact ⟨rfl, by first | rfl | (simp; omega), HU0⟩
              | false =>
                have hcc : c = 1 := HZ.out
                subst hcc
                clear PF HZ
                go_wp2_with fail
                go_meet
                exact ⟨rfl, by first | rfl | (simp; omega), HU0⟩
        case rest =>
          obtain ⟨rfl, rfl, HUX⟩ := hcut
          obtain ⟨wz, rfl⟩ : ∃ q : World, q = wc := ⟨_, rfl⟩
          clear HCV2 PF D1 E1 hq hq118 hext0 hix
          obtain ⟨ne, hne2⟩ : ∃ ne : Nat, n + c = ne := ⟨_, rfl⟩
          rw [hne2] at HS2 ⊢
          have hext := extract_list s n ne
          rw [show ne - n = c by omega] at hext
          have hec : (ne : Int) ≤ (s.length : Int) := by omega
          have hne : (n : Int) ≤ (ne : Int) := by omega
          have hn0 : (0 : Int) ≤ (n : Int) := by omega
          have htl : ((s.drop n).take c).length ≤ s.length := by rw [List.length_take, List.length_drop]; omega
          have T1 := Lib.hid (HT.out ((s.drop n).take c) wz htl (HU.out.trans HUX.out))
          obtain ⟨tx, htx⟩ : ∃ tx, (s.drop n).take c = tx := ⟨_, rfl⟩
          rw [htx] at hext T1 HS2
          obtain ⟨qk, hqk⟩ : ∃ q, (kdF tx).isSome = q := ⟨_, rfl⟩
          rw [hqk] at T1 HS2
          clear htl htx hqk HT HST
          have HNE := Lib.hid hne2
          clear hne2
          go_wp2_with fail
          refine T1.out.mono ?_
          rintro e w2 ⟨rfl, hu⟩
          have HU2 := Lib.hid ((HU.out.trans HUX.out).trans hu)
          have HO2 := Lib.hid (ownsRow_upd (ownsRow_upd HO.out HUX.out) hu)
          clear T1 hu HO HUX
          cases qk with
          | false =>
            have HY := Lib.hid (show R = (L, (n : Int)) by rw [HX.out, HS2.out]; simp)
            clear HX HS2
            go_wp2_with fail
            go_ret2
            refine ⟨⟨_, by rw [HY.out]; rfl, ?_⟩, HU2.out⟩
            rw [HY.out]
            exact New.ofOwns2 (e := 74) HO2.out
          | true =>
            have HY := Lib.hid (show R = ((L ++ [(tx, n)]) ++ (tkS s ne).1, (tkS s ne).2) by rw [HX.out, HS2.out]; simp)
            have hown0 := HO2.out.alloc (.cells #[es tx, .int .i64 n] 74)
            have hsz2 := HU2.out.size
            clear HX HS2
            go_wp2_with (first
              | (at_builtin; refine wpList_append_tight _ rfl _ _ 40 rfl w.heap.size 74 i1 (.agg #[.string ⟨#[]⟩, .int .i64 0]) 2 24 Tryd.underlying40 ki kz0 kz1 kz2 rfl (by decide) _ _ _ rfl hown0 ⟨w2.heap.size, 0, none⟩ 1 1 [es tx, .int .i64 n] rfl rfl (fun j u hj => by rw [addr_add]; exact cell_new w2 #[es tx, .int .i64 n] _ _ rfl _ _ (by simpa using hj)) (by simp [Value.oneCell']) (by unfold maxLen; omega) (by omega) (by simp; omega) ?_)
              | fail)
            intro v4 w4 hown4 hg4 ht4
            have hu4 : Upd [] w w4 := (HU2.out.alloc _).grown hg4 (fun b hb => Or.inl (by have := (hown0.lt b hb).1; omega))
            have HQ := Lib.hid (And.intro hown4 hu4)
            clear hown4 hg4 ht4 hu4 hown0 HO2 HU2
            go_wp2_with fail
            go_roundw
            case rel => exact ⟨ne, L ++ [(tx, n)], by omega, by go_num, Lib.hid (by simpa [txCs] using HQ.out.1), HY, Lib.hid HQ.out.2⟩
            case measure => have h1 := HNE.out; simp [intOf]; omega
    · obtain rfl : n = s.length := by omega
      have HY := Lib.hid (show R = (L, -1) by rw [HX.out, HEND.out]; simp)
      clear HX HEND HST HT HE HD
      go_wp2_with fail
      go_ret2
      refine ⟨⟨_, by rw [HY.out]; rfl, ?_⟩, HU.out⟩
      rw [HY.out]
      exact New.ofOwns2 (e := 74) HO.out

end Go.Proofs.YtpnokhhbakiiiaaDoor

/-
  Expressions parsed: the program's first error.
-/
namespace Go.Proofs.YtpnokhhbakiiiaaDoor
open Go.RowKit

def isOpK : Tk → Bool | .op _ => true | _ => false
def isBangK : Tk → Bool | .bang => true | _ => false
def isLparK : Tk → Bool | .lpar => true | _ => false
def isRparK : Tk → Bool | .rpar => true | _ => false
theorem opT_ne {t : List UInt8} {o : Nat} (h : opIx t = some o) : (t == [33]) = false ∧ (t == [40]) = false ∧ (t == [41]) = false := by
  obtain ⟨h1, h2⟩ := opIx_lt h
  rcases (show o = 0 ∨ o = 1 ∨ o = 2 ∨ o = 3 ∨ o = 4 ∨ o = 5 ∨ o = 6 ∨ o = 7 ∨ o = 8 by omega) with h | h | h | h | h | h | h | h | h <;> subst h <;> rw [← h2] <;> decide
theorem kd_facts {t : List UInt8} {k : Tk} (h : kdF t = some k) : (opIx t).isSome = isOpK k ∧ (t == [33]) = isBangK k ∧ (t == [40]) = isLparK k ∧ (t == [41]) = isRparK k := by
  unfold kdF at h
  cases ho : opIx t with
  | some o =>
    rw [ho] at h
    cases h
    obtain ⟨a, b, c⟩ := opT_ne ho
    exact ⟨rfl, a, b, c⟩
  | none =>
    rw [ho] at h
    simp only at h
    by_cases h1 : t = [33]
    · rw [if_pos h1] at h; cases h; subst h1; exact ⟨rfl, rfl, rfl, rfl⟩
    · rw [if_neg h1] at h
      by_cases h2 : t = [40]
      · rw [if_pos h2] at h; cases h; subst h2; exact ⟨rfl, rfl, rfl, rfl⟩
      · rw [if_neg h2] at h
        by_cases h3 : t = [41]
        · rw [if_pos h3] at h; cases h; subst h3; exact ⟨rfl, rfl, rfl, rfl⟩
        · rw [if_neg h3] at h
          have e1 := beq_eq_false_iff_ne.2 h1
          have e2 := beq_eq_false_iff_ne.2 h2
          have e3 := beq_eq_false_iff_ne.2 h3
          split at h
          · cases h; exact ⟨rfl, e1, e2, e3⟩
          · cases hv : varF t with
            | none => rw [hv] at h; cases h
            | some v => rw [hv] at h; cases h; exact ⟨rfl, e1, e2, e3⟩

set_option maxRecDepth 20000 in
set_option maxHeartbeats 8000000 in
theorem firstErrorI (s : List UInt8) (L : List (List UInt8 × Nat)) (v : Value) (bad : Int) (w : World) (fp : List Nat) (hR : R_Tx fp w [v] L) (hl : s.length ≤ 1000000) (hk : ∀ e ∈ L, (kdF e.1).isSome = true) (hG : Glob w) :
    Calls Tryd.prog 21 #[es s, v, .int .i64 bad] w fun e w' => e = .returned (.int .i64 (errF bad s.length true 0 L)) ∧ Upd [] w w' := by
  obtain ⟨a, cap, rfl, l1, l2, hc⟩ := slF2_open hR
  unfold maxLen at l2
  have HC := Lib.hid hc
  have HK := Lib.hid hk
  have HRO := Lib.hid (fun t W (hu : Upd [] w W) => readOpI t W (hG.upd hu))
  have HE0 := Lib.hid (fun b d => show errF bad s.length b d [] = if 0 ≤ bad then bad else if b || decide (0 < d) then s.length else -1 by cases b <;> rfl)
  obtain ⟨EF, hEF⟩ : ∃ EF, EF = errF bad s.length := ⟨_, rfl⟩
  have HET := Lib.hid (show ∀ d t n r, EF true d ((t, n) :: r) = match kdF t with
    | some .bang => EF true d r
    | some .lpar => EF true (d + 1) r
    | some (.num _) => EF false d r
    | some (.var _) => EF false d r
    | _ => (n : Int) from fun d t n r => by rw [hEF]; rfl)
  have HEF := Lib.hid (show ∀ d t n r, EF false d ((t, n) :: r) = match kdF t with
    | some (.op _) => EF true d r
    | some .rpar => if 0 < d then EF false (d - 1) r else (n : Int)
    | _ => (n : Int) from fun d t n r => by rw [hEF]; rfl)
  rw [← hEF] at HE0 ⊢
  obtain ⟨Z, hZ⟩ : ∃ Z, EF true 0 L = Z := ⟨_, rfl⟩
  rw [hZ]
  have HZ := Lib.hid hZ
  clear hR hc hk hG hZ hEF
  go_enter Tryd.func21, Tryd.ntmps21
  go_wp2_with fail
  go_loopw [7, 8, 15] (fun bv dv iv wr => ∃ (b : Bool) (d k : Nat), k ≤ L.length ∧ d ≤ k ∧ bv = .bool b ∧ dv = .int .i64 d ∧ iv = .int .i64 k ∧ Hid (EF b d (L.drop k) = Z) ∧ Hid (Upd [] w wr)) (fun _ _ iv _ => L.length - (intOf iv).toNat)
  case atStart => exact ⟨true, 0, 0, Nat.zero_le _, Nat.le_refl _, rfl, rfl, rfl, Lib.hid HZ.out, Lib.hid (Upd.refl _ _)⟩
  case round =>
    clear HZ
    obtain ⟨wo, rfl⟩ : ∃ wo : World, wo = wr := ⟨_, rfl⟩
    obtain ⟨b, d, k, hk, hdk, rfl, rfl, rfl, HZ, HU⟩ := hrel
    by_cases hlt : k < L.length
    · obtain ⟨ba, oa, rfl, -, -, p1, p2⟩ := HC.out k hlt
      replace p1 := HU.out.keep p1
      replace p2 := HU.out.keep p2
      have hkl : (k : Int) < (L.length : Int) := by omega
      have hks := HK.out _ (List.getElem_mem hlt)
      have hz := HZ.out
      rw [List.drop_eq_getElem_cons hlt] at hz
      obtain ⟨e, he⟩ : ∃ e, L[k] = e := ⟨_, rfl⟩
      rw [he] at p1 p2 hks hz
      obtain ⟨t, n⟩ := e
      simp only at p1 p2 hks
      have HZ2 := Lib.hid hz
      obtain ⟨kk, hkk⟩ := Option.isSome_iff_exists.1 hks
      have hf := kd_facts hkk
      have HKK := Lib.hid hkk
      obtain ⟨wB, hwB⟩ : ∃ wB, wB = wo.alloc (.cells #[es t, .int .i64 n] 74) := ⟨_, rfl⟩
      obtain ⟨BE, hBE⟩ : ∃ B, B = wo.heap.size := ⟨_, rfl⟩
      have uB : Upd [] wo wB := by rw [hwB]; exact (Upd.refl _ _).alloc _
      have HQ := Lib.hid (fun W (hu : Upd [] wB W) => show W.cell? ⟨BE, 0, none⟩ = some (es t) ∧ W.cell? ⟨BE, 1, none⟩ = some (.int .i64 n) from
        ⟨hu.keep (by rw [hwB, hBE]; exact cell_new wo _ _ _ rfl 0 _ rfl), hu.keep (by rw [hwB, hBE]; exact cell_new wo _ _ _ rfl 1 _ rfl)⟩)
      obtain ⟨t0, t1⟩ := HQ.out wB (Upd.refl _ _)
      have HUB := Lib.hid (HU.out.trans uB)
      have R1' := Lib.hid (HRO.out t wB HUB.out)
      obtain ⟨qo, hqo⟩ : ∃ q, (opIx t).isSome = q := ⟨_, rfl⟩
      rw [hqo] at R1' hf
      generalize ((opIx t).map Int.ofNat).getD 0 = N0 at *
      clear hz he hks hkk hqo uB HZ HU
      go_upto_region 6 with (fail)
      rw [← hwB, ← hBE]
      clear hwB hBE p1 p2
      go_wp2_with fail
      refine R1'.out.mono ?_
      rintro r w2 ⟨rfl, hu2⟩
      obtain ⟨t0, t1⟩ := HQ.out w2 hu2
      have HU2 := Lib.hid (HUB.out.trans hu2)
      clear R1' hu2 HUB
      cases b with
      | true =>
        cases kk with
        | op o =>
          obtain ⟨f0, f1, f2, f3⟩ := hf
          replace f0 : qo = true := f0
          replace f1 : (t == [33]) = false := f1
          replace f2 : (t == [40]) = false := f2
          replace f3 : (t == [41]) = false := f3
          subst f0
          have HX := Lib.hid (show (n : Int) = Z by have := HZ2.out; rw [HET.out, HKK.out] at this; exact this)
          clear HZ2 HKK HET HEF HQ
          go_wp2_with fail
          go_ret
          exact ⟨by rw [← HX.out]; rfl, HU2.out⟩
        | bang =>
          obtain ⟨f0, f1, f2, f3⟩ := hf
          replace f0 : qo = false := f0
          replace f1 : (t == [33]) = true := f1
          replace f2 : (t == [40]) = false := f2
          replace f3 : (t == [41]) = false := f3
          subst f0
          have HX := Lib.hid (show EF true d (L.drop (k + 1)) = Z by have := HZ2.out; rw [HET.out, HKK.out] at this; exact this)
          clear HZ2 HKK HET HEF HQ
          go_wp2_with fail
          go_roundw
          case rel => exact ⟨true, d, k + 1, by omega, by omega, rfl, by go_num, by go_num, HX, HU2⟩
          case measure => simp [intOf]; omega
        | lpar =>
          obtain ⟨f0, f1, f2, f3⟩ := hf
          replace f0 : qo = false := f0
          replace f1 : (t == [33]) = false := f1
          replace f2 : (t == [40]) = true := f2
          replace f3 : (t == [41]) = false := f3
          subst f0
          have HX := Lib.hid (show EF true (d + 1) (L.drop (k + 1)) = Z by have := HZ2.out; rw [HET.out, HKK.out] at this; exact this)
          clear HZ2 HKK HET HEF HQ
          go_wp2_with fail
          go_roundw
          case rel => exact ⟨true, (d + 1), k + 1, by omega, by omega, rfl, by go_num, by go_num, HX, HU2⟩
          case measure => simp [intOf]; omega
        | rpar =>
          obtain ⟨f0, f1, f2, f3⟩ := hf
          replace f0 : qo = false := f0
          replace f1 : (t == [33]) = false := f1
          replace f2 : (t == [40]) = false := f2
          replace f3 : (t == [41]) = true := f3
          have f4 : (t != [41]) = false := by simp only [bne, f3]; rfl
          subst f0
          have HX := Lib.hid (show (n : Int) = Z by have := HZ2.out; rw [HET.out, HKK.out] at this; exact this)
          clear HZ2 HKK HET HEF HQ
          go_wp2_with fail
          go_ret
          exact ⟨by rw [← HX.out]; rfl, HU2.out⟩
        | num m =>
          obtain ⟨f0, f1, f2, f3⟩ := hf
          replace f0 : qo = false := f0
          replace f1 : (t == [33]) = false := f1
          replace f2 : (t == [40]) = false := f2
          replace f3 : (t == [41]) = false := f3
          have f4 : (t != [41]) = true := by simp only [bne, f3]; rfl
          subst f0
          have HX := Lib.hid (show EF false d (L.drop (k + 1)) = Z by have := HZ2.out; rw [HET.out, HKK.out] at this; exact this)
          clear HZ2 HKK HET HEF HQ
          go_wp2_with fail
          go_roundw
          case rel => exact ⟨false, d, k + 1, by omega, by omega, rfl, by go_num, by go_num, HX, HU2⟩
          case measure => simp [intOf]; omega
        | var m =>
          obtain ⟨f0, f1, f2, f3⟩ := hf
          replace f0 : qo = false := f0
          replace f1 : (t == [33]) = false := f1
          replace f2 : (t == [40]) = false := f2
          replace f3 : (t == [41]) = false := f3
          have f4 : (t != [41]) = true := by simp only [bne, f3]; rfl
          subst f0
          have HX := Lib.hid (show EF false d (L.drop (k + 1)) = Z by have := HZ2.out; rw [HET.out, HKK.out] at this; exact this)
          clear HZ2 HKK HET HEF HQ
          go_wp2_with fail
          go_roundw
          case rel => exact ⟨false, d, k + 1, by omega, by omega, rfl, by go_num, by go_num, HX, HU2⟩
          case measure => simp [intOf]; omega
      | false =>
        cases kk with
        | op o =>
          obtain ⟨f0, f1, f2, f3⟩ := hf
          replace f0 : qo = true := f0
          replace f1 : (t == [33]) = false := f1
          replace f2 : (t == [40]) = false := f2
          replace f3 : (t == [41]) = false := f3
          subst f0
          have HX := Lib.hid (show EF true d (L.drop (k + 1)) = Z by have := HZ2.out; rw [HEF.out, HKK.out] at this; exact this)
          clear HZ2 HKK HET HEF HQ
          go_wp2_with fail
          go_roundw
          case rel => exact ⟨true, d, k + 1, by omega, by omega, rfl, by go_num, by go_num, HX, HU2⟩
          case measure => simp [intOf]; omega
        | bang =>
          obtain ⟨f0, f1, f2, f3⟩ := hf
          replace f0 : qo = false := f0
          replace f1 : (t == [33]) = true := f1
          replace f2 : (t == [40]) = false := f2
          replace f3 : (t == [41]) = false := f3
          subst f0
          have HX := Lib.hid (show (n : Int) = Z by have := HZ2.out; rw [HEF.out, HKK.out] at this; exact this)
          clear HZ2 HKK HET HEF HQ
          go_wp2_with fail
          go_ret
          exact ⟨by rw [← HX.out]; rfl, HU2.out⟩
        | lpar =>
          obtain ⟨f0, f1, f2, f3⟩ := hf
          replace f0 : qo = false := f0
          replace f1 : (t == [33]) = false := f1
          replace f2 : (t == [40]) = true := f2
          replace f3 : (t == [41]) = false := f3
          subst f0
          have HX := Lib.hid (show (n : Int) = Z by have := HZ2.out; rw [HEF.out, HKK.out] at this; exact this)
          clear HZ2 HKK HET HEF HQ
          go_wp2_with fail
          go_ret
          exact ⟨by rw [← HX.out]; rfl, HU2.out⟩
        | rpar =>
          obtain ⟨f0, f1, f2, f3⟩ := hf
          replace f0 : qo = false := f0
          replace f1 : (t == [33]) = false := f1
          replace f2 : (t == [40]) = false := f2
          replace f3 : (t == [41]) = true := f3
          subst f0
          by_cases hd : 0 < d
          · have hdi : (0 : Int) < (d : Int) := by omega
            have HX := Lib.hid (show EF false (d - 1) (L.drop (k + 1)) = Z by have := HZ2.out; rw [HEF.out, HKK.out] at this; rw [← this]; show _ = if 0 < d then _ else _; rw [if_pos hd])
            clear HZ2 HKK HET HEF HQ
            go_wp2_with fail
            go_roundw
            case rel => exact ⟨false, (d - 1), k + 1, by omega, by omega, rfl, by go_num, by go_num, HX, HU2⟩
            case measure => simp [intOf]; omega
          · obtain rfl : d = 0 := by omega
            have HX := Lib.hid (show (n : Int) = Z by have := HZ2.out; rw [HEF.out, HKK.out] at this; exact this)
            clear HZ2 HKK HET HEF HQ
            go_wp2_with fail
            go_ret
            exact ⟨by rw [← HX.out]; rfl, HU2.out⟩
        | num m =>
          obtain ⟨f0, f1, f2, f3⟩ := hf
          replace f0 : qo = false := f0
          replace f1 : (t == [33]) = false := f1
          replace f2 : (t == [40]) = false := f2
          replace f3 : (t == [41]) = false := f3
          subst f0
          have HX := Lib.hid (show (n : Int) = Z by have := HZ2.out; rw [HEF.out, HKK.out] at this; exact this)
          clear HZ2 HKK HET HEF HQ
          go_wp2_with fail
          go_ret
          exact ⟨by rw [← HX.out]; rfl, HU2.out⟩
        | var m =>
          obtain ⟨f0, f1, f2, f3⟩ := hf
          replace f0 : qo = false := f0
          replace f1 : (t == [33]) = false := f1
          replace f2 : (t == [40]) = false := f2
          replace f3 : (t == [41]) = false := f3
          subst f0
          have HX := Lib.hid (show (n : Int) = Z by have := HZ2.out; rw [HEF.out, HKK.out] at this; exact this)
          clear HZ2 HKK HET HEF HQ
          go_wp2_with fail
          go_ret
          exact ⟨by rw [← HX.out]; rfl, HU2.out⟩
    · obtain rfl : k = L.length := by omega
      have HY := Lib.hid (show (if 0 ≤ bad then bad else if b || decide (0 < d) then (s.length : Int) else -1) = Z by
        have := HZ.out
        rw [List.drop_of_length_le (Nat.le_refl _), HE0.out] at this
        exact this)
      clear HZ HET HEF HE0
      by_cases hb : 0 ≤ bad
      · have HX := Lib.hid (show bad = Z by have := HY.out; rw [if_pos hb] at this; exact this)
        clear HY
        go_wp2_with fail
        go_ret
        exact ⟨by rw [← HX.out]; rfl, HU.out⟩
      · have hb2 : bad < 0 := by omega
        cases b with
        | true =>
          have HX := Lib.hid (show (s.length : Int) = Z by have := HY.out; rw [if_neg hb] at this; simpa using this)
          clear HY
          go_wp2_with fail
          go_ret
          exact ⟨by rw [← HX.out]; rfl, HU.out⟩
        | false =>
          by_cases hd : 0 < d
          · have HX := Lib.hid (show (s.length : Int) = Z by have := HY.out; rw [if_neg hb, decide_eq_true hd] at this; simpa using this)
            have hdi : (0 : Int) < (d : Int) := by omega
            clear HY
            go_wp2_with fail
            go_ret
            exact ⟨by rw [← HX.out]; rfl, HU.out⟩
          · obtain rfl : d = 0 := by omega
            have HX := Lib.hid (show (-1 : Int) = Z by have := HY.out; rw [if_neg hb] at this; simpa using this)
            clear HY
            go_wp2_with fail
            go_ret
            exact ⟨by rw [← HX.out]; rfl, HU.out⟩

end Go.Proofs.YtpnokhhbakiiiaaDoor

/-
  Expressions parsed: the program's parser looks at a token and goes on.
-/
namespace Go.Proofs.YtpnokhhbakiiiaaDoor
open Go.RowKit

/-- texts that are tokens. -/
def Toks (L : List (List UInt8 × Nat)) : Prop := ∀ e ∈ L, ∃ k, kdF e.1 = some k ∧ e.1.length ≤ 2000000
theorem Toks.tail {e : List UInt8 × Nat} {L : List (List UInt8 × Nat)} (h : Toks (e :: L)) : Toks L := fun x hx => h x (List.mem_cons_of_mem _ hx)

/-- the parser at P holds the tokens L. -/
structure PS (w0 : World) (P : Nat) (w : World) (L : List (List UInt8 × Nat)) : Prop where
  upd : Upd [] w0 w
  ge : w0.heap.size ≤ P
  own : Own [P] w
  got : ∃ v f, w.cell? ⟨P, 0, none⟩ = some v ∧ R_Tx f w0 [v] L
theorem PS.keep {w0 w w' : World} {P : Nat} {L : List (List UInt8 × Nat)} (h : PS w0 P w L) (hu : Upd [] w w') : PS w0 P w' L :=
  ⟨h.upd.trans hu, h.ge, h.own.upd hu (by simp), by obtain ⟨v, f, h1, h2⟩ := h.got; exact ⟨v, f, hu.keep h1, h2⟩⟩
theorem PS.lt {w0 w : World} {P : Nat} {L : List (List UInt8 × Nat)} (h : PS w0 P w L) : P < w.heap.size := h.own.lt P (by simp)

set_option maxRecDepth 20000 in
set_option maxHeartbeats 2000000 in
theorem peekI (w0 : World) (P : Nat) (w : World) (L : List (List UInt8 × Nat)) (hG : Glob w0) (hP : PS w0 P w L) (hk : Toks L) :
    Calls Tryd.prog 40 #[.pointer (some ⟨P, 0, none⟩)] w fun e w' => (∃ o : Int, e = .returned (.tuple #[.int .i64 o, .int .i64 (nlv (kinds L))]) ∧ Hid (∀ (k : Nat) r, kinds L = .op k :: r → o = k)) ∧ Upd [] w w' := by
  obtain ⟨v, f, hc, hR⟩ := hP.got
  obtain ⟨a, cap, rfl, l1, l2, hcc⟩ := slF2_open hR
  unfold maxLen at l2
  match L, hk, hcc with
  | [], _, _ =>
    have HN := Lib.hid (show nlv (kinds []) = 0 from rfl)
    generalize hZ : nlv (kinds []) = Z at *
    have HX := Lib.hid (show ∀ (k : Nat) r, kinds [] = .op k :: r → (0 : Int) = k from fun k r h => by cases h)
    clear hR hG hP hZ
    simp only [List.length_nil] at hc l1
    go_enter Tryd.func40, Tryd.ntmps40
    go_wp2_with fail
    go_ret2
    exact ⟨⟨0, by rw [HN.out]; rfl, HX⟩, Upd.refl _ _⟩
  | (t, n) :: L2, hk, hcc =>
    obtain ⟨b, o, rfl, -, -, p1, -⟩ := hcc 0 (by simp)
    replace p1 := hP.upd.keep p1
    simp only [List.getElem_cons_zero] at p1
    rw [Nat.zero_mul, Nat.add_zero] at p1
    obtain ⟨k, hkk, htl⟩ := hk (t, n) List.mem_cons_self
    simp only at hkk
    have hGw := hG.upd hP.upd
    have S1 := Lib.hid (readOpI t w hGw)
    have hf := (kd_facts hkk).1
    have hkn : kinds ((t, n) :: L2) = k :: kinds L2 := by simp [kinds, hkk]
    rw [hkn]
    clear hcc hk hR hG hP
    generalize kinds L2 = KL at *
    have hl0 : ((L2.length : Int) + 1 == 0) = false := by simp; omega
    have hl1 : (0 : Int) < (L2.length : Int) + 1 := by omega
    simp only [List.length_cons] at hc l1
    by_cases hop : isOpK k = true
    · obtain ⟨q, rfl⟩ : ∃ q, k = .op q := by cases k <;> first | exact ⟨_, rfl⟩ | cases hop
      obtain ⟨hq, hox⟩ := kdF_op hkk
      have hlv := hGw.lvs q hq
      rw [hox, show (Option.map Int.ofNat (some q)).getD 0 = (q : Int) from rfl, show (some q).isSome = true from rfl] at S1
      have HN := Lib.hid (show nlv (.op q :: KL) = lvl q from rfl)
      generalize nlv (.op q :: KL) = Z at *
      generalize lvl q = LQ at *
      have HX := Lib.hid (show ∀ (k : Nat) r, Tk.op q :: KL = .op k :: r → (q : Int) = k from fun k r h => by cases h; rfl)
      generalize Tk.op q :: KL = KK at *
      have hq9 : (q : Int) < 9 := by omega
      clear hf hkk hop htl hkn hox hGw
      go_enter Tryd.func40, Tryd.ntmps40
      go_wp2_with fail
      refine S1.out.mono ?_
      rintro e w1 ⟨rfl, hu⟩
      have HU := Lib.hid hu
      replace hlv := hu.keep hlv
      clear S1 hu
      go_wp2_with fail
      go_region_law (fail)
      go_wp2_with fail
      go_ret2
      exact ⟨⟨q, by rw [HN.out]; rfl, HX⟩, HU.out.drew⟩
    · have hof : isOpK k = false := by simpa using hop
      rw [hof] at hf
      rw [hf] at S1
      have HN := Lib.hid (show nlv (k :: KL) = 0 by cases k <;> first | rfl | cases hof)
      have HX := Lib.hid (show ∀ (o : Nat) r, k :: KL = .op o :: r → (0 : Int) = o from fun o r h => by cases h; cases hof)
      generalize k :: KL = KK at *
      generalize nlv KK = Z at *
      generalize ((opIx t).map Int.ofNat).getD 0 = N0 at *
      clear hf hkk hop htl hkn hGw hof
      go_enter Tryd.func40, Tryd.ntmps40
      go_wp2_with fail
      refine S1.out.mono ?_
      rintro e w1 ⟨rfl, hu⟩
      have HU := Lib.hid hu
      clear S1 hu
      go_wp2_with fail
      go_ret2
      exact ⟨⟨0, by rw [HN.out]; rfl, HX⟩, HU.out⟩

set_option maxRecDepth 20000 in
set_option maxHeartbeats 2000000 in
theorem nextI (w0 : World) (P : Nat) (w : World) (t : List UInt8) (n : Nat) (L : List (List UInt8 × Nat)) (hP : PS w0 P w ((t, n) :: L)) :
    Calls Tryd.prog 41 #[.pointer (some ⟨P, 0, none⟩)] w fun e w' => e = .returned (es t) ∧ PS w0 P w' L ∧ Upd [P] w w' := by
  obtain ⟨v, f, hc, hR⟩ := hP.got
  have hR0 := hR
  obtain ⟨a, cap, rfl, l1, l2, hcc⟩ := slF2_open hR
  unfold maxLen at l2
  obtain ⟨b, o, rfl, -, hbl, p1, -⟩ := hcc 0 (by simp)
  replace p1 := hP.upd.keep p1
  simp only [List.getElem_cons_zero] at p1
  rw [Nat.zero_mul, Nat.add_zero] at p1
  simp only [List.length_cons] at hc l1
  have hl1 : (0 : Int) < (L.length : Int) + 1 := by omega
  have hfz : w.frozen? ⟨P, 0, none⟩ = false := hP.own.frozen (by simp) _
  have HP := Lib.hid hP
  have HST := Lib.hid (fun (o' : Nat) (ho : L ≠ [] → o' = o + 2) => show PS w0 P (w.setCell ⟨P, 0, none⟩ (.slice (some ⟨b, o', none⟩) L.length (cap - 1))) L ∧ Upd [P] w (w.setCell ⟨P, 0, none⟩ (.slice (some ⟨b, o', none⟩) L.length (cap - 1))) from by
    obtain ⟨fp', hs, hf'⟩ := slF_tail (n := 2) (by intro x; rfl) hR0 o' ho
    simp only [List.length_cons, Nat.add_sub_cancel] at hs
    exact ⟨⟨hP.upd.setCell (Or.inl hP.ge) _, hP.ge, hP.own.setCell _ _, _, fp', World.cell?_setCell_same _ _ _ hc, hs⟩, (Upd.refl _ _).setCell (by simp) _⟩)
  clear hcc hR hR0 hP hbl
  by_cases hcap : cap = 1
  · subst hcap
    obtain rfl : L = [] := List.eq_nil_of_length_eq_zero (by omega)
    have HS2 := Lib.hid (HST.out o (fun h => absurd rfl h))
    clear HST HP
    go_enter Tryd.func41, Tryd.ntmps41
    go_wp2_with fail
    go_ret
    exact ⟨rfl, HS2.out⟩
  · have HS2 := Lib.hid (HST.out (o + 2) (fun _ => rfl))
    have hc2 : 1 < cap := by omega
    clear HST HP
    go_enter Tryd.func41, Tryd.ntmps41
    go_wp2_with fail
    go_ret
    exact ⟨rfl, HS2.out⟩

end Go.Proofs.YtpnokhhbakiiiaaDoor

/-
  Expressions parsed: a tree over operands that are made anew.
-/
namespace Go.Proofs.YtpnokhhbakiiiaaDoor
open Go.RowKit

theorem var_small {t : List UInt8} {k : Int} (h : varF t = some k) : smallF 64 t = none := by
  cases t with
  | nil => cases h
  | cons c r =>
    have hc : c = 118 := by
      by_cases hc : c = 118
      · exact hc
      · have h' : (if c = 118 then smallF 29 r else none) = some k := h
        rw [if_neg hc] at h'; cases h'
    subst hc
    unfold smallF
    cases hn : numF (118 :: r) with
    | none => rfl
    | some n =>
      exfalso
      have h1 := (numF_some hn).1
      have h2 := itoa_no n 118 (by decide) (by decide)
      rw [← h1] at h2
      exact h2 List.mem_cons_self

/-- a tree over no operand, made anew. -/
theorem node0 (w : World) (a b : Int) (T : TypeId) : New R_E w (w.alloc (.cells #[ei a, ei b, .slice none 0 0] T)) (.pointer (some ⟨w.heap.size, 0, none⟩)) (.mk (a, b) []) := by
  refine ⟨[w.heap.size], R_E_mk (cell_new w _ _ _ rfl 0 _ rfl) (cell_new w _ _ _ rfl 1 _ rfl) (cell_new w _ _ _ rfl 2 _ rfl) ⟨_, [], [], [], rfl, flat_nil _ 1, rfl, rfl, by simp⟩, ⟨by simp, fun b hb => ?_⟩, by simp⟩
  obtain rfl : b = w.heap.size := by simpa using hb
  exact ⟨_, _, heap_alloc_new w _⟩

theorem nodeK {w0 w : World} {us : List Value} {fps : List (List Nat)} {xs : List Ex} (hn : 0 < xs.length) (hn2 : xs.length ≤ 100) (h1 : us.length = xs.length) (h2 : fps.length = xs.length) (hs : w0.heap.size ≤ w.heap.size)
    (hr : ∀ i (h : i < xs.length) u (f : List Nat), us[i]? = some u → fps[i]? = some f → R_E f w [u] xs[i]) (ho : Own fps.flatten w) (hg : ∀ b ∈ fps.flatten, w0.heap.size ≤ b) (a b : Int) (T1 T : TypeId) :
    New R_E w0 ((w.alloc (.cells us.toArray T1)).alloc (.cells #[ei a, ei b, .slice (some ⟨w.heap.size, 0, none⟩) xs.length xs.length] T)) (.pointer (some ⟨w.heap.size + 1, 0, none⟩)) (.mk (a, b) xs) := by
  obtain ⟨w2, hw2⟩ : ∃ w2, (w.alloc (.cells us.toArray T1)).alloc (.cells #[ei a, ei b, .slice (some ⟨w.heap.size, 0, none⟩) xs.length xs.length] T) = w2 := ⟨_, rfl⟩
  have hz : (w.alloc (.cells us.toArray T1)).heap.size = w.heap.size + 1 := by simp
  have c0 := cell_new (w.alloc (.cells us.toArray T1)) #[ei a, ei b, .slice (some ⟨w.heap.size, 0, none⟩) xs.length xs.length] T _ rfl 0 _ rfl
  have c1 := cell_new (w.alloc (.cells us.toArray T1)) #[ei a, ei b, .slice (some ⟨w.heap.size, 0, none⟩) xs.length xs.length] T _ rfl 1 _ rfl
  have c2 := cell_new (w.alloc (.cells us.toArray T1)) #[ei a, ei b, .slice (some ⟨w.heap.size, 0, none⟩) xs.length xs.length] T _ rfl 2 _ rfl
  have hu : Upd [] w w2 := by rw [← hw2]; exact ((Upd.refl _ _).alloc _).alloc _
  have hb1 : w2.heap[w.heap.size]? = some (.cells us.toArray T1) := by rw [← hw2, Below.heap_alloc _ _ _ (by rw [hz]; omega)]; exact heap_alloc_new w _
  have hb2 : w2.heap[w.heap.size + 1]? = some (.cells #[ei a, ei b, .slice (some ⟨w.heap.size, 0, none⟩) xs.length xs.length] T) := by rw [← hw2, ← hz]; exact heap_alloc_new _ _
  have hsz : w2.heap.size = w.heap.size + 2 := by rw [← hw2]; simp
  rw [hw2] at c0 c1 c2 ⊢
  rw [hz] at c0 c1 c2
  clear hw2
  have hfl : ∀ c ∈ fps.flatten, c < w.heap.size := ho.lt
  refine ⟨(w.heap.size + 1) :: ([w.heap.size] ++ fps.flatten), R_E_mk c0 c1 c2 ⟨_, us, [w.heap.size], fps, rfl, ⟨_, xs.length, rfl, Nat.le_refl _, by unfold maxLen; omega, by omega, Or.inr ⟨_, 0, rfl, rfl, by omega, fun j u hu => ?_⟩⟩, h2, rfl, fun i hi u f hu' hf => ?_⟩, ⟨?_, fun c hc => ?_⟩, fun c hc => ?_⟩
  · rw [Nat.zero_add]
    simp [World.cell?, hb1, hu]
  · exact R_Ek.upd (hr i hi u f hu' hf) hu (by simp)
  · rw [List.singleton_append, List.nodup_cons, List.nodup_cons]
    refine ⟨fun hm => ?_, fun hm => ?_, ho.1⟩
    · rcases List.mem_cons.1 hm with h | h
      · omega
      · have := hfl _ h; omega
    · have := hfl _ hm; omega
  · rcases List.mem_cons.1 hc with rfl | hc
    · exact ⟨_, _, hb2⟩
    · rcases List.mem_append.1 hc with hc | hc
      · obtain rfl : c = w.heap.size := by simpa using hc
        exact ⟨_, _, hb1⟩
      · obtain ⟨q, t, hq⟩ := ho.2 c hc
        exact ⟨q, t, by rw [hu.block c (hfl c hc) (by simp)]; exact hq⟩
  · rcases List.mem_cons.1 hc with rfl | hc
    · omega
    · rcases List.mem_append.1 hc with hc | hc
      · obtain rfl : c = w.heap.size := by simpa using hc
        omega
      · exact hg c hc

/-- a tree over one operand. -/
theorem node1 {w0 w : World} {v : Value} {x : Ex} (h : New R_E w0 w v x) (hs : w0.heap.size ≤ w.heap.size) (a b : Int) (T1 T : TypeId) :
    New R_E w0 ((w.alloc (.cells #[v] T1)).alloc (.cells #[ei a, ei b, .slice (some ⟨w.heap.size, 0, none⟩) 1 1] T)) (.pointer (some ⟨w.heap.size + 1, 0, none⟩)) (.mk (a, b) [x]) := by
  obtain ⟨fp, h1, h2, h3⟩ := h
  exact nodeK (us := [v]) (fps := [fp]) (xs := [x]) (by simp) (by simp) rfl rfl hs (fun i hi u f hu hf => by
    match i, hi, hu, hf with
    | 0, _, hu, hf => simp at hu hf; subst hu hf; exact h1) (by simpa using h2) (by simpa using h3) a b T1 T
/-- a tree over two operands; the second is made behind the first. -/
theorem node2 {w0 w1 w : World} {u v : Value} {x y : Ex} {f : List Nat} (hx : New R_E w0 w1 u x) (hu : Upd f w1 w) (hf : ∀ b ∈ f, b < w0.heap.size) (hy : New R_E w1 w v y) (hs : w0.heap.size ≤ w1.heap.size) (a b : Int) (T1 T : TypeId) :
    New R_E w0 ((w.alloc (.cells #[u, v] T1)).alloc (.cells #[ei a, ei b, .slice (some ⟨w.heap.size, 0, none⟩) 2 2] T)) (.pointer (some ⟨w.heap.size + 1, 0, none⟩)) (.mk (a, b) [x, y]) := by
  obtain ⟨fx, x1, x2, x3⟩ := hx
  obtain ⟨fy, y1, y2, y3⟩ := hy
  have hd : ∀ b ∈ fx, b ∉ f := fun b hb hm => by have := hf b hm; have := x3 b hb; omega
  have x1' := R_Ek.upd x1 hu hd
  have x2' := x2.upd hu hd
  have hxl := x2.lt
  refine nodeK (us := [u, v]) (fps := [fx, fy]) (xs := [x, y]) (by simp) (by simp) rfl rfl (by have := hu.size; omega) (fun i hi q g hq hg => ?_) ⟨?_, fun c hc => ?_⟩ (fun c hc => ?_) a b T1 T
  · match i, hi, hq, hg with
    | 0, _, hq, hg => simp at hq hg; subst hq hg; exact x1'
    | 1, _, hq, hg => simp at hq hg; subst hq hg; exact y1
  · simp only [List.flatten_cons, List.flatten_nil, List.append_nil]
    exact List.nodup_append.2 ⟨x2'.1, y2.1, fun p hp q hq e => by subst e; have := hxl p hp; have := y3 p hq; omega⟩
  · simp only [List.flatten_cons, List.flatten_nil, List.append_nil, List.mem_append] at hc
    rcases hc with h | h
    · exact x2'.2 c h
    · exact y2.2 c h
  · simp only [List.flatten_cons, List.flatten_nil, List.append_nil, List.mem_append] at hc
    rcases hc with h | h
    · exact x3 c h
    · have := y3 c h; omega

end Go.Proofs.YtpnokhhbakiiiaaDoor

/-
  Expressions parsed: the reference reads blanks, digits, operators and small numbers.
-/
namespace Go.Proofs.YtpnokhhbakiiiaaDoor
open Go.RowKit

def opJ (t : List UInt8) : Int := match opIx t with | some o => o | none => -1
theorem opJ_none {t : List UInt8} (h : ∀ j : Nat, j < 9 → opT j ≠ t) : opIx t = none := by
  unfold opIx
  rw [List.find?_eq_none]
  intro j hj
  have := h j (by simpa using hj)
  simpa using this
theorem opJ_some {t : List UInt8} {k : Nat} (hk : k < 9) (h : ∀ j : Nat, j < k → opT j ≠ t) (h2 : opT k = t) : opIx t = some k := by
  unfold opIx
  rw [List.find?_range_eq_some]
  refine ⟨by simpa using h2, by simpa using hk, fun j hj => ?_⟩
  have := h j hj
  simpa using this

set_option maxRecDepth 20000 in
set_option maxHeartbeats 2000000 in
theorem l04OpR (t : List UInt8) (w : World) : Calls Tryd.prog 48 #[es t] w fun e w' => e = .returned (.int .i64 (opJ t)) ∧ Upd [] w w' := by
  have S1 := Lib.hid (l04OpsS w)
  have HN := Lib.hid (show (∀ j : Nat, j < 9 → opT j ≠ t) → opJ t = -1 from fun h => by unfold opJ; rw [opJ_none h])
  have HS := Lib.hid (show ∀ k : Nat, k < 9 → (∀ j : Nat, j < k → opT j ≠ t) → opT k = t → opJ t = k from fun k hk h h2 => by unfold opJ; rw [opJ_some hk h h2])
  generalize opJ t = Z at *
  go_enter Tryd.func48, Tryd.ntmps48
  go_wp2_with fail
  refine S1.out.mono ?_
  rintro e w1 ⟨rfl, hu, -, hc⟩
  have HU := Lib.hid hu
  obtain ⟨B, hB⟩ : ∃ B, w.heap.size = B := ⟨_, rfl⟩
  rw [hB] at hc
  have HC := Lib.hid hc
  clear S1 hu hc
  go_wp2_with fail
  clear hB
  go_loopw [4] (fun iv wr => ∃ k : Nat, k ≤ 9 ∧ iv = .int .i64 k ∧ Hid (∀ j : Nat, j < k → opT j ≠ t) ∧ wr = w1) (fun iv _ => 9 - (intOf iv).toNat)
  case atStart => exact ⟨0, by omega, rfl, Lib.hid (fun j hj => by omega), rfl⟩
  case round =>
    obtain ⟨k, hk, rfl, HJ, rfl⟩ := hrel
    by_cases hlt : k < 9
    · have hck := HC.out k hlt
      have hkl : (k : Int) < 9 := by omega
      obtain ⟨q, hq⟩ : ∃ q, (opT k == t) = q := ⟨_, rfl⟩
      cases q with
      | true =>
        have HX := Lib.hid (HS.out k hlt HJ.out (by simpa using hq))
        generalize opT (k : Int) = A at *
        clear HS HN HJ HC
        go_wp2_with fail
        go_ret
        exact ⟨by rw [HX.out]; rfl, HU.out⟩
      | false =>
        have HJ2 := Lib.hid (show ∀ j : Nat, j < k + 1 → opT j ≠ t from fun j hj => by
          rcases (by omega : j < k ∨ j = k) with h | h
          · exact HJ.out j h
          · subst h; simpa using hq)
        generalize opT (k : Int) = A at *
        clear HJ
        go_wp2_with fail
        go_roundw
        case rel => exact ⟨k + 1, by omega, by go_num, HJ2, by first | rfl | trivial⟩
        case measure => simp [intOf]; omega
    · obtain rfl : k = 9 := by omega
      have HX := Lib.hid (HN.out HJ.out)
      clear HN HS HJ HC
      go_wp2_with fail
      go_ret
      exact ⟨by rw [HX.out]; rfl, HU.out⟩

/-- the offset of the first byte from n on that is no blank. -/
def skF (s : List UInt8) (n : Nat) : Nat := n + ((s.drop n).takeWhile (· == 32)).length
theorem skF_le {s : List UInt8} {n : Nat} (h : n ≤ s.length) : n ≤ skF s n ∧ skF s n ≤ s.length := by
  unfold skF
  have := (List.takeWhile_prefix (p := (· == (32 : UInt8))) (l := s.drop n)).length_le
  rw [List.length_drop] at this
  omega
theorem skF_step {s : List UInt8} {n : Nat} (h : n < s.length) : skF s n = if s[n] = 32 then skF s (n + 1) else n := by
  unfold skF
  rw [List.drop_eq_getElem_cons h, List.takeWhile_cons]
  by_cases hb : s[n] = 32
  · rw [if_pos hb, if_pos (by simpa using hb), List.length_cons]; omega
  · rw [if_neg hb, if_neg (by simpa using hb)]; rfl
theorem skF_end {s : List UInt8} : skF s s.length = s.length := by
  unfold skF; rw [List.drop_of_length_le (Nat.le_refl _)]; rfl
theorem tkS_skip (s : List UInt8) : ∀ (k n : Nat), s.length - n ≤ k → n ≤ s.length → tkS s (skF s n) = tkS s n ∧ ∀ h : skF s n < s.length, s[skF s n] ≠ 32
  | 0, n, hk, hn => by
    obtain rfl : n = s.length := by omega
    rw [skF_end]
    exact ⟨rfl, fun h => absurd h (by omega)⟩
  | k + 1, n, hk, hn => by
    by_cases hlt : n < s.length
    · have h1 := skF_step hlt
      by_cases hb : s[n] = 32
      · rw [if_pos hb] at h1
        obtain ⟨i1, i2⟩ := tkS_skip s k (n + 1) (by omega) (by omega)
        refine ⟨by rw [h1, i1, tkS_step hlt, if_pos hb], fun h => ?_⟩
        simp only [h1] at h ⊢
        exact i2 h
      · rw [if_neg hb] at h1
        refine ⟨by rw [h1], fun h => ?_⟩
        simp only [h1]
        exact hb
    · obtain rfl : n = s.length := by omega
      rw [skF_end]
      exact ⟨rfl, fun h => absurd h (by omega)⟩

set_option maxRecDepth 20000 in
set_option maxHeartbeats 2000000 in
theorem l04SkipS (s : List UInt8) (n : Nat) (w : World) (hl : s.length ≤ 2000000) (hn : n ≤ s.length) :
    Calls Tryd.prog 43 #[es s, .int .i64 n] w fun e w' => e = .returned (.int .i64 (skF s n)) ∧ w = w' := by
  have HST := Lib.hid (fun k (h : k < s.length) => skF_step h)
  have HEN := Lib.hid (skF_end (s := s))
  obtain ⟨Z, hZ⟩ : ∃ Z, skF s n = Z := ⟨_, rfl⟩
  rw [hZ]
  have HZ := Lib.hid hZ
  clear hZ
  go_enter Tryd.func43, Tryd.ntmps43
  go_wp2_with fail
  go_loopw [1] (fun iv wr => ∃ k : Nat, k ≤ s.length ∧ iv = .int .i64 k ∧ Hid (skF s k = Z) ∧ wr = w) (fun iv _ => s.length - (intOf iv).toNat)
  case atStart => exact ⟨n, hn, rfl, HZ, rfl⟩
  case round =>
    clear HZ
    obtain ⟨k, hk, rfl, HZ, rfl⟩ := hrel
    by_cases hlt : k < s.length
    · obtain ⟨b, hb⟩ : ∃ b, s[k] = b := ⟨_, rfl⟩
      have hix : (⟨s.toArray⟩ : ByteArray)[k]'(by simpa [ByteArray.size] using hlt) = b := by rw [← hb]; simp [ByteArray.getElem_eq_getElem_data]
      have hkl : (k : Int) < (s.length : Int) := by omega
      have h1 := HST.out k hlt
      rw [hb, HZ.out] at h1
      have hq := byte_beq b 32 (by omega)
      rw [show ((32 : Nat) : Int) = 32 from rfl] at hq
      by_cases h32 : b = 32
      · rw [if_pos h32] at h1
        have HX := Lib.hid h1.symm
        have hq2 : ((b.toNat : Int) == 32) = true := by rw [hq, h32]; rfl
        clear h1 hb hq HST HEN HZ
        go_wp2_with fail
        go_roundw
        case rel => exact ⟨k + 1, by omega, by go_num, HX, by first | rfl | trivial⟩
        case measure => simp [intOf]; omega
      · rw [if_neg h32] at h1
        have HX := Lib.hid h1
        have hq2 : ((b.toNat : Int) == 32) = false := by rw [hq]; exact beq_eq_false_iff_ne.2 h32
        clear h1 hb hq HST HEN HZ h32
        go_wp2_with fail
        go_ret
        exact ⟨by rw [HX.out]; rfl, rfl⟩
    · obtain rfl : k = s.length := by omega
      have HX := Lib.hid (show Z = s.length by rw [← HZ.out, HEN.out])
      clear HST HEN HZ
      go_wp2_with fail
      go_ret
      exact ⟨by rw [HX.out]; rfl, rfl⟩

set_option maxRecDepth 20000 in
set_option maxHeartbeats 2000000 in
theorem l04DigitsS (s : List UInt8) (n : Nat) (w : World) (hl : s.length ≤ 2000000) (hn : n ≤ s.length) :
    Calls Tryd.prog 59 #[es s, .int .i64 n] w fun e w' => e = .returned (.int .i64 ((n + ((s.drop n).takeWhile isDig).length : Nat) : Int)) ∧ w = w' := by
  have HD := Lib.hid digitS
  obtain ⟨Z, hZ⟩ : ∃ Z, n + ((s.drop n).takeWhile isDig).length = Z := ⟨_, rfl⟩
  rw [hZ]
  have HZ := Lib.hid hZ
  clear hZ
  go_enter Tryd.func59, Tryd.ntmps59
  go_wp2_with fail
  go_loopw [1] (fun iv wr => ∃ k : Nat, k ≤ s.length ∧ iv = .int .i64 k ∧ Hid (k + ((s.drop k).takeWhile isDig).length = Z) ∧ wr = w) (fun iv _ => s.length - (intOf iv).toNat)
  case atStart => exact ⟨n, hn, rfl, HZ, rfl⟩
  case round =>
    clear HZ
    obtain ⟨wo, rfl⟩ : ∃ wo : World, wo = wr := ⟨_, rfl⟩
    obtain ⟨k, hk, rfl, HZ, hww⟩ := hrel
    subst hww
    by_cases hlt : k < s.length
    · obtain ⟨b, hb⟩ : ∃ b, s[k] = b := ⟨_, rfl⟩
      have hix : (⟨s.toArray⟩ : ByteArray)[k]'(by simpa [ByteArray.size] using hlt) = b := by rw [← hb]; simp [ByteArray.getElem_eq_getElem_data]
      have hkl : (k : Int) < (s.length : Int) := by omega
      have D1 := Lib.hid (HD.out b wo)
      have HT := Lib.hid (show (s.drop k).takeWhile isDig = if isDig b then b :: (s.drop (k + 1)).takeWhile isDig else [] by
        rw [List.drop_eq_getElem_cons hlt, hb, List.takeWhile_cons])
      generalize isDig b = q at *
      clear hb
      go_wp2_with fail
      refine D1.out.mono ?_
      rintro e w1 ⟨rfl, rfl⟩
      clear D1
      cases q with
      | true =>
        have HX := Lib.hid (show k + 1 + ((s.drop (k + 1)).takeWhile isDig).length = Z by have h1 := HZ.out; rw [HT.out, if_pos rfl, List.length_cons] at h1; omega)
        clear HT HZ
        go_wp2_with fail
        go_roundw
        case rel => exact ⟨k + 1, by omega, by go_num, HX, by first | rfl | trivial⟩
        case measure => simp [intOf]; omega
      | false =>
        have HX := Lib.hid (show k = Z by have h1 := HZ.out; rw [HT.out, if_neg (by simp)] at h1; simpa using h1)
        clear HT HZ
        go_wp2_with fail
        go_ret
        exact ⟨by rw [← HX.out]; rfl, rfl⟩
    · obtain rfl : k = s.length := by omega
      have HX := Lib.hid (show s.length = Z by have h1 := HZ.out; rw [List.drop_of_length_le (Nat.le_refl _)] at h1; simpa using h1)
      clear HZ
      go_wp2_with fail
      go_ret
      exact ⟨by rw [← HX.out]; rfl, rfl⟩

set_option maxRecDepth 20000 in
set_option maxHeartbeats 2000000 in
theorem l04SmallS (lim : Int) (t : List UInt8) (w : World) (hl : t.length ≤ 2000000) :
    Calls Tryd.prog 47 #[es t, .int .i64 lim] w fun e w' => e = .returned (.int .i64 ((smallF lim t).getD (-1))) ∧ w = w' := by
  have S1 := Lib.hid (numberS t w hl)
  have HX := Lib.hid (show (smallF lim t).getD (-1) = match numF t with | some n => if 0 ≤ n ∧ n < lim then n else -1 | none => -1 by
    unfold smallF
    cases numF t with
    | none => rfl
    | some n => simp only; split <;> rfl)
  generalize (smallF lim t).getD (-1) = Z at *
  unfold NumS at S1
  clear hl
  go_enter Tryd.func47, Tryd.ntmps47
  go_wp2_with fail
  refine S1.out.mono ?_
  rintro e w1 ⟨rfl, rfl⟩
  clear S1
  cases hn : numF t with
  | none =>
    have HY := Lib.hid (show Z = -1 by rw [HX.out, hn])
    clear HX hn
    simp only [Option.getD_none, Option.isSome_none]
    go_wp2_with fail
    go_ret
    exact ⟨by rw [HY.out]; rfl, rfl⟩
  | some n =>
    have HY := Lib.hid (show Z = if 0 ≤ n ∧ n < lim then n else -1 by rw [HX.out, hn])
    clear HX hn
    simp only [Option.getD_some, Option.isSome_some]
    by_cases h0 : n < 0
    · have HW := Lib.hid (show Z = -1 by rw [HY.out, if_neg (by omega)])
      clear HY
      go_wp2_with fail
      go_ret
      exact ⟨by rw [HW.out]; rfl, rfl⟩
    · have h0' : 0 ≤ n := by omega
      by_cases h1 : n < lim
      · have HW := Lib.hid (show Z = n by rw [HY.out, if_pos ⟨by omega, h1⟩])
        have h1' : ¬ lim ≤ n := by omega
        clear HY
        go_wp2_with fail
        go_ret
        exact ⟨by rw [HW.out]; rfl, rfl⟩
      · have HW := Lib.hid (show Z = -1 by rw [HY.out, if_neg (by omega)])
        have h1' : lim ≤ n := by omega
        clear HY
        go_wp2_with fail
        go_ret
        exact ⟨by rw [HW.out]; rfl, rfl⟩

end Go.Proofs.YtpnokhhbakiiiaaDoor

/-
  Expressions parsed: the reference's token at an offset.
-/
namespace Go.Proofs.YtpnokhhbakiiiaaDoor
open Go.RowKit

theorem numF_bad {c : UInt8} {r : List UInt8} (h : isDig c = false) (h2 : c ≠ 45) : numF (c :: r) = none := by
  cases hn : numF (c :: r) with
  | none => rfl
  | some n =>
    exfalso
    have h1 := (numF_some hn).1
    have h3 := itoa_no n c h h2
    rw [← h1] at h3
    exact h3 List.mem_cons_self
theorem smallF_bad {c : UInt8} {r : List UInt8} (lim : Int) (h : isDig c = false) (h2 : c ≠ 45) : smallF lim (c :: r) = none := by
  unfold smallF; rw [numF_bad h h2]
theorem opT_dig (o : Nat) (h : o < 9) {c : UInt8} (hc : isDig c = true) (r : List UInt8) : (opT o == c :: r) = false := by
  have hne : ∀ d : UInt8, isDig d = false → ∀ l, (d :: l == c :: r) = false := fun d hd l => by
    rw [beq_eq_false_iff_ne]
    intro e
    cases e
    rw [hd] at hc; cases hc
  rcases (show o = 0 ∨ o = 1 ∨ o = 2 ∨ o = 3 ∨ o = 4 ∨ o = 5 ∨ o = 6 ∨ o = 7 ∨ o = 8 by omega) with h | h | h | h | h | h | h | h | h <;> subst h <;> exact hne _ (by decide) _
theorem kdF_dig {c : UInt8} (hc : isDig c = true) (r : List UInt8) : (kdF (c :: r)).isSome = (smallF 64 (c :: r)).isSome := by
  have ho : opIx (c :: r) = none := by
    unfold opIx
    rw [List.find?_eq_none]
    intro j hj
    rw [opT_dig j (by simpa using hj) hc r]; simp
  have hne : ∀ d : UInt8, isDig d = false → (c :: r == [d]) = false := fun d hd => by
    rw [beq_eq_false_iff_ne]; intro e; cases e; rw [hd] at hc; cases hc
  have hv : varF (c :: r) = none := by
    show (if c = 118 then smallF 29 r else none) = none
    rw [if_neg (fun e => by subst e; exact absurd hc (by decide))]
  rw [kdF_some, ho, hne 33 (by decide), hne 40 (by decide), hne 41 (by decide), hv]
  simp
theorem kdF_v (r : List UInt8) : (kdF (118 :: r)).isSome = (smallF 29 r).isSome := by
  have ho : opIx (118 :: r) = none := by
    unfold opIx
    rw [List.find?_eq_none]
    intro j hj
    have hj9 : j < 9 := by simpa using hj
    rcases (show j = 0 ∨ j = 1 ∨ j = 2 ∨ j = 3 ∨ j = 4 ∨ j = 5 ∨ j = 6 ∨ j = 7 ∨ j = 8 by omega) with h | h | h | h | h | h | h | h | h <;> subst h <;> simp [opT]
  have hne : ∀ d : UInt8, d ≠ 118 → ((118 : UInt8) :: r == [d]) = false := fun d hd => by
    rw [beq_eq_false_iff_ne]; intro e; cases e; exact hd rfl
  rw [kdF_some, ho, hne 33 (by decide), hne 40 (by decide), hne 41 (by decide), smallF_bad 64 (by decide) (by decide)]
  show (false || false || false || false || false || (smallF 29 r).isSome) = _
  simp
theorem kdF_one {c : UInt8} (hc : isDig c = false) (hv : c ≠ 118) : (kdF [c]).isSome = (c == 33 || c == 40 || c == 41 || (opIx [c]).isSome) := by
  by_cases h45 : c = 45
  · subst h45; decide
  · have hvf : varF [c] = none := by
      show (if c = 118 then smallF 29 [] else none) = none
      rw [if_neg hv]
    have hb : ∀ d : UInt8, ([c] == [d]) = (c == d) := fun d => by
      rw [Bool.eq_iff_iff]; simp
    rw [kdF_some, smallF_bad 64 hc h45, hvf, hb, hb, hb]
    cases (opIx [c]).isSome <;> simp

theorem cutF_cons (c : UInt8) (r : List UInt8) : cutF (c :: r) = if isDig c || c == 118 then 1 + (r.takeWhile isDig).length else if c == 60 && r.head? == some 61 then 2 else 1 := rfl

/-- where the token at n ends; n if none begins there. -/
def endT (s : List UInt8) (n : Nat) : Nat := if (kdF ((s.drop n).take (cutF (s.drop n)))).isSome then n + cutF (s.drop n) else n
theorem opJ_ge (t : List UInt8) : (0 ≤ opJ t ∧ (opIx t).isSome = true) ∨ (opJ t = -1 ∧ (opIx t).isSome = false) := by
  unfold opJ
  cases opIx t with
  | none => exact Or.inr ⟨rfl, rfl⟩
  | some o => exact Or.inl ⟨by show (0 : Int) ≤ (o : Int); omega, rfl⟩
theorem smallF_ge (lim : Int) (t : List UInt8) : (0 ≤ (smallF lim t).getD (-1) ∧ (smallF lim t).isSome = true) ∨ ((smallF lim t).getD (-1) = -1 ∧ (smallF lim t).isSome = false) := by
  unfold smallF
  cases numF t with
  | none => exact Or.inr ⟨rfl, rfl⟩
  | some n =>
    by_cases h : 0 ≤ n ∧ n < lim
    · simp only [if_pos h]; exact Or.inl ⟨h.1, rfl⟩
    · simp only [if_neg h]; exact Or.inr ⟨rfl, rfl⟩

set_option maxRecDepth 20000 in
set_option maxHeartbeats 4000000 in
theorem l04TokenS (s : List UInt8) (n : Nat) (w : World) (hl : s.length ≤ 2000000) (hlt : n < s.length) (h32 : s[n] ≠ 32) :
    Calls Tryd.prog 45 #[es s, .int .i64 n] w fun e w' => e = .returned (.int .i64 (endT s n)) ∧ Upd [] w w' := by
  have HD := Lib.hid digitS
  have HG := Lib.hid (fun m W (hm : m ≤ s.length) => l04DigitsS s m W hl hm)
  have HSM := Lib.hid (fun lim t W (ht : t.length ≤ s.length) => l04SmallS lim t W (by omega))
  have HOP := Lib.hid (fun t W => l04OpR t W)
  obtain ⟨b, hb⟩ : ∃ b, s[n] = b := ⟨_, rfl⟩
  have hix : (⟨s.toArray⟩ : ByteArray)[n]'(by simpa [ByteArray.size] using hlt) = b := by rw [← hb]; simp [ByteArray.getElem_eq_getElem_data]
  have hnl : (n : Int) < (s.length : Int) := by omega
  have hn0 : (0 : Int) ≤ (n : Int) := by omega
  have hdr : s.drop n = b :: s.drop (n + 1) := by rw [List.drop_eq_getElem_cons hlt, hb]
  have D1 := Lib.hid (HD.out b w)
  have hq118 := byte_beq b 118 (by omega)
  rw [show ((118 : Nat) : Int) = 118 from rfl] at hq118
  obtain ⟨q1, hq1⟩ : ∃ q, isDig b = q := ⟨_, rfl⟩
  rw [hq1] at D1
  obtain ⟨Z, hZ⟩ : ∃ Z, endT s n = Z := ⟨_, rfl⟩
  rw [hZ]
  cases q1 with
  | true =>
    obtain ⟨m, hm⟩ : ∃ m, n + ((s.drop n).takeWhile isDig).length = m := ⟨_, rfl⟩
    have hm2 : cutF (s.drop n) = m - n ∧ n < m ∧ m ≤ s.length := by
      have h1 : ((s.drop (n + 1)).takeWhile isDig).length ≤ (s.drop (n + 1)).length := (List.takeWhile_prefix _).length_le
      rw [List.length_drop] at h1
      rw [hdr, List.takeWhile_cons, hq1] at hm
      simp only [if_true, List.length_cons] at hm
      rw [hdr, cutF_cons, hq1]
      simp only [Bool.true_or, if_true]
      omega
    have G1 := Lib.hid (HG.out n w (by omega))
    rw [hm] at G1
    have hext := extract_list s n m
    have hdt : (s.drop n).take (m - n) = b :: (s.drop (n + 1)).take (m - n - 1) := by
      rw [hdr, show m - n = (m - n - 1) + 1 by omega, List.take_succ_cons]; rfl
    have hE : endT s n = if (smallF 64 ((s.drop n).take (m - n))).isSome then m else n := by
      unfold endT
      rw [hm2.1, hdt, kdF_dig hq1]
      split <;> omega
    have htl : ((s.drop n).take (m - n)).length ≤ s.length := by rw [List.length_take, List.length_drop]; omega
    have M1 := Lib.hid (HSM.out 64 _ w htl)
    obtain ⟨h0, h1, h2⟩ := hm2
    have hg := smallF_ge 64 ((s.drop n).take (m - n))
    rw [hZ] at hE
    generalize (s.drop n).take (m - n) = tx at *
    generalize (smallF 64 tx).getD (-1) = N at *
    generalize (smallF 64 tx).isSome = qs at *
    have hml : (m : Int) ≤ (s.length : Int) := by omega
    have hnm : (n : Int) ≤ (m : Int) := by omega
    have HE := Lib.hid hE
    clear HD HG HSM HOP hb hdr hq1 hq118 hm h0 hdt hE htl hZ
    go_enter Tryd.func45, Tryd.ntmps45
    go_wp2_with fail
    refine D1.out.mono ?_
    rintro e w1 ⟨rfl, rfl⟩
    clear D1
    go_wp2_with fail
    refine G1.out.mono ?_
    rintro e w2 ⟨rfl, rfl⟩
    clear G1
    go_wp2_with fail
    refine M1.out.mono ?_
    rintro e w3 ⟨rfl, rfl⟩
    clear M1
    rcases hg with ⟨g1, rfl⟩ | ⟨rfl, rfl⟩
    · have hg2 : ¬ N < 0 := by omega
      have HX := Lib.hid (show Z = m by rw [HE.out]; rfl)
      clear HE
      go_wp2_with fail
      go_ret
      exact ⟨by rw [HX.out]; rfl, Upd.refl _ _⟩
    · have HX := Lib.hid (show Z = n by rw [HE.out]; rfl)
      clear HE
      go_wp2_with fail
      go_ret
      exact ⟨by rw [HX.out]; rfl, Upd.refl _ _⟩
  | false =>
    by_cases hv : b = 118
    · subst hv
      obtain ⟨m, hm⟩ : ∃ m, n + 1 + ((s.drop (n + 1)).takeWhile isDig).length = m := ⟨_, rfl⟩
      have hm2 : cutF (s.drop n) = m - n ∧ n < m ∧ m ≤ s.length := by
        have h1 : ((s.drop (n + 1)).takeWhile isDig).length ≤ (s.drop (n + 1)).length := (List.takeWhile_prefix _).length_le
        rw [List.length_drop] at h1
        rw [hdr, cutF_cons]
        simp only [beq_self_eq_true, Bool.or_true, if_true]
        omega
      have G1 := Lib.hid (HG.out (n + 1) w (by omega))
      rw [hm] at G1
      rw [show ((n + 1 : Nat) : Int) = (n : Int) + 1 by omega] at G1
      have hext := extract_list s (n + 1) m
      have hdt : (s.drop n).take (m - n) = 118 :: (s.drop (n + 1)).take (m - (n + 1)) := by
        rw [hdr, show m - n = (m - (n + 1)) + 1 by omega, List.take_succ_cons]
      have hE : endT s n = if (smallF 29 ((s.drop (n + 1)).take (m - (n + 1)))).isSome then m else n := by
        unfold endT
        rw [hm2.1, hdt, kdF_v]
        split <;> omega
      have htl : ((s.drop (n + 1)).take (m - (n + 1))).length ≤ s.length := by rw [List.length_take, List.length_drop]; omega
      have M1 := Lib.hid (HSM.out 29 _ w htl)
      obtain ⟨h0, h1, h2⟩ := hm2
      have hg := smallF_ge 29 ((s.drop (n + 1)).take (m - (n + 1)))
      rw [hZ] at hE
      generalize (s.drop (n + 1)).take (m - (n + 1)) = tx at *
      generalize (smallF 29 tx).getD (-1) = N at *
      generalize (smallF 29 tx).isSome = qs at *
      have hml : (m : Int) ≤ (s.length : Int) := by omega
      have hnm : (n : Int) + 1 ≤ (m : Int) := by omega
      have hwr : IntKind.i64.wrap ((n : Int) + 1) = (n : Int) + 1 := by rw [IntKind.wrap_i64]; omega
      have HE := Lib.hid hE
      clear HD HG HSM HOP hb hdr hq1 hm h0 hdt hE htl hZ
      go_enter Tryd.func45, Tryd.ntmps45
      go_wp2_with fail
      refine D1.out.mono ?_
      rintro e w1 ⟨rfl, rfl⟩
      clear D1
      go_wp2_with fail
      refine G1.out.mono ?_
      rintro e w2 ⟨rfl, rfl⟩
      clear G1
      go_wp2_with fail
      refine M1.out.mono ?_
      rintro e w3 ⟨rfl, rfl⟩
      clear M1
      rcases hg with ⟨g1, rfl⟩ | ⟨rfl, rfl⟩
      · have hg2 : ¬ N < 0 := by omega
        have HX := Lib.hid (show Z = m by rw [HE.out]; rfl)
        clear HE
        go_wp2_with fail
        go_ret
        exact ⟨by rw [HX.out]; rfl, Upd.refl _ _⟩
      · have HX := Lib.hid (show Z = n by rw [HE.out]; rfl)
        clear HE
        go_wp2_with fail
        go_ret
        exact ⟨by rw [HX.out]; rfl, Upd.refl _ _⟩
    · have hv' : (b == UInt8.ofNat 118) = false := beq_eq_false_iff_ne.2 hv
      rw [hv'] at hq118
      have hq60 := byte_beq b 60 (by omega)
      have hq33 := byte_beq b 33 (by omega)
      have hq40 := byte_beq b 40 (by omega)
      have hq41 := byte_beq b 41 (by omega)
      rw [show ((60 : Nat) : Int) = 60 from rfl] at hq60
      rw [show ((33 : Nat) : Int) = 33 from rfl] at hq33
      rw [show ((40 : Nat) : Int) = 40 from rfl] at hq40
      rw [show ((41 : Nat) : Int) = 41 from rfl] at hq41
      have hwr : IntKind.i64.wrap ((n : Int) + 1) = (n : Int) + 1 := by rw [IntKind.wrap_i64]; omega
      have hwr2 : IntKind.i64.wrap ((n : Int) + 2) = (n : Int) + 2 := by rw [IntKind.wrap_i64]; omega
      have hn1 : (n : Int) ≤ (n : Int) + 1 := by omega
      have hn1l : (n : Int) + 1 ≤ (s.length : Int) := by omega
      have hext := extract_list s n (n + 1)
      rw [show n + 1 - n = 1 by omega, show (s.drop n).take 1 = [b] by rw [hdr]; rfl] at hext
      have O1 := Lib.hid (HOP.out [b] w)
      have hg := opJ_ge [b]
      have HONE := Lib.hid (show (b == 60 && (s.drop (n + 1)).head? == some 61) = false → Z = if (b == 33 || b == 40 || b == 41 || (opIx [b]).isSome) then n + 1 else n from fun h => by
        have hc : cutF (s.drop n) = 1 := by rw [hdr, cutF_cons, hq1, h, beq_eq_false_iff_ne.2 hv]; rfl
        rw [← hZ]; unfold endT
        rw [hc, show (s.drop n).take 1 = [b] by rw [hdr]; rfl, kdF_one hq1 hv])
      have HTWO := Lib.hid (show (b == 60 && (s.drop (n + 1)).head? == some 61) = true → Z = n + 2 from fun h => by
        have hc : cutF (s.drop n) = 2 := by rw [hdr, cutF_cons, hq1, h, beq_eq_false_iff_ne.2 hv]; rfl
        have ht : (s.drop n).take 2 = [60, 61] := by
          rw [Bool.and_eq_true, beq_iff_eq, beq_iff_eq] at h
          obtain ⟨h1, h2⟩ := h
          rw [hdr, h1]
          cases hs : s.drop (n + 1) with
          | nil => rw [hs] at h2; cases h2
          | cons c r => rw [hs] at h2; simp at h2; subst h2; rfl
        rw [← hZ]; unfold endT
        rw [hc, ht, if_pos (by decide)])
      clear HD HG HSM HOP hq1 hZ hv h32
      generalize (opIx [b]).isSome = qo at *
      generalize opJ [b] = OJ at *
      by_cases h60 : b = 60
      · have hqt : ((b.toNat : Int) == 60) = true := by rw [h60]; rfl
        by_cases hn2 : n + 1 < s.length
        · obtain ⟨c2, hc2⟩ : ∃ c, s[n + 1] = c := ⟨_, rfl⟩
          have hix2 : (⟨s.toArray⟩ : ByteArray)[n + 1]'(by simpa [ByteArray.size] using hn2) = c2 := by rw [← hc2]; simp [ByteArray.getElem_eq_getElem_data]
          have hhd : (s.drop (n + 1)).head? = some c2 := by rw [List.drop_eq_getElem_cons hn2, hc2]; rfl
          have hn2l : (n : Int) + 1 < (s.length : Int) := by omega
          have hq61 := byte_beq c2 61 (by omega)
          rw [show ((61 : Nat) : Int) = 61 from rfl] at hq61
          by_cases h61 : c2 = 61
          · replace hq61 : ((c2.toNat : Int) == 61) = true := by rw [h61]; rfl
            have HX := Lib.hid (HTWO.out (by rw [h60, hhd, h61]; rfl))
            clear HONE HTWO O1 hg hq60 hq33 hq40 hq41 h60 h61 hhd hc2 hb hdr hext
            go_enter Tryd.func45, Tryd.ntmps45
            go_wp2_with fail
            refine D1.out.mono ?_
            rintro e w1 ⟨rfl, rfl⟩
            clear D1
            go_wp2_with fail
            go_ret
            exact ⟨by rw [HX.out]; rfl, Upd.refl _ _⟩
          · rw [show (c2 == UInt8.ofNat 61) = false from beq_eq_false_iff_ne.2 h61] at hq61
            have hfac : (b == 60 && (s.drop (n + 1)).head? == some 61) = false := by rw [hhd, h60]; simpa using h61
            clear h60 h61 hhd hc2 hb
            have HO := Lib.hid (HONE.out (hfac))
            clear HONE HTWO hdr hq60
            by_cases h33 : b = 33
            · rw [h33] at hq33
              replace hq33 : ((b.toNat : Int) == 33) = true := by rw [h33]; rfl
              have HX := Lib.hid (show Z = n + 1 by rw [HO.out, h33]; rfl)
              clear HO O1 hg h33 hext
              go_enter Tryd.func45, Tryd.ntmps45
              go_wp2_with fail
              refine D1.out.mono ?_
              rintro e w1 ⟨rfl, rfl⟩
              clear D1
              go_wp2_with fail
              go_ret
              exact ⟨by rw [HX.out]; rfl, Upd.refl _ _⟩
            · have hb33 : (b == UInt8.ofNat 33) = false := beq_eq_false_iff_ne.2 h33
              rw [hb33] at hq33
              by_cases h40 : b = 40
              · rw [h40] at hq40
                replace hq40 : ((b.toNat : Int) == 40) = true := by rw [h40]; rfl
                have HX := Lib.hid (show Z = n + 1 by rw [HO.out, h40]; rfl)
                clear HO O1 hg h40 hext
                go_enter Tryd.func45, Tryd.ntmps45
                go_wp2_with fail
                refine D1.out.mono ?_
                rintro e w1 ⟨rfl, rfl⟩
                clear D1
                go_wp2_with fail
                go_ret
                exact ⟨by rw [HX.out]; rfl, Upd.refl _ _⟩
              · have hb40 : (b == UInt8.ofNat 40) = false := beq_eq_false_iff_ne.2 h40
                rw [hb40] at hq40
                by_cases h41 : b = 41
                · rw [h41] at hq41
                  replace hq41 : ((b.toNat : Int) == 41) = true := by rw [h41]; rfl
                  have HX := Lib.hid (show Z = n + 1 by rw [HO.out, h41]; rfl)
                  clear HO O1 hg h41 hext
                  go_enter Tryd.func45, Tryd.ntmps45
                  go_wp2_with fail
                  refine D1.out.mono ?_
                  rintro e w1 ⟨rfl, rfl⟩
                  clear D1
                  go_wp2_with fail
                  go_ret
                  exact ⟨by rw [HX.out]; rfl, Upd.refl _ _⟩
                · have hb41 : (b == UInt8.ofNat 41) = false := beq_eq_false_iff_ne.2 h41
                  rw [hb41] at hq41
                  have HO2 := Lib.hid (show Z = if qo then n + 1 else n by rw [HO.out, beq_eq_false_iff_ne.2 h33, beq_eq_false_iff_ne.2 h40, beq_eq_false_iff_ne.2 h41]; simp)
                  clear HO hb33 hb40 hb41 h33 h40 h41
                  go_enter Tryd.func45, Tryd.ntmps45
                  go_wp2_with fail
                  refine D1.out.mono ?_
                  rintro e w1 ⟨rfl, rfl⟩
                  clear D1
                  go_wp2_with fail
                  refine O1.out.mono ?_
                  rintro e w2 ⟨rfl, hu⟩
                  have HU := Lib.hid hu
                  clear O1 hu
                  rcases hg with ⟨g1, rfl⟩ | ⟨rfl, rfl⟩
                  · have HX := Lib.hid (show Z = n + 1 by rw [HO2.out]; rfl)
                    clear HO2
                    go_wp2_with fail
                    go_ret
                    exact ⟨by rw [HX.out]; rfl, HU.out⟩
                  · have HX := Lib.hid (show Z = n by rw [HO2.out]; rfl)
                    clear HO2
                    go_wp2_with fail
                    go_ret
                    exact ⟨by rw [HX.out]; rfl, HU.out⟩
        · have hn2l : ¬ ((n : Int) + 1 < (s.length : Int)) := by omega
          have hfac : (b == 60 && (s.drop (n + 1)).head? == some 61) = false := by rw [List.drop_of_length_le (by omega)]; simp
          clear h60 hb
          have HO := Lib.hid (HONE.out (hfac))
          clear HONE HTWO hdr hq60
          by_cases h33 : b = 33
          · rw [h33] at hq33
            replace hq33 : ((b.toNat : Int) == 33) = true := by rw [h33]; rfl
            have HX := Lib.hid (show Z = n + 1 by rw [HO.out, h33]; rfl)
            clear HO O1 hg h33 hext
            go_enter Tryd.func45, Tryd.ntmps45
            go_wp2_with fail
            refine D1.out.mono ?_
            rintro e w1 ⟨rfl, rfl⟩
            clear D1
            go_wp2_with fail
            go_ret
            exact ⟨by rw [HX.out]; rfl, Upd.refl _ _⟩
          · have hb33 : (b == UInt8.ofNat 33) = false := beq_eq_false_iff_ne.2 h33
            rw [hb33] at hq33
            by_cases h40 : b = 40
            · rw [h40] at hq40
              replace hq40 : ((b.toNat : Int) == 40) = true := by rw [h40]; rfl
              have HX := Lib.hid (show Z = n + 1 by rw [HO.out, h40]; rfl)
              clear HO O1 hg h40 hext
              go_enter Tryd.func45, Tryd.ntmps45
              go_wp2_with fail
              refine D1.out.mono ?_
              rintro e w1 ⟨rfl, rfl⟩
              clear D1
              go_wp2_with fail
              go_ret
              exact ⟨by rw [HX.out]; rfl, Upd.refl _ _⟩
            · have hb40 : (b == UInt8.ofNat 40) = false := beq_eq_false_iff_ne.2 h40
              rw [hb40] at hq40
              by_cases h41 : b = 41
              · rw [h41] at hq41
                replace hq41 : ((b.toNat : Int) == 41) = true := by rw [h41]; rfl
                have HX := Lib.hid (show Z = n + 1 by rw [HO.out, h41]; rfl)
                clear HO O1 hg h41 hext
                go_enter Tryd.func45, Tryd.ntmps45
                go_wp2_with fail
                refine D1.out.mono ?_
                rintro e w1 ⟨rfl, rfl⟩
                clear D1
                go_wp2_with fail
                go_ret
                exact ⟨by rw [HX.out]; rfl, Upd.refl _ _⟩
              · have hb41 : (b == UInt8.ofNat 41) = false := beq_eq_false_iff_ne.2 h41
                rw [hb41] at hq41
                have HO2 := Lib.hid (show Z = if qo then n + 1 else n by rw [HO.out, beq_eq_false_iff_ne.2 h33, beq_eq_false_iff_ne.2 h40, beq_eq_false_iff_ne.2 h41]; simp)
                clear HO hb33 hb40 hb41 h33 h40 h41
                go_enter Tryd.func45, Tryd.ntmps45
                go_wp2_with fail
                refine D1.out.mono ?_
                rintro e w1 ⟨rfl, rfl⟩
                clear D1
                go_wp2_with fail
                refine O1.out.mono ?_
                rintro e w2 ⟨rfl, hu⟩
                have HU := Lib.hid hu
                clear O1 hu
                rcases hg with ⟨g1, rfl⟩ | ⟨rfl, rfl⟩
                · have HX := Lib.hid (show Z = n + 1 by rw [HO2.out]; rfl)
                  clear HO2
                  go_wp2_with fail
                  go_ret
                  exact ⟨by rw [HX.out]; rfl, HU.out⟩
                · have HX := Lib.hid (show Z = n by rw [HO2.out]; rfl)
                  clear HO2
                  go_wp2_with fail
                  go_ret
                  exact ⟨by rw [HX.out]; rfl, HU.out⟩
      · have hqf : ((b.toNat : Int) == 60) = false := by rw [hq60]; exact beq_eq_false_iff_ne.2 h60
        have hfac : (b == 60 && (s.drop (n + 1)).head? == some 61) = false := by rw [beq_eq_false_iff_ne.2 h60]; rfl
        clear h60 hb
        have HO := Lib.hid (HONE.out (hfac))
        clear HONE HTWO hdr hq60
        by_cases h33 : b = 33
        · rw [h33] at hq33
          replace hq33 : ((b.toNat : Int) == 33) = true := by rw [h33]; rfl
          have HX := Lib.hid (show Z = n + 1 by rw [HO.out, h33]; rfl)
          clear HO O1 hg h33 hext
          go_enter Tryd.func45, Tryd.ntmps45
          go_wp2_with fail
          refine D1.out.mono ?_
          rintro e w1 ⟨rfl, rfl⟩
          clear D1
          go_wp2_with fail
          go_ret
          exact ⟨by rw [HX.out]; rfl, Upd.refl _ _⟩
        · have hb33 : (b == UInt8.ofNat 33) = false := beq_eq_false_iff_ne.2 h33
          rw [hb33] at hq33
          by_cases h40 : b = 40
          · rw [h40] at hq40
            replace hq40 : ((b.toNat : Int) == 40) = true := by rw [h40]; rfl
            have HX := Lib.hid (show Z = n + 1 by rw [HO.out, h40]; rfl)
            clear HO O1 hg h40 hext
            go_enter Tryd.func45, Tryd.ntmps45
            go_wp2_with fail
            refine D1.out.mono ?_
            rintro e w1 ⟨rfl, rfl⟩
            clear D1
            go_wp2_with fail
            go_ret
            exact ⟨by rw [HX.out]; rfl, Upd.refl _ _⟩
          · have hb40 : (b == UInt8.ofNat 40) = false := beq_eq_false_iff_ne.2 h40
            rw [hb40] at hq40
            by_cases h41 : b = 41
            · rw [h41] at hq41
              replace hq41 : ((b.toNat : Int) == 41) = true := by rw [h41]; rfl
              have HX := Lib.hid (show Z = n + 1 by rw [HO.out, h41]; rfl)
              clear HO O1 hg h41 hext
              go_enter Tryd.func45, Tryd.ntmps45
              go_wp2_with fail
              refine D1.out.mono ?_
              rintro e w1 ⟨rfl, rfl⟩
              clear D1
              go_wp2_with fail
              go_ret
              exact ⟨by rw [HX.out]; rfl, Upd.refl _ _⟩
            · have hb41 : (b == UInt8.ofNat 41) = false := beq_eq_false_iff_ne.2 h41
              rw [hb41] at hq41
              have HO2 := Lib.hid (show Z = if qo then n + 1 else n by rw [HO.out, beq_eq_false_iff_ne.2 h33, beq_eq_false_iff_ne.2 h40, beq_eq_false_iff_ne.2 h41]; simp)
              clear HO hb33 hb40 hb41 h33 h40 h41
              go_enter Tryd.func45, Tryd.ntmps45
              go_wp2_with fail
              refine D1.out.mono ?_
              rintro e w1 ⟨rfl, rfl⟩
              clear D1
              go_wp2_with fail
              refine O1.out.mono ?_
              rintro e w2 ⟨rfl, hu⟩
              have HU := Lib.hid hu
              clear O1 hu
              rcases hg with ⟨g1, rfl⟩ | ⟨rfl, rfl⟩
              · have HX := Lib.hid (show Z = n + 1 by rw [HO2.out]; rfl)
                clear HO2
                go_wp2_with fail
                go_ret
                exact ⟨by rw [HX.out]; rfl, HU.out⟩
              · have HX := Lib.hid (show Z = n by rw [HO2.out]; rfl)
                clear HO2
                go_wp2_with fail
                go_ret
                exact ⟨by rw [HX.out]; rfl, HU.out⟩

end Go.Proofs.YtpnokhhbakiiiaaDoor

/-
  Expressions parsed: the reference applies an operator to its parts.
-/
namespace Go.Proofs.YtpnokhhbakiiiaaDoor
open Go.RowKit

section
variable {α : Type} {R : Rp α} {base : Nat} {G : Nat → Prop} {e : TypeId} {w : World} {g n cap : Nat} {xs : List α}
theorem Got.roomP (h : Got R base G e w (.slice (some ⟨g, 0, none⟩) n cap) xs) : n = xs.length ∧ n ≤ cap ∧ cap ≤ maxLen ∧ base ≤ g ∧ g < w.heap.size := by
  obtain ⟨us, fps, h1, -⟩ := h
  generalize hx : xs.length = m at h1
  rcases h1.2 with ⟨h0, -⟩ | ⟨g', cap', cur, hv, hb, hh, h3, h4, -⟩
  · cases h0
  · cases hv; exact ⟨rfl, h3, h4, hb, (Array.getElem?_eq_some_iff.1 hh).1⟩
theorem Got.atP (h : Got R base G e w (.slice (some ⟨g, 0, none⟩) n cap) xs) (i : Nat) (hi : i < xs.length) :
    ∃ u f, w.cell? ⟨g, i, none⟩ = some u ∧ R f w [u] xs[i] ∧ ∀ b ∈ f, b ≠ g ∧ G b := by
  obtain ⟨hn, -⟩ := h.roomP
  subst hn
  obtain ⟨us, fps, h1, h2, h3, h4⟩ := h
  have hl : us.length = xs.length := by rw [h1.1, Nat.mul_one]
  have hu : us[i]? = some us[i] := by simp
  have hf : fps[i]? = some fps[i] := by simp
  refine ⟨us[i], fps[i], by rw [h1.cellAt i (by omega), hu], h4 i hi _ _ hu hf, fun b hb => ?_⟩
  obtain ⟨p1, p2⟩ := h3 b (List.mem_flatten.2 ⟨_, List.mem_of_getElem? hf, hb⟩)
  exact ⟨fun he => p1 (by rw [he]; rfl), p2⟩
theorem Got.takeP (h : Got R base G e w (.slice (some ⟨g, 0, none⟩) n cap) xs) (m : Nat) (hm : m ≤ xs.length) : Got R base G e w (.slice (some ⟨g, 0, none⟩) m cap) (xs.take m) := by
  obtain ⟨hn, -⟩ := h.roomP
  subst hn
  obtain ⟨us, fps, h1, h2, h3, h4⟩ := h
  have hs : (fps.take m).flatten.Sublist fps.flatten := by
    conv => rhs; rw [← List.take_append_drop m fps, List.flatten_append]
    exact List.sublist_append_left _ _
  have ht := ownsRow_take h1 m hm
  rw [Nat.mul_one] at ht
  refine ⟨us.take m, fps.take m, by rw [List.length_take, Nat.min_eq_left hm]; exact ht, by simp [h2], fun b hb => ?_, fun i hi u f hu hf => ?_⟩
  · have := h3 b (hs.subset hb)
    simpa [Value.ownBlock] using this
  · simp at hi
    rw [List.getElem?_take, if_pos (by omega)] at hu hf
    simpa using h4 i (by omega) u f hu hf
end
def R_OT : Rp (List Tm) := fun fp w cs x => R_T1 fp w cs x ∧ Own fp w ∧ ∀ b ∈ fp, ∃ c, w.heap[b]? = some (.cells c 50)
theorem R_OTk : Kept R_OT := ⟨fun h => R_T1k.lt h.1, fun h hs hb => ⟨R_T1k.frame h.1 hs hb, h.2.1.frame hb, fun b hm => by rw [hb b hm]; exact h.2.2 b hm⟩⟩
theorem typed_own {w : World} {base : Nat} {e : TypeId} {size : Nat} {v : Value} {n : Nat} {xs : List Value} (h : w.ownsRow base e size v n xs) {b : Nat} (hb : v.ownBlock = some b) : ∃ c, w.heap[b]? = some (.cells c e) := by
  rcases h.2 with ⟨rfl, -⟩ | ⟨g, cap, cur, rfl, -, hh, -⟩
  · cases hb
  · simp only [Value.ownBlock, Option.some.injEq] at hb
    subst hb
    exact ⟨cur, hh⟩
abbrev GotP (B0 : Nat) (w : World) (v : Value) (Q : List (List Tm)) : Prop := Got R_OT B0 (fun b => B0 ≤ b) 24 w v Q

/-- behind the append of a list to the parts. -/
theorem ap_end {B0 : Nat} {wp : World} {g cap : Nat} {Q : List (List Tm)} {x : List Tm} {u : Value} {fu : List Nat} (T : TypeId) (hG : GotP B0 wp (.slice (some ⟨g, 0, none⟩) Q.length cap) Q) (hr : R_OT fu wp [u] x)
    (hfu : ∀ b ∈ fu, b ≠ g ∧ B0 ≤ b) : ∃ us, wp.ownsRow B0 24 1 (.slice (some ⟨g, 0, none⟩) Q.length cap) Q.length us ∧
    ∀ g4 c4 w4, w4.ownsRow B0 24 1 (.slice (some ⟨g4, 0, none⟩) (Q.length + 1) c4) (Q.length + 1) (us ++ [u]) → (wp.alloc (.cells #[u] T)).grownBy w4 (some g) → (g4 = g ∨ g4 = wp.heap.size + 1) →
      GotP B0 w4 (.slice (some ⟨g4, 0, none⟩) (Q.length + 1) c4) (Q ++ [x]) ∧ Upd [g] wp w4 := by
  obtain ⟨us, hus⟩ := hG.own
  refine ⟨us, hus, fun g4 c4 w4 hown hg hat => ⟨?_, ?_⟩⟩
  · refine hG.push R_OTk hus hr (fun b hb => ⟨fun he => (hfu b hb).1 (by simpa [Value.ownBlock] using he.symm), (hfu b hb).2⟩) _ hown hg (fun b hb => ?_)
    simp only [Value.ownBlock, Option.some.injEq] at hb
    subst hb
    rcases hat with h | h
    · left; simp [Value.ownBlock, h]
    · right; simp; omega
  · exact ((Upd.refl _ _).alloc _).grown hg (fun k hk => Or.inr (by simp only [Option.some.injEq] at hk; simp [hk]))

/-- the reference's call behind a call: the parts are Q. -/
def ApP (B0 g : Nat) (w : World) (Q : List (List Tm)) (e : Ending) (w' : World) : Prop :=
  ∃ g4 c4, e = .returned (.slice (some ⟨g4, 0, none⟩) Q.length c4) ∧ GotP B0 w' (.slice (some ⟨g4, 0, none⟩) Q.length c4) Q ∧ (g4 = g ∨ w.heap.size ≤ g4) ∧ Upd [g] w w'

set_option maxRecDepth 20000 in
set_option maxHeartbeats 4000000 in
theorem l04Apply9 (B0 g cap : Nat) (Q : List (List Tm)) (x : List Tm) (w : World) (hG : GotP B0 w (.slice (some ⟨g, 0, none⟩) (Q.length + 1) cap) (Q ++ [x])) (hx : 0 < x.length) (hx2 : x.length ≤ 1000000) (hQ : Q.length ≤ 1000000) (hB : B0 ≤ w.heap.size) :
    Calls Tryd.prog 44 #[.slice (some ⟨g, 0, none⟩) (Q.length + 1) cap, .int .i64 9] w (ApP B0 g w (Q ++ [(3, 0) :: x])) := by
  obtain ⟨i0, hi, hz0, hz1, hz2⟩ := info_parts Tryd.infoT
  obtain ⟨i2, ji, jz0, jz1, jz2⟩ := info_parts Tryd.infoTS
  obtain ⟨-, hcp1, hcp2, hgb, hgl⟩ := hG.roomP
  unfold maxLen at hcp2
  obtain ⟨u, fu, q1, q2, q3⟩ := hG.atP Q.length (by simp)
  have e0 : (Q ++ [x])[Q.length]'(by simp) = x := by simp
  rw [e0] at q2
  obtain ⟨bx, ox, cx, rfl, hx3, hx4, hx5, hx6⟩ := slF_src q2.1 hx
  unfold maxLen at hx4
  have HX5 := Lib.hid hx5
  have X1 := Lib.hid (fun j u hj => ((Upd.refl [] w).alloc (.cells #[ei 3, ei 0] 50)).keep (hx6 j u hj))
  have hlit := World.ownsRow_lit (base := w.heap.size) (e := 50) (size := 2) w #[ei 3, ei 0] 1 (Nat.le_refl _) (by simp [maxLen]) (by simp)
  have hgt := hG.takeP Q.length (by simp)
  rw [List.take_left'  rfl] at hgt
  have HGT := Lib.hid hgt
  have hw1 : IntKind.i64.wrap ((Q.length : Int) + 1 - 1) = (Q.length : Int) := by rw [IntKind.wrap_i64]; omega
  clear hG q2 q3 e0 hx5 hx6 hgt
  go_enter Tryd.func44, Tryd.ntmps44
  go_wp2_with (first
    | (at_builtin; refine wpList_append_tight _ rfl _ _ 24 rfl w.heap.size 50 i0 (.agg #[.int .i64 0, .int .i64 0]) 2 16 Tryd.underlying24 hi hz0 hz1 hz2 rfl (by decide) _ _ _ rfl hlit ⟨bx, ox, none⟩ x.length cx (x.flatMap encT) rfl HX5.out X1.out (one_T1 x) ?c3 ?c4 ?c5 ?_)
    | fail)
  case c3 => unfold maxLen; omega
  case c4 => omega
  intro v3 w3 hown3 hg3 ht3
  have hu3 : Upd [] w w3 := ((Upd.refl [] w).alloc _).grown hg3 (fun k hk => Or.inl (by simp [Value.ownBlock] at hk; omega))
  obtain ⟨fp5, g1, g2, g3, g5⟩ := Flat.ofOwns hown3
  have hro : R_OT fp5 w3 [v3] ((3, 0) :: x) := ⟨⟨v3, rfl, by
    have e1 : 1 + x.length = (((3, 0) : Tm) :: x).length := by simp; omega
    rw [← e1]
    simpa using g1⟩, g2, fun b hb => typed_own hown3 (g5 b hb)⟩
  obtain ⟨us, hus, hfin⟩ := ap_end 24 (HGT.out.upd R_OTk hu3 (by simp)) hro (fun b hb => by have := g3 b hb; omega)
  have HFIN := Lib.hid hfin
  have hsz3 := hu3.size
  have HU3 := Lib.hid hu3
  have hln : (Q ++ [(3, 0) :: x]).length = Q.length + 1 := by simp
  have HLN := Lib.hid hln
  obtain ⟨a5, cc5, rfl⟩ := ownsRow_form hown3
  clear hfin hro g1 g2 g3 g5 hown3 hg3 ht3 hu3 hlit X1 HX5 HGT hln
  go_wp2_with (first
    | (at_builtin; refine wpList_append_lies _ rfl _ _ 81 rfl B0 24 i2 (.slice none 0 0) 1 24 Tryd.underlying81 ji jz0 jz1 jz2 rfl (by decide) (.slice (some ⟨g, 0, none⟩) Q.length cap) Q.length us rfl (ownsRow_upd hus ((Upd.refl _ _).alloc _)) ⟨w3.heap.size, 0, none⟩ 1 1 [.slice a5 (1 + x.length) cc5] rfl rfl (fun j u hj => by rw [addr_add]; exact cell_new w3 #[.slice a5 (1 + x.length) cc5] _ _ rfl _ _ (by simpa using hj)) (by simp [Value.oneCell']) (by decide) (by unfold maxLen; omega) (by omega) (by simp; omega) (w3.heap.size + 1) (by simp) ?_)
    | fail)
  intro g4 c4 w4 hown4 hg4 hat4 hlt4
  have HF := Lib.hid (HFIN.out g4 c4 w4 hown4 hg4 (by
    rcases hat4 with h | h
    · left; simpa [Value.ownBlock, eq_comm] using h
    · right; exact h))
  have hg4g : g4 = g ∨ w.heap.size ≤ g4 := by
    rcases hat4 with h | h
    · left; simpa [Value.ownBlock, eq_comm] using h
    · right; omega
  clear hown4 hg4 hat4 hlt4 hus HFIN
  go_wp2_with fail
  go_ret
  exact ⟨g4, c4, by rw [HLN.out]; rfl, by rw [HLN.out]; exact HF.out.1, hg4g, (HU3.out.mono (by simp)).trans HF.out.2⟩

set_option maxRecDepth 20000 in
set_option maxHeartbeats 4000000 in
theorem l04ApplyO (B0 g cap : Nat) (Q : List (List Tm)) (x y : List Tm) (o : Nat) (w : World) (ho : o < 9) (hG : GotP B0 w (.slice (some ⟨g, 0, none⟩) (Q.length + 2) cap) (Q ++ [x, y])) (hx : 0 < x.length) (hx2 : x.length ≤ 1000000) (hy : 0 < y.length) (hy2 : y.length ≤ 1000000)
    (hQ : Q.length ≤ 1000000) (hB : B0 ≤ w.heap.size) :
    Calls Tryd.prog 44 #[.slice (some ⟨g, 0, none⟩) (Q.length + 2) cap, .int .i64 o] w (ApP B0 g w (Q ++ [((2, (o : Int)) :: x) ++ y])) := by
  obtain ⟨XY, hXY⟩ : ∃ XY, ((2, (o : Int)) :: x) ++ y = XY := ⟨_, rfl⟩
  rw [hXY]
  have HXY := Lib.hid hXY
  clear hXY
  obtain ⟨i0, hi, hz0, hz1, hz2⟩ := info_parts Tryd.infoT
  obtain ⟨i2, ji, jz0, jz1, jz2⟩ := info_parts Tryd.infoTS
  obtain ⟨-, hcp1, hcp2, hgb, hgl⟩ := hG.roomP
  unfold maxLen at hcp2
  obtain ⟨u, fu, q1, q2, q3⟩ := hG.atP Q.length (by simp)
  have e0 : (Q ++ [x, y])[Q.length]'(by simp) = x := by simp
  rw [e0] at q2
  obtain ⟨bx, ox, cx, rfl, hx3, hx4, hx5, hx6⟩ := slF_src q2.1 hx
  obtain ⟨u, fy, r1, r2, r3⟩ := hG.atP (Q.length + 1) (by simp)
  have e1 : (Q ++ [x, y])[Q.length + 1]'(by simp) = y := by simp
  rw [e1] at r2
  obtain ⟨by', oy, cy, rfl, hy3, hy4, hy5, hy6⟩ := slF_src r2.1 hy
  unfold maxLen at hx4 hy4
  have HX5 := Lib.hid hx5
  have HY5 := Lib.hid hy5
  have X1 := Lib.hid (fun j u hj => ((Upd.refl [] w).alloc (.cells #[ei 2, ei (o : Int)] 50)).keep (hx6 j u hj))
  have HY6 := Lib.hid hy6
  have hlit := World.ownsRow_lit (base := w.heap.size) (e := 50) (size := 2) w #[ei 2, ei (o : Int)] 1 (Nat.le_refl _) (by simp [maxLen]) (by simp)
  have hgt := hG.takeP Q.length (by simp)
  rw [List.take_left' rfl] at hgt
  have HGT := Lib.hid hgt
  have hw1 : IntKind.i64.wrap ((Q.length : Int) + 2 - 1) = (Q.length : Int) + 1 := by rw [IntKind.wrap_i64]; omega
  have hw2 : IntKind.i64.wrap ((Q.length : Int) + 1 - 1) = (Q.length : Int) := by rw [IntKind.wrap_i64]; omega
  have ho9 : ((o : Int) == 9) = false := by simp; omega
  clear hG q2 q3 e0 e1 hx5 hx6 hgt r2 r3 hy5 hy6
  go_enter Tryd.func44, Tryd.ntmps44
  go_wp2_with (first
    | (at_builtin; refine wpList_append_tight _ rfl _ _ 24 rfl w.heap.size 50 i0 (.agg #[.int .i64 0, .int .i64 0]) 2 16 Tryd.underlying24 hi hz0 hz1 hz2 rfl (by decide) _ _ _ rfl hlit ⟨bx, ox, none⟩ x.length cx (x.flatMap encT) rfl HX5.out X1.out (one_T1 x) ?c3 ?c4 ?c5 ?_)
    | fail)
  case c3 => unfold maxLen; omega
  case c4 => omega
  intro v3 w3 hown3 hg3 ht3
  have hu3 : Upd [] w w3 := ((Upd.refl [] w).alloc _).grown hg3 (fun k hk => Or.inl (by simp [Value.ownBlock] at hk; omega))
  have r1' := hu3.keep r1
  have Y1 := Lib.hid (fun j u hj => hu3.keep (HY6.out j u hj))
  have HU3 := Lib.hid hu3
  have hsz3 := hu3.size
  obtain ⟨a5, cc5, rfl⟩ := ownsRow_form hown3
  clear hg3 ht3 hu3 hlit X1 HX5 HY6 r1
  go_wp2_with (first
    | (at_builtin; refine wpList_append_tight _ rfl _ _ 24 rfl w.heap.size 50 i0 (.agg #[.int .i64 0, .int .i64 0]) 2 16 Tryd.underlying24 hi hz0 hz1 hz2 rfl (by decide) _ _ _ rfl hown3 ⟨by', oy, none⟩ y.length cy (y.flatMap encT) rfl HY5.out Y1.out (one_T1 y) ?d3 ?d4 ?d5 ?_)
    | fail)
  case d3 => unfold maxLen; omega
  case d4 => omega
  case d5 => omega
  intro v6 w6 hown6 hg6 ht6
  have hu6 : Upd [] w w6 := HU3.out.grown hg6 (fun k hk => Or.inl (by have := (hown3.lt k hk).1; omega))
  obtain ⟨fp5, g1, g2, g3, g5⟩ := Flat.ofOwns hown6
  have hro : R_OT fp5 w6 [v6] XY := ⟨⟨v6, rfl, by
    have e1 : 1 + x.length + y.length = (((2, (o : Int)) :: x) ++ y).length := by simp; omega
    rw [← HXY.out, ← e1]
    simpa using g1⟩, g2, fun b hb => typed_own hown6 (g5 b hb)⟩
  obtain ⟨us, hus, hfin⟩ := ap_end 24 (HGT.out.upd R_OTk hu6 (by simp)) hro (fun b hb => by have := g3 b hb; omega)
  have HFIN := Lib.hid hfin
  have hsz6 := hu6.size
  have HU6 := Lib.hid hu6
  have hln : (Q ++ [XY]).length = Q.length + 1 := by simp
  have HLN := Lib.hid hln
  obtain ⟨a6, cc6, rfl⟩ := ownsRow_form hown6
  clear hfin hro g1 g2 g3 g5 hown6 hg6 ht6 hu6 hown3 Y1 HY5 HGT hln HU3
  go_wp2_with (first
    | (at_builtin; refine wpList_append_lies _ rfl _ _ 81 rfl B0 24 i2 (.slice none 0 0) 1 24 Tryd.underlying81 ji jz0 jz1 jz2 rfl (by decide) (.slice (some ⟨g, 0, none⟩) Q.length cap) Q.length us rfl (ownsRow_upd hus ((Upd.refl _ _).alloc _)) ⟨w6.heap.size, 0, none⟩ 1 1 [.slice a6 (1 + x.length + y.length) cc6] rfl rfl (fun j u hj => by rw [addr_add]; exact cell_new w6 #[.slice a6 (1 + x.length + y.length) cc6] _ _ rfl _ _ (by simpa using hj)) (by simp [Value.oneCell']) (by decide) (by unfold maxLen; omega) (by omega) (by simp; omega) (w6.heap.size + 1) (by simp) ?_)
    | fail)
  intro g4 c4 w4 hown4 hg4 hat4 hlt4
  have HF := Lib.hid (HFIN.out g4 c4 w4 hown4 hg4 (by
    rcases hat4 with h | h
    · left; simpa [Value.ownBlock, eq_comm] using h
    · right; exact h))
  have hg4g : g4 = g ∨ w.heap.size ≤ g4 := by
    rcases hat4 with h | h
    · left; simpa [Value.ownBlock, eq_comm] using h
    · right; omega
  clear hown4 hg4 hat4 hlt4 hus HFIN
  go_wp2_with fail
  go_ret
  exact ⟨g4, c4, by rw [HLN.out]; rfl, by rw [HLN.out]; exact HF.out.1, hg4g, (HU6.out.mono (by simp)).trans HF.out.2⟩

end Go.Proofs.YtpnokhhbakiiiaaDoor

/-
  Expressions parsed: the reference's two rows, parts and waiting operators.
-/
namespace Go.Proofs.YtpnokhhbakiiiaaDoor
open Go.RowKit

/-- the rows hold the machine's parts and waiting operators. -/
structure StP (B0 : Nat) (w : World) (g cap : Nat) (P : List (List Tm)) (gw cw : Nat) (W : List Nat) : Prop where
  got : GotP B0 w (.slice (some ⟨g, 0, none⟩) P.length cap) P.reverse
  wt : w.ownsRow B0 2 1 (.slice (some ⟨gw, 0, none⟩) W.length cw) W.length (W.reverse.map fun v : Nat => ei (v : Int))
  ne : g ≠ gw
  base : B0 ≤ w.heap.size

/-- what the machine's parts and waiting operators obey. -/
structure WfP (b : Bool) (P : List (List Tm)) (W : List Nat) (N : Nat) : Prop where
  cnt : P.length = W.countP (· < 9) + (if b then 0 else 1)
  le : ∀ v ∈ W, v ≤ 10
  pos : ∀ x ∈ P, 0 < x.length
  size : (P.map List.length).sum + W.length ≤ N

theorem sum_le {P : List (List Tm)} {x : List Tm} (h : x ∈ P) : x.length ≤ (P.map List.length).sum := by
  induction P with
  | nil => cases h
  | cons y P ih =>
    simp only [List.map_cons, List.sum_cons]
    rcases List.mem_cons.1 h with rfl | h
    · omega
    · have := ih h; omega
theorem len_sum {P : List (List Tm)} (h : ∀ x ∈ P, 0 < x.length) : P.length ≤ (P.map List.length).sum := by
  induction P with
  | nil => simp
  | cons y P ih =>
    simp only [List.map_cons, List.sum_cons, List.length_cons]
    have := ih (fun x hx => h x (List.mem_cons_of_mem _ hx))
    have := h y List.mem_cons_self
    omega

/-- a waiting operator is applied. -/
theorem WfP.ap {P : List (List Tm)} {o : Nat} {W : List Nat} {N : Nat} (h : WfP false P (o :: W) N) (ho : o ≠ 10) : WfP false (apF P o) W N ∧ ((o = 9 ∧ 1 ≤ P.length) ∨ (o < 9 ∧ 2 ≤ P.length)) := by
  obtain ⟨h1, h2, h3, h4⟩ := h
  have ho2 := h2 o List.mem_cons_self
  simp only [List.length_cons] at h4
  by_cases h9 : o = 9
  · subst h9
    rw [List.countP_cons_of_neg (by simp)] at h1
    simp only [Bool.false_eq_true, if_false] at h1
    match P, h1, h3, h4 with
    | [], h1, _, _ => simp at h1
    | x :: P, h1, h3, h4 =>
      refine ⟨⟨?_, fun v hv => h2 v (List.mem_cons_of_mem _ hv), ?_, ?_⟩, Or.inl ⟨rfl, by simp⟩⟩
      · simpa [apF] using h1
      · intro y hy
        simp only [apF, if_true, List.mem_cons] at hy
        rcases hy with rfl | hy
        · simp
        · exact h3 y (List.mem_cons_of_mem _ hy)
      · simp only [apF, if_true, List.map_cons, List.sum_cons, List.length_cons] at h4 ⊢; omega
  · have ho9 : o < 9 := by omega
    rw [List.countP_cons_of_pos (by simpa using ho9)] at h1
    simp only [Bool.false_eq_true, if_false] at h1
    match P, h1, h3, h4 with
    | [], h1, _, _ => simp at h1
    | [x], h1, _, _ => simp at h1
    | y :: x :: P, h1, h3, h4 =>
      rw [apF_op x y P o ho9]
      refine ⟨⟨?_, fun v hv => h2 v (List.mem_cons_of_mem _ hv), ?_, ?_⟩, Or.inr ⟨ho9, by simp⟩⟩
      · simp only [List.length_cons] at h1 ⊢; simp; omega
      · intro z hz
        rcases List.mem_cons.1 hz with rfl | hz
        · simp
        · exact h3 z (List.mem_cons_of_mem _ (List.mem_cons_of_mem _ hz))
      · simp only [List.map_cons, List.sum_cons, List.length_cons, List.length_append] at h4 ⊢; omega

theorem l04ApplyP (B0 g cap : Nat) (P : List (List Tm)) (o : Nat) (w : World) (hG : GotP B0 w (.slice (some ⟨g, 0, none⟩) P.length cap) P.reverse) (ho : (o = 9 ∧ 1 ≤ P.length) ∨ (o < 9 ∧ 2 ≤ P.length))
    (hp : ∀ x ∈ P, 0 < x.length) (hs : (P.map List.length).sum ≤ 1000000) (hB : B0 ≤ w.heap.size) :
    Calls Tryd.prog 44 #[.slice (some ⟨g, 0, none⟩) P.length cap, .int .i64 o] w (ApP B0 g w (apF P o).reverse) := by
  have hl := len_sum hp
  rcases ho with ⟨rfl, h1⟩ | ⟨ho, h2⟩
  · match P, h1, hG, hp, hs, hl with
    | x :: P, _, hG, hp, hs, hl =>
      have hx := sum_le (P := x :: P) (x := x) List.mem_cons_self
      have hx0 := hp x List.mem_cons_self
      have e : (apF (x :: P) 9).reverse = P.reverse ++ [(3, 0) :: x] := by simp [apF]
      rw [e]
      have hG' : GotP B0 w (.slice (some ⟨g, 0, none⟩) (P.reverse.length + 1) cap) (P.reverse ++ [x]) := by simpa using hG
      have := l04Apply9 B0 g cap P.reverse x w hG' hx0 (by omega) (by simp only [List.length_reverse, List.length_cons] at *; omega) hB
      simpa using this
  · match P, h2, hG, hp, hs, hl with
    | y :: x :: P, _, hG, hp, hs, hl =>
      have hx := sum_le (P := y :: x :: P) (x := x) (by simp)
      have hy := sum_le (P := y :: x :: P) (x := y) (by simp)
      have hx0 := hp x (by simp)
      have hy0 := hp y (by simp)
      rw [apF_op x y P o ho]
      have e : ((((2, (o : Int)) :: x) ++ y) :: P).reverse = P.reverse ++ [((2, (o : Int)) :: x) ++ y] := by simp
      rw [e]
      have hG' : GotP B0 w (.slice (some ⟨g, 0, none⟩) (P.reverse.length + 2) cap) (P.reverse ++ [x, y]) := by simpa using hG
      have := l04ApplyO B0 g cap P.reverse x y o w ho hG' hx0 (by omega) hy0 (by omega) (by simp only [List.length_reverse, List.length_cons] at *; omega) hB
      simpa using this

/-- a call that applies the operator o leaves the waiting row alone. -/
theorem StP.ap {B0 : Nat} {w : World} {g cap : Nat} {P : List (List Tm)} {gw cw : Nat} {W : List Nat} (h : StP B0 w g cap P gw cw W) {o : Nat} {W' : List Nat} {N : Nat} (hN : N ≤ 1000000) (hw : WfP false P (o :: W') N) (ho : o ≠ 10) :
    Calls Tryd.prog 44 #[.slice (some ⟨g, 0, none⟩) P.length cap, .int .i64 o] w fun e w' => ∃ g4 c4, e = .returned (.slice (some ⟨g4, 0, none⟩) (apF P o).length c4) ∧ StP B0 w' g4 c4 (apF P o) gw cw W ∧ Upd [g] w w' := by
  obtain ⟨hw2, hc⟩ := hw.ap ho
  have hs := hw.size
  refine (l04ApplyP B0 g cap P o w h.got hc hw.pos (by omega) h.base).mono ?_
  rintro e w' ⟨g4, c4, rfl, hG, h4, hu⟩
  rw [List.length_reverse] at hG
  have hgl := (h.wt.lt gw rfl).2
  refine ⟨g4, c4, by rw [List.length_reverse], ⟨hG, ?_, ?_, Nat.le_trans h.base hu.size⟩, hu⟩
  · exact ownsRow_keep h.wt fun b hb => by
      simp only [Value.ownBlock, Option.some.injEq] at hb
      subst hb
      exact hu.block _ hgl (by have := h.ne; simp; exact fun e => this e.symm)
  · rcases h4 with rfl | h4
    · exact h.ne
    · omega
/-- the waiting operator under the top. -/
theorem StP.cell {B0 : Nat} {w : World} {g cap : Nat} {P : List (List Tm)} {gw cw : Nat} {V W' : List Nat} {o : Nat} (h : StP B0 w g cap P gw cw (V ++ o :: W')) : w.cell? ⟨gw, W'.length, none⟩ = some (ei (o : Int)) := by
  have h1 := h.wt.cellAt W'.length (by simp; omega)
  rw [h1]
  simp

/-- the parts behind a write to a block of numbers. -/
theorem got_other {B0 : Nat} {w w1 : World} {v : Value} {Q : List (List Tm)} {gw : Nat} (h : GotP B0 w v Q) (hu : Upd [gw] w w1) {c : Array Value} (hgw : w.heap[gw]? = some (.cells c 2)) (hne : v.ownBlock ≠ some gw) : GotP B0 w1 v Q := by
  obtain ⟨us, fps, h1, h2, h3, h4⟩ := h
  refine ⟨us, fps, ?_, h2, h3, fun i hi u f hu' hf => ?_⟩
  · exact ownsRow_keep h1 fun b hb => hu.block b ((h1.lt b hb).2) (by
      intro hm
      obtain rfl : b = gw := by simpa using hm
      exact hne hb)
  · have h5 := h4 i hi u f hu' hf
    refine R_OTk.upd h5 hu fun b hb hm => ?_
    obtain rfl : b = gw := by simpa using hm
    obtain ⟨c2, hc2⟩ := h5.2.2 b hb
    rw [hgw] at hc2
    cases hc2
/-- a waiting operator is appended. -/
theorem StP.pushW {B0 : Nat} {w w4 : World} {g cap : Nat} {P : List (List Tm)} {gw cw : Nat} {W : List Nat} (h : StP B0 w g cap P gw cw W) (o : Nat) (T : TypeId) {g4 c4 : Nat}
    (hown : w4.ownsRow B0 2 1 (.slice (some ⟨g4, 0, none⟩) (W.length + 1) c4) (W.length + 1) (W.reverse.map (fun v : Nat => ei (v : Int)) ++ [ei (o : Int)])) (hg : (w.alloc (.cells #[ei (o : Int)] T)).grownBy w4 (some gw)) (hat : g4 = gw ∨ g4 = w.heap.size + 1) :
    StP B0 w4 g cap P g4 c4 (o :: W) ∧ Upd [gw] w w4 := by
  have hu : Upd [gw] w w4 := ((Upd.refl _ _).alloc _).grown hg (fun k hk => Or.inr (by simp only [Option.some.injEq] at hk; simp [hk]))
  obtain ⟨c, hc⟩ := typed_own h.wt (b := gw) rfl
  have hgl := h.got.roomP.2.2.2.2
  refine ⟨⟨got_other h.got hu hc (by simp [Value.ownBlock]; exact h.ne), by simpa using hown, ?_, Nat.le_trans h.base hu.size⟩, hu⟩
  rcases hat with rfl | rfl
  · exact h.ne
  · omega
/-- the waiting row cut short. -/
theorem StP.cutW {B0 : Nat} {w : World} {g cap : Nat} {P : List (List Tm)} {gw cw : Nat} {V W : List Nat} (h : StP B0 w g cap P gw cw (V ++ W)) : StP B0 w g cap P gw cw W := by
  refine ⟨h.got, ?_, h.ne, h.base⟩
  have h1 := ownsRow_take h.wt W.length (by simp)
  rw [Nat.mul_one] at h1
  simpa using h1
/-- a part is appended. -/
theorem StP.pushP {B0 : Nat} {w wp : World} {g cap : Nat} {P : List (List Tm)} {gw cw : Nat} {W : List Nat} (h : StP B0 w g cap P gw cw W) (hu : Upd [] w wp) {x : List Tm} {u : Value} {fu : List Nat} (T : TypeId) (hr : R_OT fu wp [u] x) (hfu : ∀ b ∈ fu, w.heap.size ≤ b) :
    ∃ us, wp.ownsRow B0 24 1 (.slice (some ⟨g, 0, none⟩) P.length cap) P.length us ∧
      ∀ g4 c4 w4, w4.ownsRow B0 24 1 (.slice (some ⟨g4, 0, none⟩) (P.length + 1) c4) (P.length + 1) (us ++ [u]) → (wp.alloc (.cells #[u] T)).grownBy w4 (some g) → (g4 = g ∨ g4 = wp.heap.size + 1) →
        StP B0 w4 g4 c4 (x :: P) gw cw W ∧ Upd [g] wp w4 := by
  have hgl := h.got.roomP.2.2.2.2
  have hG := h.got.upd R_OTk hu (by simp)
  have hb := h.base
  have hG' : GotP B0 wp (.slice (some ⟨g, 0, none⟩) P.reverse.length cap) P.reverse := by simpa using hG
  obtain ⟨us, hus, hfin⟩ := ap_end T hG' hr (fun b hb => by have := hfu b hb; omega)
  rw [List.length_reverse] at hus
  refine ⟨us, hus, fun g4 c4 w4 hown hg hat => ?_⟩
  obtain ⟨k1, k2⟩ := hfin g4 c4 w4 (by simpa using hown) hg hat
  have hsz := hu.size
  have hwl := (h.wt.lt gw rfl).2
  refine ⟨⟨by simpa using k1, ?_, ?_, Nat.le_trans h.base (Nat.le_trans hsz k2.size)⟩, k2⟩
  · exact ownsRow_keep (ownsRow_upd h.wt hu) fun b hb => by
      simp only [Value.ownBlock, Option.some.injEq] at hb
      subst hb
      exact k2.block _ (by omega) (by have := h.ne; simp; exact fun e => this e.symm)
  · rcases hat with rfl | rfl
    · exact h.ne
    · omega

end Go.Proofs.YtpnokhhbakiiiaaDoor

/-
  Expressions parsed: the program's parser makes the tree of an operand.
-/
namespace Go.Proofs.YtpnokhhbakiiiaaDoor
open Go.RowKit

theorem kdF_num {t : List UInt8} {n : Int} (h : kdF t = some (.num n)) : smallF 64 t = some n ∧ varF t = none := by
  have hs : smallF 64 t = some n := by
    unfold kdF at h
    cases ho : opIx t with
    | some o => rw [ho] at h; cases h
    | none =>
      rw [ho] at h
      simp only at h
      split at h
      · cases h
      · split at h
        · cases h
        · split at h
          · cases h
          · split at h
            · rename_i hq; cases h; exact hq
            · cases hv : varF t <;> rw [hv] at h <;> cases h
  refine ⟨hs, ?_⟩
  cases hv : varF t with
  | none => rfl
  | some k => have := var_small hv; rw [this] at hs; cases hs
theorem kdF_var {t : List UInt8} {k : Int} (h : kdF t = some (.var k)) : varF t = some k := by
  unfold kdF at h
  cases ho : opIx t with
  | some o => rw [ho] at h; cases h
  | none =>
    rw [ho] at h
    simp only at h
    split at h
    · cases h
    · split at h
      · cases h
      · split at h
        · cases h
        · split at h
          · cases h
          · cases hv : varF t with
            | none => rw [hv] at h; cases h
            | some v => rw [hv] at h; cases h; rfl

/-- a call returns the tree x, made anew; the parser at P then holds tokens of the kinds r. -/
def ParB (w0 : World) (P : Nat) (w : World) (x : Ex) (r : List Tk) (e : Ending) (w' : World) : Prop :=
  (∃ v', e = .returned v' ∧ New R_E w w' v' x) ∧ Upd [P] w w' ∧ ∃ L', kinds L' = r ∧ Toks L' ∧ PS w0 P w' L'
def OpdC (w0 : World) (P N : Nat) : Prop := ∀ (L : List (List UInt8 × Nat)) (x : Ex) (r : List Tk) (w : World), L.length ≤ N → Toks L → PS w0 P w L → Ps .opd (kinds L) x r →
  Calls Tryd.prog 39 #[.pointer (some ⟨P, 0, none⟩)] w (ParB w0 P w x r)
def ExpC (w0 : World) (P N : Nat) : Prop := ∀ (L : List (List UInt8 × Nat)) (l : Int) (x : Ex) (r : List Tk) (w : World), L.length ≤ N → Toks L → PS w0 P w L → Ps (.exp l) (kinds L) x r →
  Calls Tryd.prog 22 #[.pointer (some ⟨P, 0, none⟩), .int .i64 l] w (ParB w0 P w x r)

theorem New.formE {w w' : World} {v : Value} {x : Ex} (h : New R_E w w' v x) : ∃ b, v = .pointer (some ⟨b, 0, none⟩) := by
  obtain ⟨fp, h1, -⟩ := h
  exact R_E_form h1

set_option maxHeartbeats 400000 in
theorem numberI (n : Int) (w : World) : Calls Tryd.prog 58 #[.int .i64 n] w fun e w' => (∃ v', e = .returned v' ∧ New R_E w w' v' (.mk (0, n) [])) ∧ Upd [] w w' := by
  have HN := Lib.hid (fun T => node0 w 0 n T)
  go_enter Tryd.func58, Tryd.ntmps58
  go_wp2_with fail
  go_ret
  exact ⟨⟨_, rfl, HN.out _⟩, (Upd.refl _ _).alloc _⟩

set_option maxRecDepth 20000 in
set_option maxHeartbeats 4000000 in
theorem opdStep (w0 : World) (P N : Nat) (hG : Glob w0) (he : EnvT w0) (ho : OpdC w0 P N) (hx : ExpC w0 P N) : OpdC w0 P (N + 1) := by
  intro L x r w hl hk hP hps
  match L, hl, hk, hP, hps with
  | [], _, _, _, hps => exact absurd hps (by intro h; cases h)
  | (t, n) :: L2, hl, hk, hP, hps =>
    obtain ⟨k, hkk, htl⟩ := hk (t, n) List.mem_cons_self
    simp only at hkk htl
    have hkn : kinds ((t, n) :: L2) = k :: kinds L2 := by simp [kinds, hkk]
    rw [hkn] at hps
    have hf := (kd_facts hkk).2
    have S1 := Lib.hid (nextI w0 P w t n L2 hP)
    have HT := Lib.hid hk.tail
    have hl2 : L2.length ≤ N := by simpa using hl
    have HO := Lib.hid (fun x r w' hp h => ho L2 x r w' hl2 hk.tail hp h)
    have HX := Lib.hid (fun l x r w' hp h => hx L2 l x r w' hl2 hk.tail hp h)
    obtain ⟨KL, hKL⟩ : ∃ KL, kinds L2 = KL := ⟨_, rfl⟩
    rw [hKL] at hps HO HX
    have HKL := Lib.hid hKL
    have hPl := hP.lt
    clear hk hkn hG ho hx hl hKL
    cases hps with
    | num m r =>
      obtain ⟨f1, f2, -⟩ := hf
      replace f1 : (t == [33]) = false := f1
      replace f2 : (t == [40]) = false := f2
      obtain ⟨g1, g2⟩ := kdF_num hkk
      have S2 := Lib.hid (fun W (hu : Upd [] w0 W) => variableTokenI t W htl (he.upd hu))
      have S3 := Lib.hid (fun W (hu : Upd [] w0 W) => numberTokenI 64 t W htl (by omega) (by omega) (he.upd hu))
      rw [g2] at S2
      rw [g1] at S3
      simp only [Option.isSome_none, Option.isSome_some] at S2 S3
      clear hkk htl he g1 g2 HO HX hP
      go_enter Tryd.func39, Tryd.ntmps39
      go_wp2_with fail
      refine S1.out.mono ?_
      rintro e w1 ⟨rfl, hp1, hu1⟩
      have HP1 := Lib.hid hp1
      have HU1 := Lib.hid hu1
      have T2 := Lib.hid (S2.out w1 hp1.upd)
      clear S1 S2 hp1 hu1
      go_wp2_with fail
      refine T2.out.mono ?_
      rintro e w2 ⟨⟨N1, rfl, -⟩, hu2⟩
      have HP2 := Lib.hid (HP1.out.keep hu2)
      have HU2 := Lib.hid (HU1.out.trans (hu2.mono (g := [P]) (by simp)))
      have T3 := Lib.hid (S3.out w2 HP2.out.upd)
      clear S3 T2 hu2 HP1 HU1
      go_wp2_with fail
      refine T3.out.mono ?_
      rintro e w3 ⟨⟨N2, rfl, HN2⟩, hu3⟩
      obtain rfl : N2 = m := HN2.out m rfl
      have HP3 := Lib.hid (HP2.out.keep hu3)
      have HU3 := Lib.hid (HU2.out.trans (hu3.mono (g := [P]) (by simp)))
      clear T3 hu3 HP2 HU2 HN2
      have T4 := Lib.hid (numberI N2 w3)
      go_wp2_with fail
      refine T4.out.mono ?_
      rintro e w4 ⟨⟨v', rfl, hnew⟩, hu4⟩
      have HNW := Lib.hid (hnew.mono HU3.out.size)
      have HP4 := Lib.hid (HP3.out.keep hu4)
      have HU4 := Lib.hid (HU3.out.trans (hu4.mono (g := [P]) (by simp)))
      clear T4 hu4 HP3 HU3 hnew
      go_wp2_with fail
      go_ret
      exact ⟨⟨_, rfl, HNW.out⟩, HU4.out, L2, HKL.out, HT.out, HP4.out⟩
    | var m r =>
      obtain ⟨f1, f2, -⟩ := hf
      replace f1 : (t == [33]) = false := f1
      replace f2 : (t == [40]) = false := f2
      have g1 := kdF_var hkk
      have S2 := Lib.hid (fun W (hu : Upd [] w0 W) => variableTokenI t W htl (he.upd hu))
      rw [g1] at S2
      simp only [Option.isSome_some] at S2
      clear hkk htl he g1 HO HX hP
      go_enter Tryd.func39, Tryd.ntmps39
      go_wp2_with fail
      refine S1.out.mono ?_
      rintro e w1 ⟨rfl, hp1, hu1⟩
      have HP1 := Lib.hid hp1
      have HU1 := Lib.hid hu1
      have T2 := Lib.hid (S2.out w1 hp1.upd)
      clear S1 S2 hp1 hu1
      go_wp2_with fail
      refine T2.out.mono ?_
      rintro e w2 ⟨⟨N1, rfl, HN1⟩, hu2⟩
      obtain rfl : N1 = m := HN1.out m rfl
      have HP2 := Lib.hid (HP1.out.keep hu2)
      have HU2 := Lib.hid (HU1.out.trans (hu2.mono (g := [P]) (by simp)))
      have HN := Lib.hid (fun T => (node0 w2 1 N1 T).mono HU2.out.size)
      clear T2 hu2 HP1 HU1 HN1
      go_wp2_with fail
      go_ret
      exact ⟨⟨_, rfl, HN.out _⟩, HU2.out.alloc _, L2, HKL.out, HT.out, HP2.out.keep ((Upd.refl _ _).alloc _)⟩
    | bang hps =>
      obtain ⟨f1, -⟩ := hf
      replace f1 : (t == [33]) = true := f1
      have S2 := Lib.hid (fun W (hp : PS w0 P W L2) => HO.out _ r W hp hps)
      clear hkk htl he HO HX hP
      go_enter Tryd.func39, Tryd.ntmps39
      go_wp2_with fail
      refine S1.out.mono ?_
      rintro e w1 ⟨rfl, hp1, hu1⟩
      have HU1 := Lib.hid hu1
      have T2 := Lib.hid (S2.out w1 hp1)
      clear S1 S2 hp1 hu1
      go_wp2_with fail
      refine T2.out.mono ?_
      rintro e w2 ⟨⟨v', rfl, hnew⟩, hu2, hrest⟩
      obtain ⟨pb, rfl⟩ := hnew.formE
      have HN := Lib.hid (fun T1 T => (node1 hnew hu2.size 3 0 T1 T).mono HU1.out.size)
      have HU2 := Lib.hid (HU1.out.trans hu2)
      have HR := Lib.hid hrest
      clear T2 hu2 HU1 hrest hnew
      go_wp2_with fail
      go_ret
      obtain ⟨L', r1, r2, r3⟩ := HR.out
      exact ⟨⟨_, rfl, HN.out _ _⟩, (HU2.out.alloc _).alloc _, L', r1, r2, r3.keep (((Upd.refl _ _).alloc _).alloc _)⟩
    | par hps =>
      obtain ⟨f1, f2, -⟩ := hf
      replace f1 : (t == [33]) = false := f1
      replace f2 : (t == [40]) = true := f2
      have S2 := Lib.hid (fun W (hp : PS w0 P W L2) => HX.out 1 x (.rpar :: r) W hp hps)
      have S3 := Lib.hid (nextI w0 P)
      clear hkk htl he HO HX hP
      go_enter Tryd.func39, Tryd.ntmps39
      go_wp2_with fail
      refine S1.out.mono ?_
      rintro e w1 ⟨rfl, hp1, hu1⟩
      have HU1 := Lib.hid hu1
      have T2 := Lib.hid (S2.out w1 hp1)
      have HPL := Lib.hid hp1.lt
      clear S1 S2 hp1 hu1
      go_wp2_with fail
      refine T2.out.mono ?_
      rintro e w2 ⟨⟨v', rfl, hnew⟩, hu2, L', hr1, hr2, hr3⟩
      obtain ⟨pb, rfl⟩ := hnew.formE
      match L', hr1, hr2, hr3 with
      | [], hr1, _, _ => exact absurd hr1 (by intro h; cases h)
      | (t2, n2) :: L3, hr1, hr2, hr3 =>
        have hr4 : kinds L3 = r := by simp only [kinds, List.map_cons, List.cons.injEq] at hr1; exact hr1.2
        have T3 := Lib.hid (S3.out w2 t2 n2 L3 hr3)
        have HNW := Lib.hid hnew
        have HU2 := Lib.hid (HU1.out.trans hu2)
        have HR := Lib.hid (And.intro hr4 hr2.tail)
        clear T2 S3 hu2 hr1 hr2 hr3 hr4 hnew
        go_wp2_with fail
        refine T3.out.mono ?_
        rintro e w3 ⟨rfl, hp3, hu3⟩
        have HP3 := Lib.hid hp3
        have HU3 := Lib.hid (HU2.out.trans hu3)
        have HNW3 := Lib.hid ((R_Ek.new HNW.out hu3 (fun b hb => by obtain rfl : b = P := (by simpa using hb); exact HPL.out)).mono HU1.out.size)
        clear T3 hp3 hu3 HNW HU2
        go_wp2_with fail
        go_ret
        exact ⟨⟨_, rfl, HNW3.out⟩, HU3.out, L3, HR.out.1, HR.out.2, HP3.out⟩

end Go.Proofs.YtpnokhhbakiiiaaDoor

/-
  Expressions parsed: what the first byte of a token tells; plain.
-/
namespace Go.Proofs.YtpnokhhbakiiiaaDoor
open Go.RowKit

def isNumK : Tk → Bool | .num _ => true | _ => false
def isVarK : Tk → Bool | .var _ => true | _ => false

theorem small_dig {c : UInt8} {r : List UInt8} {lim n : Int} (h : smallF lim (c :: r) = some n) : isDig c = true := by
  unfold smallF at h
  cases hn : numF (c :: r) with
  | none => rw [hn] at h; cases h
  | some m =>
    rw [hn] at h
    simp only at h
    split at h
    · rename_i hb
      have h1 := (numF_some hn).1
      obtain ⟨q, rfl⟩ : ∃ q : Nat, m = q := ⟨m.toNat, by omega⟩
      have h2 := dec_digits q
      rw [show Lib.decDigits q = c :: r by rw [h1]; simp [Lib.itoa]] at h2
      simp only [List.all_cons, Bool.and_eq_true] at h2
      exact h2.1
    · cases h

theorem kdF_inv {t : List UInt8} {k : Tk} (h : kdF t = some k) : match k with
    | .op o => o < 9 ∧ opIx t = some o ∧ opT o = t
    | .bang => t = [33]
    | .lpar => t = [40]
    | .rpar => t = [41]
    | .num n => smallF 64 t = some n
    | .var n => varF t = some n := by
  have hf := kd_facts h
  cases k with
  | op o => have := kdF_op h; exact ⟨this.1, this.2, (opIx_lt this.2).2⟩
  | bang => simpa [isBangK] using hf.2.1
  | lpar => simpa [isLparK] using hf.2.2.1
  | rpar => simpa [isRparK] using hf.2.2.2
  | num n => exact (kdF_num h).1
  | var n => exact kdF_var h

theorem ch_facts {c : UInt8} {r : List UInt8} {k : Tk} (h : kdF (c :: r) = some k) : (c == 33) = isBangK k ∧ (c == 40) = isLparK k ∧ (c == 41) = isRparK k ∧ isDig c = isNumK k ∧ (c == 118) = isVarK k := by
  have hi := kdF_inv h
  cases k with
  | op o =>
    obtain ⟨h1, -, h2⟩ := hi
    rcases (show o = 0 ∨ o = 1 ∨ o = 2 ∨ o = 3 ∨ o = 4 ∨ o = 5 ∨ o = 6 ∨ o = 7 ∨ o = 8 by omega) with h | h | h | h | h | h | h | h | h <;> subst h <;> (simp only [opT] at h2; simp at h2; obtain ⟨rfl, -⟩ := h2; decide)
  | bang => simp at hi; obtain ⟨rfl, -⟩ := hi; decide
  | lpar => simp at hi; obtain ⟨rfl, -⟩ := hi; decide
  | rpar => simp at hi; obtain ⟨rfl, -⟩ := hi; decide
  | num n =>
    have hd := small_dig (show smallF 64 (c :: r) = some n from hi)
    have hne : ∀ d : UInt8, isDig d = false → (c == d) = false := fun d hd' => by
      rw [beq_eq_false_iff_ne]; intro e; subst e; rw [hd] at hd'; cases hd'
    exact ⟨hne 33 (by decide), hne 40 (by decide), hne 41 (by decide), hd, hne 118 (by decide)⟩
  | var n =>
    have hv : (if c = 118 then smallF 29 r else none) = some n := hi
    have hc : c = 118 := by
      by_cases hc : c = 118
      · exact hc
      · rw [if_neg hc] at hv; cases hv
    subst hc
    refine ⟨?_, ?_, ?_, ?_, ?_⟩ <;> simp [isBangK, isLparK, isRparK, isNumK, isVarK, isDig]
theorem opJ_kd {t : List UInt8} {k : Tk} (h : kdF t = some k) : opJ t = match k with | .op o => (o : Int) | _ => -1 := by
  have h1 := (kd_facts h).1
  unfold opJ
  cases k with
  | op o => rw [(kdF_op h).2]
  | bang => cases ho : opIx t with | none => rfl | some o => rw [ho] at h1; cases h1
  | lpar => cases ho : opIx t with | none => rfl | some o => rw [ho] at h1; cases h1
  | rpar => cases ho : opIx t with | none => rfl | some o => rw [ho] at h1; cases h1
  | num n => cases ho : opIx t with | none => rfl | some o => rw [ho] at h1; cases h1
  | var n => cases ho : opIx t with | none => rfl | some o => rw [ho] at h1; cases h1
theorem num_kd {t : List UInt8} {n : Int} (h : kdF t = some (.num n)) : (smallF 64 t).getD (-1) = n := by rw [(kdF_num h).1]; rfl
theorem var_kd {c : UInt8} {r : List UInt8} {n : Int} (h : kdF (c :: r) = some (.var n)) : (smallF 29 r).getD (-1) = n := by
  have h1 := kdF_var h
  have hv : (if c = 118 then smallF 29 r else none) = some n := h1
  split at hv
  · rw [hv]; rfl
  · cases hv

/-- a round of the machine's input: the blanks behind us, a token or none. -/
theorem tk_round {s : List UInt8} {n : Nat} (hn : n ≤ s.length) :
    (skF s n = s.length ∧ tkS s n = ([], -1)) ∨
    ∃ m, skF s n = m ∧ m < s.length ∧ n ≤ m ∧ (∀ h : m < s.length, s[m] ≠ 32) ∧
      ((endT s m = m ∧ tkS s n = ([], (m : Int))) ∨
       ∃ (c : UInt8) (r : List UInt8) (k : Tk) (e : Nat), endT s m = e ∧ m < e ∧ e ≤ s.length ∧ (∀ h : m < s.length, s[m] = c) ∧ (s.drop m).take (e - m) = c :: r ∧ (s.drop (m + 1)).take (e - (m + 1)) = r ∧ kdF (c :: r) = some k ∧ tkS s n = ((c :: r, m) :: (tkS s e).1, (tkS s e).2)) := by
  have hs := tkS_skip s (s.length - n) n (Nat.le_refl _) hn
  have hl := skF_le hn
  by_cases he : skF s n = s.length
  · left
    refine ⟨he, ?_⟩
    rw [← hs.1, he, tkS_end (Nat.le_refl _)]
  · right
    refine ⟨skF s n, rfl, by omega, hl.1, hs.2, ?_⟩
    have hm : skF s n < s.length := by omega
    have h32 := hs.2 hm
    have hst := tkS_step hm
    rw [if_neg h32, hs.1] at hst
    generalize skF s n = m at *
    have hdr := List.drop_eq_getElem_cons hm
    have hp := cutF_pos (s := s.drop m) (by rw [hdr]; exact List.cons_ne_nil _ _)
    rw [List.length_drop] at hp
    by_cases hk : (kdF ((s.drop m).take (cutF (s.drop m)))).isSome = true
    · right
      rw [if_pos hk] at hst
      obtain ⟨k, hkk⟩ := Option.isSome_iff_exists.1 hk
      obtain ⟨j, hj⟩ : ∃ j, cutF (s.drop m) = j + 1 := ⟨cutF (s.drop m) - 1, by omega⟩
      have ht : (s.drop m).take (cutF (s.drop m)) = s[m] :: (s.drop (m + 1)).take j := by rw [hj, hdr, List.take_succ_cons]
      have hE : endT s m = m + cutF (s.drop m) := by unfold endT; rw [if_pos hk]
      rw [ht] at hst hkk
      refine ⟨s[m], (s.drop (m + 1)).take j, k, m + cutF (s.drop m), hE, by omega, by omega, fun _ => rfl, ?_, ?_, hkk, hst⟩
      · rw [Nat.add_sub_cancel_left]; exact ht
      · rw [hj, show m + (j + 1) - (m + 1) = j by omega]
    · left
      rw [if_neg hk] at hst
      refine ⟨by unfold endT; rw [if_neg hk], hst⟩

end Go.Proofs.YtpnokhhbakiiiaaDoor

/-
  Expressions parsed: the reference's parser.
-/
namespace Go.Proofs.YtpnokhhbakiiiaaDoor
open Go.RowKit

/-- what the reference's parser returns. -/
def RunP (s : List UInt8) (E : Int) (Y : List (List Tm)) (w : World) (e : Ending) (w' : World) : Prop :=
  ((0 ≤ E ∧ e = .returned (.tuple #[.slice none 0 0, .int .i64 E, .bool false])) ∨
    (E < 0 ∧ ∃ v' N f, e = .returned (.tuple #[v', .int .i64 N, .bool true]) ∧ R_OT f w' [v'] (Y.headD []) ∧ ∀ b ∈ f, w.heap.size ≤ b)) ∧ Upd [] w w'

/-- the parser's state at an offset. -/
structure RnP (s : List UInt8) (w : World) (bad E : Int) (Y : List (List Tm)) (n : Nat) (b : Bool) (g cap : Nat) (P : List (List Tm)) (gw cw : Nat) (W : List Nat) (wr : World) : Prop where
  st : StP w.heap.size wr g cap P gw cw W
  wf : WfP b P W n
  er : errF bad s.length b (W.countP (· == 10)) (tkS s n).1 = E
  bd : (tkS s n).2 = bad
  sy : syF b P W (kinds (tkS s n).1) = Y
  up : Upd [] w wr

/-- a term in a new block of its own. -/
theorem term_new (W : World) (a b : Int) (B : Nat) (hB : W.heap.size = B) : R_OT [B] (W.alloc (.cells #[ei a, ei b] 50)) [.slice (some ⟨B, 0, none⟩) 1 1] [(a, b)] := by
  subst hB
  refine ⟨⟨_, rfl, some ⟨W.heap.size, 0, none⟩, 1, rfl, Nat.le_refl _, by simp [maxLen], by simp, Or.inr ⟨W.heap.size, 0, rfl, rfl, by simp, fun j u hj => ?_⟩⟩, ⟨by simp, fun b hb => ?_⟩, fun b hb => ?_⟩
  · rw [Nat.zero_add]
    exact cell_new W _ _ _ rfl j u (by simpa using hj)
  · obtain rfl : b = W.heap.size := by simpa using hb
    exact ⟨_, _, heap_alloc_new W _⟩
  · obtain rfl : b = W.heap.size := by simpa using hb
    exact ⟨_, heap_alloc_new W _⟩

theorem startR (s : List UInt8) (w : World) (bad E : Int) (Y : List (List Tm)) (hbad : (tkS s 0).2 = bad) (hE : errF bad s.length true 0 (tkS s 0).1 = E) (hY : syF true [] [] (kinds (tkS s 0).1) = Y) :
    RnP s w bad E Y 0 true w.heap.size 0 [] (w.heap.size + 1) 0 [] ((w.alloc (.cells #[] 24)).alloc (.cells #[] 2)) := by
    have r1 := World.ownsRow_lit (base := w.heap.size) (e := 24) (size := 1) w #[] 0 (Nat.le_refl _) (by simp [maxLen]) (by simp)
    have r2 := World.ownsRow_lit (base := w.heap.size) (e := 2) (size := 1) (w.alloc (.cells #[] 24)) #[] 0 (by simp) (by simp [maxLen]) (by simp)
    refine ⟨⟨⟨[], [], ?_, rfl, by simp, by simp⟩, ?_, by omega, by simp; omega⟩, ⟨rfl, by simp, by simp, by simp⟩, hE, hbad, hY, ((Upd.refl _ _).alloc _).alloc _⟩
    · simpa using ownsRow_upd r1 ((Upd.refl [] _).alloc (.cells #[] 2))
    · simpa using r2

set_option maxRecDepth 20000 in
set_option maxHeartbeats 20000000 in
theorem l04RunS (s : List UInt8) (w : World) (hl : s.length ≤ 100000) :
    Calls Tryd.prog 24 #[es s, .int .i64 0, es []] w (RunP s (errF (tkS s 0).2 s.length true 0 (tkS s 0).1) (syF true [] [] (kinds (tkS s 0).1)) w) := by
  obtain ⟨bad, hbad⟩ : ∃ q, (tkS s 0).2 = q := ⟨_, rfl⟩
  rw [hbad]
  obtain ⟨E, hE⟩ : ∃ q, errF bad s.length true 0 (tkS s 0).1 = q := ⟨_, rfl⟩
  rw [hE]
  obtain ⟨Y, hY⟩ : ∃ q, syF true [] [] (kinds (tkS s 0).1) = q := ⟨_, rfl⟩
  rw [hY]
  obtain ⟨i3, ki, kz0, kz1, kz2⟩ := info_parts Tryd.info2
  obtain ⟨i2, ji, jz0, jz1, jz2⟩ := info_parts Tryd.infoTS
  have HSK := Lib.hid (fun n W (h : n ≤ s.length) => l04SkipS s n W (by omega) h)
  have HTK := Lib.hid (fun n W (h : n < s.length) (h2 : s[n] ≠ 32) => l04TokenS s n W (by omega) h h2)
  have HTR := Lib.hid (fun n (h : n ≤ s.length) => tk_round h)
  have H0 := Lib.hid (startR s w bad E Y hbad hE hY)
  clear hbad hE hY
  go_enter Tryd.func24, Tryd.ntmps24
  go_wp2_with fail
  go_loopw [1, 9, 10, 11, 12] (fun nv pv wv dv bv wr => ∃ (n g cap gw cw : Nat) (b : Bool) (P : List (List Tm)) (W : List Nat), n ≤ s.length ∧ nv = .int .i64 n ∧ pv = .slice (some ⟨g, 0, none⟩) P.length cap ∧ wv = .slice (some ⟨gw, 0, none⟩) W.length cw ∧
      dv = .int .i64 ((W.countP (· == 10) : Nat) : Int) ∧ bv = .bool b ∧ Hid (RnP s w bad E Y n b g cap P gw cw W wr)) (fun nv _ _ _ _ _ => s.length - (intOf nv).toNat)
  case atStart => exact ⟨0, _, _, _, _, true, [], [], Nat.zero_le _, rfl, rfl, rfl, rfl, rfl, Lib.hid H0.out⟩
  case round =>
    clear H0
    obtain ⟨wo, rfl⟩ : ∃ wo : World, wo = wr := ⟨_, rfl⟩
    obtain ⟨n, g, cap, gw, cw, b, P, W, hn, rfl, rfl, rfl, rfl, rfl, HR⟩ := hrel
    have K1 := Lib.hid (HSK.out n wo hn)
    have HD := Lib.hid (show W.countP (· == 10) ≤ n from by have h1 := HR.out.wf.size; have h2 := List.countP_le_length (p := (· == 10)) (l := W); omega)
    obtain ⟨d, hd⟩ : ∃ d, W.countP (· == 10) = d := ⟨_, rfl⟩
    rw [hd] at HD ⊢
    have HDD := Lib.hid hd
    clear hd
    rcases HTR.out n hn with ⟨h1, h2⟩ | ⟨m, h1, hm, hnm, h32, h3⟩
    · rw [h1] at K1
      have hE := HR.out.er
      have hbd := HR.out.bd
      rw [h2] at hE hbd
      rw [HDD.out] at hE
      have HE := Lib.hid (show E = if b || decide (0 < d) then (s.length : Int) else -1 by rw [← hE, ← hbd]; cases b <;> rfl)
      have hY := HR.out.sy
      rw [h2] at hY
      have HY := Lib.hid (show Y = redF P W by rw [← hY]; cases b <;> rfl)
      clear hE hbd hY h1 h2 HTR HTK HSK
      cases b with
      | true =>
        have HX := Lib.hid (show E = s.length by rw [HE.out]; rfl)
        have HU := Lib.hid HR.out.up
        clear HE HY HR HD HDD
        go_wp2_with fail
        refine K1.out.mono ?_
        rintro e w1 ⟨rfl, rfl⟩
        clear K1
        go_wp2_with fail
        go_ret3
        exact ⟨Or.inl ⟨by rw [HX.out]; omega, by rw [HX.out]; rfl⟩, HU.out⟩
      | false =>
        by_cases hd0 : 0 < d
        · have HX := Lib.hid (show E = s.length by rw [HE.out, decide_eq_true hd0]; rfl)
          have HU := Lib.hid HR.out.up
          have hd0' : (0 : Int) < (d : Int) := by omega
          clear HE HY HR HD HDD
          go_wp2_with fail
          refine K1.out.mono ?_
          rintro e w1 ⟨rfl, rfl⟩
          clear K1
          go_wp2_with fail
          go_ret3
          exact ⟨Or.inl ⟨by rw [HX.out]; omega, by rw [HX.out]; rfl⟩, HU.out⟩
        · obtain rfl : d = 0 := by omega
          have HX := Lib.hid (show E < 0 by rw [HE.out]; simp)
          clear HE HD
          go_wp2_with fail
          refine K1.out.mono ?_
          rintro e w1 ⟨rfl, rfl⟩
          clear K1
          go_wp2_with fail
          go_loopw [13, 14] (fun tv iv wr => tv = .bool true ∧ iv = .int .i64 0 ∧ wr = wo) (fun _ _ _ => 0)
          case atStart => exact ⟨rfl, rfl, rfl⟩
          case round =>
            obtain ⟨rfl, rfl, hww⟩ := hrel
            subst hww
            have HG0 := Lib.hid (show ∀ o : Nat, o ∈ W → o ≠ 10 from fun o ho e => by
              have h := HDD.out
              rw [List.countP_eq_zero] at h
              exact h o ho (by simp [e]))
            have hWn : W.length ≤ n := by have h := HR.out.wf.size; omega
            have hwr0 : IntKind.i64.wrap ((W.length : Int) - 1) = (W.length : Int) - 1 := by rw [IntKind.wrap_i64]; omega
            go_wp2_with fail
            go_loopw [9, 15] (fun pv iv wr => ∃ (V W' : List Nat) (P' : List (List Tm)) (g' cap' : Nat), W = V ++ W' ∧ iv = .int .i64 ((W'.length : Int) - 1) ∧ pv = .slice (some ⟨g', 0, none⟩) P'.length cap' ∧
              Hid (StP w.heap.size wr g' cap' P' gw cw W ∧ WfP false P' W' n ∧ redF P W = redF P' W' ∧ Upd [] w wr)) (fun _ iv _ => (intOf iv + 1).toNat)
            case atStart => exact ⟨[], W, P, g, cap, rfl, by go_num, rfl, Lib.hid ⟨HR.out.st, HR.out.wf, rfl, HR.out.up⟩⟩
            case round =>
              clear HR
              obtain ⟨wp, rfl⟩ : ∃ wp : World, wp = wr := ⟨_, rfl⟩
              obtain ⟨V, W', P', g', cap', hW, hiv, hpv, HR⟩ := hrel
              obtain ⟨q1, q2, q3, q4⟩ := HR.out
              clear HR
              obtain rfl | ⟨o, W'', rfl⟩ : W' = [] ∨ ∃ o W'', W' = o :: W'' := by cases W' with | nil => exact Or.inl rfl | cons o W'' => exact Or.inr ⟨o, W'', rfl⟩
              · simp only [List.length_nil, Int.natCast_zero, Int.zero_sub] at hiv
                subst hiv
                have hc := q2.cnt
                simp only [List.countP_nil, Bool.false_eq_true, if_false, Nat.zero_add] at hc
                obtain ⟨x, rfl⟩ := List.length_eq_one_iff.1 hc
                simp only [List.length_singleton] at hpv
                subst hpv
                obtain ⟨u, f, a1, a2, a3⟩ := q1.got.atP 0 (by simp)
                have hx : [x].reverse[0]'(by simp) = x := by simp
                rw [hx] at a2
                obtain ⟨ua, uc, rfl, -⟩ := slF2_open a2.1
                have HA := Lib.hid (And.intro a2 a3)
                have HYX := Lib.hid (show Y.headD [] = x by rw [HY.out, q3]; rfl)
                have HU := Lib.hid q4
                have hcp := q1.got.roomP.2.1
                simp only [List.length_singleton] at hcp
                clear q1 q2 q3 q4 a2 a3 HY hc HG0 HDD hW hx
                go_wp2_with fail
                go_ret3
                refine ⟨Or.inr ⟨HX.out, _, _, f, rfl, ?_, fun b hb => (HA.out.2 b hb).2⟩, HU.out⟩
                rw [HYX.out]
                exact HA.out.1
              · simp only [List.length_cons, Int.natCast_add, Int.natCast_one, Int.add_sub_cancel] at hiv
                subst hiv hpv
                have ho10 : o ≠ 10 := HG0.out o (by rw [hW]; simp)
                have hcell : wp.cell? ⟨gw, W''.length, none⟩ = some (ei (o : Int)) := (hW ▸ q1).cell
                have S1 := Lib.hid (q1.ap (N := n) (by omega) q2 ho10)
                have HQ := Lib.hid (And.intro (q2.ap ho10).1 (q3.trans (show redF P' (o :: W'') = redF (apF P' o) W'' from rfl)))
                have HU := Lib.hid q4
                have HGB := Lib.hid (q1.got.roomP.2.2.2.1)
                have hwl : W''.length + 1 ≤ n := by have h := q2.size; simp only [List.length_cons] at h; omega
                have hWl : W''.length < W.length := by rw [hW]; simp; omega
                have HW := Lib.hid hW
                clear q1 q2 q3 q4 HY HG0 HDD hW
                go_wp2_with fail
                refine S1.out.mono ?_
                rintro e w2 ⟨g4, c4, rfl, hst, hu⟩
                have HS2 := Lib.hid hst
                have HU2 := Lib.hid (HU.out.fresh hu (fun b hb => Or.inl (by obtain rfl : b = g' := (by simpa using hb); exact HGB.out)))
                clear S1 hst hu HU
                go_wp2_with fail
                go_roundw
                case rel => exact ⟨V ++ [o], W'', apF P' o, g4, c4, by rw [HW.out]; simp, by go_num, rfl, Lib.hid ⟨HS2.out, HQ.out.1, HQ.out.2, HU2.out⟩⟩
                case measure => simp [intOf]
    · rw [h1] at K1
      have hml : (m : Int) < (s.length : Int) := by omega
      have hne : ((m : Int) == (s.length : Int)) = false := by simp; omega
      have T1 := Lib.hid (HTK.out m wo hm (h32 hm))
      clear h1 HTK HSK HTR
      rcases h3 with ⟨e1, e2⟩ | ⟨c, r, k, e, e1, e2, e3, e4, e5, e6, e7, e8⟩
      · rw [e1] at T1
        have HX := Lib.hid (show E = m by
          have h4 := HR.out.er
          have h5 := HR.out.bd
          rw [e2] at h4 h5
          have h6 : errF bad s.length b (W.countP (· == 10)) [] = if 0 ≤ bad then bad else if b || decide (0 < W.countP (· == 10)) then s.length else -1 := by cases b <;> rfl
          have h5' : (m : Int) = bad := h5
          rw [← h4, h6, if_pos (by omega)]
          omega)
        have HU := Lib.hid HR.out.up
        clear HR HD HDD h32 e1 e2
        go_wp2_with fail
        refine K1.out.mono ?_
        rintro e w1 ⟨rfl, rfl⟩
        clear K1
        go_wp2_with fail
        go_loopw [13, 14] (fun tv iv wr => tv = .bool false ∧ iv = .int .i64 0 ∧ wr = wo) (fun _ _ _ => 0)
        case atStart => exact ⟨rfl, rfl, rfl⟩
        case round =>
          obtain ⟨rfl, rfl, hww⟩ := hrel
          subst hww
          go_wp2_with fail
          refine T1.out.mono ?_
          rintro e w1 ⟨rfl, hu1⟩
          have HU1 := Lib.hid (HU.out.trans hu1)
          clear T1 hu1 HU
          go_wp2_with fail
          go_ret3
          exact ⟨Or.inl ⟨by rw [HX.out]; omega, by rw [HX.out]; rfl⟩, HU1.out⟩
      · rw [e1] at T1
        have hix : (⟨s.toArray⟩ : ByteArray)[m]'(by simpa [ByteArray.size] using hm) = c := by rw [← e4 hm]; simp [ByteArray.getElem_eq_getElem_data]
        have hemf : ((e : Int) == (m : Int)) = false := by simp; omega
        have HK := Lib.hid e7
        have HC := Lib.hid (ch_facts e7)
        have HTX := Lib.hid (And.intro e5 e6)
        have HER := Lib.hid (show errF bad s.length b d ((c :: r, m) :: (tkS s e).1) = E by have h4 := HR.out.er; rw [e8, HDD.out] at h4; exact h4)
        have HBD := Lib.hid (show (tkS s e).2 = bad by have h4 := HR.out.bd; rw [e8] at h4; exact h4)
        have HSY := Lib.hid (show syF b P W (k :: kinds (tkS s e).1) = Y by have h4 := HR.out.sy; rw [e8] at h4; simpa [kinds, e7] using h4)
        have HST := Lib.hid (And.intro HR.out.st HR.out.up)
        have HWF := Lib.hid HR.out.wf
        have hWn : W.length ≤ n := by have h := HR.out.wf.size; omega
        clear HR h32 e1 e4 e5 e6 e7 e8
        go_wp2_with fail
        refine K1.out.mono ?_
        rintro _ w1 ⟨rfl, rfl⟩
        clear K1
        go_wp2_with fail
        go_loopw [13, 14] (fun tv iv wr => tv = .bool false ∧ iv = .int .i64 0 ∧ wr = wo) (fun _ _ _ => 0)
        case atStart => exact ⟨rfl, rfl, rfl⟩
        case round =>
          obtain ⟨rfl, rfl, hww⟩ := hrel
          subst hww
          go_wp2_with fail
          refine T1.out.mono ?_
          rintro _ w1 ⟨rfl, hu1⟩
          have HS1 := Lib.hid (show StP w.heap.size w1 g cap P gw cw W ∧ Upd [] w w1 from ⟨⟨HST.out.1.got.upd R_OTk hu1 (by simp), ownsRow_upd HST.out.1.wt hu1, HST.out.1.ne, Nat.le_trans HST.out.1.base hu1.size⟩, HST.out.2.trans hu1⟩)
          clear T1 hu1 HST
          go_upto_region 23 with (fail)
          cases b with
          | true =>
            have Q33 := byte_beq c 33 (by omega)
            have Q40 := byte_beq c 40 (by omega)
            have Q118 := byte_beq c 118 (by omega)
            rw [show ((33 : Nat) : Int) = 33 from rfl] at Q33
            rw [show ((40 : Nat) : Int) = 40 from rfl] at Q40
            rw [show ((118 : Nat) : Int) = 118 from rfl] at Q118
            rw [show (c == UInt8.ofNat 33) = isBangK k from HC.out.1] at Q33
            rw [show (c == UInt8.ofNat 40) = isLparK k from HC.out.2.1] at Q40
            rw [show (c == UInt8.ofNat 118) = isVarK k from HC.out.2.2.2.2] at Q118
            have D1 := Lib.hid (digitS c w1)
            rw [HC.out.2.2.2.1] at D1
            clear HC
            cases k with
            | bang => as_aux_lemma =>
              replace Q33 : ((c.toNat : Int) == 33) = true := Q33
              obtain ⟨WL, hWL⟩ : ∃ WL, (W.reverse.map fun v : Nat => ei (v : Int)) = WL := ⟨_, rfl⟩
              have HP := Lib.hid (fun T g4 c4 w4 (h1 : w4.ownsRow w.heap.size 2 1 (.slice (some ⟨g4, 0, none⟩) (W.length + 1) c4) (W.length + 1) (WL ++ [ei 9])) h2 h3 => HS1.out.1.pushW (w4 := w4) 9 T (g4 := g4) (c4 := c4) (by rw [hWL]; exact h1) h2 h3)
              have hwt := HS1.out.1.wt
              rw [hWL] at hwt
              have hszw := HS1.out.1.base
              have hcw : W.length ≤ cw ∧ cw ≤ 9223372036854775807 := by
                rcases hwt.2 with ⟨h0, -⟩ | ⟨g', cap', cur, hv, -, -, h3, h4, -⟩
                · cases h0
                · cases hv; unfold maxLen at h4; exact ⟨h3, by omega⟩
              have hcnt : (9 :: W).countP (· == 10) = d := by rw [List.countP_cons_of_neg (by simp)]; rw [HDD.out]
              have HCN := Lib.hid hcnt
              have HER2 := Lib.hid (show errF bad s.length true d (tkS s e).1 = E by
                have h := HER.out
                rw [show errF bad s.length true d ((c :: r, m) :: (tkS s e).1) = errF bad s.length true d (tkS s e).1 by rw [errF, HK.out]] at h
                exact h)
              have HW2 := Lib.hid (show WfP true P (9 :: W) e from ⟨by rw [List.countP_cons_of_neg (by simp)]; exact HWF.out.cnt, fun v hv => by
                rcases List.mem_cons.1 hv with rfl | hv
                · omega
                · exact HWF.out.le v hv, HWF.out.pos, by have h := HWF.out.size; simp only [List.length_cons]; omega⟩)
              have hd1 : (d : Int) ≤ 100000 := by have := HD.out; omega
              clear Q40 Q118 D1 HK HTX HER HWF hcnt HDD hWL
              go_wp2_with (first
                | (at_builtin; refine wpList_append_lies _ rfl _ _ 59 rfl w.heap.size 2 i3 (.int .i64 0) 1 8 Tryd.underlying59 ki kz0 kz1 kz2 rfl (by decide) (.slice (some ⟨gw, 0, none⟩) W.length cw) W.length WL rfl (ownsRow_upd hwt ((Upd.refl _ _).alloc _)) ⟨w1.heap.size, 0, none⟩ 1 1 [ei 9] rfl rfl (fun j u hj => by rw [addr_add]; exact cell_new w1 #[ei 9] _ _ rfl _ _ (by simpa using hj)) (by simp [Value.oneCell']) (by decide) (by unfold maxLen; omega) (by omega) (by simp; omega) (w1.heap.size + 1) (by simp) ?_)
                | fail)
              intro g4 c4 w4 hown4 hg4 hat4 hlt4
              have HS4 := Lib.hid (HP.out _ g4 c4 w4 hown4 hg4 (by
                rcases hat4 with h | h
                · left; simpa [Value.ownBlock, eq_comm] using h
                · right; exact h))
              have HU4 := Lib.hid (HS1.out.2.fresh HS4.out.2 (fun b hb => Or.inl (by obtain rfl : b = gw := (by simpa using hb); exact (hwt.lt _ rfl).1)))
              clear hown4 hg4 hat4 hlt4 HP hwt
              go_wp2_with fail
              go_roundw
              case rel => exact ⟨e, g, cap, g4, c4, true, P, 9 :: W, e3, by go_num, rfl, rfl, by rw [HCN.out], rfl, Lib.hid ⟨HS4.out.1, HW2.out, by rw [HCN.out]; exact HER2.out, HBD.out, HSY.out, HU4.out⟩⟩
              case measure => simp [intOf]; omega
            | lpar => as_aux_lemma =>
              replace Q33 : ((c.toNat : Int) == 33) = false := Q33
              replace Q40 : ((c.toNat : Int) == 40) = true := Q40
              obtain ⟨WL, hWL⟩ : ∃ WL, (W.reverse.map fun v : Nat => ei (v : Int)) = WL := ⟨_, rfl⟩
              have HP := Lib.hid (fun T g4 c4 w4 (h1 : w4.ownsRow w.heap.size 2 1 (.slice (some ⟨g4, 0, none⟩) (W.length + 1) c4) (W.length + 1) (WL ++ [ei 10])) h2 h3 => HS1.out.1.pushW (w4 := w4) 10 T (g4 := g4) (c4 := c4) (by rw [hWL]; exact h1) h2 h3)
              have hwt := HS1.out.1.wt
              rw [hWL] at hwt
              have hszw := HS1.out.1.base
              have hcw : W.length ≤ cw ∧ cw ≤ 9223372036854775807 := by
                rcases hwt.2 with ⟨h0, -⟩ | ⟨g', cap', cur, hv, -, -, h3, h4, -⟩
                · cases h0
                · cases hv; unfold maxLen at h4; exact ⟨h3, by omega⟩
              have hcnt : (10 :: W).countP (· == 10) = (d + 1) := by rw [List.countP_cons_of_pos (by simp)]; rw [HDD.out]
              have HCN := Lib.hid hcnt
              have HER2 := Lib.hid (show errF bad s.length true (d + 1) (tkS s e).1 = E by
                have h := HER.out
                rw [show errF bad s.length true d ((c :: r, m) :: (tkS s e).1) = errF bad s.length true (d + 1) (tkS s e).1 by rw [errF, HK.out]] at h
                exact h)
              have HW2 := Lib.hid (show WfP true P (10 :: W) e from ⟨by rw [List.countP_cons_of_neg (by simp)]; exact HWF.out.cnt, fun v hv => by
                rcases List.mem_cons.1 hv with rfl | hv
                · omega
                · exact HWF.out.le v hv, HWF.out.pos, by have h := HWF.out.size; simp only [List.length_cons]; omega⟩)
              have hd1 : (d : Int) ≤ 100000 := by have := HD.out; omega
              clear Q118 D1 HK HTX HER HWF hcnt HDD hWL
              go_wp2_with (first
                | (at_builtin; refine wpList_append_lies _ rfl _ _ 59 rfl w.heap.size 2 i3 (.int .i64 0) 1 8 Tryd.underlying59 ki kz0 kz1 kz2 rfl (by decide) (.slice (some ⟨gw, 0, none⟩) W.length cw) W.length WL rfl (ownsRow_upd hwt ((Upd.refl _ _).alloc _)) ⟨w1.heap.size, 0, none⟩ 1 1 [ei 10] rfl rfl (fun j u hj => by rw [addr_add]; exact cell_new w1 #[ei 10] _ _ rfl _ _ (by simpa using hj)) (by simp [Value.oneCell']) (by decide) (by unfold maxLen; omega) (by omega) (by simp; omega) (w1.heap.size + 1) (by simp) ?_)
                | fail)
              intro g4 c4 w4 hown4 hg4 hat4 hlt4
              have HS4 := Lib.hid (HP.out _ g4 c4 w4 hown4 hg4 (by
                rcases hat4 with h | h
                · left; simpa [Value.ownBlock, eq_comm] using h
                · right; exact h))
              have HU4 := Lib.hid (HS1.out.2.fresh HS4.out.2 (fun b hb => Or.inl (by obtain rfl : b = gw := (by simpa using hb); exact (hwt.lt _ rfl).1)))
              clear hown4 hg4 hat4 hlt4 HP hwt
              go_wp2_with fail
              go_roundw
              case rel => exact ⟨e, g, cap, g4, c4, true, P, 10 :: W, e3, by go_num, rfl, rfl, by rw [HCN.out]; go_num, rfl, Lib.hid ⟨HS4.out.1, HW2.out, by rw [HCN.out]; exact HER2.out, HBD.out, HSY.out, HU4.out⟩⟩
              case measure => simp [intOf]; omega
            | num v => as_aux_lemma =>
              replace Q33 : ((c.toNat : Int) == 33) = false := Q33
              replace Q40 : ((c.toNat : Int) == 40) = false := Q40
              have hme : (m : Int) ≤ (e : Int) := by omega
              have hext := extract_list s m e
              rw [HTX.out.1] at hext
              have hem : (e : Int) ≤ (s.length : Int) := by omega
              have htl : (c :: r).length ≤ 2000000 := by rw [← HTX.out.1, List.length_take, List.length_drop]; omega
              have M1 := Lib.hid (l04SmallS 64 (c :: r) w1 htl)
              rw [num_kd HK.out] at M1
              have hro := term_new w1 0 v w1.heap.size rfl
              obtain ⟨us, hus, hfin⟩ := HS1.out.1.pushP ((Upd.refl [] w1).alloc (.cells #[ei 0, ei v] 50)) 24 hro (by simp)
              have HFIN := Lib.hid hfin
              have hPn : P.length ≤ n := by have h1 := len_sum HWF.out.pos; have h2 := HWF.out.size; omega
              have hgb := HS1.out.1.got.roomP
              have hcp1 := hgb.2.1
              have hcp2 := hgb.2.2.1
              unfold maxLen at hcp2
              have hszw := HS1.out.1.base
              have HGB := Lib.hid hgb.2.2.2.1
              have HER2 := Lib.hid (show errF bad s.length false d (tkS s e).1 = E by
                have h := HER.out
                rw [show errF bad s.length true d ((c :: r, m) :: (tkS s e).1) = errF bad s.length false d (tkS s e).1 by rw [errF, HK.out]] at h
                exact h)
              have HW2 := Lib.hid (show WfP false ([(0, v)] :: P) W e from ⟨by have h := HWF.out.cnt; simp only [if_true, Nat.add_zero] at h; simp [h], HWF.out.le, fun x hx => by
                rcases List.mem_cons.1 hx with rfl | hx
                · simp
                · exact HWF.out.pos x hx, by have h := HWF.out.size; simp only [List.map_cons, List.sum_cons, List.length_singleton]; omega⟩)
              clear HK HTX HER HWF hro hfin hgb htl
              go_wp2_with fail
              refine D1.out.mono ?_
              rintro _ w2 ⟨rfl, rfl⟩
              clear D1
              go_wp2_with fail
              refine M1.out.mono ?_
              rintro _ w2 ⟨rfl, rfl⟩
              clear M1
              go_wp2_with (first
                | (at_builtin; refine wpList_append_lies _ rfl _ _ 81 rfl w.heap.size 24 i2 (.slice none 0 0) 1 24 Tryd.underlying81 ji jz0 jz1 jz2 rfl (by decide) (.slice (some ⟨g, 0, none⟩) P.length cap) P.length us rfl (ownsRow_upd hus ((Upd.refl _ _).alloc _)) ⟨w1.heap.size + 1, 0, none⟩ 1 1 [.slice (some ⟨w1.heap.size, 0, none⟩) 1 1] rfl rfl (fun j u hj => by rw [addr_add]; exact cell_new (w1.alloc (.cells #[ei 0, ei v] 50)) #[.slice (some ⟨w1.heap.size, 0, none⟩) 1 1] _ _ (by simp) _ _ (by simpa using hj)) (by simp [Value.oneCell']) (by decide) (by unfold maxLen; omega) (by omega) (by simp; omega) (w1.heap.size + 2) (by simp) ?_)
                | fail)
              intro g4 c4 w4 hown4 hg4 hat4 hlt4
              have HS4 := Lib.hid (HFIN.out g4 c4 w4 hown4 hg4 (by
                rcases hat4 with h | h
                · left; simpa [Value.ownBlock, eq_comm] using h
                · right; simp [h]))
              have HU4 := Lib.hid ((HS1.out.2.alloc _).fresh HS4.out.2 (fun b hb => Or.inl (by obtain rfl : b = g := (by simpa using hb); exact HGB.out)))
              clear hown4 hg4 hat4 hlt4 hus HFIN
              go_wp2_with fail
              go_roundw
              case rel => exact ⟨e, g4, c4, gw, cw, false, [(0, v)] :: P, W, e3, by go_num, rfl, rfl, by rw [HDD.out], rfl, Lib.hid ⟨HS4.out.1, HW2.out, by rw [HDD.out]; exact HER2.out, HBD.out, HSY.out, HU4.out⟩⟩
              case measure => simp [intOf]; omega
            | var v => as_aux_lemma =>
              replace Q33 : ((c.toNat : Int) == 33) = false := Q33
              replace Q40 : ((c.toNat : Int) == 40) = false := Q40
              replace Q118 : ((c.toNat : Int) == 118) = true := Q118
              have hwr1 : IntKind.i64.wrap ((m : Int) + 1) = (m : Int) + 1 := by rw [IntKind.wrap_i64]; omega
              have hme : (m : Int) + 1 ≤ (e : Int) := by omega
              have hext := extract_list s (m + 1) e
              rw [HTX.out.2] at hext
              have hem : (e : Int) ≤ (s.length : Int) := by omega
              have htl : (r).length ≤ 2000000 := by rw [← HTX.out.2, List.length_take, List.length_drop]; omega
              have M1 := Lib.hid (l04SmallS 29 (r) w1 htl)
              rw [var_kd HK.out] at M1
              have hro := term_new w1 1 v w1.heap.size rfl
              obtain ⟨us, hus, hfin⟩ := HS1.out.1.pushP ((Upd.refl [] w1).alloc (.cells #[ei 1, ei v] 50)) 24 hro (by simp)
              have HFIN := Lib.hid hfin
              have hPn : P.length ≤ n := by have h1 := len_sum HWF.out.pos; have h2 := HWF.out.size; omega
              have hgb := HS1.out.1.got.roomP
              have hcp1 := hgb.2.1
              have hcp2 := hgb.2.2.1
              unfold maxLen at hcp2
              have hszw := HS1.out.1.base
              have HGB := Lib.hid hgb.2.2.2.1
              have HER2 := Lib.hid (show errF bad s.length false d (tkS s e).1 = E by
                have h := HER.out
                rw [show errF bad s.length true d ((c :: r, m) :: (tkS s e).1) = errF bad s.length false d (tkS s e).1 by rw [errF, HK.out]] at h
                exact h)
              have HW2 := Lib.hid (show WfP false ([(1, v)] :: P) W e from ⟨by have h := HWF.out.cnt; simp only [if_true, Nat.add_zero] at h; simp [h], HWF.out.le, fun x hx => by
                rcases List.mem_cons.1 hx with rfl | hx
                · simp
                · exact HWF.out.pos x hx, by have h := HWF.out.size; simp only [List.map_cons, List.sum_cons, List.length_singleton]; omega⟩)
              clear HK HTX HER HWF hro hfin hgb htl
              go_wp2_with fail
              refine D1.out.mono ?_
              rintro _ w2 ⟨rfl, rfl⟩
              clear D1
              go_wp2_with fail
              refine M1.out.mono ?_
              rintro _ w2 ⟨rfl, rfl⟩
              clear M1
              go_wp2_with (first
                | (at_builtin; refine wpList_append_lies _ rfl _ _ 81 rfl w.heap.size 24 i2 (.slice none 0 0) 1 24 Tryd.underlying81 ji jz0 jz1 jz2 rfl (by decide) (.slice (some ⟨g, 0, none⟩) P.length cap) P.length us rfl (ownsRow_upd hus ((Upd.refl _ _).alloc _)) ⟨w1.heap.size + 1, 0, none⟩ 1 1 [.slice (some ⟨w1.heap.size, 0, none⟩) 1 1] rfl rfl (fun j u hj => by rw [addr_add]; exact cell_new (w1.alloc (.cells #[ei 1, ei v] 50)) #[.slice (some ⟨w1.heap.size, 0, none⟩) 1 1] _ _ (by simp) _ _ (by simpa using hj)) (by simp [Value.oneCell']) (by decide) (by unfold maxLen; omega) (by omega) (by simp; omega) (w1.heap.size + 2) (by simp) ?_)
                | fail)
              intro g4 c4 w4 hown4 hg4 hat4 hlt4
              have HS4 := Lib.hid (HFIN.out g4 c4 w4 hown4 hg4 (by
                rcases hat4 with h | h
                · left; simpa [Value.ownBlock, eq_comm] using h
                · right; simp [h]))
              have HU4 := Lib.hid ((HS1.out.2.alloc _).fresh HS4.out.2 (fun b hb => Or.inl (by obtain rfl : b = g := (by simpa using hb); exact HGB.out)))
              clear hown4 hg4 hat4 hlt4 hus HFIN
              go_wp2_with fail
              go_roundw
              case rel => exact ⟨e, g4, c4, gw, cw, false, [(1, v)] :: P, W, e3, by go_num, rfl, rfl, by rw [HDD.out], rfl, Lib.hid ⟨HS4.out.1, HW2.out, by rw [HDD.out]; exact HER2.out, HBD.out, HSY.out, HU4.out⟩⟩
              case measure => simp [intOf]; omega
            | rpar => as_aux_lemma =>
              replace Q33 : ((c.toNat : Int) == 33) = false := Q33
              replace Q40 : ((c.toNat : Int) == 40) = false := Q40
              replace Q118 : ((c.toNat : Int) == 118) = false := Q118
              have HX := Lib.hid (show E = m by
                have h := HER.out
                rw [show errF bad s.length true d ((c :: r, m) :: (tkS s e).1) = m by rw [errF, HK.out]] at h
                exact h.symm)
              have HU := Lib.hid HS1.out.2
              clear HK HTX HER HWF HDD HS1 HD
              go_wp2_with fail
              refine D1.out.mono ?_
              rintro _ w2 ⟨rfl, rfl⟩
              clear D1
              go_wp2_with fail
              go_ret3
              exact ⟨Or.inl ⟨by rw [HX.out]; omega, by rw [HX.out]; rfl⟩, HU.out⟩
            | op o => as_aux_lemma =>
              replace Q33 : ((c.toNat : Int) == 33) = false := Q33
              replace Q40 : ((c.toNat : Int) == 40) = false := Q40
              replace Q118 : ((c.toNat : Int) == 118) = false := Q118
              have HX := Lib.hid (show E = m by
                have h := HER.out
                rw [show errF bad s.length true d ((c :: r, m) :: (tkS s e).1) = m by rw [errF, HK.out]] at h
                exact h.symm)
              have HU := Lib.hid HS1.out.2
              clear HK HTX HER HWF HDD HS1 HD
              go_wp2_with fail
              refine D1.out.mono ?_
              rintro _ w2 ⟨rfl, rfl⟩
              clear D1
              go_wp2_with fail
              go_ret3
              exact ⟨Or.inl ⟨by rw [HX.out]; omega, by rw [HX.out]; rfl⟩, HU.out⟩
          | false =>
            have Q41 := byte_beq c 41 (by omega)
            rw [show ((41 : Nat) : Int) = 41 from rfl] at Q41
            rw [show (c == UInt8.ofNat 41) = isRparK k from HC.out.2.2.1] at Q41
            have hext := extract_list s m e
            rw [HTX.out.1] at hext
            have hme : (m : Int) ≤ (e : Int) := by omega
            have hem : (e : Int) ≤ (s.length : Int) := by omega
            have O1 := Lib.hid (l04OpR (c :: r) w1)
            have hj := opJ_kd HK.out
            clear HC HTX
            cases k with
            | op o => as_aux_lemma =>
              replace Q41 : ((c.toNat : Int) == 41) = false := Q41
              replace hj : opJ (c :: r) = (o : Int) := hj
              rw [hj] at O1
              have ho9 : o < 9 := by have h := kdF_inv HK.out; exact h.1
              have ho0 : ¬ (o : Int) < 0 := by omega
              have hwW : IntKind.i64.wrap ((W.length : Int) - 1) = (W.length : Int) - 1 := by rw [IntKind.wrap_i64]; omega
              have HER2 := Lib.hid (show errF bad s.length true d (tkS s e).1 = E by
                have h := HER.out
                rw [show errF bad s.length false d ((c :: r, m) :: (tkS s e).1) = errF bad s.length true d (tkS s e).1 by rw [errF, HK.out]] at h
                exact h)
              have HSY2 := Lib.hid (show syF true (popF (lvl o) P W).1 (o :: (popF (lvl o) P W).2) (kinds (tkS s e).1) = Y from HSY.out)
              clear HK HER HSY
              go_wp2_with fail
              refine O1.out.mono ?_
              rintro _ w2 ⟨rfl, hu1⟩
              have HS2 := Lib.hid (show StP w.heap.size w2 g cap P gw cw W ∧ Upd [] w w2 from ⟨⟨HS1.out.1.got.upd R_OTk hu1 (by simp), ownsRow_upd HS1.out.1.wt hu1, HS1.out.1.ne, Nat.le_trans HS1.out.1.base hu1.size⟩, HS1.out.2.trans hu1⟩)
              clear O1 hu1 HS1
              go_wp2_with fail
              go_loopw [9, 20] (fun pv iv wr => ∃ (V W' : List Nat) (P' : List (List Tm)) (g' cap' : Nat), W = V ++ W' ∧ iv = .int .i64 ((W'.length : Int) - 1) ∧ pv = .slice (some ⟨g', 0, none⟩) P'.length cap' ∧
                Hid (StP w.heap.size wr g' cap' P' gw cw W ∧ WfP false P' W' n ∧ popF (lvl o) P W = popF (lvl o) P' W' ∧ (∀ v : Nat, v ∈ V → v ≠ 10) ∧ Upd [] w wr)) (fun _ iv _ => (intOf iv + 1).toNat)
              case atStart => exact ⟨[], W, P, g, cap, rfl, by go_num, rfl, Lib.hid ⟨HS2.out.1, HWF.out, rfl, by simp, HS2.out.2⟩⟩
              case round =>
                clear HS2 HWF
                obtain ⟨wp, rfl⟩ : ∃ wp : World, wp = wr := ⟨_, rfl⟩
                obtain ⟨V, W', P', g', cap', hW, hiv, hpv, HR⟩ := hrel
                obtain ⟨q1, q2, q3, q5, q4⟩ := HR.out
                clear HR
                have HGB := Lib.hid (q1.got.roomP.2.2.2.1)
                have hcw : W.length ≤ cw ∧ cw ≤ 9223372036854775807 := by
                  rcases q1.wt.2 with ⟨h0, -⟩ | ⟨g', cap', cur, hv, -, -, h3, h4, -⟩
                  · cases h0
                  · cases hv; unfold maxLen at h4; exact ⟨h3, by omega⟩
                obtain rfl | ⟨o1, W'', rfl⟩ : W' = [] ∨ ∃ o W'', W' = o :: W'' := by cases W' with | nil => exact Or.inl rfl | cons o W'' => exact Or.inr ⟨o, W'', rfl⟩
                · simp only [List.length_nil, Int.natCast_zero, Int.zero_sub] at hiv
                  subst hiv hpv
                  as_aux_lemma =>
                    have HT := Lib.hid (show StP w.heap.size wp g' cap' P' gw cw [] from StP.cutW (V := V) (by rw [← hW]; exact q1))
                    have HF := Lib.hid (show popF (lvl o) P W = (P', []) from by rw [q3]; rfl)
                    have HCN := Lib.hid (show ([]).countP (· == 10) = d from by
                      have h := HDD.out
                      rw [hW, List.countP_append, List.countP_eq_zero.2 (fun v hv => by simpa using q5 v hv), Nat.zero_add] at h
                      exact h)
                    have HW2 := Lib.hid (show WfP true P' (o :: []) e from ⟨by have h := q2.cnt; rw [List.countP_cons_of_pos (by simpa using ho9)]; simpa using h, fun v hv => by
                      rcases List.mem_cons.1 hv with rfl | hv
                      · omega
                      · exact q2.le v hv, q2.pos, by have h := q2.size; simp only [List.length_cons] at h ⊢; omega⟩)
                    have HU := Lib.hid q4
                    obtain ⟨WL, hWL⟩ : ∃ WL, (([]).reverse.map fun v : Nat => ei (v : Int)) = WL := ⟨_, rfl⟩
                    have HP := Lib.hid (fun T g4 c4 w4 (h1 : w4.ownsRow w.heap.size 2 1 (.slice (some ⟨g4, 0, none⟩) (0 + 1) c4) (0 + 1) (WL ++ [ei (o : Int)])) h2 h3 => HT.out.pushW (w4 := w4) o T (g4 := g4) (c4 := c4) (by rw [hWL]; exact h1) h2 h3)
                    have hwt : wp.ownsRow w.heap.size 2 1 (.slice (some ⟨gw, 0, none⟩) (0) cw) (0) WL := by rw [← hWL]; exact HT.out.wt
                    have hszw := HT.out.base
                    have HGW := Lib.hid (hwt.lt _ rfl).1
                    clear q1 q2 q3 q4 q5 hW hWL HDD
                    go_wp2_with (first
                      | (at_builtin; refine wpList_append_lies _ rfl _ _ 59 rfl w.heap.size 2 i3 (.int .i64 0) 1 8 Tryd.underlying59 ki kz0 kz1 kz2 rfl (by decide) (.slice (some ⟨gw, 0, none⟩) (0) cw) (0) WL rfl (ownsRow_upd hwt ((Upd.refl _ _).alloc _)) ⟨wp.heap.size, 0, none⟩ 1 1 [ei (o : Int)] rfl rfl (fun j u hj => by rw [addr_add]; exact cell_new wp #[ei (o : Int)] _ _ rfl _ _ (by simpa using hj)) (by simp [Value.oneCell']) (by decide) (by unfold maxLen; omega) (by omega) (by simp; omega) (wp.heap.size + 1) (by simp) ?_)
                      | fail)
                    intro g4 c4 w4 hown4 hg4 hat4 hlt4
                    have HS4 := Lib.hid (HP.out _ g4 c4 w4 hown4 hg4 (by
                      rcases hat4 with h | h
                      · left; simpa [Value.ownBlock, eq_comm] using h
                      · right; exact h))
                    have HU4 := Lib.hid (HU.out.fresh HS4.out.2 (fun b hb => Or.inl (by obtain rfl : b = gw := (by simpa using hb); exact HGW.out)))
                    clear hown4 hg4 hat4 hlt4 HP hwt
                    go_wp2_with fail
                    go_roundw
                    case rel => exact ⟨e, g', cap', g4, c4, true, P', o :: [], e3, by go_num, rfl, rfl, by rw [List.countP_cons_of_neg (by simp; omega), HCN.out], rfl, Lib.hid ⟨HS4.out.1, HW2.out, by rw [List.countP_cons_of_neg (by simp; omega), HCN.out]; exact HER2.out, HBD.out, by have h := HSY2.out; rw [HF.out] at h; exact h, HU4.out⟩⟩
                    case measure => simp [intOf]; omega
                · simp only [List.length_cons, Int.natCast_add, Int.natCast_one, Int.add_sub_cancel] at hiv
                  subst hiv hpv
                  have hcell : wp.cell? ⟨gw, W''.length, none⟩ = some (ei (o1 : Int)) := (hW ▸ q1).cell
                  have hwl : W''.length + 1 ≤ n := by have h := q2.size; simp only [List.length_cons] at h; omega
                  have hWl : W''.length < W.length := by rw [hW]; simp; omega
                  have ho1 := q2.le o1 List.mem_cons_self
                  by_cases ho10 : o1 = 10
                  · have h10 : ((o1 : Int) == 10) = true := by rw [ho10]; rfl
                    as_aux_lemma =>
                      have HT := Lib.hid (show StP w.heap.size wp g' cap' P' gw cw (o1 :: W'') from StP.cutW (V := V) (by rw [← hW]; exact q1))
                      have HF := Lib.hid (show popF (lvl o) P W = (P', (o1 :: W'')) from by rw [q3]; rw [popF, if_neg (by simp [ho10])])
                      have HCN := Lib.hid (show ((o1 :: W'')).countP (· == 10) = d from by
                        have h := HDD.out
                        rw [hW, List.countP_append, List.countP_eq_zero.2 (fun v hv => by simpa using q5 v hv), Nat.zero_add] at h
                        exact h)
                      have HW2 := Lib.hid (show WfP true P' (o :: (o1 :: W'')) e from ⟨by have h := q2.cnt; rw [List.countP_cons_of_pos (by simpa using ho9)]; simpa using h, fun v hv => by
                        rcases List.mem_cons.1 hv with rfl | hv
                        · omega
                        · exact q2.le v hv, q2.pos, by have h := q2.size; simp only [List.length_cons] at h ⊢; omega⟩)
                      have HU := Lib.hid q4
                      obtain ⟨WL, hWL⟩ : ∃ WL, (((o1 :: W'')).reverse.map fun v : Nat => ei (v : Int)) = WL := ⟨_, rfl⟩
                      have HP := Lib.hid (fun T g4 c4 w4 (h1 : w4.ownsRow w.heap.size 2 1 (.slice (some ⟨g4, 0, none⟩) (W''.length + 1 + 1) c4) (W''.length + 1 + 1) (WL ++ [ei (o : Int)])) h2 h3 => HT.out.pushW (w4 := w4) o T (g4 := g4) (c4 := c4) (by rw [hWL]; exact h1) h2 h3)
                      have hwt : wp.ownsRow w.heap.size 2 1 (.slice (some ⟨gw, 0, none⟩) (W''.length + 1) cw) (W''.length + 1) WL := by rw [← hWL]; exact HT.out.wt
                      have hszw := HT.out.base
                      have HGW := Lib.hid (hwt.lt _ rfl).1
                      clear q1 q2 q3 q4 q5 hW hWL HDD
                      go_wp2_with (first
                        | (at_builtin; refine wpList_append_lies _ rfl _ _ 59 rfl w.heap.size 2 i3 (.int .i64 0) 1 8 Tryd.underlying59 ki kz0 kz1 kz2 rfl (by decide) (.slice (some ⟨gw, 0, none⟩) (W''.length + 1) cw) (W''.length + 1) WL rfl (ownsRow_upd hwt ((Upd.refl _ _).alloc _)) ⟨wp.heap.size, 0, none⟩ 1 1 [ei (o : Int)] rfl rfl (fun j u hj => by rw [addr_add]; exact cell_new wp #[ei (o : Int)] _ _ rfl _ _ (by simpa using hj)) (by simp [Value.oneCell']) (by decide) (by unfold maxLen; omega) (by omega) (by simp; omega) (wp.heap.size + 1) (by simp) ?_)
                        | fail)
                      intro g4 c4 w4 hown4 hg4 hat4 hlt4
                      have HS4 := Lib.hid (HP.out _ g4 c4 w4 hown4 hg4 (by
                        rcases hat4 with h | h
                        · left; simpa [Value.ownBlock, eq_comm] using h
                        · right; exact h))
                      have HU4 := Lib.hid (HU.out.fresh HS4.out.2 (fun b hb => Or.inl (by obtain rfl : b = gw := (by simpa using hb); exact HGW.out)))
                      clear hown4 hg4 hat4 hlt4 HP hwt
                      go_wp2_with fail
                      go_roundw
                      case rel => exact ⟨e, g', cap', g4, c4, true, P', o :: (o1 :: W''), e3, by go_num, rfl, rfl, by rw [List.countP_cons_of_neg (by simp; omega), HCN.out], rfl, Lib.hid ⟨HS4.out.1, HW2.out, by rw [List.countP_cons_of_neg (by simp; omega), HCN.out]; exact HER2.out, HBD.out, by have h := HSY2.out; rw [HF.out] at h; exact h, HU4.out⟩⟩
                      case measure => simp [intOf]; omega
                  · have h10 : ((o1 : Int) == 10) = false := by simp; omega
                    by_cases h9 : o1 = 9
                    · have h9' : ((o1 : Int) == 9) = true := by rw [h9]; rfl
                      have hcond : o1 ≠ 10 ∧ (o1 = 9 ∨ lvl o ≤ lvl o1) := ⟨ho10, Or.inl h9⟩
                      clear h9
                      as_aux_lemma =>
                        have S1 := Lib.hid (q1.ap (N := n) (by omega) q2 ho10)
                        have HQ := Lib.hid (show WfP false (apF P' o1) W'' n ∧ popF (lvl o) P W = popF (lvl o) (apF P' o1) W'' ∧ (∀ v : Nat, v ∈ V ++ [o1] → v ≠ 10) from
                          ⟨(q2.ap ho10).1, by rw [q3, popF, if_pos hcond], fun v hv => by
                            rcases List.mem_append.1 hv with h | h
                            · exact q5 v h
                            · have : v = o1 := by simpa using h
                              rw [this]; exact ho10⟩)
                        have HU := Lib.hid q4
                        have HW := Lib.hid hW
                        clear q1 q2 q3 q4 q5 hW HDD
                        go_wp2_with fail
                        refine S1.out.mono ?_
                        rintro _ w3 ⟨g4, c4, rfl, hst, hu⟩
                        have HS3 := Lib.hid hst
                        have HU3 := Lib.hid (HU.out.fresh hu (fun b hb => Or.inl (by obtain rfl : b = g' := (by simpa using hb); exact HGB.out)))
                        clear S1 hst hu HU
                        go_wp2_with fail
                        go_roundw
                        case rel => exact ⟨V ++ [o1], W'', apF P' o1, g4, c4, by rw [HW.out]; simp, by go_num, rfl, Lib.hid ⟨HS3.out, HQ.out.1, HQ.out.2.1, HQ.out.2.2, HU3.out⟩⟩
                        case measure => simp [intOf]
                    · have h9' : ((o1 : Int) == 9) = false := by simp; omega
                      have L1 := Lib.hid (fun W => l04LevelS o1 (by omega) W)
                      have L0 := Lib.hid (fun W => l04LevelS o ho9 W)
                      by_cases hlv : lvl o ≤ lvl o1
                      · have hcond : o1 ≠ 10 ∧ (o1 = 9 ∨ lvl o ≤ lvl o1) := ⟨ho10, Or.inr hlv⟩
                        as_aux_lemma =>
                          have S1 := Lib.hid (q1.ap (N := n) (by omega) q2 ho10)
                          have HQ := Lib.hid (show WfP false (apF P' o1) W'' n ∧ popF (lvl o) P W = popF (lvl o) (apF P' o1) W'' ∧ (∀ v : Nat, v ∈ V ++ [o1] → v ≠ 10) from
                            ⟨(q2.ap ho10).1, by rw [q3, popF, if_pos hcond], fun v hv => by
                              rcases List.mem_append.1 hv with h | h
                              · exact q5 v h
                              · have : v = o1 := by simpa using h
                                rw [this]; exact ho10⟩)
                          have HU := Lib.hid q4
                          have HW := Lib.hid hW
                          clear q1 q2 q3 q4 q5 hW HDD
                          go_wp2_with fail
                          refine (L1.out _).mono ?_
                          rintro _ w5 ⟨rfl, rfl⟩
                          go_wp2_with fail
                          refine (L0.out _).mono ?_
                          rintro _ w6 ⟨rfl, rfl⟩
                          go_wp2_with fail
                          refine S1.out.mono ?_
                          rintro _ w3 ⟨g4, c4, rfl, hst, hu⟩
                          have HS3 := Lib.hid hst
                          have HU3 := Lib.hid (HU.out.fresh hu (fun b hb => Or.inl (by obtain rfl : b = g' := (by simpa using hb); exact HGB.out)))
                          clear S1 hst hu HU
                          go_wp2_with fail
                          go_roundw
                          case rel => exact ⟨V ++ [o1], W'', apF P' o1, g4, c4, by rw [HW.out]; simp, by go_num, rfl, Lib.hid ⟨HS3.out, HQ.out.1, HQ.out.2.1, HQ.out.2.2, HU3.out⟩⟩
                          case measure => simp [intOf]
                      · have hncond : ¬ (o1 ≠ 10 ∧ (o1 = 9 ∨ lvl o ≤ lvl o1)) := by
                          rintro ⟨-, h | h⟩
                          · exact h9 h
                          · exact hlv h
                        have hlt : lvl o1 < lvl o := by omega
                        as_aux_lemma =>
                          have HT := Lib.hid (show StP w.heap.size wp g' cap' P' gw cw (o1 :: W'') from StP.cutW (V := V) (by rw [← hW]; exact q1))
                          have HF := Lib.hid (show popF (lvl o) P W = (P', (o1 :: W'')) from by rw [q3]; rw [popF, if_neg hncond])
                          have HCN := Lib.hid (show ((o1 :: W'')).countP (· == 10) = d from by
                            have h := HDD.out
                            rw [hW, List.countP_append, List.countP_eq_zero.2 (fun v hv => by simpa using q5 v hv), Nat.zero_add] at h
                            exact h)
                          have HW2 := Lib.hid (show WfP true P' (o :: (o1 :: W'')) e from ⟨by have h := q2.cnt; rw [List.countP_cons_of_pos (by simpa using ho9)]; simpa using h, fun v hv => by
                            rcases List.mem_cons.1 hv with rfl | hv
                            · omega
                            · exact q2.le v hv, q2.pos, by have h := q2.size; simp only [List.length_cons] at h ⊢; omega⟩)
                          have HU := Lib.hid q4
                          obtain ⟨WL, hWL⟩ : ∃ WL, (((o1 :: W'')).reverse.map fun v : Nat => ei (v : Int)) = WL := ⟨_, rfl⟩
                          have HP := Lib.hid (fun T g4 c4 w4 (h1 : w4.ownsRow w.heap.size 2 1 (.slice (some ⟨g4, 0, none⟩) (W''.length + 1 + 1) c4) (W''.length + 1 + 1) (WL ++ [ei (o : Int)])) h2 h3 => HT.out.pushW (w4 := w4) o T (g4 := g4) (c4 := c4) (by rw [hWL]; exact h1) h2 h3)
                          have hwt : wp.ownsRow w.heap.size 2 1 (.slice (some ⟨gw, 0, none⟩) (W''.length + 1) cw) (W''.length + 1) WL := by rw [← hWL]; exact HT.out.wt
                          have hszw := HT.out.base
                          have HGW := Lib.hid (hwt.lt _ rfl).1
                          clear q1 q2 q3 q4 q5 hW hWL HDD
                          go_wp2_with fail
                          refine (L1.out _).mono ?_
                          rintro _ w5 ⟨rfl, rfl⟩
                          go_wp2_with fail
                          refine (L0.out _).mono ?_
                          rintro _ w6 ⟨rfl, rfl⟩
                          go_wp2_with (first
                            | (at_builtin; refine wpList_append_lies _ rfl _ _ 59 rfl w.heap.size 2 i3 (.int .i64 0) 1 8 Tryd.underlying59 ki kz0 kz1 kz2 rfl (by decide) (.slice (some ⟨gw, 0, none⟩) (W''.length + 1) cw) (W''.length + 1) WL rfl (ownsRow_upd hwt ((Upd.refl _ _).alloc _)) ⟨wp.heap.size, 0, none⟩ 1 1 [ei (o : Int)] rfl rfl (fun j u hj => by rw [addr_add]; exact cell_new wp #[ei (o : Int)] _ _ rfl _ _ (by simpa using hj)) (by simp [Value.oneCell']) (by decide) (by unfold maxLen; omega) (by omega) (by simp; omega) (wp.heap.size + 1) (by simp) ?_)
                            | fail)
                          intro g4 c4 w4 hown4 hg4 hat4 hlt4
                          have HS4 := Lib.hid (HP.out _ g4 c4 w4 hown4 hg4 (by
                            rcases hat4 with h | h
                            · left; simpa [Value.ownBlock, eq_comm] using h
                            · right; exact h))
                          have HU4 := Lib.hid (HU.out.fresh HS4.out.2 (fun b hb => Or.inl (by obtain rfl : b = gw := (by simpa using hb); exact HGW.out)))
                          clear hown4 hg4 hat4 hlt4 HP hwt
                          go_wp2_with fail
                          go_roundw
                          case rel => exact ⟨e, g', cap', g4, c4, true, P', o :: (o1 :: W''), e3, by go_num, rfl, rfl, by rw [List.countP_cons_of_neg (by simp; omega), HCN.out], rfl, Lib.hid ⟨HS4.out.1, HW2.out, by rw [List.countP_cons_of_neg (by simp; omega), HCN.out]; exact HER2.out, HBD.out, by have h := HSY2.out; rw [HF.out] at h; exact h, HU4.out⟩⟩
                          case measure => simp [intOf]; omega
            | bang => as_aux_lemma =>
              replace Q41 : ((c.toNat : Int) == 41) = false := Q41
              replace hj : opJ (c :: r) = -1 := hj
              rw [hj] at O1
              have HX := Lib.hid (show E = m by
                have h := HER.out
                rw [show errF bad s.length false d ((c :: r, m) :: (tkS s e).1) = m by rw [errF, HK.out]] at h
                exact h.symm)
              have HU := Lib.hid HS1.out.2
              clear HK HER HWF HDD HS1 HSY HBD HD
              go_wp2_with fail
              refine O1.out.mono ?_
              rintro _ w2 ⟨rfl, hu2⟩
              have HU2 := Lib.hid (HU.out.trans hu2)
              clear O1 hu2 HU
              go_wp2_with fail
              go_ret3
              exact ⟨Or.inl ⟨by rw [HX.out]; omega, by rw [HX.out]; rfl⟩, HU2.out⟩
            | lpar => as_aux_lemma =>
              replace Q41 : ((c.toNat : Int) == 41) = false := Q41
              replace hj : opJ (c :: r) = -1 := hj
              rw [hj] at O1
              have HX := Lib.hid (show E = m by
                have h := HER.out
                rw [show errF bad s.length false d ((c :: r, m) :: (tkS s e).1) = m by rw [errF, HK.out]] at h
                exact h.symm)
              have HU := Lib.hid HS1.out.2
              clear HK HER HWF HDD HS1 HSY HBD HD
              go_wp2_with fail
              refine O1.out.mono ?_
              rintro _ w2 ⟨rfl, hu2⟩
              have HU2 := Lib.hid (HU.out.trans hu2)
              clear O1 hu2 HU
              go_wp2_with fail
              go_ret3
              exact ⟨Or.inl ⟨by rw [HX.out]; omega, by rw [HX.out]; rfl⟩, HU2.out⟩
            | num v => as_aux_lemma =>
              replace Q41 : ((c.toNat : Int) == 41) = false := Q41
              replace hj : opJ (c :: r) = -1 := hj
              rw [hj] at O1
              have HX := Lib.hid (show E = m by
                have h := HER.out
                rw [show errF bad s.length false d ((c :: r, m) :: (tkS s e).1) = m by rw [errF, HK.out]] at h
                exact h.symm)
              have HU := Lib.hid HS1.out.2
              clear HK HER HWF HDD HS1 HSY HBD HD
              go_wp2_with fail
              refine O1.out.mono ?_
              rintro _ w2 ⟨rfl, hu2⟩
              have HU2 := Lib.hid (HU.out.trans hu2)
              clear O1 hu2 HU
              go_wp2_with fail
              go_ret3
              exact ⟨Or.inl ⟨by rw [HX.out]; omega, by rw [HX.out]; rfl⟩, HU2.out⟩
            | var v => as_aux_lemma =>
              replace Q41 : ((c.toNat : Int) == 41) = false := Q41
              replace hj : opJ (c :: r) = -1 := hj
              rw [hj] at O1
              have HX := Lib.hid (show E = m by
                have h := HER.out
                rw [show errF bad s.length false d ((c :: r, m) :: (tkS s e).1) = m by rw [errF, HK.out]] at h
                exact h.symm)
              have HU := Lib.hid HS1.out.2
              clear HK HER HWF HDD HS1 HSY HBD HD
              go_wp2_with fail
              refine O1.out.mono ?_
              rintro _ w2 ⟨rfl, hu2⟩
              have HU2 := Lib.hid (HU.out.trans hu2)
              clear O1 hu2 HU
              go_wp2_with fail
              go_ret3
              exact ⟨Or.inl ⟨by rw [HX.out]; omega, by rw [HX.out]; rfl⟩, HU2.out⟩
            | rpar => as_aux_lemma =>
              replace Q41 : ((c.toNat : Int) == 41) = true := Q41
              replace hj : opJ (c :: r) = -1 := hj
              rw [hj] at O1
              by_cases hd0 : 0 < d
              · have hdi : (0 : Int) < (d : Int) := by omega
                have hwd : IntKind.i64.wrap ((d : Int) - 1) = (d : Int) - 1 := by rw [IntKind.wrap_i64]; have := HD.out; omega
                have hwW : IntKind.i64.wrap ((W.length : Int) - 1) = (W.length : Int) - 1 := by rw [IntKind.wrap_i64]; omega
                have HER2 := Lib.hid (show errF bad s.length false (d - 1) (tkS s e).1 = E by
                  have h := HER.out
                  rw [show errF bad s.length false d ((c :: r, m) :: (tkS s e).1) = if 0 < d then errF bad s.length false (d - 1) (tkS s e).1 else (m : Int) by rw [errF, HK.out], if_pos hd0] at h
                  exact h)
                have HSY2 := Lib.hid (show syF false (closeF P W).1 (closeF P W).2 (kinds (tkS s e).1) = Y from HSY.out)
                have H10 := Lib.hid (show 10 ∈ W by
                  have h := HDD.out
                  rw [← h] at hd0
                  obtain ⟨a, h1, h2⟩ := List.countP_pos_iff.1 hd0
                  have h3 : a = 10 := by simpa using h2
                  rw [← h3]; exact h1)
                clear HK HER HSY O1
                go_wp2_with fail
                go_loopw [9, 18] (fun pv iv wr => ∃ (V W' : List Nat) (P' : List (List Tm)) (g' cap' : Nat), W = V ++ W' ∧ iv = .int .i64 ((W'.length : Int) - 1) ∧ pv = .slice (some ⟨g', 0, none⟩) P'.length cap' ∧
                  Hid (StP w.heap.size wr g' cap' P' gw cw W ∧ WfP false P' W' n ∧ closeF P W = closeF P' W' ∧ (∀ v : Nat, v ∈ V → v ≠ 10) ∧ 10 ∈ W' ∧ Upd [] w wr)) (fun _ iv _ => (intOf iv + 1).toNat)
                case atStart => exact ⟨[], W, P, g, cap, rfl, by go_num, rfl, Lib.hid ⟨HS1.out.1, HWF.out, rfl, by simp, H10.out, HS1.out.2⟩⟩
                case round =>
                  clear HS1 HWF H10
                  obtain ⟨wp, rfl⟩ : ∃ wp : World, wp = wr := ⟨_, rfl⟩
                  obtain ⟨V, W', P', g', cap', hW, hiv, hpv, HR⟩ := hrel
                  obtain ⟨q1, q2, q3, q5, q6, q4⟩ := HR.out
                  clear HR
                  obtain rfl | ⟨o, W'', rfl⟩ : W' = [] ∨ ∃ o W'', W' = o :: W'' := by cases W' with | nil => exact Or.inl rfl | cons o W'' => exact Or.inr ⟨o, W'', rfl⟩
                  · cases q6
                  · simp only [List.length_cons, Int.natCast_add, Int.natCast_one, Int.add_sub_cancel] at hiv
                    subst hiv hpv
                    have hcell : wp.cell? ⟨gw, W''.length, none⟩ = some (ei (o : Int)) := (hW ▸ q1).cell
                    have HGB := Lib.hid (q1.got.roomP.2.2.2.1)
                    have hwl : W''.length + 1 ≤ n := by have h := q2.size; simp only [List.length_cons] at h; omega
                    have hWl : W''.length < W.length := by rw [hW]; simp; omega
                    have hcw : W.length ≤ cw ∧ cw ≤ 9223372036854775807 := by
                      rcases q1.wt.2 with ⟨h0, -⟩ | ⟨g', cap', cur, hv, -, -, h3, h4, -⟩
                      · cases h0
                      · cases hv; unfold maxLen at h4; exact ⟨h3, by omega⟩
                    have HW := Lib.hid hW
                    have HU := Lib.hid q4
                    by_cases ho10 : o = 10
                    · subst ho10
                      have HQ := Lib.hid (show StP w.heap.size wp g' cap' P' gw cw W'' ∧ WfP false P' W'' e ∧ closeF P W = (P', W'') ∧ W''.countP (· == 10) = d - 1 from by
                        refine ⟨StP.cutW (V := V ++ [10]) (by rw [List.append_assoc]; exact hW ▸ q1), ⟨?_, fun v hv => q2.le v (List.mem_cons_of_mem _ hv), q2.pos, ?_⟩, ?_, ?_⟩
                        · have h := q2.cnt
                          rw [List.countP_cons_of_neg (by simp)] at h
                          exact h
                        · have h := q2.size; simp only [List.length_cons] at h; omega
                        · rw [q3]; rfl
                        · have h := HDD.out
                          rw [hW, List.countP_append, List.countP_cons_of_pos (by simp), List.countP_eq_zero.2 (fun v hv => by simpa using q5 v hv)] at h
                          omega)
                      have h10 : ((((10 : Nat) : Int)) == 10) = true := rfl
                      clear q1 q2 q3 q4 q5 q6 hW HDD
                      go_wp2_with fail
                      go_roundw
                      case rel => exact ⟨e, g', cap', gw, cw, false, P', W'', e3, by go_num, rfl, rfl, by rw [HQ.out.2.2.2]; go_num, rfl, Lib.hid ⟨HQ.out.1, HQ.out.2.1, by rw [HQ.out.2.2.2]; exact HER2.out, HBD.out, by have h := HSY2.out; rw [HQ.out.2.2.1] at h; exact h, HU.out⟩⟩
                      case measure => simp [intOf]; omega
                    · have ho9 : ((o : Int) == 10) = false := by simp; omega
                      have S1 := Lib.hid (q1.ap (N := n) (by omega) q2 ho10)
                      have HQ := Lib.hid (show WfP false (apF P' o) W'' n ∧ closeF P W = closeF (apF P' o) W'' ∧ (∀ v : Nat, v ∈ V ++ [o] → v ≠ 10) ∧ 10 ∈ W'' from
                        ⟨(q2.ap ho10).1, by rw [q3, closeF, if_neg ho10], fun v hv => by
                          rcases List.mem_append.1 hv with h | h
                          · exact q5 v h
                          · have : v = o := by simpa using h
                            rw [this]; exact ho10, by
                          rcases List.mem_cons.1 q6 with h | h
                          · exact absurd h.symm ho10
                          · exact h⟩)
                      clear q1 q2 q3 q4 q5 q6 hW HDD
                      go_wp2_with fail
                      refine S1.out.mono ?_
                      rintro _ w2 ⟨g4, c4, rfl, hst, hu⟩
                      have HS2 := Lib.hid hst
                      have HU2 := Lib.hid (HU.out.fresh hu (fun b hb => Or.inl (by obtain rfl : b = g' := (by simpa using hb); exact HGB.out)))
                      clear S1 hst hu HU
                      go_wp2_with fail
                      go_roundw
                      case rel => exact ⟨V ++ [o], W'', apF P' o, g4, c4, by rw [HW.out]; simp, by go_num, rfl, Lib.hid ⟨HS2.out, HQ.out.1, HQ.out.2.1, HQ.out.2.2.1, HQ.out.2.2.2, HU2.out⟩⟩
                      case measure => simp [intOf]
              · obtain rfl : d = 0 := by omega
                have HX := Lib.hid (show E = m by
                  have h := HER.out
                  rw [show errF bad s.length false 0 ((c :: r, m) :: (tkS s e).1) = if 0 < 0 then errF bad s.length false (0 - 1) (tkS s e).1 else (m : Int) by rw [errF, HK.out], if_neg (by omega)] at h
                  exact h.symm)
                have HU := Lib.hid HS1.out.2
                clear HK HER HWF HDD HS1 HSY HBD HD
                go_wp2_with fail
                refine O1.out.mono ?_
                rintro _ w2 ⟨rfl, hu2⟩
                have HU2 := Lib.hid (HU.out.trans hu2)
                clear O1 hu2 HU
                go_wp2_with fail
                go_ret3
                exact ⟨Or.inl ⟨by rw [HX.out]; omega, by rw [HX.out]; rfl⟩, HU2.out⟩

end Go.Proofs.YtpnokhhbakiiiaaDoor

/-
  Expressions parsed: the program's parser makes the tree of an expression.
-/
namespace Go.Proofs.YtpnokhhbakiiiaaDoor
open Go.RowKit

def lenAt (w : World) (P : Nat) : Nat := match w.cell? ⟨P, 0, none⟩ with | some (.slice _ n _) => n | _ => 0
theorem PS.len {w0 w : World} {P : Nat} {L : List (List UInt8 × Nat)} (h : PS w0 P w L) : lenAt w P = L.length := by
  obtain ⟨v, f, h1, h2⟩ := h.got
  obtain ⟨a, cap, rfl, -⟩ := slF2_open h2
  unfold lenAt
  rw [h1]

set_option maxRecDepth 20000 in
set_option maxHeartbeats 4000000 in
theorem expStep (w0 : World) (P N : Nat) (hG : Glob w0) (ho : OpdC w0 P (N + 1)) (hx : ExpC w0 P N) : ExpC w0 P (N + 1) := by
  intro L l x r w hl hk hP hps
  cases hps with
  | exp h1 h2 =>
    rename_i r1 x1
    have S1 := Lib.hid (ho L _ _ w hl hk hP h1)
    have HX := Lib.hid hx
    have HPK := Lib.hid (fun W L' (hp : PS w0 P W L') (hk : Toks L') => peekI w0 P W L' hG hp hk)
    have HNX := Lib.hid (nextI w0 P)
    have hlen := (ps_len h1).2 rfl
    have hkl : (kinds L).length = L.length := by simp [kinds]
    have HLN := Lib.hid (show r1.length ≤ N by omega)
    have HH := Lib.hid h2
    have HPL := Lib.hid hP.lt
    have HPL2 := Lib.hid (show ∀ b ∈ [P], b < w.heap.size from fun b hb => by obtain rfl : b = P := (by simpa using hb); exact hP.lt)
    clear hG ho hx hl hk hP h1 h2 hlen hkl
    go_enter Tryd.func22, Tryd.ntmps22
    go_wp2_with fail
    refine S1.out.mono ?_
    rintro e w1 ⟨⟨v', rfl, hnew⟩, hu1, L1, hr1, hr2, hr3⟩
    have HQ := Lib.hid (show New R_E w w1 v' x1 ∧ Upd [P] w w1 ∧ PS w0 P w1 L1 ∧ Toks L1 ∧ Ps (.lop l x1) (kinds L1) x r ∧ L1.length ≤ N from
      ⟨hnew, hu1, hr3, hr2, by rw [hr1]; exact HH.out, by have h := HLN.out; rw [← hr1] at h; simpa [kinds] using h⟩)
    clear S1 hnew hu1 hr1 hr2 hr3 HH HLN
    go_wp2_with fail
    go_loopw [5] (fun xv wr => ∃ (y : Ex) (L : List (List UInt8 × Nat)), Hid (New R_E w wr xv y ∧ Upd [P] w wr ∧ PS w0 P wr L ∧ Toks L ∧ Ps (.lop l y) (kinds L) x r ∧ L.length ≤ N)) (fun _ wr => lenAt wr P)
    case atStart => exact ⟨x1, L1, HQ⟩
    case round =>
      clear HQ
      obtain ⟨wo, rfl⟩ : ∃ wo : World, wo = wr := ⟨_, rfl⟩
      obtain ⟨y, L, HQ⟩ := hrel
      obtain ⟨qn, qu, qp, qk, ql, qN⟩ := HQ.out
      obtain ⟨pv, rfl⟩ := qn.formE
      have S2 := Lib.hid (HPK.out wo L qp qk)
      obtain ⟨K, hK⟩ : ∃ K, kinds L = K := ⟨_, rfl⟩
      obtain ⟨Z, hZ⟩ : ∃ Z, nlv K = Z := ⟨_, rfl⟩
      rw [hK] at S2 ql
      rw [hZ] at S2
      by_cases hlt : Z < l
      · have HXR := Lib.hid (show y = x ∧ K = r by
          cases ql with
          | stop _ => exact ⟨rfl, rfl⟩
          | more h1 h2 h3 h4 => exfalso; have h5 : lvl _ = Z := hZ; omega)
        have HK := Lib.hid hK
        clear ql qn qu qp qk qN hZ hK
        go_wp2_with fail
        refine S2.out.mono ?_
        rintro e w2 ⟨⟨o, rfl, -⟩, hu2⟩
        have HU2 := Lib.hid hu2
        clear S2 hu2
        go_wp2_with fail
        go_ret
        obtain ⟨qn, qu, qp, qk, -, -⟩ := HQ.out
        refine ⟨⟨_, rfl, ?_⟩, qu.trans (HU2.out.mono (by simp)), L, by rw [HK.out]; exact HXR.out.2, qk, qp.keep HU2.out⟩
        rw [← HXR.out.1]
        exact R_Ek.new qn HU2.out (by simp)
      · obtain ⟨o, KL, z, r1, hKo, ho9, hy, hl⟩ : ∃ (o : Nat) (KL : List Tk) (z : Ex) (r1 : List Tk), K = .op o :: KL ∧ o < 9 ∧ Ps (.exp (lvl o + 1)) KL z r1 ∧ Ps (.lop l (.mk (2, (o : Int)) [y, z])) r1 x r := by
          cases ql with
          | stop h => exact absurd h (by rw [hZ]; exact hlt)
          | more h1 h2 h3 h4 => exact ⟨_, _, _, _, rfl, h1, h3, h4⟩
        have hZo : Z = lvl o := by rw [← hZ, hKo]; rfl
        have hb := lvl_bd o ho9
        rw [← hZo] at hy hb
        match L, HQ, S2, qn, qu, qp, qk, qN, hK with
        | [], _, _, _, _, _, _, _, hK => exact absurd (hK.trans hKo) (by intro h; cases h)
        | (t, n) :: L2, HQ, S2, qn, qu, qp, qk, qN, hK =>
          have hk2 : kinds L2 = KL := by have h := hK.trans hKo; simp only [kinds, List.map_cons, List.cons.injEq] at h; exact h.2
          have hN2 : L2.length ≤ N := by simp only [List.length_cons] at qN; omega
          have HLE := Lib.hid (show lenAt wo P = L2.length + 1 from qp.len)
          have HN1 := Lib.hid (fun W (hp : PS w0 P W ((t, n) :: L2)) => HNX.out W t n L2 hp)
          have HX1 := Lib.hid (fun W (hp : PS w0 P W L2) => HX.out L2 (Z + 1) z r1 W hN2 qk.tail hp (by rw [hk2]; exact hy))
          have HKo := Lib.hid hKo
          have HLL := Lib.hid hl
          have HRL := Lib.hid (show r1.length ≤ L2.length by have h := (ps_len hy).1; rw [← hk2] at h; simpa [kinds] using h)
          have HN2 := Lib.hid hN2
          have hwr : IntKind.i64.wrap (Z + 1) = Z + 1 := by rw [IntKind.wrap_i64]; omega
          clear qn qu qp qk qN hZ hK ql hl hy hk2 hN2 hKo hZo HX HPK HNX
          go_wp2_with fail
          refine S2.out.mono ?_
          rintro e w2 ⟨⟨q, rfl, HO⟩, hu2⟩
          obtain rfl : q = o := HO.out o KL HKo.out
          have HU2 := Lib.hid hu2
          have T3 := Lib.hid (HN1.out w2 (HQ.out.2.2.1.keep hu2))
          clear S2 hu2 HN1 HO HKo
          go_wp2_with fail
          refine T3.out.mono ?_
          rintro e w3 ⟨rfl, hp3, hu3⟩
          have HU3 := Lib.hid ((HU2.out.mono (g := [P]) (by simp)).trans hu3)
          have HNA := Lib.hid (R_Ek.new HQ.out.1 ((HU2.out.mono (g := [P]) (by simp)).trans hu3) HPL2.out)
          have T4 := Lib.hid (HX1.out w3 hp3)
          clear T3 HX1 hp3 hu3 HU2
          go_wp2_with fail
          refine T4.out.mono ?_
          rintro e w4 ⟨⟨v4, rfl, hnew4⟩, hu4, L4, hr1, hr2, hr3⟩
          obtain ⟨pc, rfl⟩ := hnew4.formE
          have HA := Lib.hid (HQ.out.2.1.trans (HU3.out.trans hu4))
          have HNB := Lib.hid (fun T1 T => node2 HNA.out hu4 HPL2.out hnew4 (by have h1 := HQ.out.2.1.size; have h2 := HU3.out.size; omega) 2 (o : Int) T1 T)
          have HR := Lib.hid (show PS w0 P w4 L4 ∧ Toks L4 ∧ Ps (.lop l (.mk (2, (o : Int)) [y, z])) (kinds L4) x r ∧ L4.length ≤ L2.length from
            ⟨hr3, hr2, by rw [hr1]; exact HLL.out, by have h := HRL.out; rw [← hr1] at h; simpa [kinds] using h⟩)
          clear T4 hu4 hnew4 hr1 hr2 hr3 HNA HU3 HLL HRL
          go_wp2_with fail
          go_roundw
          case rel =>
            exact ⟨_, L4, Lib.hid ⟨HNB.out _ _, (HA.out.alloc _).alloc _, HR.out.1.keep (((Upd.refl _ _).alloc _).alloc _), HR.out.2.1, HR.out.2.2.1, by have h1 := HR.out.2.2.2; have h2 := HN2.out; omega⟩⟩
          case measure =>
            have h1 := fun o1 o2 => (HR.out.1.keep (((Upd.refl [] w4).alloc o1).alloc o2)).len
            have h2 := HLE.out
            have h3 := HR.out.2.2.2
            rw [h2, h1]
            omega

theorem parse_step (w0 : World) (P : Nat) (hG : Glob w0) (he : EnvT w0) : ∀ N, OpdC w0 P N ∧ ExpC w0 P N
  | 0 => by
    refine ⟨fun L x r w hl _ _ h => ?_, fun L l x r w hl _ _ h => ?_⟩
    · obtain rfl : L = [] := List.eq_nil_of_length_eq_zero (by omega)
      exact absurd h (by intro h; cases h)
    · obtain rfl : L = [] := List.eq_nil_of_length_eq_zero (by omega)
      exact absurd h (by
        intro h
        obtain ⟨K, hK⟩ : ∃ K, kinds [] = K := ⟨_, rfl⟩
        rw [hK] at h
        cases h with
        | exp h1 _ => rw [← hK] at h1; cases h1)
  | N + 1 => by
    have ih := parse_step w0 P hG he N
    have h1 := opdStep w0 P N hG he ih.1 ih.2
    exact ⟨h1, expStep w0 P N hG h1 ih.2⟩

theorem ps_flat {m : Md} {toks r : List Tk} {x : Ex} (h : Ps m toks x r) : (flatE x).length + r.length ≤ toks.length + (match m with | .lop _ y => (flatE y).length | _ => 0) := by
  induction h with
  | num => simp [flatE, flatEs]; omega
  | var => simp [flatE, flatEs]; omega
  | bang _ ih => simp only [flatE, flatEs, List.length_cons, List.length_append, List.length_nil] at ih ⊢; omega
  | par _ ih => simp only [List.length_cons] at ih ⊢; omega
  | exp _ _ ih1 ih2 => simp only at ih1 ih2 ⊢; omega
  | stop _ => simp only; omega
  | more _ _ _ _ ih1 ih2 => simp only [flatE, flatEs, List.length_cons, List.length_append, List.length_nil] at ih1 ih2 ⊢; omega

end Go.Proofs.YtpnokhhbakiiiaaDoor

/-
  Expressions parsed: the program's parser, whole.
-/
namespace Go.Proofs.YtpnokhhbakiiiaaDoor
open Go.RowKit

theorem toks_tk (s : List UInt8) (h : s.length ≤ 400) : Toks (tkS s 0).1 := fun e he => by
  obtain ⟨h1, -, h3⟩ := tkS_kd s s.length 0 (by omega) e he
  obtain ⟨k, hk⟩ := Option.isSome_iff_exists.1 h1
  exact ⟨k, hk, by omega⟩
theorem parseF_2 {s : List UInt8} (h : 400 < s.length) : parseF s = ([], 0, 2) := by unfold parseF; rw [if_pos h]
theorem parseF_8 {s : List UInt8} (h : ¬ 400 < s.length) (h2 : 0 ≤ errF (tkS s 0).2 s.length true 0 (tkS s 0).1) : parseF s = ([], errF (tkS s 0).2 s.length true 0 (tkS s 0).1, 8) := by
  unfold parseF; rw [if_neg h, if_pos h2]
theorem parseF_x {s : List UInt8} (h : ¬ 400 < s.length) (h2 : ¬ 0 ≤ errF (tkS s 0).2 s.length true 0 (tkS s 0).1) :
    ∃ x, Ps (.exp 1) (kinds (tkS s 0).1) x [] ∧ (flatE x).length ≤ 400 ∧ parseF s = if 60 < (flatE x).length then ([], 0, 5) else (flatE x, 0, 0) := by
  obtain ⟨x, h3, h4⟩ := parse_tree (s := s) (by omega)
  refine ⟨x, h3, ?_, ?_⟩
  · have h5 := ps_flat h3
    have h6 := tkS_len s s.length 0 (by omega)
    simp only [kinds, List.length_map, List.length_nil] at h5
    omega
  · unfold parseF; rw [if_neg h, if_neg h2, h4]

set_option maxRecDepth 20000 in
set_option maxHeartbeats 4000000 in
theorem parseI (s : List UInt8) (w : World) (hl0 : s.length ≤ 1048576) (hG : Glob w) (he : EnvT w) :
    Calls Tryd.prog 8 #[es s] w fun e w' => (∃ v', e = .returned (.tuple #[v', .int .i64 (parseF s).2.1, .int .i64 (parseF s).2.2]) ∧ New R_T1 w w' v' (parseF s).1) ∧ Upd [] w w' := by
  by_cases h4 : 400 < s.length
  · have HR := Lib.hid (parseF_2 h4)
    have h4' : (400 : Int) < (s.length : Int) := by omega
    generalize parseF s = R at *
    clear hG he h4 hl0
    go_enter Tryd.func8, Tryd.ntmps8
    go_wp2_with fail
    go_ret3
    exact ⟨⟨_, by rw [HR.out]; rfl, by rw [HR.out]; exact New.nilF 2 _ _ _⟩, Upd.refl _ _⟩
  · have h4' : ¬ (400 : Int) < (s.length : Int) := by omega
    have hl : s.length ≤ 1000000 := by omega
    clear hl0
    have S1 := Lib.hid (tokensI s w hl hG he)
    have S2 := Lib.hid (fun W v f (hu : Upd [] w W) (hR : R_Tx f W [v] (tkS s 0).1) => firstErrorI s _ v (tkS s 0).2 W f hR hl (fun e h => by obtain ⟨k, hk, -⟩ := toks_tk s (by omega) e h; rw [hk]; rfl) (hG.upd hu))
    have HT := Lib.hid (toks_tk s (by omega))
    have S3 := Lib.hid (fun W P (hu : Upd [] w W) => (parse_step W P (hG.upd hu) (he.upd hu) (tkS s 0).1.length).2)
    have HR8 := Lib.hid (fun h => parseF_8 h4 h)
    have HRX := Lib.hid (fun h => parseF_x h4 h)
    generalize parseF s = R at *
    generalize errF (tkS s 0).2 s.length true 0 (tkS s 0).1 = E at *
    obtain ⟨L, hL⟩ : ∃ L, (tkS s 0).1 = L := ⟨_, rfl⟩
    obtain ⟨bad, hbad⟩ : ∃ q, (tkS s 0).2 = q := ⟨_, rfl⟩
    rw [hL] at S1 S2 S3 HT HRX
    rw [hbad] at S1 S2
    clear hG he h4 hL hbad
    go_enter Tryd.func8, Tryd.ntmps8
    go_wp2_with fail
    refine S1.out.mono ?_
    rintro e w1 ⟨⟨v1, rfl, hnew1⟩, hu1⟩
    obtain ⟨f1, hR1, -, -⟩ := hnew1
    have HU1 := Lib.hid hu1
    have HF := Lib.hid hR1
    have T2 := Lib.hid (S2.out w1 v1 f1 hu1 hR1)
    obtain ⟨a1, c1, hv1, -, -, -⟩ := slF2_open hR1
    subst hv1
    clear S1 S2 hR1 hu1
    go_wp2_with fail
    refine T2.out.mono ?_
    rintro e w2 ⟨rfl, hu2⟩
    have HU2 := Lib.hid (HU1.out.trans hu2)
    have HF2 := Lib.hid ((slF_kept 2 _).upd HF.out hu2 (by simp))
    clear T2 hu2 HU1 HF
    by_cases hE : 0 ≤ E
    · have HX := Lib.hid (HR8.out hE)
      clear HR8 HRX S3 HT
      go_wp2_with fail
      go_ret3
      exact ⟨⟨_, by rw [HX.out]; rfl, by rw [HX.out]; exact New.nilF 2 _ _ _⟩, HU2.out⟩
    · obtain ⟨x, hps, hfl, hX⟩ := HRX.out (by omega)
      have HPS := Lib.hid hps
      have HX := Lib.hid hX
      have S4 := Lib.hid (fun W v fp (hR : R_E fp W [v] x) => listE x W v fp (by omega) hR)
      generalize flatE x = FX at *
      obtain ⟨P, hP⟩ : ∃ P, w2.heap.size = P := ⟨_, rfl⟩
      have T3 := Lib.hid (fun T cs (hcs : cs = #[Value.slice a1 L.length c1]) => S3.out w2 P HU2.out L 1 x [] (w2.alloc (.cells cs T)) (Nat.le_refl _) HT.out
        ⟨(Upd.refl _ _).alloc _, by omega, ⟨by simp, fun b hb => by obtain rfl : b = P := (by simpa using hb); rw [← hP]; exact ⟨_, _, heap_alloc_new w2 _⟩⟩, _, f1, cell_new w2 _ T P hP 0 _ (by rw [hcs]; rfl), HF2.out⟩ HPS.out)
      clear hps hX HR8 HRX S3 HT
      go_wp2_with fail
      refine (T3.out _ _ rfl).mono ?_
      rintro e w4 ⟨⟨v', rfl, hnew⟩, hu4, -⟩
      have HU4 := Lib.hid ((HU2.out.alloc _).fresh hu4 (fun b hb => Or.inl (by obtain rfl : b = P := (by simpa using hb); have := HU2.out.size; omega)))
      obtain ⟨fp, hR, -, -⟩ := hnew
      have T4 := Lib.hid (S4.out w4 v' fp hR)
      obtain ⟨pb, rfl⟩ := R_E_form hR
      clear T3 S4 hR hu4
      go_wp2_with fail
      refine T4.out.mono ?_
      rintro e w5 ⟨⟨v5, rfl, hnew5⟩, hu5⟩
      have HN5 := Lib.hid (hnew5.mono HU4.out.size)
      have HU5 := Lib.hid (HU4.out.trans hu5)
      obtain ⟨a5, c5, rfl⟩ := hnew5.form
      clear T4 hu5 HU4 hnew5
      by_cases h60 : 60 < FX.length
      · have HX2 := Lib.hid (HX.out.trans (if_pos h60))
        have h60' : (60 : Int) < (FX.length : Int) := by omega
        clear HX h60
        go_wp2_with fail
        go_ret3
        exact ⟨⟨_, by rw [HX2.out]; rfl, by rw [HX2.out]; exact New.nilF 2 _ _ _⟩, HU5.out⟩
      · have HX2 := Lib.hid (HX.out.trans (if_neg h60))
        have h60' : ¬ (60 : Int) < (FX.length : Int) := by omega
        clear HX h60
        go_wp2_with fail
        go_ret3
        exact ⟨⟨_, by rw [HX2.out]; rfl, by rw [HX2.out]; exact HN5.out⟩, HU5.out⟩

end Go.Proofs.YtpnokhhbakiiiaaDoor

/-
  Expressions parsed: the reference's parser, whole.
-/
namespace Go.Proofs.YtpnokhhbakiiiaaDoor
open Go.RowKit

set_option maxRecDepth 20000 in
set_option maxHeartbeats 4000000 in
theorem parseS (s : List UInt8) (w : World) (hl0 : s.length ≤ 1048576) :
    Calls Tryd.prog 10 #[es s] w fun e w' => (∃ v', e = .returned (.tuple #[v', .int .i64 (parseF s).2.1, .int .i64 (parseF s).2.2]) ∧ New R_T1 w w' v' (parseF s).1) ∧ Upd [] w w' := by
  by_cases h4 : 400 < s.length
  · have HR := Lib.hid (parseF_2 h4)
    have h4' : (400 : Int) < (s.length : Int) := by omega
    generalize parseF s = R at *
    clear h4 hl0
    go_enter Tryd.func10, Tryd.ntmps10
    go_wp2_with fail
    go_ret3
    exact ⟨⟨_, by rw [HR.out]; rfl, by rw [HR.out]; exact New.nilF 2 _ _ _⟩, Upd.refl _ _⟩
  · have h4' : ¬ (400 : Int) < (s.length : Int) := by omega
    have S1 := Lib.hid (l04RunS s w (by omega))
    have HR := Lib.hid (show parseF s = if 0 ≤ errF (tkS s 0).2 s.length true 0 (tkS s 0).1 then ([], errF (tkS s 0).2 s.length true 0 (tkS s 0).1, 8)
        else if 60 < ((syF true [] [] (kinds (tkS s 0).1)).headD []).length then ([], 0, 5)
        else ((syF true [] [] (kinds (tkS s 0).1)).headD [], 0, 0) by unfold parseF; rw [if_neg h4])
    generalize parseF s = R at *
    generalize errF (tkS s 0).2 s.length true 0 (tkS s 0).1 = E at *
    generalize syF true [] [] (kinds (tkS s 0).1) = Y at *
    clear h4 hl0
    go_enter Tryd.func10, Tryd.ntmps10
    go_wp2_with fail
    refine S1.out.mono ?_
    rintro e w1 ⟨⟨hE, rfl⟩ | ⟨hE, v1, N, f, rfl, hR1, hf⟩, hu1⟩
    · have HX := Lib.hid (HR.out.trans (if_pos hE))
      have HU1 := Lib.hid hu1
      clear HR S1 hu1 hE
      go_wp2_with fail
      go_ret3
      exact ⟨⟨_, by rw [HX.out]; rfl, by rw [HX.out]; exact New.nilF 2 _ _ _⟩, HU1.out⟩
    · have HX := Lib.hid (HR.out.trans (if_neg (by omega)))
      have HU1 := Lib.hid hu1
      have HN := Lib.hid (show New R_T1 w w1 v1 (Y.headD []) from ⟨f, hR1.1, hR1.2.1, hf⟩)
      generalize Y.headD [] = FX at *
      obtain ⟨a5, c5, rfl⟩ := HN.out.form
      clear HR S1 hu1 hE hR1 hf
      by_cases h60 : 60 < FX.length
      · have HX2 := Lib.hid (HX.out.trans (if_pos h60))
        have h60' : (60 : Int) < (FX.length : Int) := by omega
        clear HX h60
        go_wp2_with fail
        go_ret3
        exact ⟨⟨_, by rw [HX2.out]; rfl, by rw [HX2.out]; exact New.nilF 2 _ _ _⟩, HU1.out⟩
      · have HX2 := Lib.hid (HX.out.trans (if_neg h60))
        have h60' : ¬ (60 : Int) < (FX.length : Int) := by omega
        clear HX h60
        go_wp2_with fail
        go_ret3
        exact ⟨⟨_, by rw [HX2.out]; rfl, by rw [HX2.out]; exact HN.out⟩, HU1.out⟩

end Go.Proofs.YtpnokhhbakiiiaaDoor

/-
  Expressions parsed: both sides, as the law wants them.
-/
namespace Go.Proofs.YtpnokhhbakiiiaaDoor
open Go.RowKit

/-- the variables of the library and of the program that a parser reads. -/
def PEnv (w : World) : Prop := Glob w ∧ EnvT w
theorem PEnv.upd {w w' : World} (h : PEnv w) (hu : Upd [] w w') : PEnv w' := ⟨h.1.upd hu, h.2.upd hu⟩

theorem parse_i (s : List UInt8) (w : World) (hl : s.length ≤ 1048576) (hE : PEnv w) :
    Calls Tryd.prog 8 #[es s] w fun e w' => (∃ v', e = .returned (.tuple #[v', .int .i64 (parseF s).2.1, .int .i64 (parseF s).2.2]) ∧ New R_T1 w w' v' (parseF s).1) ∧ Upd [] w w' := parseI s w hl hE.1 hE.2
theorem parse_s (s : List UInt8) (w : World) (hl : s.length ≤ 1048576) :
    Calls Tryd.prog 10 #[es s] w fun e w' => (∃ v', e = .returned (.tuple #[v', .int .i64 (parseF s).2.1, .int .i64 (parseF s).2.2]) ∧ New R_T1 w w' v' (parseF s).1) ∧ Upd [] w w' := parseS s w hl

theorem parse_b (s : List UInt8) (h : s.length ≤ 1048576) : mkF_T1 (parseF s).1 ≤ 1000000000 := by
  unfold parseF
  split
  · simp [mkF_T1]
  · split
    · simp [mkF_T1]
    · split
      · simp [mkF_T1]
      · rename_i h
        unfold mkF_T1
        simp only
        omega

end Go.Proofs.YtpnokhhbakiiiaaDoor

/-
  The law FnExactParseExpression: the call returns true for every input, and writes nothing that was there.
-/
namespace Go.Proofs.YtpnokhhbakiiiaaDoor
open Go.RowKit

set_option maxHeartbeats 2000000 in
theorem lawParseExp (s : List UInt8)  (w : World)  (bs_s : s.length ≤ 9223372036854775807) (hE : PEnv w) :
    Calls Tryd.prog 4 #[es s] w fun e w' => e = .returned (.bool true) ∧ Upd [] w w' := by
  have HE := Lib.hid hE
  by_cases lb_s : 1048576 < (s.length : Int)
  · go_enter Tryd.func4, Tryd.ntmps4
    go_wp2_with fail
    go_ret
    exact ⟨rfl, Upd.refl _ _⟩
  · have lx_s : s.length ≤ 1048576 := by omega
    have hT := parse_b s lx_s
    go_enter Tryd.func4, Tryd.ntmps4
    generalize hG : parseF s = G at *
    have HG := Lib.hid hG
    clear hG
    have u0 : Upd [] w w := Upd.refl _ _
    have hc1 : (G.2.1 != G.2.1) = false := by simp
    have hc2 : (G.2.2 != G.2.2) = false := by simp
    have S2 := parse_s s w lx_s 
    rw [HG.out] at S2
    go_wp2_with fail
    refine S2.mono ?_
    clear S2
    rintro e w1 ⟨⟨v_w0, rfl, ⟨fp_w0, r1_w0, o1_w0, ge_w0⟩⟩, uu1⟩
    have u1 : Upd [] w w1 := u0.trans (uu1)
    have HL_w0 := Lib.hid (show ∀ b ∈ fp_w0, w.heap.size ≤ b from fun b hb => by have := ge_w0 b hb; have := u0.size; omega)
    have lt_w0 := R_T1k.lt r1_w0
    clear u0 ge_w0 uu1 lt_w0
    have S2 := parse_i s w1 lx_s (HE.out.upd u1) 
    rw [HG.out] at S2
    go_wp2_with fail
    refine S2.mono ?_
    clear S2
    rintro e w2 ⟨⟨v_g0, rfl, ⟨fp_g0, r2_g0, o2_g0, ge_g0⟩⟩, uu2⟩
    have lt_w0 := R_T1k.lt r1_w0
    have u2 : Upd [] w w2 := u1.trans (uu2)
    have r2_w0 := R_T1k.upd r1_w0 (uu2) (by simp)
    have o2_w0 := o1_w0.upd (uu2) (by simp)
    have HL_g0 := Lib.hid (show ∀ b ∈ fp_g0, w.heap.size ≤ b from fun b hb => by have := ge_g0 b hb; have := u1.size; omega)
    have HD_w0_g0 := Lib.hid (show ∀ b ∈ fp_w0, b ∉ fp_g0 from fun b hb hm => by have := lt_w0 b hb; have := ge_g0 b hm; omega)
    have lt_g0 := R_T1k.lt r2_g0
    clear u1 r1_w0 o1_w0 ge_g0 uu2 lt_w0 lt_g0
    go_wp2_with fail
    refine (eq_T1 v_g0 v_w0 _ _ _ fp_g0 fp_w0 r2_g0 r2_w0).mono ?_
    rintro e w3 ⟨rfl, uu3⟩
    rw [beq_refl_true]
    have u3 : Upd [] w w3 := u2.trans (uu3)
    have r3_w0 := R_T1k.upd r2_w0 (uu3) (by simp)
    have o3_w0 := o2_w0.upd (uu3) (by simp)
    have r3_g0 := R_T1k.upd r2_g0 (uu3) (by simp)
    have o3_g0 := o2_g0.upd (uu3) (by simp)
    clear u2 r2_w0 o2_w0 r2_g0 o2_g0 uu3
    have tg0 := mkF_T1_nonneg G.1
    go_wp2_with fail
    refine (mark_T1 v_g0 G.1 _ _ fp_g0 (by omega) (by omega) r3_g0 o3_g0).mono ?_
    rintro e w4 ⟨rfl, r4_g0, o4_g0, uu4⟩
    have u4 : Upd [] w w4 := u3.fresh (uu4) (fun b hb => Or.inl (HL_g0.out b hb))
    have r4_w0 := R_T1k.upd r3_w0 (uu4) HD_w0_g0.out
    have o4_w0 := o3_w0.upd (uu4) HD_w0_g0.out
    clear u3 r3_w0 o3_w0 r3_g0 o3_g0 uu4
    have hk0 : 0 ≤ 1 + mkF_T1 G.1 := by omega
    have hne : ((1 + mkF_T1 G.1) != (1 + mkF_T1 G.1)) = false := by simp
    go_wp2_with fail
    refine (held_T1 v_g0 G.1 _ _ fp_g0 (by omega) (by omega) r4_g0).mono ?_
    rintro e w' ⟨rfl, rfl⟩
    have S2 := parse_i s w4 lx_s (HE.out.upd u4) 
    rw [HG.out] at S2
    go_wp2_with fail
    refine S2.mono ?_
    clear S2
    rintro e w5 ⟨⟨v_h0, rfl, ⟨fp_h0, r5_h0, o5_h0, ge_h0⟩⟩, uu5⟩
    have lt_w0 := R_T1k.lt r4_w0
    have lt_g0 := R_T1k.lt r4_g0
    have u5 : Upd [] w w5 := u4.trans (uu5)
    have r5_w0 := R_T1k.upd r4_w0 (uu5) (by simp)
    have o5_w0 := o4_w0.upd (uu5) (by simp)
    have r5_g0 := R_T1k.upd r4_g0 (uu5) (by simp)
    have o5_g0 := o4_g0.upd (uu5) (by simp)
    have HL_h0 := Lib.hid (show ∀ b ∈ fp_h0, w.heap.size ≤ b from fun b hb => by have := ge_h0 b hb; have := u4.size; omega)
    have HD_w0_h0 := Lib.hid (show ∀ b ∈ fp_w0, b ∉ fp_h0 from fun b hb hm => by have := lt_w0 b hb; have := ge_h0 b hm; omega)
    have HD_g0_h0 := Lib.hid (show ∀ b ∈ fp_g0, b ∉ fp_h0 from fun b hb hm => by have := lt_g0 b hb; have := ge_h0 b hm; omega)
    have lt_h0 := R_T1k.lt r5_h0
    clear u4 r4_w0 o4_w0 r4_g0 o4_g0 ge_h0 uu5 lt_w0 lt_g0 lt_h0
    go_wp2_with fail
    refine (eq_T1 v_h0 v_w0 _ _ _ fp_h0 fp_w0 r5_h0 r5_w0).mono ?_
    rintro e w6 ⟨rfl, uu6⟩
    rw [beq_refl_true]
    have u6 : Upd [] w w6 := u5.trans (uu6)
    have r6_w0 := R_T1k.upd r5_w0 (uu6) (by simp)
    have o6_w0 := o5_w0.upd (uu6) (by simp)
    have r6_g0 := R_T1k.upd r5_g0 (uu6) (by simp)
    have o6_g0 := o5_g0.upd (uu6) (by simp)
    have r6_h0 := R_T1k.upd r5_h0 (uu6) (by simp)
    have o6_h0 := o5_h0.upd (uu6) (by simp)
    clear u5 r5_w0 o5_w0 r5_g0 o5_g0 r5_h0 o5_h0 uu6
    go_wp2_with fail
    refine (held_T1 v_g0 G.1 _ _ fp_g0 (by omega) (by omega) r6_g0).mono ?_
    rintro e w' ⟨rfl, rfl⟩
    go_wp2_with fail
    go_ret
    exact ⟨rfl, u6⟩

end Go.Proofs.YtpnokhhbakiiiaaDoor
