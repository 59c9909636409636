/-
  Texts joined in one file: ModV, SimE, LawSimplifyModal, OpenF, LabZ.
-/
import Derived.Test.YtddciieaolaleaaGreatDoorZM1
import Derived.Test.YtddciieaolaleaaGreatDoorZM2
import Derived.Lib.SmallJoins
import Derived.Deep.Strs
import Derived.Lib.LaidTab
import Derived.Stop.LaidErr
import Derived.HandedShaped
import Derived.Handed
import Derived.Shelf.Vars
/-
  The checks of a modal formula: what the program's call and the reference's call return.
-/
namespace Go.Proofs.YtddciieaolaleaaGreatDoor
open Go.RowKit

def IdxNd (P : Nd → Bool) (xs : List Nd) (w : World) (e : Ending) (w' : World) : Prop := (∃ q : Int, e = .returned (.int .i64 q) ∧ -1 ≤ q ∧ q ≤ 9223372036854775807 ∧ decide (0 ≤ q) = xs.any P) ∧ Upd [] w w'

set_option maxRecDepth 20000 in
set_option maxHeartbeats 1000000 in
theorem indexFuncNd (P : Nd → Bool) (fn : FuncId) (caps : Array Value) (v : Value) (xs : List Nd) (w : World) (fp : List Nat) (hR : R_F1 fp w [v] xs)
    (hent : ∀ args w, Sem.run Tryz.prog (callFunc fn args) w = .ok (.enter fn args) w)
    (hby : ∀ wr x, x ∈ xs → Upd [] w wr → Calls Tryz.prog fn (#[.agg #[ei x.kd, ei x.vr, es x.lb, .bool x.nt]] ++ caps) wr fun e w' => e = .returned (.bool (P x)) ∧ Upd [] wr w') :
    Calls Tryz.prog 90 #[v, .func (.func fn) #[] caps] w (IdxNd P xs w) := by
  obtain ⟨a1, c1, rfl, hl1, hm1, hc1⟩ := slF4_open hR
  unfold maxLen at hm1
  have HBY := Lib.hid hby
  clear hR hby
  go_enter Tryz.func90, Tryz.ntmps90
  go_wp2_with fail
  go_loopw [8] (fun i wr => ∃ k : Nat, k ≤ xs.length ∧ i = .int .i64 k ∧ Upd [] w wr ∧ (xs.drop k).any P = xs.any P) (fun i _ => xs.length - (intOf i).toNat)
  case atStart => exact ⟨0, Nat.zero_le _, rfl, Upd.refl _ _, rfl⟩
  case round =>
    obtain ⟨k, hk, rfl, hU, hF⟩ := hrel
    by_cases hlt : k < xs.length
    · obtain ⟨b1, o1, rfl, -, -, p1, p2, p3, p4⟩ := hc1 k hlt
      have p1 := hU.keep p1
      have p2 := hU.keep p2
      have p3 := hU.keep p3
      have p4 := hU.keep p4
      rw [List.drop_eq_getElem_cons hlt, List.any_cons] at hF
      have HF := Lib.hid hF
      have HU := Lib.hid hU
      have S1 := Lib.hid (HBY.out wr xs[k] (List.getElem_mem hlt) hU)
      generalize xs[k] = x at *
      generalize P x = bb at *
      obtain ⟨x1, x2, x3, x4⟩ := x
      simp only at p1 p2 p3 p4
      clear hF hc1 hU
      go_wp2_with fail
      refine S1.out.mono ?_
      rintro e w1 ⟨rfl, hu1⟩
      have HU1 := Lib.hid (HU.out.trans hu1)
      clear S1 hu1
      cases bb
      · go_wp2_with fail
        go_roundw
        case rel => exact ⟨k + 1, by omega, by go_num, HU1.out, by rw [← HF.out]; rfl⟩
        case measure => simp [intOf]; omega
      · go_wp2_with fail
        go_ret
        exact ⟨⟨k, rfl, by omega, by omega, by rw [← HF.out]; simp⟩, HU1.out⟩
    · rw [List.drop_of_length_le (by omega)] at hF
      have HF := Lib.hid hF
      clear hF hc1
      go_wp2_with fail
      go_ret
      exact ⟨⟨-1, rfl, by omega, by omega, by rw [← HF.out]; rfl⟩, hU⟩

set_option maxRecDepth 20000 in
theorem containsFuncNd (P : Nd → Bool) (fn : FuncId) (caps : Array Value) (v : Value) (xs : List Nd) (w : World) (fp : List Nat) (hR : R_F1 fp w [v] xs)
    (hent : ∀ args w, Sem.run Tryz.prog (callFunc fn args) w = .ok (.enter fn args) w)
    (hby : ∀ wr x, x ∈ xs → Upd [] w wr → Calls Tryz.prog fn (#[.agg #[ei x.kd, ei x.vr, es x.lb, .bool x.nt]] ++ caps) wr fun e w' => e = .returned (.bool (P x)) ∧ Upd [] wr w') :
    Calls Tryz.prog 64 #[v, .func (.func fn) #[] caps] w fun e w' => e = .returned (.bool (xs.any P)) ∧ Upd [] w w' := by
  have S2 := Lib.hid (indexFuncNd P fn caps v xs w fp hR hent hby)
  clear hby hent hR
  go_enter Tryz.func64, Tryz.ntmps64
  go_wp2_with fail
  refine S2.out.mono ?_
  rintro e w1 ⟨⟨q, rfl, h1, h2, h3⟩, hu⟩
  have H3 := Lib.hid (And.intro h3 hu)
  clear h3 hu
  go_wp2_with fail
  go_ret
  exact ⟨by rw [← H3.out.1]; rfl, H3.out.2⟩

def modB (n : Nd) : Bool := !inB n.kd 0 5 || n.vr != 0 || !fieldsF n
/-- a modal formula is valid. -/
def modOk (f : List Nd) : Bool := inB f.length 1 200 && shapeF arI 1 f && !(f.any modB)

set_option maxRecDepth 20000 in
set_option maxHeartbeats 2000000 in
theorem modBI (x : Nd) (w : World) (hl : x.lb.length ≤ 2000000) (he : Env w) :
    Calls Tryz.prog 65 #[.agg #[ei x.kd, ei x.vr, es x.lb, .bool x.nt]] w fun e w' => e = .returned (.bool (modB x)) ∧ Upd [] w w' := by
  obtain ⟨x1, x2, x3, x4⟩ := x
  simp only at hl
  obtain ⟨wA, hwA⟩ : ∃ wA, wA = w.alloc (.cells #[ei x1, ei x2, es x3, .bool x4] 54) := ⟨_, rfl⟩
  have uA : Upd [] w wA := by rw [hwA]; exact (Upd.refl _ _).alloc _
  obtain ⟨TN, hTN⟩ : ∃ TN, TN = w.heap.size := ⟨_, rfl⟩
  have e0 : wA.cell? ⟨TN, 0, none⟩ = some (ei x1) := by rw [hwA]; exact cell_new _ _ _ _ hTN.symm 0 _ rfl
  have e1 : wA.cell? ⟨TN, 1, none⟩ = some (ei x2) := by rw [hwA]; exact cell_new _ _ _ _ hTN.symm 1 _ rfl
  have e2 : wA.cell? ⟨TN, 2, none⟩ = some (es x3) := by rw [hwA]; exact cell_new _ _ _ _ hTN.symm 2 _ rfl
  have e3 : wA.cell? ⟨TN, 3, none⟩ = some (.bool x4) := by rw [hwA]; exact cell_new _ _ _ _ hTN.symm 3 _ rfl
  have W1 := Lib.hid (fun W : World => within x1 0 5 W)
  have F1 := Lib.hid (fieldsI x1 x2 x3 x4 wA hl (he.upd uA))
  have HM := Lib.hid (show modB ⟨x1, x2, x3, x4⟩ = (!inB x1 0 5 || x2 != 0 || !fieldsF ⟨x1, x2, x3, x4⟩) from rfl)
  have HU := Lib.hid uA
  generalize modB ⟨x1, x2, x3, x4⟩ = Z at *
  generalize fieldsF ⟨x1, x2, x3, x4⟩ = q at *
  generalize inB x1 0 5 = p at *
  clear uA he
  cases p with
  | false =>
    have HE := Lib.hid (show Z = true by rw [HM.out]; rfl)
    clear HM F1
    go_enter Tryz.func65, Tryz.ntmps65
    go_upto_region 1 with (fail)
    rw [← hwA, ← hTN]
    clear hwA hTN
    go_wp2_with fail
    refine (W1.out _).mono ?_
    rintro e w1 ⟨rfl, rfl⟩
    go_wp2_with fail
    go_ret
    exact ⟨by rw [HE.out]; rfl, HU.out⟩
  | true =>
    by_cases h2 : x2 = 0
    · subst h2
      have HE := Lib.hid (show Z = !q by rw [HM.out]; simp)
      clear HM
      go_enter Tryz.func65, Tryz.ntmps65
      go_upto_region 1 with (fail)
      rw [← hwA, ← hTN]
      clear hwA hTN
      go_wp2_with fail
      refine (W1.out _).mono ?_
      rintro e w1 ⟨rfl, rfl⟩
      go_wp2_with fail
      refine F1.out.mono ?_
      rintro e w1 ⟨rfl, hu⟩
      have HU2 := Lib.hid (HU.out.trans hu)
      clear F1 hu
      go_wp2_with fail
      go_ret
      exact ⟨by rw [HE.out]; rfl, HU2.out⟩
    · have b2 : (x2 != 0) = true := by simpa using h2
      have HE := Lib.hid (show Z = true by rw [HM.out, b2]; rfl)
      clear HM F1
      go_enter Tryz.func65, Tryz.ntmps65
      go_upto_region 1 with (fail)
      rw [← hwA, ← hTN]
      clear hwA hTN
      go_wp2_with fail
      refine (W1.out _).mono ?_
      rintro e w1 ⟨rfl, rfl⟩
      go_wp2_with fail
      go_ret
      exact ⟨by rw [HE.out]; rfl, HU.out⟩

theorem enter_modB (args : Array Value) (w : World) : Sem.run Tryz.prog (callFunc 65 args) w = .ok (.enter 65 args) w := by go_simp

set_option maxRecDepth 20000 in
set_option maxHeartbeats 2000000 in
theorem validMI (v : Value) (f : List Nd) (w : World) (fp : List Nat) (hR : R_F1 fp w [v] f) (hlen : f.length ≤ 2000000) (hl : ∀ n ∈ f, n.lb.length ≤ 2000000) (he : Env w) :
    Calls Tryz.prog 37 #[v] w fun e w' => e = .returned (.bool (modOk f)) ∧ Upd [] w w' := by
  have W1 := Lib.hid (fun W : World => within (f.length : Int) 1 200 W)
  have S2 := Lib.hid (shapeI v f w fp hR hlen)
  have S3 := Lib.hid (fun W (hu : Upd [] w W) => containsFuncNd modB 65 #[] v f W fp (R_F1k.upd hR hu (by simp)) enter_modB (fun wr x hx hu2 => modBI x wr (hl x hx) (he.upd (hu.trans hu2))))
  have HM := Lib.hid (show modOk f = (inB f.length 1 200 && shapeF arI 1 f && !(f.any modB)) from rfl)
  obtain ⟨a, cap, rfl, -, h2, -⟩ := slF4_open hR
  unfold maxLen at h2
  have hent := enter_modB
  generalize modOk f = Z at *
  clear hR hl he
  cases hin : inB (f.length : Int) 1 200 with
  | false =>
    rw [hin] at W1
    have HE := Lib.hid (show Z = false by rw [HM.out, hin]; rfl)
    clear HM S2 S3 hin
    go_enter Tryz.func37, Tryz.ntmps37
    go_wp2_with fail
    refine (W1.out _).mono ?_
    rintro e w1 ⟨rfl, rfl⟩
    go_wp2_with fail
    go_ret
    exact ⟨by rw [HE.out]; rfl, Upd.refl _ _⟩
  | true =>
    rw [hin] at W1
    cases hs : shapeF arI 1 f with
    | false =>
      rw [hs] at S2
      have HE := Lib.hid (show Z = false by rw [HM.out, hs, hin]; rfl)
      clear HM S3 hin hs
      go_enter Tryz.func37, Tryz.ntmps37
      go_wp2_with fail
      refine (W1.out _).mono ?_
      rintro e w1 ⟨rfl, rfl⟩
      go_wp2_with fail
      refine S2.out.mono ?_
      rintro e w1 ⟨rfl, hu⟩
      have HU := Lib.hid hu
      clear S2 hu
      go_wp2_with fail
      go_ret
      exact ⟨by rw [HE.out]; rfl, HU.out⟩
    | true =>
      rw [hs] at S2
      have HE := Lib.hid (show Z = !(f.any modB) by rw [HM.out, hs, hin]; rfl)
      clear HM hin hs
      generalize f.any modB = q at *
      go_enter Tryz.func37, Tryz.ntmps37
      go_wp2_with fail
      refine (W1.out _).mono ?_
      rintro e w1 ⟨rfl, rfl⟩
      go_wp2_with fail
      refine S2.out.mono ?_
      rintro e w1 ⟨rfl, hu⟩
      have HU := Lib.hid hu
      have T3 := Lib.hid (S3.out w1 hu)
      clear S2 hu S3
      go_wp2_with fail
      refine T3.out.mono ?_
      rintro e w2 ⟨rfl, hu2⟩
      have HU2 := Lib.hid (HU.out.trans hu2)
      clear T3 hu2
      go_wp2_with fail
      go_ret
      exact ⟨by rw [HE.out]; rfl, HU2.out⟩

theorem shapeM_split : ∀ (l : List Nd) (m : Int), shapeM m l = (shapeF arI m l && l.all fun n => inB n.kd 0 5 && fieldsF n)
  | [], m => by simp [shapeM, shapeF]
  | n :: l, m => by
    rw [shapeM, shapeF, List.all_cons]
    by_cases hm : m = 0
    · simp [hm]
    · cases hk : inB n.kd 0 5 with
      | false => simp [hm]
      | true =>
        cases hf : fieldsF n with
        | false => simp [hm]
        | true =>
          have hk8 : inB n.kd 0 8 = true := inB_mk (by have := inB_true hk; omega)
          simp only [hm, Bool.true_eq_false, or_self, if_false, Bool.true_and]
          rw [ar_same hk8, shapeM_split l]
theorem modOk_same (f : List Nd) : (inB f.length 1 200 && shapeM 1 f && f.all fun n => n.vr == 0) = modOk f := by
  unfold modOk
  rw [shapeM_split]
  have e : (!(f.any modB)) = ((f.all fun n => inB n.kd 0 5 && fieldsF n) && f.all fun n => n.vr == 0) := by
    rw [Bool.eq_iff_iff]
    simp only [Bool.not_eq_true', List.any_eq_false, Bool.and_eq_true, List.all_eq_true, beq_iff_eq, modB, Bool.or_eq_true, bne_iff_ne, ne_eq, not_or, Bool.not_eq_false, Decidable.not_not]
    constructor
    · intro h
      exact ⟨fun n hn => ⟨by have := (h n hn).1.1; simpa using this, by have := (h n hn).2; simpa using this⟩, fun n hn => (h n hn).1.2⟩
    · rintro ⟨h1, h2⟩ n hn
      exact ⟨⟨by have := (h1 n hn).1; simpa using this, h2 n hn⟩, by have := (h1 n hn).2; simpa using this⟩
  rw [e]
  cases inB (f.length : Int) 1 200 <;> cases shapeF arI 1 f <;> cases (f.all fun n => inB n.kd 0 5 && fieldsF n) <;> simp

set_option maxRecDepth 20000 in
set_option maxHeartbeats 2000000 in
theorem isMS (v : Value) (f : List Nd) (w : World) (fp : List Nat) (hR : R_F1 fp w [v] f) (hlen : f.length ≤ 2000000) (hl : ∀ n ∈ f, n.lb.length ≤ 2000000) :
    Calls Tryz.prog 32 #[v] w fun e w' => e = .returned (.bool (modOk f)) ∧ Upd [] w w' := by
  rw [← modOk_same]
  have S1 := Lib.hid (shapeMS v f w fp hR hlen hl)
  obtain ⟨a, cap, rfl, h1, h2, hc⟩ := slF4_open hR
  unfold maxLen at h2
  have HC := Lib.hid hc
  clear hR hc hl
  generalize (inB (f.length : Int) 1 200 && shapeM 1 f) = q at *
  cases q with
  | false =>
    go_enter Tryz.func32, Tryz.ntmps32
    go_wp2_with fail
    refine S1.out.mono ?_
    rintro e w1 ⟨rfl, hu⟩
    have HU := Lib.hid hu
    clear S1 hu
    go_wp2_with fail
    go_ret
    first | exact ⟨rfl, HU.out⟩ | exact ⟨trivial, HU.out⟩
  | true =>
    go_enter Tryz.func32, Tryz.ntmps32
    go_wp2_with fail
    refine S1.out.mono ?_
    rintro e w1 ⟨rfl, hu⟩
    have HU := Lib.hid hu
    clear S1 hu
    go_wp2_with fail
    go_loopw [3] (fun iv wr => ∃ k : Nat, k ≤ f.length ∧ iv = .int .i64 k ∧ wr = w1 ∧ Hid (((f.drop k).all fun n => n.vr == 0) = f.all fun n => n.vr == 0)) (fun iv _ => f.length - (intOf iv).toNat)
    case atStart => exact ⟨0, Nat.zero_le _, rfl, rfl, Lib.hid rfl⟩
    case round =>
      obtain ⟨k, hk, rfl, rfl, HF⟩ := hrel
      by_cases hlt : k < f.length
      · obtain ⟨b1, o1, rfl, -, -, p1, p2, p3, p4⟩ := HC.out k hlt
        have p2 := HU.out.keep p2
        have hF := HF.out
        rw [List.drop_eq_getElem_cons hlt, List.all_cons] at hF
        generalize f[k].vr = x2 at *
        clear p1 p3 p4 HF
        by_cases h0 : x2 = 0
        · subst h0
          have HF2 := Lib.hid hF
          clear hF
          go_wp2_with fail
          go_roundw
          case rel => exact ⟨k + 1, by omega, by go_num, trivial, Lib.hid (by rw [← HF2.out]; rfl)⟩
          case measure => simp [intOf]; omega
        · have hb : (x2 != 0) = true := by simpa using h0
          have HF2 := Lib.hid (show (f.all fun n => n.vr == 0) = false by rw [← hF, show (x2 == 0) = false by simpa using h0]; rfl)
          clear hF h0
          go_wp2_with fail
          go_ret
          exact ⟨by rw [HF2.out]; rfl, HU.out⟩
      · have HD := Lib.hid (show (f.all fun n => n.vr == 0) = true by rw [← HF.out, List.drop_of_length_le (by omega)]; rfl)
        clear HF
        go_wp2_with fail
        go_ret
        exact ⟨by rw [HD.out]; rfl, HU.out⟩

end Go.Proofs.YtddciieaolaleaaGreatDoor

/-
  SimplifyModal: what the program's call and the reference's call return.
-/
namespace Go.Proofs.YtddciieaolaleaaGreatDoor
open Go.RowKit

/-- what SimplifyModal returns. -/
def smF (f : List Nd) : List Nd × Int := if modOk f then (((forestT arN f).map fun x => flatT (simpX x)).headD [], 0) else ([], 1)
theorem mod_parts {f : List Nd} (h : modOk f = true) : f.length ≤ 200 ∧ shapeF arI 1 f = true ∧ ∀ n ∈ f, modN n := by
  unfold modOk at h
  simp only [Bool.and_eq_true, Bool.not_eq_true'] at h
  obtain ⟨⟨h1, h2⟩, h3⟩ := h
  have := inB_true h1
  refine ⟨by omega, h2, fun n hn => ?_⟩
  have h4 := List.any_eq_false.1 h3 n hn
  unfold modB at h4
  cases hk : inB n.kd 0 5 with
  | false => rw [hk] at h4; simp at h4
  | true =>
    have hk2 := inB_true hk
    cases hf : fieldsF n with
    | false => rw [hf] at h4; simp at h4
    | true =>
      rw [hk, hf] at h4
      have hv : n.vr = 0 := by simpa using h4
      unfold fieldsF at hf
      refine ⟨hk2, hv, fun hn4 => ?_, ?_⟩
      · have hm : modF n.kd = false := by unfold modF; simp; omega
        rw [hm] at hf
        simpa using hf
      · cases hm : modF n.kd with
        | true => rw [hm] at hf; exact patF_len (by simpa using hf)
        | false =>
          rw [hm] at hf
          have : n.lb = [] := by simp at hf; exact hf.1
          rw [this]; simp
theorem mod_tree {f : List Nd} (h : modOk f = true) : ∃ x : Tr Nd, forestT arN f = [x] ∧ okT arN x = true ∧ flatT x = f := by
  refine forestT_one arN_nonneg ?_
  rw [shapeG_F]; exact (mod_parts h).2.1
theorem smF_small (f : List Nd) (_ : f.length ≤ 2000000) : (smF f).1.length ≤ 2000000 := by
  unfold smF
  cases hok : modOk f with
  | false => simp
  | true =>
    obtain ⟨x, hx, ho, hfx⟩ := mod_tree hok
    have := (simpX_good (Q := fun _ => True) x ho (fun _ _ => trivial)).2.2
    have h2 := (mod_parts hok).1
    rw [hx]
    simp only [if_true, List.map_cons, List.headD_cons]
    rw [hfx] at this
    omega

set_option maxRecDepth 20000 in
set_option maxHeartbeats 4000000 in
theorem smI (v : Value) (f : List Nd) (w : World) (fp : List Nat) (hR : R_F1 fp w [v] f) (hlen : f.length ≤ 2000000) (hl : ∀ n ∈ f, n.lb.length ≤ 2000000) (he : Env w) :
    Calls Tryz.prog 15 #[v] w fun e w' => (∃ v', e = .returned (.tuple #[v', .int .i64 (smF f).2]) ∧ New R_F1 w w' v' (smF f).1) ∧ Upd [] w w' := by
  have S1 := Lib.hid (validMI v f w fp hR hlen hl he)
  have HR := Lib.hid (fun W (hu : Upd [] w W) => R_F1k.upd hR hu (by simp))
  clear hR hl he
  cases hok : modOk f with
  | false =>
    rw [hok] at S1
    have HE := Lib.hid (show smF f = ([], 1) by unfold smF; rw [hok]; rfl)
    rw [HE.out]
    clear hok HR HE
    go_enter Tryz.func15, Tryz.ntmps15
    go_wp2_with fail
    refine S1.out.mono ?_
    rintro e w1 ⟨rfl, hu⟩
    have HU := Lib.hid hu
    clear S1 hu
    go_wp2_with fail
    go_ret2
    exact ⟨⟨_, rfl, New.nilF _ _ _ _⟩, HU.out⟩
  | true =>
    obtain ⟨x, hx, hokx, hfx⟩ := mod_tree hok
    have hln := (mod_parts hok).1
    rw [hok] at S1
    have HE := Lib.hid (show smF f = (flatT (simpX x), 0) by unfold smF; rw [hok, hx]; rfl)
    rw [HE.out]
    have hsl := (simpX_good (Q := fun _ => True) x hokx (fun _ _ => trivial)).2.2
    rw [hfx] at hsl
    have S2 := Lib.hid (fun W (hu : Upd [] w W) => formOf x W v fp hokx (by rw [hfx]; omega) (by rw [hfx]; exact HR.out W hu))
    have S3 := Lib.hid (fun W v' fp' (hr : R_X fp' W [v'] x) => simpI _ x W v' fp' (Nat.le_refl _) (by rw [hfx]; omega) hokx hr)
    have S4 := Lib.hid (fun W v' fp' (hr : R_X fp' W [v'] (simpX x)) => listX (simpX x) W v' fp' (by omega) hr)
    clear hok hx hokx hfx HR HE hsl
    go_enter Tryz.func15, Tryz.ntmps15
    go_wp2_with fail
    refine S1.out.mono ?_
    rintro e w1 ⟨rfl, hu⟩
    have T2 := Lib.hid (S2.out w1 hu)
    have HU := Lib.hid hu
    clear S1 S2 hu
    go_wp2_with fail
    refine T2.out.mono ?_
    rintro e w2 ⟨⟨v', rfl, fp', hr, -, -⟩, hu2⟩
    have T3 := Lib.hid (S3.out w2 v' fp' hr)
    have HU2 := Lib.hid (HU.out.trans hu2)
    obtain ⟨pb, rfl⟩ := R_T_form hr
    clear T2 S3 hu2 hr HU
    go_wp2_with fail
    refine T3.out.mono ?_
    rintro e w3 ⟨⟨v3, fp3, rfl, hr3, -⟩, hu3⟩
    have T4 := Lib.hid (S4.out w3 v3 fp3 hr3)
    have HU3 := Lib.hid (HU2.out.trans hu3)
    obtain ⟨pb3, rfl⟩ := R_T_form hr3
    clear T3 S4 hu3 hr3 HU2
    go_wp2_with fail
    refine T4.out.mono ?_
    rintro e w4 ⟨⟨v4, rfl, hn4⟩, hu4⟩
    have HU4 := Lib.hid (HU3.out.trans hu4)
    have HN := Lib.hid (hn4.mono (w0 := w) HU3.out.size)
    obtain ⟨a4, c4, rfl⟩ := New.form hn4
    clear T4 hu4 hn4 HU3
    go_wp2_with fail
    go_ret2
    exact ⟨⟨_, rfl, HN.out⟩, HU4.out⟩

set_option maxRecDepth 20000 in
set_option maxHeartbeats 4000000 in
theorem smS (v : Value) (f : List Nd) (w : World) (fp : List Nat) (hR : R_F1 fp w [v] f) (hlen : f.length ≤ 2000000) (hl : ∀ n ∈ f, n.lb.length ≤ 2000000) :
    Calls Tryz.prog 13 #[v] w fun e w' => (∃ v', e = .returned (.tuple #[v', .int .i64 (smF f).2]) ∧ ∃ fp', R_F1 fp' w' [v'] (smF f).1 ∧ ∀ b ∈ fp', w.heap.size ≤ b) ∧ Upd [] w w' := by
  have S1 := Lib.hid (isMS v f w fp hR hlen hl)
  cases hok : modOk f with
  | false =>
    rw [hok] at S1
    have HE := Lib.hid (show smF f = ([], 1) by unfold smF; rw [hok]; rfl)
    rw [HE.out]
    clear hok HE hR hl
    go_enter Tryz.func13, Tryz.ntmps13
    go_wp2_with fail
    refine S1.out.mono ?_
    rintro e w1 ⟨rfl, hu⟩
    have HU := Lib.hid hu
    clear S1 hu
    go_wp2_with fail
    go_ret2
    obtain ⟨f9, g1, -, g3⟩ := New.nilF 4 (fun t : Nd => [ei t.kd, ei t.vr, es t.lb, .bool t.nt]) w w1
    exact ⟨⟨_, rfl, f9, g1, g3⟩, HU.out⟩
  | true =>
    obtain ⟨x, hx, hokx, hfx⟩ := mod_tree hok
    obtain ⟨hln, hsh, hmod⟩ := mod_parts hok
    have HE := Lib.hid (show smF f = (flatT (simpX x), 0) by unfold smF; rw [hok, hx]; rfl)
    rw [HE.out]
    rw [hok] at S1
    exact (simpMS v f x w fp hR hsh hln hmod hx S1.out).mono fun e w' ⟨⟨v', fp', h1, h2, h3⟩, h4⟩ => ⟨⟨v', h1, fp', h2.1, h3⟩, h4⟩

end Go.Proofs.YtddciieaolaleaaGreatDoor

/-
  The law FnExactSimplifyModal: the call returns true for every input, and writes nothing that was there.
-/
namespace Go.Proofs.YtddciieaolaleaaGreatDoor
open Go.RowKit Go.ChangeShapes

set_option maxRecDepth 20000 in
set_option maxHeartbeats 4000000 in
theorem lawSimplifyModal (v : Value) (f : List Nd) (w : World) (fp : List Nat) (hR : R_F1 fp w [v] f) (hS : ndsOk f) (hE : Env w) :
    Calls Tryz.prog 4 #[v] w fun e w' => e = .returned (.bool true) ∧ Upd [] w w' := by
  have HRX := Lib.hid (fun W (hu : Upd [] w W) => R_F1k.upd hR hu (by simp))
  have HE := Lib.hid hE
  have S1 := Lib.hid (sz_F1 v f 1048576 w fp (by omega) (by omega) hR hS)
  obtain ⟨a, cap, rfl, h1, h2, -⟩ := slF4_open hR
  unfold maxLen at h2
  clear hR hS hE
  go_enter Tryz.func4, Tryz.ntmps4
  go_wp2_with fail
  refine S1.out.mono ?_
  rintro e w1 ⟨⟨r, rfl, hr⟩, hu1⟩
  have HU1 := Lib.hid hu1
  rcases hr with rfl | ⟨hr0, hr1⟩
  · clear S1 hu1
    go_wp2_with fail
    go_ret
    exact ⟨rfl, HU1.out⟩
  · have hsz : szF_F1 f ≤ 1048576 := by omega
    have htot := totS_nonneg (f.map Nd.lb)
    have hb : ∀ n ∈ f, n.lb.length ≤ 2000000 := by
      intro n hn
      have h1 := totS_mem (f.map Nd.lb) n.lb (List.mem_map.2 ⟨n, hn, rfl⟩)
      unfold szF_F1 at hsz
      omega
    have hlen : f.length ≤ 2000000 := by unfold szF_F1 at hsz; omega
    have hmf0 := mkF_F1_nonneg f
    have hmf : 1 + mkF_F1 f ≤ 4611686018427387904 := by unfold mkF_F1; omega
    have HSZ := Lib.hid hsz
    have HB := Lib.hid hb
    have HR0 := Lib.hid hr1
    have SI := Lib.hid (fun W v gp h he => smI v f W gp h hlen HB.out he)
    have SS := Lib.hid (fun W v gp h => smS v f W gp h hlen HB.out)
    have hsm := smF_small f hlen
    generalize smF f = D at *
    obtain ⟨x, code⟩ := D
    simp only at SI SS hsm
    have hcc : ((code : Int) != (code : Int)) = false := by simp
    have hmk0 := mkF_F1_nonneg x
    have hmk : 1 + mkF_F1 x ≤ 4611686018427387904 := by unfold mkF_F1; omega
    have S2 := Lib.hid (to_F1 _ f w1 _ hsz (HRX.out w1 hu1))
    clear S1 hu1 hr1 hsz hb htot hsm
    go_wp2_with fail
    refine S2.out.mono ?_
    rintro e w2 ⟨⟨v', rfl, gp, r1, -, -⟩, hu2⟩
    have S3 := Lib.hid (SS.out w2 v' gp r1)
    have HU2 := Lib.hid (HU1.out.trans hu2)
    obtain ⟨a2, c2, rfl, -, -, -⟩ := slF4_open r1
    clear S2 r1 hu2 SS
    go_wp2_with fail
    refine S3.out.mono ?_
    rintro e w3 ⟨⟨va, rfl, fa, ra, ga⟩, hu3⟩
    have HU3 := Lib.hid (HU2.out.trans hu3)
    have la := R_F1k.lt ra
    have HLA := Lib.hid la
    have HA := Lib.hid (fun W f (hu : Upd f w3 W) (hf : ∀ b ∈ f, w3.heap.size ≤ b) => R_F1k.upd ra hu (fun b hb hm => by have := la b hb; have := hf b hm; omega))
    obtain ⟨xa, xc, rfl, -, -, -⟩ := slF4_open ra
    have S4 := Lib.hid (to_F1 _ f w3 _ HSZ.out (HRX.out w3 HU3.out))
    have HU2' := Lib.hid HU3.out
    clear S3 ra hu3 HU2 la ga
    go_wp2_with fail
    refine S4.out.mono ?_
    rintro e w4 ⟨⟨vx, rfl, fx, rx, ox, gx⟩, hu4⟩
    have HU4 := Lib.hid (HU3.out.trans hu4)
    have H34 := Lib.hid hu4
    have HXX := Lib.hid (And.intro rx ox)
    have HGX := Lib.hid gx
    have lx := R_F1k.lt rx
    have HLX := Lib.hid lx
    have S5 := Lib.hid (SI.out w4 vx fx rx (HE.out.upd HU4.out))
    obtain ⟨ya, yc, rfl, -, -, -⟩ := slF4_open rx
    have HU4' := Lib.hid HU4.out
    have H34' := Lib.hid H34.out
    clear S4 rx ox gx lx hu4 HU3
    go_wp2_with fail
    refine S5.out.mono ?_
    rintro e w5 ⟨⟨vb, rfl, fb, rb, ob, gb⟩, hu5⟩
    have HU5 := Lib.hid (HU4.out.trans hu5)
    have H35 := Lib.hid (H34.out.trans hu5)
    have H45 := Lib.hid hu5
    have HBB := Lib.hid (And.intro rb ob)
    have HGB := Lib.hid gb
    have S6 := Lib.hid (eq_F1 _ _ x w5 fb fa rb (HA.out w5 [] H35.out (by simp)))
    obtain ⟨za, zc, rfl, -, -, -⟩ := slF4_open rb
    clear S5 rb ob gb hu5 HU4 H34
    go_wp2_with fail
    refine S6.out.mono ?_
    rintro e w6 ⟨rfl, hu6⟩
    have HU6 := Lib.hid (HU5.out.trans hu6)
    have H56 := Lib.hid hu6
    have S7 := Lib.hid (to_F1 _ f w6 _ HSZ.out (HRX.out w6 HU6.out))
    clear S6 hu6 HU5
    go_wp2_with fail
    refine S7.out.mono ?_
    rintro e w7 ⟨⟨vt, rfl, ft, rt, -, -⟩, hu7⟩
    have HU7 := Lib.hid (HU6.out.trans hu7)
    have H57 := Lib.hid (H56.out.trans hu7)
    have S8 := Lib.hid (eq_F1 _ _ f w7 fx ft (R_F1k.upd HXX.out.1 (H45.out.trans H57.out) (by simp)) rt)
    obtain ⟨ta, tc, rfl, -, -, -⟩ := slF4_open rt
    clear S7 rt hu7 HU6 H56
    go_wp2_with fail
    refine S8.out.mono ?_
    rintro e w8 ⟨rfl, hu8⟩
    have HU8 := Lib.hid (HU7.out.trans hu8)
    have H58 := Lib.hid (H57.out.trans hu8)
    have H48 := Lib.hid (H45.out.trans H58.out)
    have S9 := Lib.hid (mark_F1 _ f 1 w8 fx (by omega) hmf (R_F1k.upd HXX.out.1 H48.out (by simp)) (HXX.out.2.upd H48.out (by simp)))
    have hgf : ¬ 1 + mkF_F1 f < 0 := by omega
    generalize 1 + mkF_F1 f = Mf at *
    clear S8 hu8 HU7 H57
    go_wp2_with fail
    refine S9.out.mono ?_
    rintro e w9 ⟨rfl, -, -, hu9⟩
    have HU9 := Lib.hid (HU8.out.fresh hu9 (fun b h => Or.inl (by have := HGX.out b h; have := HU2'.out.size; omega)))
    have H39 := Lib.hid (show Upd fx w3 w9 from ((H35.out.trans H58.out).mono (by simp)).trans hu9)
    have nfb : ∀ b ∈ fb, b ∉ fx := fun b h h2 => by have := HLX.out b h2; have := HGB.out b h; omega
    have B9 := R_F1k.upd HBB.out.1 ((H58.out.mono (by simp)).trans hu9) nfb
    have O9 := HBB.out.2.upd ((H58.out.mono (by simp)).trans hu9) nfb
    have S10 := Lib.hid (eq_F1 _ _ x w9 fb fa B9 (HA.out w9 fx H39.out HGX.out))
    have HB9 := Lib.hid (And.intro B9 O9)
    clear S9 hu9 B9 O9 nfb HU8 HXX HBB H58 H48 H45 H35
    go_wp2_with fail
    refine S10.out.mono ?_
    rintro e w10 ⟨rfl, hu10⟩
    have HU10 := Lib.hid (HU9.out.trans hu10)
    have H310 := Lib.hid (H39.out.trans (hu10.mono (by simp)))
    have S11 := Lib.hid (mark_F1 _ x 1 w10 fb (by omega) hmk (R_F1k.upd HB9.out.1 hu10 (by simp)) (HB9.out.2.upd hu10 (by simp)))
    clear S10 hu10 HU9 H39 HB9
    go_wp2_with fail
    refine S11.out.mono ?_
    rintro e w11 ⟨rfl, r11, -, hu11⟩
    have HU11 := Lib.hid (HU10.out.fresh hu11 (fun b h => Or.inl (by have := HGB.out b h; have := HU4'.out.size; omega)))
    have H311 := Lib.hid (show Upd (fx ++ fb) w3 w11 from (H310.out.mono (by simp; intro b hb; exact Or.inl hb)).trans (hu11.mono (by simp; intro b hb; exact Or.inr hb)))
    have T4 := Lib.hid (fun W (hu : Upd [] w11 W) => held_F1 _ x 1 W fb (by omega) hmk (R_F1k.upd r11 hu (by simp)))
    have T4' := Lib.hid (T4.out w11 (Upd.refl _ _))
    have hne : ((1 + mkF_F1 x) != (1 + mkF_F1 x)) = false := by simp
    have hge : ¬ 1 + mkF_F1 x < 0 := by omega
    generalize 1 + mkF_F1 x = Mk at *
    clear S11 r11 hu11 HU10 H310
    go_wp2_with fail
    refine T4'.out.mono ?_
    rintro e w12 ⟨rfl, hu12⟩
    have HU12 := Lib.hid (HU11.out.trans hu12)
    have H1112 := Lib.hid hu12
    have S12 := Lib.hid (to_F1 _ f w12 _ HSZ.out (HRX.out w12 HU12.out))
    clear T4' hu12 HU11
    go_wp2_with fail
    refine S12.out.mono ?_
    rintro e w13 ⟨⟨vt, rfl, ft, rt, -, -⟩, hu13⟩
    have HU13 := Lib.hid (HU12.out.trans hu13)
    have H1113 := Lib.hid (H1112.out.trans hu13)
    have S13 := Lib.hid (SI.out w13 vt ft rt (HE.out.upd HU13.out))
    obtain ⟨ta, tc, rfl, -, -, -⟩ := slF4_open rt
    clear S12 rt hu13 HU12 H1112 SI
    go_wp2_with fail
    refine S13.out.mono ?_
    rintro e w14 ⟨⟨vc, rfl, fc, rc, -, -⟩, hu14⟩
    have HU14 := Lib.hid (HU13.out.trans hu14)
    have H1114 := Lib.hid (H1113.out.trans hu14)
    have S14 := Lib.hid (eq_F1 _ _ x w14 fc fa rc (HA.out w14 (fx ++ fb) (H311.out.trans (H1114.out.mono (by simp))) (fun b hb => by
      rcases List.mem_append.1 hb with h | h
      · exact HGX.out b h
      · have := HGB.out b h; have := H34'.out.size; omega)))
    obtain ⟨ca, cc, rfl, -, -, -⟩ := slF4_open rc
    clear S13 rc hu14 HU13 H1113
    go_wp2_with fail
    refine S14.out.mono ?_
    rintro e w15 ⟨rfl, hu15⟩
    have HU15 := Lib.hid (HU14.out.trans hu15)
    have S15 := Lib.hid (T4.out w15 (H1114.out.trans hu15))
    clear S14 T4 hu15 HU14 H1114 H311 HA
    go_wp2_with fail
    refine S15.out.mono ?_
    rintro e w16 ⟨rfl, hu16⟩
    have HU16 := Lib.hid (HU15.out.trans hu16)
    clear S15 hu16
    go_wp2_with fail
    go_ret
    exact ⟨rfl, HU16.out⟩

end Go.Proofs.YtddciieaolaleaaGreatDoor

/-
  The form's reading of lists of nodes.
-/
namespace Go.Proofs.YtddciieaolaleaaGreatDoor
open Go.RowKit Go.ChangeShapes Go.WideShapes Go.Deep

theorem cells4 {w : World} {a : Addr} {cs : List Value} (h : w.cells? 0 a 4 = some cs) : ∃ c0 c1 c2 c3, cs = [c0, c1, c2, c3] ∧ w.cell? a = some c0 ∧ w.cell? (a.add 1) = some c1 ∧ w.cell? (a.add 2) = some c2 ∧ w.cell? (a.add 3) = some c3 := by
  rw [World.cells?, if_pos (Nat.zero_le _), show List.range 4 = [0, 1, 2, 3] from rfl] at h
  simp only [List.mapM_cons, List.mapM_nil, Addr.add, if_true] at h
  cases h0 : w.cell? a with
  | none => simp [h0] at h
  | some c0 =>
    cases h1 : w.cell? (a.add 1) with
    | none => simp [Addr.add] at h1; simp [h0, h1] at h
    | some c1 =>
      cases h2 : w.cell? (a.add 2) with
      | none => simp [Addr.add] at h1 h2; simp [h0, h1, h2] at h
      | some c2 =>
        cases h3 : w.cell? (a.add 3) with
        | none => simp [Addr.add] at h1 h2 h3; simp [h0, h1, h2, h3] at h
        | some c3 =>
          refine ⟨c0, c1, c2, c3, ?_, rfl, rfl, rfl, rfl⟩
          simp [Addr.add] at h1 h2 h3
          simpa [h0, h1, h2, h3] using h.symm

/-- slices of structs of four plain fields. -/
theorem opens_slF4 {α : Type} {P : Program} {t e : TypeId} {e1 e2 e3 e4 : α → Value} {φ : α → Prop} (ht : P.underlying t = some (.slice e)) (hc : P.cellsOf e = 4)
    (h : ∀ {H : Type} {enc : TypeId × Value → H} {w : World} {fuel : Nat} {u v z y : Value} {x : DataW H × List MemPlace}, DataW.trod enc P w 0 (fun _ => true) true fuel e [u, v, z, y] = some x → ∃ a, u = e1 a ∧ v = e2 a ∧ z = e3 a ∧ y = e4 a ∧ φ a) :
    Opens P t (slF 4 (fun x => [e1 x, e2 x, e3 x, e4 x])) (fun xs => ∀ x ∈ xs, φ x) := by
  intro H enc w fuel cs x hx
  rcases open_slice ht hx with ⟨rfl, -⟩ | ⟨a, len, cap, m, n, D, Pl, rfl, -, hl, hm, hmm, -, hel⟩
  · exact ⟨[], [], ⟨_, rfl, flat_nil w 4⟩, by simp⟩
  · have hlm : len ≤ m := by subst hmm; simpa using hl
    rw [hc] at hel
    obtain ⟨l, hll, hlq⟩ := list_choice (fun i (y : α) => w.cell? (a.add (i * 4)) = some (e1 y) ∧ w.cell? ((a.add (i * 4)).add 1) = some (e2 y) ∧ w.cell? ((a.add (i * 4)).add 2) = some (e3 y) ∧ w.cell? ((a.add (i * 4)).add 3) = some (e4 y) ∧ φ y) len (fun i hi => by
      obtain ⟨cs', h1, h2⟩ := hel i (by omega)
      obtain ⟨c0, c1, c2, c3, rfl, g0, g1, g2, g3⟩ := cells4 h1
      obtain ⟨y, rfl, rfl, rfl, rfl, hy⟩ := h h2
      exact ⟨y, g0, g1, g2, g3, hy⟩)
    by_cases h0 : len = 0
    · subst h0
      obtain rfl : l = [] := List.eq_nil_of_length_eq_zero hll
      exact ⟨[], [], ⟨_, rfl, some a, cap, rfl, hl, hm, by simp, Or.inl ⟨rfl, rfl⟩⟩, by simp⟩
    · have hc0 := (hlq 0 l[0] (by simp)).1
      have hs : a.spot = none := by simpa [Addr.add] using World.cell?_spot hc0
      obtain ⟨b, off, spot⟩ := a
      simp at hs
      subst hs
      refine ⟨l, [b], ⟨_, rfl, some ⟨b, off, none⟩, cap, by rw [hll], by omega, hm, by rw [flatMap_four_length], Or.inr ⟨b, off, rfl, rfl, ?_, fun j u hu => ?_⟩⟩, fun x hx => ?_⟩
      · exact World.block_lt_of_cell? w ⟨b, off, none⟩ (by simpa [Addr.add] using hc0)
      · have hj : j < l.length * 4 := by rw [← flatMap_four_length e1 e2 e3 e4]; exact (List.getElem?_eq_some_iff.1 hu).1
        have hi : j / 4 < l.length := by omega
        obtain ⟨g1, g2, g3, g4⟩ := flatMap_four_get e1 e2 e3 e4 l (j / 4) hi
        obtain ⟨q1, q2, q3, q4, -⟩ := hlq (j / 4) l[j / 4] (by simp)
        have ha : (⟨b, off, none⟩ : Addr).add (j / 4 * 4) = ⟨b, off + j / 4 * 4, none⟩ := by simp only [Addr.add]; split <;> simp_all
        rw [ha] at q1 q2 q3 q4
        have hmod : j % 4 = 0 ∨ j % 4 = 1 ∨ j % 4 = 2 ∨ j % 4 = 3 := by omega
        rcases hmod with hmod | hmod | hmod | hmod
        · have e : j / 4 * 4 = j := by omega
          rw [e] at g1 q1
          rw [g1] at hu; cases hu; exact q1
        · have e : j / 4 * 4 + 1 = j := by omega
          rw [e] at g2
          rw [g2] at hu; cases hu
          simp [Addr.add] at q2
          rw [show off + j = off + j / 4 * 4 + 1 from by omega]; exact q2
        · have e : j / 4 * 4 + 2 = j := by omega
          rw [e] at g3
          rw [g3] at hu; cases hu
          simp [Addr.add] at q3
          rw [show off + j = off + j / 4 * 4 + 2 from by omega]; exact q3
        · have e : j / 4 * 4 + 3 = j := by omega
          rw [e] at g4
          rw [g4] at hu; cases hu
          simp [Addr.add] at q4
          rw [show off + j = off + j / 4 * 4 + 3 from by omega]; exact q4
      · obtain ⟨i, hi, rfl⟩ := List.mem_iff_getElem.1 hx
        exact (hlq i _ (by simp)).2.2.2.2

theorem opens_F1 : Opens Tryz.prog 29 R_F1 (fun xs => ∀ x ∈ xs, x.lb.length ≤ maxLen) :=
  opens_slF4 Tryz.underlying29 (by kernel_rfl) (by
    intro H enc w fuel u v z y x hx
    obtain ⟨y0, y1, y2, y3, n, -, -, h0, h1, h2, h3⟩ := Go.Joins.trod_struct4 Tryz.underlying51 hx
    obtain ⟨a, e0, -, -⟩ := DataW.trod_int Tryz.underlying2 h0
    obtain ⟨b, e1, -, -⟩ := DataW.trod_int Tryz.underlying2 h1
    obtain ⟨s, e2, -, hs⟩ := DataW.trod_string Tryz.underlying9 h2
    obtain ⟨d, e3, -⟩ := DataW.trod_bool Tryz.underlying4 h3
    have c1 : Tryz.prog.cellsOf 2 = 1 := by kernel_rfl
    have c2 : Tryz.prog.cellsOf 9 = 1 := by kernel_rfl
    have c3 : Tryz.prog.cellsOf 4 = 1 := by kernel_rfl
    simp [c1, c2, c3] at e0 e1 e2 e3
    exact ⟨⟨a, b, s.data.toList, d⟩, e0, e1, e2, e3, hs⟩)

theorem nds_of {xs : List Nd} (h : ∀ x ∈ xs, x.lb.length ≤ maxLen) : ndsOk xs := fun n hn => by
  have := h n hn
  simp only [maxLen] at this
  omega

end Go.Proofs.YtddciieaolaleaaGreatDoor

/-
  What the listed variables and the world's shape give the walks of labels.
-/
namespace Go.Proofs.YtddciieaolaleaaGreatDoor
open Go.RowKit Go.ChangeShapes

theorem errStar : "*" ++ "errors.errorString" = "*errors.errorString" := by decide
theorem errRow (u : TypeId) (h : Tryz.prog.typeName? 3 u = some "*errors.errorString") : u = 179 :=
  typeName_ptr_named (nm := "errors.errorString") (by rw [errStar]; kernel_rfl) (by kernel_rfl) (by decide) u (by rw [errStar]; exact h)

theorem env_of {W : World} {r1 r2 r3 : List (String × DataW Unit)} {d : DataW Unit} {x1 x2 : List UInt8} (hd : d = Lib.tabData .u64 Lib.pow10Tab)
    (h1 : laidMet Tryz.prog (("internal/strconv.uint64pow10", d) :: r1) W)
    (h2 : laidMet Tryz.prog (("strconv.ErrRange", .iface "*errors.errorString" (.ptr (.agg [.lit (.string x1)]))) :: r2) W)
    (h3 : laidMet Tryz.prog (("strconv.ErrSyntax", .iface "*errors.errorString" (.ptr (.agg [.lit (.string x2)]))) :: r3) W)
    (hs : W.ShapedOpen Tryz.prog) : Env W := by
  subst hd
  refine ⟨?_, ?_, ?_, ?_⟩
  · exact cell_of_shapedOpen_int (g := 1) (zero := #[.int .i64 0]) (t := 3) hs (of_decide_eq_true (by kernel_rfl)) (by kernel_rfl) rfl (by kernel_rfl) (by kernel_rfl) Tryz.underlying3
  · exact Lib.tabIs_of_head (g := 0) (t := 130) (e := 120) (n := 20) (by kernel_rfl) (by kernel_rfl) Tryz.underlying130 Tryz.underlying120 (by kernel_rfl) (by kernel_rfl) h1
  · obtain ⟨a, s, hv, -⟩ := laid_sentinel (g := 4) (ti := 138) (tp := 179) (te := 181) (ts := 9) h3 (by kernel_rfl) (by kernel_rfl) Tryz.underlying138 errRow Tryz.underlying179 Tryz.underlying181 rfl rfl Tryz.underlying9 (by kernel_rfl) (by kernel_rfl)
    exact ⟨_, _, hv⟩
  · obtain ⟨a, s, hv, -⟩ := laid_sentinel (g := 5) (ti := 138) (tp := 179) (te := 181) (ts := 9) h2 (by kernel_rfl) (by kernel_rfl) Tryz.underlying138 errRow Tryz.underlying179 Tryz.underlying181 rfl rfl Tryz.underlying9 (by kernel_rfl) (by kernel_rfl)
    exact ⟨_, _, hv⟩

/-- the wrap with a condition on the world, the world's shape kept. -/
theorem handed_and_shaped {H : Type} {enc : TypeId × Value → H} {a : Assume} {C : Checked} {os : Os} {f : FuncId} {fn : Func} {s : ChangeSpec} {conds : List PathCond} {apart fresh handsOn twice : Bool} {X : World → Array Value → Prop}
    (hX : ∀ (w w' : World) (args : Array Value), w.heap = w'.heap → X w args → X w' args)
    (own : ownKnob C.prog.godebug = none) (started : os.Started) (noInit : C.prog.inits.idxOf? f = none) (hfn : C.prog.funcs[f]? = some fn)
    (witness : ∃ (w : World) (tape : Tape) (i : Input), w.os = os ∧ (w.forCall tape i).Shaped C.prog ∧ i.vars = [] ∧ Input.okWide C.prog (w.forCall tape i) .any w.heap.size f i ∧
      ((s.pre enc C.prog fn conds apart (w.forCall tape i).memory i.args ∧ X (w.forCall tape i).memory i.args) ∧ sizedMet enc C.prog fn (OpenSpec.ofChange s) apart (w.forCall tape i).memory i.args) ∧ a.holds C.prog (lone (Frame.enter C.prog f i.args CallKind.normal) [] (w.forCall tape i)))
    (contract : ∀ (W : World) (base : Nat) (args : Array Value) (ds gs : List (DataW H)) (before : List MemPlace),
      (∀ (j : Nat) t v, fn.params[j]? = some t → args[j]? = some v → Value.okWide C.prog W .any base t v) →
      DataW.Whole enc C.prog fn.params.toList s.vars apart W args.toList ds gs before →
      conds.all (PathCond.test C.prog ⟨fn.params.toList, ds, s.plain.varTypes C.prog, gs⟩) = true → X W args →
      W.ShapedOpen C.prog →
      Calls C.prog f args W fun e W' => ∃ v, e = .returned v ∧ s.post enc C.prog fn apart fresh handsOn twice W args v W') :
    ReturnsInHanded a C os f .any (fun w args => (s.pre enc C.prog fn conds apart w args ∧ X w args) ∧ sizedMet enc C.prog fn (OpenSpec.ofChange s) apart w args) (s.post enc C.prog fn apart fresh handsOn twice) := by
  refine returnsInHanded_of_calls own started noInit witness ?_
  intro w tape i _ hsh _ hok hpre _
  obtain ⟨_, _, _, fn', hfn', _, _, _, _, hval⟩ := hok
  have e : fn' = fn := Option.some.inj (hfn'.symm.trans hfn)
  subst e
  obtain ⟨⟨⟨ds, gs, before, hw, hc⟩, hx⟩, hz⟩ := hpre
  have hw' := DataW.Whole.of_heap (w' := w.forCall tape i) (by rfl) hw
  refine (contract (w.forCall tape i) w.heap.size i.args ds gs before hval hw' hc (hX _ _ _ (by rfl) hx) hsh).mono fun e W' ⟨v, he, hp⟩ => ?_
  subst he
  exact ChangeSpec.post_blind hp

end Go.Proofs.YtddciieaolaleaaGreatDoor
