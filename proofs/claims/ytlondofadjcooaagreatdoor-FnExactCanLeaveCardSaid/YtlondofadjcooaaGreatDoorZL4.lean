/-
  Texts joined in one file: BisV, BisA, BisB, BisE, BisG, LvP, SortG, SortGc, BisN, BisX, BisZ, LvQ, LvI1, LvI2, LvI3, LvI4, LvI5, LvI6, LvI7, EncN.
-/
import Derived.Test.YtlondofadjcooaaGreatDoorZL1
import Derived.Test.YtlondofadjcooaaGreatDoorZL2
import Derived.Test.YtlondofadjcooaaGreatDoorZL3
import Derived.Deep.RegionLaw
import Derived.Test.YtlondofadjcooaaGreatDoorShelf
import Derived.Laws.EntriesVeiled
import Derived.Laws.CopyOwn
/-
  Relations between systems, the program's follow: its result is sorted already.
-/
namespace Go.Proofs.YtlondofadjcooaaGreatDoor
open Go.RowKit

theorem folF_step (T : Sys) (y : Int) (s : List UInt8) (i : Nat) (h : i < T.eds.length) :
    ((T.eds.take (i + 1)).filter (folP T [y] s)).map Ed.to = ((T.eds.take i).filter (folP T [y] s)).map Ed.to ++ (if folP T [y] s T.eds[i] then [T.eds[i].to] else []) := by
  rw [List.take_succ_eq_append_getElem h, List.filter_append, List.map_append]
  congr 1
  cases hp : folP T [y] s T.eds[i] <;> simp [hp]

set_option maxRecDepth 20000 in
set_option maxHeartbeats 8000000 in
theorem followI (T : Sys) (v1 v2 v3 : Value) (y : Int) (s : List UInt8) (w : World) (f1 f2 f3 : List Nat) (h1 : RS f1 w [v1] T.labs) (h2 : R_E1 f2 w [v2] T.eds) (h3 : R1 f3 w [v3] [y]) (hok : sysOk T = true) :
    Calls Tryz.prog 112 #[.agg #[ei T.st, ei T.ini, v1, v2], v3, es s] w fun e w' => (∃ v' f', e = .returned v' ∧ R1 f' w' [v'] (folF T [y] s)) ∧ Upd [] w w' := by
  obtain ⟨i1, ki, kz0, kz1, kz2⟩ := info_parts Tryz.info2
  obtain ⟨-, -, hlabs, heds, -, -⟩ := sys_parts hok
  have hlab := Lib.hid (sys_labs hok)
  have HRI := Lib.hid (And.intro (folF_rising hok y s) (folF_le hok y s))
  obtain ⟨la, ca, rfl, la1, la2, hca⟩ := slF1_open h1
  obtain ⟨a, cap, rfl, l1, l2, hc⟩ := slF3_open h2
  unfold maxLen at l2 la2
  have HCA := Lib.hid hca
  have HC := Lib.hid hc
  have HCO := Lib.hid (fun (x : Int) W (hu : Upd [] w W) => containsI v3 [y] x W f3 (R1k.upd h3 hu (by simp)))
  obtain ⟨wA, hwA⟩ : ∃ wA, wA = w.alloc (.cells #[ei T.st, ei T.ini, .slice la T.labs.length ca, .slice a T.eds.length cap] 30) := ⟨_, rfl⟩
  have HUA := Lib.hid (show Upd [] w wA by rw [hwA]; exact (Upd.refl _ _).alloc _)
  have Z2 := Lib.hid (fun W (hu : Upd [] wA W) => hu.keep (show wA.cell? ⟨w.heap.size, 2, none⟩ = some (.slice la T.labs.length ca) by rw [hwA]; exact cell_new w _ _ _ rfl 2 _ rfl))
  have z3 : wA.cell? ⟨w.heap.size, 3, none⟩ = some (.slice a T.eds.length cap) := by rw [hwA]; exact cell_new w _ _ _ rfl 3 _ rfl
  have hszA : w.heap.size < wA.heap.size := by rw [hwA]; simp
  obtain ⟨BX, hBX⟩ : ∃ BX, BX = w.heap.size := ⟨_, rfl⟩
  rw [← hBX] at Z2 z3
  have HBX := Lib.hid (show BX < wA.heap.size by omega)
  have HF := Lib.hid (show folF T [y] s = ((T.eds.take T.eds.length).filter (folP T [y] s)).map Ed.to by rw [List.take_length]; rfl)
  have HST := Lib.hid (folF_step T y s)
  have HP := Lib.hid (fun e => show folP T [y] s e = (T.labs.getD e.lb.toNat [] == s && [y].contains e.fr) from rfl)
  have HL := Lib.hid (fun k => show (((T.eds.take k).filter (folP T [y] s)).map Ed.to).length ≤ 300 by
    rw [List.length_map]
    refine Nat.le_trans (List.length_filter_le _ _) ?_
    rw [List.length_take]; omega)
  clear h1 h2 h3 hc hca hok
  generalize folF T [y] s = FF at *
  generalize folP T [y] s = FP at *
  go_enter Tryz.func112, Tryz.ntmps112
  go_upto_region 1 with (fail)
  rw [← hwA, ← hBX]
  clear hwA hBX hszA
  go_wp2_with fail
  go_loopw [7, 13] (fun ov iv wr => ∃ i : Nat, i ≤ T.eds.length ∧ iv = .int .i64 i ∧ Hid (wr.ownsRow wA.heap.size 2 1 ov (((T.eds.take i).filter FP).map Ed.to).length ((((T.eds.take i).filter FP).map Ed.to).map ei)) ∧ Hid (Upd [] wA wr)) (fun _ iv _ => T.eds.length - (intOf iv).toNat)
  case atStart => exact ⟨0, Nat.zero_le _, rfl, Lib.hid (World.ownsRow_nil _ _ _ _), Lib.hid (Upd.refl _ _)⟩
  case round =>
    clear z3
    obtain ⟨wo, rfl⟩ : ∃ wo : World, wo = wr := ⟨_, rfl⟩
    obtain ⟨i, hi, rfl, HO, HU⟩ := hrel
    obtain ⟨oa, oc, hov⟩ := ownsRow_form HO.out
    subst hov
    by_cases hlt : i < T.eds.length
    · obtain ⟨b, o, rfl, -, -, p1, p2, p3⟩ := HC.out i hlt
      have q1 := HU.out.keep (HUA.out.keep p1)
      have q2 := HU.out.keep (HUA.out.keep p2)
      have q3 := HU.out.keep (HUA.out.keep p3)
      have z2 := Z2.out wo HU.out
      have HS := Lib.hid (HST.out i hlt)
      have hpe := HP.out T.eds[i]
      have hll := HL.out i
      have hil : (i : Int) < (T.eds.length : Int) := by omega
      have hlb := hlab.out T.eds[i] (List.getElem_mem hlt)
      clear p1 p2 p3
      generalize ((T.eds.take i).filter FP).map Ed.to = P at *
      generalize T.eds[i] = x at *
      obtain ⟨x1, x2, x3⟩ := x
      simp only at q1 q2 q3 HS hpe hlb
      obtain ⟨le, rfl⟩ : ∃ N : Nat, x2 = N := ⟨x2.toNat, by omega⟩
      have hle : le < T.labs.length := by omega
      have hlei : (le : Int) < (T.labs.length : Int) := by omega
      obtain ⟨ba, obx, rfl, -, -, pA⟩ := HCA.out le hle
      have pA := HU.out.keep (HUA.out.keep pA)
      have gA : T.labs.getD le [] = T.labs[le] := by rw [List.getD_eq_getElem?_getD, List.getElem?_eq_getElem hle]; rfl
      rw [Int.toNat_natCast, gA] at hpe
      clear gA hlb
      generalize T.labs[le] = sa at *
      have HPE := Lib.hid hpe
      clear hpe
      obtain ⟨wB, hwB⟩ : ∃ wB, wB = wo.alloc (.cells #[.int .i64 x1, .int .i64 le, .int .i64 x3] 55) := ⟨_, rfl⟩
      have hown0 : wB.ownsRow wA.heap.size 2 1 (.slice oa P.length oc) P.length (P.map ei) := by rw [hwB]; exact HO.out.alloc _
      have UB : Upd [] wo wB := by rw [hwB]; exact (Upd.refl _ _).alloc _
      have HUB := Lib.hid (HU.out.trans UB)
      have t0 : wB.cell? ⟨wo.heap.size, 0, none⟩ = some (ei x1) := by rw [hwB]; exact cell_new wo _ _ _ rfl 0 _ rfl
      have t1 : wB.cell? ⟨wo.heap.size, 1, none⟩ = some (ei le) := by rw [hwB]; exact cell_new wo _ _ _ rfl 1 _ rfl
      have t2 : wB.cell? ⟨wo.heap.size, 2, none⟩ = some (ei x3) := by rw [hwB]; exact cell_new wo _ _ _ rfl 2 _ rfl
      have r2 := UB.keep z2
      have rA := UB.keep pA
      have SC := Lib.hid (HCO.out x1 wB (HUA.out.trans HUB.out))
      have hszB : wA.heap.size ≤ wB.heap.size := HUB.out.size
      obtain ⟨BE, hBE⟩ : ∃ BE, BE = wo.heap.size := ⟨_, rfl⟩
      rw [← hBE] at t0 t1 t2
      go_upto_region 5 with (fail)
      rw [← hwB, ← hBE]
      clear hwB hBE HO HU q1 q2 q3 z2 pA UB HCO
      cases hs : (sa == s) with
      | false =>
        have HN := Lib.hid (show (((T.eds.take (i + 1)).filter FP).map Ed.to) = P by rw [HS.out, HPE.out, hs]; simp)
        clear HS HPE SC
        go_wp2_with fail
        go_roundw
        case rel => exact ⟨i + 1, by omega, by go_num, Lib.hid (by rw [HN.out]; exact hown0), HUB⟩
        case measure => simp [intOf]; omega
      | true =>
        go_wp2_with fail
        refine SC.out.mono ?_
        rintro e w1 ⟨rfl, rfl⟩
        clear SC
        cases hy : [y].contains x1 with
        | false =>
          have HN := Lib.hid (show (((T.eds.take (i + 1)).filter FP).map Ed.to) = P by rw [HS.out, HPE.out, hs, hy]; simp)
          clear HS HPE hs hy
          go_wp2_with fail
          go_roundw
          case rel => exact ⟨i + 1, by omega, by go_num, Lib.hid (by rw [HN.out]; exact hown0), HUB⟩
          case measure => simp [intOf]; omega
        | true =>
          have HN := Lib.hid (show (((T.eds.take (i + 1)).filter FP).map Ed.to) = P ++ [x3] by rw [HS.out, HPE.out, hs, hy]; simp)
          clear HS HPE hs hy
          go_wp2_with (first
            | (at_builtin; refine wpList_append_tight _ rfl _ _ 26 rfl wA.heap.size 2 i1 (.int .i64 0) 1 8 Tryz.underlying26 ki kz0 kz1 kz2 rfl (by decide) _ _ _ rfl (hown0.alloc _) ⟨wB.heap.size, 0, none⟩ 1 1 [ei x3] rfl rfl (fun j u hj => by rw [addr_add]; exact cell_new wB #[ei x3] _ _ rfl _ _ (by simpa using hj)) (by simp [Value.oneCell']) (by unfold maxLen; omega) (by omega) (by simp; omega) ?_)
            | fail)
          intro v4 w4 hown4 hg4 ht4
          have HO4 := Lib.hid (show w4.ownsRow wA.heap.size 2 1 v4 (P ++ [x3]).length ((P ++ [x3]).map ei) by
            rw [List.length_append, List.map_append]; simpa using hown4)
          have HU4 := Lib.hid ((HUB.out.alloc (.cells #[ei x3] 2)).grown hg4 (fun b hb => Or.inl ((hown0.lt b hb).1)))
          clear hown4 hg4 ht4 hown0 t0 t1 t2 HUB r2 rA
          go_wp2_with fail
          go_roundw
          case rel => exact ⟨i + 1, by omega, by go_num, Lib.hid (by rw [HN.out]; exact HO4.out), HU4⟩
          case measure => simp [intOf]; omega
    · obtain rfl : i = T.eds.length := by omega
      have HOF := HO.out
      rw [← HF.out] at HOF
      obtain ⟨f9, r9, -, -⟩ := New.ofOwns HOF
      have S1 := Lib.hid (sortI _ FF wo f9 r9 HRI.out.1 HRI.out.2)
      have S2 := Lib.hid (fun W (hu : Upd [] wo W) => compactI _ FF W f9 (R1k.upd r9 hu (by simp)) HRI.out.1 HRI.out.2)
      have HR9 := Lib.hid r9
      rw [← HF.out]
      clear HO HOF r9 HRI
      go_wp2_with fail
      refine S1.out.mono ?_
      rintro e w1 ⟨rfl, hu1⟩
      have T2 := Lib.hid (S2.out w1 hu1)
      have U1 := Lib.hid hu1
      clear S1 S2 hu1
      go_wp2_with fail
      refine T2.out.mono ?_
      rintro e w2 ⟨rfl, n2, rfl⟩
      clear T2
      go_wp2_with fail
      go_ret
      exact ⟨⟨_, f9, rfl, R1k.upd HR9.out (U1.out.drewN n2) (by simp)⟩, HUA.out.trans (HU.out.trans (U1.out.drewN n2))⟩

end Go.Proofs.YtlondofadjcooaaGreatDoor

/-
  Relations between systems, the program's: what answers an edge is a function's value; the relation turned round.
-/
namespace Go.Proofs.YtlondofadjcooaaGreatDoor
open Go.RowKit Go.Maps

theorem Upd.setRow {f : List Nat} {w w1 : World} (h : Upd f w w1) {g : Nat} (hg : w.heap.size ≤ g ∨ g ∈ f) (cs : Array Value) : Upd f w (w1.setRow g cs) :=
  h.fresh (f := [g]) ⟨rfl, rfl, rfl, by simp, fun k _ hf => setRow_other _ _ _ _ (by simpa using hf)⟩ (by simpa using hg)
/-- two valid systems as they lie. -/
structure Two (w : World) (A B : Sys) (a1 a2 b1 b2 : Value) (f1 f2 f3 f4 : List Nat) : Prop where
  la : RS f1 w [a1] A.labs
  ea : R_E1 f2 w [a2] A.eds
  lb : RS f3 w [b1] B.labs
  eb : R_E1 f4 w [b2] B.eds
  oka : sysOk A = true
  okb : sysOk B = true
theorem Two.upd {w w1 : World} {A B : Sys} {a1 a2 b1 b2 : Value} {f1 f2 f3 f4 : List Nat} (h : Two w A B a1 a2 b1 b2 f1 f2 f3 f4) (hu : Upd [] w w1) : Two w1 A B a1 a2 b1 b2 f1 f2 f3 f4 :=
  ⟨RSk.upd h.la hu (by simp), R_E1k.upd h.ea hu (by simp), RSk.upd h.lb hu (by simp), R_E1k.upd h.eb hu (by simp), h.oka, h.okb⟩
/-- a function's value that tells of two states whether they are related. -/
def HasC (hv : Value) (sa sb : Int) (H : Int → Int → Bool) (w : World) : Prop :=
  ∃ (g : FuncId) (caps : Array Value), hv = .func (.func g) #[] caps ∧ (∀ args W, Sem.run Tryz.prog (callFunc g args) W = .ok (.enter g args) W) ∧
    ∀ (W : World) (x y : Int), Upd [] w W → 0 ≤ x → x < sa → 0 ≤ y → y < sb → Calls Tryz.prog g (#[.int .i64 x, .int .i64 y] ++ caps) W fun e w' => e = .returned (.bool (H x y)) ∧ Upd [] W w'
theorem HasC.upd {hv : Value} {sa sb : Int} {H : Int → Int → Bool} {w w1 : World} (h : HasC hv sa sb H w) (hu : Upd [] w w1) : HasC hv sa sb H w1 := by
  obtain ⟨g, caps, h1, h2, h3⟩ := h
  exact ⟨g, caps, h1, h2, fun W x y hu2 => h3 W x y (hu.trans hu2)⟩

end Go.Proofs.YtlondofadjcooaaGreatDoor

/-
  Relations between systems, the program's answered: all edges from a state are answered. (The drawn region's way is printed by tools/genbisb.py.)
-/
namespace Go.Proofs.YtlondofadjcooaaGreatDoor
open Go.RowKit

theorem sys_eds {x : Sys} (h : sysOk x = true) : ∀ e ∈ x.eds, (0 ≤ e.fr ∧ e.fr < x.st) ∧ (0 ≤ e.to ∧ e.to < x.st) := by
  intro e he
  unfold sysOk at h
  simp only [Bool.and_eq_true] at h
  obtain ⟨i, hi, rfl⟩ := List.getElem_of_mem he
  have := allF_get h.2 i (by omega) (by omega)
  rw [edP_at _ _ hi] at this
  simp only [Bool.and_eq_true] at this
  have r1 := inB_true this.1.1.1
  have r2 := inB_true this.1.1.2
  omega

end Go.Proofs.YtlondofadjcooaaGreatDoor

/-
  Relations between systems, the program's holds: all pairs of a set are gone through, in whatever order. (The drawn region's ways are printed by tools/genbise.py.)
-/
namespace Go.Proofs.YtlondofadjcooaaGreatDoor
open Go.RowKit Go.Maps

end Go.Proofs.YtlondofadjcooaaGreatDoor

/-
  Relations between systems, the program's strongly, related and certificate.
-/
namespace Go.Proofs.YtlondofadjcooaaGreatDoor
open Go.RowKit Go.Maps

theorem folF_bd {T : Sys} (h : sysOk T = true) {ys : List Int} {s : List UInt8} : ∀ u ∈ folF T ys s, 0 ≤ u ∧ u < T.st := by
  intro u hu
  unfold folF at hu
  obtain ⟨e, he, rfl⟩ := List.mem_map.1 hu
  exact (sys_eds h e (List.mem_filter.1 he).1).2

end Go.Proofs.YtlondofadjcooaaGreatDoor

/-
  From which pairs of states of a model and a property the property can be left, plainly.
-/
namespace Go.Proofs.YtlondofadjcooaaGreatDoor
open Go.RowKit

/-- the i-th edge is not internal, and the one ahead of it has another state or label. -/
def oneAt (x : Sys) (i : Nat) : Bool :=
  !((x.eds.getD i ⟨0, 0, 0⟩).lb == 0) && !(decide (0 < i) && (x.eds.getD (i - 1) ⟨0, 0, 0⟩).fr == (x.eds.getD i ⟨0, 0, 0⟩).fr && (x.eds.getD (i - 1) ⟨0, 0, 0⟩).lb == (x.eds.getD i ⟨0, 0, 0⟩).lb)
/-- no state has two edges with one label, and no edge is internal. -/
def oneF (x : Sys) : Bool := allF (oneAt x) 0 x.eds.length
/-- the state behind a label, -1 for none. -/
def stF (P : Sys) (y : Int) (s : List UInt8) : Int := (folF P [y] s).headD (-1)
/-- the state of the property behind an edge of the model, -1 if it is left. -/
def nxF (T P : Sys) (y : Int) (e : Ed) : Int := if e.lb = 0 then y else stF P y (T.labs.getD e.lb.toNat [])
/-- the property can be left. -/
inductive Lv (T P : Sys) : Int → Int → Prop
  | out (e : Ed) (y : Int) (he : e ∈ T.eds) (h : nxF T P y e < 0) : Lv T P e.fr y
  | go (e : Ed) (y : Int) (he : e ∈ T.eds) (h : 0 ≤ nxF T P y e) (hl : Lv T P e.to (nxF T P y e)) : Lv T P e.fr y
theorem stF_bd {P : Sys} (h : sysOk P = true) (y : Int) (s : List UInt8) : -1 ≤ stF P y s ∧ stF P y s < P.st := by
  unfold stF
  have hst := (sys_parts h).1
  cases hf : folF P [y] s with
  | nil => simp; omega
  | cons a r =>
    have := folF_bd h (ys := [y]) (s := s) a (by rw [hf]; simp)
    simp; omega
theorem nxF_bd {T P : Sys} (h : sysOk P = true) {y : Int} (hy : 0 ≤ y ∧ y < P.st) (e : Ed) : -1 ≤ nxF T P y e ∧ nxF T P y e < P.st := by
  unfold nxF
  split
  · omega
  · exact stF_bd h y _
theorem ed_bd {T : Sys} (h : sysOk T = true) {e : Ed} (he : e ∈ T.eds) : (0 ≤ e.fr ∧ e.fr < T.st) ∧ (0 ≤ e.to ∧ e.to < T.st) ∧ 0 ≤ e.lb ∧ e.lb < T.labs.length := by
  obtain ⟨i, hi, rfl⟩ := List.mem_iff_getElem.1 he
  have h1 : edP T i = true := allF_get (by unfold sysOk at h; simp only [Bool.and_eq_true] at h; exact h.2) i (Nat.zero_le _) (by omega)
  rw [edP_at T i hi] at h1
  simp only [Bool.and_eq_true] at h1
  have a := inB_true h1.1.1.1
  have b := inB_true h1.1.1.2
  have c := inB_true h1.1.2
  omega

/-- a pair is to be marked. -/
def chF (T P : Sys) (f : Nat → Nat → Bool) (x y : Nat) : Bool :=
  T.eds.any (fun e => e.fr == (x : Int) && (decide (nxF T P (y : Int) e < 0) || f e.to.toNat (nxF T P (y : Int) e).toNat))
theorem ch_sound {T P : Sys} (hT : sysOk T = true) {f : Nat → Nat → Bool} (hs : ∀ x y : Nat, f x y = true → Lv T P x y) {x y : Nat} (h : chF T P f x y = true) : Lv T P x y := by
  unfold chF at h
  rw [List.any_eq_true] at h
  obtain ⟨e, he, hp⟩ := h
  simp only [Bool.and_eq_true, Bool.or_eq_true, beq_iff_eq, decide_eq_true_eq] at hp
  obtain ⟨h1, h2⟩ := hp
  rw [← h1]
  by_cases hn : nxF T P (y : Int) e < 0
  · exact Lv.out e y he hn
  · rcases h2 with h2 | h2
    · exact absurd h2 hn
    · have h3 := hs _ _ h2
      have h4 := ed_bd hT he
      rw [Int.toNat_of_nonneg (by omega), Int.toNat_of_nonneg (by omega)] at h3
      exact Lv.go e y he (by omega) h3
theorem ch_closed {T P : Sys} (hT : sysOk T = true) (hP : sysOk P = true) {f : Nat → Nat → Bool} (hc : ∀ x y : Nat, (x : Int) < T.st → (y : Int) < P.st → chF T P f x y = true → f x y = true) :
    ∀ {x y : Int}, Lv T P x y → 0 ≤ y ∧ y < P.st → f x.toNat y.toNat = true := by
  intro x y h
  induction h with
  | out e y he h =>
    intro hy
    have h4 := ed_bd hT he
    refine hc _ _ (by omega) (by omega) ?_
    unfold chF
    rw [List.any_eq_true]
    refine ⟨e, he, ?_⟩
    rw [Int.toNat_of_nonneg (by omega), Int.toNat_of_nonneg hy.1]
    simp [h]
  | go e y he h hl ih =>
    intro hy
    have h4 := ed_bd hT he
    have h5 := nxF_bd (T := T) hP hy e
    have h6 := ih ⟨h, h5.2⟩
    refine hc _ _ (by omega) (by omega) ?_
    unfold chF
    rw [List.any_eq_true]
    refine ⟨e, he, ?_⟩
    rw [Int.toNat_of_nonneg (by omega), Int.toNat_of_nonneg hy.1]
    simp [h6]
open Classical in
/-- which pairs can leave. -/
noncomputable def lvF (T P : Sys) (x y : Nat) : Bool := decide (Lv T P (x : Int) (y : Int))
open Classical in
theorem lv_ext {T P : Sys} (hT : sysOk T = true) (hP : sysOk P = true) {f : Nat → Nat → Bool} (hs : ∀ x y : Nat, f x y = true → Lv T P x y)
    (hc : ∀ x y : Nat, (x : Int) < T.st → (y : Int) < P.st → chF T P f x y = true → f x y = true) (x y : Nat) (hy : (y : Int) < P.st) : f x y = lvF T P x y := by
  unfold lvF
  rw [Bool.eq_iff_iff, decide_eq_true_eq]
  constructor
  · exact hs x y
  · intro h
    have := ch_closed hT hP hc h ⟨by omega, hy⟩
    simpa using this

/-- a row of pairs, all pairs of n rows of m. -/
def allR (m : Nat) (f : Nat → Nat → Bool) (i : Nat) : List (List Int) := (List.range i).flatMap fun a => rowTo f a m
/-- the pairs in one row. -/
def flatR (m : Nat) (f : Nat → Nat → Bool) (k : Nat) : List (List Int) := (List.range k).flatMap fun q => if f (q / m) (q % m) then [[((q / m : Nat) : Int), ((q % m : Nat) : Int)]] else []
theorem flatR_add (m : Nat) (f : Nat → Nat → Bool) (hm : 0 < m) (i : Nat) : ∀ k, k ≤ m → flatR m f (i * m + k) = flatR m f (i * m) ++ rowTo f i k
  | 0, _ => by simp [rowTo]
  | k + 1, h => by
    have ih := flatR_add m f hm i k (by omega)
    have e1 : (i * m + k) / m = i := by rw [Nat.add_comm, Nat.add_mul_div_right _ _ hm, Nat.div_eq_of_lt (by omega), Nat.zero_add]
    have e2 : (i * m + k) % m = k := by rw [Nat.add_comm, Nat.add_mul_mod_self_right, Nat.mod_eq_of_lt (by omega)]
    have s1 : flatR m f (i * m + k + 1) = flatR m f (i * m + k) ++ (if f i k then [[(i : Int), (k : Int)]] else []) := by
      unfold flatR
      rw [List.range_succ, List.flatMap_append, List.flatMap_cons, List.flatMap_nil, List.append_nil, e1, e2]
    have s2 : rowTo f i (k + 1) = rowTo f i k ++ (if f i k then [[(i : Int), (k : Int)]] else []) := by
      unfold rowTo
      rw [List.range_succ, List.flatMap_append, List.flatMap_cons, List.flatMap_nil, List.append_nil]
    rw [← Nat.add_assoc, s1, ih, s2, List.append_assoc]
theorem flatR_all (m : Nat) (f : Nat → Nat → Bool) (hm : 0 < m) : ∀ n, flatR m f (n * m) = allR m f n
  | 0 => by simp [flatR, allR]
  | n + 1 => by
    have ih := flatR_all m f hm n
    rw [Nat.add_mul, Nat.one_mul, flatR_add m f hm n m (Nat.le_refl _), ih]
    unfold allR
    rw [List.range_succ, List.flatMap_append, List.flatMap_cons, List.flatMap_nil, List.append_nil]
/-- what both calls give. -/
noncomputable def leaveF (T P : Sys) : List (List Int) × Int :=
  if sysOk T = true ∧ sysOk P = true then (if oneF P = true then (allR P.st.toNat (lvF T P) T.st.toNat, 0) else ([], 6)) else ([], 1)
end Go.Proofs.YtlondofadjcooaaGreatDoor

/-
  The library's sort of numbers, at whatever list (the shelf's contract, told as a reading).
-/
namespace Go.Proofs.YtlondofadjcooaaGreatDoor
open Go.RowKit

/-- a slice that points to an element of a block, if to anything. -/
def NoSpot (v : Value) : Prop := ∀ p n c, v = .slice (some p) n c → p.spot = none
theorem NoSpot.mk (b off n c : Nat) : NoSpot (.slice (some ⟨b, off, none⟩) n c) := by
  intro p n' c' h; cases h; rfl
end Go.Proofs.YtlondofadjcooaaGreatDoor

/-
  A copy of a list of numbers (the shelf's contract, told as a reading).
-/
namespace Go.Proofs.YtlondofadjcooaaGreatDoor
open Go.RowKit

end Go.Proofs.YtlondofadjcooaaGreatDoor

/-
  Relations between systems, the program's follow at whatever states; the states that internal edges reach.
-/
namespace Go.Proofs.YtlondofadjcooaaGreatDoor
open Go.RowKit

theorem r1_one (w : World) (y : Int) (B : Nat) (hB : w.heap.size = B) : R1 [B] (w.alloc (.cells #[ei y] 2)) [.slice (some ⟨B, 0, none⟩) 1 1] [y] := by
  refine ⟨_, rfl, some ⟨B, 0, none⟩, 1, rfl, Nat.le_refl _, by unfold maxLen; omega, rfl, Or.inr ⟨B, 0, rfl, rfl, by simp; omega, fun j u hj => ?_⟩⟩
  rw [show (⟨B, 0 + j, none⟩ : Addr) = ⟨B, j, none⟩ by simp]
  exact cell_new w _ _ _ hB j u (by simpa using hj)

/-- an internal edge. -/
def TauS (T : Sys) (k j : Int) : Prop := j ∈ folF T [k] tauL
/-- what internal edges reach. -/
inductive ReachT (T : Sys) : Int → Int → Prop
  | refl (k : Int) : ReachT T k k
  | step {k j l : Int} : ReachT T k j → TauS T j l → ReachT T k l
theorem folF_bd2 {T : Sys} (h : sysOk T = true) {ys : List Int} {s : List UInt8} : ∀ u ∈ folF T ys s, 0 ≤ u ∧ u < T.st := by
  intro u hu
  unfold folF at hu
  obtain ⟨e, he, rfl⟩ := List.mem_map.1 hu
  have h2 := (List.mem_filter.1 he).1
  unfold sysOk at h
  simp only [Bool.and_eq_true] at h
  obtain ⟨i, hi, rfl⟩ := List.getElem_of_mem h2
  have := allF_get h.2 i (by omega) (by omega)
  rw [edP_at _ _ hi] at this
  simp only [Bool.and_eq_true] at this
  have r2 := inB_true this.1.1.2
  omega
theorem nodup_le : ∀ (n : Nat) (L : List Int), L.Nodup → (∀ k ∈ L, 0 ≤ k ∧ k < n) → L.length ≤ n
  | 0, L, _, hb => by
    cases L with
    | nil => simp
    | cons x l => have := hb x (by simp); omega
  | n + 1, L, hn, hb => by
    have h1 := nodup_le n (L.erase (n : Int)) (hn.erase _) (fun k hk => by
      have h2 := (List.Nodup.mem_erase_iff hn).1 hk
      have h3 := hb k h2.2
      have : k ≠ n := h2.1
      omega)
    rw [List.length_erase] at h1
    split at h1 <;> omega

/-- the list of states under way, closed for its first i. -/
structure IntInv (T : Sys) (xs L : List Int) (i : Nat) : Prop where
  nd : L.Nodup
  bd : ∀ k ∈ L, 0 ≤ k ∧ k < T.st
  base : ∀ x ∈ xs, x ∈ L
  from' : ∀ k ∈ L, ∃ x ∈ xs, ReachT T x k
  shut : ∀ k ∈ L.take i, ∀ j, TauS T k j → j ∈ L
theorem IntInv.len {T : Sys} {xs L : List Int} {i : Nat} (h : IntInv T xs L i) (hs : 1 ≤ T.st ∧ T.st ≤ 40) : L.length ≤ 40 := by
  have := nodup_le T.st.toNat L h.nd (fun k hk => by have := h.bd k hk; omega)
  omega
theorem IntInv.push {T : Sys} {xs L : List Int} {i : Nat} (h : IntInv T xs L i) (hok : sysOk T = true) {y z : Int} (hi : i ≤ L.length) (hy : y ∈ L) (hz : TauS T y z) (hn : z ∉ L) : IntInv T xs (L ++ [z]) i := by
  refine ⟨?_, ?_, ?_, ?_, ?_⟩
  · rw [List.nodup_append]
    exact ⟨h.nd, by simp, fun a ha b hb => by simp at hb; subst hb; exact fun e => hn (e ▸ ha)⟩
  · intro k hk
    rcases List.mem_append.1 hk with hk | hk
    · exact h.bd k hk
    · simp at hk; subst hk; exact folF_bd2 hok _ hz
  · intro x hx; exact List.mem_append_left _ (h.base x hx)
  · intro k hk
    rcases List.mem_append.1 hk with hk | hk
    · exact h.from' k hk
    · simp at hk; subst hk
      obtain ⟨x, hx, hr⟩ := h.from' y hy
      exact ⟨x, hx, hr.step hz⟩
  · intro k hk j hj
    rw [List.take_append_of_le_length hi] at hk
    exact List.mem_append_left _ (h.shut k hk j hj)
theorem IntInv.next {T : Sys} {xs L : List Int} {i : Nat} (h : IntInv T xs L i) (hi : i < L.length) (hc : ∀ j, TauS T L[i] j → j ∈ L) : IntInv T xs L (i + 1) := by
  refine ⟨h.nd, h.bd, h.base, h.from', fun k hk j hj => ?_⟩
  rw [List.take_succ_eq_append_getElem hi, List.mem_append] at hk
  rcases hk with hk | hk
  · exact h.shut k hk j hj
  · simp at hk; subst hk; exact hc j hj
theorem IntInv.done {T : Sys} {xs L : List Int} {i : Nat} (h : IntInv T xs L i) (hi : L.length ≤ i) (k : Int) : k ∈ L ↔ ∃ x ∈ xs, ReachT T x k := by
  refine ⟨h.from' k, ?_⟩
  rintro ⟨x, hx, hr⟩
  have hx := h.base x hx
  induction hr with
  | refl => exact hx
  | step _ h2 ih => exact h.shut _ (by rw [List.take_of_length_le hi]; exact ih) _ h2

end Go.Proofs.YtlondofadjcooaaGreatDoor

/-
  Relations between systems, the reference's parts for branching: l15In, l15Inert, l15Reach.
-/
namespace Go.Proofs.YtlondofadjcooaaGreatDoor
open Go.RowKit

theorem sys_eds2 {x : Sys} (h : sysOk x = true) : ∀ e ∈ x.eds, (0 ≤ e.fr ∧ e.fr < x.st) ∧ (0 ≤ e.to ∧ e.to < x.st) := by
  intro e he
  unfold sysOk at h
  simp only [Bool.and_eq_true] at h
  obtain ⟨i, hi, rfl⟩ := List.getElem_of_mem he
  have := allF_get h.2 i (by omega) (by omega)
  rw [edP_at _ _ hi] at this
  simp only [Bool.and_eq_true] at this
  have r1 := inB_true this.1.1.1
  have r2 := inB_true this.1.1.2
  omega
theorem tau_lab {labs : List (List UInt8)} (h : labsOk labs = true) {n : Int} (h0 : 0 ≤ n) (h1 : n < labs.length) : labs.getD n.toNat [] = tauL ↔ n = 0 := by
  have ht : labs.getD 0 [] = tauL := by
    have h' := h
    unfold labsOk at h'
    simp only [Bool.and_eq_true] at h'
    have := allF_get h'.2 0 (by omega) (by omega)
    unfold labP at this
    simp only [Bool.and_eq_true, beq_iff_eq] at this
    have h1 := this.1.2
    simpa using h1
  constructor
  · intro he
    have := labs_inj h n.toNat 0 (by omega) (by omega) (he.trans ht.symm)
    omega
  · intro he
    subst he
    exact ht
theorem tauS_iff {T : Sys} (h : sysOk T = true) (k j : Int) : TauS T k j ↔ ∃ e ∈ T.eds, e.fr = k ∧ e.to = j ∧ e.lb = 0 := by
  have hl : labsOk T.labs = true := by
    have h' := h
    unfold sysOk at h'
    simp only [Bool.and_eq_true] at h'
    exact h'.1.1.2
  unfold TauS folF folP
  simp only [List.mem_map, List.mem_filter, Bool.and_eq_true, List.contains_cons, List.contains_nil, Bool.or_false, beq_iff_eq]
  constructor
  · rintro ⟨e, ⟨h1, h2, h3⟩, rfl⟩
    have := sys_labs h e h1
    exact ⟨e, h1, h3, rfl, (tau_lab hl this.1 this.2).1 h2⟩
  · rintro ⟨e, h1, rfl, rfl, h4⟩
    have := sys_labs h e h1
    exact ⟨e, ⟨h1, (tau_lab hl this.1 this.2).2 h4, rfl⟩, rfl⟩

/-- a block of truths. -/
def BlkB (b : Nat) (w : World) (S : List Bool) : Prop := w.heap[b]? = some (.cells (S.map Value.bool).toArray 4 (0, 0))
theorem BlkB.lt {b : Nat} {w : World} {S : List Bool} (h : BlkB b w S) : b < w.heap.size := (Array.getElem?_eq_some_iff.1 h).1
theorem BlkB.cell {b : Nat} {w : World} {S : List Bool} (h : BlkB b w S) (j : Nat) (hj : j < S.length) : w.cell? ⟨b, j, none⟩ = some (.bool S[j]) := by
  unfold BlkB at h
  simp [World.cell?, h, hj]
theorem BlkB.frozen {b : Nat} {w : World} {S : List Bool} (h : BlkB b w S) (j : Nat) : w.frozen? ⟨b, j, none⟩ = false := by
  unfold BlkB at h
  simp [World.frozen?, h]
theorem BlkB.upd {b : Nat} {w w1 : World} {S : List Bool} (h : BlkB b w S) {f : List Nat} (hu : Upd f w w1) (hf : b ∉ f) : BlkB b w1 S := by
  unfold BlkB at *
  rw [hu.block b (Array.getElem?_eq_some_iff.1 h).1 hf]; exact h
theorem BlkB.set {b : Nat} {w : World} {S : List Bool} (h : BlkB b w S) (j : Nat) (c : Bool) : BlkB b (w.setCell ⟨b, j, none⟩ (.bool c)) (S.set j c) := by
  unfold BlkB at *
  have := heap_setCell_same w b j _ _ (.bool c) h
  rw [this, List.map_set]
  simp
/-- how many places of a block of truths are false. -/
def falseAt (w : World) (b : Nat) : Nat := match w.heap[b]? with
  | some (.cells cs _ _) => cs.toList.countP fun v => match v with | .bool false => true | _ => false
  | _ => 0
theorem BlkB.falseAt {b : Nat} {w : World} {S : List Bool} (h : BlkB b w S) : falseAt w b = S.count false := by
  unfold BlkB at h
  unfold Go.Proofs.YtlondofadjcooaaGreatDoor.falseAt
  rw [h]
  simp only [List.countP_map, List.count]
  refine List.countP_congr fun x _ => ?_
  cases x <;> simp
theorem BlkB.ofRow {w : World} {b n : Nat} (h : w.ownsRow b 4 1 (.slice (some ⟨b, 0, none⟩) n n) n (List.replicate n (.bool false))) : BlkB b w (List.replicate n false) := by
  obtain ⟨-, ⟨h1, -⟩ | ⟨g, cap, cur, hv, -, hc, -, -, h3, h4⟩⟩ := h
  · cases h1
  · cases hv
    unfold BlkB
    rw [hc, List.map_replicate, ← h4]
    have : cur.toList.take (n * 1) = cur.toList := List.take_of_length_le (by simp [h3])
    rw [this]

/-- what is marked is reached. -/
structure ReInv (B : Sys) (y : Int) (S : List Bool) : Prop where
  len : (S.length : Int) = B.st
  self : S.getD y.toNat false = true
  from' : ∀ j : Nat, S.getD j false = true → ReachT B y j
def ShutAt (S : List Bool) (g : Ed) : Prop := S.getD g.fr.toNat false = true → g.lb = 0 → S.getD g.to.toNat false = true
theorem ReInv.push {B : Sys} {y : Int} {S : List Bool} (h : ReInv B y S) (hok : sysOk B = true) {g : Ed} (hg : g ∈ B.eds) (hf : S.getD g.fr.toNat false = true) (hl : g.lb = 0) : ReInv B y (S.set g.to.toNat true) := by
  have hb := sys_eds2 hok g hg
  refine ⟨by simpa using h.len, ?_, fun j hj => ?_⟩
  · rw [List.getD_eq_getElem?_getD, List.getElem?_set]
    have := h.self
    rw [List.getD_eq_getElem?_getD] at this
    split
    · split
      · rfl
      · rename_i h1 h2; rw [h1] at h2; rw [List.getElem?_eq_none (by omega)] at this; exact this
    · exact this
  · by_cases e : g.to.toNat = j
    · have h1 := h.from' _ hf
      have e1 : ((g.fr.toNat : Nat) : Int) = g.fr := by omega
      have e2 : (j : Int) = g.to := by omega
      rw [e1] at h1
      rw [e2]
      exact h1.step ((tauS_iff hok _ _).2 ⟨g, hg, rfl, rfl, hl⟩)
    · rw [List.getD_eq_getElem?_getD, List.getElem?_set_ne e, ← List.getD_eq_getElem?_getD] at hj
      exact h.from' j hj
theorem ReInv.done {B : Sys} {y : Int} {S : List Bool} (h : ReInv B y S) (hok : sysOk B = true) (_hy : 0 ≤ y) (hs : ∀ g ∈ B.eds, ShutAt S g) (j : Nat) : S.getD j false = true ↔ ReachT B y j := by
  refine ⟨h.from' j, fun hr => ?_⟩
  have key : ∀ k : Int, ReachT B y k → S.getD k.toNat false = true := by
    intro k hk
    induction hk with
    | refl => exact h.self
    | step _ h2 ih =>
      obtain ⟨e, he, rfl, rfl, hl⟩ := (tauS_iff hok _ _).1 h2
      exact hs e he ih hl
  have := key j hr
  simpa using this

end Go.Proofs.YtlondofadjcooaaGreatDoor

/-
  Relations between systems, the reference's l15Reach: what internal edges reach.
-/
namespace Go.Proofs.YtlondofadjcooaaGreatDoor
open Go.RowKit

def oneIf : Value → Nat
  | .bool true => 1
  | _ => 0
theorem count_push {S : List Bool} {j : Nat} (hj : j < S.length) (h : S[j] = false) : (S.set j true).count false < S.count false := by
  have h1 := List.count_set (l := S) (i := j) (a := true) (b := false) hj
  have h2 : 0 < S.count false := List.count_pos_iff.2 (h ▸ List.getElem_mem hj)
  rw [h1, h]
  simp
  omega
end Go.Proofs.YtlondofadjcooaaGreatDoor

/-
  Marked pairs of states in rows and in one row: plain facts.
-/
namespace Go.Proofs.YtlondofadjcooaaGreatDoor
open Go.RowKit

theorem stF_nil {P : Sys} {y : Int} {s : List UInt8} (h : folF P [y] s = []) : stF P y s = -1 := by unfold stF; rw [h]; rfl
theorem stF_cons {P : Sys} {y a : Int} {s : List UInt8} {r : List Int} (h : folF P [y] s = a :: r) : stF P y s = a := by unfold stF; rw [h]; rfl
/-- an edge leads on. -/
def goP (P : Sys) (y : Int) (s : List UInt8) (e : Ed) : Bool := e.fr == y && P.labs.getD e.lb.toNat [] == s
theorem folP_go (P : Sys) (y : Int) (s : List UInt8) (e : Ed) : folP P [y] s e = goP P y s e := by
  unfold folP goP
  rw [Bool.and_comm]
  congr 1
  simp
  rw [Bool.eq_iff_iff]; simp
theorem stF_first {P : Sys} {y : Int} {s : List UInt8} (i : Nat) (hi : i < P.eds.length) (hn : ∀ j, (h : j < i) → goP P y s (P.eds[j]'(by omega)) = false) (hg : goP P y s P.eds[i] = true) : stF P y s = P.eds[i].to := by
  have h1 : folF P [y] s = P.eds[i].to :: ((P.eds.drop (i + 1)).filter (folP P [y] s)).map Ed.to := by
    unfold folF
    conv => lhs; rw [← List.take_append_drop i P.eds]
    rw [List.filter_append, List.map_append]
    have h2 : (P.eds.take i).filter (folP P [y] s) = [] := by
      rw [List.filter_eq_nil_iff]
      intro e he
      obtain ⟨j, hj, rfl⟩ := List.getElem_of_mem he
      rw [List.length_take] at hj
      rw [List.getElem_take, folP_go, hn j (by omega)]
      simp
    rw [h2, List.drop_eq_getElem_cons hi, List.filter_cons, folP_go, hg]
    simp
  exact stF_cons h1
theorem stF_none {P : Sys} {y : Int} {s : List UInt8} (hn : ∀ j, (h : j < P.eds.length) → goP P y s P.eds[j] = false) : stF P y s = -1 := by
  refine stF_nil ?_
  unfold folF
  have h2 : P.eds.filter (folP P [y] s) = [] := by
    rw [List.filter_eq_nil_iff]
    intro e he
    obtain ⟨j, hj, rfl⟩ := List.getElem_of_mem he
    rw [folP_go, hn j hj]
    simp
  rw [h2]; rfl

/-- one row. -/
def rowL (m : Nat) (f : Nat → Nat → Bool) (i : Nat) : List Bool := (List.range m).map (f i)
@[simp] theorem rowL_length (m : Nat) (f : Nat → Nat → Bool) (i : Nat) : (rowL m f i).length = m := by simp [rowL]
theorem rowL_get (m : Nat) (f : Nat → Nat → Bool) (i j : Nat) (h : j < (rowL m f i).length) : (rowL m f i)[j] = f i j := by simp [rowL]
theorem rowL_set (m : Nat) (f : Nat → Nat → Bool) (i j : Nat) (b : Bool) : (rowL m f i).set j b = rowL m (upd f i j b) i := by
  apply List.ext_getElem
  · simp
  · intro c h3 h4
    simp at h3 h4
    rw [List.getElem_set]
    simp only [rowL, List.getElem_map, List.getElem_range, upd, true_and]
    split
    · subst c; simp
    · rw [if_neg (by omega)]
theorem rowL_far (m : Nat) (f : Nat → Nat → Bool) (i j k : Nat) (b : Bool) (h : k ≠ i) : rowL m (upd f i j b) k = rowL m f k := by
  unfold rowL
  apply List.map_congr_left
  intro c _
  simp only [upd]
  rw [if_neg (by omega)]
theorem rowL_false (m i : Nat) : rowL m (fun _ _ => false) i = List.replicate m false := by simp [rowL, List.map_const']
/-- how many pairs are not marked. -/
def offS (n m : Nat) (f : Nat → Nat → Bool) : Nat := ((List.range n).map fun i => (rowL m f i).count false).sum
theorem sum_le {g h : Nat → Nat} : ∀ l : List Nat, (∀ i ∈ l, g i ≤ h i) → (l.map g).sum ≤ (l.map h).sum
  | [], _ => Nat.le_refl _
  | a :: l, h1 => by
    have ha := h1 a (by simp)
    have hl := sum_le l (fun i hi => h1 i (by simp [hi]))
    simp only [List.map_cons, List.sum_cons]
    omega
theorem sum_lt {g h : Nat → Nat} : ∀ l : List Nat, (∀ i ∈ l, g i ≤ h i) → (∃ i ∈ l, g i < h i) → (l.map g).sum < (l.map h).sum
  | [], _, h2 => by obtain ⟨i, hi, -⟩ := h2; simp at hi
  | a :: l, h1, h2 => by
    have ha := h1 a (by simp)
    have hl := sum_le l (fun i hi => h1 i (by simp [hi]))
    simp only [List.map_cons, List.sum_cons]
    obtain ⟨i, hi, hlt⟩ := h2
    rcases List.mem_cons.1 hi with rfl | hi
    · omega
    · have := sum_lt l (fun i hi => h1 i (by simp [hi])) ⟨i, hi, hlt⟩
      omega
theorem offS_upd {n m : Nat} {f : Nat → Nat → Bool} {x y : Nat} (hx : x < n) (hy : y < m) (h : f x y = false) : offS n m (upd f x y true) < offS n m f := by
  have hlt : (rowL m (upd f x y true) x).count false < (rowL m f x).count false := by
    rw [← rowL_set]
    exact count_push (by simpa using hy) (by rw [rowL_get]; exact h)
  refine sum_lt _ (fun i _ => ?_) ⟨x, by simpa using hx, hlt⟩
  by_cases e : i = x
  · subst e; omega
  · rw [rowL_far _ _ _ _ _ _ e]; exact Nat.le_refl _
theorem offS_congr {n : Nat} {g h : Nat → Nat} (he : ∀ i, i < n → g i = h i) : ((List.range n).map g).sum = ((List.range n).map h).sum :=
  congrArg List.sum (List.map_congr_left fun i hi => he i (List.mem_range.1 hi))

/-- all rows in one. -/
def flatB (n m : Nat) (f : Nat → Nat → Bool) : List Bool := (List.range (n * m)).map fun k => f (k / m) (k % m)
@[simp] theorem flatB_length (n m : Nat) (f : Nat → Nat → Bool) : (flatB n m f).length = n * m := by simp [flatB]
theorem idB_lt {n m i j : Nat} (hi : i < n) (hj : j < m) : i * m + j < n * m := by
  have : (i + 1) * m ≤ n * m := Nat.mul_le_mul_right _ hi
  rw [Nat.add_mul] at this; omega
theorem flatB_get (n m : Nat) (f : Nat → Nat → Bool) (i j : Nat) (hi : i < n) (hj : j < m) : (flatB n m f)[i * m + j]'(by simpa using idB_lt hi hj) = f i j := by
  simp [flatB, idx_div hj, idx_mod hj]
theorem flatB_set (n m : Nat) (f : Nat → Nat → Bool) (i j : Nat) (b : Bool) (hj : j < m) : (flatB n m f).set (i * m + j) b = flatB n m (upd f i j b) := by
  apply List.ext_getElem
  · simp
  · intro k h1 h2
    simp at h1
    rw [List.getElem_set]
    simp only [flatB, List.getElem_map, List.getElem_range, upd]
    split
    · subst k; rw [idx_div hj, idx_mod hj]; simp
    · rename_i hne
      rw [if_neg]
      rintro ⟨h3, h4⟩
      apply hne
      have := Nat.div_add_mod k m
      rw [h3, h4, Nat.mul_comm] at this
      exact this
theorem flatB_false (n m : Nat) : flatB n m (fun _ _ => false) = List.replicate (n * m) false := by
  apply List.ext_getElem <;> simp [flatB]

/-- an edge of the model at a state of the property asks for nothing more. -/
def ShutE (T P : Sys) (f : Nat → Nat → Bool) (e : Ed) (q : Nat) : Prop := (nxF T P q e < 0 ∨ f e.to.toNat (nxF T P q e).toNat = true) → f e.fr.toNat q = true
theorem shut_closed {T P : Sys} {f : Nat → Nat → Bool} (h : ∀ e ∈ T.eds, ∀ q : Nat, (q : Int) < P.st → ShutE T P f e q) :
    ∀ x y : Nat, (x : Int) < T.st → (y : Int) < P.st → chF T P f x y = true → f x y = true := by
  intro x y _ hy hc
  unfold chF at hc
  rw [List.any_eq_true] at hc
  obtain ⟨e, he, hp⟩ := hc
  simp only [Bool.and_eq_true, Bool.or_eq_true, beq_iff_eq, decide_eq_true_eq] at hp
  have := h e he y hy hp.2
  rw [hp.1] at this
  simpa using this
theorem lv_push {T P : Sys} (hT : sysOk T = true) {f : Nat → Nat → Bool} (hs : ∀ x y : Nat, f x y = true → Lv T P x y) {e : Ed} (he : e ∈ T.eds) {q : Nat} (h : nxF T P q e < 0 ∨ f e.to.toNat (nxF T P q e).toNat = true) :
    ∀ x y : Nat, upd f e.fr.toNat q true x y = true → Lv T P x y := by
  intro x y hu
  unfold upd at hu
  split at hu
  · rename_i hxy
    obtain ⟨rfl, rfl⟩ := hxy
    refine ch_sound hT hs ?_
    unfold chF
    rw [List.any_eq_true]
    have h4 := ed_bd hT he
    refine ⟨e, he, ?_⟩
    rw [Int.toNat_of_nonneg (by omega)]
    simpa using h
  · exact hs x y hu
theorem lv_push2 {T P : Sys} (hT : sysOk T = true) {f : Nat → Nat → Bool} (hs : ∀ x y : Nat, f x y = true → Lv T P x y) {a b : Nat} (h : chF T P f a b = true) :
    ∀ x y : Nat, upd f a b true x y = true → Lv T P x y := by
  intro x y hu
  unfold upd at hu
  split at hu
  · rename_i hxy
    obtain ⟨rfl, rfl⟩ := hxy
    exact ch_sound hT hs h
  · exact hs x y hu
/-- whether some of the edges from a state asks for the mark. -/
def chL (T P : Sys) (f : Nat → Nat → Bool) (y : Nat) (l : List Ed) : Bool := l.any fun e => decide (nxF T P (y : Int) e < 0) || f e.to.toNat (nxF T P (y : Int) e).toNat
theorem chL_out (T P : Sys) (f : Nat → Nat → Bool) (x y : Nat) : chL T P f y (outF T.eds x) = chF T P f x y := by
  unfold chL chF outF
  rw [List.any_filter]

end Go.Proofs.YtlondofadjcooaaGreatDoor

/-
  From which pairs of states a property can be left: the program's marks and the closures that read them.
-/
namespace Go.Proofs.YtlondofadjcooaaGreatDoor
open Go.RowKit

/-- a matrix of truths behind a variable: a row of rows. -/
structure MatW (M B : Nat) (ρ : Nat → Nat) (n m K : Nat) (f : Nat → Nat → Bool) (w : World) : Prop where
  c : w.cell? ⟨M, 0, none⟩ = some (.slice (some ⟨B, 0, none⟩) n n)
  r : ∀ i, i < n → w.cell? ⟨B, i, none⟩ = some (.slice (some ⟨ρ i, 0, none⟩) m m)
  b : ∀ i, i < n → BlkB (ρ i) w (rowL m f i)
  k : M < K ∧ B < K ∧ ∀ i, i < n → ρ i < K
theorem MatW.upd {M B : Nat} {ρ : Nat → Nat} {n m K : Nat} {f : Nat → Nat → Bool} {w w' : World} (h : MatW M B ρ n m K f w) {F : List Nat} (hu : Upd F w w') (hF : ∀ b ∈ F, K ≤ b) : MatW M B ρ n m K f w' := by
  refine ⟨hu.keepF (fun hm => by have := hF _ hm; have := h.k.1; omega) h.c, fun i hi => hu.keepF (fun hm => by have := hF _ hm; have := h.k.2.1; omega) (h.r i hi), fun i hi => (h.b i hi).upd hu (fun hm => by have := hF _ hm; have := h.k.2.2 i hi; omega), h.k⟩

/-- the closure that looks up a mark. -/
abbrev hasV (M : Nat) : Value := .func (.func 85) #[] #[.pointer (some ⟨M, 0, none⟩)]
theorem enter_has (args : Array Value) (w : World) : Sem.run Tryz.prog (callFunc 85 args) w = .ok (.enter 85 args) w := by go_simp
/-- the closure that asks whether a move leaves. -/
abbrev askV (HB : Nat) : Value := .func (.func 67) #[] #[.pointer (some ⟨HB, 0, none⟩)]
theorem enter_ask (args : Array Value) (w : World) : Sem.run Tryz.prog (callFunc 67 args) w = .ok (.enter 67 args) w := by go_simp
/-- the closure that gathers the answers. -/
abbrev anyV (FB IB : Nat) : Value := .func (.func 87) #[] #[.pointer (some ⟨FB, 0, none⟩), .pointer (some ⟨IB, 0, none⟩)]
theorem enter_any (args : Array Value) (w : World) : Sem.run Tryz.prog (callFunc 87 args) w = .ok (.enter 87 args) w := by go_simp

/-- what a look at a mark says. -/
def hasB (f : Nat → Nat → Bool) (x : Nat) (y : Int) : Bool := decide (0 ≤ y) && f x y.toNat
/-- what a move says. -/
def askB (f : Nat → Nat → Bool) (x : Nat) (y : Int) : Bool := decide (y < 0) || f x y.toNat
theorem askB_has (f : Nat → Nat → Bool) (x : Nat) (y : Int) : (decide (y < 0) || hasB f x y) = askB f x y := by
  unfold askB hasB
  by_cases h : y < 0
  · simp [h]
  · have h2 : 0 ≤ y := by omega
    simp [h2]

set_option maxRecDepth 20000 in
set_option maxHeartbeats 2000000 in
theorem hasI (M B : Nat) (ρ : Nat → Nat) (n m K : Nat) (f : Nat → Nat → Bool) (w : World) (h : MatW M B ρ n m K f w) (x : Nat) (hx : x < n) (y : Int) (hy1 : -1 ≤ y) (hy2 : y < m) :
    Calls Tryz.prog 85 #[.int .i64 x, .int .i64 y, .pointer (some ⟨M, 0, none⟩)] w fun e w' => e = .returned (.bool (hasB f x y)) ∧ w = w' := by
  by_cases hy : 0 ≤ y
  · obtain ⟨j, rfl⟩ : ∃ N : Nat, y = N := ⟨y.toNat, by omega⟩
    have c0 := h.c
    have c1 := h.r x hx
    have hj : j < (rowL m f x).length := by simp; omega
    have c2 := (h.b x hx).cell j hj
    rw [rowL_get] at c2
    have hxi : (x : Int) < (n : Int) := by omega
    have hE := Lib.hid (show hasB f x (j : Int) = f x j by unfold hasB; simp)
    clear hy1 hj h
    generalize f x j = q at *
    go_enter Tryz.func85, Tryz.ntmps85
    go_wp2_with fail
    go_ret
    exact ⟨by rw [hE.out]; rfl, rfl⟩
  · obtain rfl : y = -1 := by omega
    have hE := Lib.hid (show hasB f x (-1 : Int) = false by unfold hasB; simp)
    clear hy hy1 hy2 h
    go_enter Tryz.func85, Tryz.ntmps85
    go_wp2_with fail
    go_ret
    exact ⟨by rw [hE.out]; rfl, rfl⟩

set_option maxRecDepth 20000 in
set_option maxHeartbeats 2000000 in
theorem askI (HB M B : Nat) (ρ : Nat → Nat) (n m K : Nat) (f : Nat → Nat → Bool) (w : World) (c0 : w.cell? ⟨HB, 0, none⟩ = some (hasV M)) (h : MatW M B ρ n m K f w) (x : Nat) (hx : x < n) (y : Int) (hy1 : -1 ≤ y) (hy2 : y < m) :
    Calls Tryz.prog 67 #[.int .i64 x, .int .i64 y, .pointer (some ⟨HB, 0, none⟩)] w fun e w' => e = .returned (.bool (askB f x y)) ∧ w = w' := by
  have S1 := Lib.hid (hasI M B ρ n m K f w h x hx y hy1 hy2)
  have HE := Lib.hid (askB_has f x y)
  have hent := enter_has
  generalize askB f x y = Z at *
  generalize hasB f x y = Y at *
  clear h
  by_cases hy : y < 0
  · have hE := Lib.hid (show Z = true by rw [← HE.out]; simp [hy])
    clear HE S1
    go_enter Tryz.func67, Tryz.ntmps67
    go_wp2_with fail
    go_ret
    exact ⟨by rw [hE.out]; rfl, rfl⟩
  · have hE := Lib.hid (show Z = Y by rw [← HE.out]; simp [hy])
    clear HE
    go_enter Tryz.func67, Tryz.ntmps67
    go_wp2_with fail
    refine S1.out.mono ?_
    rintro e w1 ⟨rfl, rfl⟩
    clear S1
    go_wp2_with fail
    go_ret
    exact ⟨by rw [hE.out]; rfl, rfl⟩

set_option maxRecDepth 20000 in
set_option maxHeartbeats 2000000 in
theorem any1I (FB IB HB M B : Nat) (ρ : Nat → Nat) (n m K : Nat) (f : Nat → Nat → Bool) (w : World) (q : Bool) (c0 : w.cell? ⟨FB, 0, none⟩ = some (.bool q)) (cz : w.frozen? ⟨FB, 0, none⟩ = false) (c1 : w.cell? ⟨IB, 0, none⟩ = some (askV HB)) (c2 : w.cell? ⟨HB, 0, none⟩ = some (hasV M)) (h : MatW M B ρ n m K f w) (x : Nat) (hx : x < n) (y : Int) (hy1 : -1 ≤ y) (hy2 : y < m) :
    Calls Tryz.prog 87 #[.int .i64 x, .int .i64 y, .pointer (some ⟨FB, 0, none⟩), .pointer (some ⟨IB, 0, none⟩)] w fun e w' => e = .returned (.tuple #[]) ∧ w' = w.setCell ⟨FB, 0, none⟩ (.bool (q || askB f x y)) := by
  have S1 := Lib.hid (askI HB M B ρ n m K f w c2 h x hx y hy1 hy2)
  have hent := enter_ask
  generalize askB f x y = Z at *
  clear h c2
  cases q with
  | true =>
    clear S1
    go_enter Tryz.func87, Tryz.ntmps87
    go_wp2_with fail
    go_end0
    exact ⟨rfl, rfl⟩
  | false =>
    go_enter Tryz.func87, Tryz.ntmps87
    go_wp2_with fail
    refine S1.out.mono ?_
    rintro e w1 ⟨rfl, rfl⟩
    clear S1
    go_wp2_with fail
    go_end0
    exact ⟨rfl, by rw [Bool.false_or]⟩

end Go.Proofs.YtlondofadjcooaaGreatDoor

/-
  From which pairs of states a property can be left: the program's step and moves.
-/
namespace Go.Proofs.YtlondofadjcooaaGreatDoor
open Go.RowKit

set_option maxRecDepth 20000 in
set_option maxHeartbeats 4000000 in
theorem stepI (P : Sys) (u1 u2 : Value) (y : Int) (s : List UInt8) (w : World) (f3 f4 : List Nat) (h1 : RS f3 w [u1] P.labs) (h2 : R_E1 f4 w [u2] P.eds) (hok : sysOk P = true) (hy : 0 ≤ y) :
    Calls Tryz.prog 99 #[.agg #[ei P.st, ei P.ini, u1, u2], .int .i64 y, es s] w fun e w' => e = .returned (.int .i64 (stF P y s)) ∧ Upd [] w w' := by
  obtain ⟨la, ca, rfl, -, -, -⟩ := slF1_open h1
  obtain ⟨a, cap, rfl, -, -, -⟩ := slF3_open h2
  obtain ⟨wA, hwA⟩ : ∃ wA, wA = (w.alloc (.cells #[ei P.st, ei P.ini, .slice la P.labs.length ca, .slice a P.eds.length cap] 30)).alloc (.cells #[ei y] 2) := ⟨_, rfl⟩
  have uA : Upd [] w wA := by rw [hwA]; exact ((Upd.refl _ _).alloc _).alloc _
  have HUA := Lib.hid uA
  have hr := r1_one (w.alloc (.cells #[ei P.st, ei P.ini, .slice la P.labs.length ca, .slice a P.eds.length cap] 30)) y (w.heap.size + 1) (by simp)
  rw [← hwA] at hr
  have S1 := Lib.hid (followI P _ _ _ y s wA f3 f4 _ (RSk.upd h1 uA (by simp)) (R_E1k.upd h2 uA (by simp)) hr hok)
  have HST := Lib.hid (show stF P y s = (folF P [y] s).headD (-1) from rfl)
  generalize stF P y s = Z at *
  generalize folF P [y] s = L at *
  clear h1 h2 uA hr hok
  go_enter Tryz.func99, Tryz.ntmps99
  go_wp2_with fail
  rw [← hwA]
  clear hwA
  refine S1.out.mono ?_
  rintro e w1 ⟨⟨v, f', rfl, hR⟩, hu⟩
  have HU := Lib.hid (HUA.out.trans hu)
  obtain ⟨b, c, rfl, l1, l2, hc⟩ := slF1_open hR
  clear S1 hu hR
  cases L with
  | nil =>
    have hE := Lib.hid (show Z = -1 by rw [HST.out]; rfl)
    clear HST hc
    simp only [List.length_nil]
    go_wp2_with fail
    go_ret
    exact ⟨by rw [hE.out]; rfl, HU.out⟩
  | cons z L =>
    have hE := Lib.hid (show Z = z by rw [HST.out]; rfl)
    obtain ⟨b', o, rfl, -, -, p0⟩ := hc 0 (by simp)
    simp only [List.getElem_cons_zero, Nat.add_zero] at p0
    have hl : (0 : Int) < (((z :: L).length : Nat) : Int) := by simp
    clear HST hc
    generalize (z :: L).length = n at *
    go_wp2_with fail
    go_ret
    exact ⟨by rw [hE.out]; rfl, HU.out⟩

/-- the memory of a model and a property. -/
structure Obs (T P : Sys) (v1 v2 u1 u2 : Value) (f1 f2 f3 f4 : List Nat) (N : Nat) (w : World) : Prop where
  a : RS f1 w [v1] T.labs
  b : R_E1 f2 w [v2] T.eds
  c : RS f3 w [u1] P.labs
  d : R_E1 f4 w [u2] P.eds
  lt : (∀ b ∈ f1, b < N) ∧ (∀ b ∈ f2, b < N) ∧ (∀ b ∈ f3, b < N) ∧ ∀ b ∈ f4, b < N
theorem Obs.upd {T P : Sys} {v1 v2 u1 u2 : Value} {f1 f2 f3 f4 : List Nat} {N : Nat} {w w' : World} (h : Obs T P v1 v2 u1 u2 f1 f2 f3 f4 N w) {F : List Nat} (hu : Upd F w w') (hF : ∀ b ∈ F, N ≤ b) : Obs T P v1 v2 u1 u2 f1 f2 f3 f4 N w' :=
  ⟨RSk.upd h.a hu (fun b hb hm => by have := hF b hm; have := h.lt.1 b hb; omega), R_E1k.upd h.b hu (fun b hb hm => by have := hF b hm; have := h.lt.2.1 b hb; omega),
   RSk.upd h.c hu (fun b hb hm => by have := hF b hm; have := h.lt.2.2.1 b hb; omega), R_E1k.upd h.d hu (fun b hb hm => by have := hF b hm; have := h.lt.2.2.2 b hb; omega), h.lt⟩
theorem Obs.mono {T P : Sys} {v1 v2 u1 u2 : Value} {f1 f2 f3 f4 : List Nat} {N N' : Nat} {w : World} (h : Obs T P v1 v2 u1 u2 f1 f2 f3 f4 N w) (hN : N ≤ N') : Obs T P v1 v2 u1 u2 f1 f2 f3 f4 N' w :=
  ⟨h.a, h.b, h.c, h.d, fun b hb => by have := h.lt.1 b hb; omega, fun b hb => by have := h.lt.2.1 b hb; omega, fun b hb => by have := h.lt.2.2.1 b hb; omega, fun b hb => by have := h.lt.2.2.2 b hb; omega⟩
/-- what the moves of a pair answer. -/
def movF (T P : Sys) (G : Nat → Int → Bool) (y : Int) (l : List Ed) : Bool := l.any fun e => G e.to.toNat (nxF T P y e)
theorem movF_step (T P : Sys) (G : Nat → Int → Bool) (y : Int) (l : List Ed) (i : Nat) (h : i < l.length) : movF T P G y (l.take (i + 1)) = (movF T P G y (l.take i) || G l[i].to.toNat (nxF T P y l[i])) := by
  unfold movF
  rw [List.take_succ_eq_append_getElem h, List.any_append]
  simp

set_option maxRecDepth 20000 in
set_option maxHeartbeats 8000000 in
theorem movesI (G : Nat → Int → Bool) (FB IB : Nat) (T P : Sys) (v1 v2 u1 u2 : Value) (x y : Nat) (q0 : Bool) (w : World) (f1 f2 f3 f4 : List Nat) (hO : Obs T P v1 v2 u1 u2 f1 f2 f3 f4 FB w) (hT : sysOk T = true) (hP : sysOk P = true) (hy : (y : Int) < P.st) (hF : BlkB FB w [q0])
    (hdo : ∀ (W : World) (q : Bool) (a : Nat) (b : Int), Upd [FB] w W → BlkB FB W [q] → (a : Int) < T.st → -1 ≤ b → b < P.st → Calls Tryz.prog 87 #[.int .i64 a, .int .i64 b, .pointer (some ⟨FB, 0, none⟩), .pointer (some ⟨IB, 0, none⟩)] W fun e W' => e = .returned (.tuple #[]) ∧ W' = W.setCell ⟨FB, 0, none⟩ (.bool (q || G a b))) :
    Calls Tryz.prog 86 #[.agg #[ei T.st, ei T.ini, v1, v2, ei P.st, ei P.ini, u1, u2], .int .i64 x, .int .i64 y, anyV FB IB] w fun e w' => e = .returned (.tuple #[]) ∧ Upd [FB] w w' ∧ BlkB FB w' [q0 || movF T P G y (outF T.eds x)] := by
  obtain ⟨la, ca, rfl, -, lm, hlc⟩ := slF1_open hO.a
  obtain ⟨a, cap, rfl, -, -, -⟩ := slF3_open hO.b
  obtain ⟨pa, pc, rfl, -, -, -⟩ := slF1_open hO.c
  obtain ⟨pb, pd, rfl, -, -, -⟩ := slF3_open hO.d
  unfold maxLen at lm
  have hTe : T.eds.length ≤ 300 := (sys_parts hT).2.2.2.1
  have HTL := Lib.hid (sys_labs hT)
  have HTB := Lib.hid (fun e (he : e ∈ T.eds) => ed_bd hT he)
  have HNX := Lib.hid (fun e => nxF_bd (T := T) hP (show 0 ≤ (y : Int) ∧ (y : Int) < P.st from ⟨by omega, hy⟩) e)
  have HNF := Lib.hid (fun e => show nxF T P y e = if e.lb = 0 then (y : Int) else stF P y (T.labs.getD e.lb.toNat []) from rfl)
  have HLC := Lib.hid hlc
  obtain ⟨BX, hBX⟩ : ∃ B, B = w.heap.size := ⟨_, rfl⟩
  obtain ⟨wA, hwA⟩ : ∃ wA, wA = w.alloc (.cells #[ei T.st, ei T.ini, .slice la T.labs.length ca, .slice a T.eds.length cap, ei P.st, ei P.ini, .slice pa P.labs.length pc, .slice pb P.eds.length pd] 75) := ⟨_, rfl⟩
  have uA : Upd [] w wA := by rw [hwA]; exact (Upd.refl _ _).alloc _
  have qA : RowAt wA BX 75 [ei T.st, ei T.ini, .slice la T.labs.length ca, .slice a T.eds.length cap, ei P.st, ei P.ini, .slice pa P.labs.length pc, .slice pb P.eds.length pd] := by rw [hwA, hBX]; exact RowAt.new _ _ _
  have hBF : BX ≠ FB := by have := hF.lt; omega
  have HQA := Lib.hid (fun W (hu : Upd [FB] wA W) => qA.upd hu (by simpa using hBF))
  have HO := Lib.hid (fun W (hu : Upd [FB] w W) => hO.upd hu (by simp))
  have HDO := Lib.hid hdo
  have HF := Lib.hid (hF.upd uA (by simp))
  have HUA := Lib.hid (uA.mono (show ∀ b ∈ [], b ∈ [FB] by simp))
  have S1 := Lib.hid (outEI T.st T.ini (.slice la T.labs.length ca) (.slice a T.eds.length cap) T.eds x wA f2 (R_E1k.upd hO.b uA (by simp)) (by omega))
  have hent := enter_any
  have hlt1 := hO.lt.1
  have HST := Lib.hid (fun (s : List UInt8) W (hu : Upd [FB] w W) => have o := hO.upd hu (by simp); stepI P (.slice pa P.labs.length pc) (.slice pb P.eds.length pd) y s W f3 f4 o.c o.d hP (by omega))
  obtain ⟨z0, z1, z2, z3, z4, z5, z6, z7⟩ : wA.cell? ⟨BX, 0, none⟩ = some (ei T.st) ∧ wA.cell? ⟨BX, 1, none⟩ = some (ei T.ini) ∧ wA.cell? ⟨BX, 2, none⟩ = some (.slice la T.labs.length ca) ∧ wA.cell? ⟨BX, 3, none⟩ = some (.slice a T.eds.length cap) ∧ wA.cell? ⟨BX, 4, none⟩ = some (ei P.st) ∧ wA.cell? ⟨BX, 5, none⟩ = some (ei P.ini) ∧ wA.cell? ⟨BX, 6, none⟩ = some (.slice pa P.labs.length pc) ∧ wA.cell? ⟨BX, 7, none⟩ = some (.slice pb P.eds.length pd) :=
    ⟨qA.cell 0 _ rfl, qA.cell 1 _ rfl, qA.cell 2 _ rfl, qA.cell 3 _ rfl, qA.cell 4 _ rfl, qA.cell 5 _ rfl, qA.cell 6 _ rfl, qA.cell 7 _ rfl⟩
  have hszA := uA.size
  have hFlt := hF.lt
  clear hO hT hP hF hdo hlc uA qA hlt1
  go_enter Tryz.func86, Tryz.ntmps86
  go_upto_region 1 with (fail)
  rw [← hwA, ← hBX]
  have HBX := Lib.hid (show BX < wA.heap.size ∧ FB < BX by rw [hBX]; exact ⟨by rw [hwA]; simp, hFlt⟩)
  clear hwA hBX hszA
  go_wp2_with fail
  refine S1.out.mono ?_
  rintro e w2 ⟨⟨vl, rfl, hn⟩, hu2⟩
  obtain ⟨fl, hr, -, hge⟩ := hn
  obtain ⟨al, cl, rfl, -, lml, -⟩ := slF3_open hr
  unfold maxLen at lml
  have HU2 := Lib.hid (HUA.out.trans (hu2.mono (show ∀ b ∈ [], b ∈ [FB] by simp)))
  have HA2 := Lib.hid (hu2.mono (show ∀ b ∈ [], b ∈ [FB] by simp))
  have HR := Lib.hid (fun W (hu : Upd [FB] w2 W) => (R_E1k.upd hr hu (fun b hb hm => by have := hge b hb; have := HBX.out; simp at hm; omega)))
  have HF2 := Lib.hid (HF.out.upd hu2 (by simp))
  have HLE := Lib.hid (fun e (he : e ∈ outF T.eds x) => outF_mem he)
  have hll : (outF T.eds x).length ≤ 300 := Nat.le_trans (outF_len _ _) hTe
  have HMV := Lib.hid (fun i h => movF_step T P G y (outF T.eds x) i h)
  have hM0 : movF T P G y ((outF T.eds x).take 0) = false := rfl
  have HME := Lib.hid (show movF T P G y ((outF T.eds x).take (outF T.eds x).length) = movF T P G y (outF T.eds x) by rw [List.take_length])
  clear S1 hu2 hr hge z0 z1 z2 z3 z4 z5 z6 z7 HUA HF
  generalize hEE : outF T.eds x = E at *
  have HEE := Lib.hid hEE
  clear hEE
  go_wp2_with fail
  go_loopw [15] (fun iv wr => ∃ (i : Nat) (q : Bool), i ≤ E.length ∧ iv = .int .i64 i ∧ Hid (Upd [FB] w2 wr) ∧ Hid (BlkB FB wr [q]) ∧ Hid (q = (q0 || movF T P G y (E.take i)))) (fun iv _ => E.length - (intOf iv).toNat)
  case atStart => exact ⟨0, q0, Nat.zero_le _, rfl, Lib.hid (Upd.refl _ _), HF2, Lib.hid (by rw [hM0, Bool.or_false])⟩
  case round =>
    clear HF2 hM0
    obtain ⟨wo, rfl⟩ : ∃ wo : World, wo = wr := ⟨_, rfl⟩
    obtain ⟨i, q, hi, rfl, HU, HF, HQ⟩ := hrel
    by_cases hlt : i < E.length
    · obtain ⟨al', cl', hv, -, -, hc⟩ := slF3_open (HR.out wo HU.out)
      cases hv
      obtain ⟨b, o, rfl, -, -, p1, p2, p3⟩ := hc i hlt
      have HS := Lib.hid (HMV.out i hlt)
      have hem := HLE.out _ (List.getElem_mem hlt)
      have hbd := HTB.out _ hem
      have hnx := HNX.out E[i]
      have hnf := HNF.out E[i]
      have hil : (i : Int) < (E.length : Int) := by omega
      clear hc hem
      have HQ9 := Lib.hid (show (q || G E[i].to.toNat (nxF T P y E[i])) = (q0 || movF T P G y (E.take (i + 1))) by rw [HS.out, HQ.out, Bool.or_assoc])
      clear HS HQ
      generalize nxF T P y E[i] = nx at *
      generalize E[i] = ed at *
      obtain ⟨x1, x2, x3⟩ := ed
      simp only at p1 p2 p3 hbd hnf HQ9
      obtain ⟨le, rfl⟩ : ∃ N : Nat, x2 = N := ⟨x2.toNat, by omega⟩
      obtain ⟨to', rfl⟩ : ∃ N : Nat, x3 = N := ⟨x3.toNat, by omega⟩
      rw [Int.toNat_natCast] at HQ9
      obtain ⟨wB, hwB⟩ : ∃ wB, wB = wo.alloc (.cells #[.int .i64 x1, .int .i64 le, .int .i64 to'] 55) := ⟨_, rfl⟩
      obtain ⟨BE, hBE⟩ : ∃ B, B = wo.heap.size := ⟨_, rfl⟩
      have uB : Upd [] wo wB := by rw [hwB]; exact (Upd.refl _ _).alloc _
      have t1 : wB.cell? ⟨BE, 1, none⟩ = some (ei le) := by rw [hwB, hBE]; exact cell_new wo _ _ _ rfl 1 _ rfl
      have t2 : wB.cell? ⟨BE, 2, none⟩ = some (ei to') := by rw [hwB, hBE]; exact cell_new wo _ _ _ rfl 2 _ rfl
      have HUB := Lib.hid (HU.out.trans (uB.mono (show ∀ b ∈ [], b ∈ [FB] by simp)))
      have HFB := Lib.hid (HF.out.upd uB (by simp))
      have HFL := Lib.hid HF.out.lt
      clear HU HF
      go_upto_region 4 with (fail)
      rw [← hwB, ← hBE]
      have nBE : BE ≠ FB := by rw [hBE]; have := HFL.out; omega
      clear hwB hBE uB p1 p2 p3 HFL
      cases hl : ((le : Int) == 0) with
      | true =>
        have hy9 : nx = (y : Int) := by rw [hnf, if_pos (by simpa using hl)]
        subst hy9
        have S2 := Lib.hid (HDO.out wB q to' y (HU2.out.trans HUB.out) HFB.out hbd.2.1.2 hnx.1 hnx.2)
        clear hnf HDO
        go_wp2_with fail
        refine S2.out.mono ?_
        rintro e w5 ⟨rfl, rfl⟩
        have HF5 := Lib.hid (show BlkB FB (wB.setCell ⟨FB, 0, none⟩ (.bool (q || G to' y))) [q || G to' y] from HFB.out.set 0 (q || G to' y))
        have HU5 := Lib.hid (HUB.out.setCell (p := ⟨FB, 0, none⟩) (Or.inr (by simp)) (.bool (q || G to' y)))
        clear S2 HFB HUB t1 t2
        generalize (q || G to' y) = q9 at *
        go_wp2_with fail
        go_roundw
        case rel => exact ⟨i + 1, q9, by omega, by go_num, HU5, HF5, HQ9⟩
        case measure => simp [intOf]; omega
      | false =>
        have hle : le < T.labs.length := by omega
        have hlei : (le : Int) < (T.labs.length : Int) := by omega
        obtain ⟨la', ca', hv, -, -, hlc⟩ := slF1_open (HO.out wB (HU2.out.trans HUB.out)).a
        cases hv
        obtain ⟨ba, ob, rfl, hfb, -, pA⟩ := hlc le hle
        have nba : ba ≠ FB := by have := (HO.out wB (HU2.out.trans HUB.out)).lt.1 ba (by rw [hfb]; simp); omega
        have nBX : BX ≠ FB := by have := HBX.out; omega
        have gA : T.labs.getD le [] = T.labs[le] := by rw [List.getD_eq_getElem?_getD, List.getElem?_eq_getElem hle]; rfl
        rw [if_neg (by simpa using hl), Int.toNat_natCast, gA] at hnf
        have hq := HQA.out wB (HA2.out.trans HUB.out)
        have y2 := hq.cell 2 _ rfl
        have y4 := hq.cell 4 _ rfl
        have y5 := hq.cell 5 _ rfl
        have y6 := hq.cell 6 _ rfl
        have y7 := hq.cell 7 _ rfl
        clear hlc hq gA
        generalize T.labs[le] = sa at *
        have S2 := Lib.hid (fun W (hu : Upd [FB] wB W) => HST.out sa W ((HU2.out.trans HUB.out).trans hu))
        have S3 := Lib.hid (fun W (hu : Upd [FB] wB W) (hf : BlkB FB W [q]) => (HDO.out W q to' nx ((HU2.out.trans HUB.out).trans hu) hf hbd.2.1.2 hnx.1 hnx.2).mono (fun e W' (h : e = .returned (.tuple #[]) ∧ W' = W.setCell ⟨FB, 0, none⟩ (.bool (q || G to' nx))) => show e = .returned (.tuple #[]) ∧ Upd [FB] W W' ∧ BlkB FB W' [q || G to' nx] from ⟨h.1, by rw [h.2]; exact (Upd.refl _ _).setCell (p := ⟨FB, 0, none⟩) (Or.inr (by simp)) _, by rw [h.2]; exact hf.set 0 _⟩))
        have HF9 := Lib.hid (fun W (hu : Upd [] wB W) => HFB.out.upd hu (by simp))
        rw [← hnf] at S2
        clear hnf HDO HST HO HFB HQA
        go_upto_region 6 with (fail)
        go_region_held3 (fun w' => w'.cell? ⟨BE, 1, none⟩ = some (ei le) ∧ w'.cell? ⟨BE, 2, none⟩ = some (ei to') ∧ w'.cell? ⟨BX, 2, none⟩ = some (.slice (some ⟨ba, ob, none⟩) T.labs.length ca) ∧ w'.cell? ⟨BX, 4, none⟩ = some (ei P.st) ∧ w'.cell? ⟨BX, 5, none⟩ = some (ei P.ini) ∧ w'.cell? ⟨BX, 6, none⟩ = some (.slice pa P.labs.length pc) ∧ w'.cell? ⟨BX, 7, none⟩ = some (.slice pb P.eds.length pd) ∧ w'.cell? ⟨ba, ob + le, none⟩ = some (es sa)) (go_keep)
          (first
            | ((go_at_call 99); (with_reducible refine (S2.out _ ((Upd.refl _ _).drew)).mono ?_); rintro e w5 ⟨rfl, hu5⟩; have k1 := hu5.keep t1; have k2 := hu5.keep t2; have k3 := hu5.keep y2; have k4 := hu5.keep y4; have k5 := hu5.keep y5; have k6 := hu5.keep y6; have k7 := hu5.keep y7; have k8 := hu5.keep pA)
            | ((go_at_call 87); (with_reducible refine (S3.out _ (((Upd.refl _ _).drew).trans (hu5.mono (by simp))) (HF9.out _ ((Upd.refl _ _).drew.trans hu5))).mono ?_); rintro e w6 ⟨rfl, hu6, hf6⟩; have m1 := hu6.keepF (by simpa using nBE) k1; have m2 := hu6.keepF (by simpa using nBE) k2; have m3 := hu6.keepF (by simpa using nBX) k3; have m4 := hu6.keepF (by simpa using nBX) k4; have m5 := hu6.keepF (by simpa using nBX) k5; have m6 := hu6.keepF (by simpa using nBX) k6; have m7 := hu6.keepF (by simpa using nBX) k7; have m8 := hu6.keepF (by simpa using nba) k8))
        have HF5 := Lib.hid hf6
        have HU5 := Lib.hid ((HUB.out.trans (((Upd.refl [] _).drew.trans hu5).mono (show ∀ b ∈ [], b ∈ [FB] by simp))).trans hu6)
        clear S2 S3 HF9 hu5 hu6 hf6 HUB t1 t2 y2 y4 y5 y6 y7 pA k1 k2 k3 k4 k5 k6 k7 k8 m1 m2 m3 m4 m5 m6 m7 m8
        generalize (q || G to' nx) = q9 at *
        go_wp2_with fail
        go_roundw
        case rel => exact ⟨i + 1, q9, by omega, by go_num, HU5, HF5, HQ9⟩
        case measure => simp [intOf]; omega
    · obtain rfl : i = E.length := by omega
      have HZ := Lib.hid (show q = (q0 || movF T P G y E) by rw [HQ.out, HME.out])
      clear HQ HDO HR HLE HMV
      go_wp2_with fail
      go_end0
      exact ⟨rfl, HU2.out.trans HU.out, by rw [HEE.out, ← HZ.out]; exact HF.out⟩

end Go.Proofs.YtlondofadjcooaaGreatDoor

/-
  From which pairs of states a property can be left: the program asks all moves of a pair.
-/
namespace Go.Proofs.YtlondofadjcooaaGreatDoor
open Go.RowKit

theorem enter_chg (args : Array Value) (w : World) : Sem.run Tryz.prog (callFunc 65 args) w = .ok (.enter 65 args) w := by go_simp
/-- the closure that says whether a pair is to be marked. -/
abbrev chgV (OB : Nat) : Value := .func (.func 65) #[] #[.pointer (some ⟨OB, 0, none⟩)]
theorem mov_ch (T P : Sys) (f : Nat → Nat → Bool) (y : Nat) (l : List Ed) : movF T P (askB f) y l = chL T P f y l := rfl

set_option maxRecDepth 20000 in
set_option maxHeartbeats 4000000 in
theorem anyAllI (HB M B : Nat) (ρ : Nat → Nat) (n m K : Nat) (f : Nat → Nat → Bool) (T P : Sys) (v1 v2 u1 u2 : Value) (x y : Nat) (w : World) (f1 f2 f3 f4 : List Nat) (hO : Obs T P v1 v2 u1 u2 f1 f2 f3 f4 w.heap.size w) (hT : sysOk T = true) (hP : sysOk P = true) (hn : T.st = n) (hm : P.st = m) (hy : y < m)
    (c2 : w.cell? ⟨HB, 0, none⟩ = some (hasV M)) (h : MatW M B ρ n m K f w) (hK : K ≤ w.heap.size) :
    Calls Tryz.prog 66 #[.agg #[ei T.st, ei T.ini, v1, v2, ei P.st, ei P.ini, u1, u2], .int .i64 x, .int .i64 y, askV HB] w fun e w' => e = .returned (.bool (chL T P f y (outF T.eds x))) ∧ Upd [] w w' := by
  obtain ⟨la, ca, rfl, -, -, -⟩ := slF1_open hO.a
  obtain ⟨a, cap, rfl, -, -, -⟩ := slF3_open hO.b
  obtain ⟨pa, pc, rfl, -, -, -⟩ := slF1_open hO.c
  obtain ⟨pb, pd, rfl, -, -, -⟩ := slF3_open hO.d
  obtain ⟨BX, hBX⟩ : ∃ B, B = w.heap.size := ⟨_, rfl⟩
  obtain ⟨wA, hwA⟩ : ∃ wA, wA = ((w.alloc (.cells #[ei T.st, ei T.ini, .slice la T.labs.length ca, .slice a T.eds.length cap, ei P.st, ei P.ini, .slice pa P.labs.length pc, .slice pb P.eds.length pd] 75)).alloc (.cells #[askV HB] 94)).alloc (.cells #[.bool false] 4) := ⟨_, rfl⟩
  have uA : Upd [] w wA := by rw [hwA]; exact (((Upd.refl _ _).alloc _).alloc _).alloc _
  have qA : RowAt wA BX 75 [ei T.st, ei T.ini, .slice la T.labs.length ca, .slice a T.eds.length cap, ei P.st, ei P.ini, .slice pa P.labs.length pc, .slice pb P.eds.length pd] := by rw [hwA, hBX]; exact (RowAt.new _ _ _).upd (((Upd.refl [] _).alloc _).alloc _) (by simp)
  have qI : RowAt wA (BX + 1) 94 [askV HB] := by
    have h := (RowAt.new (w.alloc (.cells #[ei T.st, ei T.ini, .slice la T.labs.length ca, .slice a T.eds.length cap, ei P.st, ei P.ini, .slice pa P.labs.length pc, .slice pb P.eds.length pd] 75)) 94 [askV HB]).upd ((Upd.refl [] _).alloc (.cells #[.bool false] 4)) (by simp)
    rw [hwA, hBX]; simpa using h
  have qF : BlkB (BX + 2) wA [false] := by
    have h := heap_alloc_new ((w.alloc (.cells #[ei T.st, ei T.ini, .slice la T.labs.length ca, .slice a T.eds.length cap, ei P.st, ei P.ini, .slice pa P.labs.length pc, .slice pb P.eds.length pd] 75)).alloc (.cells #[askV HB] 94)) (.cells #[.bool false] 4)
    rw [hwA, hBX]; simpa [BlkB] using h
  have hFr := (qF.cell 0 (by simp))
  have hFz := (qF.frozen 0)
  have hMW := h.upd uA (by simp)
  have c2A := uA.keep c2
  have hOA := (hO.upd uA (by simp)).mono (show w.heap.size ≤ BX + 2 by omega)
  have HDO : ∀ (W : World) (q : Bool) (a : Nat) (b : Int), Upd [BX + 2] wA W → BlkB (BX + 2) W [q] → (a : Int) < T.st → -1 ≤ b → b < P.st → Calls Tryz.prog 87 #[.int .i64 a, .int .i64 b, .pointer (some ⟨BX + 2, 0, none⟩), .pointer (some ⟨BX + 1, 0, none⟩)] W fun e W' => e = .returned (.tuple #[]) ∧ W' = W.setCell ⟨BX + 2, 0, none⟩ (.bool (q || askB f a b)) := by
    intro W q a b hu hq ha hb1 hb2
    refine any1I (BX + 2) (BX + 1) HB M B ρ n m K f W q (hq.cell 0 (by simp)) (hq.frozen 0) ((qI.upd hu (by simp)).cell 0 _ rfl) (hu.keepF (by have := World.block_lt_of_cell? w _ c2; simp at this; simp; omega) c2A) (hMW.upd hu (by simp; omega)) a (by omega) b hb1 (by omega)
  have S1 := Lib.hid (movesI (askB f) (BX + 2) (BX + 1) T P _ _ _ _ x y false wA f1 f2 f3 f4 hOA hT hP (by omega) qF HDO)
  rw [mov_ch, Bool.false_or] at S1
  have HUA := Lib.hid uA
  have HFN := Lib.hid (show ∀ b ∈ [BX + 2], w.heap.size ≤ b ∨ b ∈ [] by simp; omega)
  obtain ⟨z0, z1, z2, z3, z4, z5, z6, z7⟩ : wA.cell? ⟨BX, 0, none⟩ = some (ei T.st) ∧ wA.cell? ⟨BX, 1, none⟩ = some (ei T.ini) ∧ wA.cell? ⟨BX, 2, none⟩ = some (.slice la T.labs.length ca) ∧ wA.cell? ⟨BX, 3, none⟩ = some (.slice a T.eds.length cap) ∧ wA.cell? ⟨BX, 4, none⟩ = some (ei P.st) ∧ wA.cell? ⟨BX, 5, none⟩ = some (ei P.ini) ∧ wA.cell? ⟨BX, 6, none⟩ = some (.slice pa P.labs.length pc) ∧ wA.cell? ⟨BX, 7, none⟩ = some (.slice pb P.eds.length pd) :=
    ⟨qA.cell 0 _ rfl, qA.cell 1 _ rfl, qA.cell 2 _ rfl, qA.cell 3 _ rfl, qA.cell 4 _ rfl, qA.cell 5 _ rfl, qA.cell 6 _ rfl, qA.cell 7 _ rfl⟩
  generalize chL T P f y (outF T.eds x) = Z at *
  clear hO hT hP hn hm hy c2 h hK uA qA qI qF hFr hFz hMW c2A hOA HDO
  go_enter Tryz.func66, Tryz.ntmps66
  go_upto_region 2 with (fail)
  rw [← hwA, ← hBX]
  have HBX := Lib.hid hBX
  clear hwA hBX
  go_wp2_with fail
  refine S1.out.mono ?_
  rintro e w1 ⟨rfl, hu, hb⟩
  have HU := Lib.hid (HUA.out.fresh hu HFN.out)
  have c9 := hb.cell 0 (by simp)
  simp only [List.getElem_cons_zero] at c9
  clear S1 hu hb
  go_wp2_with fail
  go_ret
  exact ⟨rfl, HU.out⟩

/-- the cells of a model and a property. -/
def obsCs (T P : Sys) (v1 v2 u1 u2 : Value) : List Value := [ei T.st, ei T.ini, v1, v2, ei P.st, ei P.ini, u1, u2]

set_option maxRecDepth 20000 in
set_option maxHeartbeats 4000000 in
theorem leave1I (OB M B : Nat) (ρ : Nat → Nat) (n m K : Nat) (f : Nat → Nat → Bool) (T P : Sys) (v1 v2 u1 u2 : Value) (x y : Nat) (w : World) (f1 f2 f3 f4 : List Nat) (hO : Obs T P v1 v2 u1 u2 f1 f2 f3 f4 w.heap.size w) (hT : sysOk T = true) (hP : sysOk P = true) (hn : T.st = n) (hm : P.st = m) (hy : y < m)
    (hq : RowAt w OB 75 (obsCs T P v1 v2 u1 u2)) (h : MatW M B ρ n m K f w) (hK : K ≤ w.heap.size) :
    Calls Tryz.prog 65 #[.int .i64 x, .int .i64 y, hasV M, .pointer (some ⟨OB, 0, none⟩)] w fun e w' => e = .returned (.bool (chF T P f x y)) ∧ Upd [] w w' := by
  obtain ⟨BX, hBX⟩ : ∃ B, B = w.heap.size := ⟨_, rfl⟩
  obtain ⟨wA, hwA⟩ : ∃ wA, wA = w.alloc (.cells #[hasV M] 94) := ⟨_, rfl⟩
  have uA : Upd [] w wA := by rw [hwA]; exact (Upd.refl _ _).alloc _
  have c2 : wA.cell? ⟨BX, 0, none⟩ = some (hasV M) := by rw [hwA, hBX]; exact cell_new w _ _ _ rfl 0 _ rfl
  have hqA := hq.upd uA (by simp)
  have hs : w.heap.size ≤ wA.heap.size := uA.size
  have S1 := Lib.hid (anyAllI BX M B ρ n m K f T P v1 v2 u1 u2 x y wA f1 f2 f3 f4 ((hO.upd uA (by simp)).mono hs) hT hP hn hm hy c2 (h.upd uA (by simp)) (by omega))
  rw [chL_out] at S1
  have HUA := Lib.hid uA
  obtain ⟨z0, z1, z2, z3, z4, z5, z6, z7⟩ : wA.cell? ⟨OB, 0, none⟩ = some (ei T.st) ∧ wA.cell? ⟨OB, 1, none⟩ = some (ei T.ini) ∧ wA.cell? ⟨OB, 2, none⟩ = some v1 ∧ wA.cell? ⟨OB, 3, none⟩ = some v2 ∧ wA.cell? ⟨OB, 4, none⟩ = some (ei P.st) ∧ wA.cell? ⟨OB, 5, none⟩ = some (ei P.ini) ∧ wA.cell? ⟨OB, 6, none⟩ = some u1 ∧ wA.cell? ⟨OB, 7, none⟩ = some u2 :=
    ⟨hqA.cell 0 _ rfl, hqA.cell 1 _ rfl, hqA.cell 2 _ rfl, hqA.cell 3 _ rfl, hqA.cell 4 _ rfl, hqA.cell 5 _ rfl, hqA.cell 6 _ rfl, hqA.cell 7 _ rfl⟩
  obtain ⟨la, ca, rfl, -, -, -⟩ := slF1_open hO.a
  obtain ⟨a, cap, rfl, -, -, -⟩ := slF3_open hO.b
  obtain ⟨pa, pc, rfl, -, -, -⟩ := slF1_open hO.c
  obtain ⟨pb, pd, rfl, -, -, -⟩ := slF3_open hO.d
  generalize chF T P f x y = Z at *
  clear hO hT hP hn hm hy c2 h hK uA hq hqA hs
  go_enter Tryz.func65, Tryz.ntmps65
  go_upto_region 1 with (fail)
  rw [← hwA, ← hBX]
  clear hwA hBX
  go_wp2_with fail
  refine S1.out.mono ?_
  rintro e w1 ⟨rfl, hu⟩
  have HU := Lib.hid (HUA.out.trans hu)
  clear S1 hu
  go_wp2_with fail
  go_ret
  exact ⟨rfl, HU.out⟩

end Go.Proofs.YtlondofadjcooaaGreatDoor

/-
  slices.Repeat of one truth.
-/
namespace Go.Proofs.YtlondofadjcooaaGreatDoor
open Go.RowKit

theorem splice_rep {α : Type} (m off k : Nat) (a : α) (h : off + k ≤ m) : splice (List.replicate m a) off (List.replicate k a) = List.replicate m a := by
  unfold splice
  rw [List.take_replicate, List.drop_replicate, List.length_replicate, List.replicate_append_replicate, List.replicate_append_replicate]
  congr 1; omega

set_option maxRecDepth 20000 in
set_option maxHeartbeats 4000000 in
theorem repeatI (m : Nat) (b1 : Nat) (w : World) (hm1 : 1 ≤ m) (hm : m ≤ 40) (h : w.cell? ⟨b1, 0, none⟩ = some (.bool false)) :
    Calls Tryz.prog 76 #[.slice (some ⟨b1, 0, none⟩) 1 1, .int .i64 m] w fun e w' => (∃ r, e = .returned (.slice (some ⟨r, 0, none⟩) m m) ∧ BlkB r w' (List.replicate m false) ∧ w.heap.size ≤ r) ∧ Upd [] w w' := by
  obtain ⟨i1, ki, kz0, kz1, kz2⟩ := info_parts Tryz.infoB
  have hm2 : i1.bytes * m ≤ 281474976710656 := by rw [kz2]; omega
  have S1 := Lib.hid (fun W => Tryz.bits_Mul 1 m (by omega) (by omega) W)
  rw [Nat.one_mul, Nat.div_eq_of_lt (by omega), Nat.mod_eq_of_lt (by omega)] at S1
  have hmi : ¬ ((m : Int) < 0) := by omega
  have hml : ¬ (9223372036854775807 < (m : Int)) := by omega
  have hw1 : IntKind.u64.wrap (m : Int) = (m : Int) := by rw [IntKind.wrap_u64]; omega
  have hw2 : IntKind.i64.wrap (m : Int) = (m : Int) := by rw [IntKind.wrap_i64]; omega
  go_enter Tryz.func76, Tryz.ntmps76
  go_wp2_with fail
  refine (S1.out _).mono ?_
  rintro e w1 ⟨rfl, rfl⟩
  clear S1
  go_upto_region 7 with (first
    | (at_make; refine wpList_make_full _ rfl _ _ 48 rfl w1.heap.size 4 i1 (.bool false) 1 Tryz.underlying48 ki kz0 kz1 .i64 .i64 _ _ m rfl rfl rfl rfl hm2 (by unfold maxLen; omega) (Nat.le_refl _) ?_; intro w2 hrow hgrow)
    | fail)
  rw [made_one _ rfl] at hrow
  have hbk := BlkB.ofRow hrow
  have hU : Upd [] w1 w2 := (Upd.refl _ _).grown hgrow (by simp)
  have hcp := hU.keep h
  have hsz : (Tryz.prog.info? 4).map (·.size) = some 1 := by kernel_rfl
  obtain ⟨r, hr⟩ : ∃ r, r = w1.heap.size := ⟨_, rfl⟩
  have hrB := Lib.hid (show w1.heap.size ≤ r by omega)
  rw [← hr] at hbk ⊢
  have HB := Lib.hid hbk
  have HBL := Lib.hid hU.below
  have HSP := Lib.hid (fun off k (h : off + k ≤ m) => splice_rep m off k (Value.bool false) h)
  have hg2 : w2.heap[r]? = some (.cells (List.replicate m (Value.bool false)).toArray 4 (0, 0)) := by
    have := HB.out
    unfold BlkB at this
    rw [this, List.map_replicate]
  clear hrow hgrow hbk hU hr h
  go_wp2_with (first
    | (refine wpList_copy_splice rfl _ _ 48 48 rfl 4 Tryz.underlying48 hsz _ _ m m 1 1 rfl rfl r 0 (List.replicate m (Value.bool false)) 4 hg2 [.bool false] (show 1 = min 1 m by omega) (fun _ => ⟨rfl, _, rfl, fun j v hj => by
        cases j with
        | zero => simp at hj; subst hj; exact hcp
        | succ j => simp at hj⟩) (by simp; omega) (by simp [Value.oneCell']) w1.heap.size w1 HBL.out hrB.out ?_; intro w3 hg3 hb3)
    | fail)
  have HB3 := Lib.hid (show w3.heap[r]? = some (.cells (List.replicate m (Value.bool false)).toArray 4 (0, 0)) by
    have h1 := hg3.out
    have h2 := HSP.out 0 1 (by omega)
    simp only [List.replicate_one] at h2
    rw [h2] at h1
    exact h1)
  have HU3 := Lib.hid hb3
  clear hg3 hb3 hg2 hcp HB HBL
  go_wp2_with fail
  go_loopw [8] (fun kv wr => ∃ k : Nat, 1 ≤ k ∧ k ≤ m ∧ kv = .int .i64 k ∧ Hid (wr.heap[r]? = some (.cells (List.replicate m (Value.bool false)).toArray 4 (0, 0))) ∧ Hid (Below w1.heap.size w1 wr)) (fun kv _ => m - (intOf kv).toNat)
  case atStart => exact ⟨1, Nat.le_refl _, hm1, rfl, HB3, HU3⟩
  case round =>
    clear HB3 HU3
    obtain ⟨wo, rfl⟩ : ∃ wo : World, wo = wr := ⟨_, rfl⟩
    obtain ⟨k, hk1, hk2, rfl, HB, HU⟩ := hrel
    by_cases hlt : k < m
    · have hki : (k : Int) < (m : Int) := by omega
      have hk0 : (0 : Int) ≤ (k : Int) := by omega
      have hkm : (k : Int) ≤ (m : Int) := by omega
      obtain ⟨c, hc⟩ : ∃ c, c = min k (m - k) := ⟨_, rfl⟩
      have hne : ¬ (m = k) := by omega
      have HSRC := Lib.hid (show ∀ j v, (List.replicate c (Value.bool false))[j]? = some v → wo.drew.cell? (Addr.add ⟨r, 0, none⟩ j) = some v by
        intro j v hj
        rw [List.getElem?_replicate] at hj
        split at hj
        · cases hj
          have hl : j < m := by omega
          show wo.cell? (Addr.add ⟨r, 0, none⟩ j) = _
          rw [addr_add, Nat.zero_add]
          simp [World.cell?, HB.out, hl]
        · cases hj)
      have HBW := Lib.hid (show Below w1.heap.size w1 wo.drew from ⟨HU.out.os, HU.out.tape, HU.out.output, HU.out.size, HU.out.block⟩)
      have HGW := Lib.hid (show wo.drew.heap[r]? = some (.cells (List.replicate m (Value.bool false)).toArray 4 (0, 0)) from HB.out)
      have HC := Lib.hid hc
      have hc1 : c ≤ m - k := by omega
      have hc2 : k + c ≤ m := by omega
      have hc3 : 1 ≤ c := by omega
      clear hc
      go_wp2_with fail
      go_region_law ((refine step_copy_splice rfl (.tmp 41) (.tmp 44) 48 48 rfl 4 Tryz.underlying48 hsz (some ⟨r, k, none⟩) (some ⟨r, 0, none⟩) (m - k) (m - k) k m (by go_simp) (by go_simp) r k (List.replicate m (Value.bool false)) 4 HGW.out (List.replicate c (Value.bool false)) (by rw [List.length_replicate]; exact HC.out) (fun _ => ⟨rfl, _, rfl, HSRC.out⟩) (by simp; omega) (by simp [Value.oneCell']) w1.heap.size w1 HBW.out hrB.out ?_; intro w4 hg4 hb4))
      all_goals
        have HB4 := Lib.hid (show w4.heap[r]? = some (.cells (List.replicate m (Value.bool false)).toArray 4 (0, 0)) by
          have h1 := hg4.out
          rw [HSP.out k c hc2] at h1
          exact h1)
        have HU4 := Lib.hid hb4
        clear hg4 hb4 HSRC HBW HGW HC HB HU
        have hkc : IntKind.i64.wrap ((k : Int) + (c : Int)) = ((k + c : Nat) : Int) := by rw [IntKind.wrap_i64]; omega
        rw [hkc]
        go_simp
        go_roundw
        case rel => exact ⟨_, _, _, _, _, _, _, _, _, _, _, _, _, _, ⟨k + c, by omega, by omega, rfl, HB4, HU4⟩, rfl⟩
        case measure => simp [intOf]; omega
    · obtain rfl : k = m := by omega
      have hkk : ¬ ((k : Int) < (k : Int)) := by omega
      go_wp2_with fail
      go_ret
      exact ⟨⟨r, rfl, by have := HB.out; unfold BlkB; rw [this, List.map_replicate], hrB.out⟩, Upd.ofBelow HU.out⟩

end Go.Proofs.YtlondofadjcooaaGreatDoor

/-
  From which pairs of states a property can be left: the program's marks are set as long as a pair asks for it.
-/
namespace Go.Proofs.YtlondofadjcooaaGreatDoor
open Go.RowKit

theorem RowAt.ofRow {w : World} {b n : Nat} {e : TypeId} {xs : List Value} (h : w.ownsRow b e 1 (.slice (some ⟨b, 0, none⟩) n n) n xs) : RowAt w b e xs := by
  obtain ⟨-, ⟨h1, -⟩ | ⟨g, cap, cur, hv, -, hc, -, -, h3, h4⟩⟩ := h
  · cases h1
  · cases hv
    unfold RowAt
    rw [hc, ← h4]
    have : cur.toList.take (n * 1) = cur.toList := List.take_of_length_le (by simp [h3])
    rw [this]
/-- a row of m truths. -/
def rowV (m r : Nat) : Value := .slice (some ⟨r, 0, none⟩) m m
/-- the rows that are made, and those that are not. -/
def rowsV (m n : Nat) (rs : List Nat) : List Value := rs.map (rowV m) ++ List.replicate (n - rs.length) (.slice none 0 0)
theorem rowsV_set (m n : Nat) (rs : List Nat) (r : Nat) (h : rs.length < n) : (rowsV m n rs).set rs.length (rowV m r) = rowsV m n (rs ++ [r]) := by
  unfold rowsV
  rw [List.set_append_right _ _ (by simp), List.length_map, Nat.sub_self, List.map_append, List.append_assoc]
  congr 1
  rw [show n - rs.length = (n - (rs.length + 1)) + 1 by omega, List.replicate_succ, List.set_cons_zero]
  simp
theorem rowsV_get (m n : Nat) (rs : List Nat) (h : rs.length < n) : (rowsV m n rs)[rs.length]? = some (.slice none 0 0) := by
  unfold rowsV
  rw [List.getElem?_append_right (by simp), List.length_map, Nat.sub_self, List.getElem?_replicate, if_pos (by omega)]
theorem MatW.set {M B : Nat} {ρ : Nat → Nat} {n m K : Nat} {f : Nat → Nat → Bool} {w : World} (h : MatW M B ρ n m K f w) {x y : Nat} (hx : x < n) (hne : ∀ i, i < n → ρ i ≠ M ∧ ρ i ≠ B) (hinj : ∀ i j, i < n → j < n → ρ i = ρ j → i = j) (c : Bool) :
    MatW M B ρ n m K (Go.Proofs.YtlondofadjcooaaGreatDoor.upd f x y c) (w.setCell ⟨ρ x, y, none⟩ (.bool c)) := by
  have hu : Upd [ρ x] w (w.setCell ⟨ρ x, y, none⟩ (.bool c)) := (Upd.refl _ _).setCell (Or.inr (by simp)) _
  refine ⟨hu.keepF (by simpa using (hne x hx).1.symm) h.c, fun i hi => hu.keepF (by simpa using (hne x hx).2.symm) (h.r i hi), fun i hi => ?_, h.k⟩
  by_cases e : i = x
  · subst e
    rw [← rowL_set]
    exact (h.b i hi).set y c
  · rw [rowL_far _ _ _ _ _ _ e]
    exact (h.b i hi).upd hu (by simp; intro e2; exact e (hinj i x hi hx e2))
theorem MatW.congr {M B : Nat} {ρ : Nat → Nat} {n m K : Nat} {f g : Nat → Nat → Bool} {w : World} (h : MatW M B ρ n m K f w) (hfg : ∀ i j, i < n → j < m → f i j = g i j) : MatW M B ρ n m K g w := by
  refine ⟨h.c, h.r, fun i hi => ?_, h.k⟩
  have : rowL m g i = rowL m f i := by
    unfold rowL
    exact List.map_congr_left fun j hj => (hfg i j hi (List.mem_range.1 hj)).symm
  rw [this]; exact h.b i hi
theorem MatW.off {M B : Nat} {ρ : Nat → Nat} {n m K : Nat} {f : Nat → Nat → Bool} {w : World} (h : MatW M B ρ n m K f w) : ((List.range n).map fun i => falseAt w (ρ i)).sum = offS n m f :=
  offS_congr fun i hi => (h.b i hi).falseAt
/-- all pairs before a place ask for nothing more. -/
def DoneTo (T P : Sys) (m : Nat) (f : Nat → Nat → Bool) (x y : Nat) : Prop := (∀ a b, a < x → b < m → chF T P f a b = true → f a b = true) ∧ ∀ b, b < y → chF T P f x b = true → f x b = true
theorem DoneTo.next {T P : Sys} {m : Nat} {f : Nat → Nat → Bool} {x y : Nat} (h : DoneTo T P m f x y) (hc : chF T P f x y = true → f x y = true) : DoneTo T P m f x (y + 1) :=
  ⟨h.1, fun b hb => by
    rcases Nat.lt_succ_iff_lt_or_eq.1 hb with hb | rfl
    · exact h.2 b hb
    · exact hc⟩
theorem DoneTo.row {T P : Sys} {m : Nat} {f : Nat → Nat → Bool} {x : Nat} (h : DoneTo T P m f x m) : DoneTo T P m f (x + 1) 0 :=
  ⟨fun a b ha hb => by
    rcases Nat.lt_succ_iff_lt_or_eq.1 ha with ha | rfl
    · exact h.1 a b ha hb
    · exact h.2 b hb, fun b hb => by omega⟩

set_option maxRecDepth 20000 in
set_option maxHeartbeats 8000000 in
theorem settleI (OB : Nat) (T P : Sys) (v1 v2 u1 u2 : Value) (n m : Nat) (w : World) (f1 f2 f3 f4 : List Nat) (hO : Obs T P v1 v2 u1 u2 f1 f2 f3 f4 w.heap.size w) (hT : sysOk T = true) (hP : sysOk P = true) (hn : T.st = n) (hm : P.st = m)
    (hq : RowAt w OB 75 (obsCs T P v1 v2 u1 u2)) :
    Calls Tryz.prog 64 #[.agg #[ei T.st, ei T.ini, v1, v2, ei P.st, ei P.ini, u1, u2], .bool false, chgV OB] w fun e w' => (∃ M B ρ K, e = .returned (.slice (some ⟨B, 0, none⟩) n n) ∧ MatW M B ρ n m K (lvF T P) w') ∧ Upd [] w w' := by
  obtain ⟨i0, hi, hz0, hz1, hz2⟩ := info_parts Tryz.infoR
  have hn9 : 1 ≤ n ∧ n ≤ 40 := by have := (sys_parts hT).1; omega
  have hm9 : 1 ≤ m ∧ m ≤ 40 := by have := (sys_parts hP).1; omega
  have hm1 : i0.bytes * n ≤ 281474976710656 := by rw [hz2]; omega
  have HO := Lib.hid hO
  have HT := Lib.hid hT
  have HP := Lib.hid hP
  have HN := Lib.hid (And.intro hn hm)
  have HQ := Lib.hid hq
  have LV := Lib.hid (fun f h1 h2 x y h3 => lv_ext (T := T) (P := P) hT hP (f := f) h1 h2 x y h3)
  obtain ⟨la, ca, rfl, -, -, -⟩ := slF1_open hO.a
  obtain ⟨a, cap, rfl, -, -, -⟩ := slF3_open hO.b
  obtain ⟨pa, pc, rfl, -, -, -⟩ := slF1_open hO.c
  obtain ⟨pb, pd, rfl, -, -, -⟩ := slF3_open hO.d
  obtain ⟨BX, hBX⟩ : ∃ B, B = w.heap.size := ⟨_, rfl⟩
  obtain ⟨wA, hwA⟩ : ∃ wA, wA = w.alloc (.cells #[ei T.st, ei T.ini, .slice la T.labs.length ca, .slice a T.eds.length cap, ei P.st, ei P.ini, .slice pa P.labs.length pc, .slice pb P.eds.length pd] 75) := ⟨_, rfl⟩
  have uA : Upd [] w wA := by rw [hwA]; exact (Upd.refl _ _).alloc _
  have qA : RowAt wA BX 75 [ei T.st, ei T.ini, .slice la T.labs.length ca, .slice a T.eds.length cap, ei P.st, ei P.ini, .slice pa P.labs.length pc, .slice pb P.eds.length pd] := by rw [hwA, hBX]; exact RowAt.new _ _ _
  have c0 := qA.cell 0 _ rfl
  have HQX := Lib.hid qA
  have HUA := Lib.hid uA
  have hszA : wA.heap.size = BX + 1 := by rw [hwA, hBX]; simp
  have HSA := Lib.hid (And.intro hszA hBX)
  rw [hn] at c0
  clear hO hq hT hP uA qA hszA hn hm
  go_enter Tryz.func64, Tryz.ntmps64
  go_upto_region 1 with (fail)
  rw [← hwA, ← hBX]
  clear hwA hBX
  obtain ⟨B, hB⟩ : ∃ B, B = wA.heap.size := ⟨_, rfl⟩
  go_upto_region 2 with (first
    | (at_make; refine wpList_make_full _ rfl _ _ 73 rfl wA.heap.size 48 i0 (.slice none 0 0) 1 Tryz.underlying73 hi hz0 hz1 .i64 .i64 _ _ n rfl rfl rfl rfl hm1 (by unfold maxLen; omega) (Nat.le_refl _) ?_; intro w1 hown hgrow)
    | fail)
  rw [made_one _ rfl] at hown
  rw [← hB] at hown ⊢
  have hrow := RowAt.ofRow hown
  have hu1 : Upd [] wA w1 := (Upd.refl _ _).grown hgrow (by simp)
  obtain ⟨M, hM⟩ : ∃ M, M = w1.heap.size := ⟨_, rfl⟩
  obtain ⟨w2, hw2⟩ : ∃ w2, w2 = w1.alloc (.cells #[.slice (some ⟨B, 0, none⟩) n n] 73) := ⟨_, rfl⟩
  have hu2 : Upd [] w1 w2 := by rw [hw2]; exact (Upd.refl _ _).alloc _
  have cM : w2.cell? ⟨M, 0, none⟩ = some (.slice (some ⟨B, 0, none⟩) n n) := by rw [hw2, hM]; exact cell_new w1 _ _ _ rfl 0 _ rfl
  have hMB : B < M := by have := hrow.lt; omega
  have hMs : M < w2.heap.size := by rw [hw2, hM]; simp
  rw [← hw2, ← hM]
  have HR0 := Lib.hid (show RowAt w2 B 48 (rowsV m n []) from hrow.upd hu2 (by simp))
  have hXB : BX < B := by have := HSA.out; omega
  have HU2 := Lib.hid (HUA.out.trans (hu1.trans hu2))
  have HX2 := Lib.hid (HQX.out.upd (hu1.trans hu2) (by simp))
  have HB9 := Lib.hid (show w.heap.size ≤ B by have := HSA.out; omega)
  clear hown hgrow hrow hu1 hu2 hw2 hM hB HUA HQX hm1
  go_wp2_with fail
  go_loopw [19] (fun iv wr => ∃ rs : List Nat, rs.length ≤ n ∧ iv = .int .i64 rs.length ∧ Hid (RowAt wr B 48 (rowsV m n rs)) ∧ Hid (Upd [B] w2 wr) ∧ Hid (∀ r ∈ rs, BlkB r wr (List.replicate m false) ∧ w2.heap.size ≤ r) ∧ Hid rs.Nodup) (fun iv _ => n - (intOf iv).toNat)
  case atStart => exact ⟨[], Nat.zero_le _, rfl, HR0, Lib.hid (Upd.refl _ _), Lib.hid (by simp), Lib.hid (by simp)⟩
  case round =>
    clear HR0 c0
    obtain ⟨wo, rfl⟩ : ∃ wo : World, wo = wr := ⟨_, rfl⟩
    obtain ⟨rs, hi, rfl, HR, HU, HRS, HND⟩ := hrel
    have cM' := HU.out.keepF (show M ∉ [B] by simp; omega) cM
    by_cases hlt : rs.length < n
    · have c4 := (HX2.out.upd HU.out (by simp; omega)).cell 4 _ rfl
      have HRT := Lib.hid (show P.st = (m : Int) from HN.out.2)
      rw [HRT.out] at c4
      have hil : (rs.length : Int) < (n : Int) := by omega
      have ck := HR.out.cell rs.length _ (rowsV_get m n rs hlt)
      have HSET := Lib.hid (rowsV_set m n rs)
      have hBM : B ≠ M := by omega
      have hBX : B ≠ BX := by omega
      have HWO := Lib.hid (show B < wo.heap.size from HR.out.lt)
      have REP := Lib.hid (fun b1 W h => repeatI m b1 W hm9.1 hm9.2 h)
      have HCN := Lib.hid (show (wo.alloc (.cells #[.bool false] 4)).drew.cell? ⟨wo.heap.size, 0, none⟩ = some (.bool false) from cell_new wo #[.bool false] _ _ rfl 0 _ rfl)
      clear cM
      generalize hk : rs.length = k at *
      have HK := Lib.hid hk
      clear hk
      go_upto_region 5 with (fail)
      go_region_held3 (fun w' => w'.cell? ⟨M, 0, none⟩ = some (.slice (some ⟨B, 0, none⟩) n n) ∧ w'.cell? ⟨BX, 4, none⟩ = some (ei m)) (first | go_keep | (go_split_ands; refine ⟨?_, ?_⟩ <;> (rw [World.cell?_setCell_other _ _ _ _ (by intro h; simp only [Addr.mk.injEq] at h; omega)]; assumption)))
        (first
          | ((go_at_call 76); (with_reducible refine (REP.out wo.heap.size (wo.alloc (.cells #[.bool false] 4)).drew HCN.out).mono ?_); rintro e w5 ⟨⟨r, rfl, hb5, hr5⟩, hu5⟩; have k1 := hu5.keep (((Upd.refl [] wo).alloc (.cells #[.bool false] 4)).drew.keep (show wo.cell? ⟨M, 0, none⟩ = _ from cM')); have k2 := hu5.keep (((Upd.refl [] wo).alloc (.cells #[.bool false] 4)).drew.keep (show wo.cell? ⟨BX, 4, none⟩ = _ from c4)); have k3 := hu5.keep (((Upd.refl [] wo).alloc (.cells #[.bool false] 4)).drew.keep (show wo.cell? ⟨B, k, none⟩ = _ from ck)); have k4 := ((HR.out.upd ((((Upd.refl [] wo).alloc (.cells #[.bool false] 4)).drew).trans hu5) (by simp)).fz k)))
      all_goals
        have UW : Upd [] wo w5 := (((Upd.refl [] wo).alloc (.cells #[.bool false] 4)).drew).trans hu5
        have h6 := (HR.out.upd UW (by simp)).store k (rowV m r)
        have hst := HSET.out r hlt
        rw [hst] at h6
        have HR6 := Lib.hid (show RowAt (w5.setCell ⟨B, k, none⟩ (.slice (some ⟨r, 0, none⟩) m m)) B 48 (rowsV m n (rs ++ [r])) from h6)
        have U5 : Upd [B] w5 (w5.setCell ⟨B, k, none⟩ (.slice (some ⟨r, 0, none⟩) m m)) := (Upd.refl _ _).setCell (p := ⟨B, k, none⟩) (Or.inr (by simp)) _
        have HU6 := Lib.hid ((HU.out.trans (UW.mono (show ∀ b ∈ [], b ∈ [B] by simp))).trans U5)
        have HB2 : B < w2.heap.size := by omega
        have hsz := UW.size
        have hszU := HU.out.size
        have hsz4 : wo.heap.size ≤ r := by simp at hr5; omega
        have HRS6 := Lib.hid (show ∀ r' ∈ rs ++ [r], BlkB r' (w5.setCell ⟨B, k, none⟩ (.slice (some ⟨r, 0, none⟩) m m)) (List.replicate m false) ∧ w2.heap.size ≤ r' by
          intro r' hr'
          rcases List.mem_append.1 hr' with h | h
          · have := HRS.out r' h
            exact ⟨(this.1.upd UW (by simp)).upd U5 (by simp; omega), this.2⟩
          · simp at h; subst h
            exact ⟨hb5.upd U5 (by simp; omega), by omega⟩)
        have HND6 := Lib.hid (show (rs ++ [r]).Nodup by
          rw [List.nodup_append]
          refine ⟨HND.out, by simp, fun a ha b hb => ?_⟩
          simp at hb; subst hb
          intro e
          subst e
          have := (HRS.out a ha).1.lt
          omega)
        have HL6 := Lib.hid (show (rs ++ [r]).length = k + 1 by simp [HK.out])
        clear h6 hst hu5 hb5 UW U5 k1 k2 k3 k4 HR HU HRS HND c4 ck cM' hr5
        go_wp2_with fail
        go_roundw
        case rel => exact ⟨rs ++ [r], by rw [HL6.out]; omega, by rw [HL6.out]; go_num, HR6, HU6, HRS6, HND6⟩
        case measure => simp [intOf]; omega
    · have hrn : rs.length = n := by omega
      have HMW := Lib.hid (show MatW M B (fun i => rs.getD i 0) n m wo.heap.size (fun _ _ => false) wo from by
        have hg : ∀ i (h : i < n), rs.getD i 0 = rs[i]'(by omega) := fun i h => by rw [List.getD_eq_getElem?_getD, List.getElem?_eq_getElem (by omega)]; rfl
        have hs := HU.out.size
        refine ⟨cM', fun i hi => ?_, fun i hi => ?_, by omega, HR.out.lt, fun i hi => ?_⟩
        · refine HR.out.cell i _ ?_
          unfold rowsV
          rw [List.getElem?_append_left (by simp; omega), List.getElem?_map, List.getElem?_eq_getElem (by omega), hg i hi]
          rfl
        · rw [rowL_false, hg i hi]
          exact (HRS.out _ (List.getElem_mem _)).1
        · rw [hg i hi]
          exact (HRS.out _ (List.getElem_mem _)).1.lt)
      have HNE := Lib.hid (show ∀ i, i < n → rs.getD i 0 ≠ M ∧ rs.getD i 0 ≠ B ∧ w.heap.size ≤ rs.getD i 0 from by
        intro i hi
        have hg : rs.getD i 0 = rs[i]'(by omega) := by rw [List.getD_eq_getElem?_getD, List.getElem?_eq_getElem (by omega)]; rfl
        have h := (HRS.out _ (List.getElem_mem (show i < rs.length by omega))).2
        have h2 := HU2.out.size
        rw [hg]
        omega)
      have HIN := Lib.hid (show ∀ i j, i < n → j < n → rs.getD i 0 = rs.getD j 0 → i = j from by
        intro i j hi hj e
        rw [List.getD_eq_getElem?_getD, List.getElem?_eq_getElem (show i < rs.length by omega), List.getD_eq_getElem?_getD, List.getElem?_eq_getElem (show j < rs.length by omega)] at e
        simp only [Option.getD_some] at e
        have hp := List.pairwise_iff_getElem.1 HND.out
        rcases Nat.lt_trichotomy i j with h | h | h
        · exact absurd e (hp i j (by omega) (by omega) h)
        · exact h
        · exact absurd e.symm (hp j i (by omega) (by omega) h))
      obtain ⟨ρ, hρ⟩ : ∃ ρ : Nat → Nat, ρ = fun i => rs.getD i 0 := ⟨_, rfl⟩
      have HMW := Lib.hid (show MatW M B ρ n m wo.heap.size (fun _ _ => false) wo by rw [hρ]; exact HMW.out)
      have HNE := Lib.hid (show ∀ i, i < n → ρ i ≠ M ∧ ρ i ≠ B ∧ w.heap.size ≤ ρ i by rw [hρ]; exact HNE.out)
      have HIN := Lib.hid (show ∀ i j, i < n → j < n → ρ i = ρ j → i = j by rw [hρ]; exact HIN.out)
      have HUW := Lib.hid (show Upd [] w wo from HU2.out.fresh HU.out (by simp; exact HB9.out))
      have HKS := Lib.hid (show wo.heap.size ≤ wo.heap.size from Nat.le_refl _)
      obtain ⟨K, hK⟩ : ∃ K, K = wo.heap.size := ⟨_, rfl⟩
      rw [← hK] at HMW
      have HKS := Lib.hid (show K ≤ wo.heap.size by omega)
      rw [hrn]
      clear hρ hK HR HU HRS HND cM cM' hi hlt hrn HB9 HU2 HX2
      go_wp2_with fail
      go_loopw [10] (fun av wr => ∃ (g : Nat → Nat → Bool) (q : Bool), av = .bool q ∧ Hid (MatW M B ρ n m K g wr) ∧ Hid (Upd [] w wr) ∧ Hid (K ≤ wr.heap.size) ∧ Hid (∀ x y : Nat, g x y = true → Lv T P x y) ∧ Hid (q = false → ∀ x y : Nat, x < n → y < m → chF T P g x y = true → g x y = true)) (fun av wr => 2 * ((List.range n).map fun i => falseAt wr (ρ i)).sum + oneIf av)
      case atStart => exact ⟨_, true, rfl, HMW, HUW, HKS, Lib.hid (fun x y h => by cases h), Lib.hid (fun h => by cases h)⟩
      case round =>
        clear HMW HUW HKS
        obtain ⟨wq, rfl⟩ : ∃ wq : World, wq = wr := ⟨_, rfl⟩
        obtain ⟨g, q, rfl, HM, HU, HK, HS, HC⟩ := hrel
        have cM := HM.out.c
        cases q with
        | false =>
          have HZ := Lib.hid (show MatW M B ρ n m K (lvF T P) wq from HM.out.congr (fun i j hi hj => LV.out g HS.out (fun x y hx hy => HC.out rfl x y (by have := HN.out.1; omega) (by have := HN.out.2; omega)) i j (by have := HN.out.2; omega)))
          clear HM HS HC LV
          go_wp2_with fail
          go_ret
          exact ⟨⟨M, B, ρ, K, rfl, HZ.out⟩, HU.out⟩
        | true =>
          have HQ0 := Lib.hid HM.out.off
          clear HC
          go_wp2_with fail
          go_loopw [10, 36] (fun av iv wr => ∃ (g' : Nat → Nat → Bool) (q : Bool) (i : Nat), i ≤ n ∧ iv = .int .i64 i ∧ av = .bool q ∧ Hid (MatW M B ρ n m K g' wr) ∧ Hid (Upd [] w wr) ∧ Hid (K ≤ wr.heap.size) ∧ Hid (∀ x y : Nat, g' x y = true → Lv T P x y) ∧ Hid (offS n m g' ≤ offS n m g) ∧ Hid (q = true → offS n m g' < offS n m g) ∧ Hid (q = false → DoneTo T P m g' i 0)) (fun _ iv _ => n - (intOf iv).toNat)
          case atStart => exact ⟨g, false, 0, Nat.zero_le _, rfl, rfl, HM, HU, HK, HS, Lib.hid (Nat.le_refl _), Lib.hid (fun h => by cases h), Lib.hid (fun _ => ⟨fun a b ha => by omega, fun b hb => by omega⟩)⟩
          case round =>
            clear HM HU HK HS cM
            obtain ⟨wo, rfl⟩ : ∃ wo : World, wo = wr := ⟨_, rfl⟩
            obtain ⟨g', q, i, hi, rfl, rfl, HM, HU, HK, HS, HL1, HL2, HD⟩ := hrel
            have cM := HM.out.c
            by_cases hlt : i < n
            · have cr := HM.out.r i hlt
              have hil : (i : Int) < (n : Int) := by omega
              go_wp2_with fail
              go_loopw [10, 44] (fun av jv wr => ∃ (g2 : Nat → Nat → Bool) (q : Bool) (j : Nat), j ≤ m ∧ jv = .int .i64 j ∧ av = .bool q ∧ Hid (MatW M B ρ n m K g2 wr) ∧ Hid (Upd [] w wr) ∧ Hid (K ≤ wr.heap.size) ∧ Hid (∀ x y : Nat, g2 x y = true → Lv T P x y) ∧ Hid (offS n m g2 ≤ offS n m g) ∧ Hid (q = true → offS n m g2 < offS n m g) ∧ Hid (q = false → DoneTo T P m g2 i j)) (fun _ jv _ => m - (intOf jv).toNat)
              case atStart => exact ⟨g', q, 0, Nat.zero_le _, rfl, rfl, HM, HU, HK, HS, HL1, HL2, HD⟩
              case round =>
                clear HM HU HK HS cM cr HL1 HL2 HD
                obtain ⟨wp, rfl⟩ : ∃ wp : World, wp = wr := ⟨_, rfl⟩
                obtain ⟨g2, q, j, hj, rfl, rfl, HM, HU, HK, HS, HL1, HL2, HD⟩ := hrel
                by_cases hjm : j < m
                · have cM := HM.out.c
                  have cr := HM.out.r i hlt
                  have cb := (HM.out.b i hlt).cell j (by simp; omega)
                  rw [rowL_get] at cb
                  have hjl : (j : Int) < (m : Int) := by omega
                  have HOP := Lib.hid (HO.out.upd HU.out (by simp))
                  have CH := Lib.hid (leave1I OB M B ρ n m K g2 T P _ _ _ _ i j wp f1 f2 f3 f4 (HOP.out.mono HU.out.size) HT.out HP.out HN.out.1 HN.out.2 hjm (HQ.out.upd HU.out (by simp)) HM.out HK.out)
                  have hent := enter_chg
                  cases hq : g2 i j with
                  | true =>
                    rw [hq] at cb
                    have HD9 := Lib.hid (show q = false → DoneTo T P m g2 i (j + 1) from fun h => (HD.out h).next (fun _ => hq))
                    clear CH HD hent HOP hq
                    go_wp2_with fail
                    go_roundw
                    case rel => exact ⟨g2, q, j + 1, by omega, by go_num, rfl, HM, HU, HK, HS, HL1, HL2, HD9⟩
                    case measure => simp [intOf]; omega
                  | false =>
                    rw [hq] at cb
                    have HQF := Lib.hid hq
                    clear hq HOP
                    cases hc : chF T P g2 i j with
                    | false =>
                      rw [hc] at CH
                      have HD9 := Lib.hid (show q = false → DoneTo T P m g2 i (j + 1) from fun h => (HD.out h).next (fun h => by rw [hc] at h; cases h))
                      clear hc HD
                      go_wp2_with fail
                      refine CH.out.mono ?_
                      rintro e w5 ⟨rfl, hu5⟩
                      have HM5 := Lib.hid (HM.out.upd hu5 (by simp))
                      have HU5 := Lib.hid (HU.out.trans hu5)
                      have HK5 := Lib.hid (show K ≤ w5.heap.size by have := HK.out; have := hu5.size; omega)
                      clear CH hu5 HM HU HK cM cr cb hent HQF
                      go_wp2_with fail
                      go_roundw
                      case rel => exact ⟨g2, q, j + 1, by omega, by go_num, rfl, HM5, HU5, HK5, HS, HL1, HL2, HD9⟩
                      case measure => simp [intOf]; omega
                    | true =>
                      rw [hc] at CH
                      have HS9 := Lib.hid (lv_push2 HT.out HS.out hc)
                      clear hc HD
                      go_wp2_with fail
                      refine CH.out.mono ?_
                      rintro e w5 ⟨rfl, hu5⟩
                      have hm5 := HM.out.upd hu5 (by simp)
                      have k0 := hm5.c
                      have k1 := hm5.r i hlt
                      have k2 := (hm5.b i hlt).cell j (by simp; omega)
                      rw [rowL_get] at k2
                      have k3 := (hm5.b i hlt).frozen j
                      have HM6 := Lib.hid (hm5.set (x := i) (y := j) hlt (fun i hi => ⟨(HNE.out i hi).1, (HNE.out i hi).2.1⟩) HIN.out true)
                      have HU6 := Lib.hid ((HU.out.trans hu5).setCell (p := ⟨ρ i, j, none⟩) (Or.inl (HNE.out i hlt).2.2) (.bool true))
                      have HK6 := Lib.hid (show K ≤ (w5.setCell ⟨ρ i, j, none⟩ (.bool true)).heap.size by have := HK.out; have := hu5.size; simp [World.setCell]; omega)
                      have hof := offS_upd (n := n) (m := m) hlt hjm HQF.out
                      have HL6 := Lib.hid (show offS n m (Go.Proofs.YtlondofadjcooaaGreatDoor.upd g2 i j true) < offS n m g by have := HL1.out; omega)
                      clear CH hu5 hm5 HM HU HK cM cr cb hent HQF HS HL1 HL2 hof
                      go_wp2_with fail
                      go_roundw
                      case rel => exact ⟨Go.Proofs.YtlondofadjcooaaGreatDoor.upd g2 i j true, true, j + 1, by omega, by go_num, rfl, HM6, HU6, HK6, HS9, Lib.hid (Nat.le_of_lt HL6.out), Lib.hid (fun _ => HL6.out), Lib.hid (fun h => by cases h)⟩
                      case measure => simp [intOf]; omega
                · obtain rfl : j = m := by omega
                  have HD9 := Lib.hid (show q = false → DoneTo T P j g2 (i + 1) 0 from fun h => (HD.out h).row)
                  clear HD
                  go_wp2_with fail
                  go_roundw
                  case rel => exact ⟨g2, q, i + 1, by omega, by go_num, rfl, HM, HU, HK, HS, HL1, HL2, HD9⟩
                  case measure => simp [intOf]; omega
            · obtain rfl : i = n := by omega
              have HC9 := Lib.hid (show q = false → ∀ x y : Nat, x < i → y < m → chF T P g' x y = true → g' x y = true from fun h => (HD.out h).1)
              have HQ9 := Lib.hid HM.out.off
              clear HD
              go_wp2_with fail
              go_roundw
              case rel => exact ⟨g', q, rfl, HM, HU, HK, HS, HC9⟩
              case measure =>
                rw [HQ0.out, HQ9.out]
                have h1 := HL1.out
                cases q with
                | false => simp [oneIf]; omega
                | true => have h2 := HL2.out rfl; simp [oneIf]; omega

end Go.Proofs.YtlondofadjcooaaGreatDoor

/-
  From which pairs of states a property can be left: the program's list, its checks, and the whole call.
-/
namespace Go.Proofs.YtlondofadjcooaaGreatDoor
open Go.RowKit

theorem allR_succ (m : Nat) (f : Nat → Nat → Bool) (i : Nat) : allR m f (i + 1) = allR m f i ++ rowTo f i m := by
  simp [allR, List.range_succ, List.flatMap_append]
theorem allR_length (m : Nat) (f : Nat → Nat → Bool) (i : Nat) : (allR m f i).length ≤ i * m := by
  induction i with
  | zero => simp [allR]
  | succ i ih => rw [allR_succ, List.length_append, Nat.add_mul]; have := rowTo_length f i m; omega

set_option maxRecDepth 20000 in
set_option maxHeartbeats 1000000 in
theorem listRI (M B : Nat) (ρ : Nat → Nat) (n m K : Nat) (f : Nat → Nat → Bool) (w : World) (hn : n ≤ 40) (hm : m ≤ 40) (hW : MatW M B ρ n m K f w) :
    Calls Tryz.prog 45 #[.slice (some ⟨B, 0, none⟩) n n] w fun e w' => (∃ v', e = .returned v' ∧ New R2 w w' v' (allR m f n)) ∧ Upd [] w w' := by
  obtain ⟨i0, hi, hz0, hz1, hz2⟩ := info_parts Tryz.info26
  have HW := Lib.hid hW
  clear hW
  go_enter Tryz.func45, Tryz.ntmps45
  go_wp2
  go_loopw [3, 10] (fun vo i wr => ∃ k : Nat, k ≤ n ∧ i = .int .i64 k ∧ Upd [] w wr ∧ Acc R1 w 26 wr vo (allR m f k)) (fun _ i _ => n - (intOf i).toNat)
  case atStart => exact ⟨0, Nat.zero_le _, rfl, Upd.refl _ _, Acc.nil _ _ _ _⟩
  case round =>
    obtain ⟨k, hk, rfl, hU, hacc⟩ := hrel
    by_cases hlt : k < n
    · have hcell : wr.cell? ⟨B, k, none⟩ = some (.slice (some ⟨ρ k, 0, none⟩) m m) := hU.keep (HW.out.r k hlt)
      have hki : (k : Int) < (n : Int) := by omega
      go_wp2_with fail
      obtain ⟨wo, rfl⟩ : ∃ wo : World, wo = wr := ⟨_, rfl⟩
      go_loopw [3, 17] (fun vo i wr => ∃ j : Nat, j ≤ m ∧ i = .int .i64 j ∧ Upd [] w wr ∧ Acc R1 w 26 wr vo (allR m f k ++ rowTo f k j)) (fun _ i _ => m - (intOf i).toNat)
      case atStart => exact ⟨0, Nat.zero_le _, rfl, hU, by simpa [rowTo] using hacc⟩
      case round =>
        obtain ⟨j, hj, rfl, hU, hacc⟩ := hrel
        by_cases hjn : j < m
        · have hjl : j < (rowL m f k).length := by simp; omega
          have hcell3 : wr.cell? ⟨ρ k, j, none⟩ = some (.bool (f k j)) := by
            have h := (HW.out.b k hlt).cell j hjl
            rw [rowL_get] at h
            exact hU.keep h
          have hji : (j : Int) < (m : Int) := by omega
          clear hjl
          have hrs := rowTo_succ f k j
          cases hf : f k j
          · rw [hf] at hcell3 hrs
            have HR := Lib.hid hrs
            clear hf hrs
            go_wp2_with fail
            go_roundw
            case rel => exact ⟨j + 1, by omega, by go_num, hU, by rw [HR.out]; simpa using hacc⟩
            case measure => simp [intOf]; omega
          · rw [hf] at hcell3 hrs
            have HR := Lib.hid hrs
            obtain ⟨us, hown, hrows⟩ := hacc
            have hbd : (allR m f k).length + (rowTo f k j).length ≤ 1600 := by
              have q1 := allR_length m f k
              have q2 := rowTo_length f k j
              have q3 : k * m ≤ 39 * 40 := Nat.mul_le_mul (by omega) hm
              omega
            have hsz := hU.size
            clear hf hrs
            go_wp2_with (first
              | (at_builtin; refine wpList_append_tight _ rfl _ _ 40 rfl w.heap.size 26 i0 (.slice none 0 0) 1 24 Tryz.underlying40 hi hz0 hz1 hz2 rfl (by decide) _ _ _ rfl ((hown.alloc _).alloc _) ⟨wr.heap.size + 1, 0, none⟩ 1 1 [.slice (some ⟨wr.heap.size, 0, none⟩) 2 2] rfl rfl ?c1 ?c2 ?c3 ?c4 ?c5 ?_)
              | fail)
            case c2 => rfl
            case c3 => unfold maxLen; omega
            case c4 => omega
            case c5 => omega
            intro v2 w2 hown2 hg2 ht2
            have hnew : New R1 wr (wr.alloc (.cells #[.int .i64 k, .int .i64 j] 2)) (.slice (some ⟨wr.heap.size, 0, none⟩) 2 2) [(k : Int), (j : Int)] :=
              new_lit (enc := ei) wr 2 [(k : Int), (j : Int)] (by simp [maxLen])
            have hU2 : Upd [] w w2 := ((hU.alloc _).alloc _).grown hg2 (fun b hb => Or.inl ((hown.lt b hb).1))
            have hacc2 := Acc.push R1k hown hrows hsz ((Upd.refl [] wr).alloc _) hnew _ (by simpa using hown2) hg2 (by simpa using ht2)
            rw [List.append_assoc, show rowTo f k j ++ [[(k : Int), (j : Int)]] = rowTo f k (j + 1) from by rw [HR.out]; simp] at hacc2
            clear hown hrows hown2 hg2 ht2 hnew hbd hU
            go_wp2_with fail
            go_roundw
            case rel => exact ⟨j + 1, by omega, by go_num, hU2, hacc2⟩
            case measure => simp [intOf]; omega
        · obtain rfl : j = m := by omega
          have has := allR_succ j f k
          have HA := Lib.hid has
          clear has
          go_wp2_with fail
          go_roundw
          case rel => exact ⟨k + 1, by omega, by go_num, hU, by rw [HA.out]; exact hacc⟩
          case measure => simp [intOf]; omega
    · obtain rfl : k = n := by omega
      go_wp2
      go_ret
      exact ⟨⟨_, rfl, hacc.new⟩, hU⟩

set_option maxRecDepth 20000 in
set_option maxHeartbeats 2000000 in
theorem leaveMI (T P : Sys) (v1 v2 u1 u2 : Value) (n m : Nat) (w : World) (f1 f2 f3 f4 : List Nat) (hO : Obs T P v1 v2 u1 u2 f1 f2 f3 f4 w.heap.size w) (hT : sysOk T = true) (hP : sysOk P = true) (hn : T.st = n) (hm : P.st = m) :
    Calls Tryz.prog 44 #[.agg #[ei T.st, ei T.ini, v1, v2, ei P.st, ei P.ini, u1, u2]] w fun e w' => (∃ M B ρ K, e = .returned (.slice (some ⟨B, 0, none⟩) n n) ∧ MatW M B ρ n m K (lvF T P) w') ∧ Upd [] w w' := by
  obtain ⟨la, ca, rfl, -, -, -⟩ := slF1_open hO.a
  obtain ⟨a, cap, rfl, -, -, -⟩ := slF3_open hO.b
  obtain ⟨pa, pc, rfl, -, -, -⟩ := slF1_open hO.c
  obtain ⟨pb, pd, rfl, -, -, -⟩ := slF3_open hO.d
  obtain ⟨BX, hBX⟩ : ∃ B, B = w.heap.size := ⟨_, rfl⟩
  obtain ⟨wA, hwA⟩ : ∃ wA, wA = w.alloc (.cells #[ei T.st, ei T.ini, .slice la T.labs.length ca, .slice a T.eds.length cap, ei P.st, ei P.ini, .slice pa P.labs.length pc, .slice pb P.eds.length pd] 75) := ⟨_, rfl⟩
  have uA : Upd [] w wA := by rw [hwA]; exact (Upd.refl _ _).alloc _
  have qA : RowAt wA BX 75 [ei T.st, ei T.ini, .slice la T.labs.length ca, .slice a T.eds.length cap, ei P.st, ei P.ini, .slice pa P.labs.length pc, .slice pb P.eds.length pd] := by rw [hwA, hBX]; exact RowAt.new _ _ _
  obtain ⟨z0, z1, z2, z3, z4, z5, z6, z7⟩ : wA.cell? ⟨BX, 0, none⟩ = some (ei T.st) ∧ wA.cell? ⟨BX, 1, none⟩ = some (ei T.ini) ∧ wA.cell? ⟨BX, 2, none⟩ = some (.slice la T.labs.length ca) ∧ wA.cell? ⟨BX, 3, none⟩ = some (.slice a T.eds.length cap) ∧ wA.cell? ⟨BX, 4, none⟩ = some (ei P.st) ∧ wA.cell? ⟨BX, 5, none⟩ = some (ei P.ini) ∧ wA.cell? ⟨BX, 6, none⟩ = some (.slice pa P.labs.length pc) ∧ wA.cell? ⟨BX, 7, none⟩ = some (.slice pb P.eds.length pd) :=
    ⟨qA.cell 0 _ rfl, qA.cell 1 _ rfl, qA.cell 2 _ rfl, qA.cell 3 _ rfl, qA.cell 4 _ rfl, qA.cell 5 _ rfl, qA.cell 6 _ rfl, qA.cell 7 _ rfl⟩
  have S1 := Lib.hid (settleI BX T P _ _ _ _ n m wA f1 f2 f3 f4 ((hO.upd uA (by simp)).mono uA.size) hT hP hn hm qA)
  have HUA := Lib.hid uA
  clear hO hT hP hn hm uA qA
  go_enter Tryz.func44, Tryz.ntmps44
  go_upto_region 1 with (fail)
  rw [← hwA, ← hBX]
  clear hwA hBX
  go_wp2_with fail
  refine S1.out.mono ?_
  rintro e w1 ⟨⟨M, B, ρ, K, rfl, hW⟩, hu⟩
  have HW := Lib.hid hW
  have HU := Lib.hid (HUA.out.trans hu)
  clear S1 hu hW
  go_wp2_with fail
  go_ret
  exact ⟨⟨M, B, ρ, K, rfl, HW.out⟩, HU.out⟩

end Go.Proofs.YtlondofadjcooaaGreatDoor

/-
  From which pairs of states a property can be left: the program's checks and its call.
-/
namespace Go.Proofs.YtlondofadjcooaaGreatDoor
open Go.RowKit

theorem oneAt_zero (x : Sys) (h : 0 < x.eds.length) : oneAt x 0 = !(x.eds[0].lb == 0) := by
  unfold oneAt
  rw [List.getD_eq_getElem?_getD, List.getElem?_eq_getElem h]
  simp
theorem oneAt_succ (x : Sys) (k : Nat) (h : k + 1 < x.eds.length) : oneAt x (k + 1) = (!(x.eds[k + 1].lb == 0) && !((x.eds[k].fr == x.eds[k + 1].fr) && (x.eds[k].lb == x.eds[k + 1].lb))) := by
  unfold oneAt
  rw [Nat.add_sub_cancel, List.getD_eq_getElem?_getD, List.getElem?_eq_getElem h, List.getD_eq_getElem?_getD, List.getElem?_eq_getElem (show k < x.eds.length by omega)]
  simp
theorem oneF_no (x : Sys) (i : Nat) (h : i < x.eds.length) (hf : oneAt x i = false) : oneF x = false := by
  unfold oneF
  cases hq : allF (oneAt x) 0 x.eds.length with
  | false => rfl
  | true => have := allF_get hq i (Nat.zero_le _) (by omega); rw [hf] at this; cases this

theorem allF_mk {P : Nat → Bool} : ∀ {m k : Nat}, (∀ i, k ≤ i → i < k + m → P i = true) → allF P k m = true
  | 0, _, _ => rfl
  | m + 1, k, h => by
    have h1 := h k (Nat.le_refl _) (by omega)
    have h2 := allF_mk (m := m) (k := k + 1) (fun i hi hl => h i (by omega) (by omega))
    show (P k && allF P (k + 1) m) = true
    rw [h1, h2]; rfl

set_option maxRecDepth 20000 in
set_option maxHeartbeats 4000000 in
theorem detI (x : Sys) (v1 v2 : Value) (w : World) (f1 f2 : List Nat) (h1 : RS f1 w [v1] x.labs) (h2 : R_E1 f2 w [v2] x.eds) (hp : ∀ p ∈ x.labs, p.length ≤ 2000000) (he : Env w) (hok : sysOk x = true) :
    Calls Tryz.prog 63 #[.agg #[ei x.st, ei x.ini, v1, v2]] w fun e w' => e = .returned (.bool (oneF x)) ∧ Upd [] w w' := by
  obtain ⟨la, ca, rfl, -, -, -⟩ := slF1_open h1
  obtain ⟨a, cap, rfl, -, l2, hc⟩ := slF3_open h2
  unfold maxLen at l2
  have hxe : x.eds.length ≤ 300 := (sys_parts hok).2.2.2.1
  obtain ⟨BX, hBX⟩ : ∃ B, B = w.heap.size := ⟨_, rfl⟩
  obtain ⟨wA, hwA⟩ : ∃ wA, wA = w.alloc (.cells #[ei x.st, ei x.ini, .slice la x.labs.length ca, .slice a x.eds.length cap] 30) := ⟨_, rfl⟩
  have uA : Upd [] w wA := by rw [hwA]; exact (Upd.refl _ _).alloc _
  have qA : RowAt wA BX 30 [ei x.st, ei x.ini, .slice la x.labs.length ca, .slice a x.eds.length cap] := by rw [hwA, hBX]; exact RowAt.new _ _ _
  have HQA := Lib.hid (fun W (hu : Upd [] wA W) => qA.upd hu (by simp))
  obtain ⟨z0, z1, z2, z3⟩ : wA.cell? ⟨BX, 0, none⟩ = some (ei x.st) ∧ wA.cell? ⟨BX, 1, none⟩ = some (ei x.ini) ∧ wA.cell? ⟨BX, 2, none⟩ = some (.slice la x.labs.length ca) ∧ wA.cell? ⟨BX, 3, none⟩ = some (.slice a x.eds.length cap) :=
    ⟨qA.cell 0 _ rfl, qA.cell 1 _ rfl, qA.cell 2 _ rfl, qA.cell 3 _ rfl⟩
  have S1 := Lib.hid (validI x _ _ wA f1 f2 (RSk.upd h1 uA (by simp)) (R_E1k.upd h2 uA (by simp)) hp (he.upd uA))
  rw [hok] at S1
  have HC := Lib.hid hc
  have HUA := Lib.hid uA
  have HNO := Lib.hid (oneF_no x)
  have H0 := Lib.hid (oneAt_zero x)
  have HSU := Lib.hid (oneAt_succ x)
  have HF := Lib.hid (show oneF x = allF (oneAt x) 0 x.eds.length from rfl)
  clear h1 h2 hp he hok uA qA hc
  go_enter Tryz.func63, Tryz.ntmps63
  go_upto_region 1 with (fail)
  rw [← hwA, ← hBX]
  have HBX := Lib.hid hBX
  clear hwA hBX
  go_wp2_with fail
  refine S1.out.mono ?_
  rintro e w1 ⟨rfl, hu1⟩
  have z3 := hu1.keep z3
  have HU1 := Lib.hid hu1
  clear S1 hu1 z0 z1 z2
  go_wp2_with fail
  go_loopw [11] (fun iv wr => ∃ i : Nat, i ≤ x.eds.length ∧ iv = .int .i64 i ∧ Hid (Upd [] wA wr) ∧ Hid (∀ k, k < i → oneAt x k = true)) (fun iv _ => x.eds.length - (intOf iv).toNat)
  case atStart => exact ⟨0, Nat.zero_le _, rfl, HU1, Lib.hid (fun k h => by omega)⟩
  case round =>
    clear HU1 z3
    obtain ⟨wo, rfl⟩ : ∃ wo : World, wo = wr := ⟨_, rfl⟩
    obtain ⟨i, hi, rfl, HU, HA⟩ := hrel
    by_cases hlt : i < x.eds.length
    · obtain ⟨b, o, rfl, -, -, p1, p2, p3⟩ := HC.out i hlt
      have hil : (i : Int) < (x.eds.length : Int) := by omega
      have p1 := (HUA.out.trans HU.out).keep p1
      have p2 := (HUA.out.trans HU.out).keep p2
      have p3 := (HUA.out.trans HU.out).keep p3
      obtain ⟨wB, hwB⟩ : ∃ wB, wB = wo.alloc (.cells #[.int .i64 x.eds[i].fr, .int .i64 x.eds[i].lb, .int .i64 x.eds[i].to] 55) := ⟨_, rfl⟩
      obtain ⟨BE, hBE⟩ : ∃ B, B = wo.heap.size := ⟨_, rfl⟩
      have uB : Upd [] wo wB := by rw [hwB]; exact (Upd.refl _ _).alloc _
      have t0 : wB.cell? ⟨BE, 0, none⟩ = some (ei x.eds[i].fr) := by rw [hwB, hBE]; exact cell_new wo _ _ _ rfl 0 _ rfl
      have t1 : wB.cell? ⟨BE, 1, none⟩ = some (ei x.eds[i].lb) := by rw [hwB, hBE]; exact cell_new wo _ _ _ rfl 1 _ rfl
      have HUB := Lib.hid (HU.out.trans uB)
      have y3 := (HQA.out wB HUB.out).cell 3 _ rfl
      clear HU
      go_upto_region 6 with (fail)
      rw [← hwB, ← hBE]
      clear hwB hBE uB p1 p2 p3
      have HNX := Lib.hid (fun (h : oneAt x i = true) k (hk : k < i + 1) => show oneAt x k = true from by
        rcases Nat.lt_succ_iff_lt_or_eq.1 hk with h' | rfl
        · exact HA.out k h'
        · exact h)
      have HN2 := Lib.hid (HNO.out i hlt)
      clear HA HNO
      cases i with
      | zero =>
        have h0 := H0.out hlt
        generalize x.eds[0].fr = e1 at *
        generalize x.eds[0].lb = e2 at *
        cases hq : (e2 == 0) with
        | true =>
          have HZ := Lib.hid (HN2.out (by rw [h0, hq]; rfl))
          clear h0 H0 HSU HNX HN2
          go_quiet (fail)
          go_wp2_with fail
          go_ret
          exact ⟨by rw [HZ.out]; rfl, (HUA.out.trans HUB.out).drewN _⟩
        | false =>
          have HZ := Lib.hid (HNX.out (by rw [h0, hq]; rfl))
          clear h0 H0 HSU HNX HN2
          go_quiet (fail)
          go_wp2_with fail
          go_roundw
          case rel => exact ⟨0 + 1, by omega, by go_num, Lib.hid (HUB.out.drewN _), HZ⟩
          case measure => simp [intOf]; omega
      | succ k =>
        have h0 := HSU.out k hlt
        obtain ⟨b', o', hb, -, -, q1, q2, -⟩ := HC.out k (by omega)
        cases hb
        have q1 := (HUA.out.trans HUB.out).keep q1
        have q2 := (HUA.out.trans HUB.out).keep q2
        have hk0 : (0 : Int) < ((k + 1 : Nat) : Int) := by omega
        have hk1 : IntKind.i64.wrap (((k + 1 : Nat) : Int) - 1) = (k : Int) := by rw [IntKind.wrap_i64]; omega
        have hk2 : IntKind.i64.wrap (k : Int) = (k : Int) := by rw [IntKind.wrap_i64]; omega
        have hk3 : (k : Int) < (x.eds.length : Int) := by omega
        generalize x.eds[k + 1].fr = e1 at *
        generalize x.eds[k + 1].lb = e2 at *
        generalize x.eds[k].fr = d1 at *
        generalize x.eds[k].lb = d2 at *
        cases hq : (e2 == 0) with
        | true =>
          have HZ := Lib.hid (HN2.out (by rw [h0, hq]; rfl))
          clear h0 H0 HSU HNX HN2
          go_quiet (fail)
          go_wp2_with fail
          go_ret
          exact ⟨by rw [HZ.out]; rfl, (HUA.out.trans HUB.out).drewN _⟩
        | false =>
          cases hr : (d1 == e1) with
          | false =>
            have HZ := Lib.hid (HNX.out (by rw [h0, hq, hr]; rfl))
            clear h0 H0 HSU HNX HN2
            go_quiet (fail)
            go_wp2_with fail
            go_roundw
            case rel => exact ⟨k + 1 + 1, by omega, by go_num, Lib.hid (HUB.out.drewN _), HZ⟩
            case measure => simp [intOf]; omega
          | true =>
            cases hs : (d2 == e2) with
            | false =>
              have HZ := Lib.hid (HNX.out (by rw [h0, hq, hr, hs]; rfl))
              clear h0 H0 HSU HNX HN2
              go_quiet (fail)
              go_wp2_with fail
              go_roundw
              case rel => exact ⟨k + 1 + 1, by omega, by go_num, Lib.hid (HUB.out.drewN _), HZ⟩
              case measure => simp [intOf]; omega
            | true =>
              have HZ := Lib.hid (HN2.out (by rw [h0, hq, hr, hs]; rfl))
              clear h0 H0 HSU HNX HN2
              go_quiet (fail)
              go_wp2_with fail
              go_ret
              exact ⟨by rw [HZ.out]; rfl, (HUA.out.trans HUB.out).drewN _⟩
    · obtain rfl : i = x.eds.length := by omega
      have HZ := Lib.hid (show oneF x = true by rw [HF.out]; exact allF_mk (fun k _ hk => HA.out k (by omega)))
      clear HA HNO H0 HSU
      go_wp2_with fail
      go_ret
      exact ⟨by rw [HZ.out]; rfl, HUA.out.trans HU.out⟩

/-- the error for a model and a property. -/
def codeF (T P : Sys) : Int := if sysOk T = true ∧ sysOk P = true then (if oneF P = true then 0 else 6) else 1

set_option maxRecDepth 20000 in
set_option maxHeartbeats 4000000 in
theorem codeI (T P : Sys) (v1 v2 u1 u2 : Value) (w : World) (f1 f2 f3 f4 : List Nat) (h1 : RS f1 w [v1] T.labs) (h2 : R_E1 f2 w [v2] T.eds) (h3 : RS f3 w [u1] P.labs) (h4 : R_E1 f4 w [u2] P.eds) (hp : ∀ p ∈ T.labs, p.length ≤ 2000000) (hq : ∀ p ∈ P.labs, p.length ≤ 2000000) (he : Env w) :
    Calls Tryz.prog 43 #[.agg #[ei T.st, ei T.ini, v1, v2], .agg #[ei P.st, ei P.ini, u1, u2]] w fun e w' => e = .returned (.int .i64 (codeF T P)) ∧ Upd [] w w' := by
  obtain ⟨la, ca, rfl, -, -, -⟩ := slF1_open h1
  obtain ⟨a, cap, rfl, -, -, -⟩ := slF3_open h2
  obtain ⟨pa, pc, rfl, -, -, -⟩ := slF1_open h3
  obtain ⟨pb, pd, rfl, -, -, -⟩ := slF3_open h4
  obtain ⟨BX, hBX⟩ : ∃ B, B = w.heap.size := ⟨_, rfl⟩
  obtain ⟨wA, hwA⟩ : ∃ wA, wA = (w.alloc (.cells #[ei T.st, ei T.ini, .slice la T.labs.length ca, .slice a T.eds.length cap] 30)).alloc (.cells #[ei P.st, ei P.ini, .slice pa P.labs.length pc, .slice pb P.eds.length pd] 30) := ⟨_, rfl⟩
  have uA : Upd [] w wA := by rw [hwA]; exact ((Upd.refl _ _).alloc _).alloc _
  have qA : RowAt wA BX 30 [ei T.st, ei T.ini, .slice la T.labs.length ca, .slice a T.eds.length cap] := by rw [hwA, hBX]; exact (RowAt.new _ _ _).upd ((Upd.refl [] _).alloc _) (by simp)
  have qB : RowAt wA (BX + 1) 30 [ei P.st, ei P.ini, .slice pa P.labs.length pc, .slice pb P.eds.length pd] := by
    have h := RowAt.new (w.alloc (.cells #[ei T.st, ei T.ini, .slice la T.labs.length ca, .slice a T.eds.length cap] 30)) 30 [ei P.st, ei P.ini, .slice pa P.labs.length pc, .slice pb P.eds.length pd]
    rw [hwA, hBX]; simpa using h
  obtain ⟨z0, z1, z2, z3⟩ : wA.cell? ⟨BX, 0, none⟩ = some (ei T.st) ∧ wA.cell? ⟨BX, 1, none⟩ = some (ei T.ini) ∧ wA.cell? ⟨BX, 2, none⟩ = some (.slice la T.labs.length ca) ∧ wA.cell? ⟨BX, 3, none⟩ = some (.slice a T.eds.length cap) :=
    ⟨qA.cell 0 _ rfl, qA.cell 1 _ rfl, qA.cell 2 _ rfl, qA.cell 3 _ rfl⟩
  have HY := Lib.hid (fun W (hu : Upd [] wA W) => have q := qB.upd hu (by simp); show W.cell? ⟨BX + 1, 0, none⟩ = some (ei P.st) ∧ W.cell? ⟨BX + 1, 1, none⟩ = some (ei P.ini) ∧ W.cell? ⟨BX + 1, 2, none⟩ = some (.slice pa P.labs.length pc) ∧ W.cell? ⟨BX + 1, 3, none⟩ = some (.slice pb P.eds.length pd) from ⟨q.cell 0 _ rfl, q.cell 1 _ rfl, q.cell 2 _ rfl, q.cell 3 _ rfl⟩)
  have S1 := Lib.hid (validI T _ _ wA f1 f2 (RSk.upd h1 uA (by simp)) (R_E1k.upd h2 uA (by simp)) hp (he.upd uA))
  have S2 := Lib.hid (fun W (hu : Upd [] w W) => validI P _ _ W f3 f4 (RSk.upd h3 hu (by simp)) (R_E1k.upd h4 hu (by simp)) hq (he.upd hu))
  have S3 := Lib.hid (fun (hok : sysOk P = true) W (hu : Upd [] w W) => detI P _ _ W f3 f4 (RSk.upd h3 hu (by simp)) (R_E1k.upd h4 hu (by simp)) hq (he.upd hu) hok)
  have HUA := Lib.hid uA
  have HZ := Lib.hid (show codeF T P = if sysOk T = true ∧ sysOk P = true then (if oneF P = true then 0 else 6) else 1 from rfl)
  generalize codeF T P = Z at *
  clear h1 h2 h3 h4 hp hq he uA qA qB
  go_enter Tryz.func43, Tryz.ntmps43
  go_upto_region 1 with (fail)
  rw [← hwA, ← hBX]
  clear hwA hBX
  go_wp2_with fail
  refine S1.out.mono ?_
  rintro e w1 ⟨rfl, hu1⟩
  have HU1 := Lib.hid hu1
  have HUW := Lib.hid (HUA.out.trans hu1)
  obtain ⟨y0, y1, y2, y3⟩ := HY.out w1 hu1
  have T2 := Lib.hid (S2.out w1 HUW.out)
  clear S1 S2 hu1 z0 z1 z2 z3
  cases hT : sysOk T with
  | false =>
    have HE := Lib.hid (show Z = 1 by rw [HZ.out, hT]; rfl)
    clear HZ T2 S3 hT
    go_wp2_with fail
    go_ret
    exact ⟨by rw [HE.out]; rfl, HUW.out⟩
  | true =>
    have HZ2 := Lib.hid (show Z = if sysOk P = true then (if oneF P = true then 0 else 6) else 1 by rw [HZ.out, hT]; simp)
    clear HZ hT
    go_wp2_with fail
    refine T2.out.mono ?_
    rintro e w2 ⟨rfl, hu2⟩
    have HU2 := Lib.hid (HU1.out.trans hu2)
    have HUW2 := Lib.hid (HUW.out.trans hu2)
    obtain ⟨y0, y1, y2, y3⟩ := HY.out w2 HU2.out
    clear T2 hu2
    cases hP : sysOk P with
    | false =>
      have HE := Lib.hid (show Z = 1 by rw [HZ2.out, hP]; rfl)
      clear HZ2 S3 hP
      go_wp2_with fail
      go_ret
      exact ⟨by rw [HE.out]; rfl, HUW2.out⟩
    | true =>
      have HZ3 := Lib.hid (show Z = if oneF P = true then 0 else 6 by rw [HZ2.out, hP]; simp)
      have T3 := Lib.hid (S3.out hP w2 HUW2.out)
      clear HZ2 S3 hP
      go_wp2_with fail
      refine T3.out.mono ?_
      rintro e w3 ⟨rfl, hu3⟩
      have HUW3 := Lib.hid (HUW2.out.trans hu3)
      clear T3 hu3
      cases hD : oneF P with
      | false =>
        have HE := Lib.hid (show Z = 6 by rw [HZ3.out, hD]; rfl)
        clear HZ3 hD
        go_wp2_with fail
        go_ret
        exact ⟨by rw [HE.out]; rfl, HUW3.out⟩
      | true =>
        have HE := Lib.hid (show Z = 0 by rw [HZ3.out, hD]; rfl)
        clear HZ3 hD
        go_wp2_with fail
        go_ret
        exact ⟨by rw [HE.out]; rfl, HUW3.out⟩

/-- what both calls hand back: the pairs, and the error. -/
def GaveN2 (w : World) (r : List (List Int) × Int) (e : Ending) (w' : World) : Prop := (∃ v', e = .returned (.tuple #[v', .int .i64 r.2]) ∧ New R_N2 w w' v' r.1) ∧ Upd [] w w'
theorem leaveF_bad {T P : Sys} (h : codeF T P ≠ 0) : leaveF T P = ([], codeF T P) := by
  unfold codeF at *
  unfold leaveF
  split
  · rename_i h1
    rw [if_pos h1] at h
    split
    · rename_i h2; rw [if_pos h2] at h; exact absurd rfl h
    · rfl
  · rfl
theorem leaveF_good {T P : Sys} (h : codeF T P = 0) : sysOk T = true ∧ sysOk P = true ∧ leaveF T P = (allR P.st.toNat (lvF T P) T.st.toNat, 0) := by
  unfold codeF at h
  split at h
  · rename_i h1
    split at h
    · rename_i h2
      refine ⟨h1.1, h1.2, ?_⟩
      unfold leaveF
      rw [if_pos h1, if_pos h2]
    · cases h
  · cases h

set_option maxRecDepth 20000 in
set_option maxHeartbeats 4000000 in
theorem canLeaveI (T P : Sys) (v1 v2 u1 u2 : Value) (w : World) (f1 f2 f3 f4 : List Nat) (h1 : RS f1 w [v1] T.labs) (h2 : R_E1 f2 w [v2] T.eds) (h3 : RS f3 w [u1] P.labs) (h4 : R_E1 f4 w [u2] P.eds) (hp : ∀ p ∈ T.labs, p.length ≤ 2000000) (hq : ∀ p ∈ P.labs, p.length ≤ 2000000) (he : Env w) :
    Calls Tryz.prog 16 #[.agg #[ei T.st, ei T.ini, v1, v2], .agg #[ei P.st, ei P.ini, u1, u2]] w (GaveN2 w (leaveF T P)) := by
  obtain ⟨la, ca, rfl, -, -, -⟩ := slF1_open h1
  obtain ⟨a, cap, rfl, -, -, -⟩ := slF3_open h2
  obtain ⟨pa, pc, rfl, -, -, -⟩ := slF1_open h3
  obtain ⟨pb, pd, rfl, -, -, -⟩ := slF3_open h4
  obtain ⟨BX, hBX⟩ : ∃ B, B = w.heap.size := ⟨_, rfl⟩
  obtain ⟨wA, hwA⟩ : ∃ wA, wA = (w.alloc (.cells #[ei T.st, ei T.ini, .slice la T.labs.length ca, .slice a T.eds.length cap] 30)).alloc (.cells #[ei P.st, ei P.ini, .slice pa P.labs.length pc, .slice pb P.eds.length pd] 30) := ⟨_, rfl⟩
  have uA : Upd [] w wA := by rw [hwA]; exact ((Upd.refl _ _).alloc _).alloc _
  have qA : RowAt wA BX 30 [ei T.st, ei T.ini, .slice la T.labs.length ca, .slice a T.eds.length cap] := by rw [hwA, hBX]; exact (RowAt.new _ _ _).upd ((Upd.refl [] _).alloc _) (by simp)
  have qB : RowAt wA (BX + 1) 30 [ei P.st, ei P.ini, .slice pa P.labs.length pc, .slice pb P.eds.length pd] := by
    have h := RowAt.new (w.alloc (.cells #[ei T.st, ei T.ini, .slice la T.labs.length ca, .slice a T.eds.length cap] 30)) 30 [ei P.st, ei P.ini, .slice pa P.labs.length pc, .slice pb P.eds.length pd]
    rw [hwA, hBX]; simpa using h
  have HY := Lib.hid (fun W (hu : Upd [] wA W) => have p := qA.upd hu (by simp); have q := qB.upd hu (by simp); show (W.cell? ⟨BX, 0, none⟩ = some (ei T.st) ∧ W.cell? ⟨BX, 1, none⟩ = some (ei T.ini) ∧ W.cell? ⟨BX, 2, none⟩ = some (.slice la T.labs.length ca) ∧ W.cell? ⟨BX, 3, none⟩ = some (.slice a T.eds.length cap)) ∧ W.cell? ⟨BX + 1, 0, none⟩ = some (ei P.st) ∧ W.cell? ⟨BX + 1, 1, none⟩ = some (ei P.ini) ∧ W.cell? ⟨BX + 1, 2, none⟩ = some (.slice pa P.labs.length pc) ∧ W.cell? ⟨BX + 1, 3, none⟩ = some (.slice pb P.eds.length pd) from
    ⟨⟨p.cell 0 _ rfl, p.cell 1 _ rfl, p.cell 2 _ rfl, p.cell 3 _ rfl⟩, q.cell 0 _ rfl, q.cell 1 _ rfl, q.cell 2 _ rfl, q.cell 3 _ rfl⟩)
  obtain ⟨⟨z0, z1, z2, z3⟩, y0, y1, y2, y3⟩ := HY.out wA (Upd.refl _ _)
  have S1 := Lib.hid (codeI T P _ _ _ _ wA f1 f2 f3 f4 (RSk.upd h1 uA (by simp)) (R_E1k.upd h2 uA (by simp)) (RSk.upd h3 uA (by simp)) (R_E1k.upd h4 uA (by simp)) hp hq (he.upd uA))
  have HO := Lib.hid (fun W (hu : Upd [] w W) => show Obs T P _ _ _ _ f1 f2 f3 f4 W.heap.size W from ⟨RSk.upd h1 hu (by simp), R_E1k.upd h2 hu (by simp), RSk.upd h3 hu (by simp), R_E1k.upd h4 hu (by simp),
    RSk.lt (RSk.upd h1 hu (by simp)), R_E1k.lt (R_E1k.upd h2 hu (by simp)), RSk.lt (RSk.upd h3 hu (by simp)), R_E1k.lt (R_E1k.upd h4 hu (by simp))⟩)
  have HBAD := Lib.hid (@leaveF_bad T P)
  have HGOOD := Lib.hid (@leaveF_good T P)
  have HUA := Lib.hid uA
  generalize codeF T P = C at *
  clear h1 h2 h3 h4 hp hq he uA qA qB
  go_enter Tryz.func16, Tryz.ntmps16
  go_upto_region 1 with (fail)
  rw [← hwA, ← hBX]
  clear hwA hBX
  go_wp2_with fail
  refine S1.out.mono ?_
  rintro e w1 ⟨rfl, hu1⟩
  have HU1 := Lib.hid hu1
  have HUW := Lib.hid (HUA.out.trans hu1)
  clear S1 hu1 z0 z1 z2 z3 y0 y1 y2 y3
  by_cases hC : C = 0
  · subst hC
    obtain ⟨hT, hP, hL⟩ := HGOOD.out rfl
    obtain ⟨⟨z0, z1, z2, z3⟩, y0, y1, y2, y3⟩ := HY.out w1 HU1.out
    have bT := (sys_parts hT).1
    have bP := (sys_parts hP).1
    have hn : T.st = (T.st.toNat : Int) := by omega
    have hm : P.st = (P.st.toNat : Int) := by omega
    have S2 := Lib.hid (leaveMI T P _ _ _ _ T.st.toNat P.st.toNat w1 f1 f2 f3 f4 (HO.out w1 HUW.out) hT hP hn hm)
    have HB9 := Lib.hid (show T.st.toNat ≤ 40 ∧ P.st.toNat ≤ 40 by omega)
    have HL := Lib.hid hL
    clear hT hP hL bT bP hn hm HBAD HGOOD HO HY
    go_wp2_with fail
    refine S2.out.mono ?_
    rintro e w2 ⟨⟨M, B, ρ, K, rfl, hW⟩, hu2⟩
    have HUW2 := Lib.hid (HUW.out.trans hu2)
    have S3 := Lib.hid (listRI M B ρ T.st.toNat P.st.toNat K (lvF T P) w2 HB9.out.1 HB9.out.2 hW)
    clear S2 hu2 hW
    generalize T.st.toNat = n9 at *
    go_wp2_with fail
    refine S3.out.mono ?_
    rintro e w3 ⟨⟨v, rfl, hn⟩, hu3⟩
    have HN := Lib.hid hn
    have HUW3 := Lib.hid (HUW2.out.trans hu3)
    clear S3 hu3 hn
    go_wp2_with fail
    go_ret2
    rw [HL.out]
    obtain ⟨f9, k1, k2, k3⟩ := HN.out
    exact ⟨⟨_, rfl, f9, k1, k2, fun b hb => by have := k3 b hb; have := HUW2.out.size; omega⟩, HUW3.out⟩
  · have HL := Lib.hid (HBAD.out hC)
    have hC1 : (C == 0) = false := by simpa using hC
    clear HBAD HGOOD HO HY
    go_wp2_with fail
    go_ret2
    rw [HL.out]
    exact ⟨⟨_, rfl, New.nilP _ _ _⟩, HUW.out⟩

end Go.Proofs.YtlondofadjcooaaGreatDoor

/-
  Labels in order: what the reference's call returns.
-/
namespace Go.Proofs.YtlondofadjcooaaGreatDoor
open Go.RowKit

theorem isLab_tau : isLab tauL = true := by
  unfold isLab; rw [readF_labT (name := tauL) (vs := []) (by simp [labT])]; rfl

set_option maxRecDepth 20000 in
set_option maxHeartbeats 4000000 in
theorem namesS (labs : List (List UInt8)) (v : Value) (w : World) (fp : List Nat) (hR : RS fp w [v] labs) (hp : ∀ p ∈ labs, p.length ≤ 2000000) :
    Calls Tryz.prog 69 #[v] w fun e w' => e = .returned (.bool (labsOk labs)) ∧ Upd [] w w' := by
  have HLO := Lib.hid (show labsOk labs = (decide (1 ≤ labs.length) && decide (labs.length ≤ 12) && allF (labP labs) 0 labs.length) from rfl)
  have HR1 := Lib.hid hR
  have HP := Lib.hid hp
  obtain ⟨a1, c1, rfl, hl1, hm1, hc⟩ := slF1_open hR
  unfold maxLen at hm1
  clear hR hp
  by_cases h0 : labs.length = 0
  · have HF := Lib.hid (show labsOk labs = false by rw [HLO.out, h0]; rfl)
    clear HLO HR1 hc HP
    rw [h0]
    go_enter Tryz.func69, Tryz.ntmps69
    go_wp2_with fail
    go_ret
    exact ⟨by rw [HF.out]; rfl, Upd.refl _ _⟩
  · have h0b : ((labs.length : Int) == 0) = false := beq_eq_false_iff_ne.2 (by omega)
    have h0c : ¬ (labs.length : Int) = 0 := by omega
    by_cases h12 : 12 < labs.length
    · have HF := Lib.hid (show labsOk labs = false by rw [HLO.out, decide_eq_false (show ¬ labs.length ≤ 12 by omega)]; simp)
      have h12i : (12 : Int) < (labs.length : Int) := by omega
      clear HLO HR1 hc HP
      go_enter Tryz.func69, Tryz.ntmps69
      go_wp2_with fail
      go_ret
      exact ⟨by rw [HF.out]; rfl, Upd.refl _ _⟩
    · have HLO2 := Lib.hid (show labsOk labs = allF (labP labs) 0 labs.length by rw [HLO.out, decide_eq_true (show labs.length ≤ 12 by omega), decide_eq_true (show 1 ≤ labs.length by omega)]; simp)
      have h12i : ¬ (12 : Int) < (labs.length : Int) := by omega
      have hpos : 0 < labs.length := by omega
      have hposi : (0 : Int) < (labs.length : Int) := by omega
      obtain ⟨b1, o1, rfl, -, -, p0⟩ := hc 0 hpos
      rw [Nat.add_zero] at p0
      have HA0 := Lib.hid (allF_step (labP labs) 0 labs.length hpos)
      have HLP0 := Lib.hid (labP_at labs 0 hpos)
      generalize labs[0] = s0 at *
      clear HLO hc h0
      by_cases ht0 : s0 = tauL
      · have HA := Lib.hid (show allF (labP labs) 1 (labs.length - 1) = allF (labP labs) 0 labs.length by
          have := HA0.out
          rw [HLP0.out, ht0, isLab_tau] at this
          rw [Nat.sub_zero] at this
          rw [this]; simp)
        have g1 : (s0 == [116, 97, 117]) = true := by simpa [tauL] using ht0
        have g1n : (s0 != [116, 97, 117]) = false := by simp [bne, g1]
        clear HA0 HLP0 ht0
        go_enter Tryz.func69, Tryz.ntmps69
        go_wp2_with fail
        go_loopw [3] (fun iv wr => ∃ k : Nat, 1 ≤ k ∧ k ≤ labs.length ∧ iv = .int .i64 k ∧ Hid (allF (labP labs) k (labs.length - k) = allF (labP labs) 0 labs.length) ∧ Upd [] w wr) (fun iv _ => labs.length - (intOf iv).toNat)
        case atStart => exact ⟨1, Nat.le_refl _, hpos, rfl, HA, Upd.refl _ _⟩
        case round =>
          clear HA
          obtain ⟨k, hk1, hk, rfl, HA, hU⟩ := hrel
          by_cases hlt : k < labs.length
          · obtain ⟨a', c', hv, -, -, hc⟩ := slF1_open (RSk.upd HR1.out hU (by simp))
            cases hv
            obtain ⟨b2, o2, hv2, -, -, x0⟩ := hc k hlt
            cases hv2
            obtain ⟨b2, o2, hv2, -, -, q0⟩ := hc (k - 1) (by omega)
            cases hv2
            have HA2 := Lib.hid (HA.out.symm.trans (allF_step (labP labs) k labs.length hlt))
            have HLP := Lib.hid (labP_at labs k hlt)
            have hpv : labs.getD (k - 1) [] = labs[k - 1] := by rw [List.getD_eq_getElem?_getD, List.getElem?_eq_getElem (by omega)]; rfl
            rw [← hpv] at q0
            have SL := Lib.hid (fun W => labelS labs[k] W (HP.out labs[k] (List.getElem_mem hlt)))
            generalize labs.getD (k - 1) [] = pv at *
            generalize labs[k] = s at *
            have HU := Lib.hid hU
            have k0 : decide (k = 0) = false := decide_eq_false (by omega)
            rw [k0] at HLP
            clear hc HA hU hpv k0 p0
            cases hls : isLab s with
            | false =>
              have HRR := Lib.hid (show labsOk labs = false by rw [HLO2.out, HA2.out, HLP.out, hls]; rfl)
              rw [hls] at SL
              clear HLO2 HA2 HLP hls
              go_wp2_with fail
              refine wp_region_held_drew (S := fun w' => w'.cell? ⟨b1, o1 + k, none⟩ = some (es s) ∧ w'.cell? ⟨b1, o1 + (k - 1), none⟩ = some (es pv)) (by kernel_rfl) ?_ (fun hHeld => ?_)
              · exact ⟨x0, q0⟩
              refine wpAnyH_take (i := 0) (v := ?_) rfl (by kernel_rfl) (by kernel_rfl) (by kernel_rfl) (fun _ _ _ h => h) (Or.inl ⟨by rfl, ?_⟩) (by assumption) ?_
              rotate_left
              · (intro w hSw; (try dsimp only at hSw); go_simp)
                first | done | with_reducible rfl
              simp only [Act.put, List.getElem_toArray, List.getElem_cons_zero, List.setIfInBounds_toArray, List.set_cons_zero, List.set_cons_succ]
              refine wpAnyH_take (i := 1) (v := ?_) rfl (by kernel_rfl) (by kernel_rfl) (by kernel_rfl) (fun _ _ _ h => h) (Or.inl ⟨by rfl, ?_⟩) (by assumption) ?_
              rotate_left
              · (intro w hSw; (try dsimp only at hSw); go_simp)
                first | done | with_reducible rfl
              simp only [Act.put, List.getElem_toArray, List.getElem_cons_zero, List.getElem_cons_succ, List.setIfInBounds_toArray, List.set_cons_zero, List.set_cons_succ]
              refine wpAnyH_take (i := 2) (v := ?_) rfl (by kernel_rfl) (by kernel_rfl) (by kernel_rfl) (fun _ _ _ h => h) (Or.inl ⟨by rfl, ?_⟩) (by assumption) ?_
              rotate_left
              · (intro w hSw; (try dsimp only at hSw); go_simp)
                first | done | with_reducible rfl
              simp only [Act.put, List.getElem_toArray, List.getElem_cons_zero, List.getElem_cons_succ, List.setIfInBounds_toArray, List.set_cons_zero, List.set_cons_succ]
              refine wpAnyH_take (i := 3) (v := ?_) rfl (by kernel_rfl) (by kernel_rfl) (by kernel_rfl) (fun _ _ _ h => h) (Or.inl ⟨by rfl, ?_⟩) (by assumption) ?_
              rotate_left
              · (intro w hSw; (try dsimp only at hSw); go_simp)
                first | done | with_reducible rfl
              simp only [Act.put, List.getElem_toArray, List.getElem_cons_zero, List.getElem_cons_succ, List.setIfInBounds_toArray, List.set_cons_zero, List.set_cons_succ]
              refine wpAnyH_ready (rs := [4]) (by kernel_rfl) (by simp) ?_
              refine AllReadyH.cons rfl (fun K hK => ?_) AllReadyH.nil
              go_simp
              refine (SL.out _).mono ?_
              rintro e w4 ⟨rfl, hu1⟩
              refine hK.out _ _ ?_ (fun hHeld => ?_)
              · exact ⟨hu1.keep hHeld.1, hu1.keep hHeld.2⟩
              clear hK K
              try simp only [Act.put, List.getElem_toArray, List.getElem_cons_zero, List.getElem_cons_succ, List.setIfInBounds_toArray, List.set_cons_zero, List.set_cons_succ]
              refine wpAnyH_take (i := 5) (v := ?_) rfl (by kernel_rfl) (by kernel_rfl) (by kernel_rfl) (fun _ _ _ h => h) (Or.inl ⟨by rfl, ?_⟩) (by assumption) ?_
              rotate_left
              · (intro w hSw; (try dsimp only at hSw); go_simp)
                first | done | with_reducible rfl
              simp only [Act.put, List.getElem_toArray, List.getElem_cons_zero, List.getElem_cons_succ, List.setIfInBounds_toArray, List.set_cons_zero, List.set_cons_succ]
              refine wpAnyH_take (i := 6) (v := ?_) rfl (by kernel_rfl) (by kernel_rfl) (by kernel_rfl) (fun _ _ _ h => h) (Or.inl ⟨by rfl, ?_⟩) (by assumption) ?_
              rotate_left
              · (intro w hSw; (try dsimp only at hSw); go_simp)
                first | done | with_reducible rfl
              simp only [Act.put, List.getElem_toArray, List.getElem_cons_zero, List.getElem_cons_succ, List.setIfInBounds_toArray, List.set_cons_zero, List.set_cons_succ]
              refine wpAnyH_take (i := 7) rfl (by kernel_rfl) (by kernel_rfl) (by kernel_rfl) (fun _ _ _ h => h) (Or.inr ⟨by rfl, rfl⟩) (by assumption) ?_
              simp only [Act.put, List.getElem_toArray, List.getElem_cons_zero, List.getElem_cons_succ, List.setIfInBounds_toArray, List.set_cons_zero, List.set_cons_succ]
              refine wpAnyH_take (i := 8) rfl (by kernel_rfl) (by kernel_rfl) (by kernel_rfl) (fun _ _ _ h => h) (Or.inr ⟨by rfl, rfl⟩) (by assumption) ?_
              simp only [Act.put, List.getElem_toArray, List.getElem_cons_zero, List.getElem_cons_succ, List.setIfInBounds_toArray, List.set_cons_zero, List.set_cons_succ]
              refine wpAnyH_take (i := 9) rfl (by kernel_rfl) (by kernel_rfl) (by kernel_rfl) (fun _ _ _ h => h) (Or.inr ⟨by rfl, rfl⟩) (by assumption) ?_
              simp only [Act.put, List.getElem_toArray, List.getElem_cons_zero, List.getElem_cons_succ, List.setIfInBounds_toArray, List.set_cons_zero, List.set_cons_succ]
              refine wpAnyH_take (i := 10) rfl (by kernel_rfl) (by kernel_rfl) (by kernel_rfl) (fun _ _ _ h => h) (Or.inr ⟨by rfl, rfl⟩) (by assumption) ?_
              simp only [Act.put, List.getElem_toArray, List.getElem_cons_zero, List.getElem_cons_succ, List.setIfInBounds_toArray, List.set_cons_zero, List.set_cons_succ]
              refine wpAnyH_take (i := 11) rfl (by kernel_rfl) (by kernel_rfl) (by kernel_rfl) (fun _ _ _ h => h) (Or.inr ⟨by rfl, rfl⟩) (by assumption) ?_
              simp only [Act.put, List.getElem_toArray, List.getElem_cons_zero, List.getElem_cons_succ, List.setIfInBounds_toArray, List.set_cons_zero, List.set_cons_succ]
              refine wpAnyH_take (i := 12) (v := ?_) rfl (by kernel_rfl) (by kernel_rfl) (by kernel_rfl) (fun _ _ _ h => h) (Or.inl ⟨by rfl, ?_⟩) (by assumption) ?_
              rotate_left
              · (intro w hSw; (try dsimp only at hSw); go_simp)
                first | done | with_reducible rfl
              simp only [Act.put, List.getElem_toArray, List.getElem_cons_zero, List.getElem_cons_succ, List.setIfInBounds_toArray, List.set_cons_zero, List.set_cons_succ]
              refine wpAnyH_take (i := 13) (v := ?_) rfl (by kernel_rfl) (by kernel_rfl) (by kernel_rfl) (fun _ _ _ h => h) (Or.inl ⟨by rfl, ?_⟩) (by assumption) ?_
              rotate_left
              · (intro w hSw; (try dsimp only at hSw); go_simp)
                first | done | with_reducible rfl
              simp only [Act.put, List.getElem_toArray, List.getElem_cons_zero, List.getElem_cons_succ, List.setIfInBounds_toArray, List.set_cons_zero, List.set_cons_succ]
              refine wpAnyH_take (i := 14) rfl (by kernel_rfl) (by kernel_rfl) (by kernel_rfl) (fun _ _ _ h => h) (Or.inr ⟨by rfl, rfl⟩) (by assumption) ?_
              simp only [Act.put, List.getElem_toArray, List.getElem_cons_zero, List.getElem_cons_succ, List.setIfInBounds_toArray, List.set_cons_zero, List.set_cons_succ]
              refine wpAnyH_take (i := 15) rfl (by kernel_rfl) (by kernel_rfl) (by kernel_rfl) (fun _ _ _ h => h) (Or.inr ⟨by rfl, rfl⟩) (by assumption) ?_
              simp only [Act.put, List.getElem_toArray, List.getElem_cons_zero, List.getElem_cons_succ, List.setIfInBounds_toArray, List.set_cons_zero, List.set_cons_succ]
              refine wpAnyH_take (i := 16) rfl (by kernel_rfl) (by kernel_rfl) (by kernel_rfl) (fun _ _ _ h => h) (Or.inr ⟨by rfl, rfl⟩) (by assumption) ?_
              simp only [Act.put, List.getElem_toArray, List.getElem_cons_zero, List.getElem_cons_succ, List.setIfInBounds_toArray, List.set_cons_zero, List.set_cons_succ]
              refine wpAnyH_take (i := 17) rfl (by kernel_rfl) (by kernel_rfl) (by kernel_rfl) (fun _ _ _ h => h) (Or.inr ⟨by rfl, rfl⟩) (by assumption) ?_
              simp only [Act.put, List.getElem_toArray, List.getElem_cons_zero, List.getElem_cons_succ, List.setIfInBounds_toArray, List.set_cons_zero, List.set_cons_succ]
              refine wpAnyH_take (i := 18) rfl (by kernel_rfl) (by kernel_rfl) (by kernel_rfl) (fun _ _ _ h => h) (Or.inr ⟨by rfl, rfl⟩) (by assumption) ?_
              simp only [Act.put, List.getElem_toArray, List.getElem_cons_zero, List.getElem_cons_succ, List.setIfInBounds_toArray, List.set_cons_zero, List.set_cons_succ]
              refine wpAnyH_take (i := 19) rfl (by kernel_rfl) (by kernel_rfl) (by kernel_rfl) (fun _ _ _ h => h) (Or.inr ⟨by rfl, rfl⟩) (by assumption) ?_
              simp only [Act.put, List.getElem_toArray, List.getElem_cons_zero, List.getElem_cons_succ, List.setIfInBounds_toArray, List.set_cons_zero, List.set_cons_succ]
              refine wpAnyH_take (i := 20) rfl (by kernel_rfl) (by kernel_rfl) (by kernel_rfl) (fun _ _ _ h => h) (Or.inr ⟨by rfl, rfl⟩) (by assumption) ?_
              simp only [Act.put, List.getElem_toArray, List.getElem_cons_zero, List.getElem_cons_succ, List.setIfInBounds_toArray, List.set_cons_zero, List.set_cons_succ]
              refine wpAnyH_take (i := 21) rfl (by kernel_rfl) (by kernel_rfl) (by kernel_rfl) (fun _ _ _ h => h) (Or.inr ⟨by rfl, rfl⟩) (by assumption) ?_
              simp only [Act.put, List.getElem_toArray, List.getElem_cons_zero, List.getElem_cons_succ, List.setIfInBounds_toArray, List.set_cons_zero, List.set_cons_succ]
              refine wpAnyH_take (i := 22) rfl (by kernel_rfl) (by kernel_rfl) (by kernel_rfl) (fun _ _ _ h => h) (Or.inr ⟨by rfl, rfl⟩) (by assumption) ?_
              simp only [Act.put, List.getElem_toArray, List.getElem_cons_zero, List.getElem_cons_succ, List.setIfInBounds_toArray, List.set_cons_zero, List.set_cons_succ]
              refine wpAnyH_take (i := 23) rfl (by kernel_rfl) (by kernel_rfl) (by kernel_rfl) (fun _ _ _ h => h) (Or.inr ⟨by rfl, rfl⟩) (by assumption) ?_
              simp only [Act.put, List.getElem_toArray, List.getElem_cons_zero, List.getElem_cons_succ, List.setIfInBounds_toArray, List.set_cons_zero, List.set_cons_succ]
              refine wpAnyH_take (i := 24) rfl (by kernel_rfl) (by kernel_rfl) (by kernel_rfl) (fun _ _ _ h => h) (Or.inr ⟨by rfl, rfl⟩) (by assumption) ?_
              simp only [Act.put, List.getElem_toArray, List.getElem_cons_zero, List.getElem_cons_succ, List.setIfInBounds_toArray, List.set_cons_zero, List.set_cons_succ]
              refine wpAnyH_take (i := 25) rfl (by kernel_rfl) (by kernel_rfl) (by kernel_rfl) (fun _ _ _ h => h) (Or.inr ⟨by rfl, rfl⟩) (by assumption) ?_
              simp only [Act.put, List.getElem_toArray, List.getElem_cons_zero, List.getElem_cons_succ, List.setIfInBounds_toArray, List.set_cons_zero, List.set_cons_succ]
              refine wpAnyH_take (i := 26) rfl (by kernel_rfl) (by kernel_rfl) (by kernel_rfl) (fun _ _ _ h => h) (Or.inr ⟨by rfl, rfl⟩) (by assumption) ?_
              simp only [Act.put, List.getElem_toArray, List.getElem_cons_zero, List.getElem_cons_succ, List.setIfInBounds_toArray, List.set_cons_zero, List.set_cons_succ]
              refine wpAnyH_take (i := 27) rfl (by kernel_rfl) (by kernel_rfl) (by kernel_rfl) (fun _ _ _ h => h) (Or.inr ⟨by rfl, rfl⟩) (by assumption) ?_
              simp only [Act.put, List.getElem_toArray, List.getElem_cons_zero, List.getElem_cons_succ, List.setIfInBounds_toArray, List.set_cons_zero, List.set_cons_succ]
              refine wpAnyH_take (i := 28) (v := ?_) rfl (by kernel_rfl) (by kernel_rfl) (by kernel_rfl) (fun _ _ _ h => h) (Or.inl ⟨by rfl, ?_⟩) (by assumption) ?_
              rotate_left
              · (intro w hSw; (try dsimp only at hSw); go_simp)
                first | done | with_reducible rfl
              simp only [Act.put, List.getElem_toArray, List.getElem_cons_zero, List.getElem_cons_succ, List.setIfInBounds_toArray, List.set_cons_zero, List.set_cons_succ]
              refine wpAnyH_done (by kernel_rfl) ?_ _
              have HU9 := Lib.hid (HU.out.drew.trans hu1)
              clear HU hHeld x0 q0
              go_wp2_with fail
              go_ret
              exact ⟨by rw [HRR.out]; rfl, HU9.out⟩
            | true =>
              rw [hls] at SL HLP
              by_cases ht : s = tauL
              · have HRR := Lib.hid (show labsOk labs = false by rw [HLO2.out, HA2.out, HLP.out, ht]; simp)
                have g2 : (s == [116, 97, 117]) = true := by simpa [tauL] using ht
                clear HLO2 HA2 HLP hls ht
                go_wp2_with fail
                refine wp_region_held_drew (S := fun w' => w'.cell? ⟨b1, o1 + k, none⟩ = some (es s) ∧ w'.cell? ⟨b1, o1 + (k - 1), none⟩ = some (es pv)) (by kernel_rfl) ?_ (fun hHeld => ?_)
                · exact ⟨x0, q0⟩
                refine wpAnyH_take (i := 0) (v := ?_) rfl (by kernel_rfl) (by kernel_rfl) (by kernel_rfl) (fun _ _ _ h => h) (Or.inl ⟨by rfl, ?_⟩) (by assumption) ?_
                rotate_left
                · (intro w hSw; (try dsimp only at hSw); go_simp)
                  first | done | with_reducible rfl
                simp only [Act.put, List.getElem_toArray, List.getElem_cons_zero, List.setIfInBounds_toArray, List.set_cons_zero, List.set_cons_succ]
                refine wpAnyH_take (i := 1) (v := ?_) rfl (by kernel_rfl) (by kernel_rfl) (by kernel_rfl) (fun _ _ _ h => h) (Or.inl ⟨by rfl, ?_⟩) (by assumption) ?_
                rotate_left
                · (intro w hSw; (try dsimp only at hSw); go_simp)
                  first | done | with_reducible rfl
                simp only [Act.put, List.getElem_toArray, List.getElem_cons_zero, List.getElem_cons_succ, List.setIfInBounds_toArray, List.set_cons_zero, List.set_cons_succ]
                refine wpAnyH_take (i := 2) (v := ?_) rfl (by kernel_rfl) (by kernel_rfl) (by kernel_rfl) (fun _ _ _ h => h) (Or.inl ⟨by rfl, ?_⟩) (by assumption) ?_
                rotate_left
                · (intro w hSw; (try dsimp only at hSw); go_simp)
                  first | done | with_reducible rfl
                simp only [Act.put, List.getElem_toArray, List.getElem_cons_zero, List.getElem_cons_succ, List.setIfInBounds_toArray, List.set_cons_zero, List.set_cons_succ]
                refine wpAnyH_take (i := 3) (v := ?_) rfl (by kernel_rfl) (by kernel_rfl) (by kernel_rfl) (fun _ _ _ h => h) (Or.inl ⟨by rfl, ?_⟩) (by assumption) ?_
                rotate_left
                · (intro w hSw; (try dsimp only at hSw); go_simp)
                  first | done | with_reducible rfl
                simp only [Act.put, List.getElem_toArray, List.getElem_cons_zero, List.getElem_cons_succ, List.setIfInBounds_toArray, List.set_cons_zero, List.set_cons_succ]
                refine wpAnyH_ready (rs := [4]) (by kernel_rfl) (by simp) ?_
                refine AllReadyH.cons rfl (fun K hK => ?_) AllReadyH.nil
                go_simp
                refine (SL.out _).mono ?_
                rintro e w4 ⟨rfl, hu1⟩
                refine hK.out _ _ ?_ (fun hHeld => ?_)
                · exact ⟨hu1.keep hHeld.1, hu1.keep hHeld.2⟩
                clear hK K
                try simp only [Act.put, List.getElem_toArray, List.getElem_cons_zero, List.getElem_cons_succ, List.setIfInBounds_toArray, List.set_cons_zero, List.set_cons_succ]
                refine wpAnyH_take (i := 5) (v := ?_) rfl (by kernel_rfl) (by kernel_rfl) (by kernel_rfl) (fun _ _ _ h => h) (Or.inl ⟨by rfl, ?_⟩) (by assumption) ?_
                rotate_left
                · (intro w hSw; (try dsimp only at hSw); go_simp)
                  first | done | with_reducible rfl
                simp only [Act.put, List.getElem_toArray, List.getElem_cons_zero, List.getElem_cons_succ, List.setIfInBounds_toArray, List.set_cons_zero, List.set_cons_succ]
                refine wpAnyH_take (i := 6) (v := ?_) rfl (by kernel_rfl) (by kernel_rfl) (by kernel_rfl) (fun _ _ _ h => h) (Or.inl ⟨by rfl, ?_⟩) (by assumption) ?_
                rotate_left
                · (intro w hSw; (try dsimp only at hSw); go_simp)
                  first | done | with_reducible rfl
                simp only [Act.put, List.getElem_toArray, List.getElem_cons_zero, List.getElem_cons_succ, List.setIfInBounds_toArray, List.set_cons_zero, List.set_cons_succ]
                refine wpAnyH_take (i := 7) (v := ?_) rfl (by kernel_rfl) (by kernel_rfl) (by kernel_rfl) (fun _ _ _ h => h) (Or.inl ⟨by rfl, ?_⟩) (by assumption) ?_
                rotate_left
                · (intro w hSw; (try dsimp only at hSw); go_simp)
                  first | done | with_reducible rfl
                simp only [Act.put, List.getElem_toArray, List.getElem_cons_zero, List.getElem_cons_succ, List.setIfInBounds_toArray, List.set_cons_zero, List.set_cons_succ]
                refine wpAnyH_take (i := 8) (v := ?_) rfl (by kernel_rfl) (by kernel_rfl) (by kernel_rfl) (fun _ _ _ h => h) (Or.inl ⟨by rfl, ?_⟩) (by assumption) ?_
                rotate_left
                · (intro w hSw; (try dsimp only at hSw); go_simp)
                  first | done | with_reducible rfl
                simp only [Act.put, List.getElem_toArray, List.getElem_cons_zero, List.getElem_cons_succ, List.setIfInBounds_toArray, List.set_cons_zero, List.set_cons_succ]
                refine wpAnyH_take (i := 9) (v := ?_) rfl (by kernel_rfl) (by kernel_rfl) (by kernel_rfl) (fun _ _ _ h => h) (Or.inl ⟨by rfl, ?_⟩) (by assumption) ?_
                rotate_left
                · (intro w hSw; (try dsimp only at hSw); go_simp)
                  first | done | with_reducible rfl
                simp only [Act.put, List.getElem_toArray, List.getElem_cons_zero, List.getElem_cons_succ, List.setIfInBounds_toArray, List.set_cons_zero, List.set_cons_succ]
                refine wpAnyH_take (i := 10) (v := ?_) rfl (by kernel_rfl) (by kernel_rfl) (by kernel_rfl) (fun _ _ _ h => h) (Or.inl ⟨by rfl, ?_⟩) (by assumption) ?_
                rotate_left
                · (intro w hSw; (try dsimp only at hSw); go_simp)
                  first | done | with_reducible rfl
                simp only [Act.put, List.getElem_toArray, List.getElem_cons_zero, List.getElem_cons_succ, List.setIfInBounds_toArray, List.set_cons_zero, List.set_cons_succ]
                refine wpAnyH_take (i := 11) (v := ?_) rfl (by kernel_rfl) (by kernel_rfl) (by kernel_rfl) (fun _ _ _ h => h) (Or.inl ⟨by rfl, ?_⟩) (by assumption) ?_
                rotate_left
                · (intro w hSw; (try dsimp only at hSw); go_simp)
                  first | done | with_reducible rfl
                simp only [Act.put, List.getElem_toArray, List.getElem_cons_zero, List.getElem_cons_succ, List.setIfInBounds_toArray, List.set_cons_zero, List.set_cons_succ]
                refine wpAnyH_take (i := 12) (v := ?_) rfl (by kernel_rfl) (by kernel_rfl) (by kernel_rfl) (fun _ _ _ h => h) (Or.inl ⟨by rfl, ?_⟩) (by assumption) ?_
                rotate_left
                · (intro w hSw; (try dsimp only at hSw); go_simp)
                  first | done | with_reducible rfl
                simp only [Act.put, List.getElem_toArray, List.getElem_cons_zero, List.getElem_cons_succ, List.setIfInBounds_toArray, List.set_cons_zero, List.set_cons_succ]
                refine wpAnyH_take (i := 13) (v := ?_) rfl (by kernel_rfl) (by kernel_rfl) (by kernel_rfl) (fun _ _ _ h => h) (Or.inl ⟨by rfl, ?_⟩) (by assumption) ?_
                rotate_left
                · (intro w hSw; (try dsimp only at hSw); go_simp)
                  first | done | with_reducible rfl
                simp only [Act.put, List.getElem_toArray, List.getElem_cons_zero, List.getElem_cons_succ, List.setIfInBounds_toArray, List.set_cons_zero, List.set_cons_succ]
                refine wpAnyH_take (i := 14) rfl (by kernel_rfl) (by kernel_rfl) (by kernel_rfl) (fun _ _ _ h => h) (Or.inr ⟨by rfl, rfl⟩) (by assumption) ?_
                simp only [Act.put, List.getElem_toArray, List.getElem_cons_zero, List.getElem_cons_succ, List.setIfInBounds_toArray, List.set_cons_zero, List.set_cons_succ]
                refine wpAnyH_take (i := 15) rfl (by kernel_rfl) (by kernel_rfl) (by kernel_rfl) (fun _ _ _ h => h) (Or.inr ⟨by rfl, rfl⟩) (by assumption) ?_
                simp only [Act.put, List.getElem_toArray, List.getElem_cons_zero, List.getElem_cons_succ, List.setIfInBounds_toArray, List.set_cons_zero, List.set_cons_succ]
                refine wpAnyH_take (i := 16) rfl (by kernel_rfl) (by kernel_rfl) (by kernel_rfl) (fun _ _ _ h => h) (Or.inr ⟨by rfl, rfl⟩) (by assumption) ?_
                simp only [Act.put, List.getElem_toArray, List.getElem_cons_zero, List.getElem_cons_succ, List.setIfInBounds_toArray, List.set_cons_zero, List.set_cons_succ]
                refine wpAnyH_take (i := 17) rfl (by kernel_rfl) (by kernel_rfl) (by kernel_rfl) (fun _ _ _ h => h) (Or.inr ⟨by rfl, rfl⟩) (by assumption) ?_
                simp only [Act.put, List.getElem_toArray, List.getElem_cons_zero, List.getElem_cons_succ, List.setIfInBounds_toArray, List.set_cons_zero, List.set_cons_succ]
                refine wpAnyH_take (i := 18) rfl (by kernel_rfl) (by kernel_rfl) (by kernel_rfl) (fun _ _ _ h => h) (Or.inr ⟨by rfl, rfl⟩) (by assumption) ?_
                simp only [Act.put, List.getElem_toArray, List.getElem_cons_zero, List.getElem_cons_succ, List.setIfInBounds_toArray, List.set_cons_zero, List.set_cons_succ]
                refine wpAnyH_take (i := 19) rfl (by kernel_rfl) (by kernel_rfl) (by kernel_rfl) (fun _ _ _ h => h) (Or.inr ⟨by rfl, rfl⟩) (by assumption) ?_
                simp only [Act.put, List.getElem_toArray, List.getElem_cons_zero, List.getElem_cons_succ, List.setIfInBounds_toArray, List.set_cons_zero, List.set_cons_succ]
                refine wpAnyH_take (i := 20) rfl (by kernel_rfl) (by kernel_rfl) (by kernel_rfl) (fun _ _ _ h => h) (Or.inr ⟨by rfl, rfl⟩) (by assumption) ?_
                simp only [Act.put, List.getElem_toArray, List.getElem_cons_zero, List.getElem_cons_succ, List.setIfInBounds_toArray, List.set_cons_zero, List.set_cons_succ]
                refine wpAnyH_take (i := 21) rfl (by kernel_rfl) (by kernel_rfl) (by kernel_rfl) (fun _ _ _ h => h) (Or.inr ⟨by rfl, rfl⟩) (by assumption) ?_
                simp only [Act.put, List.getElem_toArray, List.getElem_cons_zero, List.getElem_cons_succ, List.setIfInBounds_toArray, List.set_cons_zero, List.set_cons_succ]
                refine wpAnyH_take (i := 22) rfl (by kernel_rfl) (by kernel_rfl) (by kernel_rfl) (fun _ _ _ h => h) (Or.inr ⟨by rfl, rfl⟩) (by assumption) ?_
                simp only [Act.put, List.getElem_toArray, List.getElem_cons_zero, List.getElem_cons_succ, List.setIfInBounds_toArray, List.set_cons_zero, List.set_cons_succ]
                refine wpAnyH_take (i := 23) rfl (by kernel_rfl) (by kernel_rfl) (by kernel_rfl) (fun _ _ _ h => h) (Or.inr ⟨by rfl, rfl⟩) (by assumption) ?_
                simp only [Act.put, List.getElem_toArray, List.getElem_cons_zero, List.getElem_cons_succ, List.setIfInBounds_toArray, List.set_cons_zero, List.set_cons_succ]
                refine wpAnyH_take (i := 24) rfl (by kernel_rfl) (by kernel_rfl) (by kernel_rfl) (fun _ _ _ h => h) (Or.inr ⟨by rfl, rfl⟩) (by assumption) ?_
                simp only [Act.put, List.getElem_toArray, List.getElem_cons_zero, List.getElem_cons_succ, List.setIfInBounds_toArray, List.set_cons_zero, List.set_cons_succ]
                refine wpAnyH_take (i := 25) rfl (by kernel_rfl) (by kernel_rfl) (by kernel_rfl) (fun _ _ _ h => h) (Or.inr ⟨by rfl, rfl⟩) (by assumption) ?_
                simp only [Act.put, List.getElem_toArray, List.getElem_cons_zero, List.getElem_cons_succ, List.setIfInBounds_toArray, List.set_cons_zero, List.set_cons_succ]
                refine wpAnyH_take (i := 26) rfl (by kernel_rfl) (by kernel_rfl) (by kernel_rfl) (fun _ _ _ h => h) (Or.inr ⟨by rfl, rfl⟩) (by assumption) ?_
                simp only [Act.put, List.getElem_toArray, List.getElem_cons_zero, List.getElem_cons_succ, List.setIfInBounds_toArray, List.set_cons_zero, List.set_cons_succ]
                refine wpAnyH_take (i := 27) rfl (by kernel_rfl) (by kernel_rfl) (by kernel_rfl) (fun _ _ _ h => h) (Or.inr ⟨by rfl, rfl⟩) (by assumption) ?_
                simp only [Act.put, List.getElem_toArray, List.getElem_cons_zero, List.getElem_cons_succ, List.setIfInBounds_toArray, List.set_cons_zero, List.set_cons_succ]
                refine wpAnyH_take (i := 28) (v := ?_) rfl (by kernel_rfl) (by kernel_rfl) (by kernel_rfl) (fun _ _ _ h => h) (Or.inl ⟨by rfl, ?_⟩) (by assumption) ?_
                rotate_left
                · (intro w hSw; (try dsimp only at hSw); go_simp)
                  first | done | with_reducible rfl
                simp only [Act.put, List.getElem_toArray, List.getElem_cons_zero, List.getElem_cons_succ, List.setIfInBounds_toArray, List.set_cons_zero, List.set_cons_succ]
                refine wpAnyH_done (by kernel_rfl) ?_ _
                have HU9 := Lib.hid (HU.out.drew.trans hu1)
                clear HU hHeld x0 q0
                go_wp2_with fail
                go_ret
                exact ⟨by rw [HRR.out]; rfl, HU9.out⟩
              · have g2 : (s == [116, 97, 117]) = false := by simpa [tauL] using ht
                have hst0 : (s == tauL) = false := by simpa using ht
                rw [hst0] at HLP
                clear hls ht hst0
                by_cases h1k : 1 < k
                · have kI : decide ((1 : Int) < (k : Int)) = true := decide_eq_true (by omega)
                  have kN : decide (1 < k) = true := decide_eq_true h1k
                  have kP : (1 : Int) < (k : Int) := by omega
                  have i0 : IntKind.i64.wrap ((k : Int) - 1) = (k : Int) - 1 := IntWalk.i64_in _ (by omega)
                  have i1 : ((k : Int) - 1).toNat = k - 1 := by omega
                  have i3 : (0 : Int) ≤ (k : Int) - 1 := by omega
                  have i4 : (k : Int) - 1 < (labs.length : Int) := by omega
                  have i5 : (1 : Int) ≤ (k : Int) := by omega
                  rw [kN] at HLP
                  have hcmp : (Op.bytesLess s pv || s == pv) = !bl pv s := bl_total s pv
                  have hcmp2 : (Op.bytesLess s pv || pv == s) = !bl pv s := by rw [← hcmp]; congr 1; rw [Bool.eq_iff_iff]; simp; exact eq_comm
                  cases hbl : bl pv s with
                  | false =>
                    rw [hbl] at HLP hcmp hcmp2
                    have hbl3 : Op.bytesLess pv s = false := hbl
                    have HRR := Lib.hid (show labsOk labs = false by rw [HLO2.out, HA2.out, HLP.out]; rfl)
                    clear HLO2 HA2 HLP hbl
                    go_wp2_with fail
                    refine wp_region_held_drew (S := fun w' => w'.cell? ⟨b1, o1 + k, none⟩ = some (es s) ∧ w'.cell? ⟨b1, o1 + (k - 1), none⟩ = some (es pv)) (by kernel_rfl) ?_ (fun hHeld => ?_)
                    · exact ⟨x0, q0⟩
                    refine wpAnyH_take (i := 0) (v := ?_) rfl (by kernel_rfl) (by kernel_rfl) (by kernel_rfl) (fun _ _ _ h => h) (Or.inl ⟨by rfl, ?_⟩) (by assumption) ?_
                    rotate_left
                    · (intro w hSw; (try dsimp only at hSw); go_simp)
                      first | done | with_reducible rfl
                    simp only [Act.put, List.getElem_toArray, List.getElem_cons_zero, List.setIfInBounds_toArray, List.set_cons_zero, List.set_cons_succ]
                    refine wpAnyH_take (i := 1) (v := ?_) rfl (by kernel_rfl) (by kernel_rfl) (by kernel_rfl) (fun _ _ _ h => h) (Or.inl ⟨by rfl, ?_⟩) (by assumption) ?_
                    rotate_left
                    · (intro w hSw; (try dsimp only at hSw); go_simp)
                      first | done | with_reducible rfl
                    simp only [Act.put, List.getElem_toArray, List.getElem_cons_zero, List.getElem_cons_succ, List.setIfInBounds_toArray, List.set_cons_zero, List.set_cons_succ]
                    refine wpAnyH_take (i := 2) (v := ?_) rfl (by kernel_rfl) (by kernel_rfl) (by kernel_rfl) (fun _ _ _ h => h) (Or.inl ⟨by rfl, ?_⟩) (by assumption) ?_
                    rotate_left
                    · (intro w hSw; (try dsimp only at hSw); go_simp)
                      first | done | with_reducible rfl
                    simp only [Act.put, List.getElem_toArray, List.getElem_cons_zero, List.getElem_cons_succ, List.setIfInBounds_toArray, List.set_cons_zero, List.set_cons_succ]
                    refine wpAnyH_take (i := 3) (v := ?_) rfl (by kernel_rfl) (by kernel_rfl) (by kernel_rfl) (fun _ _ _ h => h) (Or.inl ⟨by rfl, ?_⟩) (by assumption) ?_
                    rotate_left
                    · (intro w hSw; (try dsimp only at hSw); go_simp)
                      first | done | with_reducible rfl
                    simp only [Act.put, List.getElem_toArray, List.getElem_cons_zero, List.getElem_cons_succ, List.setIfInBounds_toArray, List.set_cons_zero, List.set_cons_succ]
                    refine wpAnyH_ready (rs := [4]) (by kernel_rfl) (by simp) ?_
                    refine AllReadyH.cons rfl (fun K hK => ?_) AllReadyH.nil
                    go_simp
                    refine (SL.out _).mono ?_
                    rintro e w4 ⟨rfl, hu1⟩
                    refine hK.out _ _ ?_ (fun hHeld => ?_)
                    · exact ⟨hu1.keep hHeld.1, hu1.keep hHeld.2⟩
                    clear hK K
                    try simp only [Act.put, List.getElem_toArray, List.getElem_cons_zero, List.getElem_cons_succ, List.setIfInBounds_toArray, List.set_cons_zero, List.set_cons_succ]
                    refine wpAnyH_take (i := 5) (v := ?_) rfl (by kernel_rfl) (by kernel_rfl) (by kernel_rfl) (fun _ _ _ h => h) (Or.inl ⟨by rfl, ?_⟩) (by assumption) ?_
                    rotate_left
                    · (intro w hSw; (try dsimp only at hSw); go_simp)
                      first | done | with_reducible rfl
                    simp only [Act.put, List.getElem_toArray, List.getElem_cons_zero, List.getElem_cons_succ, List.setIfInBounds_toArray, List.set_cons_zero, List.set_cons_succ]
                    refine wpAnyH_take (i := 6) (v := ?_) rfl (by kernel_rfl) (by kernel_rfl) (by kernel_rfl) (fun _ _ _ h => h) (Or.inl ⟨by rfl, ?_⟩) (by assumption) ?_
                    rotate_left
                    · (intro w hSw; (try dsimp only at hSw); go_simp)
                      first | done | with_reducible rfl
                    simp only [Act.put, List.getElem_toArray, List.getElem_cons_zero, List.getElem_cons_succ, List.setIfInBounds_toArray, List.set_cons_zero, List.set_cons_succ]
                    refine wpAnyH_take (i := 7) (v := ?_) rfl (by kernel_rfl) (by kernel_rfl) (by kernel_rfl) (fun _ _ _ h => h) (Or.inl ⟨by rfl, ?_⟩) (by assumption) ?_
                    rotate_left
                    · (intro w hSw; (try dsimp only at hSw); go_simp)
                      first | done | with_reducible rfl
                    simp only [Act.put, List.getElem_toArray, List.getElem_cons_zero, List.getElem_cons_succ, List.setIfInBounds_toArray, List.set_cons_zero, List.set_cons_succ]
                    refine wpAnyH_take (i := 8) (v := ?_) rfl (by kernel_rfl) (by kernel_rfl) (by kernel_rfl) (fun _ _ _ h => h) (Or.inl ⟨by rfl, ?_⟩) (by assumption) ?_
                    rotate_left
                    · (intro w hSw; (try dsimp only at hSw); go_simp)
                      first | done | with_reducible rfl
                    simp only [Act.put, List.getElem_toArray, List.getElem_cons_zero, List.getElem_cons_succ, List.setIfInBounds_toArray, List.set_cons_zero, List.set_cons_succ]
                    refine wpAnyH_take (i := 9) (v := ?_) rfl (by kernel_rfl) (by kernel_rfl) (by kernel_rfl) (fun _ _ _ h => h) (Or.inl ⟨by rfl, ?_⟩) (by assumption) ?_
                    rotate_left
                    · (intro w hSw; (try dsimp only at hSw); go_simp)
                      first | done | with_reducible rfl
                    simp only [Act.put, List.getElem_toArray, List.getElem_cons_zero, List.getElem_cons_succ, List.setIfInBounds_toArray, List.set_cons_zero, List.set_cons_succ]
                    refine wpAnyH_take (i := 10) (v := ?_) rfl (by kernel_rfl) (by kernel_rfl) (by kernel_rfl) (fun _ _ _ h => h) (Or.inl ⟨by rfl, ?_⟩) (by assumption) ?_
                    rotate_left
                    · (intro w hSw; (try dsimp only at hSw); go_simp)
                      first | done | with_reducible rfl
                    simp only [Act.put, List.getElem_toArray, List.getElem_cons_zero, List.getElem_cons_succ, List.setIfInBounds_toArray, List.set_cons_zero, List.set_cons_succ]
                    refine wpAnyH_take (i := 11) (v := ?_) rfl (by kernel_rfl) (by kernel_rfl) (by kernel_rfl) (fun _ _ _ h => h) (Or.inl ⟨by rfl, ?_⟩) (by assumption) ?_
                    rotate_left
                    · (intro w hSw; (try dsimp only at hSw); go_simp)
                      first | done | with_reducible rfl
                    simp only [Act.put, List.getElem_toArray, List.getElem_cons_zero, List.getElem_cons_succ, List.setIfInBounds_toArray, List.set_cons_zero, List.set_cons_succ]
                    refine wpAnyH_take (i := 12) (v := ?_) rfl (by kernel_rfl) (by kernel_rfl) (by kernel_rfl) (fun _ _ _ h => h) (Or.inl ⟨by rfl, ?_⟩) (by assumption) ?_
                    rotate_left
                    · (intro w hSw; (try dsimp only at hSw); go_simp)
                      first | done | with_reducible rfl
                    simp only [Act.put, List.getElem_toArray, List.getElem_cons_zero, List.getElem_cons_succ, List.setIfInBounds_toArray, List.set_cons_zero, List.set_cons_succ]
                    refine wpAnyH_take (i := 13) (v := ?_) rfl (by kernel_rfl) (by kernel_rfl) (by kernel_rfl) (fun _ _ _ h => h) (Or.inl ⟨by rfl, ?_⟩) (by assumption) ?_
                    rotate_left
                    · (intro w hSw; (try dsimp only at hSw); go_simp)
                      first | done | with_reducible rfl
                    simp only [Act.put, List.getElem_toArray, List.getElem_cons_zero, List.getElem_cons_succ, List.setIfInBounds_toArray, List.set_cons_zero, List.set_cons_succ]
                    refine wpAnyH_take (i := 14) (v := ?_) rfl (by kernel_rfl) (by kernel_rfl) (by kernel_rfl) (fun _ _ _ h => h) (Or.inl ⟨by rfl, ?_⟩) (by assumption) ?_
                    rotate_left
                    · (intro w hSw; (try dsimp only at hSw); go_simp)
                      first | done | with_reducible rfl
                    simp only [Act.put, List.getElem_toArray, List.getElem_cons_zero, List.getElem_cons_succ, List.setIfInBounds_toArray, List.set_cons_zero, List.set_cons_succ]
                    refine wpAnyH_take (i := 15) (v := ?_) rfl (by kernel_rfl) (by kernel_rfl) (by kernel_rfl) (fun _ _ _ h => h) (Or.inl ⟨by rfl, ?_⟩) (by assumption) ?_
                    rotate_left
                    · (intro w hSw; (try dsimp only at hSw); go_simp)
                      first | done | with_reducible rfl
                    simp only [Act.put, List.getElem_toArray, List.getElem_cons_zero, List.getElem_cons_succ, List.setIfInBounds_toArray, List.set_cons_zero, List.set_cons_succ]
                    try simp only [kN]
                    try simp only [kI]
                    refine wpAnyH_take (i := 16) (v := ?_) rfl (by kernel_rfl) (by kernel_rfl) (by kernel_rfl) (fun _ _ _ h => h) (Or.inl ⟨by rfl, ?_⟩) (by assumption) ?_
                    rotate_left
                    · (intro w hSw; (try dsimp only at hSw); go_simp)
                      first | done | with_reducible rfl
                    simp only [Act.put, List.getElem_toArray, List.getElem_cons_zero, List.getElem_cons_succ, List.setIfInBounds_toArray, List.set_cons_zero, List.set_cons_succ]
                    refine wpAnyH_take (i := 17) (v := ?_) rfl (by kernel_rfl) (by kernel_rfl) (by kernel_rfl) (fun _ _ _ h => h) (Or.inl ⟨by rfl, ?_⟩) (by assumption) ?_
                    rotate_left
                    · (intro w hSw; (try dsimp only at hSw); go_simp)
                      first | done | with_reducible rfl
                    simp only [Act.put, List.getElem_toArray, List.getElem_cons_zero, List.getElem_cons_succ, List.setIfInBounds_toArray, List.set_cons_zero, List.set_cons_succ]
                    refine wpAnyH_take (i := 18) (v := ?_) rfl (by kernel_rfl) (by kernel_rfl) (by kernel_rfl) (fun _ _ _ h => h) (Or.inl ⟨by rfl, ?_⟩) (by assumption) ?_
                    rotate_left
                    · (intro w hSw; (try dsimp only at hSw); go_simp)
                      first | done | with_reducible rfl
                    simp only [Act.put, List.getElem_toArray, List.getElem_cons_zero, List.getElem_cons_succ, List.setIfInBounds_toArray, List.set_cons_zero, List.set_cons_succ]
                    refine wpAnyH_take (i := 19) (v := ?_) rfl (by kernel_rfl) (by kernel_rfl) (by kernel_rfl) (fun _ _ _ h => h) (Or.inl ⟨by rfl, ?_⟩) (by assumption) ?_
                    rotate_left
                    · (intro w hSw; (try dsimp only at hSw); go_simp)
                      first | done | with_reducible rfl
                    simp only [Act.put, List.getElem_toArray, List.getElem_cons_zero, List.getElem_cons_succ, List.setIfInBounds_toArray, List.set_cons_zero, List.set_cons_succ]
                    try simp only [i0]
                    refine wpAnyH_take (i := 20) (v := ?_) rfl (by kernel_rfl) (by kernel_rfl) (by kernel_rfl) (fun _ _ _ h => h) (Or.inl ⟨by rfl, ?_⟩) (by assumption) ?_
                    rotate_left
                    · (intro w hSw; (try dsimp only at hSw); go_simp)
                      first | done | with_reducible rfl
                    simp only [Act.put, List.getElem_toArray, List.getElem_cons_zero, List.getElem_cons_succ, List.setIfInBounds_toArray, List.set_cons_zero, List.set_cons_succ]
                    try simp only [i1]
                    refine wpAnyH_take (i := 21) (v := ?_) rfl (by kernel_rfl) (by kernel_rfl) (by kernel_rfl) (fun _ _ _ h => h) (Or.inl ⟨by rfl, ?_⟩) (by assumption) ?_
                    rotate_left
                    · (intro w hSw; (try dsimp only at hSw); go_simp)
                      first | done | with_reducible rfl
                    simp only [Act.put, List.getElem_toArray, List.getElem_cons_zero, List.getElem_cons_succ, List.setIfInBounds_toArray, List.set_cons_zero, List.set_cons_succ]
                    refine wpAnyH_take (i := 22) (v := ?_) rfl (by kernel_rfl) (by kernel_rfl) (by kernel_rfl) (fun _ _ _ h => h) (Or.inl ⟨by rfl, ?_⟩) (by assumption) ?_
                    rotate_left
                    · (intro w hSw; (try dsimp only at hSw); go_simp)
                      first | done | with_reducible rfl
                    simp only [Act.put, List.getElem_toArray, List.getElem_cons_zero, List.getElem_cons_succ, List.setIfInBounds_toArray, List.set_cons_zero, List.set_cons_succ]
                    refine wpAnyH_take (i := 23) (v := ?_) rfl (by kernel_rfl) (by kernel_rfl) (by kernel_rfl) (fun _ _ _ h => h) (Or.inl ⟨by rfl, ?_⟩) (by assumption) ?_
                    rotate_left
                    · (intro w hSw; (try dsimp only at hSw); go_simp)
                      first | done | with_reducible rfl
                    simp only [Act.put, List.getElem_toArray, List.getElem_cons_zero, List.getElem_cons_succ, List.setIfInBounds_toArray, List.set_cons_zero, List.set_cons_succ]
                    refine wpAnyH_take (i := 24) (v := ?_) rfl (by kernel_rfl) (by kernel_rfl) (by kernel_rfl) (fun _ _ _ h => h) (Or.inl ⟨by rfl, ?_⟩) (by assumption) ?_
                    rotate_left
                    · (intro w hSw; (try dsimp only at hSw); go_simp)
                      first | done | with_reducible rfl
                    simp only [Act.put, List.getElem_toArray, List.getElem_cons_zero, List.getElem_cons_succ, List.setIfInBounds_toArray, List.set_cons_zero, List.set_cons_succ]
                    refine wpAnyH_take (i := 25) (v := ?_) rfl (by kernel_rfl) (by kernel_rfl) (by kernel_rfl) (fun _ _ _ h => h) (Or.inl ⟨by rfl, ?_⟩) (by assumption) ?_
                    rotate_left
                    · (intro w hSw; (try dsimp only at hSw); go_simp)
                      first | done | with_reducible rfl
                    simp only [Act.put, List.getElem_toArray, List.getElem_cons_zero, List.getElem_cons_succ, List.setIfInBounds_toArray, List.set_cons_zero, List.set_cons_succ]
                    refine wpAnyH_take (i := 26) (v := ?_) rfl (by kernel_rfl) (by kernel_rfl) (by kernel_rfl) (fun _ _ _ h => h) (Or.inl ⟨by rfl, ?_⟩) (by assumption) ?_
                    rotate_left
                    · (intro w hSw; (try dsimp only at hSw); go_simp)
                      first | done | with_reducible rfl
                    simp only [Act.put, List.getElem_toArray, List.getElem_cons_zero, List.getElem_cons_succ, List.setIfInBounds_toArray, List.set_cons_zero, List.set_cons_succ]
                    refine wpAnyH_take (i := 27) (v := ?_) rfl (by kernel_rfl) (by kernel_rfl) (by kernel_rfl) (fun _ _ _ h => h) (Or.inl ⟨by rfl, ?_⟩) (by assumption) ?_
                    rotate_left
                    · (intro w hSw; (try dsimp only at hSw); go_simp)
                      first | done | with_reducible rfl
                    simp only [Act.put, List.getElem_toArray, List.getElem_cons_zero, List.getElem_cons_succ, List.setIfInBounds_toArray, List.set_cons_zero, List.set_cons_succ]
                    refine wpAnyH_take (i := 28) (v := ?_) rfl (by kernel_rfl) (by kernel_rfl) (by kernel_rfl) (fun _ _ _ h => h) (Or.inl ⟨by rfl, ?_⟩) (by assumption) ?_
                    rotate_left
                    · (intro w hSw; (try dsimp only at hSw); go_simp)
                      first | done | with_reducible rfl
                    simp only [Act.put, List.getElem_toArray, List.getElem_cons_zero, List.getElem_cons_succ, List.setIfInBounds_toArray, List.set_cons_zero, List.set_cons_succ]
                    refine wpAnyH_done (by kernel_rfl) ?_ _
                    have HU9 := Lib.hid (HU.out.drew.trans hu1)
                    clear HU hHeld x0 q0
                    go_wp2_with fail
                    go_ret
                    exact ⟨by rw [HRR.out]; rfl, HU9.out⟩
                  | true =>
                    rw [hbl] at HLP hcmp hcmp2
                    have hbl3 : Op.bytesLess pv s = true := hbl
                    have HA3 := Lib.hid (show allF (labP labs) (k + 1) (labs.length - (k + 1)) = allF (labP labs) 0 labs.length by rw [HA2.out, HLP.out]; simp)
                    clear HA2 HLP hbl
                    go_wp2_with fail
                    refine wp_region_held_drew (S := fun w' => w'.cell? ⟨b1, o1 + k, none⟩ = some (es s) ∧ w'.cell? ⟨b1, o1 + (k - 1), none⟩ = some (es pv)) (by kernel_rfl) ?_ (fun hHeld => ?_)
                    · exact ⟨x0, q0⟩
                    refine wpAnyH_take (i := 0) (v := ?_) rfl (by kernel_rfl) (by kernel_rfl) (by kernel_rfl) (fun _ _ _ h => h) (Or.inl ⟨by rfl, ?_⟩) (by assumption) ?_
                    rotate_left
                    · (intro w hSw; (try dsimp only at hSw); go_simp)
                      first | done | with_reducible rfl
                    simp only [Act.put, List.getElem_toArray, List.getElem_cons_zero, List.setIfInBounds_toArray, List.set_cons_zero, List.set_cons_succ]
                    refine wpAnyH_take (i := 1) (v := ?_) rfl (by kernel_rfl) (by kernel_rfl) (by kernel_rfl) (fun _ _ _ h => h) (Or.inl ⟨by rfl, ?_⟩) (by assumption) ?_
                    rotate_left
                    · (intro w hSw; (try dsimp only at hSw); go_simp)
                      first | done | with_reducible rfl
                    simp only [Act.put, List.getElem_toArray, List.getElem_cons_zero, List.getElem_cons_succ, List.setIfInBounds_toArray, List.set_cons_zero, List.set_cons_succ]
                    refine wpAnyH_take (i := 2) (v := ?_) rfl (by kernel_rfl) (by kernel_rfl) (by kernel_rfl) (fun _ _ _ h => h) (Or.inl ⟨by rfl, ?_⟩) (by assumption) ?_
                    rotate_left
                    · (intro w hSw; (try dsimp only at hSw); go_simp)
                      first | done | with_reducible rfl
                    simp only [Act.put, List.getElem_toArray, List.getElem_cons_zero, List.getElem_cons_succ, List.setIfInBounds_toArray, List.set_cons_zero, List.set_cons_succ]
                    refine wpAnyH_take (i := 3) (v := ?_) rfl (by kernel_rfl) (by kernel_rfl) (by kernel_rfl) (fun _ _ _ h => h) (Or.inl ⟨by rfl, ?_⟩) (by assumption) ?_
                    rotate_left
                    · (intro w hSw; (try dsimp only at hSw); go_simp)
                      first | done | with_reducible rfl
                    simp only [Act.put, List.getElem_toArray, List.getElem_cons_zero, List.getElem_cons_succ, List.setIfInBounds_toArray, List.set_cons_zero, List.set_cons_succ]
                    refine wpAnyH_ready (rs := [4]) (by kernel_rfl) (by simp) ?_
                    refine AllReadyH.cons rfl (fun K hK => ?_) AllReadyH.nil
                    go_simp
                    refine (SL.out _).mono ?_
                    rintro e w4 ⟨rfl, hu1⟩
                    refine hK.out _ _ ?_ (fun hHeld => ?_)
                    · exact ⟨hu1.keep hHeld.1, hu1.keep hHeld.2⟩
                    clear hK K
                    try simp only [Act.put, List.getElem_toArray, List.getElem_cons_zero, List.getElem_cons_succ, List.setIfInBounds_toArray, List.set_cons_zero, List.set_cons_succ]
                    refine wpAnyH_take (i := 5) (v := ?_) rfl (by kernel_rfl) (by kernel_rfl) (by kernel_rfl) (fun _ _ _ h => h) (Or.inl ⟨by rfl, ?_⟩) (by assumption) ?_
                    rotate_left
                    · (intro w hSw; (try dsimp only at hSw); go_simp)
                      first | done | with_reducible rfl
                    simp only [Act.put, List.getElem_toArray, List.getElem_cons_zero, List.getElem_cons_succ, List.setIfInBounds_toArray, List.set_cons_zero, List.set_cons_succ]
                    refine wpAnyH_take (i := 6) (v := ?_) rfl (by kernel_rfl) (by kernel_rfl) (by kernel_rfl) (fun _ _ _ h => h) (Or.inl ⟨by rfl, ?_⟩) (by assumption) ?_
                    rotate_left
                    · (intro w hSw; (try dsimp only at hSw); go_simp)
                      first | done | with_reducible rfl
                    simp only [Act.put, List.getElem_toArray, List.getElem_cons_zero, List.getElem_cons_succ, List.setIfInBounds_toArray, List.set_cons_zero, List.set_cons_succ]
                    refine wpAnyH_take (i := 7) (v := ?_) rfl (by kernel_rfl) (by kernel_rfl) (by kernel_rfl) (fun _ _ _ h => h) (Or.inl ⟨by rfl, ?_⟩) (by assumption) ?_
                    rotate_left
                    · (intro w hSw; (try dsimp only at hSw); go_simp)
                      first | done | with_reducible rfl
                    simp only [Act.put, List.getElem_toArray, List.getElem_cons_zero, List.getElem_cons_succ, List.setIfInBounds_toArray, List.set_cons_zero, List.set_cons_succ]
                    refine wpAnyH_take (i := 8) (v := ?_) rfl (by kernel_rfl) (by kernel_rfl) (by kernel_rfl) (fun _ _ _ h => h) (Or.inl ⟨by rfl, ?_⟩) (by assumption) ?_
                    rotate_left
                    · (intro w hSw; (try dsimp only at hSw); go_simp)
                      first | done | with_reducible rfl
                    simp only [Act.put, List.getElem_toArray, List.getElem_cons_zero, List.getElem_cons_succ, List.setIfInBounds_toArray, List.set_cons_zero, List.set_cons_succ]
                    refine wpAnyH_take (i := 9) (v := ?_) rfl (by kernel_rfl) (by kernel_rfl) (by kernel_rfl) (fun _ _ _ h => h) (Or.inl ⟨by rfl, ?_⟩) (by assumption) ?_
                    rotate_left
                    · (intro w hSw; (try dsimp only at hSw); go_simp)
                      first | done | with_reducible rfl
                    simp only [Act.put, List.getElem_toArray, List.getElem_cons_zero, List.getElem_cons_succ, List.setIfInBounds_toArray, List.set_cons_zero, List.set_cons_succ]
                    refine wpAnyH_take (i := 10) (v := ?_) rfl (by kernel_rfl) (by kernel_rfl) (by kernel_rfl) (fun _ _ _ h => h) (Or.inl ⟨by rfl, ?_⟩) (by assumption) ?_
                    rotate_left
                    · (intro w hSw; (try dsimp only at hSw); go_simp)
                      first | done | with_reducible rfl
                    simp only [Act.put, List.getElem_toArray, List.getElem_cons_zero, List.getElem_cons_succ, List.setIfInBounds_toArray, List.set_cons_zero, List.set_cons_succ]
                    refine wpAnyH_take (i := 11) (v := ?_) rfl (by kernel_rfl) (by kernel_rfl) (by kernel_rfl) (fun _ _ _ h => h) (Or.inl ⟨by rfl, ?_⟩) (by assumption) ?_
                    rotate_left
                    · (intro w hSw; (try dsimp only at hSw); go_simp)
                      first | done | with_reducible rfl
                    simp only [Act.put, List.getElem_toArray, List.getElem_cons_zero, List.getElem_cons_succ, List.setIfInBounds_toArray, List.set_cons_zero, List.set_cons_succ]
                    refine wpAnyH_take (i := 12) (v := ?_) rfl (by kernel_rfl) (by kernel_rfl) (by kernel_rfl) (fun _ _ _ h => h) (Or.inl ⟨by rfl, ?_⟩) (by assumption) ?_
                    rotate_left
                    · (intro w hSw; (try dsimp only at hSw); go_simp)
                      first | done | with_reducible rfl
                    simp only [Act.put, List.getElem_toArray, List.getElem_cons_zero, List.getElem_cons_succ, List.setIfInBounds_toArray, List.set_cons_zero, List.set_cons_succ]
                    refine wpAnyH_take (i := 13) (v := ?_) rfl (by kernel_rfl) (by kernel_rfl) (by kernel_rfl) (fun _ _ _ h => h) (Or.inl ⟨by rfl, ?_⟩) (by assumption) ?_
                    rotate_left
                    · (intro w hSw; (try dsimp only at hSw); go_simp)
                      first | done | with_reducible rfl
                    simp only [Act.put, List.getElem_toArray, List.getElem_cons_zero, List.getElem_cons_succ, List.setIfInBounds_toArray, List.set_cons_zero, List.set_cons_succ]
                    refine wpAnyH_take (i := 14) (v := ?_) rfl (by kernel_rfl) (by kernel_rfl) (by kernel_rfl) (fun _ _ _ h => h) (Or.inl ⟨by rfl, ?_⟩) (by assumption) ?_
                    rotate_left
                    · (intro w hSw; (try dsimp only at hSw); go_simp)
                      first | done | with_reducible rfl
                    simp only [Act.put, List.getElem_toArray, List.getElem_cons_zero, List.getElem_cons_succ, List.setIfInBounds_toArray, List.set_cons_zero, List.set_cons_succ]
                    refine wpAnyH_take (i := 15) (v := ?_) rfl (by kernel_rfl) (by kernel_rfl) (by kernel_rfl) (fun _ _ _ h => h) (Or.inl ⟨by rfl, ?_⟩) (by assumption) ?_
                    rotate_left
                    · (intro w hSw; (try dsimp only at hSw); go_simp)
                      first | done | with_reducible rfl
                    simp only [Act.put, List.getElem_toArray, List.getElem_cons_zero, List.getElem_cons_succ, List.setIfInBounds_toArray, List.set_cons_zero, List.set_cons_succ]
                    try simp only [kN]
                    try simp only [kI]
                    refine wpAnyH_take (i := 16) (v := ?_) rfl (by kernel_rfl) (by kernel_rfl) (by kernel_rfl) (fun _ _ _ h => h) (Or.inl ⟨by rfl, ?_⟩) (by assumption) ?_
                    rotate_left
                    · (intro w hSw; (try dsimp only at hSw); go_simp)
                      first | done | with_reducible rfl
                    simp only [Act.put, List.getElem_toArray, List.getElem_cons_zero, List.getElem_cons_succ, List.setIfInBounds_toArray, List.set_cons_zero, List.set_cons_succ]
                    refine wpAnyH_take (i := 17) (v := ?_) rfl (by kernel_rfl) (by kernel_rfl) (by kernel_rfl) (fun _ _ _ h => h) (Or.inl ⟨by rfl, ?_⟩) (by assumption) ?_
                    rotate_left
                    · (intro w hSw; (try dsimp only at hSw); go_simp)
                      first | done | with_reducible rfl
                    simp only [Act.put, List.getElem_toArray, List.getElem_cons_zero, List.getElem_cons_succ, List.setIfInBounds_toArray, List.set_cons_zero, List.set_cons_succ]
                    refine wpAnyH_take (i := 18) (v := ?_) rfl (by kernel_rfl) (by kernel_rfl) (by kernel_rfl) (fun _ _ _ h => h) (Or.inl ⟨by rfl, ?_⟩) (by assumption) ?_
                    rotate_left
                    · (intro w hSw; (try dsimp only at hSw); go_simp)
                      first | done | with_reducible rfl
                    simp only [Act.put, List.getElem_toArray, List.getElem_cons_zero, List.getElem_cons_succ, List.setIfInBounds_toArray, List.set_cons_zero, List.set_cons_succ]
                    refine wpAnyH_take (i := 19) (v := ?_) rfl (by kernel_rfl) (by kernel_rfl) (by kernel_rfl) (fun _ _ _ h => h) (Or.inl ⟨by rfl, ?_⟩) (by assumption) ?_
                    rotate_left
                    · (intro w hSw; (try dsimp only at hSw); go_simp)
                      first | done | with_reducible rfl
                    simp only [Act.put, List.getElem_toArray, List.getElem_cons_zero, List.getElem_cons_succ, List.setIfInBounds_toArray, List.set_cons_zero, List.set_cons_succ]
                    try simp only [i0]
                    refine wpAnyH_take (i := 20) (v := ?_) rfl (by kernel_rfl) (by kernel_rfl) (by kernel_rfl) (fun _ _ _ h => h) (Or.inl ⟨by rfl, ?_⟩) (by assumption) ?_
                    rotate_left
                    · (intro w hSw; (try dsimp only at hSw); go_simp)
                      first | done | with_reducible rfl
                    simp only [Act.put, List.getElem_toArray, List.getElem_cons_zero, List.getElem_cons_succ, List.setIfInBounds_toArray, List.set_cons_zero, List.set_cons_succ]
                    try simp only [i1]
                    refine wpAnyH_take (i := 21) (v := ?_) rfl (by kernel_rfl) (by kernel_rfl) (by kernel_rfl) (fun _ _ _ h => h) (Or.inl ⟨by rfl, ?_⟩) (by assumption) ?_
                    rotate_left
                    · (intro w hSw; (try dsimp only at hSw); go_simp)
                      first | done | with_reducible rfl
                    simp only [Act.put, List.getElem_toArray, List.getElem_cons_zero, List.getElem_cons_succ, List.setIfInBounds_toArray, List.set_cons_zero, List.set_cons_succ]
                    refine wpAnyH_take (i := 22) (v := ?_) rfl (by kernel_rfl) (by kernel_rfl) (by kernel_rfl) (fun _ _ _ h => h) (Or.inl ⟨by rfl, ?_⟩) (by assumption) ?_
                    rotate_left
                    · (intro w hSw; (try dsimp only at hSw); go_simp)
                      first | done | with_reducible rfl
                    simp only [Act.put, List.getElem_toArray, List.getElem_cons_zero, List.getElem_cons_succ, List.setIfInBounds_toArray, List.set_cons_zero, List.set_cons_succ]
                    refine wpAnyH_take (i := 23) (v := ?_) rfl (by kernel_rfl) (by kernel_rfl) (by kernel_rfl) (fun _ _ _ h => h) (Or.inl ⟨by rfl, ?_⟩) (by assumption) ?_
                    rotate_left
                    · (intro w hSw; (try dsimp only at hSw); go_simp)
                      first | done | with_reducible rfl
                    simp only [Act.put, List.getElem_toArray, List.getElem_cons_zero, List.getElem_cons_succ, List.setIfInBounds_toArray, List.set_cons_zero, List.set_cons_succ]
                    refine wpAnyH_take (i := 24) (v := ?_) rfl (by kernel_rfl) (by kernel_rfl) (by kernel_rfl) (fun _ _ _ h => h) (Or.inl ⟨by rfl, ?_⟩) (by assumption) ?_
                    rotate_left
                    · (intro w hSw; (try dsimp only at hSw); go_simp)
                      first | done | with_reducible rfl
                    simp only [Act.put, List.getElem_toArray, List.getElem_cons_zero, List.getElem_cons_succ, List.setIfInBounds_toArray, List.set_cons_zero, List.set_cons_succ]
                    refine wpAnyH_take (i := 25) (v := ?_) rfl (by kernel_rfl) (by kernel_rfl) (by kernel_rfl) (fun _ _ _ h => h) (Or.inl ⟨by rfl, ?_⟩) (by assumption) ?_
                    rotate_left
                    · (intro w hSw; (try dsimp only at hSw); go_simp)
                      first | done | with_reducible rfl
                    simp only [Act.put, List.getElem_toArray, List.getElem_cons_zero, List.getElem_cons_succ, List.setIfInBounds_toArray, List.set_cons_zero, List.set_cons_succ]
                    refine wpAnyH_take (i := 26) (v := ?_) rfl (by kernel_rfl) (by kernel_rfl) (by kernel_rfl) (fun _ _ _ h => h) (Or.inl ⟨by rfl, ?_⟩) (by assumption) ?_
                    rotate_left
                    · (intro w hSw; (try dsimp only at hSw); go_simp)
                      first | done | with_reducible rfl
                    simp only [Act.put, List.getElem_toArray, List.getElem_cons_zero, List.getElem_cons_succ, List.setIfInBounds_toArray, List.set_cons_zero, List.set_cons_succ]
                    refine wpAnyH_take (i := 27) (v := ?_) rfl (by kernel_rfl) (by kernel_rfl) (by kernel_rfl) (fun _ _ _ h => h) (Or.inl ⟨by rfl, ?_⟩) (by assumption) ?_
                    rotate_left
                    · (intro w hSw; (try dsimp only at hSw); go_simp)
                      first | done | with_reducible rfl
                    simp only [Act.put, List.getElem_toArray, List.getElem_cons_zero, List.getElem_cons_succ, List.setIfInBounds_toArray, List.set_cons_zero, List.set_cons_succ]
                    refine wpAnyH_take (i := 28) (v := ?_) rfl (by kernel_rfl) (by kernel_rfl) (by kernel_rfl) (fun _ _ _ h => h) (Or.inl ⟨by rfl, ?_⟩) (by assumption) ?_
                    rotate_left
                    · (intro w hSw; (try dsimp only at hSw); go_simp)
                      first | done | with_reducible rfl
                    simp only [Act.put, List.getElem_toArray, List.getElem_cons_zero, List.getElem_cons_succ, List.setIfInBounds_toArray, List.set_cons_zero, List.set_cons_succ]
                    refine wpAnyH_done (by kernel_rfl) ?_ _
                    have HU9 := Lib.hid (HU.out.drew.trans hu1)
                    clear HU hHeld x0 q0
                    go_wp2_with fail
                    go_roundw
                    case rel => exact ⟨k + 1, by omega, by omega, by go_num, HA3, HU9.out⟩
                    case measure => simp [intOf]; omega
                · have kI : decide ((1 : Int) < (k : Int)) = false := decide_eq_false (by omega)
                  have kN : decide (1 < k) = false := decide_eq_false h1k
                  have kP : ¬ (1 : Int) < (k : Int) := by omega
                  rw [kN] at HLP
                  have HA3 := Lib.hid (show allF (labP labs) (k + 1) (labs.length - (k + 1)) = allF (labP labs) 0 labs.length by rw [HA2.out, HLP.out]; simp)
                  clear HA2 HLP
                  go_wp2_with fail
                  refine wp_region_held_drew (S := fun w' => w'.cell? ⟨b1, o1 + k, none⟩ = some (es s) ∧ w'.cell? ⟨b1, o1 + (k - 1), none⟩ = some (es pv)) (by kernel_rfl) ?_ (fun hHeld => ?_)
                  · exact ⟨x0, q0⟩
                  refine wpAnyH_take (i := 0) (v := ?_) rfl (by kernel_rfl) (by kernel_rfl) (by kernel_rfl) (fun _ _ _ h => h) (Or.inl ⟨by rfl, ?_⟩) (by assumption) ?_
                  rotate_left
                  · (intro w hSw; (try dsimp only at hSw); go_simp)
                    first | done | with_reducible rfl
                  simp only [Act.put, List.getElem_toArray, List.getElem_cons_zero, List.setIfInBounds_toArray, List.set_cons_zero, List.set_cons_succ]
                  refine wpAnyH_take (i := 1) (v := ?_) rfl (by kernel_rfl) (by kernel_rfl) (by kernel_rfl) (fun _ _ _ h => h) (Or.inl ⟨by rfl, ?_⟩) (by assumption) ?_
                  rotate_left
                  · (intro w hSw; (try dsimp only at hSw); go_simp)
                    first | done | with_reducible rfl
                  simp only [Act.put, List.getElem_toArray, List.getElem_cons_zero, List.getElem_cons_succ, List.setIfInBounds_toArray, List.set_cons_zero, List.set_cons_succ]
                  refine wpAnyH_take (i := 2) (v := ?_) rfl (by kernel_rfl) (by kernel_rfl) (by kernel_rfl) (fun _ _ _ h => h) (Or.inl ⟨by rfl, ?_⟩) (by assumption) ?_
                  rotate_left
                  · (intro w hSw; (try dsimp only at hSw); go_simp)
                    first | done | with_reducible rfl
                  simp only [Act.put, List.getElem_toArray, List.getElem_cons_zero, List.getElem_cons_succ, List.setIfInBounds_toArray, List.set_cons_zero, List.set_cons_succ]
                  refine wpAnyH_take (i := 3) (v := ?_) rfl (by kernel_rfl) (by kernel_rfl) (by kernel_rfl) (fun _ _ _ h => h) (Or.inl ⟨by rfl, ?_⟩) (by assumption) ?_
                  rotate_left
                  · (intro w hSw; (try dsimp only at hSw); go_simp)
                    first | done | with_reducible rfl
                  simp only [Act.put, List.getElem_toArray, List.getElem_cons_zero, List.getElem_cons_succ, List.setIfInBounds_toArray, List.set_cons_zero, List.set_cons_succ]
                  refine wpAnyH_ready (rs := [4]) (by kernel_rfl) (by simp) ?_
                  refine AllReadyH.cons rfl (fun K hK => ?_) AllReadyH.nil
                  go_simp
                  refine (SL.out _).mono ?_
                  rintro e w4 ⟨rfl, hu1⟩
                  refine hK.out _ _ ?_ (fun hHeld => ?_)
                  · exact ⟨hu1.keep hHeld.1, hu1.keep hHeld.2⟩
                  clear hK K
                  try simp only [Act.put, List.getElem_toArray, List.getElem_cons_zero, List.getElem_cons_succ, List.setIfInBounds_toArray, List.set_cons_zero, List.set_cons_succ]
                  refine wpAnyH_take (i := 5) (v := ?_) rfl (by kernel_rfl) (by kernel_rfl) (by kernel_rfl) (fun _ _ _ h => h) (Or.inl ⟨by rfl, ?_⟩) (by assumption) ?_
                  rotate_left
                  · (intro w hSw; (try dsimp only at hSw); go_simp)
                    first | done | with_reducible rfl
                  simp only [Act.put, List.getElem_toArray, List.getElem_cons_zero, List.getElem_cons_succ, List.setIfInBounds_toArray, List.set_cons_zero, List.set_cons_succ]
                  refine wpAnyH_take (i := 6) (v := ?_) rfl (by kernel_rfl) (by kernel_rfl) (by kernel_rfl) (fun _ _ _ h => h) (Or.inl ⟨by rfl, ?_⟩) (by assumption) ?_
                  rotate_left
                  · (intro w hSw; (try dsimp only at hSw); go_simp)
                    first | done | with_reducible rfl
                  simp only [Act.put, List.getElem_toArray, List.getElem_cons_zero, List.getElem_cons_succ, List.setIfInBounds_toArray, List.set_cons_zero, List.set_cons_succ]
                  refine wpAnyH_take (i := 7) (v := ?_) rfl (by kernel_rfl) (by kernel_rfl) (by kernel_rfl) (fun _ _ _ h => h) (Or.inl ⟨by rfl, ?_⟩) (by assumption) ?_
                  rotate_left
                  · (intro w hSw; (try dsimp only at hSw); go_simp)
                    first | done | with_reducible rfl
                  simp only [Act.put, List.getElem_toArray, List.getElem_cons_zero, List.getElem_cons_succ, List.setIfInBounds_toArray, List.set_cons_zero, List.set_cons_succ]
                  refine wpAnyH_take (i := 8) (v := ?_) rfl (by kernel_rfl) (by kernel_rfl) (by kernel_rfl) (fun _ _ _ h => h) (Or.inl ⟨by rfl, ?_⟩) (by assumption) ?_
                  rotate_left
                  · (intro w hSw; (try dsimp only at hSw); go_simp)
                    first | done | with_reducible rfl
                  simp only [Act.put, List.getElem_toArray, List.getElem_cons_zero, List.getElem_cons_succ, List.setIfInBounds_toArray, List.set_cons_zero, List.set_cons_succ]
                  refine wpAnyH_take (i := 9) (v := ?_) rfl (by kernel_rfl) (by kernel_rfl) (by kernel_rfl) (fun _ _ _ h => h) (Or.inl ⟨by rfl, ?_⟩) (by assumption) ?_
                  rotate_left
                  · (intro w hSw; (try dsimp only at hSw); go_simp)
                    first | done | with_reducible rfl
                  simp only [Act.put, List.getElem_toArray, List.getElem_cons_zero, List.getElem_cons_succ, List.setIfInBounds_toArray, List.set_cons_zero, List.set_cons_succ]
                  refine wpAnyH_take (i := 10) (v := ?_) rfl (by kernel_rfl) (by kernel_rfl) (by kernel_rfl) (fun _ _ _ h => h) (Or.inl ⟨by rfl, ?_⟩) (by assumption) ?_
                  rotate_left
                  · (intro w hSw; (try dsimp only at hSw); go_simp)
                    first | done | with_reducible rfl
                  simp only [Act.put, List.getElem_toArray, List.getElem_cons_zero, List.getElem_cons_succ, List.setIfInBounds_toArray, List.set_cons_zero, List.set_cons_succ]
                  refine wpAnyH_take (i := 11) (v := ?_) rfl (by kernel_rfl) (by kernel_rfl) (by kernel_rfl) (fun _ _ _ h => h) (Or.inl ⟨by rfl, ?_⟩) (by assumption) ?_
                  rotate_left
                  · (intro w hSw; (try dsimp only at hSw); go_simp)
                    first | done | with_reducible rfl
                  simp only [Act.put, List.getElem_toArray, List.getElem_cons_zero, List.getElem_cons_succ, List.setIfInBounds_toArray, List.set_cons_zero, List.set_cons_succ]
                  refine wpAnyH_take (i := 12) (v := ?_) rfl (by kernel_rfl) (by kernel_rfl) (by kernel_rfl) (fun _ _ _ h => h) (Or.inl ⟨by rfl, ?_⟩) (by assumption) ?_
                  rotate_left
                  · (intro w hSw; (try dsimp only at hSw); go_simp)
                    first | done | with_reducible rfl
                  simp only [Act.put, List.getElem_toArray, List.getElem_cons_zero, List.getElem_cons_succ, List.setIfInBounds_toArray, List.set_cons_zero, List.set_cons_succ]
                  refine wpAnyH_take (i := 13) (v := ?_) rfl (by kernel_rfl) (by kernel_rfl) (by kernel_rfl) (fun _ _ _ h => h) (Or.inl ⟨by rfl, ?_⟩) (by assumption) ?_
                  rotate_left
                  · (intro w hSw; (try dsimp only at hSw); go_simp)
                    first | done | with_reducible rfl
                  simp only [Act.put, List.getElem_toArray, List.getElem_cons_zero, List.getElem_cons_succ, List.setIfInBounds_toArray, List.set_cons_zero, List.set_cons_succ]
                  refine wpAnyH_take (i := 14) (v := ?_) rfl (by kernel_rfl) (by kernel_rfl) (by kernel_rfl) (fun _ _ _ h => h) (Or.inl ⟨by rfl, ?_⟩) (by assumption) ?_
                  rotate_left
                  · (intro w hSw; (try dsimp only at hSw); go_simp)
                    first | done | with_reducible rfl
                  simp only [Act.put, List.getElem_toArray, List.getElem_cons_zero, List.getElem_cons_succ, List.setIfInBounds_toArray, List.set_cons_zero, List.set_cons_succ]
                  refine wpAnyH_take (i := 15) (v := ?_) rfl (by kernel_rfl) (by kernel_rfl) (by kernel_rfl) (fun _ _ _ h => h) (Or.inl ⟨by rfl, ?_⟩) (by assumption) ?_
                  rotate_left
                  · (intro w hSw; (try dsimp only at hSw); go_simp)
                    first | done | with_reducible rfl
                  simp only [Act.put, List.getElem_toArray, List.getElem_cons_zero, List.getElem_cons_succ, List.setIfInBounds_toArray, List.set_cons_zero, List.set_cons_succ]
                  try simp only [kN]
                  try simp only [kI]
                  refine wpAnyH_take (i := 16) (v := ?_) rfl (by kernel_rfl) (by kernel_rfl) (by kernel_rfl) (fun _ _ _ h => h) (Or.inl ⟨by rfl, ?_⟩) (by assumption) ?_
                  rotate_left
                  · (intro w hSw; (try dsimp only at hSw); go_simp)
                    first | done | with_reducible rfl
                  simp only [Act.put, List.getElem_toArray, List.getElem_cons_zero, List.getElem_cons_succ, List.setIfInBounds_toArray, List.set_cons_zero, List.set_cons_succ]
                  refine wpAnyH_take (i := 17) rfl (by kernel_rfl) (by kernel_rfl) (by kernel_rfl) (fun _ _ _ h => h) (Or.inr ⟨by rfl, rfl⟩) (by assumption) ?_
                  simp only [Act.put, List.getElem_toArray, List.getElem_cons_zero, List.getElem_cons_succ, List.setIfInBounds_toArray, List.set_cons_zero, List.set_cons_succ]
                  refine wpAnyH_take (i := 18) rfl (by kernel_rfl) (by kernel_rfl) (by kernel_rfl) (fun _ _ _ h => h) (Or.inr ⟨by rfl, rfl⟩) (by assumption) ?_
                  simp only [Act.put, List.getElem_toArray, List.getElem_cons_zero, List.getElem_cons_succ, List.setIfInBounds_toArray, List.set_cons_zero, List.set_cons_succ]
                  refine wpAnyH_take (i := 19) rfl (by kernel_rfl) (by kernel_rfl) (by kernel_rfl) (fun _ _ _ h => h) (Or.inr ⟨by rfl, rfl⟩) (by assumption) ?_
                  simp only [Act.put, List.getElem_toArray, List.getElem_cons_zero, List.getElem_cons_succ, List.setIfInBounds_toArray, List.set_cons_zero, List.set_cons_succ]
                  refine wpAnyH_take (i := 20) rfl (by kernel_rfl) (by kernel_rfl) (by kernel_rfl) (fun _ _ _ h => h) (Or.inr ⟨by rfl, rfl⟩) (by assumption) ?_
                  simp only [Act.put, List.getElem_toArray, List.getElem_cons_zero, List.getElem_cons_succ, List.setIfInBounds_toArray, List.set_cons_zero, List.set_cons_succ]
                  refine wpAnyH_take (i := 21) rfl (by kernel_rfl) (by kernel_rfl) (by kernel_rfl) (fun _ _ _ h => h) (Or.inr ⟨by rfl, rfl⟩) (by assumption) ?_
                  simp only [Act.put, List.getElem_toArray, List.getElem_cons_zero, List.getElem_cons_succ, List.setIfInBounds_toArray, List.set_cons_zero, List.set_cons_succ]
                  refine wpAnyH_take (i := 22) rfl (by kernel_rfl) (by kernel_rfl) (by kernel_rfl) (fun _ _ _ h => h) (Or.inr ⟨by rfl, rfl⟩) (by assumption) ?_
                  simp only [Act.put, List.getElem_toArray, List.getElem_cons_zero, List.getElem_cons_succ, List.setIfInBounds_toArray, List.set_cons_zero, List.set_cons_succ]
                  refine wpAnyH_take (i := 23) rfl (by kernel_rfl) (by kernel_rfl) (by kernel_rfl) (fun _ _ _ h => h) (Or.inr ⟨by rfl, rfl⟩) (by assumption) ?_
                  simp only [Act.put, List.getElem_toArray, List.getElem_cons_zero, List.getElem_cons_succ, List.setIfInBounds_toArray, List.set_cons_zero, List.set_cons_succ]
                  refine wpAnyH_take (i := 24) rfl (by kernel_rfl) (by kernel_rfl) (by kernel_rfl) (fun _ _ _ h => h) (Or.inr ⟨by rfl, rfl⟩) (by assumption) ?_
                  simp only [Act.put, List.getElem_toArray, List.getElem_cons_zero, List.getElem_cons_succ, List.setIfInBounds_toArray, List.set_cons_zero, List.set_cons_succ]
                  refine wpAnyH_take (i := 25) rfl (by kernel_rfl) (by kernel_rfl) (by kernel_rfl) (fun _ _ _ h => h) (Or.inr ⟨by rfl, rfl⟩) (by assumption) ?_
                  simp only [Act.put, List.getElem_toArray, List.getElem_cons_zero, List.getElem_cons_succ, List.setIfInBounds_toArray, List.set_cons_zero, List.set_cons_succ]
                  refine wpAnyH_take (i := 26) rfl (by kernel_rfl) (by kernel_rfl) (by kernel_rfl) (fun _ _ _ h => h) (Or.inr ⟨by rfl, rfl⟩) (by assumption) ?_
                  simp only [Act.put, List.getElem_toArray, List.getElem_cons_zero, List.getElem_cons_succ, List.setIfInBounds_toArray, List.set_cons_zero, List.set_cons_succ]
                  refine wpAnyH_take (i := 27) (v := ?_) rfl (by kernel_rfl) (by kernel_rfl) (by kernel_rfl) (fun _ _ _ h => h) (Or.inl ⟨by rfl, ?_⟩) (by assumption) ?_
                  rotate_left
                  · (intro w hSw; (try dsimp only at hSw); go_simp)
                    first | done | with_reducible rfl
                  simp only [Act.put, List.getElem_toArray, List.getElem_cons_zero, List.getElem_cons_succ, List.setIfInBounds_toArray, List.set_cons_zero, List.set_cons_succ]
                  refine wpAnyH_take (i := 28) (v := ?_) rfl (by kernel_rfl) (by kernel_rfl) (by kernel_rfl) (fun _ _ _ h => h) (Or.inl ⟨by rfl, ?_⟩) (by assumption) ?_
                  rotate_left
                  · (intro w hSw; (try dsimp only at hSw); go_simp)
                    first | done | with_reducible rfl
                  simp only [Act.put, List.getElem_toArray, List.getElem_cons_zero, List.getElem_cons_succ, List.setIfInBounds_toArray, List.set_cons_zero, List.set_cons_succ]
                  refine wpAnyH_done (by kernel_rfl) ?_ _
                  have HU9 := Lib.hid (HU.out.drew.trans hu1)
                  clear HU hHeld x0 q0
                  go_wp2_with fail
                  go_roundw
                  case rel => exact ⟨k + 1, by omega, by omega, by go_num, HA3, HU9.out⟩
                  case measure => simp [intOf]; omega
          · obtain rfl : k = labs.length := by omega
            have HRR := Lib.hid (show labsOk labs = true by rw [HLO2.out, ← HA.out]; exact allF_end _ _)
            have HU := Lib.hid hU
            clear hlt hk HA hU HLO2 p0 HR1
            go_wp2_with fail
            go_ret
            exact ⟨by rw [HRR.out]; rfl, HU.out⟩
      · have HRR := Lib.hid (show labsOk labs = false by
          have := HA0.out
          rw [HLP0.out, show (s0 == tauL) = false by simpa using ht0] at this
          rw [Nat.sub_zero] at this
          rw [HLO2.out, this]; simp)
        have g1 : (s0 == [116, 97, 117]) = false := by simpa [tauL] using ht0
        have g1n : (s0 != [116, 97, 117]) = true := by simp [bne, g1]
        clear HA0 HLP0 ht0 HLO2 HR1 HP
        go_enter Tryz.func69, Tryz.ntmps69
        go_wp2_with fail
        go_ret
        exact ⟨by rw [HRR.out]; rfl, Upd.refl _ _⟩

end Go.Proofs.YtlondofadjcooaaGreatDoor
