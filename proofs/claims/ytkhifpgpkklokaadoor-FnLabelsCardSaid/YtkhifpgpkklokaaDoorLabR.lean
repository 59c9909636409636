/-
  What the law FnLabels draws.
-/
import Derived.Test.YtkhifpgpkklokaaDoorLabC
namespace Go.Proofs.YtkhifpgpkklokaaDoor
open Go.RowKit

def SrcText (N p : Nat) (w : World) (ps : List (List UInt8)) (e : Ending) (w' : World) : Prop := (∃ s, e = .returned (es s) ∧ s ∈ ps) ∧ IsSrc N p w' ∧ Upd [p] w w'

set_option maxRecDepth 20000 in
set_option maxHeartbeats 2000000 in
theorem srcText (N p : Nat) (v : Value) (ps : List (List UInt8)) (w : World) (fp : List Nat) (hN : N ≤ 900000000) (h : IsSrc N p w) (hR : RS fp w [v] ps) (h0 : 0 < ps.length) (h1 : ps.length ≤ 1000) (hp : p ∉ fp) :
    Calls Tryd.prog 14 #[.pointer (some ⟨p, 0, none⟩), v] w (SrcText (N + 2) p w ps) := by
  obtain ⟨a, cap, rfl, h2, h3, -⟩ := slF1_open hR
  unfold maxLen at h3
  have S1 := Lib.hid (srcPick N p ps.length w hN h (by omega) (by omega))
  have HR := Lib.hid hR
  have HP := Lib.hid hp
  clear h hR hp
  go_enter Tryd.func14, Tryd.ntmps14
  go_wp2_with fail
  refine S1.out.mono ?_
  rintro e w1 ⟨⟨x, rfl, hx0, hx1⟩, hs1, hu1⟩
  obtain ⟨q, rfl⟩ : ∃ q : Nat, x = q := ⟨x.toNat, by omega⟩
  have hq : q < ps.length := by omega
  obtain ⟨a', cap', hv, -, -, hc⟩ := slF1_open (RSk.upd HR.out hu1 (fun b hb hm => by simp at hm; subst hm; exact HP.out hb))
  cases hv
  obtain ⟨b, o, rfl, -, -, c1⟩ := hc q hq
  have HS := Lib.hid (And.intro hs1 hu1)
  have HM := Lib.hid (show ps[q] ∈ ps from List.getElem_mem hq)
  generalize ps[q] = y at *
  clear hc hs1 hu1 S1
  go_wp2_with fail
  go_ret
  exact ⟨⟨_, rfl, HM.out⟩, HS.out.1, HS.out.2⟩

def acts : List (List UInt8) := [[97], [98], [115, 101, 110, 100], [103, 101, 116], [120, 55]]
theorem acts_ok : ∀ s ∈ acts, actF s = true ∧ s ≠ tauL ∧ s.length ≤ 10 := by decide
def LabOut (w : World) (e : Ending) (w' : World) : Prop := (∃ (s : List UInt8) (v' : Value) (xs : List Int), e = .returned (.tuple #[es s, v']) ∧ s ∈ acts ∧ xs.length ≤ 2 ∧ xs.all isV = true ∧ New R1 w w' v' xs) ∧ Upd [] w w'

set_option maxRecDepth 20000 in
set_option maxHeartbeats 2000000 in
theorem r8Label (v : Value) (code : List Int) (w : World) (fc : List Nat) (hR : R_B fc w [v] code) (hb : bytesOk code) (hl : code.length ≤ 1048576) :
    Calls Tryd.prog 5 #[v] w (LabOut w) := by
  obtain ⟨i1, ki, kz0, kz1, kz2⟩ := info_parts Tryd.info2
  have S1 := Lib.hid (srcFrom v code w fc hR hb hl)
  clear hR hb
  go_enter Tryd.func5, Tryd.ntmps5
  go_wp2_with fail
  refine S1.out.mono ?_
  rintro e w1 ⟨⟨p, rfl, hs1, hp⟩, hu1⟩
  have hpl := hs1.lt
  obtain ⟨fp, hR5, -, hge⟩ := new_lit (enc := es) w1 9 acts (by simp [maxLen, acts])
  have S2 := Lib.hid (srcText 0 p _ acts _ fp (by omega) (hs1.upd ((Upd.refl [] w1).alloc _)) hR5 (by simp [acts]) (by simp [acts]) (fun hm => by have := hge p hm; omega))
  have HU1 := Lib.hid (hu1.alloc (.cells (acts.map es).toArray 9))
  clear S1 hs1 hu1 hR5 hge
  go_wp2_with fail
  refine S2.out.mono ?_
  rintro e w2 ⟨⟨s, rfl, hsm⟩, hs2, hu2⟩
  have hsz2 := hu2.size
  simp at hsz2
  have HU2 := Lib.hid (show Upd [] w w2 from HU1.out.fresh hu2 (fun b hb => Or.inl (by simp at hb; omega)))
  have HM := Lib.hid hsm
  have hlit := World.ownsRow_lit (base := w2.heap.size) (e := 2) (size := 1) w2 #[] 0 (Nat.le_refl _) (by simp [maxLen]) (by simp)
  have HLIT := Lib.hid hlit
  have S3 := Lib.hid (srcPick 2 p 3 _ (by omega) (hs2.upd ((Upd.refl [] w2).alloc (.cells #[] 2))) (by omega) (by omega))
  have hpl2 := hs2.lt
  have HW2 := Lib.hid (HU2.out.alloc (.cells #[] 2))
  have hszw := HU2.out.size
  clear S2 hs2 hu2 hsm hlit HU1 HU2
  go_wp2_with fail
  refine S3.out.mono ?_
  rintro e w3 ⟨⟨x, rfl, hx0, hx1⟩, hs3, hu3⟩
  obtain ⟨n0, rfl⟩ : ∃ n0 : Nat, x = n0 := ⟨x.toNat, by omega⟩
  have hn0 : n0 ≤ 2 := by omega
  have hsz3 := hu3.size
  simp at hsz3
  have HU3 := Lib.hid (show Upd [] w w3 from HW2.out.fresh hu3 (fun b hb => Or.inl (by simp at hb; omega)))
  have HO3 := Lib.hid (ownsRow_other HLIT.out hu3 (by simpa using hpl2))
  have HS3 := Lib.hid hs3
  clear S3 hs3 hu3 HLIT HW2
  go_wp2_with fail
  go_loopw [6, 7] (fun ov nv wr => ∃ (k : Nat) (xs : List Int), nv = .int .i64 k ∧ xs.length + k = n0 ∧ xs.all isV = true ∧ Hid (wr.ownsRow w2.heap.size 2 1 ov xs.length (xs.map ei)) ∧ IsSrc (4 + 2 * xs.length) p wr ∧ Upd [] w wr ∧ w2.heap.size ≤ wr.heap.size) (fun _ nv _ => (intOf nv).toNat)
  case atStart => exact ⟨n0, [], rfl, by simp, rfl, HO3, HS3.out, HU3.out, by omega⟩
  case round =>
    clear HO3 HS3 HU3
    obtain ⟨k, xs, rfl, hxl, hxs, hown, hs, hU, hsz⟩ := hrel
    have HXS := Lib.hid hxs
    clear hxs
    by_cases hlt : 0 < k
    · have S4 := Lib.hid (srcPick _ p 64 wr (by omega) hs (by omega) (by omega))
      have HU := Lib.hid hU
      clear hs hU
      go_wp2_with fail
      refine S4.out.mono ?_
      rintro e w4 ⟨⟨y, rfl, hy0, hy1⟩, hs4, hu4⟩
      have hyv : isV y = true := inB_mk ⟨by omega, by omega⟩
      have hown4 := ownsRow_other hown.out hu4 (by simpa using hpl2)
      have hsz4 := hu4.size
      have HU4 := Lib.hid (HU.out.fresh hu4 (fun b hb => Or.inl (by simp at hb; omega)))
      have HS4 := Lib.hid (And.intro hs4 hyv)
      clear S4 hs4 hu4 hown hyv HU
      go_wp2_with (first
        | (at_builtin; refine wpList_append_tight _ rfl _ _ 24 rfl w2.heap.size 2 i1 (.int .i64 0) 1 8 Tryd.underlying24 ki kz0 kz1 kz2 rfl (by decide) _ _ _ rfl (hown4.alloc _) ⟨w4.heap.size, 0, none⟩ 1 1 [ei y] rfl rfl (fun j u hj => by rw [addr_add]; exact cell_new w4 #[ei y] _ _ rfl _ _ (by simpa using hj)) (by simp [Value.oneCell']) (by unfold maxLen; omega) (by omega) (by simp; omega) ?_)
        | fail)
      intro v5 w5 hown5 hg5 ht5
      have hu5 : Upd [] w w5 := (HU4.out.alloc _).grown hg5 (fun b hb => Or.inl (by have := (hown4.lt b hb).1; omega))
      have hs5 : IsSrc (4 + 2 * (xs.length + 1)) p w5 := by
        refine IsSrc.other (f := (Value.ownBlock u6).toList) (HS4.out.1.mono (by omega)) (((Upd.refl _ _).alloc _).grown hg5 (fun b hb => Or.inr (by simp [hb]))) (fun b hb => by have := (hown4.lt b (by simpa using hb)).1; omega)
      have hsz5 := hg5.size
      simp at hsz5
      have HP := Lib.hid (And.intro hown5 (And.intro hs5 hu5))
      clear hown5 hg5 ht5 hu5 hs5 hown4
      go_wp2_with fail
      go_roundw
      case rel => exact ⟨k - 1, xs ++ [y], by go_num; try (congr 1; omega), by simp; omega, by rw [List.all_append, HXS.out]; simp [HS4.out.2], Lib.hid (by simpa using HP.out.1), by simpa using HP.out.2.1, HP.out.2.2, by omega⟩
      case measure => simp [intOf]; omega
    · obtain rfl : k = 0 := by omega
      have HP := Lib.hid (And.intro HXS.out hU)
      have hn : New R1 w wr u6 xs := (New.ofOwns (w := w2) (e := 2) (enc := ei) hown.out).mono hszw
      have HN := Lib.hid hn
      clear hown hU hs hn
      go_wp2_with fail
      go_ret2
      exact ⟨⟨s, _, xs, rfl, HM.out, by omega, HP.out.1, HN.out⟩, HP.out.2⟩

end Go.Proofs.YtkhifpgpkklokaaDoor
