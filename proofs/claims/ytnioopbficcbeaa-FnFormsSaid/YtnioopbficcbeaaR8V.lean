/-
  The values that the reference draws.
-/
import Derived.Test.YtnioopbficcbeaaR8
namespace Go.Proofs.Ytnioopbficcbeaa
open Go.RowKit

theorem ownsRow_other {w w1 : World} {base : Nat} {e : TypeId} {size : Nat} {v : Value} {n : Nat} {xs : List Value} (h : w.ownsRow base e size v n xs) {f : List Nat} (hu : Upd f w w1) (hf : ∀ b ∈ f, b < base) : w1.ownsRow base e size v n xs := by
  obtain ⟨g1, g2⟩ := h
  refine ⟨g1, ?_⟩
  rcases g2 with g2 | ⟨g, cap, cur, hv, hb, hh, q1, q2, q3, q4⟩
  · exact Or.inl g2
  · refine Or.inr ⟨g, cap, cur, hv, hb, ?_, q1, q2, q3, q4⟩
    rw [hu.block g (Array.getElem?_eq_some_iff.1 hh).1 (fun hm => by have := hf g hm; omega)]; exact hh

set_option maxRecDepth 20000 in
set_option maxHeartbeats 2000000 in
theorem among (N p : Nat) (v : Value) (xs : List Int) (w : World) (fp : List Nat) (hN : N ≤ 900000000) (h : IsSrc N p w) (hR : R1 fp w [v] xs) (h0 : 0 < xs.length) (h1 : xs.length ≤ 1000) (hp : p ∉ fp) :
    Calls Try.prog 50 #[.pointer (some ⟨p, 0, none⟩), v] w (SrcAt (N + 2) p w (fun x => x ∈ xs)) := by
  obtain ⟨a, cap, rfl, h2, h3, -⟩ := slF1_open hR
  unfold maxLen at h3
  have S1 := Lib.hid (srcPick N p xs.length w hN h (by omega) (by omega))
  have HR := Lib.hid hR
  have HP := Lib.hid hp
  clear h hR hp
  go_enter Try.func50, Try.ntmps50
  go_wp2_with fail
  refine S1.out.mono ?_
  rintro e w1 ⟨⟨x, rfl, hx0, hx1⟩, hs1, hu1⟩
  obtain ⟨q, rfl⟩ : ∃ q : Nat, x = q := ⟨x.toNat, by omega⟩
  have hq : q < xs.length := by omega
  obtain ⟨a', cap', hv, -, -, hc⟩ := slF1_open (R1k.upd HR.out hu1 (fun b hb hm => by simp at hm; subst hm; exact HP.out hb))
  cases hv
  obtain ⟨b, o, rfl, -, -, c1⟩ := hc q hq
  have HS := Lib.hid (And.intro hs1 hu1)
  have HM := Lib.hid (show xs[q] ∈ xs from List.getElem_mem hq)
  generalize xs[q] = y at *
  clear hc hs1 hu1 S1
  go_wp2_with fail
  go_ret
  exact ⟨⟨_, rfl, HM.out⟩, HS.out.1, HS.out.2⟩

def ValsOut (w : World) (e : Ending) (w' : World) : Prop := (∃ (v' : Value) (xs : List Int), e = .returned v' ∧ xs.length = 3 ∧ xs.all isV = true ∧ New R1 w w' v' xs) ∧ Upd [] w w'

set_option maxRecDepth 20000 in
set_option maxHeartbeats 2000000 in
theorem r8Values (v : Value) (code : List Int) (w : World) (fc : List Nat) (hR : R_B fc w [v] code) (hb : bytesOk code) (hl : code.length ≤ 1048576) :
    Calls Try.prog 24 #[v] w (ValsOut w) := by
  obtain ⟨i1, ki, kz0, kz1, kz2⟩ := info_parts Try.info2
  have S1 := Lib.hid (srcFrom v code w fc hR hb hl)
  clear hR hb
  go_enter Try.func24, Try.ntmps24
  go_wp2_with fail
  refine S1.out.mono ?_
  rintro e w1 ⟨⟨p, rfl, hs1, hp⟩, hu1⟩
  have hpl := hs1.lt
  have hlit := World.ownsRow_lit (base := w1.heap.size) (e := 2) (size := 1) w1 #[] 0 (Nat.le_refl _) (by simp [maxLen]) (by simp)
  have HLIT := Lib.hid hlit
  have HS1 := Lib.hid hs1
  have hsz1 := hu1.size
  have HU1 := Lib.hid hu1
  clear hlit hs1 hu1 S1
  go_wp2_with fail
  go_loopw [4, 5] (fun ov nv wr => ∃ (k : Nat) (xs : List Int), k ≤ 3 ∧ nv = .int .i64 k ∧ xs.length = k ∧ xs.all isV = true ∧ Hid (wr.ownsRow w1.heap.size 2 1 ov k (xs.map ei)) ∧ IsSrc (4 * k) p wr ∧ Upd [] w wr ∧ w1.heap.size ≤ wr.heap.size) (fun _ nv _ => 3 - (intOf nv).toNat)
  case atStart => exact ⟨0, [], by omega, rfl, rfl, rfl, HLIT, HS1.out.upd ((Upd.refl [] w1).alloc _), HU1.out.alloc _, by simp⟩
  case round =>
    clear HLIT HS1 HU1
    obtain ⟨k, xs, hk, rfl, hxl, hxs, hown, hs, hU, hsz⟩ := hrel
    have HXS := Lib.hid (And.intro hxl hxs)
    clear hxl hxs
    by_cases hlt : k < 3
    · have S2 := Lib.hid (srcPick (4 * k) p 64 wr (by omega) hs (by omega) (by omega))
      have HU := Lib.hid hU
      clear hs hU
      go_wp2_with fail
      refine S2.out.mono ?_
      rintro e w2 ⟨⟨x, rfl, hx0, hx1⟩, hs2, hu2⟩
      have hp2 := hs2.lt
      obtain ⟨fp, hR5, -, hge⟩ := new_lit (enc := ei) w2 2 [0, 1, 2, x, 63] (by simp [maxLen])
      have S3 := Lib.hid (among (4 * k + 2) p _ [0, 1, 2, x, 63] _ fp (by omega) (hs2.upd ((Upd.refl [] w2).alloc _)) hR5 (by simp) (by simp) (fun hm => by have := hge p hm; omega))
      have hu2' := HU.out.fresh hu2 (fun b hb => Or.inl (by simp at hb; omega))
      have HU2 := Lib.hid (hu2'.alloc (.cells #[ei 0, ei 1, ei 2, ei x, ei 63] 2))
      have HO2 := Lib.hid (ownsRow_upd (ownsRow_other hown.out hu2 (by simpa using hpl)) ((Upd.refl [] w2).alloc (.cells #[ei 0, ei 1, ei 2, ei x, ei 63] 2)))
      have hsz2 := hu2.size
      clear S2 hu2 hu2' hs2 hR5 hge hown
      go_wp2_with fail
      refine S3.out.mono ?_
      rintro e w3 ⟨⟨y, rfl, hy⟩, hs3, hu3⟩
      have hyv : isV y = true := by
        simp at hy
        exact inB_mk ⟨by omega, by omega⟩
      have hown3 := ownsRow_other HO2.out hu3 (by simpa using hpl)
      have hsz3 := hu3.size
      simp at hsz3
      have HU3 := Lib.hid (HU2.out.fresh hu3 (fun b hb => Or.inl (by simp at hb; omega)))
      have HS3 := Lib.hid (And.intro hs3 hyv)
      clear S3 hs3 hu3 HO2 hy hyv
      go_wp2_with (first
        | (at_builtin; refine wpList_append_tight _ rfl _ _ 34 rfl w1.heap.size 2 i1 (.int .i64 0) 1 8 Try.underlying34 ki kz0 kz1 kz2 rfl (by decide) _ _ _ rfl (hown3.alloc _) ⟨w3.heap.size, 0, none⟩ 1 1 [ei y] rfl rfl (fun j u hj => by rw [addr_add]; exact cell_new w3 #[ei y] _ _ rfl _ _ (by simpa using hj)) (by simp [Value.oneCell']) (by unfold maxLen; omega) (by omega) (by simp; omega) ?_)
        | fail)
      intro v4 w4 hown4 hg4 ht4
      have hu4 : Upd [] w w4 := (HU3.out.alloc _).grown hg4 (fun b hb => Or.inl (by have := (hown3.lt b hb).1; omega))
      have hs4 : IsSrc (4 * (k + 1)) p w4 := by
        refine IsSrc.other (f := (Value.ownBlock u4).toList) (HS3.out.1.mono (by omega)) (((Upd.refl _ _).alloc _).grown hg4 (fun b hb => Or.inr (by simp [hb]))) (fun b hb => by have := (hown3.lt b (by simpa using hb)).1; omega)
      have hsz4 := hg4.size
      simp at hsz4
      have HP := Lib.hid (And.intro hown4 (And.intro hs4 hu4))
      clear hown4 hg4 ht4 hu4 hs4 hown3
      go_wp2_with fail
      go_roundw
      case rel => exact ⟨k + 1, xs ++ [y], by omega, by go_num, by simp [HXS.out.1], by rw [List.all_append, HXS.out.2]; simp [HS3.out.2], Lib.hid (by simpa using HP.out.1), HP.out.2.1, HP.out.2.2, by omega⟩
      case measure => simp [intOf]; omega
    · obtain rfl : k = 3 := by omega
      have HP := Lib.hid (And.intro hown hU)
      have hn : New R1 w wr u4 xs := (New.ofOwns (w := w1) (e := 2) (enc := ei) (by rw [HXS.out.1]; exact hown.out)).mono hsz1
      have HN := Lib.hid hn
      clear hown hU hs hn
      go_wp2_with fail
      go_ret
      exact ⟨⟨_, xs, rfl, HXS.out.1, HXS.out.2, HN.out⟩, HP.out.2⟩

end Go.Proofs.Ytnioopbficcbeaa
