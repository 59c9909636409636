/-
  The two lists that the law FnLabels draws.
-/
import Derived.Test.YtkhifpgpkklokaaDoorLabR
import Derived.Laws.AppendOwnNone
namespace Go.Proofs.YtkhifpgpkklokaaDoor
open Go.RowKit

/-- a list that lies in blocks of one stretch alone. -/
def InS (lo hi : Nat) (w : World) (v : Value) (xs : List Int) : Prop := ∃ fp, R1 fp w [v] xs ∧ ∀ b ∈ fp, lo < b ∧ b < hi

theorem InS.upd {lo hi : Nat} {w w1 : World} {v : Value} {xs : List Int} {f : List Nat} (h : InS lo hi w v xs) (hu : Upd f w w1) (hf : ∀ b ∈ f, b ≤ lo ∨ hi ≤ b) : InS lo hi w1 v xs := by
  obtain ⟨fp, h1, h2⟩ := h
  exact ⟨fp, R1k.upd h1 hu (fun b hb hm => by have := h2 b hb; have := hf b hm; omega), h2⟩

def OwnV (w : World) (xs : List Int) (e : Ending) (w' : World) : Prop := (∃ v', e = .returned v' ∧ w'.ownsRow w.heap.size 2 1 v' xs.length (xs.map ei)) ∧ Upd [] w w'

set_option maxRecDepth 20000 in
set_option maxHeartbeats 2000000 in
theorem l00Own (v : Value) (xs : List Int) (w : World) (base : Nat) (h : w.ownsRow base 2 1 v xs.length (xs.map ei)) (hl : xs.length ≤ 1000000) :
    Calls Tryd.prog 18 #[v] w (OwnV w xs) := by
  obtain ⟨i1, ki, kz0, kz1, kz2⟩ := info_parts Tryd.info2
  have hlit := World.ownsRow_lit (base := w.heap.size) (e := 2) (size := 1) w #[] 0 (Nat.le_refl _) (by simp [maxLen]) (by simp)
  have HH := Lib.hid h
  rcases h.2 with ⟨rfl, hn⟩ | ⟨g, cap, cur, rfl, hg, hh, hn, hm, hc, ht⟩
  · have hx : xs = [] := List.eq_nil_of_length_eq_zero hn
    clear h HH
    subst hx
    have HL := Lib.hid hlit
    go_enter Tryd.func18, Tryd.ntmps18
    go_wp2_with (first
      | (at_builtin; refine wpList_append_own_none rfl _ _ 24 rfl w.heap.size 2 i1 1 Tryd.underlying24 ki _ _ _ rfl hlit rfl ?_)
      | fail)
    clear hlit
    go_wp2_with fail
    go_ret
    exact ⟨⟨_, rfl, HL.out⟩, (Upd.refl _ _).alloc _⟩
  · have hg0 : g < w.heap.size := (Array.getElem?_eq_some_iff.1 hh).1
    have HSRC := Lib.hid (show ∀ j u, (xs.map ei)[j]? = some u → (w.alloc (.cells #[] 2)).cell? ((⟨g, 0, none⟩ : Addr).add j) = some u from fun j u hj => by
      rw [addr_add, Nat.zero_add]
      have hj2 : j < xs.length := by have := (List.getElem?_eq_some_iff.1 hj).1; simpa using this
      exact ((Upd.refl [] w).alloc _).keep ((World.ownsRow.cellAt HH.out j (by omega)).trans hj))
    clear h hh hc ht HH
    go_enter Tryd.func18, Tryd.ntmps18
    go_wp2_with (first
      | (at_builtin; refine wpList_append_tight _ rfl _ _ 24 rfl w.heap.size 2 i1 (.int .i64 0) 1 8 Tryd.underlying24 ki kz0 kz1 kz2 rfl (by decide) _ _ _ rfl hlit ⟨g, 0, none⟩ xs.length cap (xs.map ei) rfl (by simp) HSRC.out (fun u hu => by rw [List.mem_map] at hu; obtain ⟨_, _, rfl⟩ := hu; rfl) (by unfold maxLen; omega) (by omega) (by simp) ?_)
      | fail)
    intro v4 w4 hown4 hg4 ht4
    have hu4 : Upd [] w w4 := ((Upd.refl [] _).alloc _).grown hg4 (fun b hb => Or.inl ((hlit.lt b hb).1))
    have HP := Lib.hid (And.intro (show w4.ownsRow w.heap.size 2 1 v4 xs.length (xs.map ei) by simpa using hown4) hu4)
    clear hown4 hg4 ht4 hu4 hlit HSRC
    go_wp2_with fail
    go_ret
    exact ⟨⟨_, rfl, HP.out.1⟩, HP.out.2⟩

def ListsOut (w : World) (e : Ending) (w' : World) : Prop := (∃ (va vb : Value) (a b : List Int) (fa fb : List Nat), e = .returned (.tuple #[va, vb]) ∧ R1 fa w' [va] a ∧ R1 fb w' [vb] b) ∧ Upd [] w w'

/-- what holds of the source and of the two lists. -/
structure StL (N p bb : Nat) (w0 w : World) (va vb : Value) (a b : List Int) : Prop where
  s : IsSrc N p w
  u : Upd [] w0 w
  a : InS p bb w va a
  b : w.ownsRow bb 2 1 vb b.length (b.map ei)
  p0 : w0.heap.size ≤ p
  pb : p < bb
  sz : bb ≤ w.heap.size

theorem StL.src {N M p bb : Nat} {w0 w w1 : World} {va vb : Value} {a b : List Int} (h : StL N p bb w0 w va vb a b) (hs : IsSrc M p w1) (hu : Upd [p] w w1) : StL M p bb w0 w1 va vb a b :=
  ⟨hs, h.u.fresh hu (fun x hx => Or.inl (by simp at hx; subst hx; exact h.p0)), h.a.upd hu (fun x hx => by simp at hx; omega), ownsRow_other h.b hu (fun x hx => by simp at hx; subst hx; exact h.pb), h.p0, h.pb, Nat.le_trans h.sz hu.size⟩

theorem StL.fin {N p bb : Nat} {w0 w : World} {va vb : Value} {a b : List Int} (h : StL N p bb w0 w va vb a b) : ListsOut w0 (.returned (.tuple #[va, vb])) w := by
  obtain ⟨fa, ha, -⟩ := h.a
  obtain ⟨fb, hb, -, -, -⟩ := Flat.ofOwns h.b
  exact ⟨⟨va, vb, a, b, fa, fb, rfl, ha, ⟨vb, rfl, by rw [flatMap_single]; exact hb⟩⟩, h.u⟩

theorem StL.stored {N p bb g cap : Nat} {w0 w : World} {va : Value} {a b : List Int} {n : Nat} (h : StL N p bb w0 w va (.slice (some ⟨g, 0, none⟩) n cap) a b) (hn : n = b.length) (j : Nat) (x : Int) :
    StL N p bb w0 (w.setCell ⟨g, j, none⟩ (ei x)) va (.slice (some ⟨g, 0, none⟩) n cap) a (b.set j x) := by
  subst hn
  have hgb : bb ≤ g := (h.b.lt g rfl).1
  have hst := (World.ownsRow.stored h.b j (ei x)).1
  have hu : Upd [g] w (w.setCell ⟨g, j, none⟩ (ei x)) := (Upd.refl _ _).setCell (by simp) _
  have hpb := h.pb
  have hp0 := h.p0
  refine ⟨h.s.other hu (fun x hx => by simp at hx; omega), h.u.fresh hu (fun x hx => Or.inl (by simp at hx; omega)), h.a.upd hu (fun x hx => by simp at hx; omega), ?_, h.p0, h.pb, Nat.le_trans h.sz hu.size⟩
  rw [List.length_set, List.map_set]
  exact hst

theorem StL.grew {N p bb : Nat} {w0 w w1 w2 : World} {va vb vb2 : Value} {a b : List Int} {x : Int} {o : Obj} (h : StL N p bb w0 w va vb a b) (hw1 : w1 = w.alloc o) (hg : w1.grownBy w2 vb.ownBlock)
    (hown : w2.ownsRow bb 2 1 vb2 (b.length + 1) (b.map ei ++ [ei x])) : StL N p bb w0 w2 va vb2 a (b ++ [x]) := by
  subst hw1
  have hp0 := h.p0
  have hpb := h.pb
  have hu : Upd vb.ownBlock.toList w w2 := ((Upd.refl _ _).alloc o).grown hg (fun b hb => Or.inr (by simp [hb]))
  have hge : ∀ x ∈ vb.ownBlock.toList, bb ≤ x := fun x hx => (h.b.lt x (by simpa using hx)).1
  exact ⟨h.s.other hu (fun x hx => by have := hge x hx; omega), h.u.fresh hu (fun x hx => Or.inl (by have := hge x hx; omega)), h.a.upd hu (fun x hx => Or.inr (hge x hx)), by simpa using hown, h.p0, h.pb, Nat.le_trans h.sz hu.size⟩

set_option maxRecDepth 20000 in
set_option maxHeartbeats 4000000 in
theorem r8Lists (v : Value) (code : List Int) (w : World) (fc : List Nat) (hR : R_B fc w [v] code) (hb : bytesOk code) (hl : code.length ≤ 1048576) :
    Calls Tryd.prog 11 #[v] w (ListsOut w) := by
  obtain ⟨i1, ki, kz0, kz1, kz2⟩ := info_parts Tryd.info2
  have S1 := Lib.hid (srcFrom v code w fc hR hb hl)
  clear hR hb
  go_enter Tryd.func11, Tryd.ntmps11
  go_wp2_with fail
  refine S1.out.mono ?_
  rintro e w2 ⟨⟨p, rfl, hs2, hp⟩, hu2⟩
  have hlit := World.ownsRow_lit (base := w2.heap.size) (e := 2) (size := 1) w2 #[] 0 (Nat.le_refl _) (by simp [maxLen]) (by simp)
  have HLIT := Lib.hid hlit
  have S3 := Lib.hid (srcPick 0 p 5 _ (by omega) (hs2.upd ((Upd.refl [] w2).alloc (.cells #[] 2))) (by omega) (by omega))
  have hpl2 := hs2.lt
  have HW2 := Lib.hid (hu2.alloc (.cells #[] 2))
  have hszw := hu2.size
  clear S1 hs2 hu2 hlit
  go_wp2_with fail
  refine S3.out.mono ?_
  rintro e w3 ⟨⟨x, rfl, hx0, hx1⟩, hs3, hu3⟩
  obtain ⟨n0, rfl⟩ : ∃ n0 : Nat, x = n0 := ⟨x.toNat, by omega⟩
  have hn0 : n0 ≤ 4 := by omega
  have hsz3 := hu3.size
  simp at hsz3
  have HU3 := Lib.hid (show Upd [] w w3 from HW2.out.fresh hu3 (fun b hb => Or.inl (by simp at hb; omega)))
  have HO3 := Lib.hid (ownsRow_other HLIT.out hu3 (by simpa using hpl2))
  have HS3 := Lib.hid hs3
  clear S3 hs3 hu3 HLIT HW2
  go_wp2_with fail
  go_loopw [5, 6] (fun ov nv wr => ∃ (k : Nat) (xs : List Int), nv = .int .i64 k ∧ xs.length + k = n0 ∧ Hid (wr.ownsRow w2.heap.size 2 1 ov xs.length (xs.map ei)) ∧ IsSrc (4 + 2 * xs.length) p wr ∧ Upd [] w wr ∧ w2.heap.size ≤ wr.heap.size) (fun _ nv _ => (intOf nv).toNat)
  case atStart => exact ⟨n0, [], rfl, by simp, HO3, HS3.out.mono (by omega), HU3.out, by omega⟩
  case round =>
    clear HO3 HS3 HU3
    obtain ⟨k, xs, rfl, hxl, hown, hs, hU, hsz⟩ := hrel
    by_cases hlt : 0 < k
    · have S4 := Lib.hid (srcPick _ p 3 wr (by omega) hs (by omega) (by omega))
      have HU := Lib.hid hU
      clear hs hU
      go_wp2_with fail
      refine S4.out.mono ?_
      rintro e w4 ⟨⟨y, rfl, hy0, hy1⟩, hs4, hu4⟩
      have hown4 := ownsRow_other hown.out hu4 (by simpa using hpl2)
      have hsz4 := hu4.size
      have HU4 := Lib.hid (HU.out.fresh hu4 (fun b hb => Or.inl (by simp at hb; omega)))
      have HS4 := Lib.hid hs4
      clear S4 hs4 hu4 hown HU
      go_wp2_with (first
        | (at_builtin; refine wpList_append_tight _ rfl _ _ 24 rfl w2.heap.size 2 i1 (.int .i64 0) 1 8 Tryd.underlying24 ki kz0 kz1 kz2 rfl (by decide) _ _ _ rfl (hown4.alloc _) ⟨w4.heap.size, 0, none⟩ 1 1 [ei y] rfl rfl (fun j u hj => by rw [addr_add]; exact cell_new w4 #[ei y] _ _ rfl _ _ (by simpa using hj)) (by simp [Value.oneCell']) (by unfold maxLen; omega) (by omega) (by simp; omega) ?_)
        | fail)
      intro v5 w5 hown5 hg5 ht5
      have hu5 : Upd [] w w5 := (HU4.out.alloc _).grown hg5 (fun b hb => Or.inl (by have := (hown4.lt b hb).1; omega))
      have hs5 : IsSrc (4 + 2 * (xs.length + 1)) p w5 := by
        refine IsSrc.other (f := (Value.ownBlock u5).toList) (HS4.out.mono (by omega)) (((Upd.refl _ _).alloc _).grown hg5 (fun b hb => Or.inr (by simp [hb]))) (fun b hb => by have := (hown4.lt b (by simpa using hb)).1; omega)
      have hsz5 := hg5.size
      simp at hsz5
      have HP := Lib.hid (And.intro hown5 (And.intro hs5 hu5))
      clear hown5 hg5 ht5 hu5 hs5 hown4
      go_wp2_with fail
      go_roundw
      case rel => exact ⟨k - 1, xs ++ [y], by go_num; try (congr 1; omega), by simp; omega, Lib.hid (by simpa using HP.out.1), by simpa using HP.out.2.1, HP.out.2.2, by omega⟩
      case measure => simp [intOf]; omega
    · obtain rfl : k = 0 := by omega
      have S4 := Lib.hid (l00Own _ xs wr _ hown.out (by omega))
      obtain ⟨fa, ha, -, hge, -⟩ := Flat.ofOwns hown.out
      have HA := Lib.hid (show InS p wr.heap.size wr u5 xs from ⟨fa, ⟨u5, rfl, by rw [flatMap_single]; exact ha⟩, fun b hb => ⟨by have := hge b hb; omega, ha.lt b hb⟩⟩)
      have HS := Lib.hid (And.intro hs hU)
      clear ha hge hown hs hU
      go_wp2_with fail
      refine S4.out.mono ?_
      rintro e w4 ⟨⟨vb, rfl, hvb⟩, hu4⟩
      have hst : StL (4 + 2 * xs.length) p wr.heap.size w w4 u5 vb xs xs := ⟨HS.out.1.upd hu4, HS.out.2.trans hu4, HA.out.upd hu4 (by simp), hvb, by omega, by omega, hu4.size⟩
      have S5 := Lib.hid (srcPick _ p 3 w4 (by omega) hst.s (by omega) (by omega))
      have HST := Lib.hid hst
      clear S4 hvb hu4 hst HA HS
      go_wp2_with fail
      refine S5.out.mono ?_
      rintro e w5 ⟨⟨y, rfl, hy0, hy1⟩, hs5, hu5⟩
      have HST5 := Lib.hid (HST.out.src hs5 hu5)
      clear S5 HST hs5 hu5
      obtain ⟨av, cv, hform⟩ := ownsRow_form HST5.out.b
      subst hform
      by_cases hc : 0 < y ∧ 0 < xs.length
      · obtain ⟨g1, g2⟩ := hc
        have g3 : (0 : Int) < (xs.length : Int) := by omega
        have S6 := Lib.hid (srcPick _ p xs.length w5 (by omega) HST5.out.s (by omega) (by omega))
        go_wp2_with fail
        refine S6.out.mono ?_
        rintro e w6 ⟨⟨q0, rfl, hq0, hq1⟩, hs6, hu6⟩
        obtain ⟨q, rfl⟩ : ∃ q : Nat, q0 = q := ⟨q0.toNat, by omega⟩
        have hq : q < xs.length := by omega
        have HST6 := Lib.hid (HST5.out.src hs6 hu6)
        have S7 := Lib.hid (srcPick _ p 3 w6 (by omega) hs6 (by omega) (by omega))
        clear S6 hs6 hu6 HST5
        go_wp2_with fail
        refine S7.out.mono ?_
        rintro e w7 ⟨⟨z, rfl, hz0, hz1⟩, hs7, hu7⟩
        have HST7 := Lib.hid (HST6.out.src hs7 hu7)
        obtain ⟨g, rfl⟩ : ∃ g, av = some ⟨g, 0, none⟩ := by
          rcases HST7.out.b.2 with ⟨hb1, hb2⟩ | ⟨g, cap, cur, hb1, -⟩
          · omega
          · cases hb1; exact ⟨g, rfl⟩
        have hcell : w7.cell? ⟨g, q, none⟩ = some (ei xs[q]) := by
          rw [World.ownsRow.cellAt HST7.out.b q (by omega)]; simp [hq]
        have hfz := World.ownsRow.frozenAt HST7.out.b q
        have HST8 := Lib.hid (HST7.out.stored rfl q z)
        have S8 := Lib.hid (srcOne _ p 3 _ (by omega) HST8.out.s (by omega) (by omega))
        have hcv : xs.length ≤ cv ∧ cv ≤ maxLen := by
          obtain ⟨fb, hb, -⟩ := Flat.ofOwns HST7.out.b
          obtain ⟨a', c', hv, h1, h2, -⟩ := hb
          cases hv; exact ⟨h1, h2⟩
        obtain ⟨hcv1, hcv2⟩ := hcv
        unfold maxLen at hcv2
        generalize xs[q] = old at hcell
        clear S7 hs7 hu7 HST6 HST7
        go_wp2_with fail
        refine S8.out.mono ?_
        rintro e w9 ⟨⟨bo, rfl⟩, hs9, hu9⟩
        have HST9 := Lib.hid (HST8.out.src hs9 hu9)
        clear S8 hs9 hu9 HST8
        cases bo
        · have HF := Lib.hid HST9.out.fin
          clear HST9
          go_wp2_with fail
          go_ret2
          exact HF.out
        · have S10 := Lib.hid (srcPick _ p 3 w9 (by omega) HST9.out.s (by omega) (by omega))
          go_wp2_with fail
          refine S10.out.mono ?_
          rintro e w10 ⟨⟨y2, rfl, hy2, hy3⟩, hs10, hu10⟩
          have HST10 := Lib.hid (HST9.out.src hs10 hu10)
          have hown10 := HST10.out.b
          have hsz10 := HST10.out.sz
          rw [List.length_set] at hown10
          clear S10 hs10 hu10 HST9
          go_wp2_with (first
            | (at_builtin; refine wpList_append_tight _ rfl _ _ 24 rfl wr.heap.size 2 i1 (.int .i64 0) 1 8 Tryd.underlying24 ki kz0 kz1 kz2 rfl (by decide) _ _ _ rfl (hown10.alloc _) ⟨w10.heap.size, 0, none⟩ 1 1 [ei y2] rfl rfl (fun j u hj => by rw [addr_add]; exact cell_new w10 #[ei y2] _ _ rfl _ _ (by simpa using hj)) (by simp [Value.oneCell']) (by unfold maxLen; omega) (by omega) (by simp; omega) ?_)
            | fail)
          intro v11 w11 hown11 hg11 ht11
          have HF := Lib.hid (HST10.out.grew rfl hg11 (by rw [List.length_set, List.map_set]; exact hown11)).fin
          clear hown10 hown11 hg11 ht11 HST10
          go_wp2_with fail
          go_ret2
          exact HF.out
      · have S8 := Lib.hid (srcOne _ p 3 w5 (by omega) HST5.out.s (by omega) (by omega))
        have hgo : Hid (∀ (K : Prop), (0 < y → ¬ (0 : Int) < (xs.length : Int) → K) → (¬ 0 < y → K) → K) := Lib.hid (fun K h1 h2 => by
          by_cases h : 0 < y
          · exact h1 h (fun h3 => hc ⟨h, by omega⟩)
          · exact h2 h)
        clear hc
        refine hgo.out _ ?_ ?_
        all_goals intros
        all_goals (
          clear hgo
          go_wp2_with fail
          refine S8.out.mono ?_
          rintro e w9 ⟨⟨bo, rfl⟩, hs9, hu9⟩
          have HST9 := Lib.hid (HST5.out.src hs9 hu9)
          clear S8 hs9 hu9 HST5
          cases bo
          · have HF := Lib.hid HST9.out.fin
            clear HST9
            go_wp2_with fail
            go_ret2
            exact HF.out
          · have S10 := Lib.hid (srcPick _ p 3 w9 (by omega) HST9.out.s (by omega) (by omega))
            go_wp2_with fail
            refine S10.out.mono ?_
            rintro e w10 ⟨⟨y2, rfl, hy2, hy3⟩, hs10, hu10⟩
            have HST10 := Lib.hid (HST9.out.src hs10 hu10)
            have hown10 := HST10.out.b
            have hsz10 := HST10.out.sz
            clear S10 hs10 hu10 HST9
            go_wp2_with (first
              | (at_builtin; refine wpList_append_tight _ rfl _ _ 24 rfl wr.heap.size 2 i1 (.int .i64 0) 1 8 Tryd.underlying24 ki kz0 kz1 kz2 rfl (by decide) _ _ _ rfl (hown10.alloc _) ⟨w10.heap.size, 0, none⟩ 1 1 [ei y2] rfl rfl (fun j u hj => by rw [addr_add]; exact cell_new w10 #[ei y2] _ _ rfl _ _ (by simpa using hj)) (by simp [Value.oneCell']) (by unfold maxLen; omega) (by omega) (by simp; omega) ?_)
              | fail)
            intro v11 w11 hown11 hg11 ht11
            have HF := Lib.hid (HST10.out.grew rfl hg11 hown11).fin
            clear hown10 hown11 hg11 ht11 HST10
            go_wp2_with fail
            go_ret2
            exact HF.out)

end Go.Proofs.YtkhifpgpkklokaaDoor
