/-
  FromPostfix, both sides.
-/
import Derived.Test.YtnioopbficcbeaaPost
import Derived.Test.YtnioopbficcbeaaLib2
import Derived.Deep.RegionHeld3
import Derived.Outline
namespace Go.Proofs.Ytnioopbficcbeaa
open Go.RowKit

set_option maxHeartbeats 1000000 in
theorem cloneE (xs : List Ex) (b off cap : Nat) (w : World) (fp : List Nat) (hl : xs.length ≤ 1000) (hR : slP R_E fp w [.slice (some ⟨b, off, none⟩) xs.length cap] xs) :
    Calls Try.prog 49 #[.slice (some ⟨b, off, none⟩) xs.length cap] w fun r w' => (∃ v' fp', r = .returned v' ∧ slP R_E fp' w' [v'] xs) ∧ Upd [] w w' := by
  obtain ⟨i0, hi, hz0, hz1, hz2⟩ := info_parts Try.infoE
  obtain ⟨v, us, fb, fps, hv, ⟨a', cap', hv2, h1, h2, h3, h4⟩, h5, rfl, h6⟩ := hR
  cases hv
  simp only [Value.slice.injEq] at hv2
  obtain ⟨rfl, -, rfl⟩ := hv2
  have hown : (w.alloc (.cells #[] 51)).ownsRow w.heap.size 51 1 (.slice (some ⟨w.heap.size, 0, none⟩) 0 0) 0 [] := by
    simpa using World.ownsRow_lit (base := w.heap.size) (e := 51) (size := 1) w #[] 0 (Nat.le_refl _) (by simp [maxLen]) (by simp)
  have hcell : ∀ j u, us[j]? = some u → (w.alloc (.cells #[] 51)).cell? ((⟨b, off, none⟩ : Addr).add j) = some u := by
    intro j u hu
    rcases h4 with ⟨h0, -⟩ | ⟨b', off', hb', -, hbl, hc⟩
    · have : j < us.length := (List.getElem?_eq_some_iff.1 hu).1
      omega
    · cases hb'
      have := hc j u hu
      have ha : (⟨b, off, none⟩ : Addr).add j = ⟨b, off + j, none⟩ := by simp only [Addr.add]; split <;> simp_all
      rw [ha]
      exact ((Upd.refl [] w).alloc (.cells #[] 51)).keep this
  have hone : ∀ u ∈ us, u.oneCell' = true := by
    intro u hu
    obtain ⟨i, hi, rfl⟩ := List.mem_iff_getElem.1 hu
    obtain ⟨pb, hp⟩ := R_E_form (h6 i (by omega) us[i] (fps[i]'(by omega)) (by simp) (by simp))
    rw [hp]; rfl
  have HC := Lib.hid hcell
  have HO := Lib.hid hone
  have H6 := Lib.hid h6
  have hq := fun (w : World) => Lib.run_eql_slice_nil (P := Try.prog) w 66 51 (some ⟨b, off, none⟩) xs.length cap 0 0 Try.underlying66
  have h3' : us.length = xs.length * 1 := h3
  clear hcell hone h6 h4 h3
  unfold maxLen at h2
  go_enter Try.func49, Try.ntmps49
  go_wp2_with (first
    | (at_builtin; refine wpList_append_tight _ rfl _ _ 66 rfl w.heap.size 51 i0 (.pointer none) 1 8 Try.underlying66 hi hz0 hz1 hz2 rfl (by decide) _ _ _ rfl hown ⟨b, off, none⟩ xs.length cap us rfl h3' HC.out HO.out ?c3 ?c4 ?c5 ?_)
    | fail)
  case c3 => unfold maxLen; omega
  case c4 => omega
  case c5 => simp
  intro v2 w2 hown2 hg2 ht2
  have hU : Upd [] w w2 := ((Upd.refl [] w).alloc _).grown hg2 (fun k hk => Or.inl (hown.lt k hk).1)
  have hown3 : w2.ownsRow w.heap.size 51 1 v2 xs.length us := by simpa using hown2
  obtain ⟨f2, hF2, -, -, -⟩ := Flat.ofOwns hown3
  have HS := Lib.hid (show slP R_E (f2 ++ fps.flatten) w2 [v2] xs from ⟨v2, us, f2, fps, rfl, hF2, h5, rfl, fun i hi u f hu hf => R_Ek.upd (H6.out i hi u f hu hf) hU (by simp)⟩)
  clear hown2 hg2 ht2 hown hown3 hF2
  go_wp2_with fail
  go_ret
  exact ⟨⟨_, _, rfl, HS.out⟩, hU⟩

theorem cloneE_nil (w : World) : Calls Try.prog 49 #[.slice none 0 0] w fun r w' => r = .returned (.slice none 0 0) ∧ w = w' := by
  have hq := fun (w : World) => Lib.run_eql_slice_nil (P := Try.prog) w 66 51 none 0 0 0 0 Try.underlying66
  go_enter Try.func49, Try.ntmps49
  go_wp2_with fail
  go_ret
  exact ⟨rfl, rfl⟩

theorem pfE_snoc (t : Tm) : ∀ (ts : List Tm) (st : List Ex), pfE (ts ++ [t]) st = (pfE ts st).bind fun s => if (s.length : Int) < arity t then none else some (s.take (s.length - (arity t).toNat) ++ [.mk t (s.drop (s.length - (arity t).toNat))])
  | [], st => by simp [pfE]
  | u :: ts, st => by
    rw [List.cons_append, pfE, pfE]
    split
    · rfl
    · exact pfE_snoc t ts _
theorem pfE_len : ∀ (ts : List Tm) (st out : List Ex), pfE ts st = some out → out.length ≤ st.length + ts.length
  | [], st, out, h => by simp [pfE] at h; subst h; simp
  | t :: ts, st, out, h => by
    rw [pfE] at h
    split at h
    · cases h
    · have := pfE_len ts _ out h
      simp at this
      have := arity_bd t
      simp; omega
theorem pfE_none : ∀ (ts us : List Tm) (st : List Ex), pfE ts st = none → pfE (ts ++ us) st = none
  | [], us, st, h => by simp [pfE] at h
  | t :: ts, us, st, h => by
    rw [pfE] at h
    rw [List.cons_append, pfE]
    split at h
    · rw [if_pos ‹_›]
    · rw [if_neg ‹_›]; exact pfE_none ts us _ h

def postRes (e : List Tm) : List Tm × Int :=
  if e.length ≤ 60 then (match pfE e [] with
    | some [x] => if e.all (fun t => tOk t 29) then (flatE x, 0) else ([], 1)
    | _ => ([], 1)) else ([], 1)

theorem postRes_none {e : List Tm} (k : Nat) (h : pfE (e.take k) [] = none) : postRes e = ([], 1) := by
  have := pfE_none _ (e.drop k) _ h
  rw [List.take_append_drop] at this
  unfold postRes; rw [this]; split <;> rfl
theorem postRes_many {e : List Tm} {st : List Ex} (h : pfE e [] = some st) (h1 : st.length ≠ 1) : postRes e = ([], 1) := by
  unfold postRes; rw [h]
  split
  · match st, h1 with
    | [], _ => rfl
    | [x], h => simp at h
    | x :: y :: l, _ => rfl
  · rfl
theorem postRes_one {e : List Tm} {x : Ex} (h : pfE e [] = some [x]) : postRes e = if eOk (flatE x) = true then (flatE x, 0) else ([], 1) := by
  obtain ⟨h1, h2, h3⟩ := pfE_ok e [] [x] rfl h
  have hx : okE x = true := by simpa [okEs] using h1
  have ha : (flatE x).all (fun t => tOk t 29) = e.all (fun t => tOk t 29) := by have := h2 (fun t => tOk t 29); simpa [flatEs] using this
  have hl : (flatE x).length = e.length := by simpa [flatEs] using h3
  unfold postRes
  rw [h, eOk_tree x hx, ha, hl]
  by_cases h60 : e.length ≤ 60
  · simp only [h60, if_true, decide_true, Bool.true_and]
  · simp [h60]
theorem pfE_step {e : List Tm} {k : Nat} {st : List Ex} (hk : k < e.length) (h : pfE (e.take k) [] = some st) :
    pfE (e.take (k + 1)) [] = if (st.length : Int) < arity e[k] then none else some (st.take (st.length - (arity e[k]).toNat) ++ [.mk e[k] (st.drop (st.length - (arity e[k]).toNat))]) := by
  rw [List.take_succ_eq_append_getElem hk, pfE_snoc, h]; rfl

/-- the stack: nil, or a slice of trees. -/
def StackIs (w : World) (v : Value) (st : List Ex) : Prop :=
  (v = .slice none 0 0 ∧ st = []) ∨ ∃ b off cap fp, v = .slice (some ⟨b, off, none⟩) st.length cap ∧ st.length ≤ cap ∧ cap ≤ maxLen ∧ slP R_E fp w [v] st

theorem StackIs.form {w : World} {v : Value} {st : List Ex} (h : StackIs w v st) : ∃ a c, v = .slice a st.length c := by
  rcases h with ⟨rfl, rfl⟩ | ⟨sb, so, scap, sfp, rfl, -⟩ <;> exact ⟨_, _, rfl⟩

theorem stack_push {w1 w4 : World} {t1 t2 : Int} {args xs : List Ex} {s v : Value} {fa fp : List Nat} {us : List Value} {H g gcap n : Nat} {T : TypeId}
    (hs : slP R_E fa w1 [s] args) (hxs : slPc R_E fp w1 v us xs) (hu : Upd [] (w1.alloc (.cells #[ei t1, ei t2, s] T)) w4) (hn : n = xs.length + 1)
    (hown : w4.ownsRow H 51 1 (.slice (some ⟨g, 0, none⟩) n gcap) n (us ++ [.pointer (some ⟨w1.heap.size, 0, none⟩)])) :
    StackIs w4 (.slice (some ⟨g, 0, none⟩) n gcap) (xs ++ [.mk (t1, t2) args]) := by
  subst hn
  have hu1 : Upd [] w1 (w1.alloc (.cells #[ei t1, ei t2, s] T)) := (Upd.refl [] w1).alloc _
  have hx : R_E (w1.heap.size :: fa) (w1.alloc (.cells #[ei t1, ei t2, s] T)) [.pointer (some ⟨w1.heap.size, 0, none⟩)] (.mk (t1, t2) args) :=
    R_E_mk (by simp) (by simp) (by simp) ((slP_kept R_Ek).upd hs hu1 (by simp))
  obtain ⟨fp', h⟩ := slP_snoc_new R_Ek (slPc_upd R_Ek hxs hu1) hx hu hown
  have hcap := hown.2
  rcases hcap with ⟨h0, -⟩ | ⟨g', cap', cur, hv, -, -, h1, h2, -⟩
  · cases h0
  · cases hv
    exact Or.inr ⟨g, 0, gcap, fp', by simp, by simpa using h1, h2, h⟩

set_option maxRecDepth 20000 in
set_option maxHeartbeats 4000000 in
theorem post_i (e : List Tm) (v : Value) (w : World) (fp : List Nat) (hR : R_T1 fp w [v] e) :
    Calls Try.prog 21 #[v] w fun r w' => (∃ v', r = .returned (.tuple #[v', .int .i64 (postRes e).2]) ∧ New R_T1 w w' v' (postRes e).1) ∧ Upd [] w w' := by
  obtain ⟨i0, hi, hz0, hz1, hz2⟩ := info_parts Try.infoE
  obtain ⟨a, cap, rfl, g1, g2, hc⟩ := slF2_open hR
  unfold maxLen at g2
  go_enter Try.func21, Try.ntmps21
  go_wp2_with fail
  go_loopw [4, 10] (fun sv i wr => ∃ (k : Nat) (st : List Ex), k ≤ e.length ∧ i = .int .i64 k ∧ Upd [] w wr ∧ StackIs wr sv st ∧ pfE (e.take k) [] = some st ∧ (0 < k → e.length ≤ 60)) (fun _ i _ => e.length - (intOf i).toNat)
  case atStart => exact ⟨0, [], Nat.zero_le _, rfl, Upd.refl _ _, Or.inl ⟨rfl, rfl⟩, by simp [pfE], by simp⟩
  case round =>
    obtain ⟨k, st, hk, rfl, hU, hst, hpf, h60⟩ := hrel
    by_cases hlt : k < e.length
    · obtain ⟨b, off, rfl, -, hbl, q1, q2⟩ := hc k hlt
      have q1' := hU.keep q1
      have q2' := hU.keep q2
      have hstep := pfE_step hlt hpf
      have hsl := pfE_len _ _ _ hpf
      simp only [List.length_nil, List.length_take, Nat.zero_add] at hsl
      generalize hek : e[k] = t at *
      obtain ⟨t1, t2⟩ := t
      have hsz := hU.size
      have HU := Lib.hid hU
      have HST := Lib.hid hstep
      have HPF := Lib.hid hpf
      have HEK := Lib.hid hek
      have H60 := Lib.hid h60
      have hbd := arity_bd (t1, t2)
      clear hc q1 q2 hU hpf hstep hek h60
      rcases hst with ⟨rfl, rfl⟩ | ⟨sb, so, scap, sfp, rfl, hsc, hsm, hsr⟩
      · go_wp2_with fail
        refine (operands t1 t2 _).mono ?_
        rintro r w1 ⟨rfl, hu1⟩
        have hU1 : Upd [] w w1 := (HU.out.alloc _).trans hu1
        have hcell : w1.cell? ⟨wr.heap.size, 0, none⟩ = some (ei t1) := hu1.keep (by simp)
        have hcell2 : w1.cell? ⟨wr.heap.size, 1, none⟩ = some (ei t2) := hu1.keep (by simp)
        have hlt1 : wr.heap.size < w1.heap.size := World.block_lt_of_cell? w1 _ hcell
        have HU1 := Lib.hid hU1
        clear hU1 hu1 HU q1' q2'
        by_cases hneg : arity (t1, t2) = 0
        · rw [hneg] at hbd HST ⊢
          clear hneg
          by_cases hl60 : e.length ≤ 60
          · go_wp2_with fail
            go_region_held3 (fun w' => w'.cell? ⟨wr.heap.size, 0, none⟩ = some (ei t1) ∧ w'.cell? ⟨wr.heap.size, 1, none⟩ = some (ei t2)) (first | go_keep | (go_split_ands; refine ⟨?_, ?_⟩ <;> (rw [hg4.cell_far _ (by simp; omega) (by simp [Value.ownBlock])]; first | go_keep | simp [*])))
              (first | (go_at_call 49; refine (cloneE_nil _).mono ?_; rintro r w3 ⟨rfl, rfl⟩)
                     | ((refine step_append_lies _ (by rfl) _ _ 66 (by rfl) w.heap.size 51 i0 (.pointer none) 1 8 Try.underlying66 hi hz0 hz1 hz2 rfl (by decide) (.slice none 0 0) 0 [] (by rfl) (World.ownsRow_nil _ _ _ _) ⟨w1.heap.size + 1, 0, none⟩ 1 1 [.pointer (some ⟨w1.heap.size, 0, none⟩)] (by rfl) (by rfl) (by intro j u hj; match j, hj with | 0, hj => simp at hj; subst hj; simp [Addr.add]) (by simp [Value.oneCell']) (by decide) (by unfold maxLen; omega) (by omega) (by simp; omega) (w1.heap.size + 2) (by simp) ?_; intro g gcap w4 hown4 hg4 hat4 hlt4)))
            have hu4 : Upd [] (w1.alloc (.cells #[ei t1, ei t2, .slice none 0 0] 70)) w4 := (((Upd.refl [] _).alloc _).drew.grown hg4 (by simp [Value.ownBlock]))
            have HSP := Lib.hid (stack_push (slP_nilv R_E w1) (show slPc R_E [] w1 (.slice none 0 0) [] [] from ⟨[], [], ⟨none, 0, rfl, Nat.le_refl _, by simp [maxLen], by simp, Or.inl ⟨rfl, rfl⟩⟩, rfl, rfl, by simp⟩) hu4 (n := 0 + 1) (by simp) hown4)
            have HU4 := Lib.hid (show Upd [] w w4 from (HU1.out.alloc _).trans hu4)
            have hnp : pfE (e.take (k + 1)) [] = some [.mk (t1, t2) []] := by have := HST.out; simpa using this
            have HNP := Lib.hid hnp
            clear hnp hu4 hown4 hg4 hat4 hlt4 hcell hcell2
            go_wp2_with fail
            go_roundw
            case rel => exact ⟨k + 1, [.mk (t1, t2) []], by omega, by go_num, HU4.out, HSP.out, HNP.out, fun _ => hl60⟩
            case measure => simp [intOf]; omega
          · have hn60 : 60 < e.length := by omega
            go_wp2_with fail
            go_ret2
            rw [show postRes e = ([], 1) from by unfold postRes; rw [if_neg hl60]]
            exact ⟨⟨_, rfl, New.nilF _ _ _ _⟩, HU1.out⟩
        · obtain ⟨A, hA⟩ : ∃ A : Int, arity (t1, t2) = A := ⟨_, rfl⟩
          rw [hA] at hbd HST hneg ⊢
          have hA1 : 1 ≤ A := by omega
          clear hA hneg
          go_wp2_with fail
          go_ret2
          have hp := HST.out
          rw [if_pos (by simp; omega)] at hp
          rw [postRes_none _ hp]
          exact ⟨⟨_, rfl, New.nilF _ _ _ _⟩, HU1.out⟩
      · by_cases hneg : (st.length : Int) < arity (t1, t2)
        · go_wp2_with fail
          refine (operands t1 t2 _).mono ?_
          rintro r w1 ⟨rfl, hu1⟩
          have HU1 := Lib.hid (show Upd [] w w1 from (HU.out.alloc _).trans hu1)
          obtain ⟨A, hA⟩ : ∃ A : Int, arity (t1, t2) = A := ⟨_, rfl⟩
          rw [hA] at hbd HST hneg ⊢
          clear hA hu1 HU q1' q2' hsr
          go_wp2_with fail
          go_ret2
          have hp := HST.out
          rw [if_pos hneg] at hp
          rw [postRes_none _ hp]
          exact ⟨⟨_, rfl, New.nilF _ _ _ _⟩, HU1.out⟩
        · obtain ⟨A, hA⟩ : ∃ A : Nat, arity (t1, t2) = A := ⟨(arity (t1, t2)).toNat, by omega⟩
          rw [hA] at hbd hneg HST
          have HA := Lib.hid hA
          rw [if_neg hneg, Int.toNat_natCast] at HST
          have hAL : A ≤ st.length := by omega
          clear hA hneg
          generalize hL : st.length = L at *
          have HL := Lib.hid hL
          clear hL
          obtain ⟨N, rfl⟩ : ∃ N, L = N + A := ⟨L - A, by omega⟩
          go_wp2_with fail
          refine (operands t1 t2 _).mono ?_
          rintro r w1 ⟨rfl, hu1⟩
          rw [HA.out]
          have hU1 : Upd [] w w1 := (HU.out.alloc _).trans hu1
          have hcell : w1.cell? ⟨wr.heap.size, 0, none⟩ = some (ei t1) := hu1.keep (by simp)
          have hcell2 : w1.cell? ⟨wr.heap.size, 1, none⟩ = some (ei t2) := hu1.keep (by simp)
          have hlt1 : wr.heap.size < w1.heap.size := World.block_lt_of_cell? w1 _ hcell
          have HU1 := Lib.hid hU1
          have HU1' := Lib.hid (show Upd [] wr w1 from ((Upd.refl [] wr).alloc _).trans hu1)
          clear hU1 hu1 HU q1' q2'
          have hn1 : (((N + A : Nat) : Int) - (A : Int)) = (N : Int) := by omega
          unfold maxLen at hsm
          have hsr1 := (slP_kept R_Ek).upd hsr HU1'.out (by simp)
          have hLL := HL.out
          obtain ⟨fpN, hsN, -⟩ := slP_sub hsr1 0 N so N (by omega) (by omega) (by omega) (by omega) (by unfold maxLen; omega)
          simp only [Nat.sub_zero, List.drop_zero] at hsN
          obtain ⟨us, hus⟩ := slP_c hsN
          obtain ⟨hus1, -, hus2⟩ := slPc_cells hus
          have htN : (st.take N).length = N := by rw [List.length_take]; omega
          have hul : us.length = N * 1 := by rw [hus1, htN]
          have HUS := Lib.hid hus2
          have HUSR := Lib.hid hus
          have HTN := Lib.hid htN
          have hNP : pfE (e.take (k + 1)) [] = some (st.take N ++ [.mk (t1, t2) (st.drop N)]) := by rw [HST.out, Nat.add_sub_cancel]
          have HNP := Lib.hid hNP
          have hdr : ∀ o', (0 < A → o' = so + N) → ∀ c', A ≤ c' → c' ≤ maxLen → ∃ fp', slP R_E fp' w1 [.slice (some ⟨sb, o', none⟩) A c'] (st.drop N) := by
            intro o' ho c' hc1 hc2
            obtain ⟨fp', h, -⟩ := slP_sub hsr1 N (N + A) o' c' (by omega) (by omega) (fun h => ho (by omega)) (by omega) hc2
            rw [Nat.add_sub_cancel_left, ← hLL, List.take_length] at h
            exact ⟨fp', h⟩
          have hst60 : st.length ≤ 1000 ∨ 60 < e.length := by omega
          have hdl : (st.drop N).length = A := by rw [List.length_drop]; omega
          have HDL := Lib.hid hdl
          have HDR := Lib.hid hdr
          clear hdr hdl hNP hsr1 hsr hus hus1 hus2 hsN htN hLL HST HL
          by_cases hl60 : e.length ≤ 60
          · have hsz1 := HU1.out.size
            by_cases hcN : scap = N
            · have hA0 : A = 0 := by omega
              subst hA0
              obtain rfl : N = scap := hcN.symm
              obtain ⟨fpD, hD⟩ := HDR.out so (fun h => by omega) 0 (by omega) (by unfold maxLen; omega)
              have S2 := cloneE (st.drop N) sb so 0 w1.drew fpD (by have := HDL.out; omega) (by rw [HDL.out]; exact (slP_kept R_Ek).drew hD)
              rw [HDL.out] at S2
              have HS2 := Lib.hid S2
              have b1 : (0 : Int) ≤ (N : Int) := by omega
              have b2 : (N : Int) ≤ (N : Int) := by omega
              clear S2 hD
              go_wp2_with fail
              go_region_held3 (fun w' => w'.cell? ⟨wr.heap.size, 0, none⟩ = some (ei t1) ∧ w'.cell? ⟨wr.heap.size, 1, none⟩ = some (ei t2)) (first | go_keep | (go_split_ands; refine ⟨?_, ?_⟩ <;> (rw [hg4.cell_far _ (by simp; omega) (by simp)]; first | go_keep | simp [*])))
                (first | (go_at_call 49; refine HS2.out.mono ?_; rintro r w3 ⟨⟨v3, fp3, rfl, hR3⟩, hu3⟩; obtain ⟨a3, c3, hv3, -⟩ := slP_open hR3; generalize (st.drop N).length = L3 at hv3; subst hv3; have hu13 := (Upd.refl [] w1).drew.trans hu3; have k1 := hu13.keep hcell; have k2 := hu13.keep hcell2; have hlt3 := hu13.size)
                       | ((refine step_append_full _ (by rfl) _ _ 66 (by rfl) 51 i0 (.pointer none) 1 8 Try.underlying66 hi hz0 hz1 hz2 rfl ⟨sb, so, none⟩ N us (by rfl) hul (fun j u hj => ((hu13.alloc _).alloc _).keep (HUS.out j u hj)) ⟨w3.heap.size + 1, 0, none⟩ 1 1 [.pointer (some ⟨w3.heap.size, 0, none⟩)] (by rfl) (by rfl) (by intro j u hj; match j, hj with | 0, hj => simp at hj; subst hj; simp [Addr.add]) (by decide) (by unfold maxLen; omega) (by omega) (w3.heap.size + 2) (by simp) ?_; intro gcap w4 hown4 hg4)))
              have hu4 : Upd [] (w3.alloc (.cells #[ei t1, ei t2, .slice a3 L3 c3] 70)) w4 := (((Upd.refl [] _).alloc _).grown hg4 (by simp))
              have HSP := Lib.hid (stack_push hR3 (slPc_upd R_Ek HUSR.out hu13) hu4 (by rw [HTN.out]) hown4)
              have HU4 := Lib.hid (show Upd [] w w4 from ((HU1.out.trans hu13).alloc _).trans hu4)
              clear hu4 hown4 hg4 hcell hcell2 k1 k2 hu13 hu3 hR3 hul
              go_wp2_with fail
              go_roundw
              case rel => exact ⟨k + 1, st.take N ++ [.mk (t1, t2) (st.drop N)], by omega, by go_num, HU4.out, HSP.out, HNP.out, fun _ => hl60⟩
              case measure => simp [intOf]; omega
            · obtain ⟨fpD, hD⟩ := HDR.out (so + N) (fun _ => rfl) (scap - N) (by omega) (by unfold maxLen; omega)
              have S2 := cloneE (st.drop N) sb (so + N) (scap - N) w1.drew fpD (by have := HDL.out; omega) (by rw [HDL.out]; exact (slP_kept R_Ek).drew hD)
              rw [HDL.out] at S2
              have HS2 := Lib.hid S2
              have hNc : N < scap := by omega
              have b5 : ¬ (scap : Int) = (N : Int) := by omega
              have b6 : ¬ (N : Int) = (scap : Int) := by omega
              have b7 : ¬ scap - N = 0 := by omega
              have b8 : (N : Int) < (scap : Int) := by omega
              have b9 : (N : Int) ≤ (N : Int) + (A : Int) := by omega
              have b10 : (N : Int) + (A : Int) ≤ (scap : Int) := by omega
              have b1 : (0 : Int) ≤ (N : Int) := by omega
              have b2 : (N : Int) ≤ (scap : Int) := by omega
              have b3 : (N : Int) ≤ ((N + A : Nat) : Int) := by omega
              have b4 : ((N + A : Nat) : Int) ≤ (scap : Int) := by omega
              clear S2 hD
              go_wp2_with fail
              go_region_held3 (fun w' => w'.cell? ⟨wr.heap.size, 0, none⟩ = some (ei t1) ∧ w'.cell? ⟨wr.heap.size, 1, none⟩ = some (ei t2)) (first | go_keep | (go_split_ands; refine ⟨?_, ?_⟩ <;> (rw [hg4.cell_far _ (by simp; omega) (by simp)]; first | go_keep | simp [*])))
                (first | (go_at_call 49; refine HS2.out.mono ?_; rintro r w3 ⟨⟨v3, fp3, rfl, hR3⟩, hu3⟩; obtain ⟨a3, c3, hv3, -⟩ := slP_open hR3; generalize (st.drop N).length = L3 at hv3; subst hv3; have hu13 := (Upd.refl [] w1).drew.trans hu3; have k1 := hu13.keep hcell; have k2 := hu13.keep hcell2; have hlt3 := hu13.size)
                       | ((refine step_append_full _ (by rfl) _ _ 66 (by rfl) 51 i0 (.pointer none) 1 8 Try.underlying66 hi hz0 hz1 hz2 rfl ⟨sb, so, none⟩ N us (by rfl) hul (fun j u hj => ((hu13.alloc _).alloc _).keep (HUS.out j u hj)) ⟨w3.heap.size + 1, 0, none⟩ 1 1 [.pointer (some ⟨w3.heap.size, 0, none⟩)] (by rfl) (by rfl) (by intro j u hj; match j, hj with | 0, hj => simp at hj; subst hj; simp [Addr.add]) (by decide) (by unfold maxLen; omega) (by omega) (w3.heap.size + 2) (by simp) ?_; intro gcap w4 hown4 hg4)))
              have hu4 : Upd [] (w3.alloc (.cells #[ei t1, ei t2, .slice a3 L3 c3] 70)) w4 := (((Upd.refl [] _).alloc _).grown hg4 (by simp))
              have HSP := Lib.hid (stack_push hR3 (slPc_upd R_Ek HUSR.out hu13) hu4 (by rw [HTN.out]) hown4)
              have HU4 := Lib.hid (show Upd [] w w4 from ((HU1.out.trans hu13).alloc _).trans hu4)
              clear hu4 hown4 hg4 hcell hcell2 k1 k2 hu13 hu3 hR3 hul
              go_wp2_with fail
              go_roundw
              case rel => exact ⟨k + 1, st.take N ++ [.mk (t1, t2) (st.drop N)], by omega, by go_num, HU4.out, HSP.out, HNP.out, fun _ => hl60⟩
              case measure => simp [intOf]; omega
          · go_wp2_with fail
            go_ret2
            rw [show postRes e = ([], 1) from by unfold postRes; rw [if_neg hl60]]
            exact ⟨⟨_, rfl, New.nilF _ _ _ _⟩, HU1.out⟩
    · obtain rfl : e.length = k := by omega
      rw [List.take_length] at hpf
      by_cases h1 : st.length = 1
      · obtain ⟨x, rfl⟩ : ∃ x, st = [x] := by
          match st, h1 with
          | [x], _ => exact ⟨x, rfl⟩
        have hp := postRes_one hpf
        have hfl : (flatE x).length ≤ 60 := by
          have h3 := (pfE_ok e [] [x] rfl hpf).2.2
          simp [flatEs] at h3
          by_cases h0 : 0 < e.length
          · have := h60 h0; omega
          · omega
        rcases hst with ⟨-, hh⟩ | ⟨sb, so, scap, sfp, rfl, hsc, hsm, hsr⟩
        · cases hh
        · obtain ⟨_, _, hv, -, -, hx⟩ := slP_open hsr
          simp only [Value.slice.injEq] at hv
          obtain ⟨rfl, -, rfl⟩ := hv
          obtain ⟨_, _, u, f, hb, -, -, hu, -, hxR⟩ := hx 0 (by simp)
          simp only [Option.some.injEq, Addr.mk.injEq, and_true] at hb
          obtain ⟨rfl, rfl⟩ := hb
          simp only [List.getElem_cons_zero, Nat.add_zero, List.length_cons, List.length_nil, Nat.zero_add] at *
          have HP := Lib.hid hp
          have HU := Lib.hid hU
          clear hp hpf h1 h60 hc hsr hx hU
          go_wp2_with fail
          refine (listE x _ u f (by omega) hxR).mono ?_
          rintro r w2 ⟨⟨v2, rfl, hn2⟩, hu2⟩
          obtain ⟨fp2, hl2, -⟩ := hn2
          have hu' := hu2.keep hu
          have hxR' := R_Ek.upd hxR hu2 (by simp)
          clear hu hxR
          go_wp2_with fail
          refine (termsOk _ (flatE x) _ fp2 hl2).mono ?_
          rintro r w3 ⟨rfl, hu3⟩
          have hu'' := hu3.keep hu'
          have hxR'' := R_Ek.upd hxR' hu3 (by simp)
          have HU3 := Lib.hid (HU.out.trans (hu2.trans hu3))
          clear hu' hxR' hl2 hu2 hu3 HU
          obtain ⟨bb, hbb⟩ : ∃ bb, bb = eOk (flatE x) := ⟨_, rfl⟩
          rw [← hbb] at HP ⊢
          clear hbb
          cases bb
          · go_wp2_with fail
            go_ret2
            rw [HP.out]
            exact ⟨⟨_, rfl, New.nilF _ _ _ _⟩, HU3.out⟩
          · go_wp2_with fail
            refine (listE x _ u f (by omega) hxR'').mono ?_
            rintro r w4 ⟨⟨v4, rfl, hn4⟩, hu4⟩
            have HN := Lib.hid (hn4.mono (w0 := w) HU3.out.size)
            have HU4 := Lib.hid (HU3.out.trans hu4)
            clear hn4 hu4 hu'' hxR''
            go_wp2_with fail
            go_ret2
            rw [HP.out]
            exact ⟨⟨_, rfl, HN.out⟩, HU4.out⟩
      · have hp := postRes_many hpf h1
        have HP := Lib.hid hp
        have hne : ¬ ((st.length : Int) = 1) := by omega
        obtain ⟨a, c, rfl⟩ := hst.form
        clear hp hpf h60 hc hst
        go_wp2_with fail
        go_ret2
        rw [HP.out]
        exact ⟨⟨_, rfl, New.nilF _ _ _ _⟩, hU⟩

end Go.Proofs.Ytnioopbficcbeaa
