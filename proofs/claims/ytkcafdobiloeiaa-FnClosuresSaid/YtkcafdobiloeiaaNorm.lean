/-
  Numbering by first occurrence: plainly, and the program's walk with a map.
-/
import Derived.Test.YtkcafdobiloeiaaLib2
import Derived.Test.YtkcafdobiloeiaaHarn
import Derived.Maps.OwnSet
import Derived.Maps.OwnOps
namespace Go.Proofs.Ytkcafdobiloeiaa
open Go.RowKit Go.Maps

def seen (xs : List Int) : List Int := xs.foldl (fun s x => if x ∈ s then s else s ++ [x]) []
def normL (xs : List Int) : List Int := xs.map (fun x => ((seen xs).idxOf x : Int))

theorem seen_snoc (xs : List Int) (x : Int) : seen (xs ++ [x]) = if x ∈ seen xs then seen xs else seen xs ++ [x] := by
  unfold seen; rw [List.foldl_append]; rfl
theorem seen_take (xs : List Int) (k : Nat) (h : k < xs.length) : seen (xs.take (k + 1)) = if xs[k] ∈ seen (xs.take k) then seen (xs.take k) else seen (xs.take k) ++ [xs[k]] := by
  rw [List.take_succ_eq_append_getElem h, seen_snoc]
theorem foldl_prefix : ∀ (xs s : List Int), s <+: xs.foldl (fun s x => if x ∈ s then s else s ++ [x]) s
  | [], s => List.prefix_refl _
  | x :: xs, s => by
    rw [List.foldl_cons]
    refine List.IsPrefix.trans ?_ (foldl_prefix xs _)
    split
    · exact List.prefix_refl _
    · exact List.prefix_append _ _
theorem seen_prefix (xs : List Int) (k : Nat) : seen (xs.take k) <+: seen xs := by
  conv => rhs; rw [← List.take_append_drop k xs]
  unfold seen
  rw [List.foldl_append]
  exact foldl_prefix _ _
theorem mem_seen : ∀ (xs : List Int) (x : Int), x ∈ seen xs ↔ x ∈ xs := by
  have key : ∀ (xs s : List Int) (x : Int), x ∈ xs.foldl (fun s x => if x ∈ s then s else s ++ [x]) s ↔ x ∈ s ∨ x ∈ xs := by
    intro xs
    induction xs with
    | nil => simp
    | cons y ys ih =>
      intro s x
      rw [List.foldl_cons, ih]
      split
      · rename_i h
        constructor
        · rintro (h1 | h1)
          · exact Or.inl h1
          · exact Or.inr (List.mem_cons_of_mem _ h1)
        · rintro (h1 | h1)
          · exact Or.inl h1
          · rcases List.mem_cons.1 h1 with rfl | h1
            · exact Or.inl h
            · exact Or.inr h1
      · simp only [List.mem_append, List.mem_cons, List.not_mem_nil, or_false, or_assoc]
  intro xs x
  simpa [seen] using key xs [] x
theorem idx_new {S s : List Int} {x : Int} (h : s ++ [x] <+: S) (hx : x ∉ s) : S.idxOf x = s.length := by
  obtain ⟨r, rfl⟩ := h
  rw [List.append_assoc, List.idxOf_append, if_neg hx]
  simp
theorem seen_len (xs : List Int) : (seen xs).length ≤ xs.length := by
  have key : ∀ (xs s : List Int), (xs.foldl (fun s x => if x ∈ s then s else s ++ [x]) s).length ≤ s.length + xs.length := by
    intro xs
    induction xs with
    | nil => simp
    | cons y ys ih =>
      intro s
      rw [List.foldl_cons]
      by_cases h : y ∈ s
      · rw [if_pos h]; have := ih s; simp; omega
      · rw [if_neg h]; have := ih (s ++ [y]); simp at this ⊢; omega
  simpa [seen] using key xs []

theorem keyI : Keyed Try.prog 2 := int_keyed Try.underlying2
theorem zeroI64 (w : World) : (zeroValue 2).run Try.prog w = .ok (.int .i64 0) w := by kernel_rfl

/-- what a map of numbers reads as, behind k elements. -/
def NMap (S s : List Int) (D : DataW Unit) : Prop := Maps.Tidy D ∧ Maps.size D = s.length ∧ (∀ n : Int, Maps.has D (.int .i64 n) = decide (n ∈ s)) ∧ ∀ n ∈ s, D.atKey (.int .i64 n) (.lit (.int .i64 0)) = .lit (.int .i64 (S.idxOf n))

theorem NMap.put {S s : List Int} {D : DataW Unit} (h : NMap S s D) {x : Int} (hw : (Lit.int .i64 x).wf = true) (hx : x ∉ s) (hp : s ++ [x] <+: S) : NMap S (s ++ [x]) (D.put (.int .i64 x) (.lit (.int .i64 (s.length : Int)))) := by
  obtain ⟨h1, h2, h3, h4⟩ := h
  have hk : WideAt.IsKeyLit (.int .i64 x) := keyI.key (keyOf_int_mk Try.underlying2 hw)
  have hxi := idx_new hp hx
  refine ⟨h1.put hk _, ?_, ?_, ?_⟩
  · rw [size_put h1, h3 x, if_neg (by simpa using hx), h2, List.length_append]; rfl
  · intro n
    by_cases hn : n = x
    · subst hn; rw [has_put_same h1.isMap hk]; simp
    · rw [has_put_other (by intro e; injection e with _ e2; exact hn e2), h3 n]; simp [hn]
  · intro n hn
    by_cases hnx : n = x
    · subst hnx; rw [atKey_put_same h1.isMap hk, hxi]
    · rw [atKey_put_other (by intro e; injection e with _ e2; exact hnx e2)]
      exact h4 n (by simpa [hnx] using hn)

theorem ownsMap_upd {H : Type} {P : Program} {w w' : World} {f : List Nat} {k : TypeId} {R : Value → Option (DataW H × List MemPlace)} {b n : Nat} {D : DataW H} (h : w.ownsMap P k R b n D) (hu : Upd f w w') (hb : b ∉ f) : w'.ownsMap P k R b n D := by
  obtain ⟨es, clock, h1, h2, h3, h4⟩ := h
  exact ⟨es, clock, (hu.block b (Array.getElem?_eq_some_iff.1 h1).1 hb).trans h1, h2, h3, h4⟩

theorem norm_set (xs : List Int) (k : Nat) (hk : k < xs.length) : ((normL xs).take k ++ List.replicate (xs.length - k) 0).set k ((seen xs).idxOf xs[k] : Int) = (normL xs).take (k + 1) ++ List.replicate (xs.length - (k + 1)) 0 := by
  have hl : ((normL xs).take k).length = k := by simp [normL]; omega
  rw [List.set_append_right _ _ (by omega), hl, Nat.sub_self, show xs.length - k = (xs.length - (k + 1)) + 1 from by omega, List.replicate_succ, List.set_cons_zero, List.take_succ_eq_append_getElem (by simp [normL]; omega)]
  simp [normL]

set_option maxRecDepth 20000 in
set_option maxHeartbeats 2000000 in
theorem normal (v : Value) (xs : List Int) (w : World) (fp : List Nat) (hl : xs.length ≤ 1000) (hx : ∀ x ∈ xs, 0 ≤ x ∧ x ≤ 1000000) (hR : R1 fp w [v] xs) :
    Calls Try.prog 73 #[v] w fun e w' => (∃ v', e = .returned v' ∧ New R1 w w' v' (normL xs)) ∧ Upd [] w w' := by
  obtain ⟨i0, hi, hz0, hz1, hz2⟩ := info_parts Try.info2
  obtain ⟨a, cap, rfl, h1, h2, hc⟩ := slF1_open hR
  unfold maxLen at h2
  have hm2 : i0.bytes * xs.length ≤ 281474976710656 := by rw [hz2]; omega
  have hmm := @run_makeMap Try.prog
  go_enter Try.func73, Try.ntmps73
  go_wp2_with (first
    | (at_make; refine wpList_make_full _ rfl _ _ 44 rfl (w.heap.size + 1) 2 i0 (.int .i64 0) 1 Try.underlying44 hi hz0 hz1 .i64 .i64 _ _ xs.length rfl rfl rfl rfl hm2 (by unfold maxLen; omega) (by simp) ?_; intro w2 hrow hgrow)
    | fail)
  rw [made_one _ rfl] at hrow
  have hU : Upd [] w w2 := ((Upd.refl _ _).alloc _).grown hgrow (by simp)
  have hum : Upd [] (w.alloc (.map #[] 0)) w2 := (Upd.refl _ _).grown hgrow (by simp)
  have hmap : w2.ownsMap Try.prog 2 (plainElem (H := Unit) Try.prog 2) w.heap.size 0 (.map []) := ownsMap_upd (World.ownsMap_made _ _ _ _) hum (by simp)
  obtain ⟨fo, ho1, ho2, ho3⟩ := New.ofOwns (w := w.alloc (.map #[] 0)) (e := 2) (enc := fun n => ei n) (xs := List.replicate xs.length 0) (by simpa using hrow)
  have HO3 := Lib.hid ho3
  have hm0 : NMap (seen xs) (seen (xs.take 0)) (.map []) := ⟨tidy_empty, rfl, fun n => by simp [seen, Maps.has], by simp [seen]⟩
  have HST := Lib.hid (And.intro hmap (And.intro hm0 (And.intro (show R1 fo w2 [.slice (some ⟨w.heap.size + 1, 0, none⟩) xs.length xs.length] ((normL xs).take 0 ++ List.replicate (xs.length - 0) 0) from by simpa using ho1) ho2)))
  have HX := Lib.hid hx
  clear hrow hgrow hum hmap ho1 ho2 hm0 hx ho3 hm2 hmm
  go_wp2_with fail
  go_loopw [15] (fun i wr => ∃ (k : Nat) (D : DataW Unit), k ≤ xs.length ∧ i = .int .i64 k ∧ Upd [] w wr ∧ wr.ownsMap Try.prog 2 (plainElem (H := Unit) Try.prog 2) w.heap.size k D ∧ NMap (seen xs) (seen (xs.take k)) D ∧
      R1 fo wr [.slice (some ⟨w.heap.size + 1, 0, none⟩) xs.length xs.length] ((normL xs).take k ++ List.replicate (xs.length - k) 0) ∧ Own fo wr) (fun i _ => xs.length - (intOf i).toNat)
  case atStart => exact ⟨0, _, Nat.zero_le _, rfl, hU, HST.out.1, HST.out.2.1, HST.out.2.2.1, HST.out.2.2.2⟩
  case round =>
    clear HST hU
    obtain ⟨k, D, hk, rfl, hU, hmap, hNM, ho1, ho2⟩ := hrel
    by_cases hlt : k < xs.length
    · obtain ⟨b, off, rfl, -, hbl, hcell⟩ := hc k hlt
      have hcell' := hU.keep hcell
      have hxb := HX.out xs[k] (by simp)
      have hst := seen_take xs k hlt
      have hpre := seen_prefix xs (k + 1)
      have hset := norm_set xs k hlt
      have hll : ((normL xs).take k ++ List.replicate (xs.length - k) 0).length = xs.length := by simp [normL]; omega
      obtain ⟨ob, oo, ocap, hov, -, -, hof, hobl, hoc0, hos0⟩ := slF1_cell ho1 k (by rw [hll]; exact hlt)
      rw [hll] at hov
      simp only [Value.slice.injEq, Option.some.injEq, Addr.mk.injEq, and_true, true_and] at hov
      obtain ⟨⟨rfl, rfl⟩, rfl⟩ := hov
      rw [Nat.zero_add] at hoc0 hos0
      obtain ⟨z, hoc⟩ : ∃ z, wr.cell? ⟨w.heap.size + 1, k, none⟩ = some (ei z) := ⟨_, hoc0⟩
      have hos := hos0 ((seen xs).idxOf xs[k] : Int)
      rw [hset] at hos
      clear hoc0 hos0
      have hfz : wr.frozen? ⟨w.heap.size + 1, k, none⟩ = false := ho2.frozen (by rw [hof]; simp) _
      have hwf : (Lit.int .i64 xs[k]).wf = true := by exact WalkArith.wf_i64 (by omega)
      have hkey : keyOf Try.prog 2 (.int .i64 xs[k]) = some (.int .i64 xs[k]) := keyOf_int_mk Try.underlying2 hwf
      have hhas := hNM.2.2.1 xs[k]
      generalize xs[k] = x at *
      by_cases hin : x ∈ seen (xs.take k)
      · have hidx := hNM.2.2.2 x hin
        rw [if_pos hin] at hst
        have hh : Maps.has D (.int .i64 x) = true := by rw [hhas]; simpa using hin
        clear hin hhas hc
        go_wp2_with (first
          | (at_lookup; refine wpList_lookup_own_ok_int _ rfl _ _ 99 rfl 2 2 .i64 keyI Try.underlying99 Try.underlying2 (zeroI64 _) w.heap.size k D rfl hmap _ _ rfl hkey ?_; intro c hat hwc; rw [hh])
          | fail)
        have hc2 : c = ((seen xs).idxOf x : Int) := by rw [hidx] at hat; injection hat with e1; injection e1 with _ e2; exact e2.symm
        subst hc2
        have hmp := ownsMap_upd (hmap.mono (show k ≤ k + 1 by omega)) ((Upd.refl [w.heap.size + 1] wr).setCell (p := ⟨w.heap.size + 1, k, none⟩) (by simp) (.int .i64 ((seen xs).idxOf x : Int))) (by simp)
        have HP := Lib.hid (And.intro hmp (And.intro (show NMap (seen xs) (seen (xs.take (k + 1))) D by rw [hst]; exact hNM) (And.intro hos (ho2.setCell ⟨w.heap.size + 1, k, none⟩ (.int .i64 ((seen xs).idxOf x : Int))))))
        go_roundw
        case rel => exact ⟨k + 1, D, by omega, by go_num, hU.setCell (Or.inl (by simp)) _, HP.out.1, HP.out.2.1, HP.out.2.2.1, HP.out.2.2.2⟩
        case measure => simp [intOf]; omega
      · rw [if_neg hin] at hst
        have hh : Maps.has D (.int .i64 x) = false := by rw [hhas]; simpa using hin
        rw [hst] at hpre
        have hidx := idx_new hpre hin
        have hsz := hNM.2.1
        have hnm2 := hNM.put hwf hin hpre
        rw [← hst] at hnm2
        have hsl : (seen (xs.take k)).length ≤ 1000 := by have := seen_len (xs.take k); rw [List.length_take] at this; omega
        have HNM2 := Lib.hid hnm2
        have hmb : w.heap.size < wr.heap.size := hmap.lt
        have HOS := Lib.hid hos
        have HO2 := Lib.hid ho2
        have HO1 := Lib.hid ho1
        have HSET := Lib.hid hset
        have HHL := Lib.hid hll
        have HIDX := Lib.hid hidx
        generalize hSL : (seen (xs.take k)).length = SL at *
        clear hin hhas hc hst hpre hnm2 hNM hos ho2 ho1 hset hll hidx hSL
        go_wp2_with (first
          | (at_lookup; refine wpList_lookup_own_ok_int _ rfl _ _ 99 rfl 2 2 .i64 keyI Try.underlying99 Try.underlying2 (zeroI64 _) w.heap.size k D rfl hmap _ _ rfl hkey ?_; intro c hat hwc; rw [hh])
          | (at_len; refine wpList_len_own _ rfl _ 99 rfl 2 2 Try.underlying99 _ w.heap.size k D rfl hmap ?_; rw [hsz])
          | (at_mapUpdate; refine wpList_mapUpdate_own _ rfl _ _ _ 99 rfl 2 2 keyI Try.underlying99 _ w.heap.size k D rfl hmap (by unfold maxLen; omega) _ _ _ rfl rfl hkey _ [] (plainElem_int Try.underlying2 (WalkArith.wf_i64 (by omega))) ?_; intro w5 hmap5 hg5; have hoc5 : w5.cell? ⟨w.heap.size + 1, k, none⟩ = some (ei z) := (hg5.cell_far ⟨w.heap.size + 1, k, none⟩ hobl (by simp)).trans hoc; have hfz5 : w5.frozen? ⟨w.heap.size + 1, k, none⟩ = false := (hg5.frozen_far ⟨w.heap.size + 1, k, none⟩ hobl (by simp)).trans hfz)
          | fail)
        have hu5 : Upd [w.heap.size] wr w5 := (Upd.refl _ _).grown hg5 (fun j hj => Or.inr (by simp at hj ⊢; exact hj.symm))
        have hdis : ∀ b ∈ fo, b ∉ [w.heap.size] := fun b hb hm => by rw [hof] at hb; simp at hb hm; omega
        obtain ⟨_, _, _, hov, -, -, -, -, -, hos5⟩ := slF1_cell (R1k.upd HO1.out hu5 hdis) k (by rw [HHL.out]; exact hlt)
        rw [HHL.out] at hov
        simp only [Value.slice.injEq, Option.some.injEq, Addr.mk.injEq, and_true, true_and] at hov
        obtain ⟨⟨rfl, rfl⟩, rfl⟩ := hov
        rw [Nat.zero_add] at hos5
        have hos5 := hos5 (SL : Int)
        rw [← HIDX.out, HSET.out, HIDX.out] at hos5
        have hmp := ownsMap_upd hmap5 ((Upd.refl [w.heap.size + 1] w5).setCell (p := ⟨w.heap.size + 1, k, none⟩) (by simp) (.int .i64 (SL : Int))) (by simp)
        have hU5 : Upd [] w w5 := hU.fresh hu5 (fun b hb => Or.inl (by simp at hb; omega))
        have HP := Lib.hid (And.intro hmp (And.intro HNM2.out (And.intro hos5 (((HO2.out.upd hu5 hdis).setCell ⟨w.heap.size + 1, k, none⟩ (.int .i64 (SL : Int)))))))
        clear hmp hos5 hmap5 hg5 hdis
        go_roundw
        case rel => exact ⟨k + 1, _, by omega, by go_num, hU5.setCell (Or.inl (by simp)) _, HP.out.1, HP.out.2.1, HP.out.2.2.1, HP.out.2.2.2⟩
        case measure => simp [intOf]; omega
    · obtain rfl : k = xs.length := by omega
      rw [Nat.sub_self, List.take_of_length_le (by simp [normL])] at ho1
      have HO1 := Lib.hid ho1
      have HO2 := Lib.hid ho2
      clear hc hmap hNM ho1 ho2
      go_wp2_with fail
      go_ret
      exact ⟨⟨_, rfl, fo, by simpa using HO1.out, HO2.out, fun b hb => by have := HO3.out b hb; simp at this; omega⟩, hU⟩

end Go.Proofs.Ytkcafdobiloeiaa
