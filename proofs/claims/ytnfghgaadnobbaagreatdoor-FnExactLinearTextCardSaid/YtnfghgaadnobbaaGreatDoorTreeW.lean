/-
  The terms of a tree in order; a tree out of terms: what each call returns and makes.
-/
import Derived.Test.YtnfghgaadnobbaaGreatDoorTree
namespace Go.Proofs.YtnfghgaadnobbaaGreatDoor
open Go.RowKit

abbrev encT (t : Tm) : List Value := [ei t.1, ei t.2]

theorem Tryz.infoE : (Tryz.prog.info? 49).map (fun i => (i.zero, i.size, i.bytes)) = some (some (.pointer none), 1, 8) := by kernel_rfl

theorem flatEs_take (xs : List Ex) (k : Nat) (h : k < xs.length) : flatEs (xs.take (k + 1)) = flatEs (xs.take k) ++ flatE xs[k] := by
  rw [List.take_succ_eq_append_getElem h, flatEs_append]; simp [flatEs]
theorem flatEs_take_le (xs : List Ex) (k : Nat) : (flatEs (xs.take k)).length ≤ (flatEs xs).length := by
  conv => rhs; rw [← List.take_append_drop k xs, flatEs_append, List.length_append]
  omega

theorem Below.keepK {α : Type} {R : Rp α} (K : Kept R) {B : Nat} {w w' : World} {fp cs x} (h : R fp w cs x) (hb : Below B w w') (hf : ∀ b ∈ fp, b < B) : R fp w' cs x :=
  K.frame h hb.size fun b hm => hb.block b (hf b hm)

/-- a slice without its first element, whatever address its value bears. -/
theorem slF_tail {α : Type} {n : Nat} {enc : α → List Value} (he : ∀ x, (enc x).length = n) {fp : List Nat} {w : World} {b off len cap : Nat} {x : α} {xs : List α}
    (h : slF n enc fp w [.slice (some ⟨b, off, none⟩) len cap] (x :: xs)) (o' : Nat) (ho : xs ≠ [] → o' = off + n) :
    ∃ fp', slF n enc fp' w [.slice (some ⟨b, o', none⟩) (len - 1) (cap - 1)] xs ∧ (∀ c ∈ fp', c ∈ fp) := by
  obtain ⟨v, hv, a, cap', hv2, h1, h2, h3, h4⟩ := h
  cases hv
  simp only [Value.slice.injEq] at hv2
  obtain ⟨rfl, rfl, rfl⟩ := hv2
  simp only [List.length_cons] at *
  have hl : (xs.flatMap enc).length = xs.length * n := by
    clear h3 h4 ho
    induction xs with
    | nil => simp
    | cons y ys ih => rw [List.flatMap_cons, List.length_append, he, ih (by simp at h1; omega), List.length_cons, Nat.add_mul]; omega
  rcases h4 with ⟨h0, -⟩ | ⟨b', off', hb', rfl, hbl, hc⟩
  · omega
  · simp only [Option.some.injEq, Addr.mk.injEq, and_true] at hb'
    obtain ⟨rfl, rfl⟩ := hb'
    by_cases hx : xs = []
    · subst hx
      exact ⟨[], ⟨_, rfl, some ⟨b, o', none⟩, cap - 1, by simp, by simp, by omega, by simp, Or.inl ⟨rfl, rfl⟩⟩, by simp⟩
    · refine ⟨[b], ⟨_, rfl, _, cap - 1, by simp, by omega, by omega, hl, Or.inr ⟨b, o', rfl, rfl, hbl, fun j u hu => ?_⟩⟩, by simp⟩
      have := hc (n + j) u (by rw [List.flatMap_cons, List.getElem?_append_right (by rw [he]; omega), he, Nat.add_sub_cancel_left]; exact hu)
      rw [ho hx, Nat.add_assoc]; exact this

set_option maxHeartbeats 2000000 in
theorem treeFrom (n : Nat) : ∀ (x : Ex) (rest : List Tm) (w : World) (v : Value) (fp : List Nat), (flatE x).length ≤ n → okE x = true → (flatE x).length ≤ 100 → R_T1 fp w [v] (flatE x ++ rest) →
    Calls Tryz.prog 42 #[v] w fun e w' => (∃ v' vr fr, e = .returned (.tuple #[v', vr]) ∧ New R_E w w' v' x ∧ R_T1 fr w' [vr] rest ∧ ∀ b ∈ fr, b ∈ fp) ∧ Upd [] w w' := by
  induction n with
  | zero => intro x rest w v fp hn; have := flatE_pos x; omega
  | succ n ih =>
    intro x rest w v fp hn hok h100 hR
    obtain ⟨i0, hi, hz0, hz1, hz2⟩ := info_parts Tryz.infoE
    obtain ⟨⟨t1, t2⟩, args⟩ := x
    simp only [okE, Bool.and_eq_true, decide_eq_true_eq] at hok
    simp only [flatE, List.cons_append] at hR hn h100
    have hR0 := hR
    obtain ⟨a, cap, rfl, h1, h2, hc⟩ := slF2_open hR
    obtain ⟨b, off, rfl, hfp, hbl, q1, q2⟩ := hc 0 (by simp)
    simp only [List.length_cons, List.getElem_cons_zero] at *
    unfold maxLen at h2
    have HIH := Lib.hid ih
    have HOK := Lib.hid hok
    have HR := Lib.hid hR0
    rw [Nat.zero_mul, Nat.add_zero] at q1 q2
    clear hc hR hR0
    generalize hL : (flatEs args ++ rest).length = L at *
    have HL := Lib.hid hL
    clear ih hok hL
    by_cases hcap : cap = 1
    · have hL0 : L = 0 := by omega
      have hnil : flatEs args ++ rest = [] := List.eq_nil_of_length_eq_zero (by rw [HL.out]; exact hL0)
      obtain ⟨hna, hnr⟩ := List.append_eq_nil_iff.1 hnil
      have hargs : args = [] := by
        match args, hna with
        | [], _ => rfl
        | y :: ys, h => exfalso; have := flatE_pos y; simp only [flatEs, List.append_eq_nil_iff] at h; rw [h.1] at this; simp at this
      subst hargs hnr hL0
      have hz : arity (t1, t2) = 0 := by have := HOK.out.1; simpa using this.symm
      subst hcap
      have HRS := Lib.hid (show ∀ w' : World, R_T1 [] w' [.slice (some ⟨b, off, none⟩) 0 0] ([] : List Tm) from fun w' => ⟨_, rfl, some ⟨b, off, none⟩, 0, rfl, Nat.le_refl _, by simp [maxLen], by simp, Or.inl ⟨rfl, rfl⟩⟩)
      have HZ := Lib.hid hz
      clear HR hz hnil hna
      go_enter Tryz.func42, Tryz.ntmps42
      go_wp2_with fail
      refine (operands t1 t2 _).mono ?_
      rintro e w1 ⟨rfl, hu1⟩
      rw [HZ.out]
      have hU1 : Upd [] w w1 := ((Upd.refl [] w).alloc _).trans hu1
      have c0 : w1.cell? ⟨w.heap.size, 0, none⟩ = some (ei t1) := hu1.keep (by simp)
      have c1 : w1.cell? ⟨w.heap.size, 1, none⟩ = some (ei t2) := hu1.keep (by simp)
      have c2 : w1.cell? ⟨w.heap.size, 2, none⟩ = some (.slice none 0 0) := hu1.keep (by simp)
      have hown0 : Own [w.heap.size] w1 := (show Own [w.heap.size] (w.alloc (.cells #[ei t1, ei t2, .slice none 0 0] 81)) from ⟨by simp, by
        intro b hb
        obtain rfl : b = w.heap.size := by simpa using hb
        exact ⟨_, _, heap_alloc_new w _⟩⟩).upd hu1 (by simp)
      have HN := Lib.hid (show New R_E w w1 (.pointer (some ⟨w.heap.size, 0, none⟩)) (.mk (t1, t2) []) from
        ⟨[w.heap.size], R_E_mk c0 c1 c2 ⟨_, [], [], [], rfl, flat_nil w1 1, rfl, rfl, by simp⟩, hown0, by simp⟩)
      clear hu1 c0 c1 c2 hown0 q1 q2
      go_wp2_with fail
      go_loopw [5, 18] (fun rv i wr => rv = .slice (some ⟨b, off, none⟩) 0 0 ∧ i = .int .i64 0 ∧ wr = w1) (fun _ _ _ => 0)
      case atStart => exact ⟨rfl, rfl, rfl⟩
      case round =>
        obtain ⟨rfl, rfl, rfl⟩ := hrel
        go_wp2_with fail
        go_ret2
        exact ⟨⟨_, _, [], rfl, HN.out, HRS.out _, by simp⟩, hU1⟩
    · obtain ⟨fp1, htl, hfs⟩ := slF_tail (n := 2) (by intro x; rfl) HR.out (off + 2) (fun _ => rfl)
      simp only [Nat.add_sub_cancel] at htl
      have HTL := Lib.hid htl
      have HFS := Lib.hid hfs
      clear htl hfs
      go_enter Tryz.func42, Tryz.ntmps42
      go_wp2_with fail
      refine (operands t1 t2 _).mono ?_
      rintro e w1 ⟨rfl, hu1⟩
      have hU1 : Upd [] w w1 := ((Upd.refl [] w).alloc _).trans hu1
      obtain ⟨m, hm⟩ : ∃ m : Nat, arity (t1, t2) = m := ⟨args.length, HOK.out.1.symm⟩
      have HM := Lib.hid (show m = args.length by have := HOK.out.1; omega)
      have hm2 : args.length ≤ 2 := by have := HOK.out.1; have := arity_bd (t1, t2); omega
      rw [hm]
      have c0 : w1.cell? ⟨w.heap.size, 0, none⟩ = some (ei t1) := hu1.keep (by simp)
      have c1 : w1.cell? ⟨w.heap.size, 1, none⟩ = some (ei t2) := hu1.keep (by simp)
      have c2 : w1.cell? ⟨w.heap.size, 2, none⟩ = some (.slice none 0 0) := hu1.keep (by simp)
      have hown0 : Own [w.heap.size] w1 := (show Own [w.heap.size] (w.alloc (.cells #[ei t1, ei t2, .slice none 0 0] 81)) from ⟨by simp, by
        intro b hb
        obtain rfl : b = w.heap.size := by simpa using hb
        exact ⟨_, _, heap_alloc_new w _⟩⟩).upd hu1 (by simp)
      have hT1 : ∀ b ∈ fp1, b < w.heap.size := fun b hb => by
        have := HFS.out b hb
        rw [hfp] at this
        simp at this; omega
      have hrest1 := R_T1k.upd HTL.out hU1 (by simp)
      have HT1 := Lib.hid hT1
      clear hm hu1 HTL HR hT1 q1 q2
      go_wp2_with fail
      go_loopw [5, 18] (fun rv i wr => ∃ (k : Nat) (vo : Value) (fr : List Nat), k ≤ args.length ∧ i = .int .i64 k ∧ Upd [] w wr ∧ wr.cell? ⟨w.heap.size, 0, none⟩ = some (ei t1) ∧ wr.cell? ⟨w.heap.size, 1, none⟩ = some (ei t2) ∧
          wr.cell? ⟨w.heap.size, 2, none⟩ = some vo ∧ Own [w.heap.size] wr ∧ Acc R_E (w.alloc (.cells #[ei t1, ei t2, .slice none 0 0] 81)) 49 wr vo (args.take k) ∧ R_T1 fr wr [rv] (flatEs (args.drop k) ++ rest) ∧ ∀ b ∈ fr, b ∈ fp1)
        (fun _ i _ => args.length - (intOf i).toNat)
      case atStart => exact ⟨0, _, fp1, Nat.zero_le _, rfl, hU1, c0, c1, c2, hown0, Acc.nil _ _ _ _, hrest1, fun b hb => hb⟩
      case round =>
        clear hU1 c0 c1 c2 hown0 hrest1
        obtain ⟨k, vo, fr, hk, rfl, hU, c0, c1, c2, hown0, hacc, hrest, hfr⟩ := hrel
        have HFR := Lib.hid hfr
        clear hfr
        by_cases hlt : k < args.length
        · have hmk : k < m := by rw [HM.out]; exact hlt
          have hfd : flatEs (args.drop k) = flatE args[k] ++ flatEs (args.drop (k + 1)) := by rw [List.drop_eq_getElem_cons hlt]; rfl
          have hlen1 : (flatE args[k]).length + (flatEs (args.drop (k + 1))).length ≤ (flatEs args).length := by
            have e1 : flatEs args = flatEs (args.take k) ++ flatEs (args.drop k) := by rw [← flatEs_append, List.take_append_drop]
            rw [e1, hfd, List.length_append, List.length_append]; omega
          have hoky : okE args[k] = true := by
            have h2 := HOK.out.2
            rw [← List.take_append_drop k args, okEs_append, List.drop_eq_getElem_cons hlt] at h2
            simp only [okEs, Bool.and_eq_true] at h2
            exact h2.2.1
          rw [hfd, List.append_assoc] at hrest
          have S2 := Lib.hid (HIH.out args[k] (flatEs (args.drop (k + 1)) ++ rest) wr _ fr (by omega) hoky (by omega) hrest)
          have hts := List.take_succ_eq_append_getElem hlt
          have HTS := Lib.hid hts
          clear hfd hlen1 hoky hrest hts
          go_wp2_with fail
          refine S2.out.mono ?_
          rintro e w2 ⟨⟨v', vr, fr2, rfl, hnew, hrest2, hfr2⟩, hu2⟩
          have hU2 := hU.trans hu2
          have c0' := hu2.keep c0
          have c1' := hu2.keep c1
          have c2' := hu2.keep c2
          have hown0' := hown0.upd hu2 (by simp)
          obtain ⟨us, hou, hrows⟩ := hacc
          have hou2 := hou.kept (row := none) ⟨hu2.os, hu2.tape, hu2.output, hu2.size, fun k hk _ => hu2.block k hk (by simp)⟩ (by cases vo.ownBlock <;> simp)
          have hsz := hU.size
          have hsz0 : w.heap.size < wr.heap.size := World.block_lt_of_cell? wr _ c0
          have hsz2 := hu2.size
          have hform : ∃ b, v' = .pointer (some ⟨b, 0, none⟩) := by obtain ⟨f9, h9, -⟩ := hnew; exact R_E_form h9
          obtain ⟨pb, rfl⟩ := hform
          have hlk : (args.take k).length ≤ 100 := by
            have : (args.take k).length ≤ m := by rw [HM.out, List.length_take]; omega
            have h9 := arity_bd (t1, t2)
            have h10 := HOK.out.1
            rw [List.length_take]; omega
          have HFR2 := Lib.hid (fun b hb => HFR.out b (hfr2 b hb) : ∀ b ∈ fr2, b ∈ fp1)
          have hfz : w2.frozen? ⟨w.heap.size, 2, none⟩ = false := hown0'.frozen (by simp) _
          clear S2 hU c0 c1 c2 hown0 hfr2 HFR
          go_wp2_with (first
            | (at_builtin; refine wpList_append_tight _ rfl _ _ 79 rfl (w.alloc (.cells #[ei t1, ei t2, .slice none 0 0] 81)).heap.size 49 i0 (.pointer none) 1 8 Tryz.underlying79 hi hz0 hz1 hz2 rfl (by decide) _ _ _ rfl (hou2.alloc _) ⟨w2.heap.size, 0, none⟩ 1 1 [.pointer (some ⟨pb, 0, none⟩)] rfl rfl ?c1 ?c2 ?c3 ?c4 ?c5 ?_)
            | fail)
          case c1 => intro j u hj; match j, hj with | 0, hj => simp at hj; subst hj; simp [Addr.add]
          case c2 => intro u hu; simp at hu; subst hu; rfl
          case c3 => unfold maxLen; omega
          case c4 => omega
          case c5 => simp; omega
          intro v2 w3 hown3 hg3 ht3
          obtain ⟨a2, cc2, rfl⟩ := ownsRow_form hown3
          have hlus : us.length = k := by have := hrows.length; rw [this, List.length_take]; omega
          have hacc2 := Acc.push R_Ek hou hrows (by simp; omega) hu2 hnew _ (by simpa [Nat.min_eq_left hk] using hown3) hg3 (by simpa using ht3)
          have hu3 : Upd vo.ownBlock.toList (w2.alloc (.cells #[.pointer (some ⟨pb, 0, none⟩)] 49)) w3 := (Upd.refl _ _).grown hg3 (fun k hk => Or.inr (by simp [hk]))
          have hvo : ∀ b ∈ vo.ownBlock.toList, w.heap.size + 1 ≤ b := fun b hb => by have := (hou.lt b (by simpa using hb)).1; simpa using this
          have hne : ∀ b ∈ [w.heap.size], b ∉ vo.ownBlock.toList := fun b hb hm => by have := hvo b hm; simp at hb; omega
          have hU3 : Upd [] w w3 := (hU2.alloc _).fresh hu3 (fun b hb => Or.inl (by have := hvo b hb; omega))
          have hblk : w3.heap[w.heap.size]? = (w2.alloc (.cells #[.pointer (some ⟨pb, 0, none⟩)] 49)).heap[w.heap.size]? := hu3.block _ (by simp; omega) (hne _ (by simp))
          have hblk2 : w3.heap[w.heap.size]? = w2.heap[w.heap.size]? := by rw [hblk, Below.heap_alloc _ _ _ (by omega)]
          have d0 : w3.cell? ⟨w.heap.size, 0, none⟩ = some (ei t1) := (World.cell?_of_block (w := w2) hblk2).trans c0'
          have d1 : w3.cell? ⟨w.heap.size, 1, none⟩ = some (ei t2) := (World.cell?_of_block (w := w2) hblk2).trans c1'
          have d2 : w3.cell? ⟨w.heap.size, 2, none⟩ = some vo := (World.cell?_of_block (w := w2) hblk2).trans c2'
          have hown4 : Own [w.heap.size] w3 := hown0'.frame (by intro b hb; obtain rfl : b = w.heap.size := (by simpa using hb); exact hblk2)
          have hfz3 : w3.frozen? ⟨w.heap.size, 2, none⟩ = false := hown4.frozen (by simp) _
          have hrest3 : R_T1 fr2 (w3.setCell ⟨w.heap.size, 2, none⟩ (.slice a2 (k + 1) cc2)) [vr] (flatEs (args.drop (k + 1)) ++ rest) := by
            refine R_T1k.frame hrest2 (by have := hU3.size; have := hu3.size; simp [World.setCell] at *; omega) (fun b hb => ?_)
            have hb1 := HT1.out b (HFR2.out b hb)
            rw [Below.heap_setCell _ _ _ _ (by simp; omega), hu3.block b (by simp; omega) (fun hm => by have := hvo b hm; omega), Below.heap_alloc _ _ _ (by omega)]
          have hus4 : Upd [w.heap.size] w3 (w3.setCell ⟨w.heap.size, 2, none⟩ (.slice a2 (k + 1) cc2)) := (Upd.refl _ _).setCell (by simp) _
          have hacc4 := hacc2.other R_Ek hus4 (by simp)
          rw [← HTS.out] at hacc4
          have HP := Lib.hid (And.intro hrest3 (And.intro hacc4 (And.intro (hU3.setCell (p := ⟨w.heap.size, 2, none⟩) (Or.inl (Nat.le_refl _)) (.slice a2 (k + 1) cc2)) (hown4.setCell ⟨w.heap.size, 2, none⟩ (.slice a2 (k + 1) cc2)))))
          clear hrest3 hus4 hacc4 hown4 hblk hblk2 hne hvo hu3 hU3 hg3 ht3 hown3 hacc2 hou hou2 hrows hnew hrest2 c0' c1' c2' hown0' hu2 hU2 hfz HTS
          go_wp2
          go_roundw
          case rel =>
            refine ⟨k + 1, .slice a2 (k + 1) cc2, fr2, by omega, by go_num, HP.out.2.2.1, ?_, ?_, ?_, HP.out.2.2.2, HP.out.2.1, HP.out.1, HFR2.out⟩
            · exact (World.cell?_setCell_other _ _ _ _ (by simp)).trans d0
            · exact (World.cell?_setCell_other _ _ _ _ (by simp)).trans d1
            · exact World.cell?_setCell_same _ _ _ d2
          case measure => simp [intOf]; omega
        · have hkm : k = args.length := by omega
          subst hkm
          have hmk : ¬ args.length < m := by rw [HM.out]; omega
          rw [List.drop_length] at hrest
          rw [List.take_length] at hacc
          have hsz0 : w.heap.size < wr.heap.size := World.block_lt_of_cell? wr _ c0
          obtain ⟨fa, g1, g2, g3⟩ := hacc.new
          obtain ⟨vo', us', fb', fps', hv', h1', h2', h3', h4'⟩ := g1
          have HN := Lib.hid (show New R_E w wr (.pointer (some ⟨w.heap.size, 0, none⟩)) (.mk (t1, t2) args) from
            ⟨w.heap.size :: fa, R_E_mk c0 c1 c2 ⟨vo', us', fb', fps', hv', h1', h2', h3', h4'⟩, ⟨by rw [List.nodup_cons]; exact ⟨fun hm => by have := g3 _ hm; simp at this; omega, g2.1⟩, by
              intro b hb
              rcases List.mem_cons.1 hb with rfl | hb
              · exact hown0.2 _ (by simp)
              · exact g2.2 b hb⟩, by
              intro b hb
              rcases List.mem_cons.1 hb with rfl | hb
              · exact Nat.le_refl _
              · have := g3 b hb; simp at this; omega⟩)
          have HFE := Lib.hid (fun b hb => HFS.out b (HFR.out b hb) : ∀ b ∈ fr, b ∈ fp)
          clear hacc g2 g3 h1' h4' c0 c1 c2 hown0 HFR
          go_wp2_with fail
          go_ret2
          exact ⟨⟨_, _, fr, rfl, HN.out, by simpa [flatEs] using hrest, HFE.out⟩, hU⟩

end Go.Proofs.YtnfghgaadnobbaaGreatDoor
