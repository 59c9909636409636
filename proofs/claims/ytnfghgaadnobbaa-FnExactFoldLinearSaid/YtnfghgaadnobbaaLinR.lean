/-
  A linear process copied, and with another start: what the program's and the reference's calls return and make.
-/
import Derived.Test.YtnfghgaadnobbaaLinF
import Derived.Test.YtnfghgaadnobbaaLinIs
import Derived.Test.YtnfghgaadnobbaaLinK
namespace Go.Proofs.Ytnfghgaadnobbaa
open Go.RowKit

theorem sum_mem_le {α : Type} (f : α → Int) (h0 : ∀ x, 0 ≤ f x) : ∀ (l : List α) (x : α), x ∈ l → f x ≤ (l.map f).sum
  | [], x, h => by cases h
  | y :: l, x, h => by
    have hs : 0 ≤ (l.map f).sum := by
      clear h
      induction l with
      | nil => simp
      | cons z l ih => simp only [List.map_cons, List.sum_cons]; have := h0 z; omega
    rw [List.map_cons, List.sum_cons]
    rcases List.mem_cons.1 h with rfl | h
    · omega
    · have := sum_mem_le f h0 l x h; have := h0 y; omega
/-- all that a budget of a million gives. -/
structure LnFits (x : Ln) : Prop where
  lf : LnFit x
  sf : ∀ s ∈ x.sms, SmFit s
  st : x.start.length ≤ 2000000
  sm : x.sms.length ≤ 1000000
/-- valid processes are small. -/
theorem lnOk_fit {x : Ln} (h : lnOk x = true) : x.pars ≤ 21 ∧ (x.start.length : Int) = x.pars ∧ x.sms.length ≤ 60 ∧ ∀ s ∈ x.sms, smOk x.pars s = true := by
  unfold lnOk at h
  simp only [Bool.and_eq_true, decide_eq_true_eq, List.all_eq_true] at h
  have := inB_true h.1.1.1
  exact ⟨this.2, h.1.1.2.1, h.1.2, h.2⟩

theorem ln_fit {x : Ln} (h : szF_Ln x ≤ 1048576) : LnFit x := by
  intro s hs
  have h0 := szF_I1_nonneg x.start
  have h1 := sum_mem_le szF_Sm szF_Sm_nonneg x.sms s hs
  have h2 := szF_I1_nonneg s.sums
  have h3 := szF_T1_nonneg s.guard
  have h4 := szF_T2_sum s.args
  have h5 := szF_T2_sum s.next
  unfold szF_Ln szF_Sm1 at h
  have e2 : szF_I1 s.sums = s.sums.length := rfl
  have e3 : szF_T1 s.guard = s.guard.length := rfl
  have e4 : szF_Sm s = szF_I1 s.sums + szF_T1 s.guard + (s.name.length : Int) + szF_T2 s.args + szF_T2 s.next := rfl
  have e5 : szF_T2 s.args = s.args.length + (s.args.map szF_T1).sum := rfl
  have e6 : szF_T2 s.next = s.next.length + (s.next.map szF_T1).sum := rfl
  omega
theorem ln_start {x : Ln} (h : szF_Ln x ≤ 1048576) : x.start.length ≤ 2000000 ∧ x.sms.length ≤ 2000000 := by
  have h1 := szF_Sm1_sum x.sms
  have h2 := szF_Sm1_nonneg x.sms
  unfold szF_Ln szF_Sm1 szF_I1 at *
  omega
theorem ln_fits {x : Ln} (h : lnOk x = true) (hF : LnFit x) : LnFits x := by
  obtain ⟨h1, h2, h3, h4⟩ := lnOk_fit h
  refine ⟨hF, fun s hs => ?_, by omega, by omega⟩
  have h5 := h4 s hs
  have h6 := hF s hs
  unfold smOk at h5
  simp only [Bool.and_eq_true, decide_eq_true_eq] at h5
  have h7 := h5.2
  unfold expsP at h7
  rw [List.all_eq_true] at h7
  have hA : s.args.length ≤ 1000000 := by
    have h8 := h5.1.2
    unfold namesP at h8
    simp only [Bool.and_eq_true, Bool.not_eq_true', Bool.and_eq_false_iff, Bool.or_eq_false_iff, decide_eq_false_iff_not] at h8
    rcases h8.1 with h | h <;> omega
  have hE : ∀ e, e ∈ s.guard :: (s.args ++ s.next) → e.length ≤ 1000000 := fun e he => by have := isE_len (h7 e he); omega
  exact ⟨h6.2.2.1, hE _ (by simp), ⟨hA, fun e he => hE e (by simp [he])⟩, ⟨by omega, fun e he => hE e (by simp [he])⟩⟩

/-- a made process taken apart. -/
theorem ln_split {w w' : World} {us : List Value} {x : Ln} (h : NewQ R_Ln w w' us x) : ∃ v1 v2, us = [ei x.pars, v1, v2] ∧ New R_I1 w w' v1 x.start ∧ New R_Sm1 w w' v2 x.sms := by
  obtain ⟨fp, ⟨v1, v2, f1, f2, rfl, r1, r2, rfl⟩, ho, hb⟩ := h
  obtain ⟨o1, o2, -⟩ := own_split ho
  exact ⟨v1, v2, rfl, ⟨f1, r1, o1, fun b hb' => hb b (by simp [hb'])⟩, ⟨f2, r2, o2, fun b hb' => hb b (by simp [hb'])⟩⟩
/-- a made process's cells. -/
theorem ln_form {w w' : World} {us : List Value} {x : Ln} (h : NewQ R_Ln w w' us x) : ∃ p1 q1 p2 q2, us = [ei x.pars, .slice p1 x.start.length q1, .slice p2 x.sms.length q2] := by
  obtain ⟨v1, v2, rfl, n1, n2⟩ := ln_split h
  obtain ⟨p1, q1, rfl⟩ := n1.form
  obtain ⟨p2, q2, rfl⟩ := n2.formQ
  exact ⟨p1, q1, p2, q2, rfl⟩
/-- a process out of summands and a newer start. -/
theorem ln_join {w w1 w2 : World} {v1 v2 : Value} {p : Int} {s : List Int} {m : List Sm} (h2 : New R_Sm1 w w1 v2 m) (hw : w.heap.size ≤ w1.heap.size) (hu : Upd [] w1 w2) (h1 : New R_I1 w1 w2 v1 s) : NewQ R_Ln w w2 [ei p, v1, v2] ⟨p, s, m⟩ := by
  obtain ⟨f1, r1, o1, b1⟩ := h1
  obtain ⟨f2, r2, o2, b2⟩ := h2
  have l2 := R_Sm1k.lt r2
  refine ⟨f1 ++ f2, ⟨v1, v2, f1, f2, rfl, r1, R_Sm1k.upd r2 hu (by simp), rfl⟩, own_join o1 (o2.upd hu (by simp)) (fun c h1 h2 => by have := b1 c h1; have := l2 c h2; omega), fun c hc => ?_⟩
  rcases List.mem_append.1 hc with h | h
  · have := b1 c h; omega
  · exact b2 c h
def zeroLn : Ln := ⟨0, [], []⟩
theorem ln_zero (w w' : World) : NewQ R_Ln w w' [ei 0, .slice none 0 0, .slice none 0 0] zeroLn :=
  ⟨[], ⟨_, _, [], [], rfl, ⟨_, rfl, slP_nilv.flatNil w' 1⟩, slQ_nil w' none 0 (Nat.zero_le _), rfl⟩, Own.nil _, by simp⟩
theorem lnq_upd {w w1 w2 : World} {us : List Value} {x : Ln} {f : List Nat} (h : NewQ R_Ln w w1 us x) (hu : Upd f w1 w2) (hf : ∀ b ∈ f, b < w.heap.size ∨ w1.heap.size ≤ b) : NewQ R_Ln w w2 us x := by
  obtain ⟨g, r, o, b⟩ := h
  have l := R_Lnk.lt r
  have d : ∀ c ∈ g, c ∉ f := fun c hc hm => by have := b c hc; have := l c hc; have := hf c hm; omega
  exact ⟨g, R_Lnk.upd r hu d, o.upd hu d, b⟩
theorem lnq_mono {w0 w w1 : World} {us : List Value} {x : Ln} (h : NewQ R_Ln w w1 us x) (hs : w0.heap.size ≤ w.heap.size) : NewQ R_Ln w0 w1 us x := by
  obtain ⟨g, r, o, b⟩ := h
  exact ⟨g, r, o, fun c hc => by have := b c hc; omega⟩

theorem mapLn_id (x : Ln) : mapLn (fun _ e => e) x = x := by
  obtain ⟨p, s, m⟩ := x
  unfold mapLn
  congr
  simp only
  have : mapSm (fun _ e => e) = id := by funext s; obtain ⟨a, b, c, d, e⟩ := s; simp [mapSm]
  rw [this, List.map_id]

set_option maxRecDepth 20000 in
set_option maxHeartbeats 1000000 in
theorem cloneLnI (cs : List Value) (x : Ln) (w : World) (fp : List Nat) (hR : R_Ln fp w cs x) (hF : LnFits x) :
    Calls Try.prog 57 #[.agg cs.toArray] w fun e w' => (∃ us, e = .returned (.agg us.toArray) ∧ us.length = 3 ∧ us.toArray.all (·.oneCell') = true ∧ NewQ R_Ln w w' us x) ∧ Upd [] w w' := by
  have hR' := hR
  obtain ⟨v1, v2, f1, f2, rfl, r1, r2, rfl⟩ := hR
  obtain ⟨B, hB⟩ : ∃ B, B = w.heap.size := ⟨_, rfl⟩
  obtain ⟨wA, hwA⟩ : ∃ wA, wA = (w.alloc (.cells #[ei x.pars, v1, v2] 29)).alloc (.cells #[.int .i64 0, .slice none 0 0, .slice none 0 0] 29) := ⟨_, rfl⟩
  have s1 : (w.alloc (.cells #[ei x.pars, v1, v2] 29)).heap.size = B + 1 := by rw [hB]; simp
  have uA : Upd [] w wA := by rw [hwA]; exact ((Upd.refl _ _).alloc _).alloc _
  have HA := Lib.hid (show RowAt wA (B + 1) 29 zerosLn from by rw [hwA, ← s1]; exact RowAt.new _ _ _)
  have hL : RowAt wA B 29 [ei x.pars, v1, v2] := by rw [hwA, hB]; exact (RowAt.new _ _ _).upd ((Upd.refl [] _).alloc _) (by simp)
  have S1 := Lib.hid (eachI _ x wA _ 98 #[] (fun _ e => e) (fun _ e => e.length ≤ 1000000) (R_Lnk.upd hR' uA (by simp)) (clone1Ok wA) (fun s hs => by have := hF.sf s hs; exact ⟨this, this.2.1, this.2.2.1.2, this.2.2.2.2⟩) hF.st hF.sm)
  have HMI := Lib.hid (mapLn_id x)
  have UA := Lib.hid uA
  have hszA : B + 2 ≤ wA.heap.size := by rw [hwA, hB]; simp
  unfold RowAt at hL
  clear r1 r2 hR' uA s1 hF
  generalize mapLn (fun _ e => e) x = y at *
  go_enter Try.func57, Try.ntmps57
  go_upto_region 1 with (fail)
  rw [← hwA, ← hB]
  have HBB := Lib.hid hB
  clear hwA hB
  go_wp2_with (first
    | (refine wpList_load_row rfl 29 _ rfl B rfl 29 #[ei x.pars, v1, v2] (0, 0) _ hL Try.underlying29 rfl Ln_size ?_)
    | fail)
  refine S1.out.mono ?_
  rintro e w1 ⟨⟨us, rfl, hl, hc, hn⟩, hu⟩
  rw [HMI.out] at hn
  obtain ⟨u1, u2, rfl, -⟩ := ln_split hn
  have hres := HA.out.upd hu (by simp)
  unfold RowAt at hres
  have HN := Lib.hid (And.intro hn hu)
  have HC := Lib.hid hc
  clear hn hu hc S1 hL HMI
  go_wp2_with (first
    | (refine wpList_store_row rfl 29 _ _ rfl (B + 1) #[ei x.pars, u1, u2] rfl rfl 29 _ hres Ln_size rfl HC.out ?_)
    | fail)
  have hC := setRow_heap w1 (B + 1) _ #[ei x.pars, u1, u2] _ _ hres
  refine bodyPost_ret (results_cell_row Try.results57 _ _ (B + 1) 29 _ (0, 0) _ rfl hC Try.underlying29 rfl Ln_size) rfl ?_
  have hB := HBB.out
  have hszw := UA.out.size
  have D : Upd [B + 1] w1 (w1.setRow (B + 1) #[ei x.pars, u1, u2]) := (Upd.refl _ _).row (Or.inr (by simp)) _
  exact ⟨⟨[ei x.pars, u1, u2], rfl, rfl, HC.out, lnq_mono (lnq_upd HN.out.1 D (fun b hb => by simp at hb; left; omega)) hszw⟩, (UA.out.trans HN.out.2).row (Or.inl (by omega)) _⟩

end Go.Proofs.Ytnfghgaadnobbaa
