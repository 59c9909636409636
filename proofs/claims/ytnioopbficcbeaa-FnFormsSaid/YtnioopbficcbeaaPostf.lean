/-
  The postfix form of an expression: what the calls return; it leads back.
-/
import Derived.Test.YtnioopbficcbeaaForms
import Derived.Test.YtnioopbficcbeaaPostW
namespace Go.Proofs.Ytnioopbficcbeaa
open Go.RowKit

mutual
def postE : Ex → List Tm
  | .mk t args => postEs args ++ [t]
def postEs : List Ex → List Tm
  | [] => []
  | x :: xs => postE x ++ postEs xs
end

theorem postEs_append (xs ys : List Ex) : postEs (xs ++ ys) = postEs xs ++ postEs ys := by
  induction xs with
  | nil => rfl
  | cons x xs ih => simp [postEs, ih]
mutual
theorem postE_len : ∀ x : Ex, (postE x).length = (flatE x).length
  | .mk t args => by simp only [postE, flatE, List.length_append, List.length_cons, List.length_nil, postEs_len args]
theorem postEs_len : ∀ xs : List Ex, (postEs xs).length = (flatEs xs).length
  | [] => rfl
  | x :: xs => by simp only [postEs, flatEs, List.length_append, postE_len x, postEs_len xs]
end
mutual
theorem postE_all (P : Tm → Bool) : ∀ x : Ex, (postE x).all P = (flatE x).all P
  | .mk t args => by
    simp only [postE, flatE, List.all_append, List.all_cons, List.all_nil, Bool.and_true, postEs_all P args]
    exact Bool.and_comm _ _
theorem postEs_all (P : Tm → Bool) : ∀ xs : List Ex, (postEs xs).all P = (flatEs xs).all P
  | [] => rfl
  | x :: xs => by simp only [postEs, flatEs, List.all_append, postE_all P x, postEs_all P xs]
end

theorem pfE_append : ∀ (a b : List Tm) (st : List Ex), pfE (a ++ b) st = (pfE a st).bind (pfE b)
  | [], b, st => by simp [pfE]
  | t :: a, b, st => by
    rw [List.cons_append, pfE, pfE]
    split
    · rfl
    · exact pfE_append a b _
mutual
theorem pfE_post : ∀ (x : Ex) (st : List Ex), okE x = true → pfE (postE x) st = some (st ++ [x])
  | .mk t args, st, h => by
    simp only [okE, Bool.and_eq_true, decide_eq_true_eq] at h
    rw [postE, pfE_append, pfEs_post args st h.2]
    have hA : (arity t).toNat = args.length := by omega
    simp only [Option.bind_some, pfE, List.length_append]
    rw [if_neg (by omega), hA, Nat.add_sub_cancel, List.take_left, List.drop_left]
theorem pfEs_post : ∀ (xs : List Ex) (st : List Ex), okEs xs = true → pfE (postEs xs) st = some (st ++ xs)
  | [], st, _ => by simp [postEs, pfE]
  | x :: xs, st, h => by
    simp only [okEs, Bool.and_eq_true] at h
    rw [postEs, pfE_append, pfE_post x st h.1, Option.bind_some, pfEs_post xs _ h.2, List.append_assoc]
    rfl
end
theorem postRes_post {x : Ex} (h : okE x = true) (he : eOk (flatE x) = true) : postRes (postE x) = (flatE x, 0) := by
  rw [postRes_one (pfE_post x [] h), he]; rfl


theorem postEs_take (xs : List Ex) (k : Nat) (h : k < xs.length) : postEs (xs.take (k + 1)) = postEs (xs.take k) ++ postE xs[k] := by
  rw [List.take_succ_eq_append_getElem h, postEs_append]; simp [postEs]

set_option maxRecDepth 20000 in
set_option maxHeartbeats 1000000 in
theorem postfixE (n : Nat) : ∀ (x : Ex) (w : World) (v vo : Value) (fp : List Nat) (B : Nat) (out : List Tm), (flatE x).length ≤ n → out.length + (flatE x).length ≤ 1000000 →
    R_E fp w [v] x → (∀ b ∈ fp, b < B) → B ≤ w.heap.size → w.ownsRow B 48 2 vo out.length (out.flatMap encT) →
    Calls Try.prog 47 #[v, vo] w fun e w' => (∃ v', e = .returned v' ∧ w'.ownsRow B 48 2 v' (out ++ postE x).length ((out ++ postE x).flatMap encT)) ∧ Below B w w' := by
  induction n with
  | zero => intro x w v vo fp B out hn; have := flatE_pos x; omega
  | succ n ih =>
    intro x w v vo fp B out hn hlen hR hfp hB hown
    obtain ⟨i0, hi, hz0, hz1, hz2⟩ := info_parts Try.infoT
    obtain ⟨t, args⟩ := x
    obtain ⟨b0, s, fa, rfl, rfl, c0, c1, c2, hargs⟩ := R_E_open hR
    obtain ⟨a, cap, rfl, h1, h2, hc⟩ := slP_open hargs
    unfold maxLen at h2
    simp only [flatE, List.length_cons] at hn hlen
    have hfx : ∀ k, (flatEs (args.take k)).length ≤ (flatEs args).length := flatEs_take_le args
    have HFX := Lib.hid hfx
    have HFP := Lib.hid hfp
    have HIH := Lib.hid ih
    have hb0 : b0 < B := hfp b0 (by simp)
    obtain ⟨t1, t2⟩ := t
    have HST := Lib.hid (show w.ownsRow B 48 2 vo (out ++ postEs (args.take 0)).length ((out ++ postEs (args.take 0)).flatMap encT) by simpa [postEs] using hown)
    clear hfx hfp ih hR hown
    go_enter Try.func47, Try.ntmps47
    go_wp2_with fail
    go_loopw [1, 12] (fun vv i wr => ∃ k : Nat, k ≤ args.length ∧ i = .int .i64 k ∧ Below B w wr ∧ wr.ownsRow B 48 2 vv (out ++ postEs (args.take k)).length ((out ++ postEs (args.take k)).flatMap encT)) (fun _ i _ => args.length - (intOf i).toNat)
    case atStart => exact ⟨0, Nat.zero_le _, rfl, Below.refl _ _, HST.out⟩
    case round =>
      clear HST
      obtain ⟨k, hk, rfl, hB2, hown⟩ := hrel
      by_cases hlt : k < args.length
      · obtain ⟨b, off, u, f, rfl, hbm, hbl, hcell, hsub, hr⟩ := hc k hlt
        have hbB : b < B := HFP.out b (by simp [hbm])
        have hcell' : wr.cell? ⟨b, off + k, none⟩ = some u := (hB2.cell (p := ⟨b, off + k, none⟩) hbB).trans hcell
        have hr' : R_E f wr [u] args[k] := Below.keepK R_Ek hr hB2 (fun b hb => HFP.out b (by simp [hsub b hb]))
        have hsz := hB2.size
        have hft := postEs_take args k hlt
        have q1 := HFX.out (k + 1)
        rw [flatEs_take args k hlt, List.length_append] at q1
        have S2 := Lib.hid (HIH.out args[k] wr u _ f B _ (by omega) (by simp only [List.length_append, postEs_len]; omega) hr' (fun b hb => HFP.out b (by simp [hsub b hb])) (by omega) hown)
        have HFT := Lib.hid hft
        clear hft hc hown hr hr' hcell
        go_wp2_with fail
        refine S2.out.mono ?_
        rintro e w3 ⟨⟨v3, rfl, hown3⟩, hb3⟩
        have hB3 := hB2.trans hb3
        rw [List.append_assoc, ← HFT.out] at hown3
        have HP := Lib.hid (And.intro hB3 hown3)
        clear S2 hB2 hb3 hown3 hB3
        go_wp2_with fail
        go_roundw
        case rel => exact ⟨k + 1, by omega, by go_num, HP.out.1, HP.out.2⟩
        case measure => simp [intOf]; omega
      · obtain rfl : args.length = k := by omega
        rw [List.take_length] at hown
        have c0' : wr.cell? ⟨b0, 0, none⟩ = some (ei t1) := (hB2.cell (p := ⟨b0, 0, none⟩) hb0).trans c0
        have c1' : wr.cell? ⟨b0, 1, none⟩ = some (ei t2) := (hB2.cell (p := ⟨b0, 1, none⟩) hb0).trans c1
        have hsz := hB2.size
        have hll : (out ++ postEs args).length ≤ 1000000 := by rw [List.length_append, postEs_len]; omega
        generalize hLL : (out ++ postEs args).length = LL at *
        have HLL := Lib.hid hLL
        clear hc hLL
        go_wp2_with (first
          | (at_builtin; refine wpList_append_tight _ rfl _ _ 24 rfl B 48 i0 (.agg #[.int .i64 0, .int .i64 0]) 2 16 Try.underlying24 hi hz0 hz1 hz2 rfl (by decide) _ _ _ rfl (hown.alloc _) ⟨wr.heap.size, 0, none⟩ 1 1 [ei t1, ei t2] rfl rfl ?c1 ?c2 ?c3 ?c4 ?c5 ?_)
          | fail)
        case c1 => intro j u hj; match j, hj with
                                 | 0, hj => simp at hj; subst hj; simp [Addr.add]
                                 | 1, hj => simp at hj; subst hj; simp [Addr.add]
        case c2 => intro u hu; simp at hu; rcases hu with rfl | rfl <;> rfl
        case c3 => unfold maxLen; omega
        case c4 => omega
        case c5 => simp; omega
        intro v2 w2 hown2 hg2 ht2
        have hlt2 := hown.lt
        have HP := Lib.hid (And.intro (show Below B w w2 from (hB2.alloc (by omega) _).grown hg2 (by simp; omega) (fun k hk => (hlt2 k hk).1)) (show w2.ownsRow B 48 2 v2 (out ++ postE (.mk (t1, t2) args)).length ((out ++ postE (.mk (t1, t2) args)).flatMap encT) by
          rw [postE, ← List.append_assoc, List.length_append, HLL.out]; simpa using hown2))
        clear hown2 hg2 ht2 hown hB2 hlt2
        go_wp2_with fail
        go_ret
        exact ⟨⟨_, rfl, HP.out.2⟩, HP.out.1⟩

set_option maxRecDepth 20000 in
set_option maxHeartbeats 1000000 in
theorem postfixOf (x : Ex) (v : Value) (w : World) (fp : List Nat) (hok : okE x = true) (he : eOk (flatE x) = true) (hlen : (flatE x).length ≤ 60) (hR : R_T1 fp w [v] (flatE x)) :
    Calls Try.prog 20 #[v] w fun e w' => (∃ v', e = .returned (.tuple #[v', .int .i64 0]) ∧ New R_T1 w w' v' (postE x)) ∧ Upd [] w w' := by
  have S1 := termsOk v (flatE x) w fp hR
  rw [he] at S1
  have HS1 := Lib.hid S1
  have HR := Lib.hid hR
  have HOK := Lib.hid hok
  clear S1 hR hok he
  go_enter Try.func20, Try.ntmps20
  go_wp2_with fail
  refine HS1.out.mono ?_
  rintro e w1 ⟨rfl, hu1⟩
  have S2 := Lib.hid (treeE x w1 v fp HOK.out (by omega) (R_T1k.upd HR.out hu1 (by simp)))
  have HU1 := Lib.hid hu1
  clear hu1 HS1
  go_wp2_with fail
  refine S2.out.mono ?_
  rintro e w2 ⟨⟨vt, rfl, ft, ht, -, -⟩, hu2⟩
  have S3 := Lib.hid (postfixE _ x w2 vt (.slice none 0 0) ft w2.heap.size [] (Nat.le_refl _) (by simp; omega) ht (R_Ek.lt ht) (Nat.le_refl _) (World.ownsRow_nil _ _ _ _))
  have HU2 := Lib.hid (HU1.out.trans hu2)
  clear ht hu2 S2
  go_wp2_with fail
  refine S3.out.mono ?_
  rintro e w3 ⟨⟨v3, rfl, hown⟩, hb⟩
  have hu3 : Upd [] w2 w3 := Upd.ofBelow hb
  have HN := Lib.hid (show New R_T1 w w3 v3 (postE x) from (New.ofOwns2 (w := w2) (e := 48) (by simpa using hown)).mono HU2.out.size)
  have HU3 := Lib.hid (HU2.out.trans hu3)
  clear hown hb hu3 S3
  go_wp2_with fail
  go_ret2
  exact ⟨⟨_, rfl, HN.out⟩, HU3.out⟩

end Go.Proofs.Ytnioopbficcbeaa
