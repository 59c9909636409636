/-
  The law FnExactInverseRelation: it returns true for every input.
-/
import Derived.Test.YtkcafdobiloeiaaRelW
namespace Go.Proofs.Ytkcafdobiloeiaa
open Go.RowKit

theorem mk2_tot_bound (n : Nat) (f : Nat → Nat → Bool) (hn : n ≤ 40) : tot (allTo n f n) ≤ 3200 := by
  have h : ∀ (L : List (List Int)), (∀ p ∈ L, p.length = 2) → tot L = 2 * L.length := by
    intro L
    induction L with
    | nil => intro _; rfl
    | cons p L ih =>
      intro hp
      have h1 := hp p (by simp)
      have h2 := ih (fun q hq => hp q (by simp [hq]))
      unfold tot at *
      simp only [List.map_cons, List.sum_cons, h1, h2, List.length_cons]; omega
  have h2 : ∀ p ∈ allTo n f n, p.length = 2 := by
    intro p hp
    simp only [allTo, rowTo, List.mem_flatMap] at hp
    obtain ⟨a, -, j, -, hp⟩ := hp
    split at hp
    · simp at hp; subst hp; rfl
    · simp at hp
  rw [h _ h2]
  have := allTo_length n f n
  have : n * n ≤ 40 * 40 := Nat.mul_le_mul hn hn
  omega

theorem invRes_tot (n : Int) (r : List (List Int)) : tot (invRes n r).1 ≤ 3200 := by
  unfold invRes
  split
  · rename_i h; exact mk2_tot_bound _ _ (by have := relB_n h; omega)
  · simp [tot]

theorem beq_refl_true {α : Type} [BEq α] [LawfulBEq α] (a : α) : (a == a) = true := by simp

set_option maxHeartbeats 1000000 in
theorem lawInv (n : Int) (xs : List (List Int)) (v : Value) (w : World) (fp : List Nat) (hn1 : -9223372036854775808 ≤ n) (hn2 : n ≤ 9223372036854775807) (hR : R2 fp w [v] xs) :
    Calls Try.prog 4 #[.int .i64 n, v] w fun e w' => e = .returned (.bool true) ∧ Upd [] w w' := by
  have hT := invRes_tot n xs
  go_enter Try.func4, Try.ntmps4
  go_wp2_with fail
  refine (sz2 v xs _ _ fp (by omega) (by omega) hR).mono ?_
  rintro e w' ⟨⟨r, rfl, hr⟩, rfl⟩
  rcases hr with rfl | ⟨hr0, hr1⟩
  · go_wp2_with fail
    go_ret
    exact ⟨rfl, Upd.refl _ _⟩
  · have htn := tot_nonneg xs
    have hl : xs.length + tot xs ≤ 1048576 := by omega
    clear hr1
    generalize hG : invRes n xs = G at *
    have HG := Lib.hid hG
    clear hG
    go_wp2_with fail
    refine (to2 v xs _ fp hl hR).mono ?_
    rintro e w1 ⟨⟨va, rfl, fa, ra, oa, ga⟩, u1⟩
    have S2 := invSpec n xs va _ fa ra
    rw [HG.out] at S2
    go_wp2_with fail
    refine S2.mono ?_
    clear S2
    rintro e w2 ⟨⟨vw, rfl, fw, rw0, ow, gw⟩, u2⟩
    have u12 := u1.trans u2
    clear ra oa ga u1
    go_wp2_with fail
    refine (to2 v xs _ fp hl (R2k.upd hR u12 (by simp))).mono ?_
    rintro e w3 ⟨⟨vx, rfl, fx, rx, ox, gx⟩, u3⟩
    have S2 := invImpl n xs vx _ fx hn1 hn2 rx
    rw [HG.out] at S2
    go_wp2_with fail
    refine S2.mono ?_
    clear S2
    rintro e w4 ⟨⟨vg, rfl, fg, rg, og, gg⟩, u4⟩
    have hc0 : (G.2 != G.2) = false := by simp
    have u04 := (u12.trans u3).trans u4
    have rw4 := R2k.upd rw0 (u3.trans u4) (by simp)
    have rx4 := R2k.upd rx u4 (by simp)
    have ox4 := ox.upd u4 (by simp)
    have dWX : ∀ b ∈ fw, b ∉ fx := fun b hb hm => by have := ow.lt b hb; have := gx b hm; omega
    have dWG : ∀ b ∈ fw, b ∉ fg := fun b hb hm => by have := ow.lt b hb; have := gg b hm; have := u3.size; omega
    have dGX : ∀ b ∈ fg, b ∉ fx := fun b hb hm => by have := ox.lt b hm; have := gg b hb; omega
    have lx : ∀ b ∈ fx, w.heap.size ≤ b ∨ b ∈ ([] : List Nat) := fun b hb => Or.inl (by have := gx b hb; have := u12.size; omega)
    have lg : ∀ b ∈ fg, w.heap.size ≤ b ∨ b ∈ ([] : List Nat) := fun b hb => Or.inl (by have := gg b hb; have := u3.size; have := u12.size; omega)
    have HD := Lib.hid (And.intro dWX (And.intro dWG (And.intro dGX (And.intro lx lg))))
    clear dWX dWG dGX lx lg rw0 rx ox ow gx gg gw u12 u3 u4 u2
    -- the result is the reference's
    go_wp2_with fail
    refine (eq2 vg vw _ _ _ fg fw rg rw4).mono ?_
    rintro e w5 ⟨rfl, d5, e5⟩
    have u5 : Upd [] w4 w5 := by rw [e5]; exact (Upd.refl _ _).drewN _
    clear e5
    rw [beq_refl_true]
    have u05 := u04.trans u5
    have rw5 := R2k.upd rw4 u5 (by simp)
    have rx5 := R2k.upd rx4 u5 (by simp)
    have rg5 := R2k.upd rg u5 (by simp)
    have ox5 := ox4.upd u5 (by simp)
    have og5 := og.upd u5 (by simp)
    clear rw4 rx4 rg ox4 og u04 u5
    -- the argument reads as it did
    go_wp2_with fail
    refine (to2 v xs _ fp hl (R2k.upd hR u05 (by simp))).mono ?_
    rintro e w6 ⟨⟨vb, rfl, fb, rb, ob, gb⟩, u6⟩
    go_wp2_with fail
    refine (eq2 vx vb _ _ _ fx fb (R2k.upd rx5 u6 (by simp)) rb).mono ?_
    rintro e w7 ⟨rfl, d7, e7⟩
    have u7 : Upd [] w5 w7 := by rw [e7]; exact u6.drewN _
    clear e7
    rw [beq_refl_true]
    have u07 := u05.trans u7
    have rw7 := R2k.upd rw5 u7 (by simp)
    have rx7 := R2k.upd rx5 u7 (by simp)
    have rg7 := R2k.upd rg5 u7 (by simp)
    have ox7 := ox5.upd u7 (by simp)
    have og7 := og5.upd u7 (by simp)
    clear rw5 rx5 rg5 ox5 og5 u05 u7 rb ob gb u6
    -- the argument is written over
    go_wp2_with fail
    refine (mark2 vx xs _ _ fx (by omega) (by omega) rx7 ox7).mono ?_
    rintro e w8 ⟨rfl, rx8, ox8, u8⟩
    have u08 := u07.fresh u8 HD.out.2.2.2.1
    have rw8 := R2k.upd rw7 u8 HD.out.1
    have rg8 := R2k.upd rg7 u8 HD.out.2.2.1
    have og8 := og7.upd u8 HD.out.2.2.1
    clear rw7 rx7 rg7 ox7 og7 u07 u8 rx8 ox8
    have hk : 0 ≤ 1 + tot xs := by omega
    go_wp2_with fail
    refine (eq2 vg vw _ _ _ fg fw rg8 rw8).mono ?_
    rintro e w9 ⟨rfl, d9, e9⟩
    have u9 : Upd [] w8 w9 := by rw [e9]; exact (Upd.refl _ _).drewN _
    clear e9
    rw [beq_refl_true]
    have u09 := u08.trans u9
    have rw9 := R2k.upd rw8 u9 (by simp)
    have rg9 := R2k.upd rg8 u9 (by simp)
    have og9 := og8.upd u9 (by simp)
    clear rw8 rg8 og8 u08 u9
    -- the result is written over
    have htg := tot_nonneg G.1
    go_wp2_with fail
    refine (mark2 vg G.1 _ _ fg (by omega) (by omega) rg9 og9).mono ?_
    rintro e w10 ⟨rfl, rg10, og10, u10⟩
    have u010 := u09.fresh u10 HD.out.2.2.2.2
    have rw10 := R2k.upd rw9 u10 HD.out.2.1
    clear rw9 rg9 og9 u09 u10
    have hk2 : 0 ≤ 1 + tot G.1 := by omega
    have hne : ((1 + tot G.1) != (1 + tot G.1)) = false := by simp
    go_wp2_with fail
    refine (held2 vg G.1 _ _ fg (by omega) (by omega) rg10).mono ?_
    rintro e w11 ⟨rfl, rfl⟩
    -- another call
    go_wp2_with fail
    refine (to2 v xs _ fp hl (R2k.upd hR u010 (by simp))).mono ?_
    rintro e w12 ⟨⟨vc, rfl, fc, rc, oc, gc⟩, u12⟩
    have S2 := invImpl n xs vc _ fc hn1 hn2 rc
    rw [HG.out] at S2
    go_wp2_with fail
    refine S2.mono ?_
    clear S2
    rintro e w13 ⟨⟨vh, rfl, fh, rh, oh, gh⟩, u13⟩
    have u1213 := u12.trans u13
    have u013 := u010.trans u1213
    have rw13 := R2k.upd rw10 u1213 (by simp)
    have rg13 := R2k.upd rg10 u1213 (by simp)
    clear rw10 rg10 og10 u010 u12 u13 u1213 rc oc gc oh gh
    go_wp2_with fail
    refine (eq2 vh vw _ _ _ fh fw rh rw13).mono ?_
    rintro e w14 ⟨rfl, d14, e14⟩
    have u14 : Upd [] w13 w14 := by rw [e14]; exact (Upd.refl _ _).drewN _
    clear e14
    rw [beq_refl_true]
    have u014 := u013.trans u14
    have rg14 := R2k.upd rg13 u14 (by simp)
    clear rw13 rg13 rh u013 u14
    go_wp2_with fail
    refine (held2 vg G.1 _ _ fg (by omega) (by omega) rg14).mono ?_
    rintro e w15 ⟨rfl, rfl⟩
    go_wp2_with fail
    go_ret
    exact ⟨rfl, u014⟩

end Go.Proofs.Ytkcafdobiloeiaa
