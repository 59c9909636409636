/-
  What the law FnTerms draws.
-/
import Derived.Test.YtnioopbficcbeaaEvalS
namespace Go.Proofs.Ytnioopbficcbeaa
open Go.RowKit

def Terms2Out (w : World) (e : Ending) (w' : World) : Prop :=
  (∃ (v1 v2 : Value) (x y : Ex), e = .returned (.tuple #[v1, v2]) ∧ goodE 3 x = true ∧ goodE 3 y = true ∧ (flatE x).length ≤ 15 ∧ (flatE y).length ≤ 7 ∧ New R_T1 w w' v1 (flatE x) ∧ New R_T1 w w' v2 (flatE y)) ∧ Upd [] w w'

set_option maxRecDepth 20000 in
set_option maxHeartbeats 2000000 in
theorem r8Terms (v : Value) (code : List Int) (w : World) (fc : List Nat) (hR : R_B fc w [v] code) (hb : bytesOk code) (hl : code.length ≤ 1048576) :
    Calls Try.prog 23 #[v] w (Terms2Out w) := by
  have S1 := Lib.hid (srcFrom v code w fc hR hb hl)
  clear hR hb
  go_enter Try.func23, Try.ntmps23
  go_wp2_with fail
  refine S1.out.mono ?_
  rintro e w1 ⟨⟨p, rfl, hs1, hp⟩, hu1⟩
  have S2 := Lib.hid (srcPick 0 p 6 w1 (by omega) hs1 (by omega) (by omega))
  clear hs1 S1
  go_wp2_with fail
  refine S2.out.mono ?_
  rintro e w2 ⟨⟨x, rfl, hx0, hx1⟩, hs2, hu2⟩
  have S3 := Lib.hid (drawE 7 (2 + x) 3 (0 + 2) p w2 (by omega) (by omega) (by omega) (by omega) (by omega) (by omega) hs2)
  have HU2 := Lib.hid (show Upd [] w w2 from hu1.fresh hu2 (fun b hb => Or.inl (by simp at hb; omega)))
  have hp2 := hs2.lt
  clear hs2 S2 hu1 hu2
  go_wp2_with fail
  refine S3.out.mono ?_
  rintro e w3 ⟨⟨v3, z, rfl, hgz, hlz, hnz⟩, hs3, hu3⟩
  have hsz2 := HU2.out.size
  have hp3 := hs3.lt
  have S4 := Lib.hid (srcPick _ p 4 w3 (by omega) hs3 (by omega) (by omega))
  have HN3 := Lib.hid (And.intro hnz hgz)
  have HU3 := Lib.hid hu3
  clear hs3 S3 hnz hgz hu3
  go_wp2_with fail
  refine S4.out.mono ?_
  rintro e w4 ⟨⟨y, rfl, hy0, hy1⟩, hs4, hu4⟩
  have S5 := Lib.hid (drawE 3 y 3 _ p w4 (by omega) (by omega) (by omega) (by omega) (by omega) (by omega) hs4)
  have HU4 := Lib.hid hu4
  clear hs4 S4 hu4
  go_wp2_with fail
  refine S5.out.mono ?_
  rintro e w5 ⟨⟨v5, z2, rfl, hgz2, hlz2, hnz2⟩, hs5, hu5⟩
  have hpf : ∀ b ∈ [p], b < w2.heap.size := fun b hb => by simp at hb; omega
  have hz5 := R_T1k.new (R_T1k.new HN3.out.1 HU4.out hpf) hu5 hpf
  have hU5 : Upd [] w w5 := HU2.out.fresh (HU3.out.trans (HU4.out.trans hu5)) (fun b hb => Or.inl (by simp at hb; omega))
  have hsz4 : w.heap.size ≤ w4.heap.size := by have := HU3.out.size; have := HU4.out.size; omega
  have HP := Lib.hid (show Terms2Out w (.returned (.tuple #[v3, v5])) w5 from ⟨⟨v3, v5, z, z2, rfl, HN3.out.2, hgz2, by omega, by omega, hz5.mono hsz2, hnz2.mono hsz4⟩, hU5⟩)
  clear hpf hz5 hU5 hs5 hu5 hnz2 hgz2 S5
  go_wp2_with fail
  go_ret2
  exact HP.out

theorem r8Long (v v2 : Value) (code more : List Int) (w : World) (fc fm : List Nat) (hR : R_B fc w [v] code) (hR2 : R_B fm w [v2] more) (h : code.length ≤ 1048576 ∧ more.length ≤ 1048576) :
    Calls Try.prog 22 #[v, v2] w fun e w' => e = .returned (.bool false) ∧ w = w' := by
  obtain ⟨a, cap, rfl, h1, h2, -⟩ := slF1_open hR
  obtain ⟨a', cap', rfl, h1', h2', -⟩ := slF1_open hR2
  unfold maxLen at h2 h2'
  obtain ⟨g1, g2⟩ := h
  clear hR hR2
  go_enter Try.func22, Try.ntmps22
  go_wp2_with fail
  go_ret
  exact ⟨by simp; omega, rfl⟩


set_option maxRecDepth 20000 in
theorem r8At (v : Value) (code : List Int) (k n : Int) (w : World) (fc : List Nat) (hb : bytesOk code) (hk : 0 ≤ k) (hk2 : k ≤ 1000) (hn : 2 ≤ n) (hn2 : n ≤ 1000) (hR : R_B fc w [v] code) :
    Calls Try.prog 27 #[v, .int .i64 k, .int .i64 n] w fun e w' => (∃ x : Int, e = .returned (.int .i64 x) ∧ 0 ≤ x ∧ x < n) ∧ w = w' := by
  obtain ⟨a, cap, rfl, h1, h2, hc⟩ := slF1_open hR
  unfold maxLen at h2
  obtain ⟨q, rfl⟩ : ∃ q : Nat, k = q := ⟨k.toNat, by omega⟩
  by_cases hlt : q < code.length
  · obtain ⟨b1, o1, rfl, -, -, p1⟩ := hc q hlt
    have hx := hb code[q] (by simp)
    generalize code[q] = x at *
    clear hc hR hb
    go_enter Try.func27, Try.ntmps27
    go_wp2_with fail
    go_ret
    exact ⟨⟨_, rfl, Int.emod_nonneg _ (by omega), Int.emod_lt_of_pos _ (by omega)⟩, rfl⟩
  · clear hc hR hb
    go_enter Try.func27, Try.ntmps27
    go_wp2_with fail
    go_ret
    exact ⟨⟨0, rfl, by omega, by omega⟩, rfl⟩

end Go.Proofs.Ytnioopbficcbeaa
