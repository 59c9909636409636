/-
  The source of choices of the reference: what its calls return, and what they leave.
-/
import Derived.Test.YtnfghgaadnobbaaGreatDoorRel
import Derived.Test.YtnfghgaadnobbaaGreatDoorLib2
import Derived.Laws.Bits64b
namespace Go.Proofs.YtnfghgaadnobbaaGreatDoor
open Go.RowKit

abbrev R_B : Rp (List Int) := slF 1 (fun n => [Value.int .u8 n])
theorem R_Bk : Kept R_B := slF_kept _ _
def bytesOk (xs : List Int) : Prop := ∀ x ∈ xs, 0 ≤ x ∧ x ≤ 255

/-- the source at block p, behind at most N choices. -/
def IsSrc (N p : Nat) (w : World) : Prop := ∃ (cv : Value) (code : List Int) (fc : List Nat) (at' seed : Int), w.cell? ⟨p, 0, none⟩ = some cv ∧ w.cell? ⟨p, 1, none⟩ = some (ei at') ∧ w.cell? ⟨p, 2, none⟩ = some (.int .u64 seed) ∧
  R_B fc w [cv] code ∧ bytesOk code ∧ code.length ≤ 1048576 ∧ 0 ≤ at' ∧ at' ≤ N ∧ 0 ≤ seed ∧ seed ≤ 18446744073709551615 ∧ Own [p] w ∧ ∀ c ∈ fc, c < p

theorem IsSrc.mono {N M p : Nat} {w : World} (h : IsSrc N p w) (hNM : N ≤ M) : IsSrc M p w := by
  obtain ⟨cv, code, fc, a, s, h1, h2, h3, h4, h5, h6, h7, h8, h9⟩ := h
  exact ⟨cv, code, fc, a, s, h1, h2, h3, h4, h5, h6, h7, by omega, h9⟩
theorem IsSrc.lt {N p : Nat} {w : World} (h : IsSrc N p w) : p < w.heap.size := by
  obtain ⟨cv, code, fc, a, s, h1, -⟩ := h; exact World.block_lt_of_cell? w _ h1
theorem IsSrc.upd {N p : Nat} {w w1 : World} (h : IsSrc N p w) (hu : Upd [] w w1) : IsSrc N p w1 := by
  obtain ⟨cv, code, fc, a, s, h1, h2, h3, h4, h5, h6, h7, h8, h9, h10, h11, h12⟩ := h
  exact ⟨cv, code, fc, a, s, hu.keep h1, hu.keep h2, hu.keep h3, R_Bk.upd h4 hu (by simp), h5, h6, h7, h8, h9, h10, h11.upd hu (by simp), h12⟩

/-- the source is kept where newer blocks are written. -/
theorem IsSrc.other {N p : Nat} {w w1 : World} {f : List Nat} (h : IsSrc N p w) (hu : Upd f w w1) (hf : ∀ b ∈ f, p < b) : IsSrc N p w1 := by
  have hpf : p ∉ f := fun hm => by have := hf p hm; omega
  obtain ⟨cv, code, fc, a, s, h1, h2, h3, h4, h5, h6, h7, h8, h9, h10, h11, h12⟩ := h
  have hb := hu.block p (World.block_lt_of_cell? w _ h1) hpf
  exact ⟨cv, code, fc, a, s, (World.cell?_of_block (a := ⟨p, 0, none⟩) hb).trans h1, (World.cell?_of_block (a := ⟨p, 1, none⟩) hb).trans h2, (World.cell?_of_block (a := ⟨p, 2, none⟩) hb).trans h3,
    R_Bk.upd h4 hu (fun b hb hm => by have := hf b hm; have := h12 b hb; omega), h5, h6, h7, h8, h9, h10, h11.upd hu (by simpa using hpf), h12⟩

theorem R_Bk_set {fp : List Nat} {w : World} {v : Value} {xs : List Int} {p : Nat} (h : R_B fp w [v] xs) (hp : p ∉ fp) (o : Nat) (u : Value) : R_B fp (w.setCell ⟨p, o, none⟩ u) [v] xs :=
  R_Bk.upd h (f := [p]) ((Upd.refl _ _).setCell (by simp) _) (fun b hb hm => by simp at hm; subst hm; exact hp hb)

theorem wrap_u64_bd (n : Int) : 0 ≤ IntKind.u64.wrap n ∧ IntKind.u64.wrap n ≤ 18446744073709551615 := by rw [IntKind.wrap_u64]; omega

theorem and255 (Z : Int) (h : 0 ≤ Z ∧ Z ≤ 18446744073709551615) : 0 ≤ wrap64 (bits BinOp.and IntKind.u64 (Z / 1099511627776) 255) ∧ wrap64 (bits BinOp.and IntKind.u64 (Z / 1099511627776) 255) ≤ 255 := by
  obtain ⟨n, hn⟩ : ∃ n : Nat, Z / 1099511627776 = n := ⟨(Z / 1099511627776).toNat, by omega⟩
  have e := bits_and_u64_nat n 255 (by omega) (by omega)
  rw [hn, show (255 : Int) = ((255 : Nat) : Int) from rfl, e]
  have h2 : n &&& 255 ≤ 255 := Nat.and_le_right
  rw [IntWalk.wrap64_in _ (by omega)]
  omega

theorem srcSet {p : Nat} {w : World} {cv : Value} {code : List Int} {fc : List Nat} {at' seed : Int} (hown : Own [p] w) (hpf0 : ∀ c ∈ fc, c < p) (hcode : R_B fc w [cv] code) (hbs : bytesOk code) (hcl : code.length ≤ 1048576)
    (c0 : w.cell? ⟨p, 0, none⟩ = some cv) (c1 : w.cell? ⟨p, 1, none⟩ = some (ei at')) (c2 : w.cell? ⟨p, 2, none⟩ = some (.int .u64 seed)) (_hs0 : 0 ≤ seed) (_hs1 : seed ≤ 18446744073709551615)
    (N q : Nat) (hq : q ≤ N) (Z : Int) (hZ : 0 ≤ Z ∧ Z ≤ 18446744073709551615) (n : Nat) :
    IsSrc (N + 1) p ((((w.drewN n).setCell ⟨p, 1, none⟩ (.int .i64 ((q : Int) + 1))).setCell ⟨p, 2, none⟩ (.int .u64 Z))) ∧ Upd [p] w ((((w.drewN n).setCell ⟨p, 1, none⟩ (.int .i64 ((q : Int) + 1))).setCell ⟨p, 2, none⟩ (.int .u64 Z))) := by
  have hu : Upd [p] w ((((w.drewN n).setCell ⟨p, 1, none⟩ (.int .i64 ((q : Int) + 1))).setCell ⟨p, 2, none⟩ (.int .u64 Z))) := (((Upd.refl [p] w).drewN n).setCell (by simp) _).setCell (by simp) _
  refine ⟨⟨cv, code, fc, (q : Int) + 1, Z, ?_, ?_, ?_, R_Bk.upd hcode hu (fun b hb hm => by simp at hm; subst hm; have := hpf0 _ hb; omega), hbs, hcl, by omega, by omega, hZ.1, hZ.2, ?_, hpf0⟩, hu⟩
  · rw [World.cell?_setCell_other _ _ _ _ (by simp), World.cell?_setCell_other _ _ _ _ (by simp)]; exact c0
  · rw [World.cell?_setCell_other _ _ _ _ (by simp)]; exact World.cell?_setCell_same _ _ _ (show (w.drewN n).cell? ⟨p, 1, none⟩ = some (ei at') from c1)
  · exact World.cell?_setCell_same _ _ _ (show ((w.drewN n).setCell ⟨p, 1, none⟩ (.int .i64 ((q : Int) + 1))).cell? ⟨p, 2, none⟩ = some (.int .u64 seed) from by
      rw [World.cell?_setCell_other _ _ _ _ (by simp)]; exact c2)
  · exact ((show Own [p] (w.drewN n) from hown).setCell _ _).setCell _ _

/-- what a call of the source leaves: N' more choices at most. -/
def SrcAt (N p : Nat) (w : World) (P : Int → Prop) (e : Ending) (w' : World) : Prop := (∃ x : Int, e = .returned (.int .i64 x) ∧ P x) ∧ IsSrc N p w' ∧ Upd [p] w w'

end Go.Proofs.YtnfghgaadnobbaaGreatDoor
