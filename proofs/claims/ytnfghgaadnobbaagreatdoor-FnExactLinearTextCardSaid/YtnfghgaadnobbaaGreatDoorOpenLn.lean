/-
  The form's reading of linear processes.
-/
import Derived.Test.YtnfghgaadnobbaaGreatDoorHarnLn
import Derived.Test.YtnfghgaadnobbaaGreatDoorOpenQ
import Derived.Lib.SmallJoins
import Derived.Deep.Strs
namespace Go.Proofs.YtnfghgaadnobbaaGreatDoor
open Go.RowKit Go.ChangeShapes Go.WideShapes Go.Deep

theorem opens_I1 : Opens Tryz.prog 22 R_I1 (fun xs => ∀ x ∈ xs, (Lit.int .i64 x).wf = true) := opens_ints Tryz.underlying22 Tryz.underlying2 (by kernel_rfl)
theorem opens_T2 : Opens Tryz.prog 58 R_T2 (fun xss => ∀ xs ∈ xss, ∀ t ∈ xs, (Lit.int .i64 t.1).wf = true ∧ (Lit.int .i64 t.2).wf = true) := opens_slP Tryz.underlying58 (by kernel_rfl) opens_T1

set_option maxRecDepth 20000 in
theorem opens_Sm : Opens Tryz.prog 60 R_Sm SmOk := by
  intro H enc w fuel cs x hx
  obtain ⟨y0, y1, y2, y3, y4, n, hl, h0, h1, h2, h3, h4⟩ := trod_struct5 Tryz.underlying60 hx
  rw [show Tryz.prog.cellsOf 60 = 5 by kernel_rfl] at hl
  match cs, hl with
  | [a, b, c, d, e], _ =>
    have c1 : Tryz.prog.cellsOf 22 = 1 := by kernel_rfl
    have c2 : Tryz.prog.cellsOf 57 = 1 := by kernel_rfl
    have c3 : Tryz.prog.cellsOf 9 = 1 := by kernel_rfl
    have c4 : Tryz.prog.cellsOf 58 = 1 := by kernel_rfl
    obtain ⟨s, e2, -, hs⟩ := DataW.trod_string Tryz.underlying9 h2
    simp [c1, c2, c3, c4] at h0 h1 e2 h3 h4
    obtain ⟨sums, f0, r0, -⟩ := opens_I1 h0
    obtain ⟨guard, f1, r1, -⟩ := opens_T1 h1
    obtain ⟨args, f3, r3, -⟩ := opens_T2 h3
    obtain ⟨next, f4, r4, -⟩ := opens_T2 h4
    refine ⟨⟨sums, guard, s.data.toList, args, next⟩, f0 ++ (f1 ++ (f3 ++ f4)), ⟨a, b, d, e, f0, f1, f3, f4, by rw [e2], r0, r1, r3, r4, rfl⟩, ?_⟩
    show s.data.toList.length ≤ 9223372036854775807
    have : s.data.toList.length ≤ maxLen := hs
    simp only [maxLen] at this
    omega
theorem opens_Sm1 : Opens Tryz.prog 23 R_Sm1 Sm1Ok := opens_slQ Tryz.underlying23 (by kernel_rfl) (by decide) opens_Sm

set_option maxRecDepth 20000 in
theorem open_Ln {H : Type} {enc : TypeId × Value → H} {w : World} {v : Value} {d : DataW H} {ps : List MemPlace} (hv : ∃ cs, v = .agg cs ∧ cs.size = Tryz.prog.cellsOf 25)
    (hd : DataW.Trod enc Tryz.prog w 0 (fun _ => true) true 25 v d ps) : ∃ x fp cs, v = .agg cs.toArray ∧ R_Ln fp w cs x ∧ LnOk x := by
  obtain ⟨cs, rfl, hcs⟩ := hv
  rw [show Tryz.prog.cellsOf 25 = 3 by kernel_rfl] at hcs
  obtain ⟨l, rfl⟩ : ∃ l : List Value, cs = l.toArray := ⟨cs.toList, by simp⟩
  match l, hcs with
  | [a, b, c], _ =>
    obtain ⟨fuel, hf⟩ := hd
    obtain ⟨y0, y1, y2, n, -, -, h0, h1, h2⟩ := trod_struct3 Tryz.underlying25 hf
    obtain ⟨s, e0, -, -⟩ := DataW.trod_int Tryz.underlying2 h0
    have c1 : Tryz.prog.cellsOf 2 = 1 := by kernel_rfl
    have c2 : Tryz.prog.cellsOf 22 = 1 := by kernel_rfl
    have c3 : Tryz.prog.cellsOf 23 = 1 := by kernel_rfl
    simp [c1, c2, c3, Value.cells] at e0 h1 h2
    obtain ⟨start, f1, r1, -⟩ := opens_I1 h1
    obtain ⟨sms, f2, r2, g2⟩ := opens_Sm1 h2
    exact ⟨⟨s, start, sms⟩, f1 ++ f2, [a, b, c], rfl, ⟨b, c, f1, f2, by rw [e0], r1, r2, rfl⟩, g2⟩

end Go.Proofs.YtnfghgaadnobbaaGreatDoor
