/-
  A number in decimal: the reference's digits.
-/
import Derived.Test.YtnfghgaadnobbaaGreatDoorProg
import Derived.Test.YtnfghgaadnobbaaGreatDoorLib2
import Derived.Lib.ItoaNum
import Derived.Laws.IdiomStrings
namespace Go.Proofs.YtnfghgaadnobbaaGreatDoor
open Go.RowKit

abbrev es (l : List UInt8) : Value := .string ⟨l.toArray⟩
abbrev eb (b : UInt8) : Value := .int .u8 (b.toNat : Int)

theorem Tryz.infoU8 : (Tryz.prog.info? 5).map (fun i => (i.zero, i.size, i.bytes)) = some (some (.int .u8 0), 1, 1) := by kernel_rfl

/-- a row of bytes, as a string. -/
theorem str_own {P : Program} (S D e : TypeId) (hs : P.underlying S = some (.slice e)) (he : P.underlying e = some (.int .u8)) (hd : P.underlying D = some .string) {w : World} {base : Nat} {v : Value} {l : List UInt8}
    (h : w.ownsRow base e 1 v l.length (l.map eb)) (h0 : 0 < l.length) :
    ∃ g cap, v = .slice (some ⟨g, 0, none⟩) l.length cap ∧ (convert S D (.slice (some ⟨g, 0, none⟩) l.length cap)).run P w = .ok (es l) w := by
  rcases h.2 with ⟨-, h1⟩ | ⟨g, cap, cur, rfl, -⟩
  · omega
  · refine ⟨g, cap, rfl, run_convert_bytes_back w S D e ⟨g, 0, none⟩ cap l hs he hd fun j hj => ?_⟩
    rw [addr_add, Nat.zero_add, h.cellAt j (by omega)]
    simp [hj]

theorem dig_step (M : Nat) (h : 0 < M) (D : List UInt8) : (if M / 10 = 0 then [] else Lib.decDigits (M / 10)) ++ (D ++ [UInt8.ofNat (48 + M % 10)]).reverse = (Lib.decDigits M) ++ D.reverse := by
  rw [List.reverse_append]
  simp only [List.reverse_cons, List.reverse_nil, List.nil_append, List.singleton_append]
  by_cases h10 : M < 10
  · rw [if_pos (by omega), Lib.decDigits, dif_pos h10, show M % 10 = M by omega]; rfl
  · rw [if_neg (by omega)]
    conv => rhs; rw [Lib.decDigits, dif_neg h10]
    simp

set_option maxRecDepth 20000 in
set_option maxHeartbeats 2000000 in
theorem l01DecP (N : Nat) (w : World) (hN : N ≤ 9223372036854775807) :
    Calls Tryz.prog 29 #[.int .i64 N] w fun e w' => e = .returned (es (Lib.itoa N)) ∧ Upd [] w w' := by
  obtain ⟨i1, ki, kz0, kz1, kz2⟩ := info_parts Tryz.infoU8
  by_cases h0 : N = 0
  · subst h0
    go_enter Tryz.func29, Tryz.ntmps29
    go_wp2_with fail
    go_ret
    exact ⟨by simp [Lib.itoa, Lib.decDigits], Upd.refl _ _⟩
  · have hres : Lib.itoa N = Lib.decDigits N := by simp [Lib.itoa]
    rw [hres]
    have hlit := World.ownsRow_lit (base := w.heap.size) (e := 5) (size := 1) w #[] 0 (Nat.le_refl _) (by simp [maxLen]) (by simp)
    have HLIT := Lib.hid hlit
    clear hres hlit
    go_enter Tryz.func29, Tryz.ntmps29
    go_wp2_with fail
    go_loopw [3, 4] (fun dv mv wr => ∃ (M k : Nat) (D : List UInt8), mv = .int .i64 M ∧ M ≤ N ∧ D.length + k = 20 ∧ M < 10 ^ k ∧ Hid ((if M = 0 then [] else Lib.decDigits M) ++ D.reverse = Lib.decDigits N) ∧ Upd [] w wr ∧ Hid (wr.ownsRow w.heap.size 5 1 dv D.length (D.map eb))) (fun _ mv _ => (intOf mv).toNat)
    case atStart => exact ⟨N, 20, [], rfl, Nat.le_refl _, rfl, by omega, Lib.hid (by simp [h0]), (Upd.refl _ _).alloc _, HLIT⟩
    case round =>
      clear HLIT
      obtain ⟨M, k, D, rfl, hM, hk, hlt, HD, hU, hown⟩ := hrel
      by_cases hM0 : M = 0
      · subst hM0
        have hD : D.reverse = Lib.decDigits N := by simpa using HD.out
        have hDl : D.length ≤ 20 := by omega
        have HU := Lib.hid hU
        have hlitF := fun (w' : World) => World.ownsRow_lit (base := w'.heap.size) (e := 5) (size := 1) w' #[] 0 (Nat.le_refl _) (by simp [maxLen]) (by simp)
        have HD2 := Lib.hid hD
        have hown1 := hown.out
        obtain ⟨ad, cd, hvd⟩ := ownsRow_form hown1
        subst hvd
        clear hU hlt hM HD hD
        have HLF := Lib.hid (hlitF wr)
        clear hlitF hown
        have HO := Lib.hid hown1
        clear hown1
        go_wp2_with fail
        go_loopw [6, 7] (fun ov iv wi => ∃ k : Nat, k ≤ D.length ∧ iv = .int .i64 ((k : Int) - 1) ∧ Upd [] wr wi ∧ Hid (wi.ownsRow wr.heap.size 5 1 ov (D.drop k).length ((D.drop k).reverse.map eb))) (fun _ iv _ => (intOf iv + 1).toNat)
        case atStart => exact ⟨D.length, Nat.le_refl _, rfl, (Upd.refl _ _).alloc _, Lib.hid (by simpa using HLF.out)⟩
        case round =>
          clear HLF
          obtain ⟨k2, hk2, rfl, hu, ho⟩ := hrel
          have HUI := Lib.hid hu
          by_cases hk0 : k2 = 0
          · subst hk0
            have hone : 0 < D.reverse.length := by rw [HD2.out, Lib.decDigits_length]; exact Lib.nDigits_pos N
            have ho' := ho.out
            rw [List.drop_zero] at ho'
            obtain ⟨g, cap, hvo, hcv⟩ := str_own (P := Tryz.prog) 85 9 5 Tryz.underlying85 Tryz.underlying5 Tryz.underlying9 (by simpa using ho') hone
            rw [List.length_reverse] at hvo hcv
            rw [HD2.out] at hcv
            subst hvo
            have HU2 := Lib.hid (HU.out.trans hu)
            clear hu ho ho' hone
            go_wp2_with fail
            go_ret
            exact ⟨rfl, HU2.out⟩
          · obtain ⟨q, rfl⟩ : ∃ q, k2 = q + 1 := ⟨k2 - 1, by omega⟩
            have hown2 := ownsRow_upd HO.out hu
            have hql : q < D.length := by omega
            obtain ⟨fd, rd, -, -⟩ := New.ofOwns (w := w) (e := 5) (enc := eb) hown2
            obtain ⟨a9, c9, hv9, m1, m2, hc9⟩ := slF1_open rd
            obtain ⟨b9, o9, hb9, -, -, hc9⟩ := hc9 q hql
            simp only [Value.slice.injEq] at hv9
            obtain ⟨rfl, -, rfl⟩ := hv9
            subst hb9
            unfold maxLen at m2
            have hstep : (D.drop q).reverse = (D.drop (q + 1)).reverse ++ [D[q]] := by rw [List.drop_eq_getElem_cons hql, List.reverse_cons]
            have HST := Lib.hid hstep
            have hdl : (D.drop q).length = (D.drop (q + 1)).length + 1 := by simp; omega
            have HDL := Lib.hid hdl
            have hdl2 : (D.drop (q + 1)).length ≤ 20 := by simp; omega
            have ho1 := ho.out
            have hszi := hu.size
            generalize D[q] = bq at *
            generalize (D.drop (q + 1)).length = DL at *
            clear hstep hdl hown2 rd hu ho
            go_wp2_with (first
              | (at_builtin; refine wpList_append_tight _ rfl _ _ 85 rfl _ 5 i1 (.int .u8 0) 1 1 Tryz.underlying85 ki kz0 kz1 kz2 rfl (by decide) _ _ _ rfl (ho1.alloc _) ⟨wr.heap.size, 0, none⟩ 1 1 [eb bq] rfl rfl (fun j u hj => by rw [addr_add]; exact cell_new wr #[eb bq] _ _ rfl _ _ (by simpa using hj)) (by simp [Value.oneCell']) (by unfold maxLen; omega) (by omega) (by simp; omega) ?_)
              | fail)
            intro v4 w4 hown4 hg4 ht4
            have hu4 := (HUI.out.alloc _).grown hg4 (fun b hb => Or.inl ((ho1.lt b hb).1))
            have HP := Lib.hid (And.intro hown4 hu4)
            clear hown4 hg4 ht4 hu4 ho1
            go_wp2_with fail
            go_roundw
            case rel => exact ⟨q, by omega, by go_num, HP.out.2, Lib.hid (by rw [HDL.out, HST.out]; simpa using HP.out.1)⟩
            case measure => simp [intOf]
      · have HK := Lib.hid (And.intro hk hlt)
        have hkp : 1 ≤ k := by
          rcases Nat.eq_zero_or_pos k with h | h
          · subst h; simp at hlt; omega
          · exact h
        have hst := dig_step M (by omega) D
        have HS := Lib.hid (show (if M / 10 = 0 then [] else Lib.decDigits (M / 10)) ++ (D ++ [UInt8.ofNat (48 + M % 10)]).reverse = Lib.decDigits N by
          rw [hst]; have := HD.out; rwa [if_neg hM0] at this)
        have hb : eb (UInt8.ofNat (48 + M % 10)) = .int .u8 (48 + (M : Int) % 10) := by
          simp only [Value.int.injEq, true_and]
          rw [UInt8.toNat_ofNat_of_lt' (by show 48 + M % 10 < 256; omega)]; omega
        have HB := Lib.hid hb
        have hown1 := hown.out
        have HU := Lib.hid hU
        have hsz := hU.size
        clear hlt hst hb HD hown hU
        go_wp2_with (first
          | (at_builtin; refine wpList_append_tight _ rfl _ _ 85 rfl w.heap.size 5 i1 (.int .u8 0) 1 1 Tryz.underlying85 ki kz0 kz1 kz2 rfl (by decide) _ _ _ rfl (hown1.alloc _) ⟨wr.heap.size, 0, none⟩ 1 1 [.int .u8 (48 + (M : Int) % 10)] rfl rfl (fun j u hj => by rw [addr_add]; exact cell_new wr #[.int .u8 (48 + (M : Int) % 10)] _ _ rfl _ _ (by simpa using hj)) (by simp [Value.oneCell']) (by unfold maxLen; omega) (by omega) (by simp; omega) ?_)
          | fail)
        intro v4 w4 hown4 hg4 ht4
        have hu4 : Upd [] w w4 := (HU.out.alloc _).grown hg4 (fun b hb => Or.inl ((hown1.lt b hb).1))
        have HP := Lib.hid (And.intro hown4 hu4)
        clear hown4 hg4 ht4 hu4 hown1
        go_wp2_with fail
        go_roundw
        case rel =>
          refine ⟨M / 10, k - 1, D ++ [UInt8.ofNat (48 + M % 10)], by go_num, by omega, by simp; omega, ?_, Lib.hid HS.out, HP.out.2, Lib.hid (by rw [List.length_append, List.map_append, List.map_cons, List.map_nil, HB.out]; exact HP.out.1)⟩
          have := HK.out.2
          obtain ⟨q, rfl⟩ : ∃ q, k = q + 1 := ⟨k - 1, by omega⟩
          rw [Nat.pow_succ] at this
          simp; omega
        case measure => simp [intOf]; omega

end Go.Proofs.YtnfghgaadnobbaaGreatDoor
