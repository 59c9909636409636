/-
  Texts joined in one file: DfP, ScP, DfV, HarnS, LabI, LabE, LabSp, OrdS, NamI, SysP, DfT, DfVd, DfQ, SyT, ConE, IdxI, FirstP, CmpS, ExpM, Canon, TextS, LtS, SyN, LabSn, LabSv, LabSq, LabSw, DatS, Cells, StkG, StkB, DfA, Lib5, Laid, OpenQ, OpenW, OpenB, OpenC.
-/
import Derived.Test.YtijmkcnipflpbaaGreatDoorZL1
import Derived.Deep.RegionHeld3
import Derived.Test.YtijmkcnipflpbaaGreatDoorShelf
import Derived.Deep.AppendLies
import Derived.Deep.RegionLaw
import Derived.Lib.LaidTab
import Derived.Lib.LaidU8
import Derived.OpenShut
/-
  Definitions of processes and their texts, plainly.
-/
namespace Go.Proofs.YtijmkcnipflpbaaGreatDoor
open Go.RowKit

/-- a part of a body. -/
structure Pa where
  kind : Int
  num : Int
  name : List UInt8
  args : List (List Tm)
deriving DecidableEq
/-- a definition. -/
structure De where
  name : List UInt8
  pars : Int
  body : List Pa
deriving DecidableEq

/-- how many parts follow a part. -/
def folP (p : Pa) : Int := if p.kind = 1 ∨ p.kind = 3 ∨ p.kind = 4 then 1 else if p.kind = 2 then 2 else 0
theorem folP_nn (p : Pa) : 0 ≤ folP p := by unfold folP; split <;> (try split) <;> omega
theorem folP_le (p : Pa) : folP p ≤ 2 := by unfold folP; split <;> (try split) <;> omega
def sumP (p : Pa) : Bool := p.kind == 4
def chP : Tr Pa → Bool
  | .mk p _ => p.kind == 2

mutual
/-- the text of a part with all that belong to it; the definitions' names are given. -/
noncomputable def pT (ns : List (List UInt8)) : Tr Pa → List UInt8
  | .mk p args =>
    if p.kind = 1 then ((p.name ++ argsTxt p.args) ++ [46]) ++ par ((args.map chP).getD 0 false) ((pTs ns args).getD 0 [])
    else if p.kind = 2 then (par ((args.map chP).getD 0 false) ((pTs ns args).getD 0 []) ++ [32, 43, 32]) ++ (pTs ns args).getD 1 []
    else if p.kind = 3 then (([91] ++ expT (p.args.getD 0 [])) ++ [93]) ++ par ((args.map chP).getD 0 false) ((pTs ns args).getD 0 [])
    else if p.kind = 4 then (([115, 117, 109, 32] ++ Lib.itoa p.num) ++ [46]) ++ par ((args.map chP).getD 0 false) ((pTs ns args).getD 0 [])
    else if p.kind = 5 then ns.getD p.num.toNat [] ++ argsTxt p.args
    else [48]
noncomputable def pTs (ns : List (List UInt8)) : List (Tr Pa) → List (List UInt8)
  | [] => []
  | x :: xs => pT ns x :: pTs ns xs
end
theorem pTs_map (ns : List (List UInt8)) (xs : List (Tr Pa)) : pTs ns xs = xs.map (pT ns) := by
  induction xs with
  | nil => rfl
  | cons x xs ih => rw [pTs, ih, List.map_cons]

/-- a body has its shape: a part with all that belong to it, and no more. -/
def bodyOk (d : De) : Bool := decide (1 ≤ d.body.length) && decide (d.body.length ≤ 20) && shapeG folP 1 d.body
/-- the tree of a body. -/
theorem body_tree {d : De} (h : bodyOk d = true) : ∃ x : Tr Pa, forestT folP d.body = [x] ∧ okT folP x = true ∧ flatT x = d.body := by
  unfold bodyOk at h
  simp only [Bool.and_eq_true, decide_eq_true_eq] at h
  exact forestT_one folP_nn h.2
/-- the process line of a definition. -/
noncomputable def procT (ds : List De) (d : De) : List UInt8 :=
  ((([112, 114, 111, 99, 32] ++ d.name) ++ [32]) ++ Lib.itoa d.pars) ++ [32, 61, 32] ++ ((forestT folP d.body).map (pT (ds.map De.name))).getD 0 []

end Go.Proofs.YtijmkcnipflpbaaGreatDoor

/-
  The scopes of a forest's nodes, by the trees and by counting: plain.
-/
namespace Go.Proofs.YtijmkcnipflpbaaGreatDoor

/-- how many elements a tree takes that begins at a list's head, m trees wanted. -/
def endN {α : Type} (ar : α → Int) : Int → List α → Nat
  | _, [] => 0
  | m, t :: l => if m ≤ 0 then 0 else 1 + endN ar (m + ar t - 1) l

mutual
theorem endN_tree {α : Type} {ar : α → Int} : ∀ (x : Tr α) (m : Int) (post : List α), 0 ≤ m → okT ar x = true → endN ar (m + 1) (flatT x ++ post) = (flatT x).length + endN ar m post
  | .mk t args, m, post, hm, h => by
    simp only [okT, Bool.and_eq_true, decide_eq_true_eq] at h
    have ih := endN_trees args m post hm h.2
    simp only [flatT, List.cons_append, endN, List.length_cons]
    rw [if_neg (by omega), show m + 1 + ar t - 1 = m + (args.length : Int) by rw [h.1]; omega, ih]
    omega
theorem endN_trees {α : Type} {ar : α → Int} : ∀ (xs : List (Tr α)) (m : Int) (post : List α), 0 ≤ m → okTs ar xs = true → endN ar (m + (xs.length : Int)) (flatTs xs ++ post) = (flatTs xs).length + endN ar m post
  | [], m, post, _, _ => by simp [flatTs]
  | x :: xs, m, post, hm, h => by
    simp only [okTs, Bool.and_eq_true] at h
    have h1 := endN_tree x (m + (xs.length : Int)) (flatTs xs ++ post) (by omega) h.1
    have h2 := endN_trees xs m post hm h.2
    simp only [flatTs, List.append_assoc, List.length_cons, List.length_append]
    rw [show m + (((xs.length + 1 : Nat)) : Int) = m + (xs.length : Int) + 1 by omega, h1, h2]
    omega
end
theorem endN_one {α : Type} {ar : α → Int} (x : Tr α) (post : List α) (h : okT ar x = true) : endN ar 1 (flatT x ++ post) = (flatT x).length := by
  have := endN_tree x 0 post (Int.le_refl _) h
  rw [show (0 : Int) + 1 = 1 from rfl] at this
  rw [this]
  cases post with
  | nil => simp [endN]
  | cons p post => simp [endN]

/-- how many elements before the i-th bind it: those whose tree ends behind it. -/
def cntB {α : Type} (ar : α → Int) (bind : α → Bool) : List α → Nat → Int
  | [], _ => 0
  | _ :: _, 0 => 0
  | t :: l, i + 1 => (if bind t = true ∧ i + 1 < endN ar 1 (t :: l) then 1 else 0) + cntB ar bind l i

mutual
theorem cntB_skip {α : Type} {ar : α → Int} {bind : α → Bool} : ∀ (x : Tr α) (L : List α) (i : Nat), okT ar x = true → cntB ar bind (flatT x ++ L) ((flatT x).length + i) = cntB ar bind L i
  | .mk t args, L, i, h => by
    have he := endN_one (.mk t args) L h
    simp only [okT, Bool.and_eq_true, decide_eq_true_eq] at h
    have ih := cntB_skips (bind := bind) args L i h.2
    simp only [flatT, List.cons_append, List.length_cons] at he ⊢
    rw [show (flatTs args).length + 1 + i = ((flatTs args).length + i) + 1 by omega, cntB, ih, if_neg (by rw [he]; omega), Int.zero_add]
theorem cntB_skips {α : Type} {ar : α → Int} {bind : α → Bool} : ∀ (xs : List (Tr α)) (L : List α) (i : Nat), okTs ar xs = true → cntB ar bind (flatTs xs ++ L) ((flatTs xs).length + i) = cntB ar bind L i
  | [], L, i, _ => by simp [flatTs]
  | x :: xs, L, i, h => by
    simp only [okTs, Bool.and_eq_true] at h
    have h1 := cntB_skip (bind := bind) x (flatTs xs ++ L) ((flatTs xs).length + i) h.1
    have h2 := cntB_skips (bind := bind) xs L i h.2
    simp only [flatTs, List.append_assoc, List.length_append]
    rw [Nat.add_assoc, h1, h2]
end

mutual
/-- the scopes of a tree's nodes, in the list's order. -/
def scT {α : Type} (bind : α → Bool) : Tr α → Int → List Int
  | .mk t args, s => s :: scTs bind args (s + if bind t then 1 else 0)
def scTs {α : Type} (bind : α → Bool) : List (Tr α) → Int → List Int
  | [], _ => []
  | x :: xs, s => scT bind x s ++ scTs bind xs s
end
mutual
theorem scT_len {α : Type} (bind : α → Bool) : ∀ (x : Tr α) (s : Int), (scT bind x s).length = (flatT x).length
  | .mk t args, s => by simp [scT, flatT, scTs_len bind args]
theorem scTs_len {α : Type} (bind : α → Bool) : ∀ (xs : List (Tr α)) (s : Int), (scTs bind xs s).length = (flatTs xs).length
  | [], _ => by simp [scTs, flatTs]
  | x :: xs, s => by simp [scTs, flatTs, scT_len bind x, scTs_len bind xs]
end
mutual
theorem scT_cnt {α : Type} {ar : α → Int} {bind : α → Bool} : ∀ (x : Tr α) (s : Int) (L : List α) (i : Nat), okT ar x = true → i < (flatT x).length → (scT bind x s)[i]? = some (s + cntB ar bind (flatT x ++ L) i)
  | .mk t args, s, L, 0, h, _ => by simp [scT, flatT, cntB]
  | .mk t args, s, L, i + 1, h, hi => by
    have he := endN_one (.mk t args) L h
    simp only [okT, Bool.and_eq_true, decide_eq_true_eq] at h
    simp only [flatT, List.length_cons] at hi
    have ih := scTs_cnt (bind := bind) args (s + if bind t then 1 else 0) L i h.2 (by omega)
    simp only [flatT, List.cons_append, List.length_cons] at he
    simp only [scT, flatT, List.cons_append, List.getElem?_cons_succ, cntB]
    rw [ih, he]
    by_cases hb : bind t = true
    · rw [if_pos hb, if_pos ⟨hb, by omega⟩, Int.add_assoc]
    · rw [if_neg hb, if_neg (fun h => hb h.1)]; simp
theorem scTs_cnt {α : Type} {ar : α → Int} {bind : α → Bool} : ∀ (xs : List (Tr α)) (s : Int) (L : List α) (i : Nat), okTs ar xs = true → i < (flatTs xs).length → (scTs bind xs s)[i]? = some (s + cntB ar bind (flatTs xs ++ L) i)
  | [], s, L, i, _, hi => by simp [flatTs] at hi
  | x :: xs, s, L, i, h, hi => by
    simp only [okTs, Bool.and_eq_true] at h
    simp only [flatTs, List.length_append] at hi
    simp only [scTs, flatTs, List.append_assoc]
    by_cases hx : i < (flatT x).length
    · rw [List.getElem?_append_left (by rw [scT_len]; exact hx)]
      exact scT_cnt x s (flatTs xs ++ L) i h.1 hx
    · rw [List.getElem?_append_right (by rw [scT_len]; omega), scT_len]
      obtain ⟨j, rfl⟩ : ∃ j, i = (flatT x).length + j := ⟨i - (flatT x).length, by omega⟩
      rw [show (flatT x).length + j - (flatT x).length = j by omega, cntB_skip x _ j h.1]
      exact scTs_cnt xs s L j h.2 (by omega)
end

end Go.Proofs.YtijmkcnipflpbaaGreatDoor

/-
  Which definitions are valid, plainly: the reason why a part is not.
-/
namespace Go.Proofs.YtijmkcnipflpbaaGreatDoor
open Go.RowKit

/-- the kind of a part is known, and the fields that it does not use are empty. -/
def kindP (p : Pa) : Bool :=
  inB p.kind 0 5 && ((p.kind == 4 || p.kind == 5) || p.num == 0) && (p.kind == 1 || p.name == []) && ((p.kind == 1 || p.kind == 3 || p.kind == 5) || p.args.length == 0)
/-- a part has as many arguments as it must. -/
def countP (ds : List De) (p : Pa) : Bool :=
  if p.kind = 1 then p.args.length == 0 || (p.name != tauL && decide (p.args.length ≤ 2))
  else if p.kind = 3 then p.args.length == 1
  else if p.kind = 5 then (p.args.length : Int) == ((ds.map De.pars).getD p.num.toNat 0)
  else true
/-- why a part is not valid; 0 if it is. -/
def reasonP (ds : List De) (p : Pa) (sc : Int) (behind : Bool) : Int :=
  if !kindP p then 2
  else if p.kind == 1 && !nameF p.name then 3
  else if (p.kind == 4 && !inB p.num 1 7) || (p.kind == 5 && !inB p.num 0 ((ds.length : Int) - 1)) then 4
  else if !countP ds p then 5
  else if p.kind == 5 && !behind then 6
  else if p.kind == 4 && decide (6 ≤ sc) then 7
  else if p.args.any (fun e => !isE e sc 15) then 8
  else 0
theorem reasonP_nn (ds : List De) (p : Pa) (sc : Int) (b : Bool) : 0 ≤ reasonP ds p sc b ∧ reasonP ds p sc b ≤ 8 := by
  unfold reasonP
  repeat' split
  all_goals omega
/-- what is neither tau nor the name of an action is no name. -/
theorem name_act (l : List UInt8) : (l != tauL && !actF l) = !nameF l := by
  unfold actF
  by_cases h : l = tauL
  · subst h
    simp [show nameF tauL = true by decide]
  · have h2 : (l != tauL) = true := by simpa using h
    rw [h2]; simp
/-- a part stands directly behind an action. -/
def behindP (body : List Pa) (i : Nat) : Bool := decide (0 < i) && ((body.map Pa.kind).getD (i - 1) 0 == 1)
/-- the first part of a body that is not valid, and the reason; (0, 0) if there is none. -/
def faultFrom (ds : List De) (d : De) (body : List Pa) : Nat → List Pa → Int × Int
  | _, [] => (0, 0)
  | i, p :: l => if reasonP ds p (d.pars + cntB folP sumP body i) (behindP body i) = 0 then faultFrom ds d body (i + 1) l else ((i : Int), reasonP ds p (d.pars + cntB folP sumP body i) (behindP body i))
def faultP (ds : List De) (d : De) : Int × Int := if bodyOk d then faultFrom ds d d.body 0 d.body else (0, 1)
/-- definitions are valid. -/
def defsOk (ds : List De) : Bool :=
  (decide (1 ≤ ds.length) && decide (ds.length ≤ 4)) && (ds.all fun d => inB d.pars 0 3) && (ds.all fun d => nameF d.name) && decide (ds.map De.name).Nodup && ds.all fun d => (faultP ds d).2 == 0

end Go.Proofs.YtijmkcnipflpbaaGreatDoor

/-
  The laws' helper functions over lists of texts.
-/
namespace Go.Proofs.YtijmkcnipflpbaaGreatDoor
open Go.RowKit

abbrev R_S1 : Rp (List (List UInt8)) := RS
theorem R_S1k : Kept R_S1 := RSk
def totS (x : List (List UInt8)) : Int := (x.map (fun r => (r.length : Int))).sum
def szF_S1 (x : List (List UInt8)) : Int := x.length + totS x
def mkF_S1 (x : List (List UInt8)) : Int := x.length
theorem totS_nonneg (x : List (List UInt8)) : 0 ≤ totS x := by
  unfold totS; induction x with
  | nil => simp
  | cons r rs ih => simp only [List.map_cons, List.sum_cons]; omega
theorem totS_snoc (x : List (List UInt8)) (k : Nat) (h : k < x.length) : totS (x.take (k + 1)) = totS (x.take k) + x[k].length := by
  unfold totS; rw [List.take_succ_eq_append_getElem h, List.map_append, List.sum_append]; simp
theorem szF_S1_nonneg (x : List (List UInt8)) : 0 ≤ szF_S1 x := by have := totS_nonneg x; unfold szF_S1; omega
theorem mkF_S1_nonneg (x : List (List UInt8)) : 0 ≤ mkF_S1 x := by unfold mkF_S1; omega
theorem mkF_S1_le (x : List (List UInt8)) : mkF_S1 x ≤ 16 * szF_S1 x := by have := totS_nonneg x; unfold mkF_S1 szF_S1; omega
theorem str_cat (a b : List UInt8) : (ByteArray.mk a.toArray ++ ByteArray.mk b.toArray) = ByteArray.mk (a ++ b).toArray := ByteArray.mk_append_mk a b

/-- no text is longer than a machine's memory. -/
def strsOk (x : List (List UInt8)) : Prop := ∀ p ∈ x, p.length ≤ 9223372036854775807

/-- the text that marks the number k. -/
def mtx (k : Int) : List UInt8 := 109 :: Lib.decDigits k.toNat

set_option maxRecDepth 20000 in
set_option maxHeartbeats 2000000 in
theorem markText (k0 : Int) (w : World) (h0 : 0 ≤ k0) (h1 : k0 ≤ 9223372036854775807) :
    Calls Tryz.prog 36 #[.int .i64 k0] w fun e w' => e = .returned (es (mtx k0)) ∧ Upd [] w w' := by
  obtain ⟨k, rfl⟩ : ∃ k : Nat, k0 = k := ⟨k0.toNat, by omega⟩
  by_cases hk : k = 0
  · subst hk
    have HR := Lib.hid (show mtx ((0 : Nat) : Int) = [109, 48] by simp [mtx, Lib.decDigits])
    go_enter Tryz.func36, Tryz.ntmps36
    go_wp2_with fail
    go_ret
    exact ⟨by rw [HR.out]; rfl, Upd.refl _ _⟩
  · have HR := Lib.hid (show mtx (k : Int) = 109 :: Lib.decDigits k by simp [mtx])
    have hpos : 0 < k := by omega
    have HK := Lib.hid hk
    clear hk
    go_enter Tryz.func36, Tryz.ntmps36
    go_wp2_with fail
    go_loopw [0, 3] (fun kv ov wr => ∃ (M j : Nat) (D : List UInt8), kv = .int .i64 M ∧ M ≤ k ∧ ov = es D ∧ D.length + j = 20 ∧ M < 10 ^ j ∧ Hid ((if M = 0 then [] else Lib.decDigits M) ++ D = Lib.decDigits k) ∧ Upd [] w wr) (fun kv _ _ => (intOf kv).toNat)
    case atStart => exact ⟨k, 20, [], rfl, Nat.le_refl _, rfl, rfl, by omega, Lib.hid (by simp [HK.out]), Upd.refl _ _⟩
    case round =>
      obtain ⟨M, j, D, rfl, hM, rfl, hj, hlt, HD, hU⟩ := hrel
      have hDl : D.length ≤ 20 := by omega
      have HJ := Lib.hid (And.intro hj hlt)
      have HU := Lib.hid hU
      have hszr := hU.size
      clear hj hlt hU
      by_cases hM0 : M = 0
      · subst hM0
        have hD : D = Lib.decDigits k := by simpa using HD.out
        have HD2 := Lib.hid hD
        clear hD HD
        go_wp2_with fail
        go_ret
        exact ⟨by rw [HR.out, ← HD2.out]; first | rfl | simp [es], HU.out⟩
      · have hst := dig_step M (by omega) D.reverse
        have HS := Lib.hid (show (if M / 10 = 0 then [] else Lib.decDigits (M / 10)) ++ (UInt8.ofNat (48 + M % 10) :: D) = Lib.decDigits k by
          have h2 := HD.out
          rw [if_neg hM0] at h2
          rw [← h2]
          simpa using hst)
        have hb : eb (UInt8.ofNat (48 + M % 10)) = .int .u8 (48 + (M : Int) % 10) := by
          simp only [Value.int.injEq, true_and]
          rw [UInt8.toNat_ofNat_of_lt' (by show 48 + M % 10 < 256; omega)]; omega
        have hcv := run_convert_bytes_back (P := Tryz.prog) (wr.alloc (.cells #[.int .u8 (48 + (M : Int) % 10)] 5)) 86 9 5 ⟨wr.heap.size, 0, none⟩ 1 [UInt8.ofNat (48 + M % 10)] Tryz.underlying86 Tryz.underlying5 Tryz.underlying9 (fun j hj => by
          obtain rfl : j = 0 := by simpa using hj
          rw [addr_add]
          exact cell_new wr _ _ _ rfl _ _ (by simpa using hb.symm))
        have hMp : 0 < M := by omega
        generalize UInt8.ofNat (48 + M % 10) = b at *
        have hcat := str_cat [b] D
        simp only [List.length_cons, List.length_nil, Nat.zero_add] at hcv
        obtain ⟨S, hS⟩ : ∃ S, S = [b] ++ D := ⟨_, rfl⟩
        rw [← hS] at hcat
        have HSS := Lib.hid hS
        clear hst hb hM0 hS HD
        go_wp2_with fail
        clear hcv hcat
        go_roundw
        case rel =>
          obtain ⟨hq1, hq2⟩ := HJ.out
          obtain ⟨q, rfl⟩ : ∃ q, j = q + 1 := ⟨j - 1, by
            rcases Nat.eq_zero_or_pos j with h | h
            · subst h; simp at hq2; omega
            · omega⟩
          refine ⟨M / 10, q, S, by go_num, by omega, rfl, by rw [HSS.out]; simp; omega, ?_, Lib.hid (by rw [HSS.out]; exact HS.out), HU.out.alloc _⟩
          rw [Nat.pow_succ] at hq2
          omega
        case measure => simp [intOf]; omega

set_option maxRecDepth 20000 in
set_option maxHeartbeats 400000 in
theorem sz_S1 (v : Value) (xs : List (List UInt8)) (left : Int) (w : World) (fp : List Nat) (hl : 0 ≤ left) (hl2 : left ≤ 1048576) (hR : R_S1 fp w [v] xs) (hS : strsOk xs) :
    Calls Tryz.prog 19 #[v, .int .i64 left] w fun e w' => (∃ r : Int, e = .returned (.int .i64 r) ∧ (r = -1 ∨ (0 ≤ r ∧ r + szF_S1 xs = left))) ∧ w = w' := by
  obtain ⟨a, cap, rfl, h1, h2, hc⟩ := slF1_open hR
  unfold maxLen at h2
  unfold szF_S1
  have HS := Lib.hid hS
  clear hR hS
  by_cases hlt : left - (xs.length : Int) < 0
  · go_enter Tryz.func19, Tryz.ntmps19
    go_wp2_with fail
    go_ret
    exact ⟨⟨-1, rfl, Or.inl rfl⟩, rfl⟩
  · have hge : 0 ≤ left - (xs.length : Int) := by omega
    clear hlt
    go_enter Tryz.func19, Tryz.ntmps19
    go_wp2_with fail
    go_loop [1, 5] (fun kk i => ∃ (k : Nat) (l : Int), k ≤ xs.length ∧ i = .int .i64 k ∧ kk = .int .i64 l ∧ 0 ≤ l ∧ Hid (l + xs.length + totS (xs.take k) = left)) (fun _ i => xs.length - (intOf i).toNat)
    case atStart => exact ⟨0, _, Nat.zero_le _, rfl, rfl, hge, Lib.hid (by simp [totS])⟩
    case round =>
      obtain ⟨k, l, hk, rfl, rfl, hl0, HL⟩ := hrel
      by_cases hlt : k < xs.length
      · obtain ⟨b, off, rfl, -, -, hcell⟩ := hc k hlt
        have ht := totS_nonneg (xs.take k)
        have HT := Lib.hid (totS_snoc xs k hlt)
        have hb2 : l ≤ 1048576 := by have := HL.out; omega
        have hx3 := HS.out xs[k] (List.getElem_mem hlt)
        clear hc ht
        generalize xs[k] = x at *
        by_cases hneg : l - (x.length : Int) < 0
        · go_wp2_with fail
          go_ret
          exact ⟨⟨-1, rfl, Or.inl rfl⟩, rfl⟩
        · go_wp2_with fail
          go_round
          case rel => exact ⟨k + 1, l - x.length, by omega, by go_num, rfl, by omega, Lib.hid (by have := HL.out; rw [HT.out]; omega)⟩
          case measure => simp [intOf]; omega
      · obtain rfl : k = xs.length := by omega
        clear hc
        go_wp2_with fail
        go_ret
        exact ⟨⟨l, rfl, Or.inr ⟨hl0, by have := HL.out; rw [List.take_length] at this; omega⟩⟩, rfl⟩

set_option maxRecDepth 20000 in
set_option maxHeartbeats 400000 in
theorem to_S1 (v : Value) (xs : List (List UInt8)) (w : World) (fp : List Nat) (hl : szF_S1 xs ≤ 1048576) (hR : R_S1 fp w [v] xs) :
    Calls Tryz.prog 25 #[v] w fun e w' => (∃ v', e = .returned v' ∧ New R_S1 w w' v' xs) ∧ Upd [] w w' := by
  obtain ⟨i0, hi, hz0, hz1, hz2⟩ := info_parts Tryz.info9
  obtain ⟨a, cap, rfl, h1, h2, hc⟩ := slF1_open hR
  unfold maxLen at h2
  have hxl : xs.length ≤ 1048576 := by have := totS_nonneg xs; unfold szF_S1 at hl; omega
  have hm1 : i0.bytes * xs.length ≤ 281474976710656 := by rw [hz2]; omega
  clear hl hR
  go_enter Tryz.func25, Tryz.ntmps25
  go_wp2_with (first
    | (at_make; refine wpList_make_full _ rfl _ _ 25 rfl w.heap.size 9 i0 (es []) 1 Tryz.underlying25 hi hz0 hz1 .i64 .i64 _ _ xs.length rfl rfl rfl rfl hm1 (by unfold maxLen; omega) (Nat.le_refl _) ?_; intro w1 hown hgrow)
    | fail)
  rw [made_one _ rfl, fill_zero es] at hown
  have hU : Upd [] w w1 := (Upd.refl _ _).grown hgrow (by simp)
  clear hgrow hm1
  go_loopw [4] (fun i wr => ∃ k : Nat, k ≤ xs.length ∧ i = .int .i64 k ∧ Upd [] w wr ∧
      wr.ownsRow w.heap.size 9 1 (.slice (some ⟨w.heap.size, 0, none⟩) xs.length xs.length) xs.length ((xs.take k).map es ++ List.replicate (xs.length - k) (es [])))
    (fun i _ => xs.length - (intOf i).toNat)
  case atStart => exact ⟨0, Nat.zero_le _, rfl, hU, hown⟩
  case round =>
    obtain ⟨k, hk, rfl, hU, hown⟩ := hrel
    by_cases hlt : k < xs.length
    · obtain ⟨b, off, rfl, rfl, hb, hcx⟩ := hc k hlt
      have hcell : wr.cell? ⟨b, off + k, none⟩ = some (es xs[k]) := (hU.below.cell hb).trans hcx
      have hcell2 : wr.cell? ⟨w.heap.size, k, none⟩ = some (es []) := by rw [hown.cellAt k (by omega), fill_at _ _ _ _ hlt]
      have hfr : wr.frozen? ⟨w.heap.size, k, none⟩ = false := hown.frozenAt k
      have hst := (hown.stored k (es xs[k]))
      rw [set_fill _ _ _ _ hlt] at hst
      have HS := Lib.hid hst
      clear hst hown hc
      generalize xs[k] = x at *
      go_wp2
      go_roundw
      case rel => exact ⟨k + 1, by omega, by go_num, hU.setCell (Or.inl (Nat.le_refl _)) _, HS.out.1⟩
      case measure => simp [intOf]; omega
    · obtain rfl : k = xs.length := by omega
      clear hc
      go_wp2
      go_ret
      refine ⟨⟨_, rfl, New.ofOwns (e := 9) ?_⟩, hU⟩
      simpa using hown

set_option maxRecDepth 20000 in
set_option maxHeartbeats 400000 in
theorem eq_S1 (v1 v2 : Value) (xs ys : List (List UInt8)) (w : World) (f1 f2 : List Nat) (h1 : R_S1 f1 w [v1] xs) (h2 : R_S1 f2 w [v2] ys) :
    Calls Tryz.prog 12 #[v1, v2] w fun e w' => e = .returned (.bool (xs == ys)) ∧ Upd [] w w' := by
  obtain ⟨a1, c1, rfl, hl1, hm1, hc1⟩ := slF1_open h1
  obtain ⟨a2, c2, rfl, hl2, hm2, hc2⟩ := slF1_open h2
  unfold maxLen at hm1 hm2
  clear h1 h2
  by_cases hl : xs.length = ys.length
  · have hres : (xs == ys) = (xs.drop 0 == ys.drop 0) := rfl
    have HL := Lib.hid hl
    have hle : xs.length ≤ ys.length := by omega
    have hbe : ((xs.length : Int) != (ys.length : Int)) = false := by rw [hl]; simp
    have HR := Lib.hid hres
    clear hl hres
    go_enter Tryz.func12, Tryz.ntmps12
    go_wp2
    go_loopw [5] (fun i wr => ∃ k n : Nat, k ≤ xs.length ∧ i = .int .i64 k ∧ wr = w.drewN n ∧ (xs.drop k == ys.drop k) = (xs == ys)) (fun i _ => xs.length - (intOf i).toNat)
    case atStart => exact ⟨0, 0, Nat.zero_le _, rfl, rfl, HR.out.symm⟩
    case round =>
      obtain ⟨k, n, hk, rfl, rfl, hF⟩ := hrel
      by_cases hlt : k < xs.length
      · obtain ⟨b1, o1, rfl, -, -, hcell1⟩ := hc1 k hlt
        obtain ⟨b2, o2, rfl, -, -, hcell2⟩ := hc2 k (by omega)
        have hlt2 : k < ys.length := by omega
        have HF := Lib.hid (hF.symm.trans (drop_step xs ys k hlt hlt2))
        clear hF hc1 hc2
        generalize xs[k] = x at *
        generalize ys[k] = y at *
        by_cases hx : x = y
        · have hne : (x != y) = false := by simp [hx]
          have hne2 : (x == y) = true := by simp [hx]
          have HX := Lib.hid hx
          clear hx
          go_wp2
          go_quiet (fail)
          go_wp2
          go_roundw
          case rel => exact ⟨k+1, _, by omega, by go_num, rfl, by rw [HF.out]; simp [HX.out]⟩
          case measure => simp [intOf]; omega
        · have hne : (x != y) = true := by simp [hx]
          have hne2 : (x == y) = false := by simp [hx]
          clear hx
          go_wp2
          go_quiet (fail)
          go_wp2
          go_ret
          exact ⟨by rw [HF.out]; simp [hne2], by rw [drewN_add]; exact (Upd.refl _ _).drewN _⟩
      · have hge : xs.length ≤ k := by omega
        have HF := Lib.hid hF
        clear hF hc1 hc2
        go_wp2
        go_ret
        exact ⟨by rw [← HF.out, List.drop_of_length_le hge, List.drop_of_length_le (by have := HL.out; omega)]; rfl, (Upd.refl _ _).drewN _⟩
  · have hbe : ¬ ((xs.length : Int) != (ys.length : Int)) = false := by simp; omega
    have hne : (xs == ys) = false := by
      rw [beq_eq_false_iff_ne]; intro h; exact hl (by rw [h])
    have HN := Lib.hid hne
    clear hl hne
    go_enter Tryz.func12, Tryz.ntmps12
    go_wp2
    go_ret
    exact ⟨by rw [HN.out]; rfl, Upd.refl _ _⟩

/-- n marks from k on. -/
def mkS (k : Int) (n : Nat) : List (List UInt8) := (upFrom k n).map mtx
@[simp] theorem mkS_length (k : Int) (n : Nat) : (mkS k n).length = n := by simp [mkS]
theorem mkS_get (k : Int) (n i : Nat) (h : i < n) : (mkS k n)[i]? = some (mtx (k + i)) := by
  unfold mkS; rw [List.getElem?_map, upFrom_get k n i h]; rfl
theorem mkS_set (xs : List (List UInt8)) (k0 : Int) (k : Nat) (hk : k < xs.length) : (mkS k0 k ++ xs.drop k).set k (mtx (k0 + k)) = mkS k0 (k + 1) ++ xs.drop (k + 1) := by
  rw [List.set_append_right _ _ (by simp), mkS_length, Nat.sub_self, List.drop_eq_getElem_cons hk, List.set_cons_zero]
  unfold mkS
  rw [upFrom_snoc, List.map_append]
  simp

set_option maxRecDepth 20000 in
set_option maxHeartbeats 400000 in
theorem mark_S1 (v : Value) (xs : List (List UInt8)) (k0 : Int) (w : World) (fp : List Nat) (hk0 : 0 ≤ k0) (hk1 : k0 + mkF_S1 xs ≤ 4611686018427387904) (hR : R_S1 fp w [v] xs) (hO : Own fp w) :
    Calls Tryz.prog 14 #[v, .int .i64 k0] w fun e w' => e = .returned (.int .i64 (k0 + mkF_S1 xs)) ∧ R_S1 fp w' [v] (mkS k0 xs.length) ∧ Own fp w' ∧ Upd fp w w' := by
  obtain ⟨a, cap, rfl, h1, h2, -⟩ := slF1_open hR
  unfold mkF_S1 at hk1
  unfold maxLen at h2
  have HM := Lib.hid (show mkF_S1 xs = xs.length from rfl)
  have HR := Lib.hid hR
  have HO := Lib.hid hO
  clear hR hO
  go_enter Tryz.func14, Tryz.ntmps14
  go_wp2_with fail
  go_loopw [1, 5] (fun kk i wr => ∃ k : Nat, k ≤ xs.length ∧ i = .int .i64 k ∧ kk = .int .i64 (k0 + k) ∧ Upd fp w wr ∧ Own fp wr ∧ RS fp wr [.slice a xs.length cap] (mkS k0 k ++ xs.drop k)) (fun _ i _ => xs.length - (intOf i).toNat)
  case atStart => exact ⟨0, Nat.zero_le _, rfl, by simp, Upd.refl _ _, HO.out, by simpa [mkS, upFrom] using HR.out⟩
  case round =>
    clear HR HO
    obtain ⟨k, hk, rfl, rfl, hU, hO, hF⟩ := hrel
    by_cases hlt : k < xs.length
    · have S1 := Lib.hid (markText (k0 + k) wr (by omega) (by omega))
      have HP := Lib.hid (And.intro hU (And.intro hO hF))
      have HSET := Lib.hid (mkS_set xs k0 k hlt)
      clear hU hO hF
      go_wp2_with fail
      refine S1.out.mono ?_
      rintro e w1 ⟨rfl, hu1⟩
      have hd : ∀ b ∈ fp, b ∉ ([] : List Nat) := by simp
      obtain ⟨b, off, cap', hv, -, -, hfp, hbl, hcell, hset⟩ := slF1_cell (RSk.upd HP.out.2.2 hu1 hd) k (by simp; omega)
      have hlen : (mkS k0 k ++ xs.drop k).length = xs.length := by simp; omega
      rw [hlen] at hv
      simp only [Value.slice.injEq] at hv
      obtain ⟨rfl, -, rfl⟩ := hv
      have hfr : w1.frozen? ⟨b, off + k, none⟩ = false := (HP.out.2.1.upd hu1 hd).frozen (by rw [hfp]; simp) _
      have hs := hset (mtx (k0 + k))
      rw [HSET.out] at hs
      obtain ⟨z, hz⟩ : ∃ z : List UInt8, w1.cell? ⟨b, off + k, none⟩ = some (es z) := ⟨_, hcell⟩
      have HQ := Lib.hid (And.intro ((HP.out.1.trans (hu1.mono (by simp))).setCell (p := ⟨b, off + k, none⟩) (Or.inr (by rw [hfp]; simp)) (es (mtx (k0 + k)))) (And.intro ((HP.out.2.1.upd hu1 hd).setCell ⟨b, off + k, none⟩ (es (mtx (k0 + k)))) hs))
      clear hs hset hcell hlen hd hfp hu1 HP S1 HSET
      generalize mtx (k0 + k) = T at *
      go_wp2_with fail
      go_roundw
      case rel => exact ⟨k + 1, by omega, by go_num, by go_num, HQ.out.1, HQ.out.2.1, HQ.out.2.2⟩
      case measure => simp [intOf]; omega
    · obtain rfl : k = xs.length := by omega
      have HP := Lib.hid (And.intro hU (And.intro hO hF))
      clear hU hO hF
      go_wp2_with fail
      go_ret
      refine ⟨by rw [HM.out]; rfl, by simpa using HP.out.2.2, HP.out.2.1, HP.out.1⟩

set_option maxRecDepth 20000 in
set_option maxHeartbeats 400000 in
theorem held_S1 (v : Value) (xs : List (List UInt8)) (k0 : Int) (w : World) (fp : List Nat) (hk0 : 0 ≤ k0) (hk1 : k0 + mkF_S1 xs ≤ 4611686018427387904) (hR : R_S1 fp w [v] (mkS k0 xs.length)) :
    Calls Tryz.prog 15 #[v, .int .i64 k0] w fun e w' => e = .returned (.int .i64 (k0 + mkF_S1 xs)) ∧ Upd [] w w' := by
  unfold mkF_S1 at *
  generalize xs.length = n at *
  obtain ⟨a, cap, rfl, h1, h2, hc⟩ := slF1_open hR
  simp only [mkS_length] at *
  unfold maxLen at h2
  clear hR
  go_enter Tryz.func15, Tryz.ntmps15
  go_wp2_with fail
  go_loopw [1, 5] (fun kk i wr => ∃ k : Nat, k ≤ n ∧ i = .int .i64 k ∧ kk = .int .i64 (k0 + k) ∧ Upd [] w wr) (fun _ i _ => n - (intOf i).toNat)
  case atStart => exact ⟨0, Nat.zero_le _, rfl, by simp, Upd.refl _ _⟩
  case round =>
    obtain ⟨k, hk, rfl, rfl, hU⟩ := hrel
    by_cases hlt : k < n
    · obtain ⟨b, off, rfl, -, hb, hcell⟩ := hc k hlt
      have e : (mkS k0 n)[k]'(by simpa using hlt) = mtx (k0 + k) := by
        have := mkS_get k0 n k hlt
        rw [List.getElem?_eq_getElem (by simpa using hlt)] at this
        exact Option.some.inj this
      rw [e] at hcell
      have q1 : wr.cell? ⟨b, off + k, none⟩ = some (es (mtx (k0 + k))) := hU.keep hcell
      have S1 := fun (w' : World) => markText (k0 + k) w' (by omega) (by omega)
      have HS1 := Lib.hid S1
      have hne : (mtx (k0 + k) != mtx (k0 + k)) = false := by simp
      have hne2 : (mtx (k0 + k) == mtx (k0 + k)) = true := by simp
      have HU := Lib.hid hU
      generalize mtx (k0 + k) = T at *
      clear hc e hcell S1 hU
      go_wp2_with fail
      go_region_held3 (fun w' => w'.cell? ⟨b, off + k, none⟩ = some (es T)) (go_keep) (((with_reducible refine (HS1.out _).mono ?_); rintro e w1 ⟨rfl, hu1⟩; have t1 := hu1.keep q1))
      have HU1 := Lib.hid (HU.out.drew.trans hu1)
      clear hu1 HU HS1
      go_wp2_with fail
      go_roundw
      case rel => exact ⟨k + 1, by omega, by go_num, by go_num, HU1.out⟩
      case measure => simp [intOf]; omega
    · obtain rfl : k = n := by omega
      clear hc
      go_wp2_with fail
      go_ret
      exact ⟨rfl, hU⟩

end Go.Proofs.YtijmkcnipflpbaaGreatDoor

/-
  Names and labels: what the program's calls return.
-/
namespace Go.Proofs.YtijmkcnipflpbaaGreatDoor
open Go.RowKit

theorem isDigitI (b : UInt8) (w : World) : Calls Tryz.prog 121 #[.int .u8 (b.toNat : Int)] w fun e w' => e = .returned (.bool (isDig b)) ∧ w = w' := by
  by_cases h1 : 48 ≤ b.toNat
  · by_cases h2 : b.toNat ≤ 57
    · have HR := Lib.hid (show isDig b = true by simp [isDig]; omega)
      have g1 : (48 : Int) ≤ (b.toNat : Int) := by omega
      have g2 : (b.toNat : Int) ≤ 57 := by omega
      go_enter Tryz.func121, Tryz.ntmps121
      go_wp2_with fail
      go_ret
      exact ⟨by rw [HR.out]; rfl, rfl⟩
    · have HR := Lib.hid (show isDig b = false by simp [isDig]; omega)
      have g1 : (48 : Int) ≤ (b.toNat : Int) := by omega
      have g2 : ¬ (b.toNat : Int) ≤ 57 := by omega
      go_enter Tryz.func121, Tryz.ntmps121
      go_wp2_with fail
      go_ret
      exact ⟨by rw [HR.out]; rfl, rfl⟩
  · have HR := Lib.hid (show isDig b = false by simp [isDig]; omega)
    have g1 : ¬ (48 : Int) ≤ (b.toNat : Int) := by omega
    go_enter Tryz.func121, Tryz.ntmps121
    go_wp2_with fail
    go_ret
    exact ⟨by rw [HR.out]; rfl, rfl⟩

set_option maxRecDepth 20000 in
set_option maxHeartbeats 2000000 in
theorem isNameI (l : List UInt8) (w : World) (hl : l.length ≤ 2000000) : Calls Tryz.prog 91 #[es l] w fun e w' => e = .returned (.bool (nameF l)) ∧ w = w' := by
  go_enter Tryz.func91, Tryz.ntmps91
  go_wp2_with fail
  go_loop [7] (fun i => ∃ k : Nat, k ≤ l.length ∧ i = .int .i64 k ∧ Hid (∀ j (hj : j < k) (hj2 : j < l.length), (sml l[j] || (decide (0 < j) && isDig l[j])) = true)) (fun i => l.length - (intOf i).toNat)
  case atStart => exact ⟨0, Nat.zero_le _, rfl, Lib.hid (fun j hj => by omega)⟩
  case round =>
    obtain ⟨k, hk, rfl, HQ⟩ := hrel
    by_cases hlt : k < l.length
    · obtain ⟨b, hb⟩ : ∃ b, l[k] = b := ⟨_, rfl⟩
      have hix : (⟨l.toArray⟩ : ByteArray)[k]'(by simpa [ByteArray.size] using hlt) = b := by rw [← hb]; simp [ByteArray.getElem_eq_getElem_data]
      have HB := Lib.hid hb
      have S1 := Lib.hid (isDigitI b w)
      clear hb
      have hno : (sml b || (decide (0 < k) && isDig b)) = false → nameF l = false := by
        intro h
        cases hn : nameF l with
        | false => rfl
        | true =>
          exfalso
          have hn' := hn
          unfold nameF at hn'
          simp only [Bool.and_eq_true] at hn'
          rw [Bool.or_eq_false_iff] at h
          by_cases h0 : k = 0
          · subst h0
            have e0 : l.headD 0 = b := by rw [← HB.out]; cases l with
              | nil => simp at hlt
              | cons x l => rfl
            have := hn'.1.2
            rw [e0, h.1] at this; cases this
          · have := List.all_eq_true.1 hn'.2 b (by rw [← HB.out]; exact List.getElem_mem hlt)
            rw [h.1] at this
            have h3 := h.2
            rw [decide_eq_true (by omega : 0 < k)] at h3
            simp at h3 this
            rw [h3] at this; cases this
      have HNO := Lib.hid hno
      have hstep : (sml b || (decide (0 < k) && isDig b)) = true → ∀ j (hj : j < k + 1) (hj2 : j < l.length), (sml l[j] || (decide (0 < j) && isDig l[j])) = true := by
        intro h j hj hj2
        by_cases e : j = k
        · subst e; rw [HB.out]; exact h
        · exact HQ.out j (by omega) hj2
      have HST := Lib.hid hstep
      clear hno hstep HQ HB
      by_cases hs : sml b = true
      · have hs' : 97 ≤ b.toNat ∧ b.toNat ≤ 122 := by simpa [sml] using hs
        have g1 : (97 : Int) ≤ (b.toNat : Int) := by omega
        have g2 : (b.toNat : Int) ≤ 122 := by omega
        have g3 : ¬ (122 : Int) < (b.toNat : Int) := by omega
        have HR := Lib.hid (HST.out (by rw [hs]; rfl))
        clear S1 HNO HST hs hs'
        go_wp2_with fail
        go_round
        case rel => exact ⟨k + 1, by omega, by go_num, HR⟩
        case measure => simp [intOf]; omega
      · have hs0 : sml b = false := by simpa using hs
        have HS0 := Lib.hid hs0
        have hs' : ¬ (97 ≤ b.toNat ∧ b.toNat ≤ 122) := by simpa [sml] using hs
        clear hs hs0
        by_cases h0 : k = 0
        · subst h0
          have HR := Lib.hid (HNO.out (by rw [HS0.out]; rfl))
          clear S1 HNO HST
          by_cases g1 : (97 : Int) ≤ (b.toNat : Int)
          · have g2 : ¬ (b.toNat : Int) ≤ 122 := by omega
            have g3 : (122 : Int) < (b.toNat : Int) := by omega
            clear hs'
            go_wp2_with fail
            go_ret
            exact ⟨by rw [HR.out]; rfl, rfl⟩
          · clear hs'
            go_wp2_with fail
            go_ret
            exact ⟨by rw [HR.out]; rfl, rfl⟩
        · have h0' : ((k : Int) == 0) = false := by simp; omega
          cases hd : isDig b with
          | true =>
            have HR := Lib.hid (HST.out (by rw [HS0.out, hd, decide_eq_true (by omega : 0 < k)]; rfl))
            rw [hd] at S1
            clear HNO HST hd
            by_cases g1 : (97 : Int) ≤ (b.toNat : Int)
            · have g2 : ¬ (b.toNat : Int) ≤ 122 := by omega
              have g3 : (122 : Int) < (b.toNat : Int) := by omega
              clear hs'
              go_wp2_with fail
              refine S1.out.mono ?_
              rintro e w1 ⟨rfl, rfl⟩
              go_wp2_with fail
              go_round
              case rel => exact ⟨k + 1, by omega, by go_num, HR⟩
              case measure => simp [intOf]; omega
            · clear hs'
              go_wp2_with fail
              refine S1.out.mono ?_
              rintro e w1 ⟨rfl, rfl⟩
              go_wp2_with fail
              go_round
              case rel => exact ⟨k + 1, by omega, by go_num, HR⟩
              case measure => simp [intOf]; omega
          | false =>
            have HR := Lib.hid (HNO.out (by rw [HS0.out, hd]; simp))
            rw [hd] at S1
            clear HNO HST hd
            by_cases g1 : (97 : Int) ≤ (b.toNat : Int)
            · have g2 : ¬ (b.toNat : Int) ≤ 122 := by omega
              have g3 : (122 : Int) < (b.toNat : Int) := by omega
              clear hs'
              go_wp2_with fail
              refine S1.out.mono ?_
              rintro e w1 ⟨rfl, rfl⟩
              go_wp2_with fail
              go_ret
              exact ⟨by rw [HR.out]; rfl, rfl⟩
            · clear hs'
              go_wp2_with fail
              refine S1.out.mono ?_
              rintro e w1 ⟨rfl, rfl⟩
              go_wp2_with fail
              go_ret
              exact ⟨by rw [HR.out]; rfl, rfl⟩
    · obtain rfl : k = l.length := by omega
      have hfin : nameF l = (decide (1 ≤ l.length) && decide (l.length ≤ 10)) := by
        have hq := HQ.out
        unfold nameF
        by_cases h1 : 1 ≤ l.length
        · have e0 : l.headD 0 = l[0] := by cases l with
            | nil => simp at h1
            | cons x l => rfl
          have q0 := hq 0 (by omega) (by omega)
          simp only [Nat.lt_irrefl, decide_false, Bool.false_and, Bool.or_false] at q0
          have hall : l.all (fun c => sml c || isDig c) = true := by
            rw [List.all_eq_true]
            intro x hx
            obtain ⟨j, hj, rfl⟩ := List.mem_iff_getElem.1 hx
            have := hq j hj hj
            revert this
            cases sml l[j] <;> cases isDig l[j] <;> simp
          rw [e0, q0, hall]; simp
        · rw [decide_eq_false h1]; simp
      have HF := Lib.hid hfin
      clear hfin HQ
      by_cases h1 : 1 ≤ l.length
      · have g1 : (1 : Int) ≤ (l.length : Int) := by omega
        by_cases h2 : l.length ≤ 10
        · have HR := Lib.hid (show nameF l = true by rw [HF.out, decide_eq_true h1, decide_eq_true h2]; rfl)
          have g2 : (l.length : Int) ≤ 10 := by omega
          go_wp2_with fail
          go_ret
          exact ⟨by rw [HR.out]; rfl, rfl⟩
        · have HR := Lib.hid (show nameF l = false by rw [HF.out, decide_eq_true h1, decide_eq_false h2]; rfl)
          have g2 : ¬ (l.length : Int) ≤ 10 := by omega
          go_wp2_with fail
          go_ret
          exact ⟨by rw [HR.out]; rfl, rfl⟩
      · have HR := Lib.hid (show nameF l = false by rw [HF.out, decide_eq_false h1]; rfl)
        have g1 : ¬ (1 : Int) ≤ (l.length : Int) := by omega
        go_wp2_with fail
        go_ret
        exact ⟨by rw [HR.out]; rfl, rfl⟩

end Go.Proofs.YtijmkcnipflpbaaGreatDoor

/-
  Numbers in decimal: what the program's calls return.
-/
namespace Go.Proofs.YtijmkcnipflpbaaGreatDoor
open Go.RowKit

/-- what the calls of the library read of the package's variables. -/
structure Env (w : World) : Prop where
  m : ∃ m : Int, w.cell? ⟨0, 0, none⟩ = some (.int .i64 m)
  tab : Lib.TabIs Tryz.prog w "internal/strconv.uint64pow10" .u64 Lib.pow10Tab
  syn : ∃ tp p, w.var? Tryz.prog "strconv.ErrSyntax" = some #[.iface tp p]
  rng : ∃ tp p, w.var? Tryz.prog "strconv.ErrRange" = some #[.iface tp p]

theorem Upd.var {P : Program} {w w1 : World} {n : String} {cs : Array Value} (hu : Upd [] w w1) (h : w.var? P n = some cs) : w1.var? P n = some cs := by
  unfold World.var? at h ⊢
  cases hg : P.globalNamed n with
  | none => rw [hg] at h; cases h
  | some g =>
    rw [hg] at h
    simp only [Option.bind_some] at h ⊢
    have hlt : g < w.heap.size := by
      rcases Nat.lt_or_ge g w.heap.size with h1 | h1
      · exact h1
      · rw [Array.getElem?_eq_none h1] at h; cases h
    rw [hu.block g hlt (by simp)]
    exact h

theorem Env.upd {w w1 : World} (h : Env w) (hu : Upd [] w w1) : Env w1 :=
  ⟨h.m.imp fun _ hm => hu.keep hm, hu.var h.tab, h.syn.imp fun _ hs => hs.imp fun _ hs => hu.var hs, h.rng.imp fun _ hs => hs.imp fun _ hs => hu.var hs⟩

theorem Upd.grow (w : World) (k : Nat) (os : Array Obj) : Upd [] w (Sort.grow (w.drewN k) os) := by
  refine ⟨rfl, rfl, rfl, ?_, fun i hi _ => ?_⟩
  · show w.heap.size ≤ (w.heap ++ os).size
    rw [Array.size_append]; omega
  · show (w.heap ++ os)[i]? = w.heap[i]?
    rw [Array.getElem?_append_left hi]

theorem decimal (n : Int) (w : World) (h0 : -9223372036854775808 ≤ n) (h1 : n ≤ 9223372036854775807) (he : Env w) :
    Calls Tryz.prog 75 #[.int .i64 n] w fun e w' => e = .returned (es (Lib.itoa n)) ∧ Upd [] w w' := by
  have S1 := Lib.hid (Tryz.strconv_FormatInt_10 n h0 h1 w he.tab)
  clear he h0 h1
  go_enter Tryz.func75, Tryz.ntmps75
  go_wp2_with fail
  refine S1.out.mono ?_
  rintro e w1 ⟨rfl, k, os, rfl⟩
  have HU := Lib.hid (Upd.grow w k os)
  generalize Sort.grow (w.drewN k) os = w1 at *
  clear S1
  go_wp2_with fail
  go_ret
  exact ⟨rfl, HU.out⟩

theorem isActionI (l : List UInt8) (w : World) (hl : l.length ≤ 2000000) :
    Calls Tryz.prog 97 #[es l] w fun e w' => e = .returned (.bool (actF l)) ∧ w = w' := by
  have S1 := Lib.hid (isNameI l w hl)
  cases hn : nameF l with
  | false =>
    have HR := Lib.hid (show actF l = false by simp [actF, hn])
    rw [hn] at S1
    clear hn
    go_enter Tryz.func97, Tryz.ntmps97
    go_wp2_with fail
    refine S1.out.mono ?_
    rintro e w1 ⟨rfl, rfl⟩
    clear S1
    go_wp2_with fail
    go_ret
    exact ⟨by rw [HR.out]; rfl, rfl⟩
  | true =>
    have HR := Lib.hid (show actF l = (l != tauL) by simp [actF, hn])
    rw [hn] at S1
    clear hn
    go_enter Tryz.func97, Tryz.ntmps97
    go_wp2_with fail
    refine S1.out.mono ?_
    rintro e w1 ⟨rfl, rfl⟩
    clear S1
    go_wp2_with fail
    go_ret
    refine ⟨?_, rfl⟩
    rw [HR.out]
    simp [tauL, bne]

end Go.Proofs.YtijmkcnipflpbaaGreatDoor

/-
  Names and labels by the reference: what its calls return.
-/
namespace Go.Proofs.YtijmkcnipflpbaaGreatDoor
open Go.RowKit

theorem smallS (b : UInt8) (w : World) : Calls Tryz.prog 114 #[.int .u8 (b.toNat : Int)] w fun e w' => e = .returned (.bool (sml b)) ∧ w = w' := by
  by_cases h1 : 97 ≤ b.toNat
  · by_cases h2 : b.toNat ≤ 122
    · have HR := Lib.hid (show sml b = true by simp [sml]; omega)
      have g1 : (97 : Int) ≤ (b.toNat : Int) := by omega
      have g2 : (b.toNat : Int) ≤ 122 := by omega
      go_enter Tryz.func114, Tryz.ntmps114
      go_wp2_with fail
      go_ret
      exact ⟨by rw [HR.out]; rfl, rfl⟩
    · have HR := Lib.hid (show sml b = false by simp [sml]; omega)
      have g1 : (97 : Int) ≤ (b.toNat : Int) := by omega
      have g2 : ¬ (b.toNat : Int) ≤ 122 := by omega
      go_enter Tryz.func114, Tryz.ntmps114
      go_wp2_with fail
      go_ret
      exact ⟨by rw [HR.out]; rfl, rfl⟩
  · have HR := Lib.hid (show sml b = false by simp [sml]; omega)
    have g1 : ¬ (97 : Int) ≤ (b.toNat : Int) := by omega
    go_enter Tryz.func114, Tryz.ntmps114
    go_wp2_with fail
    go_ret
    exact ⟨by rw [HR.out]; rfl, rfl⟩

theorem digitS (b : UInt8) (w : World) : Calls Tryz.prog 115 #[.int .u8 (b.toNat : Int)] w fun e w' => e = .returned (.bool (isDig b)) ∧ w = w' := by
  by_cases h1 : 48 ≤ b.toNat
  · by_cases h2 : b.toNat ≤ 57
    · have HR := Lib.hid (show isDig b = true by simp [isDig]; omega)
      have g1 : (48 : Int) ≤ (b.toNat : Int) := by omega
      have g2 : (b.toNat : Int) ≤ 57 := by omega
      go_enter Tryz.func115, Tryz.ntmps115
      go_wp2_with fail
      go_ret
      exact ⟨by rw [HR.out]; rfl, rfl⟩
    · have HR := Lib.hid (show isDig b = false by simp [isDig]; omega)
      have g1 : (48 : Int) ≤ (b.toNat : Int) := by omega
      have g2 : ¬ (b.toNat : Int) ≤ 57 := by omega
      go_enter Tryz.func115, Tryz.ntmps115
      go_wp2_with fail
      go_ret
      exact ⟨by rw [HR.out]; rfl, rfl⟩
  · have HR := Lib.hid (show isDig b = false by simp [isDig]; omega)
    have g1 : ¬ (48 : Int) ≤ (b.toNat : Int) := by omega
    go_enter Tryz.func115, Tryz.ntmps115
    go_wp2_with fail
    go_ret
    exact ⟨by rw [HR.out]; rfl, rfl⟩

set_option maxRecDepth 20000 in
set_option maxHeartbeats 2000000 in
theorem nameS (l : List UInt8) (w : World) (hl : l.length ≤ 2000000) : Calls Tryz.prog 83 #[es l] w fun e w' => e = .returned (.bool (nameF l)) ∧ w = w' := by
  cases hcase : l with
  | nil =>
    have HR := Lib.hid (show nameF [] = false by rfl)
    go_enter Tryz.func83, Tryz.ntmps83
    go_wp2_with fail
    go_ret
    exact ⟨by rw [HR.out]; rfl, rfl⟩
  | cons c r =>
    rw [← hcase]
    have hne : (l == []) = false := by rw [hcase]; rfl
    have hpos : 0 < l.length := by rw [hcase]; simp
    by_cases hlen : l.length ≤ 10
    · have hix : (⟨l.toArray⟩ : ByteArray)[0]'(by simpa [ByteArray.size] using hpos) = c := by
        simp [ByteArray.getElem_eq_getElem_data, hcase]
      have HN := Lib.hid (show nameF l = (sml c && l.all (fun c => sml c || isDig c)) by
        unfold nameF; rw [decide_eq_true (show 1 ≤ l.length from hpos), decide_eq_true hlen, hcase]; simp)
      have g1 : ¬ (10 : Int) < (l.length : Int) := by omega
      have S1 := Lib.hid (smallS c w)
      clear hcase
      cases hs : sml c with
      | false =>
        have HR := Lib.hid (show nameF l = false by rw [HN.out, hs]; rfl)
        rw [hs] at S1
        clear HN hs
        go_enter Tryz.func83, Tryz.ntmps83
        go_wp2_with fail
        refine S1.out.mono ?_
        rintro e w1 ⟨rfl, rfl⟩
        clear S1
        go_wp2_with fail
        go_ret
        exact ⟨by rw [HR.out]; rfl, rfl⟩
      | true =>
        have HA := Lib.hid (show nameF l = l.all (fun c => sml c || isDig c) by rw [HN.out, hs]; rfl)
        rw [hs] at S1
        clear HN hs
        go_enter Tryz.func83, Tryz.ntmps83
        go_wp2_with fail
        refine S1.out.mono ?_
        rintro e w1 ⟨rfl, rfl⟩
        clear S1 hix
        go_wp2_with fail
        go_loop [3] (fun i => ∃ k : Nat, k ≤ l.length ∧ i = .int .i64 k ∧ Hid (l.all (fun c => sml c || isDig c) = (l.drop k).all (fun c => sml c || isDig c))) (fun i => l.length - (intOf i).toNat)
        case atStart => exact ⟨0, Nat.zero_le _, rfl, Lib.hid rfl⟩
        case round =>
          obtain ⟨k, hk, rfl, HF⟩ := hrel
          by_cases hlt : k < l.length
          · obtain ⟨b, hb⟩ : ∃ b, l[k] = b := ⟨_, rfl⟩
            have hix : (⟨l.toArray⟩ : ByteArray)[k]'(by simpa [ByteArray.size] using hlt) = b := by rw [← hb]; simp [ByteArray.getElem_eq_getElem_data]
            have hF := HF.out
            rw [List.drop_eq_getElem_cons hlt, hb, List.all_cons] at hF
            have HG := Lib.hid hF
            have S2 := Lib.hid (smallS b w)
            have S3 := Lib.hid (digitS b w)
            clear hF HF hb
            cases hs : sml b with
            | true =>
              have HQ := Lib.hid (HG.out.trans (by rw [hs]; rfl) : l.all (fun c => sml c || isDig c) = (l.drop (k + 1)).all (fun c => sml c || isDig c))
              rw [hs] at S2
              clear HG hs S3
              go_wp2_with fail
              refine S2.out.mono ?_
              rintro e w1 ⟨rfl, rfl⟩
              clear S2
              go_wp2_with fail
              go_round
              case rel => exact ⟨k + 1, by omega, by go_num, HQ⟩
              case measure => simp [intOf]; omega
            | false =>
              rw [hs] at S2
              cases hd : isDig b with
              | true =>
                have HQ := Lib.hid (HG.out.trans (by rw [hs, hd]; rfl) : l.all (fun c => sml c || isDig c) = (l.drop (k + 1)).all (fun c => sml c || isDig c))
                rw [hd] at S3
                clear HG hs hd
                go_wp2_with fail
                refine S2.out.mono ?_
                rintro e w1 ⟨rfl, rfl⟩
                clear S2
                go_wp2_with fail
                refine S3.out.mono ?_
                rintro e w1 ⟨rfl, rfl⟩
                clear S3
                go_wp2_with fail
                go_round
                case rel => exact ⟨k + 1, by omega, by go_num, HQ⟩
                case measure => simp [intOf]; omega
              | false =>
                have HR := Lib.hid (show nameF l = false by rw [HA.out, HG.out, hs, hd]; rfl)
                rw [hd] at S3
                clear HG hs hd HA
                go_wp2_with fail
                refine S2.out.mono ?_
                rintro e w1 ⟨rfl, rfl⟩
                clear S2
                go_wp2_with fail
                refine S3.out.mono ?_
                rintro e w1 ⟨rfl, rfl⟩
                clear S3
                go_wp2_with fail
                go_ret
                exact ⟨by rw [HR.out]; rfl, rfl⟩
          · obtain rfl : k = l.length := by omega
            have HR := Lib.hid (show nameF l = true by rw [HA.out, HF.out, List.drop_of_length_le (Nat.le_refl _)]; rfl)
            clear HF HA
            go_wp2_with fail
            go_ret
            exact ⟨by rw [HR.out]; rfl, rfl⟩
    · have HR := Lib.hid (show nameF l = false by unfold nameF; rw [decide_eq_false hlen]; simp)
      have g1 : (10 : Int) < (l.length : Int) := by omega
      clear hcase hlen
      go_enter Tryz.func83, Tryz.ntmps83
      go_wp2_with fail
      go_ret
      exact ⟨by rw [HR.out]; rfl, rfl⟩

theorem actionS (l : List UInt8) (w : World) (hl : l.length ≤ 2000000) :
    Calls Tryz.prog 87 #[es l] w fun e w' => e = .returned (.bool (actF l)) ∧ w = w' := by
  have S1 := Lib.hid (nameS l w hl)
  cases hn : nameF l with
  | false =>
    have HR := Lib.hid (show actF l = false by simp [actF, hn])
    rw [hn] at S1
    clear hn
    go_enter Tryz.func87, Tryz.ntmps87
    go_wp2_with fail
    refine S1.out.mono ?_
    rintro e w1 ⟨rfl, rfl⟩
    clear S1
    go_wp2_with fail
    go_ret
    exact ⟨by rw [HR.out]; rfl, rfl⟩
  | true =>
    have HR := Lib.hid (show actF l = (l != tauL) by simp [actF, hn])
    rw [hn] at S1
    clear hn
    go_enter Tryz.func87, Tryz.ntmps87
    go_wp2_with fail
    refine S1.out.mono ?_
    rintro e w1 ⟨rfl, rfl⟩
    clear S1
    go_wp2_with fail
    go_ret
    refine ⟨?_, rfl⟩
    rw [HR.out]
    simp [tauL, bne]

end Go.Proofs.YtijmkcnipflpbaaGreatDoor

/-
  The order of texts.
-/
namespace Go.Proofs.YtijmkcnipflpbaaGreatDoor
open Go.RowKit

def bl (a b : List UInt8) : Bool := Op.bytesLess a b
theorem bl_total : ∀ a b : List UInt8, (bl a b || a == b) = !bl b a
  | [], [] => rfl
  | [], _ :: _ => rfl
  | _ :: _, [] => rfl
  | a :: x, b :: y => by
    have ih := bl_total x y
    unfold bl at ih ⊢
    simp only [Op.bytesLess]
    rcases Nat.lt_trichotomy a.toNat b.toNat with h | h | h
    · have h1 : a < b := UInt8.lt_iff_toNat_lt.2 h
      have h2 : ¬ b < a := fun h2 => by have := UInt8.lt_iff_toNat_lt.1 h2; omega
      have h3 : ¬ b = a := fun e => by rw [e] at h; omega
      simp [h1, h2, h3]
    · have e : a = b := UInt8.toNat_inj.1 h
      subst e
      have h2 : ¬ a < a := fun h2 => by have := UInt8.lt_iff_toNat_lt.1 h2; omega
      simp only [h2, decide_false, Bool.false_or, beq_self_eq_true, Bool.true_and]
      rw [← ih]
      simp
    · have h1 : b < a := UInt8.lt_iff_toNat_lt.2 h
      have h2 : ¬ a < b := fun h2 => by have := UInt8.lt_iff_toNat_lt.1 h2; omega
      have h3 : ¬ a = b := fun e => by rw [e] at h; omega
      simp [h1, h2, h3]

end Go.Proofs.YtijmkcnipflpbaaGreatDoor

/-
  Lists of names: whether one is valid, and whether a name is in it; both sides.
-/
namespace Go.Proofs.YtijmkcnipflpbaaGreatDoor
open Go.RowKit

def goodAt (l : List (List UInt8)) (j : Nat) : Bool := actF (l.getD j []) && (decide (j = 0) || bl (l.getD (j - 1) []) (l.getD j []))
/-- at most twelve names of actions, increasing. -/
def namesF (l : List (List UInt8)) : Bool := (List.range l.length).all (goodAt l) && decide (l.length ≤ 12)
theorem namesF_no {l : List (List UInt8)} {k : Nat} (hk : k < l.length) (h : goodAt l k = false) : namesF l = false := by
  unfold namesF
  rw [Bool.and_eq_false_iff]; left
  rw [List.all_eq_false]
  exact ⟨k, by simpa using hk, by simp [h]⟩
theorem namesF_yes {l : List (List UInt8)} (h : ∀ j, j < l.length → goodAt l j = true) : namesF l = decide (l.length ≤ 12) := by
  unfold namesF
  rw [show (List.range l.length).all (goodAt l) = true from List.all_eq_true.2 (fun j hj => h j (by simpa using hj)), Bool.true_and]
theorem goodAt_eq {l : List (List UInt8)} {k : Nat} (hk : k < l.length) : goodAt l k = (actF l[k] && (decide (k = 0) || bl (l.getD (k - 1) []) l[k])) := by
  unfold goodAt
  rw [List.getD_eq_getElem?_getD, List.getElem?_eq_getElem hk]; rfl

set_option maxRecDepth 20000 in
set_option maxHeartbeats 2000000 in
theorem namesOkI (v : Value) (xs : List (List UInt8)) (w : World) (fp : List Nat) (hR : R_S1 fp w [v] xs) (hl : xs.length ≤ 2000000) (ht : ∀ s ∈ xs, s.length ≤ 2000000) :
    Calls Tryz.prog 72 #[v] w fun e w' => e = .returned (.bool (namesF xs)) ∧ Upd [] w w' := by
  obtain ⟨a, c, rfl, hl1, hm1, hc⟩ := slF1_open hR
  unfold maxLen at hm1
  have HC := Lib.hid hc
  have HT := Lib.hid ht
  have HN := Lib.hid (fun k (hk : k < xs.length) (h : goodAt xs k = false) => namesF_no hk h)
  have HY := Lib.hid (fun (h : ∀ j, j < xs.length → goodAt xs j = true) => namesF_yes h)
  have HG := Lib.hid (fun k (hk : k < xs.length) => goodAt_eq hk)
  clear hR hc ht
  generalize namesF xs = Z at *
  go_enter Tryz.func72, Tryz.ntmps72
  go_wp2_with fail
  go_loopw [7] (fun iv wr => ∃ k : Nat, k ≤ xs.length ∧ iv = .int .i64 k ∧ wr = w ∧ Hid (∀ j, j < k → goodAt xs j = true)) (fun iv _ => xs.length - (intOf iv).toNat)
  case atStart => exact ⟨0, Nat.zero_le _, rfl, rfl, Lib.hid (fun j hj => absurd hj (Nat.not_lt_zero _))⟩
  case round =>
    obtain ⟨k, hk, rfl, rfl, HA⟩ := hrel
    by_cases hlt : k < xs.length
    · obtain ⟨b, off, rfl, -, -, hcell⟩ := HC.out k hlt
      have S1 := Lib.hid (fun W => isActionI xs[k] W (HT.out _ (List.getElem_mem hlt)))
      have HGK := Lib.hid (HG.out k hlt)
      have HK := Lib.hid hlt
      by_cases h0 : k = 0
      · subst h0
        replace HGK := Lib.hid (show goodAt xs 0 = actF xs[0] by rw [HGK.out]; simp; try rfl)
        simp only [Nat.add_zero] at hcell
        generalize xs[0] = x at *
        generalize actF x = q at *
        cases q with
        | false =>
          have HZ := Lib.hid (HN.out 0 HK.out HGK.out)
          clear HGK
          go_wp2_with fail
          refine (S1.out _).mono ?_
          rintro e w1 ⟨rfl, rfl⟩
          go_wp2_with fail
          go_ret
          exact ⟨by rw [HZ.out]; rfl, Upd.refl _ _⟩
        | true =>
          go_wp2_with fail
          refine (S1.out _).mono ?_
          rintro e w1 ⟨rfl, rfl⟩
          go_wp2_with fail
          go_roundw
          case rel =>
            refine ⟨1, by omega, by go_num, by first | rfl | trivial, Lib.hid (fun j hj => ?_)⟩
            have e : j = 0 := Nat.lt_one_iff.1 hj
            rw [e]; exact HGK.out
          case measure => simp [intOf]; omega
      · have hk1 : k - 1 < xs.length := by omega
        obtain ⟨b', off', hbb, -, -, hcell2⟩ := HC.out (k - 1) hk1
        cases hbb
        have i0 : IntKind.i64.wrap ((k : Int) - 1) = (k : Int) - 1 := IntWalk.i64_in _ (by omega)
        have i1 : ((k : Int) - 1).toNat = k - 1 := by omega
        have i3 : (0 : Int) ≤ (k : Int) - 1 := by omega
        have i4 : (k : Int) - 1 < (xs.length : Int) := by omega
        have i5 : (1 : Int) ≤ (k : Int) := by omega
        have i6 : (0 : Int) < (k : Int) := by omega
        have i7 : decide (0 < k) = true := decide_eq_true (by omega)
        have i8 : decide ((0 : Int) < (k : Int)) = true := decide_eq_true (by omega)
        replace HGK := Lib.hid (show goodAt xs k = (actF xs[k] && bl xs[k - 1] xs[k]) by
          rw [HGK.out, decide_eq_false h0, Bool.false_or, List.getD_eq_getElem?_getD, List.getElem?_eq_getElem hk1]; rfl)
        have HH0 := Lib.hid h0
        generalize xs[k] = x at *
        generalize xs[k - 1] = y at *
        clear h0
        cases hq : actF x with
        | false =>
          have HZ := Lib.hid (HN.out k HK.out (by rw [HGK.out, hq]; rfl))
          rw [hq] at S1
          clear HGK hq
          go_wp2_with fail
          refine (S1.out _).mono ?_
          rintro e w1 ⟨rfl, rfl⟩
          go_wp2_with fail
          go_ret
          exact ⟨by rw [HZ.out]; rfl, Upd.refl _ _⟩
        | true =>
          rw [hq] at S1
          have hcmp : (Op.bytesLess x y || x == y) = !bl y x := bl_total x y
          replace HGK := Lib.hid (show goodAt xs k = bl y x by rw [HGK.out, hq]; rfl)
          clear hq
          generalize bl y x = q at *
          cases q with
          | false =>
            have HZ := Lib.hid (HN.out k HK.out HGK.out)
            clear HGK
            go_wp2_with fail
            refine (S1.out _).mono ?_
            rintro e w1 ⟨rfl, rfl⟩
            go_wp2_with fail
            go_ret
            exact ⟨by rw [HZ.out]; rfl, Upd.refl _ _⟩
          | true =>
            go_wp2_with fail
            refine (S1.out _).mono ?_
            rintro e w1 ⟨rfl, rfl⟩
            go_wp2_with fail
            go_roundw
            case rel =>
              refine ⟨k + 1, by omega, by go_num, by first | rfl | trivial, Lib.hid (fun j hj => ?_)⟩
              by_cases e : j = k
              · subst e; exact HGK.out
              · exact HA.out j (by omega)
            case measure => simp [intOf]; omega
    · obtain rfl : k = xs.length := by omega
      have HZ := Lib.hid (HY.out HA.out)
      by_cases h12 : xs.length ≤ 12
      · have e : (xs.length : Int) ≤ 12 := by omega
        replace HZ := Lib.hid (show Z = true by rw [HZ.out, decide_eq_true h12])
        go_wp2_with fail
        go_ret
        exact ⟨by rw [HZ.out]; rfl, Upd.refl _ _⟩
      · have e : ¬ (xs.length : Int) ≤ 12 := by omega
        replace HZ := Lib.hid (show Z = false by rw [HZ.out, decide_eq_false h12])
        go_wp2_with fail
        go_ret
        exact ⟨by rw [HZ.out]; rfl, Upd.refl _ _⟩

set_option maxRecDepth 20000 in
set_option maxHeartbeats 2000000 in
theorem actionsS (v : Value) (xs : List (List UInt8)) (w : World) (fp : List Nat) (hR : R_S1 fp w [v] xs) (ht : ∀ s ∈ xs, s.length ≤ 2000000) :
    Calls Tryz.prog 88 #[v] w fun e w' => e = .returned (.bool (xs.all actF)) ∧ w = w' := by
  obtain ⟨a, c, rfl, hl1, hm1, hc⟩ := slF1_open hR
  unfold maxLen at hm1
  have HC := Lib.hid hc
  have HT := Lib.hid ht
  have HN := Lib.hid (fun k (hk : k < xs.length) (h : actF xs[k] = false) => (List.all_eq_false.2 ⟨xs[k], List.getElem_mem hk, by simp [h]⟩ : xs.all actF = false))
  have HY := Lib.hid (fun (h : ∀ j (hj : j < xs.length), actF xs[j] = true) => (List.all_eq_true.2 (fun s hs => by obtain ⟨j, hj, rfl⟩ := List.mem_iff_getElem.1 hs; exact h j hj) : xs.all actF = true))
  clear hR hc ht
  generalize xs.all actF = Z at *
  go_enter Tryz.func88, Tryz.ntmps88
  go_wp2_with fail
  go_loopw [3] (fun iv wr => ∃ k : Nat, k ≤ xs.length ∧ iv = .int .i64 k ∧ wr = w ∧ Hid (∀ j (hj : j < xs.length), j < k → actF xs[j] = true)) (fun iv _ => xs.length - (intOf iv).toNat)
  case atStart => exact ⟨0, Nat.zero_le _, rfl, rfl, Lib.hid (fun j _ hj => absurd hj (Nat.not_lt_zero _))⟩
  case round =>
    obtain ⟨k, hk, rfl, rfl, HA⟩ := hrel
    by_cases hlt : k < xs.length
    · obtain ⟨b, off, rfl, -, -, hcell⟩ := HC.out k hlt
      have S1 := Lib.hid (fun W => actionS xs[k] W (HT.out _ (List.getElem_mem hlt)))
      have HK := Lib.hid (HN.out k hlt)
      have HB := Lib.hid (fun (h : actF xs[k] = true) j (hj : j < xs.length) (hjk : j < k + 1) => (show actF xs[j] = true by
        by_cases e : j = k
        · subst e; exact h
        · exact HA.out j hj (by omega)))
      generalize xs[k] = x at *
      generalize actF x = q at *
      cases q with
      | false =>
        have HZ := Lib.hid (HK.out rfl)
        clear HK HB
        go_wp2_with fail
        refine (S1.out _).mono ?_
        rintro e w1 ⟨rfl, rfl⟩
        go_wp2_with fail
        go_ret
        exact ⟨by rw [HZ.out]; rfl, by first | rfl | trivial⟩
      | true =>
        replace HB := Lib.hid (HB.out rfl)
        clear HK
        go_wp2_with fail
        refine (S1.out _).mono ?_
        rintro e w1 ⟨rfl, rfl⟩
        go_wp2_with fail
        go_roundw
        case rel => exact ⟨k + 1, by omega, by go_num, by first | rfl | trivial, HB⟩
        case measure => simp [intOf]; omega
    · have HZ := Lib.hid (HY.out (fun j hj => HA.out j hj (by omega)))
      go_wp2_with fail
      go_ret
      exact ⟨by rw [HZ.out]; rfl, by first | rfl | trivial⟩

theorem namesF_of {l : List (List UInt8)} (ha : l.all actF = true) : (∀ j, 0 < j → j < l.length → bl (l.getD (j - 1) []) (l.getD j []) = true) → namesF l = decide (l.length ≤ 12) := fun h => namesF_yes (fun j hj => by
  rw [goodAt_eq hj, List.all_eq_true.1 ha _ (List.getElem_mem hj), Bool.true_and]
  by_cases h0 : j = 0
  · simp [h0]
  · have := h j (by omega) hj
    rw [List.getD_eq_getElem?_getD (i := j), List.getElem?_eq_getElem hj] at this
    rw [show bl (l.getD (j - 1) []) l[j] = true from this, Bool.or_true])
theorem namesF_noA {l : List (List UInt8)} (ha : l.all actF = false) : namesF l = false := by
  obtain ⟨s, hs, h⟩ := List.all_eq_false.1 ha
  obtain ⟨j, hj, rfl⟩ := List.mem_iff_getElem.1 hs
  exact namesF_no hj (by rw [goodAt_eq hj, Bool.eq_false_iff.2 h, Bool.false_and])
theorem namesF_noB {l : List (List UInt8)} {k : Nat} (hk : k < l.length) (h0 : 0 < k) (h : bl (l.getD (k - 1) []) l[k] = false) : namesF l = false :=
  namesF_no hk (by rw [goodAt_eq hk, h, decide_eq_false (by omega)]; simp)
theorem namesF_noL {l : List (List UInt8)} (h : ¬ l.length ≤ 12) : namesF l = false := by unfold namesF; rw [decide_eq_false h, Bool.and_false]

set_option maxRecDepth 20000 in
set_option maxHeartbeats 2000000 in
theorem nameListS (v : Value) (xs : List (List UInt8)) (w : World) (fp : List Nat) (hR : R_S1 fp w [v] xs) (hl : xs.length ≤ 2000000) (ht : ∀ s ∈ xs, s.length ≤ 2000000) :
    Calls Tryz.prog 63 #[v] w fun e w' => e = .returned (.bool (namesF xs)) ∧ Upd [] w w' := by
  have S1 := Lib.hid (fun W (h : W = w) => actionsS v xs W fp (by rw [h]; exact hR) ht)
  obtain ⟨a, c, rfl, hl1, hm1, hc⟩ := slF1_open hR
  unfold maxLen at hm1
  have HC := Lib.hid hc
  have HL := Lib.hid (fun (h : ¬ xs.length ≤ 12) => namesF_noL h)
  have HA := Lib.hid (fun (h : xs.all actF = false) => namesF_noA h)
  have HB := Lib.hid (fun k (hk : k < xs.length) (h0 : 0 < k) (h : bl (xs.getD (k - 1) []) xs[k] = false) => namesF_noB hk h0 h)
  have HY := Lib.hid (fun (ha : xs.all actF = true) (h : ∀ j, 0 < j → j < xs.length → bl (xs.getD (j - 1) []) (xs.getD j []) = true) => namesF_of ha h)
  clear hR hc ht
  generalize namesF xs = Z at *
  generalize xs.all actF = qa at *
  by_cases h12 : xs.length ≤ 12
  · have e12 : ¬ (12 : Int) < (xs.length : Int) := by omega
    cases qa with
    | false =>
      have HZ := Lib.hid (HA.out rfl)
      go_enter Tryz.func63, Tryz.ntmps63
      go_wp2_with fail
      refine (S1.out _ rfl).mono ?_
      rintro e w1 ⟨rfl, rfl⟩
      go_wp2_with fail
      go_ret
      exact ⟨by rw [HZ.out]; rfl, Upd.refl _ _⟩
    | true =>
      have HZ := Lib.hid (HY.out rfl)
      clear HA HL HY
      go_enter Tryz.func63, Tryz.ntmps63
      go_wp2_with fail
      refine (S1.out _ rfl).mono ?_
      rintro e w1 ⟨rfl, rfl⟩
      clear S1
      go_wp2_with fail
      go_loopw [3] (fun iv wr => ∃ (k m : Nat), 1 ≤ k ∧ iv = .int .i64 k ∧ k ≤ xs.length + 1 ∧ wr = w.drewN m ∧ Hid (∀ j, 0 < j → j < xs.length → j < k → bl (xs.getD (j - 1) []) (xs.getD j []) = true)) (fun iv _ => xs.length + 1 - (intOf iv).toNat)
      case atStart => exact ⟨1, 0, Nat.le_refl _, rfl, by omega, rfl, Lib.hid (fun j h1 _ h2 => absurd h2 (by omega))⟩
      case round =>
        obtain ⟨k, m, h1, rfl, hk1, rfl, HI⟩ := hrel
        by_cases hlt : k < xs.length
        · obtain ⟨b, off, rfl, -, -, hcell⟩ := HC.out k hlt
          obtain ⟨b', off', hbb, -, -, hcell2⟩ := HC.out (k - 1) (by omega)
          cases hbb
          have hk2 : k - 1 < xs.length := by omega
          have i0 : IntKind.i64.wrap ((k : Int) - 1) = (k : Int) - 1 := IntWalk.i64_in _ (by omega)
          have i1 : ((k : Int) - 1).toNat = k - 1 := by omega
          have i3 : (0 : Int) ≤ (k : Int) - 1 := by omega
          have i4 : (k : Int) - 1 < (xs.length : Int) := by omega
          have i5 : (1 : Int) ≤ (k : Int) := by omega
          have HBK := Lib.hid (show bl xs[k - 1] xs[k] = false → Z = false from fun h => HB.out k hlt (by omega) (by rw [List.getD_eq_getElem?_getD, List.getElem?_eq_getElem hk2]; exact h))
          have HIK := Lib.hid (show bl xs[k - 1] xs[k] = true → ∀ j, 0 < j → j < xs.length → j < k + 1 → bl (xs.getD (j - 1) []) (xs.getD j []) = true from fun h j q1 q2 q3 => by
            by_cases e : j = k
            · subst e
              rw [List.getD_eq_getElem?_getD, List.getElem?_eq_getElem hk2, List.getD_eq_getElem?_getD, List.getElem?_eq_getElem hlt]; exact h
            · exact HI.out j q1 q2 (by omega))
          generalize xs[k] = x at *
          generalize xs[k - 1] = y at *
          have hcmp : (Op.bytesLess x y || x == y) = !bl y x := bl_total x y
          have hcmp3 : Op.bytesLess y x = bl y x := rfl
          have hcmp2 : (Op.bytesLess x y || y == x) = !bl y x := by rw [← hcmp]; congr 1; rw [Bool.eq_iff_iff]; simp; exact eq_comm
          generalize bl y x = q at *
          cases q with
          | false =>
            have HZ := Lib.hid (HBK.out rfl)
            clear HBK HIK
            go_wp2_with fail
            go_quiet (fail)
            go_wp2_with fail
            go_ret
            exact ⟨by rw [HZ.out]; rfl, by first | exact (Upd.refl _ _).drewN _ | (rw [drewN_add]; exact (Upd.refl _ _).drewN _)⟩
          | true =>
            replace HIK := Lib.hid (HIK.out rfl)
            clear HBK
            go_wp2_with fail
            go_quiet (fail)
            go_wp2_with fail
            go_roundw
            case rel => exact ⟨k + 1, _, by omega, by go_num, by omega, rfl, HIK⟩
            case measure => simp [intOf]; omega
        · replace HZ := Lib.hid (HZ.out (fun j q1 q2 => HI.out j q1 q2 (by omega)))
          replace HZ := Lib.hid (show Z = true by rw [HZ.out, decide_eq_true h12])
          go_wp2_with fail
          go_ret
          exact ⟨by rw [HZ.out]; rfl, (Upd.refl _ _).drewN _⟩
  · have e12 : (12 : Int) < (xs.length : Int) := by omega
    have HZ := Lib.hid (HL.out h12)
    go_enter Tryz.func63, Tryz.ntmps63
    go_wp2_with fail
    go_ret
    exact ⟨by rw [HZ.out]; rfl, Upd.refl _ _⟩

end Go.Proofs.YtijmkcnipflpbaaGreatDoor

/-
  Systems of components, plainly: which are valid.
-/
namespace Go.Proofs.YtijmkcnipflpbaaGreatDoor
open Go.RowKit

/-- a component: which definition it begins with, and the values. -/
structure Co where
  dfn : Int
  vals : List Int
deriving DecidableEq
/-- two actions that meet, and what comes of them. -/
structure Me where
  left : List UInt8
  right : List UInt8
  result : List UInt8
deriving DecidableEq
/-- a system. -/
structure Sy where
  defs : List De
  comps : List Co
  meets : List Me
  allow : List (List UInt8)
  hide : List (List UInt8)
deriving DecidableEq

/-- a component is valid for definitions. -/
def compOk (ds : List De) (c : Co) : Bool :=
  inB c.dfn 0 ((ds.length : Int) - 1) && ((c.vals.length : Int) == (ds.map De.pars).getD c.dfn.toNat 0) && c.vals.all (fun n => inB n 0 63)
def compsOk (ds : List De) (l : List Co) : Bool := inB (l.length : Int) 1 3 && l.all (compOk ds)
/-- meetings are ordered by the left name and then by the right one. -/
def lessM (a b : Me) : Bool := bl a.left b.left || (a.left == b.left && bl a.right b.right)
def goodM (l : List Me) (j : Nat) (m : Me) : Bool :=
  (actF m.left && actF m.right && actF m.result && !bl m.right m.left) && (decide (j = 0) || lessM (l.getD (j - 1) ⟨[], [], []⟩) m) &&
    l.all (fun o => !(o.left == m.result || o.right == m.result))
def meetsF (l : List Me) : Bool := ((List.range l.length).all fun j => goodM l j (l.getD j ⟨[], [], []⟩)) && decide (l.length ≤ 6)
theorem meetsF_no {l : List Me} {k : Nat} (hk : k < l.length) (h : goodM l k l[k] = false) : meetsF l = false := by
  unfold meetsF
  rw [Bool.and_eq_false_iff]; left
  rw [List.all_eq_false]
  refine ⟨k, by simpa using hk, ?_⟩
  rw [List.getD_eq_getElem?_getD, List.getElem?_eq_getElem hk, Option.getD_some, h]; simp
theorem meetsF_yes {l : List Me} (h : ∀ j (hj : j < l.length), goodM l j l[j] = true) : meetsF l = decide (l.length ≤ 6) := by
  unfold meetsF
  rw [List.all_eq_true.2 (fun j hj => ?_), Bool.true_and]
  have hj : j < l.length := by simpa using hj
  rw [List.getD_eq_getElem?_getD, List.getElem?_eq_getElem hj, Option.getD_some]
  exact h j hj
/-- marked texts. -/
def up_S1 (k : Int) (r : List (List UInt8)) : List (List UInt8) := mkS k r.length
/-- a system is valid. -/
def sysOk (s : Sy) : Bool := defsOk s.defs && compsOk s.defs s.comps && meetsF s.meets && namesF s.allow && namesF s.hide

end Go.Proofs.YtijmkcnipflpbaaGreatDoor

/-
  The places of a body's parts, by the tree and by counting; the end of a part: plain.
-/
namespace Go.Proofs.YtijmkcnipflpbaaGreatDoor
open Go.RowKit

mutual
/-- the places of a tree's parts: how many variables are in scope, and whether it stands behind an action. -/
def plT : Tr Pa → Int → Bool → List (Int × Bool)
  | .mk p args, s, b => (s, b) :: plTs args (s + if sumP p then 1 else 0) (p.kind == 1)
def plTs : List (Tr Pa) → Int → Bool → List (Int × Bool)
  | [], _, _ => []
  | x :: xs, s, b => plT x s b ++ plTs xs s b
end
mutual
theorem plT_fst : ∀ (x : Tr Pa) (s : Int) (b : Bool), (plT x s b).map Prod.fst = scT sumP x s
  | .mk p args, s, b => by simp only [plT, scT, List.map_cons]; rw [plTs_fst args]
theorem plTs_fst : ∀ (xs : List (Tr Pa)) (s : Int) (b : Bool), (plTs xs s b).map Prod.fst = scTs sumP xs s
  | [], _, _ => by simp [plTs, scTs]
  | x :: xs, s, b => by simp only [plTs, scTs, List.map_append]; rw [plT_fst x, plTs_fst xs]
end
theorem plT_len (x : Tr Pa) (s : Int) (b : Bool) : (plT x s b).length = (flatT x).length := by
  rw [← scT_len sumP x s, ← plT_fst x s b, List.length_map]
theorem plTs_len (xs : List (Tr Pa)) (s : Int) (b : Bool) : (plTs xs s b).length = (flatTs xs).length := by
  rw [← scTs_len sumP xs s, ← plTs_fst xs s b, List.length_map]
theorem plTs_append (xs ys : List (Tr Pa)) (s : Int) (b : Bool) : plTs (xs ++ ys) s b = plTs xs s b ++ plTs ys s b := by
  induction xs with
  | nil => simp [plTs]
  | cons x xs ih => simp [plTs, ih]
theorem plTs_take (xs : List (Tr Pa)) (s : Int) (b : Bool) (k : Nat) (h : k < xs.length) : plTs (xs.take (k + 1)) s b = plTs (xs.take k) s b ++ plT xs[k] s b := by
  rw [List.take_succ_eq_append_getElem h, plTs_append]; simp [plTs]
theorem plT_head (x : Tr Pa) (s : Int) (b : Bool) : (plT x s b)[0]? = some (s, b) := by cases x; simp [plT]
theorem kd_nil {p : Pa} {args : List (Tr Pa)} (h : (args.length : Int) = folP p) : (args = [] → (p.kind == 1) = false) ∧ ((p.kind == 1) = true → args.length ≤ 1) := by
  constructor
  · intro e
    subst e
    simp only [List.length_nil] at h
    unfold folP at h
    cases hk : p.kind == 1 with
    | false => rfl
    | true => rw [if_pos (Or.inl (by simpa using hk))] at h; omega
  · intro e
    unfold folP at h
    rw [if_pos (Or.inl (by simpa using e))] at h; omega
mutual
/-- the last part of a tree is no action. -/
theorem last_kd : ∀ (x : Tr Pa), okT folP x = true → ∃ p, (flatT x)[(flatT x).length - 1]? = some p ∧ (p.kind == 1) = false
  | .mk p args, h => by
    simp only [okT, Bool.and_eq_true, decide_eq_true_eq] at h
    by_cases e : args = []
    · subst e
      exact ⟨p, by simp [flatT, flatTs], (kd_nil h.1).1 rfl⟩
    · obtain ⟨q, h1, h2⟩ := last_kds args h.2 e
      refine ⟨q, ?_, h2⟩
      have hp : 1 ≤ (flatTs args).length := by
        cases args with
        | nil => exact absurd rfl e
        | cons x xs => rw [flatTs, List.length_append]; have := flatT_pos x; omega
      rw [flatT, List.length_cons, show (flatTs args).length + 1 - 1 = ((flatTs args).length - 1) + 1 by omega, List.getElem?_cons_succ]
      exact h1
theorem last_kds : ∀ (xs : List (Tr Pa)), okTs folP xs = true → xs ≠ [] → ∃ p, (flatTs xs)[(flatTs xs).length - 1]? = some p ∧ (p.kind == 1) = false
  | [], _, h => absurd rfl h
  | x :: xs, h, _ => by
    simp only [okTs, Bool.and_eq_true] at h
    have hx := flatT_pos x
    by_cases e : xs = []
    · subst e
      obtain ⟨p, h1, h2⟩ := last_kd x h.1
      exact ⟨p, by simpa [flatTs] using h1, h2⟩
    · obtain ⟨q, h1, h2⟩ := last_kds xs h.2 e
      refine ⟨q, ?_, h2⟩
      have hl : (flatTs xs).length - 1 < (flatTs xs).length := (List.getElem?_eq_some_iff.1 h1).1
      rw [flatTs, List.length_append, List.getElem?_append_right (by omega), show (flatT x).length + (flatTs xs).length - 1 - (flatT x).length = (flatTs xs).length - 1 by omega]
      exact h1
end
mutual
/-- a part stands behind an action if the one before it is one. -/
theorem plT_snd : ∀ (x : Tr Pa) (s : Int) (b : Bool) (i : Nat) (p : Pa), okT folP x = true → (flatT x)[i]? = some p → i + 1 < (flatT x).length → ((plT x s b).map Prod.snd)[i + 1]? = some (p.kind == 1)
  | .mk q args, s, b, i, p, h, hp, hi => by
    simp only [okT, Bool.and_eq_true, decide_eq_true_eq] at h
    simp only [flatT, List.length_cons] at hi
    simp only [plT, List.map_cons, List.getElem?_cons_succ]
    cases i with
    | zero =>
      simp [flatT] at hp
      subst hp
      cases args with
      | nil => simp [flatTs] at hi
      | cons x xs =>
        rw [plTs, List.map_append, List.getElem?_append_left (by rw [List.length_map, plT_len]; exact flatT_pos x), List.getElem?_map, plT_head]; rfl
    | succ i =>
      simp only [flatT, List.getElem?_cons_succ] at hp
      exact plTs_snd args (s + if sumP q then 1 else 0) (q.kind == 1) i p h.2 (kd_nil h.1).2 hp (by omega)
theorem plTs_snd : ∀ (xs : List (Tr Pa)) (s : Int) (b : Bool) (i : Nat) (p : Pa), okTs folP xs = true → (b = true → xs.length ≤ 1) → (flatTs xs)[i]? = some p → i + 1 < (flatTs xs).length → ((plTs xs s b).map Prod.snd)[i + 1]? = some (p.kind == 1)
  | [], _, _, i, p, _, _, hp, _ => by simp [flatTs] at hp
  | x :: xs, s, b, i, p, h, hb, hp, hi => by
    simp only [okTs, Bool.and_eq_true] at h
    simp only [flatTs, List.length_append] at hi
    have hx := flatT_pos x
    rw [plTs, List.map_append]
    by_cases h1 : i + 1 < (flatT x).length
    · rw [List.getElem?_append_left (by rw [List.length_map, plT_len]; exact h1)]
      exact plT_snd x s b i p h.1 (by rw [flatTs, List.getElem?_append_left (by omega)] at hp; exact hp) h1
    · rw [List.getElem?_append_right (by rw [List.length_map, plT_len]; omega), List.length_map, plT_len]
      by_cases h2 : i + 1 = (flatT x).length
      · rw [h2, Nat.sub_self]
        obtain ⟨q, g1, g2⟩ := last_kd x h.1
        rw [flatTs, List.getElem?_append_left (by omega), show i = (flatT x).length - 1 by omega, g1] at hp
        cases hp
        rw [g2]
        cases xs with
        | nil => simp [flatTs] at hi; omega
        | cons y ys =>
          have hbf : b = false := by
            cases b with
            | false => rfl
            | true => have := hb rfl; simp at this
          rw [plTs, List.map_append, List.getElem?_append_left (by rw [List.length_map, plT_len]; exact flatT_pos y), List.getElem?_map, plT_head, hbf]; rfl
      · obtain ⟨j, rfl⟩ : ∃ j, i = (flatT x).length + j := ⟨i - (flatT x).length, by omega⟩
        rw [show (flatT x).length + j + 1 - (flatT x).length = j + 1 by omega]
        refine plTs_snd xs s b j p h.2 (fun e => by have := hb e; rw [List.length_cons] at this; omega) ?_ (by omega)
        rw [flatTs, List.getElem?_append_right (by omega), show (flatT x).length + j - (flatT x).length = j by omega] at hp
        exact hp
end
/-- the place of each part of a body. -/
theorem place_at {d : De} {x : Tr Pa} (hok : okT folP x = true) (hfl : flatT x = d.body) (i : Nat) (hi : i < d.body.length) :
    (plT x d.pars false)[i]? = some (d.pars + cntB folP sumP d.body i, behindP d.body i) := by
  have hl : (plT x d.pars false).length = d.body.length := by rw [plT_len, hfl]
  have h1 : ((plT x d.pars false).map Prod.fst)[i]? = some (d.pars + cntB folP sumP d.body i) := by
    rw [plT_fst]
    have := scT_cnt (ar := folP) (bind := sumP) x d.pars [] i hok (by rw [hfl]; exact hi)
    rw [List.append_nil, hfl] at this
    exact this
  have h2 : ((plT x d.pars false).map Prod.snd)[i]? = some (behindP d.body i) := by
    cases i with
    | zero => rw [List.getElem?_map, plT_head]; rfl
    | succ i =>
      have hp : (flatT x)[i]? = some d.body[i] := by rw [hfl]; exact List.getElem?_eq_getElem (by omega)
      rw [plT_snd x d.pars false i d.body[i] hok hp (by rw [hfl]; exact hi)]
      unfold behindP
      rw [decide_eq_true (by omega), Bool.true_and, Nat.add_sub_cancel, List.getD_eq_getElem?_getD, List.getElem?_map, List.getElem?_eq_getElem (show i < d.body.length by omega)]
      rfl
  rw [List.getElem?_map] at h1 h2
  rw [List.getElem?_eq_getElem (by omega)] at h1 h2 ⊢
  simp only [Option.map_some, Option.some.injEq] at h1 h2 ⊢
  exact Prod.ext h1 h2
theorem fill_in {β : Type} (row A B : List β) (k : Nat) (h : k + A.length + B.length ≤ row.length) :
    (row.take k ++ (A ++ row.drop (k + A.length))).take (k + A.length) ++ (B ++ (row.take k ++ (A ++ row.drop (k + A.length))).drop (k + A.length + B.length)) = row.take k ++ ((A ++ B) ++ row.drop (k + A.length + B.length)) := by
  have h1 : (row.take k).length = k := by rw [List.length_take]; omega
  have e : row.take k ++ (A ++ row.drop (k + A.length)) = (row.take k ++ A) ++ row.drop (k + A.length) := by simp
  have h2 : (row.take k ++ A).length = k + A.length := by rw [List.length_append, h1]
  rw [e, List.take_append_of_le_length (by omega), List.take_of_length_le (by omega), List.drop_append, List.drop_eq_nil_of_le (by omega), List.nil_append, h2, show k + A.length + B.length - (k + A.length) = B.length by omega, List.drop_drop]
  simp
/-- the shape's count never falls below what is still wanted of a part. -/
theorem endN_step {α : Type} (ar : α → Int) (m : Int) (t : α) (l : List α) (h : 0 < m) : endN ar m (t :: l) = 1 + endN ar (m + ar t - 1) l := by rw [endN, if_neg (by omega)]
theorem endN_done {α : Type} (ar : α → Int) (m : Int) (l : List α) (h : m ≤ 0) : endN ar m l = 0 := by
  cases l with
  | nil => rfl
  | cons t l => rw [endN, if_pos h]

theorem cntB_bd {α : Type} (ar : α → Int) (bind : α → Bool) : ∀ (l : List α) (i : Nat), 0 ≤ cntB ar bind l i ∧ cntB ar bind l i ≤ (l.length : Int)
  | [], i => by simp [cntB]
  | t :: l, 0 => by simp [cntB]; omega
  | t :: l, i + 1 => by
    obtain ⟨h1, h2⟩ := cntB_bd ar bind l i
    rw [cntB, List.length_cons]
    split <;> omega

end Go.Proofs.YtijmkcnipflpbaaGreatDoor

/-
  Which lists of definitions are valid, definition by definition: plain.
-/
namespace Go.Proofs.YtijmkcnipflpbaaGreatDoor
open Go.RowKit

/-- a definition of a list is as it must be. -/
def goodD (ds : List De) (k : Nat) (d : De) : Bool := nameF d.name && !((ds.take k).any fun o => o.name == d.name) && (faultP ds d).2 == 0
def sizeD (ds : List De) : Bool := (decide (1 ≤ ds.length) && decide (ds.length ≤ 4)) && (ds.all fun d => inB d.pars 0 3)
theorem goodD_dup {ds : List De} {k : Nat} (hk : k < ds.length) (h : ((ds.take k).any fun o => o.name == ds[k].name) = true) : ¬ (ds.map De.name).Nodup := by
  intro hn
  rw [List.any_eq_true] at h
  obtain ⟨o, ho, he⟩ := h
  obtain ⟨j, hj, rfl⟩ := List.mem_iff_getElem.1 ho
  simp only [List.length_take] at hj
  rw [List.getElem_take] at he
  have e : (ds.map De.name)[j]'(by simp; omega) = (ds.map De.name)[k]'(by simpa using hk) := by simpa using he
  rw [List.nodup_iff_pairwise_ne, List.pairwise_iff_getElem] at hn
  exact hn j k (by simp; omega) (by simpa using hk) (by omega) e
theorem goodD_nodup : ∀ {ds : List De}, (∀ k (hk : k < ds.length), ((ds.take k).any fun o => o.name == ds[k].name) = false) → (ds.map De.name).Nodup := by
  intro ds h
  rw [List.nodup_iff_pairwise_ne, List.pairwise_iff_getElem]
  intro i j hi hj hij
  simp only [List.length_map] at hi hj
  have := h j hj
  rw [List.any_eq_false] at this
  have h2 := this ds[i] (List.mem_iff_getElem.2 ⟨i, by simp; omega, by simp⟩)
  simpa using h2
theorem defsOk_no {ds : List De} {k : Nat} (hk : k < ds.length) (h : goodD ds k ds[k] = false) : defsOk ds = false := by
  cases hd : defsOk ds with
  | false => rfl
  | true =>
    exfalso
    unfold defsOk at hd
    simp only [Bool.and_eq_true, List.all_eq_true, decide_eq_true_eq, beq_iff_eq] at hd
    obtain ⟨⟨⟨⟨-, -⟩, h3⟩, h4⟩, h5⟩ := hd
    unfold goodD at h
    have hm : ds[k] ∈ ds := List.getElem_mem hk
    rw [h3 _ hm, h5 _ hm] at h
    simp only [Bool.true_and, BEq.rfl, Bool.and_true, Bool.not_eq_false'] at h
    exact goodD_dup hk h h4
theorem defsOk_yes {ds : List De} (h : ∀ j (hj : j < ds.length), goodD ds j ds[j] = true) : defsOk ds = sizeD ds := by
  have hg : ∀ j (hj : j < ds.length), nameF ds[j].name = true ∧ ((ds.take j).any fun o => o.name == ds[j].name) = false ∧ (faultP ds ds[j]).2 = 0 := fun j hj => by
    have := h j hj
    unfold goodD at this
    simp only [Bool.and_eq_true, Bool.not_eq_true', beq_iff_eq] at this
    exact ⟨this.1.1, this.1.2, this.2⟩
  have h1 : (ds.all fun d => nameF d.name) = true := List.all_eq_true.2 (fun d hd => by obtain ⟨j, hj, rfl⟩ := List.mem_iff_getElem.1 hd; exact (hg j hj).1)
  have h2 : (ds.all fun d => (faultP ds d).2 == 0) = true := List.all_eq_true.2 (fun d hd => by obtain ⟨j, hj, rfl⟩ := List.mem_iff_getElem.1 hd; simpa using (hg j hj).2.2)
  have h3 := goodD_nodup (fun k hk => (hg k hk).2.1)
  unfold defsOk sizeD
  rw [h1, h2, decide_eq_true h3]; simp
theorem defsOk_size {ds : List De} (h : sizeD ds = false) : defsOk ds = false := by
  unfold sizeD at h
  unfold defsOk
  rw [h]; rfl

end Go.Proofs.YtijmkcnipflpbaaGreatDoor

/-
  What is valid in a body, part by part, and how long its text is: plain.
-/
namespace Go.Proofs.YtijmkcnipflpbaaGreatDoor
open Go.RowKit

/-- a valid part. -/
structure PaFine (ds : List De) (p : Pa) : Prop where
  kind : 0 ≤ p.kind ∧ p.kind ≤ 5
  act : p.kind = 1 → p.name.length ≤ 10
  three : p.args.length ≤ 3
  one : p.kind = 3 → p.args.length = 1
  sum : p.kind = 4 → 1 ≤ p.num ∧ p.num ≤ 7
  call : p.kind = 5 → 0 ≤ p.num ∧ p.num < ds.length
  exps : ∀ e ∈ p.args, eOk e = true
theorem reason_fine {ds : List De} (hp : ∀ d ∈ ds, 0 ≤ d.pars ∧ d.pars ≤ 3) {p : Pa} {sc : Int} {b : Bool} (hs : sc ≤ 29) (h : reasonP ds p sc b = 0) : PaFine ds p := by
  unfold reasonP at h
  split at h
  · omega
  split at h
  · omega
  split at h
  · omega
  split at h
  · omega
  split at h
  · omega
  split at h
  · omega
  split at h
  · omega
  rename_i h1 h2 h3 h4 h5 h6 h7
  simp only [Bool.not_eq_true', Bool.not_eq_false] at h1 h4
  simp only [Bool.and_eq_true, Bool.or_eq_true, beq_iff_eq, Bool.not_eq_true', not_and, not_or, Bool.not_eq_false] at h2 h3
  have hk : 0 ≤ p.kind ∧ p.kind ≤ 5 := by
    unfold kindP at h1
    simp only [Bool.and_eq_true] at h1
    exact inB_true h1.1.1.1
  have hcall : p.kind = 5 → 0 ≤ p.num ∧ p.num < ds.length := fun e => by have := inB_true (h3.2 e); omega
  refine ⟨hk, fun e => ?_, ?_, fun e => ?_, fun e => inB_true (h3.1 e), hcall, fun e he => ?_⟩
  · have := h2 e
    unfold nameF at this
    simp only [Bool.and_eq_true, decide_eq_true_eq] at this
    exact this.1.1.2
  · unfold countP at h4
    split at h4
    · simp only [Bool.or_eq_true, Bool.and_eq_true, beq_iff_eq, decide_eq_true_eq] at h4
      omega
    split at h4
    · simp only [beq_iff_eq] at h4; omega
    split at h4
    · rename_i e5
      obtain ⟨n0, n1⟩ := hcall e5
      obtain ⟨j, hj⟩ : ∃ j : Nat, p.num = j := ⟨p.num.toNat, by omega⟩
      have hjl : j < ds.length := by omega
      rw [hj, Int.toNat_natCast, List.getD_eq_getElem?_getD, List.getElem?_map, List.getElem?_eq_getElem hjl] at h4
      simp only [Option.map_some, Option.getD_some, beq_iff_eq] at h4
      have := hp ds[j] (List.getElem_mem hjl)
      omega
    · unfold kindP at h1
      simp only [Bool.and_eq_true, Bool.or_eq_true, beq_iff_eq] at h1
      omega
  · unfold countP at h4
    rw [if_neg (by omega), if_pos e] at h4
    simpa using h4
  · have := h7
    rw [Bool.not_eq_true, List.any_eq_false] at this
    have := this e he
    exact eOk15 (by simpa using this) hs
theorem from_none {ds : List De} {d : De} {body : List Pa} : ∀ (l : List Pa) (i : Nat), (faultFrom ds d body i l).2 = 0 → ∀ j (hj : j < l.length), reasonP ds l[j] (d.pars + cntB folP sumP body (i + j)) (behindP body (i + j)) = 0
  | [], _, _, j, hj => by simp at hj
  | p :: l, i, h, j, hj => by
    rw [faultFrom] at h
    split at h
    · rename_i h0
      cases j with
      | zero => simpa using h0
      | succ j =>
        have := from_none l (i + 1) h j (by simpa using hj)
        rw [show i + 1 + j = i + (j + 1) by omega] at this
        simpa using this
    · rename_i h0
      exact absurd h h0
theorem defs_fine {ds : List De} (h : defsOk ds = true) : ds.length ≤ 4 ∧ 1 ≤ ds.length ∧ (∀ d ∈ ds, 0 ≤ d.pars ∧ d.pars ≤ 3) ∧ (∀ d ∈ ds, d.name.length ≤ 10) ∧ ∀ d ∈ ds, bodyOk d = true ∧ d.body.length ≤ 20 ∧ ∀ p ∈ d.body, PaFine ds p := by
  unfold defsOk at h
  simp only [Bool.and_eq_true, List.all_eq_true, decide_eq_true_eq, beq_iff_eq] at h
  obtain ⟨⟨⟨⟨⟨h1, h2⟩, h3⟩, h4⟩, -⟩, h6⟩ := h
  have hp : ∀ d ∈ ds, 0 ≤ d.pars ∧ d.pars ≤ 3 := fun d hd => inB_true (h3 d hd)
  refine ⟨h2, h1, hp, fun d hd => ?_, fun d hd => ?_⟩
  · have := h4 d hd
    unfold nameF at this
    simp only [Bool.and_eq_true, decide_eq_true_eq] at this
    exact this.1.1.2
  · have hf := h6 d hd
    unfold faultP at hf
    by_cases hb : bodyOk d = true
    · rw [if_pos hb] at hf
      have hl : d.body.length ≤ 20 := by
        have := hb
        unfold bodyOk at this
        simp only [Bool.and_eq_true, decide_eq_true_eq] at this
        exact this.1.2
      refine ⟨hb, hl, fun p hm => ?_⟩
      obtain ⟨j, hj, rfl⟩ := List.mem_iff_getElem.1 hm
      have hz := from_none d.body 0 hf j hj
      rw [Nat.zero_add] at hz
      have hc := cntB_bd folP sumP d.body j
      have := (hp d hd)
      exact reason_fine hp (by omega) hz
    · rw [if_neg hb] at hf
      simp at hf
/-- the piece of text that a part itself makes. -/
theorem args_len (l : List (List Tm)) (h : l.length ≤ 3) : (argsTxt l).length ≤ 1265 := by
  unfold argsTxt
  split
  · simp
  · have := rowT_len 44 l
    simp only [List.length_append, List.length_cons, List.length_nil]
    omega
theorem getD_len (ns : List (List UInt8)) (h : ∀ n ∈ ns, n.length ≤ 10) (i : Nat) : (ns.getD i []).length ≤ 10 := by
  rw [List.getD_eq_getElem?_getD]
  cases hi : ns[i]? with
  | none => simp
  | some n => exact h n (List.mem_of_getElem? hi)
mutual
theorem pT_len {ds : List De} {ns : List (List UInt8)} (hn : ∀ n ∈ ns, n.length ≤ 10) : ∀ (x : Tr Pa), okT folP x = true → (∀ p ∈ flatT x, PaFine ds p) → (pT ns x).length ≤ 2000 * (flatT x).length
  | .mk p args, hok, hf => by
    simp only [okT, Bool.and_eq_true, decide_eq_true_eq] at hok
    have hp := hf p (by simp [flatT])
    have ih := pTs_len hn args hok.2 (fun q hq => hf q (by simp [flatT, hq]))
    rw [pTs_map] at ih
    have ha := args_len p.args hp.three
    have hg := getD_len ns hn p.num.toNat
    have h0 : ((args.map (pT ns)).getD 0 []).length ≤ ((args.map (pT ns)).map List.length).sum := by
      cases args with
      | nil => simp
      | cons x xs => simp
    have h1 : ((args.map (pT ns)).getD 0 []).length + ((args.map (pT ns)).getD 1 []).length ≤ ((args.map (pT ns)).map List.length).sum := by
      match args with
      | [] => simp
      | [x] => simp
      | x :: y :: xs => simp <;> omega
    have hb := par_len ((args.map chP).getD 0 false) ((args.map (pT ns)).getD 0 [])
    simp only [pT, flatT, List.length_cons]
    rw [pTs_map]
    split
    · rename_i e
      have := hp.act e
      simp only [List.length_append, List.length_cons, List.length_nil]; omega
    split
    · simp only [List.length_append, List.length_cons, List.length_nil]; omega
    split
    · have := expT_len (p.args.getD 0 [])
      simp only [List.length_append, List.length_cons, List.length_nil]; omega
    split
    · rename_i e
      have := hp.sum e
      have := itoa_two (n := p.num) (by omega) (by omega)
      simp only [List.length_append, List.length_cons, List.length_nil]; omega
    split
    · simp only [List.length_append]; omega
    · simp only [List.length_cons, List.length_nil]; omega
theorem pTs_len {ds : List De} {ns : List (List UInt8)} (hn : ∀ n ∈ ns, n.length ≤ 10) : ∀ (xs : List (Tr Pa)), okTs folP xs = true → (∀ p ∈ flatTs xs, PaFine ds p) → ((pTs ns xs).map List.length).sum ≤ 2000 * (flatTs xs).length
  | [], _, _ => by simp [pTs]
  | x :: xs, hok, hf => by
    simp only [okTs, Bool.and_eq_true] at hok
    have h1 := pT_len hn x hok.1 (fun q hq => hf q (by simp [flatTs, hq]))
    have h2 := pTs_len hn xs hok.2 (fun q hq => hf q (by simp [flatTs, hq]))
    simp only [pTs, List.map_cons, List.sum_cons, flatTs, List.length_append]
    omega
end

end Go.Proofs.YtijmkcnipflpbaaGreatDoor

/-
  The lines of a system, plainly; joins with a separator of any length.
-/
namespace Go.Proofs.YtijmkcnipflpbaaGreatDoor
open Go.RowKit

/-- a component as the run line shows it. -/
def compT (ds : List De) (c : Co) : List UInt8 :=
  ((ds.map De.name).getD c.dfn.toNat []) ++ (if c.vals.length = 0 then [] else ([40] ++ joinC 44 (c.vals.map Lib.itoa)) ++ [41])
/-- the run line. -/
def runT (ds : List De) (l : List Co) : List UInt8 := [114, 117, 110, 32] ++ Lib.join (l.map (compT ds)) [32, 124, 32]
/-- the line of a meeting. -/
def meetT (m : Me) : List UInt8 := ((([109, 101, 101, 116, 32] ++ m.left) ++ [32]) ++ m.right) ++ [32] ++ m.result
/-- a line of names. -/
def namesT (word : List UInt8) (l : List (List UInt8)) : List (List UInt8) := if l.length = 0 then [] else [word ++ joinC 32 l]
/-- the lines of a system. -/
noncomputable def sysLines (s : Sy) : List (List UInt8) :=
  ((((s.defs.map (procT s.defs)) ++ [runT s.defs s.comps]) ++ s.meets.map meetT) ++ namesT [97, 108, 108, 111, 119, 32] s.allow) ++ namesT [104, 105, 100, 101, 32] s.hide

theorem act_len {l : List UInt8} (h : actF l = true) : l.length ≤ 10 := by
  unfold actF nameF at h; simp only [Bool.and_eq_true, decide_eq_true_eq] at h; omega
theorem names_fine {l : List (List UInt8)} (h : namesF l = true) : l.length ≤ 12 ∧ ∀ p ∈ l, p.length ≤ 10 := by
  unfold namesF at h
  simp only [Bool.and_eq_true, decide_eq_true_eq, List.all_eq_true] at h
  refine ⟨h.2, fun p hp => ?_⟩
  obtain ⟨j, hj, rfl⟩ := List.mem_iff_getElem.1 hp
  have := h.1 j (by simpa using hj)
  unfold goodAt at this
  simp only [Bool.and_eq_true] at this
  have h1 := act_len this.1
  rwa [List.getD_eq_getElem?_getD, List.getElem?_eq_getElem hj, Option.getD_some] at h1
theorem meets_fine {l : List Me} (h : meetsF l = true) : l.length ≤ 6 ∧ ∀ m ∈ l, m.left.length ≤ 10 ∧ m.right.length ≤ 10 ∧ m.result.length ≤ 10 := by
  unfold meetsF at h
  simp only [Bool.and_eq_true, decide_eq_true_eq, List.all_eq_true] at h
  refine ⟨h.2, fun p hp => ?_⟩
  obtain ⟨j, hj, rfl⟩ := List.mem_iff_getElem.1 hp
  have := h.1 j (by simpa using hj)
  rw [List.getD_eq_getElem?_getD, List.getElem?_eq_getElem hj, Option.getD_some] at this
  unfold goodM at this
  simp only [Bool.and_eq_true] at this
  exact ⟨act_len this.1.1.1.1.1, act_len this.1.1.1.1.2, act_len this.1.1.1.2⟩
theorem comps_fine {ds : List De} {l : List Co} (h : compsOk ds l = true) : (1 ≤ l.length ∧ l.length ≤ 3) ∧ ∀ c ∈ l, (0 ≤ c.dfn ∧ c.dfn < ds.length) ∧ ((c.vals.length : Int) = (ds.map De.pars).getD c.dfn.toNat 0) ∧ ∀ x ∈ c.vals, 0 ≤ x ∧ x ≤ 63 := by
  unfold compsOk at h
  simp only [Bool.and_eq_true, List.all_eq_true] at h
  obtain ⟨h1, h2⟩ := h
  have h1 := inB_true h1
  refine ⟨by omega, fun c hc => ?_⟩
  have := h2 c hc
  unfold compOk at this
  simp only [Bool.and_eq_true, List.all_eq_true, beq_iff_eq] at this
  have h3 := inB_true this.1.1
  exact ⟨by omega, this.1.2, fun x hx => inB_true (this.2 x hx)⟩
/-- what is known of a valid system. -/
structure SyGd (s : Sy) : Prop where
  defs : defsOk s.defs = true
  dl : s.defs.length ≤ 4
  cl : 1 ≤ s.comps.length ∧ s.comps.length ≤ 3
  comp : ∀ c ∈ s.comps, ∃ j : Nat, c.dfn = j ∧ j < s.defs.length ∧ c.vals.length ≤ 3 ∧ ∀ x ∈ c.vals, 0 ≤ x ∧ x ≤ 99
  nam : ∀ d ∈ s.defs, d.name.length ≤ 10
  meets : s.meets.length ≤ 6 ∧ ∀ m ∈ s.meets, m.left.length ≤ 10 ∧ m.right.length ≤ 10 ∧ m.result.length ≤ 10
  allow : s.allow.length ≤ 12 ∧ ∀ p ∈ s.allow, p.length ≤ 10
  hide : s.hide.length ≤ 12 ∧ ∀ p ∈ s.hide, p.length ≤ 10
theorem SyGd.of {s : Sy} (h : sysOk s = true) : SyGd s := by
  unfold sysOk at h
  simp only [Bool.and_eq_true] at h
  obtain ⟨⟨⟨⟨h1, h2⟩, h3⟩, h4⟩, h5⟩ := h
  obtain ⟨d1, d2, d3, d4, d5⟩ := defs_fine h1
  obtain ⟨c1, c2⟩ := comps_fine h2
  refine ⟨h1, d1, c1, fun c hc => ?_, d4, meets_fine h3, names_fine h4, names_fine h5⟩
  obtain ⟨e1, e2, e3⟩ := c2 c hc
  have hj : c.dfn.toNat < s.defs.length := by omega
  refine ⟨c.dfn.toNat, by omega, hj, ?_, fun x hx => ?_⟩
  · rw [List.getD_eq_getElem?_getD, List.getElem?_map, List.getElem?_eq_getElem hj] at e2
    have := d3 _ (List.getElem_mem hj)
    simp only [Option.map_some, Option.getD_some] at e2
    omega
  · have := e3 x hx; omega

theorem joinW (sep : List UInt8) (v : Value) (ps : List (List UInt8)) (w : World) (fp : List Nat) (hR : RS fp w [v] ps) (h0 : 0 < ps.length) (hn : ps.length ≤ 1000000) (hj9 : (Lib.join ps sep).length ≤ 100000000) :
    Calls Tryz.prog 27 #[v, es sep] w fun e w' => e = .returned (es (Lib.join ps sep)) ∧ Upd [] w w' := by
  obtain ⟨a, cap, rfl, h1, h2, hc⟩ := slF1_open hR
  obtain ⟨b, off, rfl, hf, hbl, -⟩ := hc 0 h0
  have hmm : (ps.map (fun p => (⟨p.toArray⟩ : ByteArray))).map (fun b => b.data.toList) = ps := by
    rw [List.map_map]; exact (List.map_congr_left (fun p _ => rfl)).trans (List.map_id _)
  have hj : Lib.join ((ps.map (fun p => (⟨p.toArray⟩ : ByteArray))).map (fun b => b.data.toList)) (⟨sep.toArray⟩ : ByteArray).data.toList = Lib.join ps sep := by
    rw [hmm]
  have S0 := Tryz.strings_Join b off cap (ps.map (fun p => (⟨p.toArray⟩ : ByteArray))) ⟨sep.toArray⟩ w (fun j x hx => by
    obtain ⟨hj1, rfl⟩ := List.getElem?_eq_some_iff.1 hx
    have hj2 : j < ps.length := by simpa using hj1
    obtain ⟨b', off', hb, -, -, hcl⟩ := hc j hj2
    cases hb
    rw [hcl]
    simp [es]) hbl (by simp; omega) (by simp; omega) (by rw [hj]; omega)
  rw [hj] at S0
  simp only [List.length_map] at S0
  refine S0.mono ?_
  rintro e w3 ⟨rfl, hb3⟩
  exact ⟨rfl, Upd.ofBelow hb3⟩

end Go.Proofs.YtijmkcnipflpbaaGreatDoor

/-
  Lists of expressions: the first of which something is true, and whether there is one (the library's functions with a function's value).
-/
namespace Go.Proofs.YtijmkcnipflpbaaGreatDoor
open Go.RowKit

def IdxE (P : List Tm → Bool) (xs : List (List Tm)) (w : World) (e : Ending) (w' : World) : Prop := (∃ q : Int, e = .returned (.int .i64 q) ∧ -1 ≤ q ∧ q ≤ 9223372036854775807 ∧ decide (0 ≤ q) = xs.any P) ∧ Upd [] w w'
set_option maxRecDepth 20000 in
set_option maxHeartbeats 1000000 in
theorem indexFuncE (P : List Tm → Bool) (fn : FuncId) (caps : Array Value) (v : Value) (xs : List (List Tm)) (w : World) (fp : List Nat) (hR : R_T2 fp w [v] xs)
    (hent : ∀ args w, Sem.run Tryz.prog (callFunc fn args) w = .ok (.enter fn args) w)
    (hby : ∀ wr u f x, Upd [] w wr → R_T1 f wr [u] x → Calls Tryz.prog fn (#[u] ++ caps) wr fun e w' => e = .returned (.bool (P x)) ∧ Upd [] wr w') :
    Calls Tryz.prog 165 #[v, .func (.func fn) #[] caps] w (IdxE P xs w) := by
  obtain ⟨a1, c1, rfl, hl1, hm1, hc1⟩ := slP_open hR
  unfold maxLen at hm1
  have HBY := Lib.hid hby
  have HC := Lib.hid hc1
  clear hR hby hc1
  go_enter Tryz.func165, Tryz.ntmps165
  go_wp2_with fail
  go_loopw [8] (fun i wr => ∃ k : Nat, k ≤ xs.length ∧ i = .int .i64 k ∧ Hid (Upd [] w wr) ∧ Hid ((xs.drop k).any P = xs.any P)) (fun i _ => xs.length - (intOf i).toNat)
  case atStart => exact ⟨0, Nat.zero_le _, rfl, Lib.hid (Upd.refl _ _), Lib.hid rfl⟩
  case round =>
    obtain ⟨k, hk, rfl, HU, HF⟩ := hrel
    by_cases hlt : k < xs.length
    · obtain ⟨b1, o1, u, f, rfl, -, -, p0, -, hr⟩ := HC.out k hlt
      have p0 := HU.out.keep p0
      have hf := HF.out
      rw [List.drop_eq_getElem_cons hlt, List.any_cons] at hf
      have HD := Lib.hid hf
      have hkl : (k : Int) < (xs.length : Int) := by omega
      have S1 := Lib.hid (HBY.out wr u f xs[k] HU.out (R_T1k.upd hr HU.out (by simp)))
      generalize P xs[k] = bb at *
      clear hf hr
      go_wp2_with fail
      refine S1.out.mono ?_
      rintro e w1 ⟨rfl, hu1⟩
      have HU1 := Lib.hid (HU.out.trans hu1)
      clear S1 hu1
      cases bb
      · go_wp2_with fail
        go_roundw
        case rel => exact ⟨k + 1, by omega, by go_num, HU1, Lib.hid (by rw [← HD.out]; rfl)⟩
        case measure => simp [intOf]; omega
      · have HZ := Lib.hid (show decide (0 ≤ (k : Int)) = xs.any P by rw [← HD.out]; simp)
        go_wp2_with fail
        go_ret
        exact ⟨⟨k, rfl, by omega, by omega, HZ.out⟩, HU1.out⟩
    · have hf := HF.out
      rw [List.drop_of_length_le (by omega)] at hf
      have HZ := Lib.hid (show decide (0 ≤ (-1 : Int)) = xs.any P by rw [← hf]; rfl)
      clear hf
      go_wp2_with fail
      go_ret
      exact ⟨⟨-1, rfl, by omega, by omega, HZ.out⟩, HU.out⟩

set_option maxRecDepth 20000 in
theorem containsFuncE (P : List Tm → Bool) (fn : FuncId) (caps : Array Value) (v : Value) (xs : List (List Tm)) (w : World) (fp : List Nat) (hR : R_T2 fp w [v] xs)
    (hent : ∀ args w, Sem.run Tryz.prog (callFunc fn args) w = .ok (.enter fn args) w)
    (hby : ∀ wr u f x, Upd [] w wr → R_T1 f wr [u] x → Calls Tryz.prog fn (#[u] ++ caps) wr fun e w' => e = .returned (.bool (P x)) ∧ Upd [] wr w') :
    Calls Tryz.prog 150 #[v, .func (.func fn) #[] caps] w fun e w' => e = .returned (.bool (xs.any P)) ∧ Upd [] w w' := by
  have S2 := Lib.hid (indexFuncE P fn caps v xs w fp hR hent hby)
  clear hby hent hR
  go_enter Tryz.func150, Tryz.ntmps150
  go_wp2_with fail
  refine S2.out.mono ?_
  rintro e w1 ⟨⟨q, rfl, h1, h2, h3⟩, hu⟩
  have H3 := Lib.hid (And.intro h3 hu)
  clear h3 hu
  go_wp2_with fail
  go_ret
  exact ⟨by rw [← H3.out.1]; rfl, H3.out.2⟩

end Go.Proofs.YtijmkcnipflpbaaGreatDoor

/-
  Whether a number is an index of a list: what the program's call returns.
-/
namespace Go.Proofs.YtijmkcnipflpbaaGreatDoor
open Go.RowKit

theorem idxI (n : Int) (m : Nat) (w : World) (hm : m ≤ 1000000) : Calls Tryz.prog 95 #[.int .i64 n, .int .i64 m] w fun e w' => e = .returned (.bool (inB n 0 (m - 1))) ∧ w = w' := by
  have S1 := Lib.hid (within n 0 ((m : Int) - 1) w)
  generalize inB n 0 ((m : Int) - 1) = b at *
  go_enter Tryz.func95, Tryz.ntmps95
  go_wp2_with fail
  refine S1.out.mono ?_
  rintro e w1 ⟨rfl, rfl⟩
  clear S1
  go_wp2_with fail
  go_ret
  exact ⟨rfl, rfl⟩

end Go.Proofs.YtijmkcnipflpbaaGreatDoor

/-
  The first element of which something is true, plainly.
-/
namespace Go.Proofs.YtijmkcnipflpbaaGreatDoor

def firstP {α : Type} (p : α → Bool) : List α → Int
  | [] => -1
  | s :: r => if p s then 0 else if firstP p r < 0 then -1 else firstP p r + 1
theorem firstP_at {α : Type} {p : α → Bool} : ∀ {l : List α} (k : Nat) (hk : k < l.length), (∀ j (_ : j < k) (hj : j < l.length), p l[j] = false) → p l[k] = true → firstP p l = k
  | [], k, hk, _, _ => by simp at hk
  | s :: r, 0, _, _, h => by simp at h; simp [firstP, h]
  | s :: r, k + 1, hk, hn, h => by
    have h0 : p s = false := hn 0 (by omega) (by simp)
    have ih := firstP_at (p := p) (l := r) k (by simpa using hk) (fun j hj hj2 => by have := hn (j + 1) (by omega) (by simpa using hj2); rwa [List.getElem_cons_succ] at this) (by rwa [List.getElem_cons_succ] at h)
    rw [firstP, h0, if_neg (by simp), ih, if_neg (by omega)]; omega
theorem firstP_none {α : Type} {p : α → Bool} : ∀ {l : List α}, (∀ j (hj : j < l.length), p l[j] = false) → firstP p l = -1
  | [], _ => rfl
  | s :: r, hn => by
    have h0 : p s = false := hn 0 (by simp)
    have ih := firstP_none (p := p) (l := r) (fun j hj => by have := hn (j + 1) (by simpa using hj); rwa [List.getElem_cons_succ] at this)
    rw [firstP, h0, if_neg (by simp), ih, if_pos (by omega)]
theorem firstP_nonneg {α : Type} (p : α → Bool) : ∀ l : List α, decide (0 ≤ firstP p l) = l.any p
  | [] => rfl
  | s :: r => by
    have ih := firstP_nonneg p r
    rw [List.any_cons, firstP]
    by_cases h : p s = true
    · simp [h]
    · rw [if_neg h, ← ih, show p s = false by simpa using h, Bool.false_or]
      by_cases h2 : firstP p r < 0
      · rw [if_pos h2]; rw [decide_eq_false (by omega), decide_eq_false (by omega)]
      · rw [if_neg h2]; rw [decide_eq_true (by omega), decide_eq_true (by omega)]
end Go.Proofs.YtijmkcnipflpbaaGreatDoor

/-
  Comparing texts and lists of texts: what the library's functions return.
-/
namespace Go.Proofs.YtijmkcnipflpbaaGreatDoor
open Go.RowKit

/-- the order of two texts as a number. -/
def cmpB (a b : List UInt8) : Int := if bl a b then -1 else if bl b a then 1 else 0
/-- the order of two lists of texts. -/
def cmpBs : List (List UInt8) → List (List UInt8) → Int
  | x :: xs, y :: ys => if cmpB x y = 0 then cmpBs xs ys else cmpB x y
  | _, _ => 0
theorem isNaNS (l : List UInt8) (w : World) : Calls Tryz.prog 167 #[es l] w fun e w' => e = .returned (.bool false) ∧ w = w' := by
  have hb : (l != l) = false := by simp
  go_enter Tryz.func167, Tryz.ntmps167
  go_wp2_with fail
  go_ret
  exact ⟨rfl, rfl⟩
set_option maxRecDepth 20000 in
set_option maxHeartbeats 1000000 in
theorem cmpStr (a b : List UInt8) (w : World) : Calls Tryz.prog 154 #[es a, es b] w fun e w' => e = .returned (.int .i64 (cmpB a b)) ∧ w = w' := by
  have HM := Lib.hid (show cmpB a b = if bl a b then -1 else if bl b a then 1 else 0 from rfl)
  generalize cmpB a b = Z at *
  obtain ⟨q1, h1⟩ : ∃ q, Op.bytesLess a b = q := ⟨_, rfl⟩
  obtain ⟨q2, h2⟩ : ∃ q, Op.bytesLess b a = q := ⟨_, rfl⟩
  rw [show bl a b = q1 from h1, show bl b a = q2 from h2] at HM
  have S1 := Lib.hid (isNaNS a w)
  have S2 := Lib.hid (isNaNS b w)
  cases q1 with
  | true =>
    go_enter Tryz.func154, Tryz.ntmps154
    go_wp2_with fail
    refine S1.out.mono ?_
    rintro e w1 ⟨rfl, rfl⟩
    go_wp2_with fail
    refine S2.out.mono ?_
    rintro e w1 ⟨rfl, rfl⟩
    go_wp2_with fail
    go_ret
    exact ⟨by rw [HM.out]; rfl, rfl⟩
  | false =>
    obtain ⟨q3, h3⟩ : ∃ q, (a == b) = q := ⟨_, rfl⟩
    have h4 : q3 = !q2 := by
      have := bl_total a b
      rw [show bl a b = false from h1, show bl b a = q2 from h2, Bool.false_or, h3] at this
      exact this
    cases q2 with
    | true =>
      obtain rfl : q3 = false := h4
      go_enter Tryz.func154, Tryz.ntmps154
      go_wp2_with fail
      refine S1.out.mono ?_
      rintro e w1 ⟨rfl, rfl⟩
      go_wp2_with fail
      refine S2.out.mono ?_
      rintro e w1 ⟨rfl, rfl⟩
      go_wp2_with fail
      go_ret
      exact ⟨by rw [HM.out]; rfl, rfl⟩
    | false =>
      obtain rfl : q3 = true := h4
      go_enter Tryz.func154, Tryz.ntmps154
      go_wp2_with fail
      refine S1.out.mono ?_
      rintro e w1 ⟨rfl, rfl⟩
      go_wp2_with fail
      refine S2.out.mono ?_
      rintro e w1 ⟨rfl, rfl⟩
      go_wp2_with fail
      go_ret
      exact ⟨by rw [HM.out]; rfl, rfl⟩

set_option maxRecDepth 20000 in
set_option maxHeartbeats 2000000 in
theorem cmpStrs (v1 v2 : Value) (xs ys : List (List UInt8)) (w : World) (f1 f2 : List Nat) (h1 : R_S1 f1 w [v1] xs) (h2 : R_S1 f2 w [v2] ys) (hl : xs.length = ys.length) :
    Calls Tryz.prog 130 #[v1, v2] w fun e w' => e = .returned (.int .i64 (cmpBs xs ys)) ∧ w = w' := by
  obtain ⟨a1, c1, rfl, l1, m1, hc1⟩ := slF1_open h1
  obtain ⟨a2, c2, rfl, l2, m2, hc2⟩ := slF1_open h2
  unfold maxLen at m1 m2
  have HC1 := Lib.hid hc1
  have HC2 := Lib.hid hc2
  have HL := Lib.hid hl
  clear h1 h2 hc1 hc2
  rw [← hl] at l2 ⊢
  clear hl
  go_enter Tryz.func130, Tryz.ntmps130
  go_wp2_with fail
  go_loopw [11] (fun iv wr => ∃ k : Nat, k ≤ xs.length ∧ iv = .int .i64 k ∧ Hid (cmpBs (xs.drop k) (ys.drop k) = cmpBs xs ys) ∧ wr = w) (fun iv _ => xs.length - (intOf iv).toNat)
  case atStart => exact ⟨0, Nat.zero_le _, rfl, Lib.hid rfl, by trivial⟩
  case round =>
    obtain ⟨k, hk, rfl, HS, rfl⟩ := hrel
    by_cases hlt : k < xs.length
    · have hly : k < ys.length := by rw [← HL.out]; exact hlt
      obtain ⟨b1, o1, rfl, -, -, p1⟩ := HC1.out k hlt
      obtain ⟨b2, o2, rfl, -, -, p2⟩ := HC2.out k hly
      have hs := HS.out
      rw [List.drop_eq_getElem_cons hlt, List.drop_eq_getElem_cons hly, cmpBs] at hs
      have HN := Lib.hid hs
      have S1 := Lib.hid (cmpStr xs[k] ys[k] wr)
      have hkl : (k : Int) < (xs.length : Int) := by omega
      have hkl2 : ¬ (xs.length : Int) ≤ (k : Int) := by omega
      clear hs HS
      generalize cmpB xs[k] ys[k] = z at *
      generalize xs[k] = x at *
      generalize ys[k] = y at *
      go_wp2_with fail
      refine S1.out.mono ?_
      rintro e w1 ⟨rfl, rfl⟩
      clear S1
      by_cases hz : z = 0
      · have hzb : (z != 0) = false := by simp [hz]
        have HK := Lib.hid (show cmpBs (xs.drop (k + 1)) (ys.drop (k + 1)) = cmpBs xs ys by rw [← HN.out, if_pos hz])
        clear hz HN
        go_wp2_with fail
        go_roundw
        case rel => exact ⟨k + 1, by omega, by go_num, HK, by trivial⟩
        case measure => simp [intOf]; omega
      · have hzb : (z != 0) = true := by simp [hz]
        have HK := Lib.hid (show cmpBs xs ys = z by rw [← HN.out, if_neg hz])
        clear hz HN
        go_wp2_with fail
        go_ret
        exact ⟨by rw [HK.out]; rfl, rfl⟩
    · have hs := HS.out
      rw [List.drop_of_length_le (by omega)] at hs
      have HK := Lib.hid (show cmpBs xs ys = 0 by rw [← hs]; cases ys.drop k <;> rfl)
      have hkl : ¬ (k : Int) < (xs.length : Int) := by omega
      clear hs
      go_wp2_with fail
      go_ret
      exact ⟨by rw [HK.out]; rfl, rfl⟩

end Go.Proofs.YtijmkcnipflpbaaGreatDoor

/-
  The text of an expression, the program's side: what the calls return.
-/
namespace Go.Proofs.YtijmkcnipflpbaaGreatDoor
open Go.RowKit

theorem expTreeI (e : List Tm) (v : Value) (w : World) (fp : List Nat) (hb : eOk e = true) (hR : R_T1 fp w [v] e) :
    Calls Tryz.prog 106 #[v] w fun r w' => (∃ vt ft, r = .returned vt ∧ (∃ x, textE x = expT e ∧ R_E ft w' [vt] x ∧ goodE 29 x = true ∧ (flatE x).length ≤ 1000)) ∧ Upd [] w w' := by
  have hres : expT e = textE (treeOf e hb) := by unfold expT; rw [dif_pos hb]
  obtain ⟨hok, hfl⟩ := treeOf_ok e hb
  have hlen := eOk_len hb
  have hgood := eOk_good hb _ hok hfl
  refine (treeE (treeOf e hb) w v fp hok (by rw [hfl]; omega) (by rw [hfl]; exact hR)).mono ?_
  rintro r w2 ⟨⟨vt, rfl, ft, ht, -, -⟩, hu2⟩
  exact ⟨⟨vt, ft, rfl, treeOf e hb, hres.symm, ht, hgood, by rw [hfl]; omega⟩, hu2⟩
theorem expTextI (T : List UInt8) (w : World) (v : Value) (ft : List Nat) (hG : Glob w) (h : ∃ x, textE x = T ∧ R_E ft w [v] x ∧ goodE 29 x = true ∧ (flatE x).length ≤ 1000) :
    Calls Tryz.prog 107 #[v] w fun r w' => r = .returned (es T) ∧ Upd [] w w' := by
  obtain ⟨x, rfl, hR, hg, hl⟩ := h
  refine (textI _ x w v ft (Nat.le_refl _) hl hg hG hR).mono ?_
  rintro r w1 ⟨rfl, n, rfl⟩
  exact ⟨rfl, (Upd.refl _ _).drewN n⟩

end Go.Proofs.YtijmkcnipflpbaaGreatDoor

/-
  Canonical forms, plainly; forests of the rest of a valid list of terms.
-/
namespace Go.Proofs.YtijmkcnipflpbaaGreatDoor

theorem run_append (nv : Int) : ∀ (a b : List Tm) (n : Int), run nv (a ++ b) n = (run nv a n).bind (run nv b)
  | [], b, n => by simp [run]
  | t :: a, b, n => by
    rw [List.cons_append, run, run]
    split
    · rfl
    · split
      · exact run_append nv a b _
      · rfl
theorem run_nonneg (nv : Int) : ∀ (a : List Tm) (n m : Int), run nv a n = some m → 0 ≤ n → 0 ≤ m
  | [], n, m, h, h0 => by simp [run] at h; omega
  | t :: a, n, m, h, h0 => by
    rw [run] at h
    split at h
    · cases h
    · split at h
      · exact run_nonneg nv a _ m h (by have := arity_bd t; omega)
      · cases h

/-- the forest of the last terms of a valid list, one term longer. -/
theorem forest_step {e : List Tm} (h : eOk e = true) (k : Nat) (hk : k < e.length) (xs : List Ex) (hok : okEs xs = true) (hfl : flatEs xs = e.drop (k + 1)) (hlen : run 29 (e.take (k + 1)) 1 = some (xs.length : Int)) :
    tOk e[k] 29 = true ∧ (arity e[k]).toNat ≤ xs.length ∧ run 29 (e.take k) 1 = some (((xs.length - (arity e[k]).toNat + 1 : Nat)) : Int) ∧
      okEs (.mk e[k] (xs.take (arity e[k]).toNat) :: xs.drop (arity e[k]).toNat) = true ∧ flatEs (.mk e[k] (xs.take (arity e[k]).toNat) :: xs.drop (arity e[k]).toNat) = e.drop k := by
  have hr : run 29 e 1 = some 0 := by unfold eOk isE at h; rw [Bool.and_eq_true] at h; simpa using h.2
  have hb := arity_bd e[k]
  rw [List.take_succ_eq_append_getElem hk, run_append] at hlen
  cases hm : run 29 (e.take k) 1 with
  | none => rw [hm] at hlen; simp at hlen
  | some m =>
    rw [hm] at hlen
    have hm0 := run_nonneg 29 _ _ _ hm (by omega)
    simp only [Option.bind_some, run] at hlen
    split at hlen
    · cases hlen
    · rename_i hne
      split at hlen
      · rename_i ht
        simp only [Option.some.injEq] at hlen
        have hA : (arity e[k]).toNat ≤ xs.length := by omega
        refine ⟨ht, hA, by congr 1; omega, ?_, ?_⟩
        · have hsp : okEs (xs.take (arity e[k]).toNat) = true ∧ okEs (xs.drop (arity e[k]).toNat) = true := by
            rw [← List.take_append_drop (arity e[k]).toNat xs, okEs_append, Bool.and_eq_true] at hok; exact hok
          simp only [okEs, okE, hsp.1, hsp.2, Bool.and_true, decide_eq_true_eq, List.length_take]
          omega
        · rw [List.drop_eq_getElem_cons hk, ← hfl]
          simp only [flatEs, flatE, List.cons_append]
          rw [← flatEs_append, List.take_append_drop]
      · cases hlen

theorem forest_start {e : List Tm} (h : eOk e = true) : run 29 (e.take e.length) 1 = some (([] : List Ex).length : Int) := by
  unfold eOk isE at h; rw [Bool.and_eq_true] at h
  rw [List.take_length]; simpa using h.2
theorem forest_end {e : List Tm} {xs : List Ex} (hlen : run 29 (e.take 0) 1 = some (xs.length : Int)) : ∃ x, xs = [x] := by
  simp [run] at hlen
  match xs, hlen with
  | [x], _ => exact ⟨x, rfl⟩
  | [], h => simp at h
  | _ :: _ :: _, h => simp at h; omega

theorem trees_inj (n : Nat) : ∀ (xs ys : List Ex) (r s : List Tm), (flatEs xs).length ≤ n → okEs xs = true → okEs ys = true → xs.length = ys.length → flatEs xs ++ r = flatEs ys ++ s → xs = ys ∧ r = s := by
  induction n with
  | zero =>
    intro xs ys r s hn _ _ hl h
    cases xs with
    | nil =>
      have : ys = [] := List.eq_nil_of_length_eq_zero (by simpa using hl.symm)
      subst this; exact ⟨rfl, by simpa [flatEs] using h⟩
    | cons x xs => have := flatE_pos x; simp [flatEs] at hn; rw [hn.1] at this; simp at this
  | succ n ih =>
    intro xs ys r s hn h1 h2 hl h
    match xs, ys, hl with
    | [], [], _ => exact ⟨rfl, by simpa [flatEs] using h⟩
    | .mk t cs :: xs, .mk u bs :: ys, hl =>
      simp only [flatEs, flatE, List.cons_append, List.cons.injEq, List.append_assoc, List.length_cons, List.length_append] at h hn
      simp only [okEs, okE, Bool.and_eq_true, decide_eq_true_eq] at h1 h2
      obtain ⟨rfl, h⟩ := h
      have hab : cs.length = bs.length := by have := h1.1.1; have := h2.1.1; omega
      obtain ⟨h3, h4⟩ := ih (cs ++ xs) (bs ++ ys) r s (by rw [flatEs_append, List.length_append]; omega) (by rw [okEs_append, h1.1.2, h1.2]; rfl) (by rw [okEs_append, h2.1.2, h2.2]; rfl)
        (by simp only [List.length_append]; simp at hl; omega) (by rw [flatEs_append, flatEs_append, List.append_assoc, List.append_assoc]; exact h)
      obtain ⟨rfl, rfl⟩ := List.append_inj h3 hab
      exact ⟨rfl, h4⟩
theorem tree_inj {x y : Ex} (h1 : okE x = true) (h2 : okE y = true) (h : flatE x = flatE y) : x = y := by
  have := (trees_inj _ [x] [y] [] [] (Nat.le_refl _) (by simpa [okEs] using h1) (by simpa [okEs] using h2) rfl (by simpa [flatEs] using h)).1
  simpa using this

end Go.Proofs.YtijmkcnipflpbaaGreatDoor

/-
  The text of an expression: what the reference's calls return.
-/
namespace Go.Proofs.YtijmkcnipflpbaaGreatDoor
open Go.RowKit

def lv7 : Ex → Int | .mk t _ => if t.1 = 2 then lvl t.2 else if t.1 = 3 then 6 else 7
theorem lvl_le (op : Int) : 0 ≤ lvl op ∧ lvl op ≤ 5 := by
  unfold lvl
  rw [List.getD_eq_getElem?_getD]
  generalize op.toNat = n
  match n with
  | 0 | 1 | 2 | 3 | 4 | 5 | 6 | 7 | 8 => simp
  | n + 9 => simp
theorem lv7_lt (x : Ex) (op : Int) : decide (lv7 x < lvl op) = decide (lvE x < lvl op) := by
  obtain ⟨t, args⟩ := x
  have := lvl_le op
  simp only [lv7, lvE]
  by_cases h2 : t.1 = 2
  · simp only [if_pos h2]
  · simp only [if_neg h2]
    by_cases h3 : t.1 = 3
    · simp only [if_pos h3]; rw [decide_eq_false (by omega), decide_eq_false (by omega)]
    · simp only [if_neg h3]; rw [decide_eq_false (by omega), decide_eq_false (by omega)]
theorem lv7_le (x : Ex) (op : Int) : decide (lv7 x ≤ lvl op) = decide (lvE x ≤ lvl op) := by
  obtain ⟨t, args⟩ := x
  have := lvl_le op
  simp only [lv7, lvE]
  by_cases h2 : t.1 = 2
  · simp only [if_pos h2]
  · simp only [if_neg h2]
    by_cases h3 : t.1 = 3
    · simp only [if_pos h3]; rw [decide_eq_false (by omega), decide_eq_false (by omega)]
    · simp only [if_neg h3]; rw [decide_eq_false (by omega), decide_eq_false (by omega)]
theorem lv7_op (x : Ex) : decide (lv7 x < 6) = isOp x := by
  obtain ⟨t, args⟩ := x
  have := lvl_le t.2
  simp only [lv7, isOp]
  by_cases h2 : t.1 = 2
  · simp only [if_pos h2]; rw [decide_eq_true (by omega), h2]; rfl
  · have h2' : (t.1 == 2) = false := by simpa using h2
    simp only [if_neg h2, h2']
    by_cases h3 : t.1 = 3
    · simp only [if_pos h3]; rfl
    · simp only [if_neg h3]; rfl
set_option maxRecDepth 20000 in
theorem l04LevelS (q : Nat) (hq : q < 9) (w : World) : Calls Tryz.prog 138 #[.int .i64 q] w fun e w' => e = .returned (ei (lvl q)) ∧ w = w' := by
  rcases (by omega : q = 0 ∨ q = 1 ∨ q = 2 ∨ q = 3 ∨ q = 4 ∨ q = 5 ∨ q = 6 ∨ q = 7 ∨ q = 8) with rfl | rfl | rfl | rfl | rfl | rfl | rfl | rfl | rfl
  all_goals
    go_enter Tryz.func138, Tryz.ntmps138
    go_wp2_with fail
    go_ret
    exact ⟨by simp [lvl], rfl⟩

set_option maxRecDepth 20000 in
theorem l04OpsS (w : World) : Calls Tryz.prog 139 #[] w fun e w' => e = .returned (.slice (some ⟨w.heap.size, 0, none⟩) 9 9) ∧ Upd [] w w' ∧ w.heap.size < w'.heap.size ∧ ∀ q : Nat, q < 9 → w'.cell? ⟨w.heap.size, q, none⟩ = some (es (opT q)) := by
  have hc := fun (q : Nat) (hq : q < 9) => cell_new w #[es [43], es [45], es [42], es [61], es [35], es [60], es [60, 61], es [38], es [124]] 9 _ rfl q (es (opT q)) (by
    rcases (by omega : q = 0 ∨ q = 1 ∨ q = 2 ∨ q = 3 ∨ q = 4 ∨ q = 5 ∨ q = 6 ∨ q = 7 ∨ q = 8) with rfl | rfl | rfl | rfl | rfl | rfl | rfl | rfl | rfl <;> simp [opT])
  have HC := Lib.hid hc
  clear hc
  go_enter Tryz.func139, Tryz.ntmps139
  go_wp2_with fail
  go_ret
  exact ⟨rfl, (Upd.refl _ _).alloc _, by simp, HC.out⟩

theorem l04OpsAt (q : Nat) (hq : q < 9) (w : World) : Calls Tryz.prog 139 #[] w fun e w' => e = .returned (.slice (some ⟨w.heap.size, 0, none⟩) 9 9) ∧ Upd [] w w' ∧ w.heap.size < w'.heap.size ∧ w'.cell? ⟨w.heap.size, q, none⟩ = some (es (opT q)) :=
  (l04OpsS w).mono fun _ _ ⟨h1, h2, h3, h4⟩ => ⟨h1, h2, h3, h4 q hq⟩

theorem ownsRow_grown {w w1 : World} {base : Nat} {e : TypeId} {size : Nat} {v : Value} {n : Nat} {xs : List Value} (h : w.ownsRow base e size v n xs) {row : Option Nat} (hg : w.grownBy w1 row) (hd : ∀ b, v.ownBlock = some b → row ≠ some b) : w1.ownsRow base e size v n xs := by
  refine h.kept (row := row) hg ?_
  cases hv : v.ownBlock with
  | none => exact Or.inl rfl
  | some b => exact Or.inr (fun e => hd b hv e.symm)

theorem own_cells {w : World} {base : Nat} {e : TypeId} {v : Value} {n : Nat} {xs : List Value} (h : w.ownsRow base e 1 v n xs) (h0 : 0 < n) :
    ∃ g cap, v = .slice (some ⟨g, 0, none⟩) n cap ∧ n ≤ cap ∧ cap ≤ maxLen ∧ base ≤ g ∧ g < w.heap.size ∧ ∀ j, j < n → w.cell? ⟨g, j, none⟩ = xs[j]? := by
  have h' := h
  rcases h.2 with ⟨-, h1⟩ | ⟨g, cap, cur, rfl, hb, hh, q1, q2, q3, q4⟩
  · omega
  · exact ⟨g, cap, rfl, q1, q2, hb, (Array.getElem?_eq_some_iff.1 hh).1, fun j hj => h'.cellAt j (by omega)⟩

theorem forest_le : ∀ xs : List Ex, xs.length ≤ (flatEs xs).length
  | [] => by simp
  | x :: xs => by simp only [flatEs, List.length_append, List.length_cons]; have := flatE_pos x; have := forest_le xs; omega

/-- what stands on the reference's stacks: the forest of the terms from k on. -/
def QT (e : List Tm) (k : Nat) (xs : List Ex) : Prop := okEs xs = true ∧ flatEs xs = e.drop k ∧ run 29 (e.take k) 1 = some (xs.length : Int)
def txs (xs : List Ex) : List Value := xs.reverse.map fun x => es (textE x)
def lvs (xs : List Ex) : List Value := xs.reverse.map fun x => ei (lv7 x)
theorem txs_cons (x : Ex) (xs : List Ex) : txs (x :: xs) = txs xs ++ [es (textE x)] := by simp [txs]
theorem lvs_cons (x : Ex) (xs : List Ex) : lvs (x :: xs) = lvs xs ++ [ei (lv7 x)] := by simp [lvs]
theorem txs_len (xs : List Ex) : (txs xs).length = xs.length := by simp [txs]
theorem lvs_len (xs : List Ex) : (lvs xs).length = xs.length := by simp [lvs]

/-- the two stacks, apart. -/
structure Stk (w0 w : World) (tv lv : Value) (xs : List Ex) : Prop where
  t : w.ownsRow w0.heap.size 9 1 tv xs.length (txs xs)
  l : w.ownsRow w0.heap.size 2 1 lv xs.length (lvs xs)
  apart : ∀ b, tv.ownBlock = some b → lv.ownBlock ≠ some b

theorem Stk.done {w0 wA w3 w4 : World} {tvc lvc tv' lv' : Value} {ys : List Ex} {x : Ex} {o : Obj} (hl : wA.ownsRow w0.heap.size 2 1 lvc ys.length (lvs ys))
    (hap : ∀ b, tvc.ownBlock = some b → lvc.ownBlock ≠ some b) (h3 : w3.ownsRow w0.heap.size 9 1 tv' (ys.length + 1) (txs ys ++ [es (textE x)])) (ht3 : ∀ b, tv'.ownBlock = some b → tvc.ownBlock = some b ∨ wA.heap.size ≤ b)
    (h4 : w4.ownsRow w0.heap.size 2 1 lv' (ys.length + 1) (lvs ys ++ [ei (lv7 x)])) (hg4 : (w3.alloc o).grownBy w4 lvc.ownBlock) (ht4 : ∀ b, lv'.ownBlock = some b → lvc.ownBlock = some b ∨ (w3.alloc o).heap.size ≤ b) : Stk w0 w4 tv' lv' (x :: ys) := by
  have hd : ∀ b, tv'.ownBlock = some b → lvc.ownBlock ≠ some b := by
    intro b hb hlb
    rcases ht3 b hb with h | h
    · exact hap b h hlb
    · have := (hl.lt b hlb).2; omega
  refine ⟨?_, by rw [lvs_cons]; simpa using h4, ?_⟩
  · rw [txs_cons]
    exact ownsRow_grown (ownsRow_upd (by simpa using h3) ((Upd.refl [] _).alloc o)) hg4 hd
  · intro b hb hlb
    rcases ht4 b hlb with h | h
    · exact hd b hb h
    · have := (h3.lt b hb).2; simp at h; omega

theorem Stk.levels {w0 wA w3 : World} {tvc lvc : Value} {ys : List Ex} {o : Obj} (hl : wA.ownsRow w0.heap.size 2 1 lvc ys.length (lvs ys))
    (hap : ∀ b, tvc.ownBlock = some b → lvc.ownBlock ≠ some b) (hg3 : wA.grownBy w3 tvc.ownBlock) : (w3.alloc o).ownsRow w0.heap.size 2 1 lvc ys.length (lvs ys) :=
  ownsRow_upd (ownsRow_grown hl hg3 (fun b hb h => hap b h hb)) ((Upd.refl [] _).alloc o)

theorem Tryz.infoStr : (Tryz.prog.info? 9).map (fun i => (i.zero, i.size, i.bytes)) = some (some (.string ⟨#[]⟩), 1, 16) := by kernel_rfl

set_option maxRecDepth 20000 in
set_option maxHeartbeats 8000000 in
theorem l04TextS (x : Ex) (v : Value) (w : World) (fp : List Nat) (hok : okE x = true) (he : eOk (flatE x) = true) (hg : goodE 29 x = true) (hlen : (flatE x).length ≤ 60) (hR : R_T1 fp w [v] (flatE x)) :
    Calls Tryz.prog 111 #[v] w fun r w' => r = .returned (es (textE x)) ∧ Upd [] w w' := by
  obtain ⟨i1, ki, kz0, kz1, kz2⟩ := info_parts Tryz.info2
  obtain ⟨i2, ji, jz0, jz1, jz2⟩ := info_parts Tryz.infoStr
  obtain ⟨a1, c1, rfl, hl1, hm1, hc1⟩ := slF2_open hR
  unfold maxLen at hm1
  have HOK := Lib.hid hok
  have HE := Lib.hid he
  have HALL := Lib.hid (show ∀ t ∈ flatE x, tOk t 29 = true by unfold goodE at hg; rw [Bool.and_eq_true, List.all_eq_true] at hg; exact hg.2)
  have HX := Lib.hid (show ∀ y, okE y = true → flatE y = flatE x → y = x from fun y h1 h2 => tree_inj h1 hok h2)
  generalize flatE x = e at *
  have hQ0 : Hid (QT e e.length []) := Lib.hid ⟨rfl, by simp [flatEs], forest_start he⟩
  have HL0 := Lib.hid (fun (w : World) (T : TypeId) => World.ownsRow_lit (base := w.heap.size) (e := T) (size := 1) w #[] 0 (Nat.le_refl _) (by simp [maxLen]) (by simp))
  clear hok he hg hR
  go_enter Tryz.func111, Tryz.ntmps111
  go_wp2_with fail
  go_loopw [3, 4, 5] (fun tv lv iv wr => ∃ (k : Nat) (xs : List Ex), k ≤ e.length ∧ iv = .int .i64 ((k : Int) - 1) ∧ Upd [] w wr ∧ Hid (Stk w wr tv lv xs) ∧ Hid (QT e k xs)) (fun _ _ iv _ => (intOf iv + 1).toNat)
  case atStart =>
    refine ⟨e.length, [], Nat.le_refl _, rfl, ((Upd.refl _ _).alloc _).alloc _, Lib.hid ⟨?_, ?_, ?_⟩, hQ0⟩
    · simpa [txs] using ownsRow_upd (HL0.out w 9) ((Upd.refl [] _).alloc _)
    · have := World.ownsRow_lit (base := w.heap.size) (e := 2) (size := 1) (w.alloc (.cells #[] 9)) #[] 0 (by simp) (by simp [maxLen]) (by simp)
      simpa [lvs] using this
    · intro b hb hb2
      simp [Value.ownBlock] at hb hb2
      omega
  case round =>
    clear HL0 hQ0
    obtain ⟨k, xs, hk, rfl, hU, hS, hQ⟩ := hrel
    obtain ⟨at', ct, hvt⟩ := ownsRow_form hS.out.t
    obtain ⟨al', cl, hvl⟩ := ownsRow_form hS.out.l
    subst hvt hvl
    match k, hk, hQ with
    | 0, hk, hQ =>
      obtain ⟨y, rfl⟩ := forest_end hQ.out.2.2
      have hy : y = x := by
        have h1 := hQ.out.1
        have h2 := hQ.out.2.1
        simp [okEs] at h1
        simp [flatEs] at h2
        exact HX.out y h1 h2
      subst hy
      obtain ⟨g, cap, hv, m1, m2, -, -, hcell⟩ := own_cells hS.out.t (by simp)
      simp only [Value.slice.injEq] at hv
      obtain ⟨rfl, -, rfl⟩ := hv
      have hc0 : wr.cell? ⟨g, 0, none⟩ = some (es (textE y)) := by have := hcell 0 (by simp); simpa [txs] using this
      have HU := Lib.hid hU
      simp only [List.length_cons, List.length_nil, Nat.zero_add] at m1 m2 ⊢
      unfold maxLen at m2
      clear hS hQ hU hcell hc1
      go_wp2_with fail
      go_ret
      exact ⟨rfl, HU.out⟩
    | k + 1, hk, hQ =>
      obtain ⟨b1, o1, rfl, -, -, p1, p2⟩ := hc1 k (by omega)
      have p1 := hU.keep p1
      have p2 := hU.keep p2
      obtain ⟨htok, hA, hlen', hok', hfl'⟩ := forest_step HE.out k (by omega) xs hQ.out.1 hQ.out.2.1 hQ.out.2.2
      have htx := txs_len xs
      have hxl := forest_le xs
      have hfl : (flatEs xs).length ≤ 60 := by rw [hQ.out.2.1, List.length_drop]; omega
      have hgs : goodEs 29 xs = true := by
        unfold goodEs
        rw [Bool.and_eq_true, List.all_eq_true]
        refine ⟨hQ.out.1, fun t ht => HALL.out t ?_⟩
        rw [hQ.out.2.1] at ht
        exact List.mem_of_mem_drop ht
      have HGS := Lib.hid hgs
      generalize hek : e[k] = t at *
      obtain ⟨t1, t2⟩ := t
      have HTOK := Lib.hid htok
      have HLE := Lib.hid hlen'
      have HOK' := Lib.hid hok'
      have HFL := Lib.hid hfl'
      have HU := Lib.hid hU
      have hsz := hU.size
      have HST := Lib.hid hS.out
      have hxs : xs.length ≤ 60 := by omega
      clear hc1 hQ hlen' hok' hfl' hek hU hS htok htx hgs hfl
      rcases tOk_kind HTOK.out with h | h | h | h
      · subst h
        have htok := HTOK.out
        simp [tOk] at htok
        have hb := inB_true htok
        obtain ⟨q, rfl⟩ : ∃ q : Nat, t2 = q := ⟨t2.toNat, by omega⟩
        have hA0 : (arity (0, (q : Int))).toNat = 0 := by simp [arity]
        rw [hA0] at HLE HOK' HFL
        simp only [List.take_zero, List.drop_zero, Nat.sub_zero] at HLE HOK' HFL
        have hT : textE (.mk (0, (q : Int)) []) = Lib.itoa q := by simp [textE]
        have hL : lv7 (.mk (0, (q : Int)) []) = 7 := by simp [lv7]
        have S1 := Lib.hid (l01DecP q (wr.alloc (.cells #[ei 0, ei q] 180)) (by omega))
        have hil := itoa_small (n := q) (by omega) (by omega)
        generalize Lib.itoa (q : Int) = T at *
        have HTL := Lib.hid (And.intro hT hL)
        have HAP := Lib.hid HST.out.apart
        clear htok hA0 hT hL
        go_wp2_with fail
        refine S1.out.mono ?_
        rintro r w2 ⟨rfl, hu2⟩
        have hu2' := (HU.out.alloc (.cells #[ei 0, ei q] 180)).trans hu2
        have ht2 := (ownsRow_upd (ownsRow_upd HST.out.t ((Upd.refl [] _).alloc (.cells #[ei 0, ei q] 180))) hu2)
        have hl2 := (ownsRow_upd (ownsRow_upd HST.out.l ((Upd.refl [] _).alloc (.cells #[ei 0, ei q] 180))) hu2)
        have HU2 := Lib.hid hu2'
        have hsz2 := hu2'.size
        have HL2 := Lib.hid hl2
        clear S1 hu2 hu2' hl2
        go_wp2_with (first
          | (at_builtin; refine wpList_append_tight _ rfl _ _ 25 rfl w.heap.size 9 i2 (.string ⟨#[]⟩) 1 16 Tryz.underlying25 ji jz0 jz1 jz2 rfl (by decide) _ _ _ rfl (ht2.alloc _) ⟨w2.heap.size, 0, none⟩ 1 1 [es T] rfl rfl (fun j u hj => by rw [addr_add]; exact cell_new w2 #[es T] _ _ rfl _ _ (by simpa using hj)) (by simp [Value.oneCell']) (by unfold maxLen; omega) (by omega) (by simp; omega) ?_)
          | fail)
        intro v3 w3 hown3 hg3 ht3
        have hla := ownsRow_upd HL2.out ((Upd.refl [] w2).alloc (.cells #[es T] 9))
        have hl3 := Stk.levels (o := .cells #[ei 7] 2) (tvc := Value.slice at' xs.length ct) hla HAP.out hg3
        have hU3 := (HU2.out.alloc (.cells #[es T] 9)).grown hg3 (fun b hb => Or.inl ((ht2.lt b hb).1))
        have hsz3 := hU3.size
        have HU3 := Lib.hid hU3
        have HLA := Lib.hid hla
        have HT3 := Lib.hid (show ∀ b, v3.ownBlock = some b → (Value.slice at' xs.length ct).ownBlock = some b ∨ (w2.alloc (.cells #[es T] 9)).heap.size ≤ b from fun b hb => by have := ht3 b hb; simpa using this)
        have HO3 := Lib.hid hown3
        clear hg3 ht3 ht2 hown3 hla hU3
        go_wp2_with (first
          | (at_builtin; refine wpList_append_tight _ rfl _ _ 69 rfl w.heap.size 2 i1 (.int .i64 0) 1 8 Tryz.underlying69 ki kz0 kz1 kz2 rfl (by decide) _ _ _ rfl hl3 ⟨w3.heap.size, 0, none⟩ 1 1 [ei 7] rfl rfl (fun j u hj => by rw [addr_add]; exact cell_new w3 #[ei 7] _ _ rfl _ _ (by simpa using hj)) (by simp [Value.oneCell']) (by unfold maxLen; omega) (by omega) (by simp; omega) ?_)
          | fail)
        intro v4 w4 hown4 hg4 ht4
        have hS4 : Stk w w4 v3 v4 (.mk (0, (q : Int)) [] :: xs) := Stk.done HLA.out HAP.out (by rw [HTL.out.1]; exact HO3.out) HT3.out (by rw [HTL.out.2]; exact hown4) hg4 (fun b hb => by have := ht4 b hb; simpa using this)
        have hU4 := (HU3.out.alloc (.cells #[ei 7] 2)).grown hg4 (fun b hb => Or.inl ((hl3.lt b hb).1))
        have HP := Lib.hid (And.intro hS4 hU4)
        clear hown4 hg4 ht4 hS4 hU4 hl3
        go_wp2_with fail
        go_roundw
        case rel => exact ⟨k, _, by omega, by go_num, HP.out.2, Lib.hid HP.out.1, Lib.hid ⟨HOK'.out, HFL.out, by have := HLE.out; simpa using this⟩⟩
        case measure => simp [intOf]
      · subst h
        have htok := HTOK.out
        simp [tOk] at htok
        have hb := inB_true htok
        obtain ⟨q, rfl⟩ : ∃ q : Nat, t2 = q := ⟨t2.toNat, by omega⟩
        have hA0 : (arity (1, (q : Int))).toNat = 0 := by simp [arity]
        rw [hA0] at HLE HOK' HFL
        simp only [List.take_zero, List.drop_zero, Nat.sub_zero] at HLE HOK' HFL
        have hT : textE (.mk (1, (q : Int)) []) = [118] ++ Lib.itoa q := by simp [textE]
        have hL : lv7 (.mk (1, (q : Int)) []) = 7 := by simp [lv7]
        have S1 := Lib.hid (l01DecP q (wr.alloc (.cells #[ei 1, ei q] 180)) (by omega))
        have hil := itoa_small (n := q) (by omega) (by omega)
        generalize Lib.itoa (q : Int) = T at *
        obtain ⟨S, hS⟩ : ∃ S, S = [118] ++ T := ⟨_, rfl⟩
        have hcat : (ByteArray.mk #[118] ++ ByteArray.mk T.toArray) = ByteArray.mk S.toArray := by rw [hS, ← es_cat]
        rw [← hS] at hT
        clear hS
        have HTL := Lib.hid (And.intro hT hL)
        have HAP := Lib.hid HST.out.apart
        clear htok hA0 hT hL
        go_wp2_with fail
        refine S1.out.mono ?_
        rintro r w2 ⟨rfl, hu2⟩
        have hu2' := (HU.out.alloc (.cells #[ei 1, ei q] 180)).trans hu2
        have ht2 := (ownsRow_upd (ownsRow_upd HST.out.t ((Upd.refl [] _).alloc (.cells #[ei 1, ei q] 180))) hu2)
        have hl2 := (ownsRow_upd (ownsRow_upd HST.out.l ((Upd.refl [] _).alloc (.cells #[ei 1, ei q] 180))) hu2)
        have HU2 := Lib.hid hu2'
        have hsz2 := hu2'.size
        have HL2 := Lib.hid hl2
        clear S1 hu2 hu2' hl2
        go_wp2_with (first
          | (at_builtin; refine wpList_append_tight _ rfl _ _ 25 rfl w.heap.size 9 i2 (.string ⟨#[]⟩) 1 16 Tryz.underlying25 ji jz0 jz1 jz2 rfl (by decide) _ _ _ rfl (ht2.alloc _) ⟨w2.heap.size, 0, none⟩ 1 1 [es S] rfl rfl (fun j u hj => by rw [addr_add]; exact cell_new w2 #[es S] _ _ rfl _ _ (by simpa using hj)) (by simp [Value.oneCell']) (by unfold maxLen; omega) (by omega) (by simp; omega) ?_)
          | fail)
        intro v3 w3 hown3 hg3 ht3
        have hla := ownsRow_upd HL2.out ((Upd.refl [] w2).alloc (.cells #[es S] 9))
        have hl3 := Stk.levels (o := .cells #[ei 7] 2) (tvc := Value.slice at' xs.length ct) hla HAP.out hg3
        have hU3 := (HU2.out.alloc (.cells #[es S] 9)).grown hg3 (fun b hb => Or.inl ((ht2.lt b hb).1))
        have hsz3 := hU3.size
        have HU3 := Lib.hid hU3
        have HLA := Lib.hid hla
        have HT3 := Lib.hid (show ∀ b, v3.ownBlock = some b → (Value.slice at' xs.length ct).ownBlock = some b ∨ (w2.alloc (.cells #[es S] 9)).heap.size ≤ b from fun b hb => by have := ht3 b hb; simpa using this)
        have HO3 := Lib.hid hown3
        clear hg3 ht3 ht2 hown3 hla hU3
        go_wp2_with (first
          | (at_builtin; refine wpList_append_tight _ rfl _ _ 69 rfl w.heap.size 2 i1 (.int .i64 0) 1 8 Tryz.underlying69 ki kz0 kz1 kz2 rfl (by decide) _ _ _ rfl hl3 ⟨w3.heap.size, 0, none⟩ 1 1 [ei 7] rfl rfl (fun j u hj => by rw [addr_add]; exact cell_new w3 #[ei 7] _ _ rfl _ _ (by simpa using hj)) (by simp [Value.oneCell']) (by unfold maxLen; omega) (by omega) (by simp; omega) ?_)
          | fail)
        intro v4 w4 hown4 hg4 ht4
        have hS4 : Stk w w4 v3 v4 (.mk (1, (q : Int)) [] :: xs) := Stk.done HLA.out HAP.out (by rw [HTL.out.1]; exact HO3.out) HT3.out (by rw [HTL.out.2]; exact hown4) hg4 (fun b hb => by have := ht4 b hb; simpa using this)
        have hU4 := (HU3.out.alloc (.cells #[ei 7] 2)).grown hg4 (fun b hb => Or.inl ((hl3.lt b hb).1))
        have HP := Lib.hid (And.intro hS4 hU4)
        clear hown4 hg4 ht4 hS4 hU4 hl3
        go_wp2_with fail
        go_roundw
        case rel => exact ⟨k, _, by omega, by go_num, HP.out.2, Lib.hid HP.out.1, Lib.hid ⟨HOK'.out, HFL.out, by have := HLE.out; simpa using this⟩⟩
        case measure => simp [intOf]
      · subst h
        have htok := HTOK.out
        simp [tOk] at htok
        have hbq := inB_true htok
        obtain ⟨q, rfl⟩ : ∃ q : Nat, t2 = q := ⟨t2.toNat, by omega⟩
        have hq : q < 9 := by omega
        have hA1 : (arity (2, (q : Int))).toNat = 2 := by simp [arity]
        rw [hA1] at HLE HOK' HFL hA
        match xs, hA with
        | a :: b :: ys, _ =>
        obtain ⟨g, ct', hv, m1, m2, -, mg, hcell⟩ := own_cells HST.out.t (by simp)
        simp only [Value.slice.injEq] at hv
        obtain ⟨rfl, -, rfl⟩ := hv
        obtain ⟨gl, cl', hv, ml1, ml2, -, mgl, hcl⟩ := own_cells HST.out.l (by simp)
        simp only [Value.slice.injEq] at hv
        obtain ⟨rfl, -, rfl⟩ := hv
        unfold maxLen at m2 ml2
        have htk := ownsRow_take HST.out.t ys.length (by simp only [List.length_cons]; omega)
        have hlk := ownsRow_take HST.out.l ys.length (by simp only [List.length_cons]; omega)
        have htxs : (txs (a :: b :: ys)).take (ys.length * 1) = txs ys := by rw [txs_cons, txs_cons, List.append_assoc, Nat.mul_one]; exact List.take_left' (txs_len ys)
        have hlvs : (lvs (a :: b :: ys)).take (ys.length * 1) = lvs ys := by rw [lvs_cons, lvs_cons, List.append_assoc, Nat.mul_one]; exact List.take_left' (lvs_len ys)
        rw [htxs] at htk
        rw [hlvs] at hlk
        have hgy := HGS.out
        rw [goodEs_cons, goodEs_cons, Bool.and_eq_true, Bool.and_eq_true] at hgy
        have hta := textE_len a hgy.1
        have htb := textE_len b hgy.2.1
        have hfab : (flatE a).length ≤ 60 ∧ (flatE b).length ≤ 60 := by
          have h9 := congrArg List.length HFL.out
          simp only [flatEs, flatE, List.length_append, List.length_cons, List.length_drop, List.take_succ_cons, List.take_zero, List.append_nil] at h9; omega
        have d0 : wr.cell? ⟨g, ys.length + 1, none⟩ = some (es (textE a)) := by
          rw [hcell (ys.length + 1) (by simp), txs_cons, List.getElem?_append_right (by rw [txs_len]; simp), txs_len]; simp
        have d1 : wr.cell? ⟨gl, ys.length + 1, none⟩ = some (ei (lv7 a)) := by
          rw [hcl (ys.length + 1) (by simp), lvs_cons, List.getElem?_append_right (by rw [lvs_len]; simp), lvs_len]; simp
        have d2 : wr.cell? ⟨g, ys.length, none⟩ = some (es (textE b)) := by
          rw [hcell ys.length (by simp; omega), txs_cons, txs_cons, List.append_assoc, List.getElem?_append_right (by rw [txs_len]; omega), txs_len]; simp
        have d3 : wr.cell? ⟨gl, ys.length, none⟩ = some (ei (lv7 b)) := by
          rw [hcl ys.length (by simp; omega), lvs_cons, lvs_cons, List.append_assoc, List.getElem?_append_right (by rw [lvs_len]; omega), lvs_len]; simp
        have hT : textE (.mk (2, (q : Int)) [a, b]) = (par (decide (lvE a < lvl q)) (textE a) ++ opT q) ++ par (decide (lvE b ≤ lvl q)) (textE b) := by simp [textE, textEs]
        have hL : lv7 (.mk (2, (q : Int)) [a, b]) = lvl q := by simp [lv7]
        have HOK2 := Lib.hid (show okEs (.mk (2, (q : Int)) [a, b] :: ys) = true by simpa using HOK'.out)
        have HFL2 := Lib.hid (show flatEs (.mk (2, (q : Int)) [a, b] :: ys) = List.drop k e by simpa using HFL.out)
        have HLE2 := Lib.hid (show run 29 (List.take k e) 1 = some (((.mk (2, (q : Int)) [a, b] :: ys : List Ex).length : Nat) : Int) by simpa using HLE.out)
        have HAP := Lib.hid (show ∀ b, (Value.slice (some ⟨g, 0, none⟩) ys.length ct).ownBlock = some b → (Value.slice (some ⟨gl, 0, none⟩) ys.length cl).ownBlock ≠ some b from HST.out.apart)
        have HTK := Lib.hid htk
        have HLK := Lib.hid hlk
        rw [← lv7_lt a, ← lv7_le b] at hT
        have hOl := opT_len q
        have S1 := Lib.hid (l04LevelS q hq (wr.alloc (.cells #[ei 2, ei q] 180)))
        simp only [List.length_cons] at m1 ml1 hxs
        clear HOK' HFL HLE HST hcell hcl htk hlk hgy hA1 hxl htxs hlvs htok
        have HOK' := HOK2
        have HFL := HFL2
        have HLE := HLE2
        clear HOK2 HFL2 HLE2
        have hal := hfab.1
        have hbl := hfab.2
        have hta2 : (textE a).length ≤ 420 := by omega
        have htb2 : (textE b).length ≤ 420 := by omega
        clear hta htb hfab hal hbl
        have HOPS := Lib.hid (fun (w : World) => l04OpsAt q hq w)
        generalize lvl q = own at *
        generalize lv7 a = la at *
        generalize lv7 b = lb at *
        generalize textE a = Ta at *
        generalize textE b = Tb at *
        generalize opT q = O at *
        by_cases hba : la < own
        · rw [decide_eq_true hba] at hT
          by_cases hbb : lb ≤ own
          · rw [decide_eq_true hbb] at hT
            obtain ⟨A, hQ⟩ : ∃ A, A = par true Ta := ⟨_, rfl⟩
            have hqa : (ByteArray.mk #[40] ++ ByteArray.mk Ta.toArray ++ ByteArray.mk #[41]) = ByteArray.mk A.toArray := by rw [hQ]; simp only [par, if_true, es_par]
            have hqal := par_len true Ta
            rw [← hQ] at hT hqal
            clear hQ
            obtain ⟨B, hQ⟩ : ∃ B, B = par true Tb := ⟨_, rfl⟩
            have hqb : (ByteArray.mk #[40] ++ ByteArray.mk Tb.toArray ++ ByteArray.mk #[41]) = ByteArray.mk B.toArray := by rw [hQ]; simp only [par, if_true, es_par]
            have hqbl := par_len true Tb
            rw [← hQ] at hT hqbl
            clear hQ
            obtain ⟨AO, hAO⟩ : ∃ AO, AO = A ++ O := ⟨_, rfl⟩
            have hcat1 : (ByteArray.mk A.toArray ++ ByteArray.mk O.toArray) = ByteArray.mk AO.toArray := by rw [hAO, ← es_cat]
            have haol : AO.length ≤ 500 := by rw [hAO, List.length_append]; omega
            rw [← hAO] at hT
            obtain ⟨S, hS⟩ : ∃ S, S = AO ++ B := ⟨_, rfl⟩
            have hcat2 : (ByteArray.mk AO.toArray ++ ByteArray.mk B.toArray) = ByteArray.mk S.toArray := by rw [hS, ← es_cat]
            rw [← hS] at hT
            have HTL := Lib.hid (And.intro hT hL)
            have hAl : A.length ≤ 500 := by omega
            have hBl : B.length ≤ 500 := by omega
            clear hT hS hAO
            have htr := Lib.hid (ownsRow_upd HTK.out ((Upd.refl [] wr).alloc (.cells #[ei 2, ei q] 180)))
            have hlr := Lib.hid (ownsRow_upd HLK.out ((Upd.refl [] wr).alloc (.cells #[ei 2, ei q] 180)))
            have HUR := Lib.hid (HU.out.alloc (.cells #[ei 2, ei q] 180))
            have s1 : (0 : Int) ≤ (ys.length : Int) := by omega
            have s2 : (ys.length : Int) ≤ (ct : Int) := by omega
            have s3 : (0 : Int) ≤ (q : Int) := by omega
            have s4 : (q : Int) < 9 := by omega
            have hw1 : IntKind.i64.wrap ((ys.length : Int) + 1 - 1) = (ys.length : Int) := by rw [IntKind.wrap_i64]; omega
            have hw2 : IntKind.i64.wrap (ys.length : Int) = (ys.length : Int) := by rw [IntKind.wrap_i64]; omega
            have hz1 : ¬ (9223372036854775807 < A.length + O.length) := by omega
            have hz2 : ¬ (9223372036854775807 < AO.length + B.length) := by omega
            have hcw := cell_new wr #[ei 2, ei q] 180 _ rfl 1 (ei q) rfl
            go_wp2_with fail
            refine S1.out.mono ?_
            rintro r w1 ⟨rfl, rfl⟩
            clear S1
            go_wp2_with fail
            go_region_law ((first
              | (refine step_call (by rfl) 139 #[] (by go_simp) ?_; refine (HOPS.out _).mono ?_; rintro r w2 ⟨rfl, hu2, hlt2, hops⟩; have k1 : w2.cell? ⟨wr.heap.size + 1, q, none⟩ = some (es O) := (by simpa using hops); have k2 := hu2.keep hcw; have k3 : wr.heap.size + 1 < w2.heap.size := (by simpa using hlt2); have hu3 := ((Upd.refl [] (wr.alloc (.cells #[ei 2, ei q] 180))).drew).trans hu2; refine ⟨_, rfl, ?_⟩)
              | (refine step_append_lies _ (by rfl) _ _ 25 (by rfl) w.heap.size 9 i2 (.string ⟨#[]⟩) 1 16 Tryz.underlying25 ji jz0 jz1 jz2 rfl (by decide) (.slice (some ⟨g, 0, none⟩) ys.length ct) ys.length (txs ys) (by rfl) ((ownsRow_upd htr.out hu3).alloc _) ⟨w2.heap.size, 0, none⟩ 1 1 [es S] (by rfl) (by rfl) (by intro j u hj; rw [addr_add]; exact cell_new w2 #[es S] _ _ rfl _ _ (by simpa using hj)) (by simp [Value.oneCell']) (by decide) (by unfold maxLen; omega) (by omega) (by have h9 := hu3.size; have h8 := HUR.out.size; simp at h9 h8 ⊢; omega) (w2.heap.size + 1) (by simp) ?_; intro g3 cap3 w3 hown3 hg3 hat3 hlt3)))
            all_goals
              have ht2 := ownsRow_upd htr.out hu3
              have HL2 := Lib.hid (ownsRow_upd hlr.out hu3)
              have HU2 := Lib.hid (HUR.out.trans hu3)
              have hsz2 := HU2.out.size
              have ht3 : ∀ b, (Value.slice (some ⟨g3, 0, none⟩) (ys.length + 1) cap3).ownBlock = some b → (Value.slice (some ⟨g, 0, none⟩) ys.length ct).ownBlock = some b ∨ w2.heap.size + 1 ≤ b := (by
                intro b hb
                simp only [Value.ownBlock, Option.some.injEq] at hb
                subst hb
                rcases hat3 with h | h
                · exact Or.inl h
                · exact Or.inr (by omega))
              clear hat3 hlt3 hu3 hu2 hlt2 k1 k2 k3 hops d0 d1 d2 d3 hw1 hw2 hz1 hz2 hcat1 hcat2 s1 s2 s3 s4 hcw htr hlr HUR HOPS
              have hla := ownsRow_upd HL2.out ((Upd.refl [] w2).alloc (.cells #[es S] 9))
              have hl3 := Stk.levels (o := .cells #[ei own] 2) (tvc := Value.slice (some ⟨g, 0, none⟩) ys.length ct) hla HAP.out hg3
              have hU3 := (HU2.out.alloc (.cells #[es S] 9)).grown hg3 (fun b hb => Or.inl ((ht2.lt b hb).1))
              have hsz3 := hU3.size
              have HU3 := Lib.hid hU3
              have HLA := Lib.hid hla
              have HT3 := Lib.hid (show ∀ b, (Value.slice (some ⟨g3, 0, none⟩) (ys.length + 1) cap3).ownBlock = some b → (Value.slice (some ⟨g, 0, none⟩) ys.length ct).ownBlock = some b ∨ (w2.alloc (.cells #[es S] 9)).heap.size ≤ b from fun b hb => by have := ht3 b hb; simpa using this)
              have HO3 := Lib.hid hown3
              clear hg3 ht3 ht2 hown3 hla hU3
              go_wp2_with (first
                | (at_builtin; refine wpList_append_tight _ rfl _ _ 69 rfl w.heap.size 2 i1 (.int .i64 0) 1 8 Tryz.underlying69 ki kz0 kz1 kz2 rfl (by decide) _ _ _ rfl hl3 ⟨w3.heap.size, 0, none⟩ 1 1 [ei own] rfl rfl (fun j u hj => by rw [addr_add]; exact cell_new w3 #[ei own] _ _ rfl _ _ (by simpa using hj)) (by simp [Value.oneCell']) (by unfold maxLen; omega) (by omega) (by simp; omega) ?_)
                | fail)
              intro v4 w4 hown4 hg4 ht4
              have hS4 : Stk w w4 (Value.slice (some ⟨g3, 0, none⟩) (ys.length + 1) cap3) v4 (.mk (2, (q : Int)) [a, b] :: ys) := Stk.done HLA.out HAP.out (by rw [HTL.out.1]; exact HO3.out) HT3.out (by rw [HTL.out.2]; exact hown4) hg4 (fun b hb => by have := ht4 b hb; simpa using this)
              have hU4 := (HU3.out.alloc (.cells #[ei own] 2)).grown hg4 (fun b hb => Or.inl ((hl3.lt b hb).1))
              have HP := Lib.hid (And.intro hS4 hU4)
              clear hown4 hg4 ht4 hS4 hU4 hl3
              go_wp2_with fail
              go_roundw
              case rel => exact ⟨k, _, by omega, by go_num, HP.out.2, Lib.hid HP.out.1, Lib.hid ⟨HOK'.out, HFL.out, by have := HLE.out; simpa using this⟩⟩
              case measure => simp [intOf]
          · rw [decide_eq_false hbb] at hT
            obtain ⟨A, hQ⟩ : ∃ A, A = par true Ta := ⟨_, rfl⟩
            have hqa : (ByteArray.mk #[40] ++ ByteArray.mk Ta.toArray ++ ByteArray.mk #[41]) = ByteArray.mk A.toArray := by rw [hQ]; simp only [par, if_true, es_par]
            have hqal := par_len true Ta
            rw [← hQ] at hT hqal
            clear hQ
            obtain ⟨B, hQ⟩ : ∃ B, B = par false Tb := ⟨_, rfl⟩
            have hqb : Tb = B := by rw [hQ]; rfl
            rw [← hQ] at hT
            subst hqb
            clear hQ
            obtain ⟨AO, hAO⟩ : ∃ AO, AO = A ++ O := ⟨_, rfl⟩
            have hcat1 : (ByteArray.mk A.toArray ++ ByteArray.mk O.toArray) = ByteArray.mk AO.toArray := by rw [hAO, ← es_cat]
            have haol : AO.length ≤ 500 := by rw [hAO, List.length_append]; omega
            rw [← hAO] at hT
            obtain ⟨S, hS⟩ : ∃ S, S = AO ++ Tb := ⟨_, rfl⟩
            have hcat2 : (ByteArray.mk AO.toArray ++ ByteArray.mk Tb.toArray) = ByteArray.mk S.toArray := by rw [hS, ← es_cat]
            rw [← hS] at hT
            have HTL := Lib.hid (And.intro hT hL)
            have hAl : A.length ≤ 500 := by omega
            have hBl : Tb.length ≤ 500 := by omega
            clear hT hS hAO
            have htr := Lib.hid (ownsRow_upd HTK.out ((Upd.refl [] wr).alloc (.cells #[ei 2, ei q] 180)))
            have hlr := Lib.hid (ownsRow_upd HLK.out ((Upd.refl [] wr).alloc (.cells #[ei 2, ei q] 180)))
            have HUR := Lib.hid (HU.out.alloc (.cells #[ei 2, ei q] 180))
            have s1 : (0 : Int) ≤ (ys.length : Int) := by omega
            have s2 : (ys.length : Int) ≤ (ct : Int) := by omega
            have s3 : (0 : Int) ≤ (q : Int) := by omega
            have s4 : (q : Int) < 9 := by omega
            have hw1 : IntKind.i64.wrap ((ys.length : Int) + 1 - 1) = (ys.length : Int) := by rw [IntKind.wrap_i64]; omega
            have hw2 : IntKind.i64.wrap (ys.length : Int) = (ys.length : Int) := by rw [IntKind.wrap_i64]; omega
            have hz1 : ¬ (9223372036854775807 < A.length + O.length) := by omega
            have hz2 : ¬ (9223372036854775807 < AO.length + Tb.length) := by omega
            have hcw := cell_new wr #[ei 2, ei q] 180 _ rfl 1 (ei q) rfl
            go_wp2_with fail
            refine S1.out.mono ?_
            rintro r w1 ⟨rfl, rfl⟩
            clear S1
            go_wp2_with fail
            go_region_law ((first
              | (refine step_call (by rfl) 139 #[] (by go_simp) ?_; refine (HOPS.out _).mono ?_; rintro r w2 ⟨rfl, hu2, hlt2, hops⟩; have k1 : w2.cell? ⟨wr.heap.size + 1, q, none⟩ = some (es O) := (by simpa using hops); have k2 := hu2.keep hcw; have k3 : wr.heap.size + 1 < w2.heap.size := (by simpa using hlt2); have hu3 := ((Upd.refl [] (wr.alloc (.cells #[ei 2, ei q] 180))).drew).trans hu2; refine ⟨_, rfl, ?_⟩)
              | (refine step_append_lies _ (by rfl) _ _ 25 (by rfl) w.heap.size 9 i2 (.string ⟨#[]⟩) 1 16 Tryz.underlying25 ji jz0 jz1 jz2 rfl (by decide) (.slice (some ⟨g, 0, none⟩) ys.length ct) ys.length (txs ys) (by rfl) ((ownsRow_upd htr.out hu3).alloc _) ⟨w2.heap.size, 0, none⟩ 1 1 [es S] (by rfl) (by rfl) (by intro j u hj; rw [addr_add]; exact cell_new w2 #[es S] _ _ rfl _ _ (by simpa using hj)) (by simp [Value.oneCell']) (by decide) (by unfold maxLen; omega) (by omega) (by have h9 := hu3.size; have h8 := HUR.out.size; simp at h9 h8 ⊢; omega) (w2.heap.size + 1) (by simp) ?_; intro g3 cap3 w3 hown3 hg3 hat3 hlt3)))
            all_goals
              have ht2 := ownsRow_upd htr.out hu3
              have HL2 := Lib.hid (ownsRow_upd hlr.out hu3)
              have HU2 := Lib.hid (HUR.out.trans hu3)
              have hsz2 := HU2.out.size
              have ht3 : ∀ b, (Value.slice (some ⟨g3, 0, none⟩) (ys.length + 1) cap3).ownBlock = some b → (Value.slice (some ⟨g, 0, none⟩) ys.length ct).ownBlock = some b ∨ w2.heap.size + 1 ≤ b := (by
                intro b hb
                simp only [Value.ownBlock, Option.some.injEq] at hb
                subst hb
                rcases hat3 with h | h
                · exact Or.inl h
                · exact Or.inr (by omega))
              clear hat3 hlt3 hu3 hu2 hlt2 k1 k2 k3 hops d0 d1 d2 d3 hw1 hw2 hz1 hz2 hcat1 hcat2 s1 s2 s3 s4 hcw htr hlr HUR HOPS
              have hla := ownsRow_upd HL2.out ((Upd.refl [] w2).alloc (.cells #[es S] 9))
              have hl3 := Stk.levels (o := .cells #[ei own] 2) (tvc := Value.slice (some ⟨g, 0, none⟩) ys.length ct) hla HAP.out hg3
              have hU3 := (HU2.out.alloc (.cells #[es S] 9)).grown hg3 (fun b hb => Or.inl ((ht2.lt b hb).1))
              have hsz3 := hU3.size
              have HU3 := Lib.hid hU3
              have HLA := Lib.hid hla
              have HT3 := Lib.hid (show ∀ b, (Value.slice (some ⟨g3, 0, none⟩) (ys.length + 1) cap3).ownBlock = some b → (Value.slice (some ⟨g, 0, none⟩) ys.length ct).ownBlock = some b ∨ (w2.alloc (.cells #[es S] 9)).heap.size ≤ b from fun b hb => by have := ht3 b hb; simpa using this)
              have HO3 := Lib.hid hown3
              clear hg3 ht3 ht2 hown3 hla hU3
              go_wp2_with (first
                | (at_builtin; refine wpList_append_tight _ rfl _ _ 69 rfl w.heap.size 2 i1 (.int .i64 0) 1 8 Tryz.underlying69 ki kz0 kz1 kz2 rfl (by decide) _ _ _ rfl hl3 ⟨w3.heap.size, 0, none⟩ 1 1 [ei own] rfl rfl (fun j u hj => by rw [addr_add]; exact cell_new w3 #[ei own] _ _ rfl _ _ (by simpa using hj)) (by simp [Value.oneCell']) (by unfold maxLen; omega) (by omega) (by simp; omega) ?_)
                | fail)
              intro v4 w4 hown4 hg4 ht4
              have hS4 : Stk w w4 (Value.slice (some ⟨g3, 0, none⟩) (ys.length + 1) cap3) v4 (.mk (2, (q : Int)) [a, b] :: ys) := Stk.done HLA.out HAP.out (by rw [HTL.out.1]; exact HO3.out) HT3.out (by rw [HTL.out.2]; exact hown4) hg4 (fun b hb => by have := ht4 b hb; simpa using this)
              have hU4 := (HU3.out.alloc (.cells #[ei own] 2)).grown hg4 (fun b hb => Or.inl ((hl3.lt b hb).1))
              have HP := Lib.hid (And.intro hS4 hU4)
              clear hown4 hg4 ht4 hS4 hU4 hl3
              go_wp2_with fail
              go_roundw
              case rel => exact ⟨k, _, by omega, by go_num, HP.out.2, Lib.hid HP.out.1, Lib.hid ⟨HOK'.out, HFL.out, by have := HLE.out; simpa using this⟩⟩
              case measure => simp [intOf]
        · rw [decide_eq_false hba] at hT
          by_cases hbb : lb ≤ own
          · rw [decide_eq_true hbb] at hT
            obtain ⟨A, hQ⟩ : ∃ A, A = par false Ta := ⟨_, rfl⟩
            have hqa : Ta = A := by rw [hQ]; rfl
            rw [← hQ] at hT
            subst hqa
            clear hQ
            obtain ⟨B, hQ⟩ : ∃ B, B = par true Tb := ⟨_, rfl⟩
            have hqb : (ByteArray.mk #[40] ++ ByteArray.mk Tb.toArray ++ ByteArray.mk #[41]) = ByteArray.mk B.toArray := by rw [hQ]; simp only [par, if_true, es_par]
            have hqbl := par_len true Tb
            rw [← hQ] at hT hqbl
            clear hQ
            obtain ⟨AO, hAO⟩ : ∃ AO, AO = Ta ++ O := ⟨_, rfl⟩
            have hcat1 : (ByteArray.mk Ta.toArray ++ ByteArray.mk O.toArray) = ByteArray.mk AO.toArray := by rw [hAO, ← es_cat]
            have haol : AO.length ≤ 500 := by rw [hAO, List.length_append]; omega
            rw [← hAO] at hT
            obtain ⟨S, hS⟩ : ∃ S, S = AO ++ B := ⟨_, rfl⟩
            have hcat2 : (ByteArray.mk AO.toArray ++ ByteArray.mk B.toArray) = ByteArray.mk S.toArray := by rw [hS, ← es_cat]
            rw [← hS] at hT
            have HTL := Lib.hid (And.intro hT hL)
            have hAl : Ta.length ≤ 500 := by omega
            have hBl : B.length ≤ 500 := by omega
            clear hT hS hAO
            have htr := Lib.hid (ownsRow_upd HTK.out ((Upd.refl [] wr).alloc (.cells #[ei 2, ei q] 180)))
            have hlr := Lib.hid (ownsRow_upd HLK.out ((Upd.refl [] wr).alloc (.cells #[ei 2, ei q] 180)))
            have HUR := Lib.hid (HU.out.alloc (.cells #[ei 2, ei q] 180))
            have s1 : (0 : Int) ≤ (ys.length : Int) := by omega
            have s2 : (ys.length : Int) ≤ (ct : Int) := by omega
            have s3 : (0 : Int) ≤ (q : Int) := by omega
            have s4 : (q : Int) < 9 := by omega
            have hw1 : IntKind.i64.wrap ((ys.length : Int) + 1 - 1) = (ys.length : Int) := by rw [IntKind.wrap_i64]; omega
            have hw2 : IntKind.i64.wrap (ys.length : Int) = (ys.length : Int) := by rw [IntKind.wrap_i64]; omega
            have hz1 : ¬ (9223372036854775807 < Ta.length + O.length) := by omega
            have hz2 : ¬ (9223372036854775807 < AO.length + B.length) := by omega
            have hcw := cell_new wr #[ei 2, ei q] 180 _ rfl 1 (ei q) rfl
            go_wp2_with fail
            refine S1.out.mono ?_
            rintro r w1 ⟨rfl, rfl⟩
            clear S1
            go_wp2_with fail
            go_region_law ((first
              | (refine step_call (by rfl) 139 #[] (by go_simp) ?_; refine (HOPS.out _).mono ?_; rintro r w2 ⟨rfl, hu2, hlt2, hops⟩; have k1 : w2.cell? ⟨wr.heap.size + 1, q, none⟩ = some (es O) := (by simpa using hops); have k2 := hu2.keep hcw; have k3 : wr.heap.size + 1 < w2.heap.size := (by simpa using hlt2); have hu3 := ((Upd.refl [] (wr.alloc (.cells #[ei 2, ei q] 180))).drew).trans hu2; refine ⟨_, rfl, ?_⟩)
              | (refine step_append_lies _ (by rfl) _ _ 25 (by rfl) w.heap.size 9 i2 (.string ⟨#[]⟩) 1 16 Tryz.underlying25 ji jz0 jz1 jz2 rfl (by decide) (.slice (some ⟨g, 0, none⟩) ys.length ct) ys.length (txs ys) (by rfl) ((ownsRow_upd htr.out hu3).alloc _) ⟨w2.heap.size, 0, none⟩ 1 1 [es S] (by rfl) (by rfl) (by intro j u hj; rw [addr_add]; exact cell_new w2 #[es S] _ _ rfl _ _ (by simpa using hj)) (by simp [Value.oneCell']) (by decide) (by unfold maxLen; omega) (by omega) (by have h9 := hu3.size; have h8 := HUR.out.size; simp at h9 h8 ⊢; omega) (w2.heap.size + 1) (by simp) ?_; intro g3 cap3 w3 hown3 hg3 hat3 hlt3)))
            all_goals
              have ht2 := ownsRow_upd htr.out hu3
              have HL2 := Lib.hid (ownsRow_upd hlr.out hu3)
              have HU2 := Lib.hid (HUR.out.trans hu3)
              have hsz2 := HU2.out.size
              have ht3 : ∀ b, (Value.slice (some ⟨g3, 0, none⟩) (ys.length + 1) cap3).ownBlock = some b → (Value.slice (some ⟨g, 0, none⟩) ys.length ct).ownBlock = some b ∨ w2.heap.size + 1 ≤ b := (by
                intro b hb
                simp only [Value.ownBlock, Option.some.injEq] at hb
                subst hb
                rcases hat3 with h | h
                · exact Or.inl h
                · exact Or.inr (by omega))
              clear hat3 hlt3 hu3 hu2 hlt2 k1 k2 k3 hops d0 d1 d2 d3 hw1 hw2 hz1 hz2 hcat1 hcat2 s1 s2 s3 s4 hcw htr hlr HUR HOPS
              have hla := ownsRow_upd HL2.out ((Upd.refl [] w2).alloc (.cells #[es S] 9))
              have hl3 := Stk.levels (o := .cells #[ei own] 2) (tvc := Value.slice (some ⟨g, 0, none⟩) ys.length ct) hla HAP.out hg3
              have hU3 := (HU2.out.alloc (.cells #[es S] 9)).grown hg3 (fun b hb => Or.inl ((ht2.lt b hb).1))
              have hsz3 := hU3.size
              have HU3 := Lib.hid hU3
              have HLA := Lib.hid hla
              have HT3 := Lib.hid (show ∀ b, (Value.slice (some ⟨g3, 0, none⟩) (ys.length + 1) cap3).ownBlock = some b → (Value.slice (some ⟨g, 0, none⟩) ys.length ct).ownBlock = some b ∨ (w2.alloc (.cells #[es S] 9)).heap.size ≤ b from fun b hb => by have := ht3 b hb; simpa using this)
              have HO3 := Lib.hid hown3
              clear hg3 ht3 ht2 hown3 hla hU3
              go_wp2_with (first
                | (at_builtin; refine wpList_append_tight _ rfl _ _ 69 rfl w.heap.size 2 i1 (.int .i64 0) 1 8 Tryz.underlying69 ki kz0 kz1 kz2 rfl (by decide) _ _ _ rfl hl3 ⟨w3.heap.size, 0, none⟩ 1 1 [ei own] rfl rfl (fun j u hj => by rw [addr_add]; exact cell_new w3 #[ei own] _ _ rfl _ _ (by simpa using hj)) (by simp [Value.oneCell']) (by unfold maxLen; omega) (by omega) (by simp; omega) ?_)
                | fail)
              intro v4 w4 hown4 hg4 ht4
              have hS4 : Stk w w4 (Value.slice (some ⟨g3, 0, none⟩) (ys.length + 1) cap3) v4 (.mk (2, (q : Int)) [a, b] :: ys) := Stk.done HLA.out HAP.out (by rw [HTL.out.1]; exact HO3.out) HT3.out (by rw [HTL.out.2]; exact hown4) hg4 (fun b hb => by have := ht4 b hb; simpa using this)
              have hU4 := (HU3.out.alloc (.cells #[ei own] 2)).grown hg4 (fun b hb => Or.inl ((hl3.lt b hb).1))
              have HP := Lib.hid (And.intro hS4 hU4)
              clear hown4 hg4 ht4 hS4 hU4 hl3
              go_wp2_with fail
              go_roundw
              case rel => exact ⟨k, _, by omega, by go_num, HP.out.2, Lib.hid HP.out.1, Lib.hid ⟨HOK'.out, HFL.out, by have := HLE.out; simpa using this⟩⟩
              case measure => simp [intOf]
          · rw [decide_eq_false hbb] at hT
            obtain ⟨A, hQ⟩ : ∃ A, A = par false Ta := ⟨_, rfl⟩
            have hqa : Ta = A := by rw [hQ]; rfl
            rw [← hQ] at hT
            subst hqa
            clear hQ
            obtain ⟨B, hQ⟩ : ∃ B, B = par false Tb := ⟨_, rfl⟩
            have hqb : Tb = B := by rw [hQ]; rfl
            rw [← hQ] at hT
            subst hqb
            clear hQ
            obtain ⟨AO, hAO⟩ : ∃ AO, AO = Ta ++ O := ⟨_, rfl⟩
            have hcat1 : (ByteArray.mk Ta.toArray ++ ByteArray.mk O.toArray) = ByteArray.mk AO.toArray := by rw [hAO, ← es_cat]
            have haol : AO.length ≤ 500 := by rw [hAO, List.length_append]; omega
            rw [← hAO] at hT
            obtain ⟨S, hS⟩ : ∃ S, S = AO ++ Tb := ⟨_, rfl⟩
            have hcat2 : (ByteArray.mk AO.toArray ++ ByteArray.mk Tb.toArray) = ByteArray.mk S.toArray := by rw [hS, ← es_cat]
            rw [← hS] at hT
            have HTL := Lib.hid (And.intro hT hL)
            have hAl : Ta.length ≤ 500 := by omega
            have hBl : Tb.length ≤ 500 := by omega
            clear hT hS hAO
            have htr := Lib.hid (ownsRow_upd HTK.out ((Upd.refl [] wr).alloc (.cells #[ei 2, ei q] 180)))
            have hlr := Lib.hid (ownsRow_upd HLK.out ((Upd.refl [] wr).alloc (.cells #[ei 2, ei q] 180)))
            have HUR := Lib.hid (HU.out.alloc (.cells #[ei 2, ei q] 180))
            have s1 : (0 : Int) ≤ (ys.length : Int) := by omega
            have s2 : (ys.length : Int) ≤ (ct : Int) := by omega
            have s3 : (0 : Int) ≤ (q : Int) := by omega
            have s4 : (q : Int) < 9 := by omega
            have hw1 : IntKind.i64.wrap ((ys.length : Int) + 1 - 1) = (ys.length : Int) := by rw [IntKind.wrap_i64]; omega
            have hw2 : IntKind.i64.wrap (ys.length : Int) = (ys.length : Int) := by rw [IntKind.wrap_i64]; omega
            have hz1 : ¬ (9223372036854775807 < Ta.length + O.length) := by omega
            have hz2 : ¬ (9223372036854775807 < AO.length + Tb.length) := by omega
            have hcw := cell_new wr #[ei 2, ei q] 180 _ rfl 1 (ei q) rfl
            go_wp2_with fail
            refine S1.out.mono ?_
            rintro r w1 ⟨rfl, rfl⟩
            clear S1
            go_wp2_with fail
            go_region_law ((first
              | (refine step_call (by rfl) 139 #[] (by go_simp) ?_; refine (HOPS.out _).mono ?_; rintro r w2 ⟨rfl, hu2, hlt2, hops⟩; have k1 : w2.cell? ⟨wr.heap.size + 1, q, none⟩ = some (es O) := (by simpa using hops); have k2 := hu2.keep hcw; have k3 : wr.heap.size + 1 < w2.heap.size := (by simpa using hlt2); have hu3 := ((Upd.refl [] (wr.alloc (.cells #[ei 2, ei q] 180))).drew).trans hu2; refine ⟨_, rfl, ?_⟩)
              | (refine step_append_lies _ (by rfl) _ _ 25 (by rfl) w.heap.size 9 i2 (.string ⟨#[]⟩) 1 16 Tryz.underlying25 ji jz0 jz1 jz2 rfl (by decide) (.slice (some ⟨g, 0, none⟩) ys.length ct) ys.length (txs ys) (by rfl) ((ownsRow_upd htr.out hu3).alloc _) ⟨w2.heap.size, 0, none⟩ 1 1 [es S] (by rfl) (by rfl) (by intro j u hj; rw [addr_add]; exact cell_new w2 #[es S] _ _ rfl _ _ (by simpa using hj)) (by simp [Value.oneCell']) (by decide) (by unfold maxLen; omega) (by omega) (by have h9 := hu3.size; have h8 := HUR.out.size; simp at h9 h8 ⊢; omega) (w2.heap.size + 1) (by simp) ?_; intro g3 cap3 w3 hown3 hg3 hat3 hlt3)))
            all_goals
              have ht2 := ownsRow_upd htr.out hu3
              have HL2 := Lib.hid (ownsRow_upd hlr.out hu3)
              have HU2 := Lib.hid (HUR.out.trans hu3)
              have hsz2 := HU2.out.size
              have ht3 : ∀ b, (Value.slice (some ⟨g3, 0, none⟩) (ys.length + 1) cap3).ownBlock = some b → (Value.slice (some ⟨g, 0, none⟩) ys.length ct).ownBlock = some b ∨ w2.heap.size + 1 ≤ b := (by
                intro b hb
                simp only [Value.ownBlock, Option.some.injEq] at hb
                subst hb
                rcases hat3 with h | h
                · exact Or.inl h
                · exact Or.inr (by omega))
              clear hat3 hlt3 hu3 hu2 hlt2 k1 k2 k3 hops d0 d1 d2 d3 hw1 hw2 hz1 hz2 hcat1 hcat2 s1 s2 s3 s4 hcw htr hlr HUR HOPS
              have hla := ownsRow_upd HL2.out ((Upd.refl [] w2).alloc (.cells #[es S] 9))
              have hl3 := Stk.levels (o := .cells #[ei own] 2) (tvc := Value.slice (some ⟨g, 0, none⟩) ys.length ct) hla HAP.out hg3
              have hU3 := (HU2.out.alloc (.cells #[es S] 9)).grown hg3 (fun b hb => Or.inl ((ht2.lt b hb).1))
              have hsz3 := hU3.size
              have HU3 := Lib.hid hU3
              have HLA := Lib.hid hla
              have HT3 := Lib.hid (show ∀ b, (Value.slice (some ⟨g3, 0, none⟩) (ys.length + 1) cap3).ownBlock = some b → (Value.slice (some ⟨g, 0, none⟩) ys.length ct).ownBlock = some b ∨ (w2.alloc (.cells #[es S] 9)).heap.size ≤ b from fun b hb => by have := ht3 b hb; simpa using this)
              have HO3 := Lib.hid hown3
              clear hg3 ht3 ht2 hown3 hla hU3
              go_wp2_with (first
                | (at_builtin; refine wpList_append_tight _ rfl _ _ 69 rfl w.heap.size 2 i1 (.int .i64 0) 1 8 Tryz.underlying69 ki kz0 kz1 kz2 rfl (by decide) _ _ _ rfl hl3 ⟨w3.heap.size, 0, none⟩ 1 1 [ei own] rfl rfl (fun j u hj => by rw [addr_add]; exact cell_new w3 #[ei own] _ _ rfl _ _ (by simpa using hj)) (by simp [Value.oneCell']) (by unfold maxLen; omega) (by omega) (by simp; omega) ?_)
                | fail)
              intro v4 w4 hown4 hg4 ht4
              have hS4 : Stk w w4 (Value.slice (some ⟨g3, 0, none⟩) (ys.length + 1) cap3) v4 (.mk (2, (q : Int)) [a, b] :: ys) := Stk.done HLA.out HAP.out (by rw [HTL.out.1]; exact HO3.out) HT3.out (by rw [HTL.out.2]; exact hown4) hg4 (fun b hb => by have := ht4 b hb; simpa using this)
              have hU4 := (HU3.out.alloc (.cells #[ei own] 2)).grown hg4 (fun b hb => Or.inl ((hl3.lt b hb).1))
              have HP := Lib.hid (And.intro hS4 hU4)
              clear hown4 hg4 ht4 hS4 hU4 hl3
              go_wp2_with fail
              go_roundw
              case rel => exact ⟨k, _, by omega, by go_num, HP.out.2, Lib.hid HP.out.1, Lib.hid ⟨HOK'.out, HFL.out, by have := HLE.out; simpa using this⟩⟩
              case measure => simp [intOf]
      · subst h
        have hA1 : (arity (3, t2)).toNat = 1 := by simp [arity]
        rw [hA1] at HLE HOK' HFL hA
        match xs, hA with
        | y :: ys, _ =>
        obtain ⟨g, ct', hv, m1, m2, -, mg, hcell⟩ := own_cells HST.out.t (by simp)
        simp only [Value.slice.injEq] at hv
        obtain ⟨rfl, -, rfl⟩ := hv
        obtain ⟨gl, cl', hv, ml1, ml2, -, mgl, hcl⟩ := own_cells HST.out.l (by simp)
        simp only [Value.slice.injEq] at hv
        obtain ⟨rfl, -, rfl⟩ := hv
        unfold maxLen at m2 ml2
        have htk := ownsRow_take HST.out.t ys.length (by simp only [List.length_cons]; omega)
        have hlk := ownsRow_take HST.out.l ys.length (by simp only [List.length_cons]; omega)
        rw [txs_cons, Nat.mul_one, List.take_left' (txs_len ys)] at htk
        rw [lvs_cons, Nat.mul_one, List.take_left' (lvs_len ys)] at hlk
        have hgy := HGS.out
        rw [goodEs_cons, Bool.and_eq_true] at hgy
        have hty := textE_len y hgy.1
        have hfy : (flatE y).length ≤ 60 := by
          have h9 := congrArg List.length HFL.out
          simp only [flatEs, flatE, List.length_append, List.length_cons, List.length_drop, List.take_succ_cons, List.take_zero, List.append_nil] at h9; omega
        have d0 : wr.cell? ⟨g, ys.length, none⟩ = some (es (textE y)) := by
          rw [hcell ys.length (by simp), txs_cons, List.getElem?_append_right (by rw [txs_len]; omega), txs_len]; simp
        have d1 : wr.cell? ⟨gl, ys.length, none⟩ = some (ei (lv7 y)) := by
          rw [hcl ys.length (by simp), lvs_cons, List.getElem?_append_right (by rw [lvs_len]; omega), lvs_len]; simp
        have hT : textE (.mk (3, t2) [y]) = [33] ++ par (isOp y) (textE y) := by simp [textE, textEs]
        have hL : lv7 (.mk (3, t2) [y]) = 6 := by simp [lv7]
        have HOK2 := Lib.hid (show okEs (.mk (3, t2) [y] :: ys) = true by simpa using HOK'.out)
        have HFL2 := Lib.hid (show flatEs (.mk (3, t2) [y] :: ys) = List.drop k e by simpa using HFL.out)
        have HLE2 := Lib.hid (show run 29 (List.take k e) 1 = some (((.mk (3, t2) [y] :: ys : List Ex).length : Nat) : Int) by simpa using HLE.out)
        have HAP := Lib.hid (show ∀ b, (Value.slice (some ⟨g, 0, none⟩) ys.length ct).ownBlock = some b → (Value.slice (some ⟨gl, 0, none⟩) ys.length cl).ownBlock ≠ some b from HST.out.apart)
        have HTK := Lib.hid htk
        have HLK := Lib.hid hlk
        have hop := lv7_op y
        rw [← hop] at hT
        simp only [List.length_cons] at m1 ml1 hxs
        clear HOK' HFL HLE HST hcell hcl htk hlk hgy hA1 hop hxl
        have HOK' := HOK2
        have HFL := HFL2
        have HLE := HLE2
        clear HOK2 HFL2 HLE2
        generalize lv7 y = ly at *
        have hty2 : (textE y).length ≤ 420 := by omega
        generalize textE y = T at *
        clear hty hfy
        by_cases hb : ly < 6
        · rw [decide_eq_true hb] at hT
          obtain ⟨Q, hQ⟩ : ∃ Q, Q = par true T := ⟨_, rfl⟩
          have hq1 : (ByteArray.mk #[40] ++ ByteArray.mk T.toArray ++ ByteArray.mk #[41]) = ByteArray.mk Q.toArray := by rw [hQ]; simp only [par, if_true, es_par]
          have hql := par_len true T
          rw [← hQ] at hT hql
          clear hQ
          obtain ⟨S, hS⟩ : ∃ S, S = [33] ++ Q := ⟨_, rfl⟩
          have hcat : (ByteArray.mk #[33] ++ ByteArray.mk Q.toArray) = ByteArray.mk S.toArray := by rw [hS, ← es_cat]
          rw [← hS] at hT
          have HTL := Lib.hid (And.intro hT hL)
          clear hT hS
          obtain ⟨w2, hw2⟩ : ∃ w2, w2 = wr.alloc (.cells #[ei 3, ei t2] 180) := ⟨_, rfl⟩
          have hu2 : Upd [] wr w2 := by rw [hw2]; exact (Upd.refl [] wr).alloc _
          have ht2 := ownsRow_upd HTK.out hu2
          have HL2 := Lib.hid (ownsRow_upd HLK.out hu2)
          have HU2 := Lib.hid (HU.out.trans hu2)
          have hsz2 := HU2.out.size
          subst hw2
          go_wp2_with (first
            | (at_builtin; refine wpList_append_tight _ rfl _ _ 25 rfl w.heap.size 9 i2 (.string ⟨#[]⟩) 1 16 Tryz.underlying25 ji jz0 jz1 jz2 rfl (by decide) _ _ _ rfl (ht2.alloc _) ⟨wr.heap.size + 1, 0, none⟩ 1 1 [es S] rfl rfl (fun j u hj => by rw [addr_add]; exact cell_new _ #[es S] _ _ (by simp) _ _ (by simpa using hj)) (by simp [Value.oneCell']) (by unfold maxLen; omega) (by omega) (by simp; omega) ?_)
            | fail)
          intro v3 w3 hown3 hg3 ht3
          have hla := ownsRow_upd HL2.out ((Upd.refl [] (wr.alloc (.cells #[ei 3, ei t2] 180))).alloc (.cells #[es S] 9))
          have hl3 := Stk.levels (o := .cells #[ei 6] 2) (tvc := Value.slice (some ⟨g, 0, none⟩) ys.length ct) hla HAP.out hg3
          have hU3 := (HU2.out.alloc (.cells #[es S] 9)).grown hg3 (fun b hb => Or.inl ((ht2.lt b hb).1))
          have hsz3 := hU3.size
          have HU3 := Lib.hid hU3
          have HLA := Lib.hid hla
          have HT3 := Lib.hid (show ∀ b, v3.ownBlock = some b → (Value.slice (some ⟨g, 0, none⟩) ys.length ct).ownBlock = some b ∨ ((wr.alloc (.cells #[ei 3, ei t2] 180)).alloc (.cells #[es S] 9)).heap.size ≤ b from fun b hb => by have := ht3 b hb; simpa using this)
          have HO3 := Lib.hid hown3
          clear hg3 ht3 ht2 hown3 hla hU3
          go_wp2_with (first
            | (at_builtin; refine wpList_append_tight _ rfl _ _ 69 rfl w.heap.size 2 i1 (.int .i64 0) 1 8 Tryz.underlying69 ki kz0 kz1 kz2 rfl (by decide) _ _ _ rfl hl3 ⟨w3.heap.size, 0, none⟩ 1 1 [ei 6] rfl rfl (fun j u hj => by rw [addr_add]; exact cell_new w3 #[ei 6] _ _ rfl _ _ (by simpa using hj)) (by simp [Value.oneCell']) (by unfold maxLen; omega) (by omega) (by simp; omega) ?_)
            | fail)
          intro v4 w4 hown4 hg4 ht4
          have hS4 : Stk w w4 v3 v4 (.mk (3, t2) [y] :: ys) := Stk.done HLA.out HAP.out (by rw [HTL.out.1]; exact HO3.out) HT3.out (by rw [HTL.out.2]; exact hown4) hg4 (fun b hb => by have := ht4 b hb; simpa using this)
          have hU4 := (HU3.out.alloc (.cells #[ei 6] 2)).grown hg4 (fun b hb => Or.inl ((hl3.lt b hb).1))
          have HP := Lib.hid (And.intro hS4 hU4)
          clear hown4 hg4 ht4 hS4 hU4 hl3
          go_wp2_with fail
          go_roundw
          case rel => exact ⟨k, _, by omega, by go_num, HP.out.2, Lib.hid HP.out.1, Lib.hid ⟨HOK'.out, HFL.out, by have := HLE.out; simpa using this⟩⟩
          case measure => simp [intOf]
        · rw [decide_eq_false hb] at hT
          obtain ⟨Q, hQ⟩ : ∃ Q, Q = par false T := ⟨_, rfl⟩
          have hq1 : T = Q := by rw [hQ]; rfl
          rw [← hQ] at hT
          subst hq1
          clear hQ
          obtain ⟨S, hS⟩ : ∃ S, S = [33] ++ T := ⟨_, rfl⟩
          have hcat : (ByteArray.mk #[33] ++ ByteArray.mk T.toArray) = ByteArray.mk S.toArray := by rw [hS, ← es_cat]
          rw [← hS] at hT
          have HTL := Lib.hid (And.intro hT hL)
          clear hT hS
          obtain ⟨w2, hw2⟩ : ∃ w2, w2 = wr.alloc (.cells #[ei 3, ei t2] 180) := ⟨_, rfl⟩
          have hu2 : Upd [] wr w2 := by rw [hw2]; exact (Upd.refl [] wr).alloc _
          have ht2 := ownsRow_upd HTK.out hu2
          have HL2 := Lib.hid (ownsRow_upd HLK.out hu2)
          have HU2 := Lib.hid (HU.out.trans hu2)
          have hsz2 := HU2.out.size
          subst hw2
          go_wp2_with (first
            | (at_builtin; refine wpList_append_tight _ rfl _ _ 25 rfl w.heap.size 9 i2 (.string ⟨#[]⟩) 1 16 Tryz.underlying25 ji jz0 jz1 jz2 rfl (by decide) _ _ _ rfl (ht2.alloc _) ⟨wr.heap.size + 1, 0, none⟩ 1 1 [es S] rfl rfl (fun j u hj => by rw [addr_add]; exact cell_new _ #[es S] _ _ (by simp) _ _ (by simpa using hj)) (by simp [Value.oneCell']) (by unfold maxLen; omega) (by omega) (by simp; omega) ?_)
            | fail)
          intro v3 w3 hown3 hg3 ht3
          have hla := ownsRow_upd HL2.out ((Upd.refl [] (wr.alloc (.cells #[ei 3, ei t2] 180))).alloc (.cells #[es S] 9))
          have hl3 := Stk.levels (o := .cells #[ei 6] 2) (tvc := Value.slice (some ⟨g, 0, none⟩) ys.length ct) hla HAP.out hg3
          have hU3 := (HU2.out.alloc (.cells #[es S] 9)).grown hg3 (fun b hb => Or.inl ((ht2.lt b hb).1))
          have hsz3 := hU3.size
          have HU3 := Lib.hid hU3
          have HLA := Lib.hid hla
          have HT3 := Lib.hid (show ∀ b, v3.ownBlock = some b → (Value.slice (some ⟨g, 0, none⟩) ys.length ct).ownBlock = some b ∨ ((wr.alloc (.cells #[ei 3, ei t2] 180)).alloc (.cells #[es S] 9)).heap.size ≤ b from fun b hb => by have := ht3 b hb; simpa using this)
          have HO3 := Lib.hid hown3
          clear hg3 ht3 ht2 hown3 hla hU3
          go_wp2_with (first
            | (at_builtin; refine wpList_append_tight _ rfl _ _ 69 rfl w.heap.size 2 i1 (.int .i64 0) 1 8 Tryz.underlying69 ki kz0 kz1 kz2 rfl (by decide) _ _ _ rfl hl3 ⟨w3.heap.size, 0, none⟩ 1 1 [ei 6] rfl rfl (fun j u hj => by rw [addr_add]; exact cell_new w3 #[ei 6] _ _ rfl _ _ (by simpa using hj)) (by simp [Value.oneCell']) (by unfold maxLen; omega) (by omega) (by simp; omega) ?_)
            | fail)
          intro v4 w4 hown4 hg4 ht4
          have hS4 : Stk w w4 v3 v4 (.mk (3, t2) [y] :: ys) := Stk.done HLA.out HAP.out (by rw [HTL.out.1]; exact HO3.out) HT3.out (by rw [HTL.out.2]; exact hown4) hg4 (fun b hb => by have := ht4 b hb; simpa using this)
          have hU4 := (HU3.out.alloc (.cells #[ei 6] 2)).grown hg4 (fun b hb => Or.inl ((hl3.lt b hb).1))
          have HP := Lib.hid (And.intro hS4 hU4)
          clear hown4 hg4 ht4 hS4 hU4 hl3
          go_wp2_with fail
          go_roundw
          case rel => exact ⟨k, _, by omega, by go_num, HP.out.2, Lib.hid HP.out.1, Lib.hid ⟨HOK'.out, HFL.out, by have := HLE.out; simpa using this⟩⟩
          case measure => simp [intOf]

end Go.Proofs.YtijmkcnipflpbaaGreatDoor

/-
  LinearText, the reference's side: what the calls return.
-/
namespace Go.Proofs.YtijmkcnipflpbaaGreatDoor
open Go.RowKit

theorem expTextS (v : Value) (e : List Tm) (w : World) (fp : List Nat) (hb : eOk e = true) (hR : R_T1 fp w [v] e) :
    Calls Tryz.prog 111 #[v] w fun r w' => r = .returned (es (expT e)) ∧ Upd [] w w' := by
  have hres : expT e = textE (treeOf e hb) := by unfold expT; rw [dif_pos hb]
  obtain ⟨hok, hfl⟩ := treeOf_ok e hb
  have hlen := eOk_len hb
  have hgood := eOk_good hb _ hok hfl
  rw [hres]
  exact l04TextS (treeOf e hb) v w fp hok (by rw [hfl]; exact hb) hgood (by rw [hfl]; omega) (by rw [hfl]; exact hR)

theorem rowSoFar {α : Type} (c : UInt8) (f : α → List UInt8) (l : List α) (k : Nat) (h : k < l.length) (h0 : 0 < k) : joinC c ((l.take (k + 1)).map f) = (joinC c ((l.take k).map f) ++ [c]) ++ f l[k] := by
  rw [List.take_succ_eq_append_getElem h, List.map_append, List.map_cons, List.map_nil, joinC_end c _ _ (by
    intro hn
    have := congrArg List.length hn
    rw [List.length_map, List.length_take, List.length_nil] at this
    omega), List.append_assoc]
theorem rowFirst {α : Type} (c : UInt8) (f : α → List UInt8) (l : List α) (k : Nat) (h : k < l.length) (h0 : k = 0) : joinC c ((l.take (k + 1)).map f) = f l[k] := by
  subst h0
  rw [List.take_succ_eq_append_getElem h]; rfl
theorem decSmall (n : Int) (w : World) (h0 : 0 ≤ n) (h1 : n ≤ 99) : Calls Tryz.prog 79 #[.int .i64 n] w fun e w' => e = .returned (es (Lib.itoa n)) ∧ Upd [] w w' := by
  obtain ⟨q, rfl⟩ : ∃ q : Nat, n = q := ⟨n.toNat, by omega⟩
  exact l01DecP q w (by omega)
theorem catE (a b : List UInt8) : (ByteArray.mk a.toArray ++ ByteArray.mk b.toArray) = ByteArray.mk (a ++ b).toArray := ByteArray.mk_append_mk a b

set_option maxRecDepth 20000 in
set_option maxHeartbeats 2000000 in
theorem listTextS (v : Value) (xs : List Int) (w : World) (fp : List Nat) (hR : R_I1 fp w [v] xs) (hl : xs.length ≤ 64) (hv : ∀ x ∈ xs, 0 ≤ x ∧ x ≤ 99) :
    Calls Tryz.prog 54 #[v] w fun e w' => e = .returned (es (listTxt xs)) ∧ Upd [] w w' := by
  obtain ⟨a, cap, rfl, g1, g2, hc⟩ := slF1_open hR
  unfold maxLen at g2
  have HC := Lib.hid hc
  have HV := Lib.hid hv
  clear hR hc hv
  by_cases h0 : xs.length = 0
  · have HZ := Lib.hid (show listTxt xs = [45] by unfold listTxt; rw [if_pos h0])
    have e0 : ((xs.length : Int) == 0) = true := by rw [beq_iff_eq]; omega
    go_enter Tryz.func54, Tryz.ntmps54
    go_wp2_with fail
    go_ret
    exact ⟨by rw [HZ.out]; rfl, Upd.refl _ _⟩
  · have HZ := Lib.hid (show listTxt xs = joinC 44 (xs.map Lib.itoa) by unfold listTxt; rw [if_neg h0])
    have e0 : ((xs.length : Int) == 0) = false := by rw [beq_eq_false_iff_ne]; omega
    clear h0
    generalize listTxt xs = Z at *
    go_enter Tryz.func54, Tryz.ntmps54
    go_wp2_with fail
    go_loopw [3, 4] (fun tv iv wr => ∃ (k : Nat) (A : List UInt8), k ≤ xs.length ∧ iv = .int .i64 k ∧ tv = es A ∧ A.length ≤ 3 * k ∧ Hid (A = joinC 44 ((xs.take k).map Lib.itoa)) ∧ Hid (Upd [] w wr)) (fun _ iv _ => xs.length - (intOf iv).toNat)
    case atStart => exact ⟨0, [], Nat.zero_le _, rfl, rfl, by simp, Lib.hid rfl, Lib.hid (Upd.refl _ _)⟩
    case round =>
      obtain ⟨wo, rfl⟩ : ∃ wo : World, wo = wr := ⟨_, rfl⟩
      obtain ⟨k, A, hk, rfl, rfl, hA, HJ, HU⟩ := hrel
      by_cases hlt : k < xs.length
      · obtain ⟨b, off, rfl, -, -, p0⟩ := HC.out k hlt
        have p0 := HU.out.keep p0
        have hkl : (k : Int) < (xs.length : Int) := by omega
        have hgv := HV.out _ (List.getElem_mem hlt)
        by_cases hk0 : k = 0
        · have HT := Lib.hid (rowFirst 44 Lib.itoa xs k hlt hk0)
          have hA0 : A = [] := by rw [HJ.out, hk0]; rfl
          have hk1 : decide ((0 : Int) < (k : Int)) = false := decide_eq_false (by omega)
          have hk2 : ¬ (0 : Int) < (k : Int) := by omega
          subst hA0
          clear hk0
          have S1 := Lib.hid (decSmall xs[k] wo hgv.1 (by omega))
          have hbl := itoa_two hgv.1 hgv.2
          skip
          generalize Lib.itoa xs[k] = B at *
          have hcat : (ByteArray.mk #[] ++ ByteArray.mk B.toArray) = ByteArray.mk B.toArray := catE [] B
          have hz : ¬ (9223372036854775807 < 0 + B.length) := by omega
          have hz2 : ¬ (9223372036854775807 < B.length) := by omega
          go_wp2_with fail
          refine S1.out.mono ?_
          rintro r w2 ⟨rfl, hu2⟩
          have HU2 := Lib.hid (HU.out.trans hu2)
          clear hu2 S1
          go_wp2_with fail
          go_roundw
          case rel => exact ⟨k + 1, B, by omega, by go_num, rfl, by omega, Lib.hid HT.out.symm, HU2⟩
          case measure => simp [intOf]; omega
        · have HT := Lib.hid (rowSoFar 44 Lib.itoa xs k hlt (by omega))
          have hk1 : decide ((0 : Int) < (k : Int)) = true := decide_eq_true (by omega)
          have hk2 : (0 : Int) < (k : Int) := by omega
          have S1 := Lib.hid (decSmall xs[k] wo hgv.1 (by omega))
          have hbl := itoa_two hgv.1 hgv.2
          skip
          generalize Lib.itoa xs[k] = B at *
          obtain ⟨A1, hA1⟩ : ∃ A1, A1 = A ++ [44] := ⟨_, rfl⟩
          obtain ⟨A2, hA2⟩ : ∃ A2, A2 = A1 ++ B := ⟨_, rfl⟩
          have hl1 : A1.length = A.length + 1 := by rw [hA1]; simp
          have hl2 : A2.length = A1.length + B.length := by rw [hA2]; simp
          have HE := Lib.hid (show A2 = joinC 44 ((xs.take (k + 1)).map Lib.itoa) by rw [HT.out, ← HJ.out, hA2, hA1])
          have hcat1 : (ByteArray.mk A.toArray ++ ByteArray.mk #[44]) = ByteArray.mk A1.toArray := by rw [hA1, ← catE]
          have hcat2 : (ByteArray.mk A1.toArray ++ ByteArray.mk B.toArray) = ByteArray.mk A2.toArray := by rw [hA2, ← catE]
          have hm : A2.length ≤ 3 * (k + 1) := by rw [hl2, hl1]; omega
          have hz : ¬ (9223372036854775807 < A.length + 1) := by omega
          have hz2 : ¬ (9223372036854775807 < A1.length + B.length) := by omega
          have HM := Lib.hid hm
          clear hA1 hA2 hl1 hl2 hm hk0 HT
          go_wp2_with fail
          refine S1.out.mono ?_
          rintro r w2 ⟨rfl, hu2⟩
          have HU2 := Lib.hid (HU.out.trans hu2)
          clear hu2 S1
          go_wp2_with fail
          go_roundw
          case rel => exact ⟨k + 1, A2, by omega, by go_num, rfl, HM.out, HE, HU2⟩
          case measure => simp [intOf]; omega
      · obtain rfl : k = xs.length := by omega
        have HJ2 := Lib.hid (show A = joinC 44 (xs.map Lib.itoa) by rw [HJ.out, List.take_length])
        clear HJ
        go_wp2_with fail
        go_ret
        exact ⟨by rw [HZ.out, ← HJ2.out]; rfl, HU.out⟩

set_option maxRecDepth 20000 in
set_option maxHeartbeats 2000000 in
theorem rowS44 (v : Value) (xs : List (List Tm)) (w : World) (fp : List Nat) (hR : R_T2 fp w [v] xs) (hl : xs.length ≤ 1000) (hv : ∀ e ∈ xs, eOk e = true) :
    Calls Tryz.prog 137 #[v, .string ⟨#[44]⟩] w fun e w' => e = .returned (es (joinC 44 (xs.map expT))) ∧ Upd [] w w' := by
  obtain ⟨a, cap, rfl, g1, g2, hc⟩ := slP_open hR
  unfold maxLen at g2
  have HC := Lib.hid hc
  have HV := Lib.hid hv
  clear hR hc hv
  · go_enter Tryz.func137, Tryz.ntmps137
    go_wp2_with fail
    go_loopw [5, 6] (fun tv iv wr => ∃ (k : Nat) (A : List UInt8), k ≤ xs.length ∧ iv = .int .i64 k ∧ tv = es A ∧ A.length ≤ 421 * k ∧ Hid (A = joinC 44 ((xs.take k).map expT)) ∧ Hid (Upd [] w wr)) (fun _ iv _ => xs.length - (intOf iv).toNat)
    case atStart => exact ⟨0, [], Nat.zero_le _, rfl, rfl, by simp, Lib.hid rfl, Lib.hid (Upd.refl _ _)⟩
    case round =>
      obtain ⟨wo, rfl⟩ : ∃ wo : World, wo = wr := ⟨_, rfl⟩
      obtain ⟨k, A, hk, rfl, rfl, hA, HJ, HU⟩ := hrel
      by_cases hlt : k < xs.length
      · obtain ⟨b, off, u, f, rfl, -, -, p0, -, hr⟩ := HC.out k hlt
        have p0 := HU.out.keep p0
        have hkl : (k : Int) < (xs.length : Int) := by omega
        have hgv := HV.out _ (List.getElem_mem hlt)
        by_cases hk0 : k = 0
        · have HT := Lib.hid (rowFirst 44 expT xs k hlt hk0)
          have hA0 : A = [] := by rw [HJ.out, hk0]; rfl
          have hk1 : decide ((0 : Int) < (k : Int)) = false := decide_eq_false (by omega)
          have hk2 : ¬ (0 : Int) < (k : Int) := by omega
          subst hA0
          clear hk0
          have S1 := Lib.hid (expTextS u xs[k] wo f hgv (R_T1k.upd hr HU.out (by simp)))
          have hbl := expT_len xs[k]
          obtain ⟨d1, e1, rfl, -⟩ := slF2_open hr
          generalize expT xs[k] = B at *
          have hcat : (ByteArray.mk #[] ++ ByteArray.mk B.toArray) = ByteArray.mk B.toArray := catE [] B
          have hz : ¬ (9223372036854775807 < 0 + B.length) := by omega
          have hz2 : ¬ (9223372036854775807 < B.length) := by omega
          go_wp2_with fail
          refine S1.out.mono ?_
          rintro r w2 ⟨rfl, hu2⟩
          have HU2 := Lib.hid (HU.out.trans hu2)
          clear hu2 S1
          go_wp2_with fail
          go_roundw
          case rel => exact ⟨k + 1, B, by omega, by go_num, rfl, by omega, Lib.hid HT.out.symm, HU2⟩
          case measure => simp [intOf]; omega
        · have HT := Lib.hid (rowSoFar 44 expT xs k hlt (by omega))
          have hk1 : decide ((0 : Int) < (k : Int)) = true := decide_eq_true (by omega)
          have hk2 : (0 : Int) < (k : Int) := by omega
          have S1 := Lib.hid (expTextS u xs[k] wo f hgv (R_T1k.upd hr HU.out (by simp)))
          have hbl := expT_len xs[k]
          obtain ⟨d1, e1, rfl, -⟩ := slF2_open hr
          generalize expT xs[k] = B at *
          obtain ⟨A1, hA1⟩ : ∃ A1, A1 = A ++ [44] := ⟨_, rfl⟩
          obtain ⟨A2, hA2⟩ : ∃ A2, A2 = A1 ++ B := ⟨_, rfl⟩
          have hl1 : A1.length = A.length + 1 := by rw [hA1]; simp
          have hl2 : A2.length = A1.length + B.length := by rw [hA2]; simp
          have HE := Lib.hid (show A2 = joinC 44 ((xs.take (k + 1)).map expT) by rw [HT.out, ← HJ.out, hA2, hA1])
          have hcat1 : (ByteArray.mk A.toArray ++ ByteArray.mk #[44]) = ByteArray.mk A1.toArray := by rw [hA1, ← catE]
          have hcat2 : (ByteArray.mk A1.toArray ++ ByteArray.mk B.toArray) = ByteArray.mk A2.toArray := by rw [hA2, ← catE]
          have hm : A2.length ≤ 421 * (k + 1) := by rw [hl2, hl1]; omega
          have hz : ¬ (9223372036854775807 < A.length + 1) := by omega
          have hz2 : ¬ (9223372036854775807 < A1.length + B.length) := by omega
          have HM := Lib.hid hm
          clear hA1 hA2 hl1 hl2 hm hk0 HT
          go_wp2_with fail
          refine S1.out.mono ?_
          rintro r w2 ⟨rfl, hu2⟩
          have HU2 := Lib.hid (HU.out.trans hu2)
          clear hu2 S1
          go_wp2_with fail
          go_roundw
          case rel => exact ⟨k + 1, A2, by omega, by go_num, rfl, HM.out, HE, HU2⟩
          case measure => simp [intOf]; omega
      · obtain rfl : k = xs.length := by omega
        have HJ2 := Lib.hid (show A = joinC 44 (xs.map expT) by rw [HJ.out, List.take_length])
        clear HJ
        go_wp2_with fail
        go_ret
        exact ⟨by rw [← HJ2.out]; rfl, HU.out⟩

end Go.Proofs.YtijmkcnipflpbaaGreatDoor
/-
  A line of names: what the reference's call returns.
-/
namespace Go.Proofs.YtijmkcnipflpbaaGreatDoor
open Go.RowKit

/-- a word and the names behind it. -/
def wordsT (word : List UInt8) (l : List (List UInt8)) : List UInt8 := word ++ (l.map ([32] ++ ·)).flatten
theorem wordsT_so {word : List UInt8} {l : List (List UInt8)} {k : Nat} (h : k < l.length) : wordsT word (l.take (k + 1)) = wordsT word (l.take k) ++ ([32] ++ l[k]) := by
  unfold wordsT
  rw [List.take_succ_eq_append_getElem h, List.map_append, List.flatten_append]; simp
theorem wordsT_join (word : List UInt8) : ∀ l : List (List UInt8), l ≠ [] → wordsT word l = word ++ ([32] ++ joinC 32 l)
  | [], h => absurd rfl h
  | [p], _ => by simp [wordsT, joinC]
  | p :: q :: r, _ => by
    have := wordsT_join [] (q :: r) (by simp)
    unfold wordsT at this ⊢
    simp only [List.nil_append] at this
    rw [List.map_cons, List.flatten_cons, this]
    simp [joinC]

set_option maxRecDepth 20000 in
set_option maxHeartbeats 2000000 in
theorem wordsS (word : List UInt8) (v : Value) (xs : List (List UInt8)) (w : World) (fp : List Nat) (hR : R_S1 fp w [v] xs) (hw : word.length ≤ 100) (hl : xs.length ≤ 1000) (hv : ∀ p ∈ xs, p.length ≤ 1000) :
    Calls Tryz.prog 55 #[es word, v] w fun e w' => e = .returned (es (wordsT word xs)) ∧ w = w' := by
  obtain ⟨a, cap, rfl, g1, g2, hc⟩ := slF1_open hR
  unfold maxLen at g2
  have HC := Lib.hid hc
  have HV := Lib.hid hv
  clear hR hc hv
  have H0 := Lib.hid (show word = wordsT word (xs.take 0) by simp [wordsT])
  have HS := Lib.hid (fun k (h : k < xs.length) => wordsT_so (word := word) h)
  have HE := Lib.hid (show wordsT word (xs.take xs.length) = wordsT word xs by rw [List.take_length])
  generalize wordsT word xs = Z at *
  go_enter Tryz.func55, Tryz.ntmps55
  go_wp2_with fail
  go_loop [5, 6] (fun tv iv => ∃ (k : Nat) (A : List UInt8), k ≤ xs.length ∧ iv = .int .i64 k ∧ tv = es A ∧ A.length ≤ 100 + 1001 * k ∧ Hid (A = wordsT word (xs.take k))) (fun _ iv => xs.length - (intOf iv).toNat)
  case atStart => exact ⟨0, word, Nat.zero_le _, rfl, rfl, by omega, H0⟩
  case round =>
    obtain ⟨k, A, hk, rfl, rfl, hA, HJ⟩ := hrel
    by_cases hlt : k < xs.length
    · obtain ⟨b, off, rfl, -, -, p0⟩ := HC.out k hlt
      have hkl : (k : Int) < (xs.length : Int) := by omega
      have hgv := HV.out _ (List.getElem_mem hlt)
      have HT := Lib.hid (HS.out k hlt)
      generalize xs[k] = B at *
      obtain ⟨A1, hA1⟩ : ∃ A1, A1 = [32] ++ B := ⟨_, rfl⟩
      obtain ⟨A2, hA2⟩ : ∃ A2, A2 = A ++ A1 := ⟨_, rfl⟩
      have hl1 : A1.length = 1 + B.length := by rw [hA1]; simp [Nat.add_comm]
      have hl2 : A2.length = A.length + A1.length := by rw [hA2]; simp
      have HE2 := Lib.hid (show A2 = wordsT word (xs.take (k + 1)) by rw [HT.out, ← HJ.out, hA2, hA1])
      have hcat1 : (ByteArray.mk #[32] ++ ByteArray.mk B.toArray) = ByteArray.mk A1.toArray := by rw [hA1, ← catE]
      have hcat2 : (ByteArray.mk A.toArray ++ ByteArray.mk A1.toArray) = ByteArray.mk A2.toArray := by rw [hA2, ← catE]
      have hm : A2.length ≤ 100 + 1001 * (k + 1) := by rw [hl2, hl1]; omega
      have hz : ¬ (9223372036854775807 < 1 + B.length) := by omega
      have hz2 : ¬ (9223372036854775807 < A.length + A1.length) := by omega
      have HM := Lib.hid hm
      clear hA1 hA2 hl1 hl2 hm HT
      go_wp2_with fail
      go_round
      case rel => exact ⟨k + 1, A2, by omega, by go_num, rfl, HM.out, HE2⟩
      case measure => simp [intOf]; omega
    · obtain rfl : k = xs.length := by omega
      have HJ2 := Lib.hid (show A = Z by rw [HJ.out, HE.out])
      clear HJ
      go_wp2_with fail
      go_ret
      exact ⟨by rw [← HJ2.out]; rfl, rfl⟩

end Go.Proofs.YtijmkcnipflpbaaGreatDoor

/-
  A number in decimal, read by the reference. (Printed by gennum.py: the two signs alike.)
-/
namespace Go.Proofs.YtijmkcnipflpbaaGreatDoor
open Go.RowKit

end Go.Proofs.YtijmkcnipflpbaaGreatDoor

/-
  The values of a label, as the reference reads them, are those that the program reads.
-/
namespace Go.Proofs.YtijmkcnipflpbaaGreatDoor
open Go.RowKit

end Go.Proofs.YtijmkcnipflpbaaGreatDoor

/-
  A text divided at each byte by the reference.
-/
namespace Go.Proofs.YtijmkcnipflpbaaGreatDoor
open Go.RowKit

end Go.Proofs.YtijmkcnipflpbaaGreatDoor

/-
  The values of a label, read by the reference.
-/
namespace Go.Proofs.YtijmkcnipflpbaaGreatDoor
open Go.RowKit

end Go.Proofs.YtijmkcnipflpbaaGreatDoor

/-
  Whether all numbers of a list are values: what the reference's call returns.
-/
namespace Go.Proofs.YtijmkcnipflpbaaGreatDoor
open Go.RowKit

set_option maxRecDepth 20000 in
theorem dataS (v : Value) (xs : List Int) (w : World) (fp : List Nat) (hR : R_I1 fp w [v] xs) :
    Calls Tryz.prog 86 #[v] w fun e w' => e = .returned (.bool (xs.all isV)) ∧ w = w' := by
  obtain ⟨a1, c1, rfl, hl1, hm1, hc1⟩ := slF1_open hR
  unfold maxLen at hm1
  have HC := Lib.hid hc1
  clear hR hc1
  go_enter Tryz.func86, Tryz.ntmps86
  go_wp2_with fail
  go_loop [3] (fun i => ∃ k : Nat, k ≤ xs.length ∧ i = .int .i64 k ∧ Hid ((xs.drop k).all isV = xs.all isV)) (fun i => xs.length - (intOf i).toNat)
  case atStart => exact ⟨0, Nat.zero_le _, rfl, Lib.hid rfl⟩
  case round =>
    obtain ⟨k, hk, rfl, HF⟩ := hrel
    by_cases hlt : k < xs.length
    · obtain ⟨b1, o1, rfl, -, -, p1⟩ := HC.out k hlt
      have hf := HF.out
      rw [List.drop_eq_getElem_cons hlt, List.all_cons] at hf
      have HD := Lib.hid hf
      have hkl : (k : Int) < (xs.length : Int) := by omega
      clear hf
      generalize xs[k] = x at *
      have S1 := Lib.hid (fun W => show Calls Tryz.prog 84 #[.int .i64 x, .int .i64 0, .int .i64 63] W (fun e w' => e = .returned (.bool (isV x)) ∧ W = w') from l00In x 0 63 W)
      generalize isV x = q at *
      cases q with
      | false =>
        have HZ := Lib.hid (show xs.all isV = false by rw [← HD.out]; rfl)
        go_wp2_with fail
        refine (S1.out _).mono ?_
        rintro e w1 ⟨rfl, rfl⟩
        go_wp2_with fail
        go_ret
        exact ⟨by rw [HZ.out]; rfl, rfl⟩
      | true =>
        go_wp2_with fail
        refine (S1.out _).mono ?_
        rintro e w1 ⟨rfl, rfl⟩
        go_wp2_with fail
        go_round
        case rel => exact ⟨k + 1, by omega, by go_num, Lib.hid (by rw [← HD.out]; rfl)⟩
        case measure => simp [intOf]; omega
    · have hf := HF.out
      rw [List.drop_of_length_le (by omega)] at hf
      have HZ := Lib.hid (show xs.all isV = true by rw [← hf]; rfl)
      clear hf
      go_wp2_with fail
      go_ret
      exact ⟨by rw [HZ.out]; rfl, rfl⟩

end Go.Proofs.YtijmkcnipflpbaaGreatDoor

/-
  Slices of elements of three or four plain cells each.
-/
namespace Go.Proofs.YtijmkcnipflpbaaGreatDoor
open Go.RowKit

end Go.Proofs.YtijmkcnipflpbaaGreatDoor

/-
  Two rows that a call appends to in turn, of texts and of numbers, over any items.
-/
namespace Go.Proofs.YtijmkcnipflpbaaGreatDoor
open Go.RowKit

theorem ownsRow_grownX {w w1 : World} {base : Nat} {e : TypeId} {size : Nat} {v : Value} {n : Nat} {xs : List Value} (h : w.ownsRow base e size v n xs) {row : Option Nat} (hg : w.grownBy w1 row) (hd : ∀ b, v.ownBlock = some b → row ≠ some b) : w1.ownsRow base e size v n xs := by
  refine h.kept (row := row) hg ?_
  cases hv : v.ownBlock with
  | none => exact Or.inl rfl
  | some b => exact Or.inr (fun e => hd b hv e.symm)

theorem own_cellsX {w : World} {base : Nat} {e : TypeId} {v : Value} {n : Nat} {xs : List Value} (h : w.ownsRow base e 1 v n xs) (h0 : 0 < n) :
    ∃ g cap, v = .slice (some ⟨g, 0, none⟩) n cap ∧ n ≤ cap ∧ cap ≤ maxLen ∧ base ≤ g ∧ g < w.heap.size ∧ ∀ j, j < n → w.cell? ⟨g, j, none⟩ = xs[j]? := by
  have h' := h
  rcases h.2 with ⟨-, h1⟩ | ⟨g, cap, cur, rfl, hb, hh, q1, q2, q3, q4⟩
  · omega
  · exact ⟨g, cap, rfl, q1, q2, hb, (Array.getElem?_eq_some_iff.1 hh).1, fun j hj => h'.cellAt j (by omega)⟩

section
variable {β : Type} {ft : β → List UInt8} {fl : β → Int}
def txG (ft : β → List UInt8) (xs : List β) : List Value := xs.reverse.map fun x => es (ft x)
def lvG (fl : β → Int) (xs : List β) : List Value := xs.reverse.map fun x => .int .i64 (fl x)
theorem txG_cons (x : β) (xs : List β) : txG ft (x :: xs) = txG ft xs ++ [es (ft x)] := by simp [txG]
theorem lvG_cons (x : β) (xs : List β) : lvG fl (x :: xs) = lvG fl xs ++ [.int .i64 (fl x)] := by simp [lvG]
theorem rev_take {γ : Type} (xs : List γ) (a : Nat) : xs.reverse.take (xs.length - a) = (xs.drop a).reverse := by
  rw [List.take_reverse]
  by_cases h : a ≤ xs.length
  · rw [show xs.length - (xs.length - a) = a by omega]
  · rw [show xs.length - (xs.length - a) = xs.length by omega, List.drop_of_length_le (Nat.le_refl _), List.drop_of_length_le (by omega)]
theorem txG_take (xs : List β) (a : Nat) : (txG ft xs).take ((xs.length - a) * 1) = txG ft (xs.drop a) := by
  unfold txG
  rw [Nat.mul_one, ← List.map_take, rev_take]
theorem rev_at {γ : Type} (xs : List γ) (i : Nat) (h : i < xs.length) : xs.reverse[xs.length - 1 - i]? = some xs[i] := by
  rw [List.getElem?_reverse (by omega), show xs.length - 1 - (xs.length - 1 - i) = i by omega]; simp
theorem txG_at (xs : List β) (i : Nat) (h : i < xs.length) : (txG ft xs)[xs.length - 1 - i]? = some (es (ft xs[i])) := by
  unfold txG; rw [List.getElem?_map, rev_at xs i h]; rfl
/-- the two stacks, apart. -/
structure StkG (ft : β → List UInt8) (fl : β → Int) (w0 w : World) (tv lv : Value) (xs : List β) : Prop where
  t : w.ownsRow w0.heap.size 9 1 tv xs.length (txG ft xs)
  l : w.ownsRow w0.heap.size 2 1 lv xs.length (lvG fl xs)
  apart : ∀ b, tv.ownBlock = some b → lv.ownBlock ≠ some b
theorem StkG.upd {w0 w w1 : World} {tv lv : Value} {xs : List β} (h : StkG ft fl w0 w tv lv xs) (hu : Upd [] w w1) : StkG ft fl w0 w1 tv lv xs :=
  ⟨ownsRow_upd h.t hu, ownsRow_upd h.l hu, h.apart⟩
theorem StkG.done {w0 wA w3 w4 : World} {tvc lvc tv' lv' : Value} {ys : List β} {x : β} {o : Obj} (hl : wA.ownsRow w0.heap.size 2 1 lvc ys.length (lvG fl ys))
    (hap : ∀ b, tvc.ownBlock = some b → lvc.ownBlock ≠ some b) (h3 : w3.ownsRow w0.heap.size 9 1 tv' (ys.length + 1) (txG ft ys ++ [es (ft x)])) (ht3 : ∀ b, tv'.ownBlock = some b → tvc.ownBlock = some b ∨ wA.heap.size ≤ b)
    (h4 : w4.ownsRow w0.heap.size 2 1 lv' (ys.length + 1) (lvG fl ys ++ [.int .i64 (fl x)])) (hg4 : (w3.alloc o).grownBy w4 lvc.ownBlock) (ht4 : ∀ b, lv'.ownBlock = some b → lvc.ownBlock = some b ∨ (w3.alloc o).heap.size ≤ b) : StkG ft fl w0 w4 tv' lv' (x :: ys) := by
  have hd : ∀ b, tv'.ownBlock = some b → lvc.ownBlock ≠ some b := by
    intro b hb hlb
    rcases ht3 b hb with h | h
    · exact hap b h hlb
    · have := (hl.lt b hlb).2; omega
  refine ⟨?_, by rw [lvG_cons]; simpa using h4, ?_⟩
  · rw [txG_cons]
    exact ownsRow_grownX (ownsRow_upd (by simpa using h3) ((Upd.refl [] _).alloc o)) hg4 hd
  · intro b hb hlb
    rcases ht4 b hlb with h | h
    · exact hd b hb h
    · have := (h3.lt b hb).2; simp at h; omega
theorem StkG.levels {w0 wA w3 : World} {tvc lvc : Value} {ys : List β} {o : Obj} (hl : wA.ownsRow w0.heap.size 2 1 lvc ys.length (lvG fl ys))
    (hap : ∀ b, tvc.ownBlock = some b → lvc.ownBlock ≠ some b) (hg3 : wA.grownBy w3 tvc.ownBlock) : (w3.alloc o).ownsRow w0.heap.size 2 1 lvc ys.length (lvG fl ys) :=
  ownsRow_upd (ownsRow_grownX hl hg3 (fun b hb h => hap b h hb)) ((Upd.refl [] _).alloc o)
end

end Go.Proofs.YtijmkcnipflpbaaGreatDoor

/-
  Two rows that a call appends to in turn, of texts and of truths, over any items.
-/
namespace Go.Proofs.YtijmkcnipflpbaaGreatDoor
open Go.RowKit

section
variable {β : Type} {ft : β → List UInt8} {fl : β → Bool}
def lvB (fl : β → Bool) (xs : List β) : List Value := xs.reverse.map fun x => .bool (fl x)
theorem lvB_cons (x : β) (xs : List β) : lvB fl (x :: xs) = lvB fl xs ++ [.bool (fl x)] := by simp [lvB]
theorem lvB_take (xs : List β) (a : Nat) : (lvB fl xs).take ((xs.length - a) * 1) = lvB fl (xs.drop a) := by
  unfold lvB
  rw [Nat.mul_one, ← List.map_take, rev_take]
theorem lvB_at (xs : List β) (i : Nat) (h : i < xs.length) : (lvB fl xs)[xs.length - 1 - i]? = some (.bool (fl xs[i])) := by
  unfold lvB; rw [List.getElem?_map, rev_at xs i h]; rfl

/-- the two stacks, apart. -/
structure StkB (ft : β → List UInt8) (fl : β → Bool) (w0 w : World) (tv lv : Value) (xs : List β) : Prop where
  t : w.ownsRow w0.heap.size 9 1 tv xs.length (txG ft xs)
  l : w.ownsRow w0.heap.size 4 1 lv xs.length (lvB fl xs)
  apart : ∀ b, tv.ownBlock = some b → lv.ownBlock ≠ some b
theorem StkB.upd {w0 w w1 : World} {tv lv : Value} {xs : List β} (h : StkB ft fl w0 w tv lv xs) (hu : Upd [] w w1) : StkB ft fl w0 w1 tv lv xs :=
  ⟨ownsRow_upd h.t hu, ownsRow_upd h.l hu, h.apart⟩
theorem StkB.done {w0 wA w3 w4 : World} {tvc lvc tv' lv' : Value} {ys : List β} {x : β} {o : Obj} (hl : wA.ownsRow w0.heap.size 4 1 lvc ys.length (lvB fl ys))
    (hap : ∀ b, tvc.ownBlock = some b → lvc.ownBlock ≠ some b) (h3 : w3.ownsRow w0.heap.size 9 1 tv' (ys.length + 1) (txG ft ys ++ [es (ft x)])) (ht3 : ∀ b, tv'.ownBlock = some b → tvc.ownBlock = some b ∨ wA.heap.size ≤ b)
    (h4 : w4.ownsRow w0.heap.size 4 1 lv' (ys.length + 1) (lvB fl ys ++ [.bool (fl x)])) (hg4 : (w3.alloc o).grownBy w4 lvc.ownBlock) (ht4 : ∀ b, lv'.ownBlock = some b → lvc.ownBlock = some b ∨ (w3.alloc o).heap.size ≤ b) : StkB ft fl w0 w4 tv' lv' (x :: ys) := by
  have hd : ∀ b, tv'.ownBlock = some b → lvc.ownBlock ≠ some b := by
    intro b hb hlb
    rcases ht3 b hb with h | h
    · exact hap b h hlb
    · have := (hl.lt b hlb).2; omega
  refine ⟨?_, by rw [lvB_cons]; simpa using h4, ?_⟩
  · rw [txG_cons]
    exact ownsRow_grownX (ownsRow_upd (by simpa using h3) ((Upd.refl [] _).alloc o)) hg4 hd
  · intro b hb hlb
    rcases ht4 b hlb with h | h
    · exact hd b hb h
    · have := (h3.lt b hb).2; simp at h; omega
theorem StkB.levels {w0 wA w3 : World} {tvc lvc : Value} {ys : List β} {o : Obj} (hl : wA.ownsRow w0.heap.size 4 1 lvc ys.length (lvB fl ys))
    (hap : ∀ b, tvc.ownBlock = some b → lvc.ownBlock ≠ some b) (hg3 : wA.grownBy w3 tvc.ownBlock) : (w3.alloc o).ownsRow w0.heap.size 4 1 lvc ys.length (lvB fl ys) :=
  ownsRow_upd (ownsRow_grownX hl hg3 (fun b hb h => hap b h hb)) ((Upd.refl [] _).alloc o)
end

end Go.Proofs.YtijmkcnipflpbaaGreatDoor

/-
  Pieces of the text of a body: what the reference's calls return; plain pieces.
-/
namespace Go.Proofs.YtijmkcnipflpbaaGreatDoor
open Go.RowKit

theorem es_parW (T : List UInt8) : ((⟨#[40]⟩ : ByteArray) ++ ⟨T.toArray⟩ ++ ⟨#[41]⟩) = ⟨(([40] ++ T) ++ [41]).toArray⟩ := by rw [catE, catE]
set_option maxRecDepth 20000 in
theorem wrapDS (T : List UInt8) (b : Bool) (hl : T.length ≤ 1000000) (w : World) : Calls Tryz.prog 110 #[es T, .bool b] w fun e w' => e = .returned (es (par b T)) ∧ w = w' := by
  cases b
  · go_enter Tryz.func110, Tryz.ntmps110
    go_wp2_with fail
    go_ret
    exact ⟨rfl, rfl⟩
  · go_enter Tryz.func110, Tryz.ntmps110
    go_wp2_with fail
    go_ret
    exact ⟨by simp only [par, if_true, es_parW]; rfl, rfl⟩
set_option maxRecDepth 20000 in
set_option maxHeartbeats 1000000 in
theorem argsDS (v : Value) (l : List (List Tm)) (w : World) (fp : List Nat) (hR : R_T2 fp w [v] l) (hl : l.length ≤ 3) (hv : ∀ e ∈ l, eOk e = true) :
    Calls Tryz.prog 109 #[v] w fun e w' => e = .returned (es (argsTxt l)) ∧ Upd [] w w' := by
  have S1 := Lib.hid (rowS44 v l w fp hR (by omega) hv)
  obtain ⟨a, c, rfl, g1, g2, -⟩ := slP_open hR
  unfold maxLen at g2
  have hlen := rowT_len 44 l
  have HM := Lib.hid (show argsTxt l = if l.length = 0 then [] else ([40] ++ joinC 44 (l.map expT)) ++ [41] from rfl)
  clear hR
  generalize joinC 44 (l.map expT) = T at *
  generalize argsTxt l = Z at *
  by_cases h0 : l.length = 0
  · have HZ := Lib.hid (show Z = [] by rw [HM.out, if_pos h0])
    have hb : ((l.length : Int) == 0) = true := by rw [h0]; rfl
    clear HM S1 h0
    go_enter Tryz.func109, Tryz.ntmps109
    go_wp2_with fail
    go_ret
    exact ⟨by rw [HZ.out]; rfl, Upd.refl _ _⟩
  · have HZ := Lib.hid (show Z = ([40] ++ T) ++ [41] by rw [HM.out, if_neg h0])
    have hb : ((l.length : Int) == 0) = false := by simp; intro h; exact h0 (by rw [h]; rfl)
    have n1 : ¬ (9223372036854775807 < 1 + T.length) := by omega
    have n2 : ¬ (9223372036854775807 < 1 + T.length + 1) := by omega
    clear HM h0
    go_enter Tryz.func109, Tryz.ntmps109
    go_wp2_with fail
    refine S1.out.mono ?_
    rintro e w1 ⟨rfl, hu⟩
    have HU := Lib.hid hu
    clear S1 hu
    go_wp2_with fail
    go_ret
    exact ⟨by rw [HZ.out, es_parW]; rfl, HU.out⟩

theorem getD_takeD {γ : Type} (xs : List γ) (a i : Nat) (d : γ) (h : i < a) : (xs.take a).getD i d = xs.getD i d := by
  rw [List.getD_eq_getElem?_getD, List.getD_eq_getElem?_getD, List.getElem?_take, if_pos h]
theorem getD_ltD {γ δ : Type} (xs : List γ) (F : γ → δ) (i : Nat) (d : δ) (h : i < xs.length) : (xs.map F).getD i d = F xs[i] := by
  rw [List.getD_eq_getElem?_getD, List.getElem?_map, List.getElem?_eq_getElem h, Option.map_some, Option.getD_some]
theorem forestT_leD {α : Type} : ∀ xs : List (Tr α), xs.length ≤ (flatTs xs).length
  | [] => by simp
  | x :: xs => by
    have := forestT_leD xs
    have := flatT_pos x
    simp only [flatTs, List.length_append, List.length_cons]; omega
/-- the text of a part, those of its first two children given. -/
noncomputable def nodeD (ns : List (List UInt8)) (p : Pa) (c0 : Bool) (t0 t1 : List UInt8) : List UInt8 :=
  if p.kind = 1 then ((p.name ++ argsTxt p.args) ++ [46]) ++ par c0 t0
  else if p.kind = 2 then (par c0 t0 ++ [32, 43, 32]) ++ t1
  else if p.kind = 3 then (([91] ++ expT (p.args.getD 0 [])) ++ [93]) ++ par c0 t0
  else if p.kind = 4 then (([115, 117, 109, 32] ++ Lib.itoa p.num) ++ [46]) ++ par c0 t0
  else if p.kind = 5 then ns.getD p.num.toNat [] ++ argsTxt p.args
  else [48]
theorem pT_node (ns : List (List UInt8)) (p : Pa) (xs : List (Tr Pa)) : pT ns (.mk p (xs.take (folP p).toNat)) = nodeD ns p ((xs.map chP).getD 0 false) ((xs.map (pT ns)).getD 0 []) ((xs.map (pT ns)).getD 1 []) := by
  have h1 : 1 ≤ (folP p).toNat → (((xs.take (folP p).toNat).map chP).getD 0 false = (xs.map chP).getD 0 false ∧ ((xs.take (folP p).toNat).map (pT ns)).getD 0 [] = (xs.map (pT ns)).getD 0 []) := fun h => by
    rw [List.map_take, List.map_take]
    exact ⟨getD_takeD _ _ _ _ (by omega), getD_takeD _ _ _ _ (by omega)⟩
  have h2 : 2 ≤ (folP p).toNat → ((xs.take (folP p).toNat).map (pT ns)).getD 1 [] = (xs.map (pT ns)).getD 1 [] := fun h => by
    rw [List.map_take]; exact getD_takeD _ _ _ _ (by omega)
  rw [pT, pTs_map]
  unfold nodeD
  by_cases c1 : p.kind = 1
  · have hf : folP p = 1 := by unfold folP; rw [if_pos (Or.inl c1)]
    obtain ⟨g1, g2⟩ := h1 (by rw [hf]; decide)
    simp only [c1, if_true]; rw [g1, g2]
  by_cases c2 : p.kind = 2
  · have hf : folP p = 2 := by unfold folP; rw [if_neg (by omega), if_pos c2]
    obtain ⟨g1, g2⟩ := h1 (by rw [hf]; decide)
    have g3 := h2 (by rw [hf]; decide)
    simp only [c2]; rw [g1, g2, g3]; try simp
  by_cases c3 : p.kind = 3
  · have hf : folP p = 1 := by unfold folP; rw [if_pos (Or.inr (Or.inl c3))]
    obtain ⟨g1, g2⟩ := h1 (by rw [hf]; decide)
    simp only [c3]; rw [g1, g2]; try simp
  by_cases c4 : p.kind = 4
  · have hf : folP p = 1 := by unfold folP; rw [if_pos (Or.inr (Or.inr c4))]
    obtain ⟨g1, g2⟩ := h1 (by rw [hf]; decide)
    simp only [c4]; rw [g1, g2]; try simp
  simp only [c1, c2, c3, c4, if_false]

end Go.Proofs.YtijmkcnipflpbaaGreatDoor

/-
  A row of cells known whole; elements of several cells collected by append.
-/
namespace Go.Proofs.YtijmkcnipflpbaaGreatDoor
open Go.RowKit

/-- block T holds these cells, and none is frozen. -/
def RowAt (W : World) (T : Nat) (ty : TypeId) (cs : List Value) : Prop := W.heap[T]? = some (.cells cs.toArray ty (0, 0))
namespace RowAt
variable {W W' : World} {T : Nat} {ty : TypeId} {cs : List Value}
theorem new (W : World) (ty : TypeId) (cs : List Value) : RowAt (W.alloc (.cells cs.toArray ty)) W.heap.size ty cs := heap_alloc_new W _
theorem lt (h : RowAt W T ty cs) : T < W.heap.size := (Array.getElem?_eq_some_iff.1 h).1
theorem upd (h : RowAt W T ty cs) {f : List Nat} (hu : Upd f W W') (hT : T ∉ f) : RowAt W' T ty cs := by
  unfold RowAt; rw [hu.block T h.lt hT]; exact h
theorem cell (h : RowAt W T ty cs) (j : Nat) (c : Value) (hc : cs[j]? = some c) : W.cell? ⟨T, j, none⟩ = some c := by unfold RowAt at h; simp [World.cell?, h, hc]
theorem fz (h : RowAt W T ty cs) (j : Nat) : W.frozen? ⟨T, j, none⟩ = false := by unfold RowAt at h; simp [World.frozen?, h]
theorem store (h : RowAt W T ty cs) (j : Nat) (v : Value) : RowAt (W.setCell ⟨T, j, none⟩ v) T ty (cs.set j v) := by
  unfold RowAt at h ⊢; simp [World.setCell, Array.getElem?_modify, h]
theorem other (h : RowAt W T ty cs) (g j : Nat) (v : Value) (hg : g ≠ T) : RowAt (W.setCell ⟨g, j, none⟩ v) T ty cs := by
  unfold RowAt at h ⊢; rw [Below.heap_setCell _ _ _ _ (by simpa using fun e => hg e.symm)]; exact h
theorem row (h : RowAt W T ty cs) (ds : List Value) : RowAt (W.setRow T ds.toArray) T ty ds := setRow_heap W T _ _ _ _ h
theorem own (h : RowAt W T ty cs) : Own [T] W := ⟨by simp, by intro b hb; obtain rfl : b = T := (by simpa using hb); exact ⟨_, _, h⟩⟩
end RowAt

/-- A slice of elements of n cells each, with memory of their own, that a call collects by append: e is the element's type. -/
def AccQ {α : Type} (n : Nat) (R : Rp α) (w0 : World) (e : TypeId) (w : World) (v : Value) (xs : List α) : Prop :=
  ∃ us, w.ownsRow w0.heap.size e n v xs.length (List.flatten us) ∧ RowsQ n R w0.heap.size v.ownBlock.toList w us xs

namespace AccQ
variable {α : Type} {n : Nat} {R : Rp α} {w0 w w1 w2 : World} {e : TypeId} {v : Value} {xs : List α}

theorem nil (n : Nat) (R : Rp α) (w0 : World) (e : TypeId) (w : World) : AccQ n R w0 e w (.slice none 0 0) [] := ⟨[], World.ownsRow_nil _ _ _ _, RowsQ.nil _ _ _ _ _⟩
theorem upd (K : Kept R) (h : AccQ n R w0 e w v xs) (hu : Upd [] w w1) : AccQ n R w0 e w1 v xs := by
  obtain ⟨us, h1, h2⟩ := h
  exact ⟨us, ownsRow_upd h1 hu, h2.upd K hu (by simp)⟩
theorem other (K : Kept R) (h : AccQ n R w0 e w v xs) {b : Nat} (hu : Upd [b] w w1) (hb : b < w0.heap.size) : AccQ n R w0 e w1 v xs := by
  obtain ⟨us, h1, h2⟩ := h
  refine ⟨us, h1.kept (row := some b) ⟨hu.os, hu.tape, hu.output, hu.size, fun k hk hne => hu.block k hk (by simpa using hne)⟩ ?_, h2.upd K hu (by simp; omega)⟩
  cases hv : v.ownBlock with
  | none => exact Or.inl rfl
  | some g =>
    right
    have := (h1.lt g hv).1
    intro e; cases e; omega
theorem new (h : AccQ n R w0 e w v xs) : New (slQ n R) w0 w v xs := by
  obtain ⟨us, h1, h2⟩ := h
  exact h2.new h1 (fun b hb => by simp [hb]) (Nat.le_refl _)
theorem own (h : AccQ n R w0 e w v xs) : ∃ us, w.ownsRow w0.heap.size e n v xs.length us := by obtain ⟨us, h1, -⟩ := h; exact ⟨_, h1⟩
theorem form (h : AccQ n R w0 e w v xs) : ∃ a c, v = .slice a xs.length c := by obtain ⟨us, h1, -⟩ := h; exact ownsRow_form h1
/-- Behind an append of one element, its cells made between w and w1 and laid into a new block: what the append's law leaves. -/
theorem push (K : Kept R) {us : List (List Value)} (hown : w.ownsRow w0.heap.size e n v xs.length us.flatten) (hrows : RowsQ n R w0.heap.size v.ownBlock.toList w us xs) (hs : w0.heap.size ≤ w.heap.size) {u : List Value} {x : α} (hu : Upd [] w w1) (hn : NewQ R w w1 u x) (hl : u.length = n) (o : Obj) {v2 : Value}
    (h2 : w2.ownsRow w0.heap.size e n v2 (xs.length + 1) (us.flatten ++ u)) (hg : (w1.alloc o).grownBy w2 v.ownBlock)
    (ht : ∀ b, v2.ownBlock = some b → v.ownBlock = some b ∨ (w1.alloc o).heap.size ≤ b) : AccQ n R w0 e w2 v2 (xs ++ [x]) := by
  refine ⟨us ++ [u], by simpa using h2, ?_⟩
  have hob : ∀ b ∈ v.ownBlock.toList, b < w.heap.size := fun b hb => (hown.lt b (by simpa using hb)).2
  have hr1 := hrows.push K hu hn hl hs hob
  have hu2 : Upd [] w1 (w1.alloc o) := (Upd.refl _ _).alloc o
  have hr2 := hr1.upd K hu2 (by simp)
  have hu3 : Upd v.ownBlock.toList (w1.alloc o) w2 := (Upd.refl _ _).grown hg (fun k hk => Or.inr (by simp [hk]))
  have hr3 := RowsQ.ob' hr2 (ob2 := v.ownBlock.toList ++ v2.ownBlock.toList) (by
    intro b hb
    rcases List.mem_append.1 hb with hb | hb
    · exact Or.inl hb
    · rcases ht b (by simpa using hb) with h | h
      · exact Or.inl (by simp [h])
      · exact Or.inr (Or.inr h))
  have hr4 := hr3.upd K hu3 (fun b hb => Or.inl (List.mem_append_left _ hb))
  exact hr4.ob' (fun b hb => Or.inl (List.mem_append_right _ hb))
end AccQ

end Go.Proofs.YtijmkcnipflpbaaGreatDoor

/-
  What the listed tables give the walks.
-/
namespace Go.Proofs.YtijmkcnipflpbaaGreatDoor
open Go.RowKit

/-- an array of strings that reads as these texts holds them, cell for cell. -/
theorem strs_of_array {H : Type} {enc : TypeId × Value → H} {P : Program} {w : World} {base : Nat} {sp : Nat → Bool} {held : Bool} {fuel : Nat} {t e : TypeId} {n : Nat} {cs : List Value} {zs : List (List UInt8)} {p : List MemPlace}
    (ht : P.underlying t = some (.array n e)) (he : P.underlying e = some .string) (hce : P.cellsOf e = 1) (hct : P.cellsOf t = n)
    (h : DataW.trod enc P w base sp held fuel t cs = some (.agg (zs.map fun z => .lit (.string z)), p)) : cs = zs.map es := by
  obtain ⟨xs, m, rfl, hx, hl, hxl, hall⟩ := DataW.trod_array ht h
  have hxs : xs.map (·.1) = zs.map fun z => (DataW.lit (.string z) : DataW H) := by
    have := congrArg Prod.fst hx
    simpa using this.symm
  have hzl : zs.length = n := by
    have := congrArg List.length hxs
    simp at this
    omega
  apply List.ext_getElem?
  intro i
  by_cases hi : i < n
  · have h1 := hall i hi
    obtain ⟨b, hb⟩ : ∃ b, xs[i]? = some b := ⟨xs[i]'(by omega), List.getElem?_eq_getElem (by omega)⟩
    rw [hb, hce, Nat.mul_one] at h1
    obtain ⟨s, hc, rfl, _⟩ := DataW.trod_string he h1
    have h2 : cs[i]? = some (.string s) := by
      have := congrArg (·[0]?) hc
      simpa [List.getElem?_take, List.getElem?_drop] using this
    have h3 : (xs.map (·.1))[i]? = some (DataW.lit (.string s.data.toList) : DataW H) := by simp [hb]
    rw [hxs] at h3
    simp only [List.getElem?_map, Option.map_eq_some_iff, DataW.lit.injEq, Lit.string.injEq] at h3
    obtain ⟨z, hz, rfl⟩ := h3
    simp [h2, hz]
  · rw [List.getElem?_eq_none (by omega), List.getElem?_eq_none (by simp; omega)]

theorem glob_of {W : World} {do' dl : DataW Unit} {no nl : String} (ho : Lib.VarReads Tryz.prog W no do') (hl : Lib.VarReads Tryz.prog W nl dl)
    (hdo : do' = .agg (([[43], [45], [42], [61], [35], [60], [60, 61], [38], [124]] : List (List UInt8)).map fun z => .lit (.string z)))
    (hdl : dl = Lib.tabData .i64 [4, 4, 5, 3, 3, 3, 3, 2, 1])
    (hno : Tryz.prog.globalNamed no = some 1) (hnl : Tryz.prog.globalNamed nl = some 2)
    (hto : (Tryz.prog.globals[1]?).map (·.type) = some 185) (htl : (Tryz.prog.globals[2]?).map (·.type) = some 210)
    (hc9 : Tryz.prog.cellsOf 185 = 9) (hcs : Tryz.prog.cellsOf 9 = 1) (hc9' : Tryz.prog.cellsOf 210 = 9) (hci : Tryz.prog.cellsOf 2 = 1) : Glob W := by
  obtain ⟨g, t, cs, fuel, p, hg, ht, hv, hd⟩ := ho
  obtain ⟨g', t', cs', fuel', p', hg', ht', hv', hd'⟩ := hl
  obtain rfl := Option.some.inj (hno.symm.trans hg)
  obtain rfl := Option.some.inj (hnl.symm.trans hg')
  obtain rfl := Option.some.inj (hto.symm.trans ht)
  obtain rfl := Option.some.inj (htl.symm.trans ht')
  subst hdo hdl
  have e1 := strs_of_array Tryz.underlying185 Tryz.underlying9 hcs hc9 hd
  have e2 := Lib.cells_of_tab Tryz.underlying210 Tryz.underlying2 hci hc9' hd'
  constructor
  · intro i hi
    rw [World.var?_cell hg hv i, ← Array.getElem?_toList, e1]
    rcases (by omega : i = 0 ∨ i = 1 ∨ i = 2 ∨ i = 3 ∨ i = 4 ∨ i = 5 ∨ i = 6 ∨ i = 7 ∨ i = 8) with rfl | rfl | rfl | rfl | rfl | rfl | rfl | rfl | rfl <;> simp [opT]
  · intro i hi
    rw [World.var?_cell hg' hv' i, ← Array.getElem?_toList, e2]
    rcases (by omega : i = 0 ∨ i = 1 ∨ i = 2 ∨ i = 3 ∨ i = 4 ∨ i = 5 ∨ i = 6 ∨ i = 7 ∨ i = 8) with rfl | rfl | rfl | rfl | rfl | rfl | rfl | rfl | rfl <;> simp [lvl]

end Go.Proofs.YtijmkcnipflpbaaGreatDoor

/-
  The form's reading of slices of structs with memory of their own.
-/
namespace Go.Proofs.YtijmkcnipflpbaaGreatDoor
open Go.RowKit Go.ChangeShapes Go.WideShapes Go.Deep

theorem opens_slQ {α : Type} {P : Program} {t e : TypeId} {n : Nat} {R : Rp α} {φ : α → Prop} (ht : P.underlying t = some (.slice e)) (hc : P.cellsOf e = n) (hn : 0 < n) (h : Opens P e R φ) :
    Opens P t (slQ n R) (fun xs => ∀ x ∈ xs, φ x) := by
  intro H enc w fuel cs x hx
  rcases open_slice ht hx with ⟨rfl, -⟩ | ⟨a, len, cap, m, q, D, Pl, rfl, -, hl, hm, hmm, -, hel⟩
  · exact ⟨[], [], slQ_nil w none 0 (by simp [maxLen]), by simp⟩
  · have hlm : len ≤ m := by subst hmm; simpa using hl
    rw [hc] at hel
    obtain ⟨l, hll, hlq⟩ := list_choice (fun i (y : α × List Value × List Nat) => (y.2.1.length = n ∧ ∀ j, j < n → w.cell? ((a.add (i * n)).add j) = y.2.1[j]?) ∧ R y.2.2 w y.2.1 y.1 ∧ φ y.1) len (fun i hi => by
      obtain ⟨cs', h1, h2⟩ := hel i (by omega)
      obtain ⟨-, h3, h4⟩ := World.cells?_some h1
      obtain ⟨y, f, hr, hy⟩ := h h2
      exact ⟨(y, cs', f), ⟨h3, h4⟩, hr, hy⟩)
    by_cases h0 : len = 0
    · subst h0
      exact ⟨[], [], by simpa using slQ_nil w (some a) cap hm, by simp⟩
    · have q0 := hlq 0 l[0] (by simp)
      have hc0 := q0.1.2 0 hn
      obtain ⟨c0, hc1⟩ : ∃ c, l[0].2.1[0]? = some c := ⟨_, List.getElem?_eq_getElem (by rw [q0.1.1]; exact hn)⟩
      rw [hc1] at hc0
      have hs : a.spot = none := by simpa [Addr.add] using World.cell?_spot hc0
      obtain ⟨b, off, spot⟩ := a
      simp at hs
      subst hs
      have ha : ∀ o, (⟨b, off, none⟩ : Addr).add o = ⟨b, off + o, none⟩ := fun o => by simp only [Addr.add]; split <;> simp_all
      have ha2 : ∀ o o2, (⟨b, off + o, none⟩ : Addr).add o2 = ⟨b, off + o + o2, none⟩ := fun o o2 => by simp only [Addr.add]; split <;> simp_all
      refine ⟨l.map (·.1), [b] ++ (l.map (·.2.2)).flatten, ⟨some ⟨b, off, none⟩, cap, l.map (·.2.1), [b], l.map (·.2.2), by simp [hll], by simpa [hll] using hl, hm, by simp, ?_, by simp, rfl, Or.inr ⟨b, off, rfl, rfl, ?_, ?_⟩, ?_⟩, ?_⟩
      · intro u hu
        obtain ⟨y, hy, rfl⟩ := List.mem_map.1 hu
        obtain ⟨i, hi, rfl⟩ := List.mem_iff_getElem.1 hy
        exact (hlq i _ (by simp)).1.1
      · have := World.block_lt_of_cell? w _ hc0
        simpa [Addr.add] using this
      · intro i j u c hu hj
        rw [List.getElem?_map] at hu
        cases hli : l[i]? with
        | none => simp [hli] at hu
        | some y =>
          simp [hli] at hu
          subst hu
          have g := hlq i y hli
          have := g.1.2 j (by rw [← g.1.1]; exact (List.getElem?_eq_some_iff.1 hj).1)
          rw [ha, ha2] at this
          rw [this]; exact hj
      · intro i hi u f hu hf
        simp at hi
        have hq := hlq i l[i] (by simp)
        simp [List.getElem?_eq_getElem hi] at hf hu
        subst hf hu
        simpa using hq.2.1
      · intro x hx
        obtain ⟨y, hy, rfl⟩ := List.mem_map.1 hx
        obtain ⟨i, hi, rfl⟩ := List.mem_iff_getElem.1 hy
        exact (hlq i _ (by simp)).2.2

section
variable {P : Program} {H : Type} {enc : TypeId × Value → H} {w : World} {base : Nat} {spare : Nat → Bool} {held : Bool}
theorem trod_struct5 {t : TypeId} {f0 f1 f2 f3 f4 : Field} {fuel : Nat} {cs : List Value} {x : DataW H × List MemPlace} (ht : P.underlying t = some (.struct #[f0, f1, f2, f3, f4])) (h : DataW.trod enc P w base spare held fuel t cs = some x) :
    ∃ y0 y1 y2 y3 y4 n, cs.length = P.cellsOf t ∧ DataW.trod enc P w base spare held n f0.type ((cs.drop f0.offset).take (P.cellsOf f0.type)) = some y0 ∧
      DataW.trod enc P w base spare held n f1.type ((cs.drop f1.offset).take (P.cellsOf f1.type)) = some y1 ∧ DataW.trod enc P w base spare held n f2.type ((cs.drop f2.offset).take (P.cellsOf f2.type)) = some y2 ∧
      DataW.trod enc P w base spare held n f3.type ((cs.drop f3.offset).take (P.cellsOf f3.type)) = some y3 ∧ DataW.trod enc P w base spare held n f4.type ((cs.drop f4.offset).take (P.cellsOf f4.type)) = some y4 := by
  obtain ⟨xs, n, _, rfl, hl, hlen, hf⟩ := DataW.trod_struct ht h
  match xs, hlen with
  | [y0, y1, y2, y3, y4], _ => exact ⟨y0, y1, y2, y3, y4, n, hl, by simpa using hf 0 f0 rfl, by simpa using hf 1 f1 rfl, by simpa using hf 2 f2 rfl, by simpa using hf 3 f3 rfl, by simpa using hf 4 f4 rfl⟩
end

end Go.Proofs.YtijmkcnipflpbaaGreatDoor

/-
  The form's reading of lists of numbers and of lists of expressions.
-/
namespace Go.Proofs.YtijmkcnipflpbaaGreatDoor
open Go.RowKit Go.ChangeShapes Go.WideShapes Go.Deep

theorem opens_I1 : Opens Tryz.prog 69 R_I1 (fun xs => ∀ x ∈ xs, (Lit.int .i64 x).wf = true) := opens_ints Tryz.underlying69 Tryz.underlying2 (by kernel_rfl)
theorem opens_T2 : Opens Tryz.prog 130 R_T2 (fun xss => ∀ xs ∈ xss, ∀ t ∈ xs, (Lit.int .i64 t.1).wf = true ∧ (Lit.int .i64 t.2).wf = true) := opens_slP Tryz.underlying130 (by kernel_rfl) opens_T1

end Go.Proofs.YtijmkcnipflpbaaGreatDoor

/-
  The form's reading of bytes.
-/
namespace Go.Proofs.YtijmkcnipflpbaaGreatDoor
open Go.RowKit

end Go.Proofs.YtijmkcnipflpbaaGreatDoor

/-
  The form's reading of texts and lists of texts.
-/
namespace Go.Proofs.YtijmkcnipflpbaaGreatDoor
open Go.RowKit Go.ChangeShapes Go.WideShapes Go.Deep

theorem opens_S1 : Opens Tryz.prog 25 R_S1 (fun xs => ∀ p ∈ xs, p.length ≤ maxLen) :=
  opens_slF1 Tryz.underlying25 (by kernel_rfl) (by
    intro H enc w fuel v x hx
    obtain ⟨s, hv, -, hs⟩ := DataW.trod_string Tryz.underlying9 hx
    simp at hv
    exact ⟨s.data.toList, hv, hs⟩)
end Go.Proofs.YtijmkcnipflpbaaGreatDoor
