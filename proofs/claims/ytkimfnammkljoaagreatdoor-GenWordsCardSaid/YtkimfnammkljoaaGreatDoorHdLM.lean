/- Look-ups of the reference. -/
import Derived.Test.YtkimfnammkljoaaGreatDoorHbNM
set_option linter.unusedVariables false
set_option linter.unusedSimpArgs false
section
set_option maxRecDepth 4000
set_option linter.unusedSectionVars false
namespace Go.Ac
open Go.Proofs
variable [GwR]
attribute [local simp] Hp.get_set get_trunc_lt
theorem kf145 (r : Nat) : Ob.keep 145 r = Ob.k145 r := by kernel_rfl
attribute [local simp] kf145 Ob.k145
set_option maxHeartbeats 8000000 in
theorem letter79 (c : Tx) (l : List Bool) (hl : l.length ≤ 8388608) : ∀ (N lo hi : Nat), lo < hi → hi ≤ l.length → hi - lo ≤ N → den Tryz.prog Ob.cfg 145 [dL (encT l), dS c, dI lo, dI hi] = some (aG (ltX c N lo ((l.drop lo).take (hi - lo))).cells)
 | 0, lo, hi, h1, h2, h3 => by omega
 | N + 1, lo, hi, h1, h2, h3 => by
  obtain ⟨a, ha, ham, hia⟩ := at_lt (show lo < l.length by omega)
  have ha' := encT_at ha
  obtain ⟨s, hs⟩ : ∃ s, (l.drop lo).take (hi - lo) = s := ⟨_, rfl⟩
  have hsl : s.length = hi - lo := by rw [← hs, List.length_take, List.length_drop]; omega
  have hhd : hdB s = a := by
   rw [← hs, List.drop_eq_getElem_cons (by omega : lo < l.length), show hi - lo = (hi - lo - 1) + 1 by omega, List.take_succ_cons]
   have := (List.getElem?_eq_some_iff.1 ha).2
   rw [this]; rfl
  rw [hs]
  refine den_wp Tryz.func145 rfl (by kernel_rfl) rfl (by rw [X.cells_eq]; rfl) ?_
  have hcon := contains88 s (!a) (by unfold MX; omega)
  have hall : (s.any fun y => decide (y = !a)) = !(s.all fun b => decide (b = a)) := by
   rw [List.any_eq_not_all_not]; congr 1; congr 1; funext y; cases y <;> cases a <;> rfl
  have hsli : (encT s) = ((encT l).take hi).drop lo := by rw [← hs]; unfold encT; rw [List.map_take, List.map_drop, List.drop_take]
  have hsl2 := fun look e b z => slice_mid look e b z (encT_row l) (lo := lo) (hi := hi) (by omega) (by rw [encT_len]; omega)
  rw [hall] at hcon
  simp only [dL, dB] at hcon
  rw [← hsli] at hsl2
  rw [ltX, hhd]
  cases hp : s.all fun b => decide (b = a) with
  | true =>
   rw [hp] at hcon
   rw [if_pos rfl]
   cases a with
   | true =>
    simp only [Bool.not_true, Bool.not_false] at hcon
    refine wkc (jn @envOf.eq_1 (jn @envOf.eq_2 (jn @dI.eq_1 (jn @dL.eq_1 (jn @dS.eq_1 (jn @dB.eq_1 (jn @hia (jn @ha' (jn @fillV.eq_1 (jn @fillV.eq_2 (jn @hsl2 @hcon))))))))))) ?_
    show retQ _ _ _ _ _
    exact ⟨.inr rfl, _, _, rfl, rfl⟩
   | false =>
    simp only [Bool.not_true, Bool.not_false] at hcon
    refine wkc (jn @envOf.eq_1 (jn @envOf.eq_2 (jn @dI.eq_1 (jn @dL.eq_1 (jn @dS.eq_1 (jn @dB.eq_1 (jn @hia (jn @ha' (jn @fillV.eq_1 (jn @fillV.eq_2 (jn @hsl2 @hcon))))))))))) ?_
    show retQ _ _ _ _ _
    exact ⟨.inr rfl, _, _, rfl, rfl⟩
  | false =>
   rw [hp] at hcon
   rw [if_neg (by simp)]
   have hs2 : 2 ≤ s.length := by
    cases s with
    | nil => simp at hsl; omega
    | cons x r =>
     cases r with
     | nil => simp [hdB] at hhd; simp [hhd] at hp
     | cons y z => simp
   obtain ⟨k, hk⟩ : ∃ k, k = s.length / 2 := ⟨_, rfl⟩
   have hw1 : IntKind.i64.wrap ((hi : Int) - (lo : Int)) = (s.length : Int) := by rw [w_id] <;> omega
   have hq : IntKind.i64.wrap ((s.length : Int) / 2) = (k : Int) := by
    rw [hk, w_id] <;> omega
   have hw2 : IntKind.i64.wrap ((lo : Int) + (k : Int)) = (lo : Int) + (k : Int) := by rw [w_id] <;> omega
   have e1 : s.take k = (l.drop lo).take (lo + k - lo) := by rw [← hs, List.take_take, show min k (hi - lo) = lo + k - lo by omega]
   have e2 : s.drop k = (l.drop (lo + k)).take (hi - (lo + k)) := by rw [← hs, List.drop_take, List.drop_drop, show hi - lo - k = hi - (lo + k) by omega]
   have i1 := letter79 c l hl N lo (lo + k) (by omega) (by omega) (by omega)
   have i2 := letter79 c l hl N (lo + k) hi (by omega) (by omega) (by omega)
   rw [← e1] at i1
   rw [← e2] at i2
   rw [← hk]
   obtain ⟨u, hu⟩ : ∃ u, u = ltX c N lo (s.take k) := ⟨_, rfl⟩
   obtain ⟨v, hv⟩ : ∃ v, v = ltX c N (lo + k) (s.drop k) := ⟨_, rfl⟩
   obtain ⟨w, hwx⟩ : ∃ w, w = xOp 13 (xSt c) (xNum ((lo + k : Nat) : Int)) := ⟨_, rfl⟩
   have d1 := state55 c
   have d2 := num78 ((lo + k : Nat) : Int)
   have d3 := op77 13 (xSt c) (xNum ((lo + k : Nat) : Int))
   rw [← hu] at i1 ⊢
   rw [← hv] at i2 ⊢
   rw [← hwx] at d3 ⊢
   rw [xIf_eq]
   simp only [dI, dS, dL, aG, X.cells_eq, List.map_cons, List.map_nil, Int.natCast_add] at i1 i2 d1 d2 d3
   have d4 := if76 w u v
   rw [xIf_eq] at d4
   simp only [aG, X.cells_eq, List.map_cons, List.map_nil] at d4
   refine wkc (jn @envOf.eq_1 (jn @envOf.eq_2 (jn @dI.eq_1 (jn @dL.eq_1 (jn @dS.eq_1 (jn @dB.eq_1 (jn @hia (jn @ha' (jn @fillV.eq_1 (jn @fillV.eq_2 (jn @hsl2 (jn @hcon (jn @hw1 (jn @hq (jn @hw2 (jn @d1 (jn @d2 (jn @d3 (jn @d4 (jn @i1 @i2)))))))))))))))))))) ?_
   show retQ _ _ _ _ _
   exact ⟨.inr rfl, _, _, rfl, rfl⟩
end Go.Ac
end

section
set_option maxRecDepth 4000
set_option linter.unusedSectionVars false
namespace Go.Ac
open Go.Proofs
variable [GwR]
/-- What a word's memory is next. -/
def stepX (c : Tx) (h n : Nat) : X := xIf (xOp 11 (xSt c) (xNum ((n : Int) - 1))) (xNum h) (xOp 6 (xSt c) (xNum 1))
/-- The statements of a word (head and loop) with a memory that counts. -/
def wdY (hd lo : List Bool) (nm c : Tx) : List Y :=
 [.mk 1 nm 0 (ltX c (hd ++ lo).length 0 (hd ++ lo)) [] [] [], .mk 2 c 0 (stepX c hd.length (hd ++ lo).length) [] [] []]
theorem kf86 (r : Nat) : Ob.keep 86 r = Ob.k86 r := by kernel_rfl
attribute [local simp] kf86 Ob.k86
set_option maxHeartbeats 8000000 in
theorem word58 (hd lo : List Bool) (nm c : Tx) (hn : 0 < (hd ++ lo).length) (hl : (hd ++ lo).length ≤ 8388608) (hcat : den Tryz.prog Ob.cfg 141 [dL [[.slice (encT hd)], [.slice (encT lo)]]] = some (dL (encT (hd ++ lo)))) :
  den Tryz.prog Ob.cfg 86 [.agg [.d (.slice (encT hd)), .d (.slice (encT lo))], dS nm, dS c] = some (dL (encY (wdY hd lo nm c))) := by
 unfold wdY stepX
 obtain ⟨l, hll⟩ : ∃ l, hd ++ lo = l := ⟨_, rfl⟩
 rw [hll] at hn hl hcat ⊢
 have hlt := letter79 c l hl l.length 0 l.length hn (Nat.le_refl _) (by omega)
 rw [Nat.sub_zero, List.drop_zero, List.take_length] at hlt
 rw [show ((0 : Nat) : Int) = 0 from rfl] at hlt
 have hw : IntKind.i64.wrap ((l.length : Int) - 1) = (l.length : Int) - 1 := by rw [w_id] <;> omega
 have d1 := state55 c
 have d2 := num78 ((l.length : Int) - 1)
 have d3 := op77 11 (xSt c) (xNum ((l.length : Int) - 1))
 have d4 := num78 (hd.length : Int)
 have d5 := num78 1
 have d6 := op77 6 (xSt c) (xNum 1)
 have d7 := if76 (xOp 11 (xSt c) (xNum ((l.length : Int) - 1))) (xNum (hd.length : Int)) (xOp 6 (xSt c) (xNum 1))
 obtain ⟨u, hu⟩ : ∃ u, u = ltX c l.length 0 l := ⟨_, rfl⟩
 obtain ⟨w, hwx⟩ : ∃ w, w = xIf (xOp 11 (xSt c) (xNum ((l.length : Int) - 1))) (xNum (hd.length : Int)) (xOp 6 (xSt c) (xNum 1)) := ⟨_, rfl⟩
 rw [← hu] at hlt ⊢
 rw [← hwx] at d7 ⊢
 have e5 : encY [Y.mk 1 nm 0 u [] [] [], Y.mk 2 c 0 w [] [] []] = [[.int .i64 1, .str nm, .int .i64 0, .int .i64 u.k, .int .i64 u.o, .int .i64 u.t, .int .i64 u.v, .str u.nm, .slice (encX u.args), .slice [], .slice [], .slice []], [.int .i64 2, .str c, .int .i64 0, .int .i64 w.k, .int .i64 w.o, .int .i64 w.t, .int .i64 w.v, .str w.nm, .slice (encX w.args), .slice [], .slice [], .slice []]] := by simp [encY_map, Y.cells, X.cells_eq, encX_map, encS, encB_map]
 rw [e5]
 refine den_wp Tryz.func86 rfl (by kernel_rfl) rfl rfl ?_
 simp only [dI, dL, dS, aG, X.cells_eq, List.map_cons, List.map_nil] at hlt d1 d2 d3 d4 d5 d6 d7 hcat
 refine wkc (jn @envOf.eq_1 (jn @envOf.eq_2 (jn @dS.eq_1 (jn @dL.eq_1 (jn @dI.eq_1 (jn @fillV.eq_1 (jn @fillV.eq_2 (jn @closeParts.eq_1 (jn @closeParts.eq_2 (jn @cl2.eq_def (jn @toD_dep (jn @toD_d (jn @toD_full (jn @toDs.eq_1 (jn @toDs.eq_2 (jn @chunk.eq_1 (jn @chunk.eq_2 (jn @hcat (jn @hw (jn @d1 (jn @d2 (jn @d3 (jn @d4 (jn @d5 (jn @d6 (jn @d7 @hlt)))))))))))))))))))))))))) ?_
 show retQ _ _ _ _ _
 exact ⟨.inr rfl, _, _, rfl, rfl⟩
end Go.Ac
end

section
set_option maxRecDepth 4000
set_option linter.unusedSectionVars false
namespace Go.Ac
open Go.Proofs
variable [GwR]
attribute [local simp] Hp.get_set get_trunc_lt
/-- A byte that is a letter; which one. -/
def isB (b : UInt8) : Bool := decide (b.toNat = 48) || decide (b.toNat = 49)
def bitB (b : UInt8) : Bool := decide (b.toNat = 49)
def runB (s : Tx) : List Bool := (s.takeWhile isB).map bitB
theorem encT_snoc (l : List Bool) (b : Bool) : encT l ++ [[.bool b]] = encT (l ++ [b]) := by unfold encT; simp
theorem fits1 {j : Nat} (h : j ≤ 8388608) : fitsB (j + 1) 1 = true := by simp [fitsB]; omega
theorem close_d (look : Look) (b : D) : close look (.d b) = some (.d b, []) := by
 show ofD (toD look depthD (.d b)) = _
 rw [toD_d]; rfl
theorem close_tup2 {look : Look} {id g o n sz : Nat} {cap : Option Nat} {b : D} {v : V} {ids : List Nat} (h : closeT look (.osl id g o n sz cap) = some (v, ids)) : closeT look (.tuple [.osl id g o n sz cap, .d b]) = some (.tuple [v, .d b], ids) := by
 have h' : close look (.osl id g o n sz cap) = some (v, ids) := h
 simp only [closeT, closeVs, h', close_d, List.append_nil]
theorem kf76 (r : Nat) : Ob.keep 76 r = Ob.k76 r := by kernel_rfl
theorem kf77 (r : Nat) : Ob.keep 77 r = Ob.k77 r := by kernel_rfl
attribute [local simp] kf76 Ob.k76 kf77 Ob.k77
set_option maxHeartbeats 4000000 in
theorem letters48 (s : Tx) (hs : s.length ≤ 8388608) : den Tryz.prog Ob.cfg 76 [dS s] = some (.tuple [dL (encT (if s.all isB = true then s.map bitB else [])), dB (s.all isB)]) := by
 refine den_wp Tryz.func76 rfl (by kernel_rfl) rfl rfl ?_
 refine wkc (jn @envOf.eq_1 (jn @envOf.eq_2 (jn @dS.eq_1 (jn @dI.eq_1 (jn @fillV.eq_1 @fillV.eq_2))))) ?_
 apply WP.loop' (I := fun D st => ∃ (j g c' : Nat) (hp' : Hp) (cs : List V), j + D = s.length ∧ hp'.get 0 = some ⟨g, false, cs⟩ ∧ RowD cs (encT ((s.take j).map bitB)) 1 ∧ (s.take j).all isB = true ∧
  st = ⟨[(0, dS s), (4, .osl 0 g 0 j 1 none), (7, dI s.length), (8, dI j)], hp', 1, c', 0, []⟩) (d := s.length)
 ·exact ⟨0, 0, _, _, [], by simp, by simp, RowD.nil 1, by simp, st_eq (by simp [dI, dL, dS]) rfl⟩
 rintro D _ ⟨j, g, c', hp', cs, hj, hx, hr, hall, rfl⟩
 have hLl : (encT ((s.take j).map bitB)).length = j := by rw [encT_len, List.length_map, List.length_take]; omega
 by_cases hb : j < s.length
 ·obtain ⟨b, hb1, hbm, hix⟩ := at_lt hb
  have hlt := eq_true (show (j : Int) < (s.length : Int) by omega)
  have hw := w_succ hb (by omega)
  have f1 := fits1 (show j ≤ 8388608 by omega)
  have r2 := hr.len
  have r3 := hr.take
  rw [hLl, Nat.mul_one] at r2 r3
  have hsn := take_snoc hb1
  by_cases h48 : b.toNat = 48
  ·have k1 : ((b.toNat : Int) = 48) = True := eq_true (by omega)
   have k2 : ((b.toNat : Int) = 49) = False := eq_false (by omega)
   refine wkc (jn @dI.eq_1 (jn @dL.eq_1 (jn @dS.eq_1 (jn @dB.eq_1 (jn @hix (jn @hb1 (jn @hlt (jn @int_beq (jn @int_bne (jn @k1 (jn @k2 (jn @f1 (jn @r2 (jn @r3 (jn @hx (jn @fillV.eq_1 (jn @fillV.eq_2 (jn @toD_dep (jn @toD_d @nble_d))))))))))))))))))) ?_
   refine loop_next (by simp [hw]; exact Is.rfl) ?_
   have hr2 := hr.snoc (vs := [V.d (.bool false)]) (r := [.bool false]) (VD.d VD.nil) rfl
   rw [encT_snoc, show (s.take j).map bitB ++ [false] = (s.take (j + 1)).map bitB by rw [hsn]; simp [bitB, h48]] at hr2
   exact ⟨D - 1, by omega, j + 1, _, _, _, _, by omega, by simp; rfl, hr2, by rw [hsn]; simp [hall, isB, h48], st_eq (by simp [dI, dL, dS, hw]) rfl⟩
  by_cases h49 : b.toNat = 49
  ·have k1 : ((b.toNat : Int) = 48) = False := eq_false (by omega)
   have k2 : ((b.toNat : Int) = 49) = True := eq_true (by omega)
   refine wkc (jn @dI.eq_1 (jn @dL.eq_1 (jn @dS.eq_1 (jn @dB.eq_1 (jn @hix (jn @hb1 (jn @hlt (jn @int_beq (jn @int_bne (jn @k1 (jn @k2 (jn @f1 (jn @r2 (jn @r3 (jn @hx (jn @fillV.eq_1 (jn @fillV.eq_2 (jn @toD_dep (jn @toD_d @nble_d))))))))))))))))))) ?_
   refine loop_next (by simp [hw]; exact Is.rfl) ?_
   have hr2 := hr.snoc (vs := [V.d (.bool true)]) (r := [.bool true]) (VD.d VD.nil) rfl
   rw [encT_snoc, show (s.take j).map bitB ++ [true] = (s.take (j + 1)).map bitB by rw [hsn]; simp [bitB, h49]] at hr2
   exact ⟨D - 1, by omega, j + 1, _, _, _, _, by omega, by simp; rfl, hr2, by rw [hsn]; simp [hall, isB, h49], st_eq (by simp [dI, dL, dS, hw]) rfl⟩
  ·have k1 : ((b.toNat : Int) = 48) = False := eq_false (by omega)
   have k2 : ((b.toNat : Int) = 49) = False := eq_false (by omega)
   have he : s.all isB = false := by
    rw [List.all_eq_false]; exact ⟨b, hbm, by simp [isB, h48, h49]⟩
   rw [he]
   refine wkc (jn @dI.eq_1 (jn @dL.eq_1 (jn @dS.eq_1 (jn @dB.eq_1 (jn @hix (jn @hb1 (jn @hlt (jn @int_beq (jn @int_bne (jn @k1 @k2)))))))))) ?_
   show retQ _ _ _ _ _
   exact ⟨.inr rfl, _, _, rfl, rfl⟩
 ·have hlt := eq_false (show ¬ ((j : Int) < (s.length : Int)) by omega)
  have hje : j = s.length := by omega
  rw [hje, List.take_length] at hall hr hLl
  have hcl := hr.close (cap := none) hx
  rw [hLl, ← hje] at hcl
  rw [hall, if_pos rfl]
  refine wkc (jn @dI.eq_1 (jn @dL.eq_1 (jn @dS.eq_1 (jn @dB.eq_1 @hlt)))) ?_
  exact ⟨.inr rfl, [_, _], [0], rfl, close_tup2 hcl⟩
def aW (hd lo : List Bool) : V := .agg [.d (.slice (encT hd)), .d (.slice (encT lo))]
/-- Whether a word is right. -/
def ckW (hd lo : List Bool) : Int := if lo = [] then 5 else if 64 < hd.length + lo.length then 3 else 0
set_option maxHeartbeats 4000000 in
theorem check49 (hd lo : List Bool) (hl : hd.length + lo.length ≤ 8388608) : den Tryz.prog Ob.cfg 77 [aW hd lo] = some (dI (ckW hd lo)) := by
 refine den_wp Tryz.func77 rfl (by kernel_rfl) rfl rfl ?_
 have hw : IntKind.i64.wrap ((hd.length : Int) + (lo.length : Int)) = (hd.length : Int) + (lo.length : Int) := by rw [w_id] <;> omega
 unfold ckW
 by_cases h0 : lo = []
 ·have h0' := eq_true h0
  rw [if_pos h0]
  refine wkc (jn @envOf.eq_1 (jn @envOf.eq_2 (jn @aW.eq_1 (jn @dI.eq_1 (jn @dL.eq_1 (jn @fillV.eq_1 (jn @fillV.eq_2 (jn @encT_len (jn @int_beq @h0'))))))))) ?_
  show retQ _ _ _ _ _
  exact ⟨.inr rfl, _, _, rfl, rfl⟩
 have h0' := eq_false h0
 rw [if_neg h0]
 by_cases h1 : 64 < hd.length + lo.length
 ·have h1' := eq_true (show (hd.length : Int) + (lo.length : Int) > 64 by omega)
  rw [if_pos h1]
  refine wkc (jn @envOf.eq_1 (jn @envOf.eq_2 (jn @aW.eq_1 (jn @dI.eq_1 (jn @dL.eq_1 (jn @fillV.eq_1 (jn @fillV.eq_2 (jn @encT_len (jn @int_beq (jn @h0' (jn @hw @h1'))))))))))) ?_
  show retQ _ _ _ _ _
  exact ⟨.inr rfl, _, _, rfl, rfl⟩
 ·have h1' := eq_false (show ¬ ((hd.length : Int) + (lo.length : Int) > 64) by omega)
  rw [if_neg h1]
  refine wkc (jn @envOf.eq_1 (jn @envOf.eq_2 (jn @aW.eq_1 (jn @dI.eq_1 (jn @dL.eq_1 (jn @fillV.eq_1 (jn @fillV.eq_2 (jn @encT_len (jn @int_beq (jn @h0' (jn @hw @h1'))))))))))) ?_
  show retQ _ _ _ _ _
  exact ⟨.inr rfl, _, _, rfl, rfl⟩
/-- The word of a text, and the error. -/
def prsT (s : Tx) : (List Bool × List Bool) × Int :=
 if 66 < s.length then (([], []), 3) else
 match s.dropWhile isB with
 | [] => (([], []), 5)
 | b :: r => if b.toNat ≠ 40 then (([], []), 5) else
  match r.dropWhile isB with
  | [] => (([], []), 5)
  | c :: z => if z ≠ [] ∨ c.toNat ≠ 41 ∨ runB r = [] then (([], []), 5) else ((runB s, runB r), 0)
end Go.Ac
end

section
set_option maxRecDepth 4000
set_option linter.unusedSectionVars false
namespace Go.Ac
open Go.Proofs
variable [GwR]
attribute [local simp] Hp.get_set get_trunc_lt
/-- A text cut at its first opening bracket. -/
def cutS : Tx → Tx × Tx × Bool
 | [] => ([], [], false)
 | x :: r => if x = 40 then ([], r, true) else (x :: (cutS r).1, (cutS r).2.1, (cutS r).2.2)
theorem cutS_idx : ∀ s : Tx, idxByte s 40 = (if (cutS s).2.2 = true then ((cutS s).1.length : Int) else -1) ∧ ((cutS s).2.2 = true → s = (cutS s).1 ++ 40 :: (cutS s).2.1) ∧ ((cutS s).2.2 = false → (cutS s).1 = s ∧ (cutS s).2.1 = []) := by
 have e40 : ∀ x : UInt8, (x == (Int.toNat (40 : Int)).toUInt8) = decide (x = 40) := fun x => by
  show (x == (40 : UInt8)) = _
  by_cases h : x = 40 <;> simp [h]
 intro s
 induction s with
 | nil => exact ⟨rfl, by simp [cutS], by simp [cutS]⟩
 | cons x r ih =>
  obtain ⟨h1, h2, h3⟩ := ih
  by_cases h : x = 40
  ·have e : cutS (x :: r) = ([], r, true) := by rw [cutS, if_pos h]
   rw [e]
   refine ⟨?_, fun _ => by rw [h]; rfl, by simp⟩
   unfold idxByte
   rw [List.findIdx?_cons, e40, decide_eq_true h]; rfl
  ·have e : cutS (x :: r) = (x :: (cutS r).1, (cutS r).2.1, (cutS r).2.2) := by rw [cutS, if_neg h]
   rw [e]
   refine ⟨?_, fun hq => by rw [List.cons_append, ← h2 hq], fun hq => ⟨by simp only; rw [(h3 hq).1], (h3 hq).2⟩⟩
   unfold idxByte at h1 ⊢
   rw [List.findIdx?_cons, e40, decide_eq_false h]
   simp only [Bool.false_eq_true, if_false]
   cases hf : r.findIdx? (fun x => x == (Int.toNat (40 : Int)).toUInt8) with
   | none =>
    rw [hf] at h1
    simp only at h1
    by_cases hq : (cutS r).2.2 = true
    ·rw [if_pos hq] at h1; omega
    ·rw [if_neg hq]; rfl
   | some i =>
    rw [hf] at h1
    simp only at h1
    by_cases hq : (cutS r).2.2 = true
    ·rw [if_pos hq] at h1 ⊢; simp; omega
    ·rw [if_neg hq] at h1; omega
theorem kf211 (r : Nat) : Ob.keep 211 r = Ob.k211 r := by kernel_rfl
theorem kf136 (r : Nat) : Ob.keep 136 r = Ob.k136 r := by kernel_rfl
theorem kf74 (r : Nat) : Ob.keep 74 r = Ob.k74 r := by kernel_rfl
theorem kf212 (r : Nat) : Ob.keep 212 r = Ob.k212 r := by kernel_rfl
theorem kf137 (r : Nat) : Ob.keep 137 r = Ob.k137 r := by kernel_rfl
theorem kf75 (r : Nat) : Ob.keep 75 r = Ob.k75 r := by kernel_rfl
theorem kf37 (r : Nat) : Ob.keep 37 r = Ob.k37 r := by kernel_rfl
attribute [local simp] kf211 Ob.k211 kf136 Ob.k136 kf74 Ob.k74 kf212 Ob.k212 kf137 Ob.k137 kf75 Ob.k75 kf37 Ob.k37
set_option maxHeartbeats 4000000 in
theorem index84 (s : Tx) (hs : s.length ≤ 8388608) : den Tryz.prog Ob.cfg 211 [dS s, dS [40]] = some (dI (idxByte s 40)) := by
 refine den_wp Tryz.func211 rfl (by kernel_rfl) rfl rfl ?_
 have h40 : (UInt8.toNat 40 : Int) = 40 := rfl
 by_cases h : s = [40]
 ·subst h
  refine wkc (jn @envOf.eq_1 (jn @envOf.eq_2 (jn @dS.eq_1 (jn @dI.eq_1 @tx_beq)))) ?_
  show retQ _ _ _ _ _
  exact ⟨.inr rfl, _, _, rfl, rfl⟩
 ·have h' := eq_false (show ¬ (([40] : Tx) = s) from fun h2 => h h2.symm)
  refine wkc (jn @envOf.eq_1 (jn @envOf.eq_2 (jn @dS.eq_1 (jn @dI.eq_1 (jn @tx_beq (jn @h' @h40)))))) ?_
  show retQ _ _ _ _ _
  exact ⟨.inr rfl, _, _, rfl, rfl⟩
theorem bnd0 (s : Tx) : s.take s.length = s := List.take_length
set_option maxHeartbeats 4000000 in
theorem cut69 (s : Tx) (hs : s.length ≤ 8388608) : den Tryz.prog Ob.cfg 136 [dS s, dS [40]] = some (.tuple [dS (cutS s).1, dS (cutS s).2.1, dB (cutS s).2.2]) := by
 refine den_wp Tryz.func136 rfl (by kernel_rfl) rfl rfl ?_
 obtain ⟨h1, h2, h3⟩ := cutS_idx s
 have hd := index84 s hs
 rw [h1] at hd
 obtain ⟨w, hc⟩ : ∃ w, cutS s = w := ⟨_, rfl⟩
 rw [hc] at hd h2 h3 ⊢
 obtain ⟨a, b, f⟩ := w
 cases f with
 | true =>
  have h2 := h2 rfl
  simp only [if_true] at hd h2 ⊢
  simp only [dS, dI] at hd
  have k1 := eq_true (show (a.length : Int) ≥ 0 by omega)
  have hl : s.length = a.length + 1 + b.length := by rw [h2]; simp; omega
  have w1 : IntKind.i64.wrap ((a.length : Int) + 1) = ((a.length + 1 : Nat) : Int) := by rw [w_id] <;> omega
  have k2 : ∀ n : Nat, (0 ≤ (n : Int)) = True := fun n => by simp
  have k3 := eq_true (show a.length ≤ s.length by omega)
  have k5 := eq_true (show 0 ≤ (a.length : Int) + 1 by omega)
  have k4 := eq_true (show a.length + 1 ≤ s.length by omega)
  have t1 : s.take a.length = a := by rw [h2, List.take_left']; rfl
  have t2 : s.drop (a.length + 1) = b := by rw [h2, ← List.drop_drop, List.drop_left']; rfl; rfl
  refine wkc (jn @envOf.eq_1 (jn @envOf.eq_2 (jn @dS.eq_1 (jn @dI.eq_1 (jn @dB.eq_1 (jn @hd (jn @k1 (jn @w1 (jn @sliceV.eq_def (jn @bnd.eq_def (jn @Int.toNat_natCast (jn @k2 (jn @k3 (jn @k4 (jn @k5 (jn @t1 (jn @t2 @bnd0))))))))))))))))) ?_
  show retQ _ _ _ _ _
  exact ⟨.inr rfl, _, _, rfl, rfl⟩
 | false =>
  obtain ⟨h4, h5⟩ := h3 rfl
  simp only [Bool.false_eq_true, if_false] at hd h4 h5 ⊢
  simp only [dS, dI] at hd
  rw [h4, h5]
  refine wkc (jn @envOf.eq_1 (jn @envOf.eq_2 (jn @dS.eq_1 (jn @dI.eq_1 (jn @dB.eq_1 @hd))))) ?_
  show retQ _ _ _ _ _
  exact ⟨.inr rfl, _, _, rfl, rfl⟩
theorem cut46 (s : Tx) (hs : s.length ≤ 8388608) : den Tryz.prog Ob.cfg 74 [dS s, dS [40]] = some (.tuple [dS (cutS s).1, dS (cutS s).2.1, dB (cutS s).2.2]) := by
 refine den_wp Tryz.func74 rfl (by kernel_rfl) rfl rfl ?_
 have hd := cut69 s hs
 simp only [dS, dI, dB] at hd
 refine wkc (jn @envOf.eq_1 (jn @envOf.eq_2 (jn @dS.eq_1 (jn @dI.eq_1 (jn @dB.eq_1 @hd))))) ?_
 show retQ _ _ _ _ _
 exact ⟨.inr rfl, _, _, rfl, rfl⟩
/-- A text cut at its last closing bracket. -/
def sufS (s : Tx) : Tx × Bool := if 0 < s.length ∧ s.drop (s.length - 1) = [41] then (s.take (s.length - 1), true) else (s, false)
set_option maxHeartbeats 4000000 in
theorem suffix85 (s : Tx) (hs : s.length ≤ 8388608) : den Tryz.prog Ob.cfg 212 [dS s, dS [41]] = some (dB (sufS s).2) := by
 refine den_wp Tryz.func212 rfl (by kernel_rfl) rfl rfl ?_
 unfold sufS
 by_cases h0 : 0 < s.length
 ·have k0 := eq_true (show (s.length : Int) ≥ 1 by omega)
  have w1 : IntKind.i64.wrap ((s.length : Int) - 1) = ((s.length - 1 : Nat) : Int) := by rw [w_id] <;> omega
  have k2 : ∀ n : Nat, (0 ≤ (n : Int)) = True := fun n => by simp
  have k3 := eq_true (show s.length - 1 ≤ s.length by omega)
  by_cases h : s.drop (s.length - 1) = [41]
  ·have h' := eq_true h
   rw [if_pos ⟨h0, h⟩]
   refine wkc (jn @envOf.eq_1 (jn @envOf.eq_2 (jn @dS.eq_1 (jn @dI.eq_1 (jn @dB.eq_1 (jn @k0 (jn @w1 (jn @sliceV.eq_def (jn @bnd.eq_def (jn @Int.toNat_natCast (jn @k2 (jn @k3 (jn @bnd0 (jn @tx_beq @h')))))))))))))) ?_
   show retQ _ _ _ _ _
   exact ⟨.inr rfl, _, _, rfl, rfl⟩
  ·have h' := eq_false h
   rw [if_neg fun h2 => h h2.2]
   refine wkc (jn @envOf.eq_1 (jn @envOf.eq_2 (jn @dS.eq_1 (jn @dI.eq_1 (jn @dB.eq_1 (jn @k0 (jn @w1 (jn @sliceV.eq_def (jn @bnd.eq_def (jn @Int.toNat_natCast (jn @k2 (jn @k3 (jn @bnd0 (jn @tx_beq @h')))))))))))))) ?_
   show retQ _ _ _ _ _
   exact ⟨.inr rfl, _, _, rfl, rfl⟩
 ·have k0 := eq_false (show ¬ ((s.length : Int) ≥ 1) by omega)
  rw [if_neg fun h2 => h0 h2.1]
  refine wkc (jn @envOf.eq_1 (jn @envOf.eq_2 (jn @dS.eq_1 (jn @dI.eq_1 (jn @dB.eq_1 @k0))))) ?_
  show retQ _ _ _ _ _
  exact ⟨.inr rfl, _, _, rfl, rfl⟩
set_option maxHeartbeats 4000000 in
theorem suffix70 (s : Tx) (hs : s.length ≤ 8388608) : den Tryz.prog Ob.cfg 137 [dS s, dS [41]] = some (.tuple [dS (sufS s).1, dB (sufS s).2]) := by
 refine den_wp Tryz.func137 rfl (by kernel_rfl) rfl rfl ?_
 have hd := suffix85 s hs
 unfold sufS at hd ⊢
 by_cases h : 0 < s.length ∧ s.drop (s.length - 1) = [41]
 ·rw [if_pos h] at hd ⊢
  simp only [dS, dB] at hd
  have w1 : IntKind.i64.wrap ((s.length : Int) - 1) = ((s.length - 1 : Nat) : Int) := by rw [w_id] <;> omega
  have k2 : ∀ n : Nat, (0 ≤ (n : Int)) = True := fun n => by simp
  have k3 := eq_true (show s.length - 1 ≤ s.length by omega)
  refine wkc (jn @envOf.eq_1 (jn @envOf.eq_2 (jn @dS.eq_1 (jn @dI.eq_1 (jn @dB.eq_1 (jn @hd (jn @w1 (jn @sliceV.eq_def (jn @bnd.eq_def (jn @Int.toNat_natCast (jn @k2 @k3))))))))))) ?_
  show retQ _ _ _ _ _
  exact ⟨.inr rfl, _, _, rfl, rfl⟩
 ·rw [if_neg h] at hd ⊢
  simp only [dS, dB] at hd
  refine wkc (jn @envOf.eq_1 (jn @envOf.eq_2 (jn @dS.eq_1 (jn @dI.eq_1 (jn @dB.eq_1 @hd))))) ?_
  show retQ _ _ _ _ _
  exact ⟨.inr rfl, _, _, rfl, rfl⟩
theorem suffix47 (s : Tx) (hs : s.length ≤ 8388608) : den Tryz.prog Ob.cfg 75 [dS s, dS [41]] = some (.tuple [dS (sufS s).1, dB (sufS s).2]) := by
 refine den_wp Tryz.func75 rfl (by kernel_rfl) rfl rfl ?_
 have hd := suffix70 s hs
 simp only [dS, dI, dB] at hd
 refine wkc (jn @envOf.eq_1 (jn @envOf.eq_2 (jn @dS.eq_1 (jn @dI.eq_1 (jn @dB.eq_1 @hd))))) ?_
 show retQ _ _ _ _ _
 exact ⟨.inr rfl, _, _, rfl, rfl⟩
theorem cutS_len (s : Tx) : (cutS s).1.length ≤ s.length ∧ (cutS s).2.1.length ≤ s.length := by
 obtain ⟨_, h2, h3⟩ := cutS_idx s
 cases hf : (cutS s).2.2 with
 | true => have := congrArg List.length (h2 hf); rw [List.length_append, List.length_cons] at this; omega
 | false => obtain ⟨h4, h5⟩ := h3 hf; rw [h4, h5]; simp
theorem sufS_len (s : Tx) : (sufS s).1.length ≤ s.length := by
 unfold sufS; split
 ·simp
 ·simp
theorem cut_dw : ∀ s : Tx, if (cutS s).2.2 = true ∧ (cutS s).1.all isB = true then s.takeWhile isB = (cutS s).1 ∧ s.dropWhile isB = 40 :: (cutS s).2.1 else ∀ b r, s.dropWhile isB = b :: r → b.toNat ≠ 40
 | [] => by rw [if_neg (by simp [cutS])]; intro b r h; cases h
 | x :: r => by
  have ih := cut_dw r
  by_cases h : x = 40
  ·have e : cutS (x :: r) = ([], r, true) := by rw [cutS, if_pos h]
   have hx : isB x = false := by rw [h]; rfl
   rw [e, if_pos ⟨rfl, rfl⟩, List.takeWhile_cons_of_neg (by simp [hx]), List.dropWhile_cons_of_neg (by simp [hx]), h]
   exact ⟨rfl, rfl⟩
  ·have e : cutS (x :: r) = (x :: (cutS r).1, (cutS r).2.1, (cutS r).2.2) := by rw [cutS, if_neg h]
   rw [e]
   cases hx : isB x with
   | true =>
    rw [List.takeWhile_cons_of_pos hx, List.dropWhile_cons_of_pos hx]
    simp only [List.all_cons, hx, Bool.true_and]
    by_cases h2 : (cutS r).2.2 = true ∧ (cutS r).1.all isB = true
    ·rw [if_pos h2] at ih ⊢; exact ⟨by rw [ih.1], ih.2⟩
    ·rw [if_neg h2] at ih ⊢; exact ih
   | false =>
    rw [if_neg (by simp [hx]), List.dropWhile_cons_of_neg (by simp [hx])]
    intro b z hz
    injection hz with h3 h4
    subst h3
    intro h5
    exact h (UInt8.toNat_inj.1 h5)
theorem dw_app {α : Type} {p : α → Bool} (b : α) (hb : p b = false) : ∀ l : List α, (l.all p = true → (l ++ [b]).dropWhile p = [b] ∧ (l ++ [b]).takeWhile p = l) ∧ (l.all p = false → ∃ c y z, (l ++ [b]).dropWhile p = c :: y :: z)
 | [] => ⟨fun _ => by rw [List.nil_append, List.dropWhile_cons_of_neg (by simp [hb]), List.takeWhile_cons_of_neg (by simp [hb])]; exact ⟨rfl, rfl⟩, by simp⟩
 | x :: r => by
  have ih := dw_app b hb r
  rw [List.cons_append, List.all_cons]
  cases hx : p x with
  | true =>
   rw [List.dropWhile_cons_of_pos hx, List.takeWhile_cons_of_pos hx, Bool.true_and]
   exact ⟨fun h => ⟨(ih.1 h).1, by rw [(ih.1 h).2]⟩, ih.2⟩
  | false =>
   rw [Bool.false_and, List.dropWhile_cons_of_neg (by simp [hx])]
   refine ⟨fun h => absurd h (by simp), fun _ => ?_⟩
   cases r with
   | nil => exact ⟨x, b, [], rfl⟩
   | cons y z => exact ⟨x, y, z ++ [b], rfl⟩
theorem dw_last {α : Type} {p : α → Bool} : ∀ (l : List α) (c : α), l.dropWhile p = [c] → l.drop (l.length - 1) = [c] ∧ 0 < l.length
 | [], c, h => by cases h
 | x :: r, c, h => by
  refine ⟨?_, by simp⟩
  cases hx : p x with
  | true =>
   rw [List.dropWhile_cons_of_pos hx] at h
   obtain ⟨h1, h2⟩ := dw_last r c h
   rw [List.length_cons, Nat.add_sub_cancel, show r.length = r.length - 1 + 1 by omega, List.drop_succ_cons]; exact h1
  | false =>
   rw [List.dropWhile_cons_of_neg (by simp [hx])] at h
   rw [h]; rfl
/-- What the program makes of a text. -/
def prsP (s : Tx) : (List Bool × List Bool) × Int :=
 if 66 < s.length then (([], []), 3) else
 if (cutS s).2.2 = true ∧ (sufS (cutS s).2.1).2 = true ∧ (cutS s).1.all isB = true ∧ (sufS (cutS s).2.1).1.all isB = true ∧ ckW ((cutS s).1.map bitB) ((sufS (cutS s).2.1).1.map bitB) = 0 then (((cutS s).1.map bitB, (sufS (cutS s).2.1).1.map bitB), 0) else (([], []), 5)
theorem prsP_eq (s : Tx) : prsP s = prsT s := by
 unfold prsP prsT
 by_cases h66 : 66 < s.length
 ·rw [if_pos h66, if_pos h66]
 rw [if_neg h66, if_neg h66]
 have h1 := cut_dw s
 obtain ⟨hl1, hl2⟩ := cutS_len s
 obtain ⟨_, hs2, _⟩ := cutS_idx s
 by_cases h2 : (cutS s).2.2 = true ∧ (cutS s).1.all isB = true
 ·rw [if_pos h2] at h1
  rw [h1.2]
  have hs3 := congrArg List.length (hs2 h2.1)
  rw [List.length_append, List.length_cons] at hs3
  have eR : runB s = (cutS s).1.map bitB := by unfold runB; rw [h1.1]
  obtain ⟨r, hr⟩ : ∃ r, (cutS s).2.1 = r := ⟨_, rfl⟩
  rw [hr] at hs3 ⊢
  simp only [show ¬ ((40 : UInt8).toNat ≠ 40) from fun h => h rfl, if_false]
  by_cases h3 : (sufS r).2 = true
  ·have h4 : 0 < r.length ∧ r.drop (r.length - 1) = [41] := by
    unfold sufS at h3; split at h3
    ·assumption
    ·cases h3
   have e1 : (sufS r).1 = r.take (r.length - 1) := by unfold sufS; rw [if_pos h4]
   have e2 : r = (sufS r).1 ++ [41] := by rw [e1, ← h4.2, List.take_append_drop]
   obtain ⟨b, hb⟩ : ∃ b, (sufS r).1 = b := ⟨_, rfl⟩
   rw [hb] at e2 ⊢
   have e3 := dw_app (p := isB) 41 (by rfl) b
   cases hB : b.all isB with
   | true =>
    obtain ⟨e4, e5⟩ := e3.1 hB
    rw [← e2] at e4 e5
    rw [e4]
    have eL : runB r = b.map bitB := by unfold runB; rw [e5]
    by_cases hb0 : b = []
    ·rw [if_neg (by rintro ⟨_, _, _, _, h⟩; rw [hb0] at h; simp [ckW] at h)]
     simp only [eL, hb0]; rw [if_pos (by simp)]
    ·have hck : ckW ((cutS s).1.map bitB) (b.map bitB) = 0 := by
      unfold ckW
      rw [if_neg (by simpa using hb0), if_neg]
      rw [List.length_map, List.length_map]
      have := congrArg List.length e2
      rw [List.length_append] at this; simp at this; omega
     rw [if_pos ⟨h2.1, h3, h2.2, rfl, hck⟩]
     simp only [eL, eR]; rw [if_neg (by simpa using hb0)]
   | false =>
    obtain ⟨c, y, z, e4⟩ := e3.2 hB
    rw [← e2] at e4
    rw [e4, if_neg (by rintro ⟨_, _, _, h, _⟩; cases h)]
    simp
  ·rw [if_neg (by rintro ⟨_, h, _⟩; exact h3 h)]
   cases hd : r.dropWhile isB with
   | nil => rfl
   | cons c z =>
    simp only
    rw [if_pos]
    by_cases hz : z = []
    ·right; left
     intro hc
     rw [hz] at hd
     have hc' : c = 41 := UInt8.toNat_inj.1 hc
     obtain ⟨k1, k2⟩ := dw_last r c hd
     rw [hc'] at k1
     apply h3
     unfold sufS; rw [if_pos ⟨k2, k1⟩]
    ·exact Or.inl hz
 ·rw [if_neg h2] at h1
  rw [if_neg (by rintro ⟨k1, _, k2, _⟩; exact h2 ⟨k1, k2⟩)]
  cases hd : s.dropWhile isB with
  | nil => rfl
  | cons b r =>
   simp only
   rw [if_pos (h1 b r hd)]
set_option maxHeartbeats 8000000 in
theorem parse30 (s : Tx) (hs : s.length ≤ 8388608) : den Tryz.prog Ob.cfg 37 [dS s] = some (.tuple [aW (prsT s).1.1 (prsT s).1.2, dI (prsT s).2]) := by
 rw [← prsP_eq]
 refine den_wp Tryz.func37 rfl (by kernel_rfl) rfl rfl ?_
 unfold prsP
 by_cases h66 : 66 < s.length
 ·have h66' := eq_true (show (s.length : Int) > 66 by omega)
  rw [if_pos h66]
  refine wkc (jn @envOf.eq_1 (jn @envOf.eq_2 (jn @dS.eq_1 (jn @dI.eq_1 (jn @dL.eq_1 (jn @fillV.eq_1 (jn @fillV.eq_2 @h66'))))))) ?_
  show retQ _ _ _ _ _
  exact ⟨.inr rfl, _, _, rfl, rfl⟩
 have h66' := eq_false (show ¬ ((s.length : Int) > 66) by omega)
 rw [if_neg h66]
 obtain ⟨hl1, hl2⟩ := cutS_len s
 have hl3 := sufS_len (cutS s).2.1
 have d1 := cut46 s hs
 have d2 := suffix47 (cutS s).2.1 (by omega)
 have d3 := letters48 (cutS s).1 (by omega)
 have d4 := letters48 (sufS (cutS s).2.1).1 (by omega)
 obtain ⟨w, hc⟩ : ∃ w, cutS s = w := ⟨_, rfl⟩
 rw [hc] at d1 d2 d3 d4 hl1 hl2 hl3 ⊢
 obtain ⟨a, r, is⟩ := w
 simp only at d1 d2 d3 d4 hl1 hl2 hl3 ⊢
 obtain ⟨w, hw⟩ : ∃ w, sufS r = w := ⟨_, rfl⟩
 rw [hw] at d2 d4 hl3 ⊢
 obtain ⟨b, cl⟩ := w
 simp only at d2 d4 hl3 ⊢
 have hck := check49 (a.map bitB) (b.map bitB) (by rw [List.length_map, List.length_map]; omega)
 simp only [dS, dI, dL, dB, aW] at d1 d2 d3 d4 hck
 cases is with
 | false =>
  rw [if_neg (by simp)]
  refine wkc (jn @envOf.eq_1 (jn @envOf.eq_2 (jn @dS.eq_1 (jn @dI.eq_1 (jn @dL.eq_1 (jn @dB.eq_1 (jn @fillV.eq_1 (jn @fillV.eq_2 (jn @h66' (jn @d1 (jn @d2 (jn @d3 @d4)))))))))))) ?_
  show retQ _ _ _ _ _
  exact ⟨.inr rfl, _, _, rfl, rfl⟩
 | true =>
 cases cl with
 | false =>
  rw [if_neg (by simp)]
  refine wkc (jn @envOf.eq_1 (jn @envOf.eq_2 (jn @dS.eq_1 (jn @dI.eq_1 (jn @dL.eq_1 (jn @dB.eq_1 (jn @fillV.eq_1 (jn @fillV.eq_2 (jn @h66' (jn @d1 (jn @d2 (jn @d3 @d4)))))))))))) ?_
  show retQ _ _ _ _ _
  exact ⟨.inr rfl, _, _, rfl, rfl⟩
 | true =>
 cases ha : a.all isB with
 | false =>
  rw [ha] at d3
  rw [if_neg (by simp)]
  refine wkc (jn @envOf.eq_1 (jn @envOf.eq_2 (jn @dS.eq_1 (jn @dI.eq_1 (jn @dL.eq_1 (jn @dB.eq_1 (jn @fillV.eq_1 (jn @fillV.eq_2 (jn @h66' (jn @d1 (jn @d2 (jn @d3 @d4)))))))))))) ?_
  show retQ _ _ _ _ _
  exact ⟨.inr rfl, _, _, rfl, rfl⟩
 | true =>
 rw [ha, if_pos rfl] at d3
 cases hb : b.all isB with
 | false =>
  rw [hb] at d4
  rw [if_neg (by simp)]
  refine wkc (jn @envOf.eq_1 (jn @envOf.eq_2 (jn @dS.eq_1 (jn @dI.eq_1 (jn @dL.eq_1 (jn @dB.eq_1 (jn @fillV.eq_1 (jn @fillV.eq_2 (jn @h66' (jn @d1 (jn @d2 (jn @d3 @d4)))))))))))) ?_
  show retQ _ _ _ _ _
  exact ⟨.inr rfl, _, _, rfl, rfl⟩
 | true =>
 rw [hb, if_pos rfl] at d4
 by_cases h0 : ckW (a.map bitB) (b.map bitB) = 0
 ·rw [h0] at hck
  rw [if_pos ⟨rfl, rfl, rfl, rfl, h0⟩]
  refine wkc (jn @envOf.eq_1 (jn @envOf.eq_2 (jn @dS.eq_1 (jn @dI.eq_1 (jn @dL.eq_1 (jn @dB.eq_1 (jn @fillV.eq_1 (jn @fillV.eq_2 (jn @h66' (jn @d1 (jn @d2 (jn @d3 (jn @d4 @hck))))))))))))) ?_
  show retQ _ _ _ _ _
  exact ⟨.inr rfl, _, _, rfl, rfl⟩
 ·have h0' := eq_false h0
  rw [if_neg (by rintro ⟨_, _, _, _, h⟩; exact h0 h)]
  refine wkc (jn @envOf.eq_1 (jn @envOf.eq_2 (jn @dS.eq_1 (jn @dI.eq_1 (jn @dL.eq_1 (jn @dB.eq_1 (jn @fillV.eq_1 (jn @fillV.eq_2 (jn @h66' (jn @d1 (jn @d2 (jn @d3 (jn @d4 (jn @hck (jn @int_bne @h0'))))))))))))))) ?_
  show retQ _ _ _ _ _
  exact ⟨.inr rfl, _, _, rfl, rfl⟩
end Go.Ac
end

section
set_option maxRecDepth 4000
set_option linter.unusedSectionVars false
namespace Go.Ac
open Go.Proofs
variable [GwR]

theorem wo1 : IntKind.i64.wrap 1 = 1 := by rfl
theorem wo2 : IntKind.i64.wrap 2 = 2 := by rfl
def nb (b : Bool) : D := .bool b
def cT (l : List Bool) : List V := l.map dB
theorem cT_app (a b : List Bool) : cT (a ++ b) = cT a ++ cT b := by simp [cT]
theorem cT_flat : ∀ l : List Bool, (encT l).flatten.map V.d = cT l
 | [] => rfl
 | x :: r => by
  have := cT_flat r
  show dB x :: List.map V.d (encT r).flatten = dB x :: cT r
  rw [this]
theorem encT_one (l : List Bool) : (encT l).all (fun r => Nat.beq r.length 1) = true := by
 rw [List.all_eq_true]; intro r hr
 unfold encT at hr; obtain ⟨x, _, rfl⟩ := List.mem_map.1 hr; rfl
theorem rowsT (look : Look) (l : List Bool) : rowsOf look 1 (.d (.slice (encT l))) = some (l.length, cT l, []) := by
 show (if ((encT l).all fun r => Nat.beq r.length 1) = true then some ((encT l).length, (encT l).flatten.map V.d, ([] : List Nat)) else none) = _
 rw [if_pos (encT_one l), cT_flat, encT_len]
theorem shiftVs_rep (n c : Nat) : ∀ m : Nat, shiftVs n c (List.replicate m (dB false)) = List.replicate m (dB false)
 | 0 => rfl
 | m + 1 => by rw [List.replicate_succ, shiftVs, shiftVs_rep n c m]; rfl
theorem chunkT : ∀ l : List Bool, chunk 1 l.length (l.map nb) = encT l
 | [] => rfl
 | x :: r => by simp [chunk, encT, chunkT r, nb]
theorem toDs_ct (look : Look) (f : Nat) : ∀ l : List Bool, toDs (toD look f) (cT l) = some (l.map nb, [])
 | [] => rfl
 | x :: r => by
  have := toDs_ct look f r
  unfold cT at this ⊢
  simp only [List.map_cons]
  unfold toDs
  rw [this]
  have : toD look f (dB x) = some (nb x, []) := by cases f <;> rfl
  rw [this]; rfl
theorem close_osl1 {look : Look} {id g : Nat} {ro : Bool} {cs : List V} {l : List Bool} {cap : Option Nat} (hl : look id = some ⟨g, ro, cs⟩) (hc : cs.take l.length = cT l) (hn : l.length ≤ cs.length) : closeT look (.osl id g 0 l.length 1 cap) = some (dL (encT l), [id]) := by
 show ofD (toD look depthD _) = _
 rw [toD_dep]
 have : live look id g = some ⟨g, ro, cs⟩ := by simp [live, hl]
 rw [this]
 simp only [Nat.zero_add, Nat.mul_one, List.drop_zero, hc, toDs_ct, chunkT, nble_d, hn, decide_true]
 rfl

theorem grow_lim (m : Nat) (h0 : 0 < m) (hm : m ≤ 8388608) : lim Tryz.prog Ob.cfg 214 [.full [], dI m] [] 0 0 = some ⟨.osl 0 0 0 0 1 none, [(0, ⟨0, false, List.replicate m (dB false)⟩)], 1, 1, []⟩ := by
 have hw : IntKind.i64.wrap (m : Int) = m := by rw [w_id] <;> omega
 have h1 : ((m : Int) < 0) = False := by simp
 have h2 : ((m : Int) > 0) = True := by simp; omega
 have h2' : (0 < m) = True := by simp; omega
 have wl0 : IntKind.i64.wrap 0 = 0 := by rfl
 have hfit : fitsB m 1 = true := by simp [fitsB]; omega
 have hmx : ((m : Int) ≤ 9223372036854775807) = True := by simp; omega
 have h := lim_wp (P := Tryz.prog) (cfg := Ob.cfg) (vs := [.full [], dI m]) (hp := []) (n := 0) (c := 0) (Q := fun v t => v = .osl 0 0 0 0 1 none ∧ t.hp = [(0, ⟨0, false, List.replicate m (dB false)⟩)] ∧ t.n = 1 ∧ t.c = 1 ∧ t.wl = []) Tryz.func214 rfl (by kernel_rfl) (by
  refine wkciv (jn @envOf.eq_1 (jn @envOf.eq_2 (jn @dI.eq_1 (jn @h1 (jn @h2 (jn @h2' (jn @hw (jn @wl0 (jn @Int.sub_zero (jn @hfit (jn @hmx (jn @h0 (jn @appendNV.eq_def @V.one.eq_def))))))))))))) ?_
  exact ⟨.inr rfl, _, rfl, .inl rfl, rfl, rfl, rfl, rfl, rfl⟩)
 obtain ⟨v, t, h, h3, h4, h5, h6, h7⟩ := h
 rw [h, h3, h4, h5, h6, h7]

theorem concat_nil : den Tryz.prog Ob.cfg 141 [.d (.slice [[.slice []], [.slice []]])] = some (dL []) := den_t 100 (by kernel_rfl)

def pre2 (a b : List Bool) : Nat → List Bool | 0 => [] | 1 => a | _ => a ++ b
set_option maxHeartbeats 2000000 in
theorem concat_den (a b : List Bool) (ha : a.length ≤ 4194304) (hb : b.length ≤ 4194304) : den Tryz.prog Ob.cfg 141 [.d (.slice [[.slice (encT a)], [.slice (encT b)]])] = some (dL (encT (a ++ b))) := by
 by_cases hz : a.length + b.length = 0
 ·have h1 : a = [] := List.eq_nil_of_length_eq_zero (by omega)
  have h2 : b = [] := List.eq_nil_of_length_eq_zero (by omega)
  subst h1; subst h2
  exact concat_nil
 have hI1 := grow_lim (a.length + b.length) (by omega) (by omega)
 have hI2 : closeT noLook (CR.mk (.osl 0 0 0 0 1 none) [(0, ⟨0, false, List.replicate (a.length + b.length) (dB false)⟩)] 1 1 []).v = none := rfl
 have wa : IntKind.i64.wrap (a.length : Int) = a.length := by rw [w_id] <;> omega
 have wb : IntKind.i64.wrap ((a.length : Int) + b.length) = (a.length : Int) + b.length := by rw [w_id] <;> omega
 have na : ((a.length : Int) < 0) = False := by simp
 have nbb : ((a.length : Int) + b.length < 0) = False := by simp; omega
 have fa : fitsB a.length 1 = true := by simp [fitsB]; omega
 have fb : fitsB (a.length + b.length) 1 = true := by simp [fitsB]; omega
 refine den_wp Tryz.func141 rfl (by kernel_rfl) rfl rfl ?_
 refine wkiv True.intro ?_
 apply WP.loop' (I := fun D s => ∃ i : Nat, i + D = 2 ∧ SE [(0, .d (.slice [[.slice (encT a)], [.slice (encT b)]])), (3, dI (pre2 a b i).length), (9, .d (.slice [[.slice (encT a)], [.slice (encT b)]])), (10, dI 2), (11, dI i)] [] 0 s) (d := 2)
 ·exact ⟨0, by simp, SE.mk (by simp [dI, pre2]) rfl⟩
 rintro D _ ⟨i, hi, cc, rfl⟩
 have hi' : i = 0 ∨ i = 1 ∨ i = 2 := by omega
 rcases hi' with rfl | rfl | rfl
 ·refine wkciv (jn @dI.eq_1 (jn @pre2.eq_def (jn @wa @na))) ?_
  refine loop_next (by simp; exact Is.rfl) ?_
  exact ⟨1, by omega, 1, by omega, SE.mk (by simp [dI, pre2, wa]; rfl) rfl⟩
 ·refine wkciv (jn @dI.eq_1 (jn @pre2.eq_def (jn @wb @nbb))) ?_
  refine loop_next (by simp; exact Is.rfl) ?_
  exact ⟨0, by omega, 2, by omega, SE.mk (by simp [dI, pre2, wb]; rfl) rfl⟩
 ·have hI3 : shiftV 0 cc (CR.mk (.osl 0 0 0 0 1 none) [(0, ⟨0, false, List.replicate (a.length + b.length) (dB false)⟩)] 1 1 []).v = .osl 0 cc 0 0 1 none := by simp [shiftV]
  have hI4 : shiftH 0 cc (wrOf (CR.mk (.osl 0 0 0 0 1 none) [(0, ⟨0, false, List.replicate (a.length + b.length) (dB false)⟩)] 1 1 []).hp.get (List.range (CR.mk (.osl 0 0 0 0 1 none) [(0, ⟨0, false, List.replicate (a.length + b.length) (dB false)⟩)] 1 1 []).n)) = [(0, ⟨cc, false, List.replicate (a.length + b.length) (dB false)⟩)] := by
   simp [shiftH, wrOf, List.range_succ, shiftVs_rep]
  simp only [dI, Int.natCast_add] at hI1
  refine wkciv (jn @dI.eq_1 @pre2.eq_def) ?_
  apply WP.loop' (I := fun D s => ∃ i : Nat, i + D = 2 ∧ ∃ g c cs, cs.take (pre2 a b i).length = cT (pre2 a b i) ∧ (pre2 a b i).length ≤ cs.length ∧ s = ⟨[(6, .osl 0 g 0 (pre2 a b i).length 1 none), (25, .d (.slice [[.slice (encT a)], [.slice (encT b)]])), (26, dI 2), (27, dI i)], [(0, ⟨g, false, cs⟩)], 1, c, 0, []⟩) (d := 2)
  ·exact ⟨0, by simp, _, _, _, rfl, Nat.zero_le _, rfl⟩
  rintro D _ ⟨i, hi, g, c, cs, hct, hle, rfl⟩
  have hi' : i = 0 ∨ i = 1 ∨ i = 2 := by omega
  rcases hi' with rfl | rfl | rfl
  ·simp only [pre2, List.length_nil] at hct hle ⊢
   refine wkciv (jn @dI.eq_1 (jn @rowsT (jn @nble_d @fa))) ?_
   refine loop_next (by simp; exact Is.rfl) ?_
   exact ⟨1, by omega, 1, by omega, c, _, cT a, List.take_of_length_le (by simp [pre2, cT]), by simp [pre2, cT], st_eq (by simp [pre2, dI, wo1]) (by simp)⟩
  ·simp only [pre2] at hct hle ⊢
   refine wkciv (jn @dI.eq_1 (jn @rowsT (jn @nble_d (jn @fb (jn @hct @hle))))) ?_
   refine loop_next (by simp; exact Is.rfl) ?_
   exact ⟨0, by omega, 2, by omega, c, _, cT a ++ cT b, (List.take_of_length_le (by simp [pre2, cT])).trans (cT_app a b).symm, by simp [pre2, cT], st_eq (by simp [pre2, dI, wo2]) (by simp)⟩
  ·refine wkciv (@dI.eq_1) ?_
   show retQ _ _ _ _ _
   exact ⟨.inr rfl, _, [0], rfl, close_osl1 (l := a ++ b) (ro := false) (cs := cs) rfl hct hle⟩
end Go.Ac
end

section
namespace Go.Ac
theorem wkqn {L : Prop} (hl : L) {G G' : Prop} (k : G') (h : Wk L G G' := by
 intro hl hk
 repeat (first
 | apply WP.seq
 | (apply WP.reg; (case hR => dsimp only [prepL, prepO, List.map, gS, gZ]; exact iZ); (case hr => (repeat (first
 | (apply RT.op; simp [hl]; exact iZ; (try dsimp only [putEnv]) <;> exact rfl)
 | (apply RT.call; (iterate 2 simp; exact iZ); exact iZ; (iterate 4 simp [hl]; exact iZ); simp [Is]; (try dsimp only [putEnv]) <;> exact rfl; simp; exact iZ; simp; exact iZ)
 | (apply RT.clone; (iterate 2 simp; exact iZ); exact iZ; (iterate 2 simp [hl]; exact iZ); (first | assumption | (simp [fitsB]; omega)); (try dsimp only [putEnv]) <;> exact rfl; simp [hl]; exact iZ; simp; exact iZ)
 | (apply RT.callQ; (iterate 2 simp; exact iZ); exact iZ; (iterate 3 simp [hl]; exact iZ); (try dsimp only [putEnv]) <;> exact rfl)
 | (apply RT.wr; simp [hl]; exact iZ; (try dsimp only [putEnv]) <;> exact rfl; simp [hl]; exact iZ; (iterate 2 exact iZ); simp; exact iZ))); exact RT.nil); (case hc => (show _ = _; kernel_rfl)); (case ht => simp [hl]; exact iZ))
 | apply WP.block | apply WP.skip | apply WP.exit | apply WP.ret)
 exact hk.out) : G := h hl ⟨k⟩
theorem wkv {L : Prop} (hl : L) {G G' : Prop} (k : G') (h : Wk L G G' := by
 intro hl hk
 repeat (first
 | apply WP.seq
 | (apply WP.reg; (case hR => dsimp only [prepL, prepO, List.map, gS, gZ]; exact iZ); (case hr => (repeat (first
 | (apply RT.op; simp [hl]; exact iZ; (try dsimp only [putEnv]) <;> exact rfl)
 | (apply RT.call; (iterate 2 simp; exact iZ); exact iZ; (iterate 4 simp [hl]; exact iZ); simp [Is]; (try dsimp only [putEnv]) <;> exact rfl; simp; exact iZ; simp; exact iZ)
 | (apply RT.callV; (iterate 2 simp; exact iZ); exact iZ; (iterate 3 simp [hl]; exact iZ); (try dsimp only [putEnv]) <;> exact rfl)
 | (apply RT.wr; simp [hl]; exact iZ; (try dsimp only [putEnv]) <;> exact rfl; simp [hl]; exact iZ; (iterate 2 exact iZ); simp; exact iZ))); exact RT.nil); (case hc => (show _ = _; kernel_rfl)); (case ht => simp [hl]; exact iZ))
 | apply WP.block | apply WP.skip | apply WP.exit | apply WP.ret)
 exact hk.out) : G := h hl ⟨k⟩
theorem wkcqn {L : Prop} (hl : L) {G G' : Prop} (k : G') (h : Wk L G G' := by
 intro hl hk
 repeat (first
 | apply WP.seq
 | (apply WP.reg; (case hR => dsimp only [prepL, prepO, List.map, gS, gZ]; exact iZ); (case hr => (repeat (first
 | (apply RT.op; simp [hl]; exact iZ; (try dsimp only [putEnv]) <;> exact rfl)
 | (apply RT.call; (iterate 2 simp; exact iZ); exact iZ; (iterate 4 simp [hl]; exact iZ); simp [Is]; (try dsimp only [putEnv]) <;> exact rfl; simp; exact iZ; simp; exact iZ)
 | (apply RT.clone; (iterate 2 simp; exact iZ); exact iZ; (iterate 2 simp [hl]; exact iZ); (first | assumption | (simp [fitsB]; omega)); (try dsimp only [putEnv]) <;> exact rfl; simp [hl]; exact iZ; simp; exact iZ)
 | (apply RT.callQ; (iterate 2 simp; exact iZ); exact iZ; (iterate 3 simp [hl]; exact iZ); (try dsimp only [putEnv]) <;> exact rfl)
 | (apply RT.wr; simp [hl]; exact iZ; (try dsimp only [putEnv]) <;> exact rfl; simp [hl]; exact iZ; (iterate 2 exact iZ); simp; exact iZ))); exact RT.nil); (case hc => (show _ = _; kernel_rfl)); (case ht => simp [hl]; exact iZ))
 | apply WP.block | apply WP.skip | apply WP.exit | apply WP.ret | refine WP.condT rfl ?_ | refine WP.condF rfl ?_)
 exact hk.out) : G := h hl ⟨k⟩
theorem wkcv {L : Prop} (hl : L) {G G' : Prop} (k : G') (h : Wk L G G' := by
 intro hl hk
 repeat (first
 | apply WP.seq
 | (apply WP.reg; (case hR => dsimp only [prepL, prepO, List.map, gS, gZ]; exact iZ); (case hr => (repeat (first
 | (apply RT.op; simp [hl]; exact iZ; (try dsimp only [putEnv]) <;> exact rfl)
 | (apply RT.call; (iterate 2 simp; exact iZ); exact iZ; (iterate 4 simp [hl]; exact iZ); simp [Is]; (try dsimp only [putEnv]) <;> exact rfl; simp; exact iZ; simp; exact iZ)
 | (apply RT.callV; (iterate 2 simp; exact iZ); exact iZ; (iterate 3 simp [hl]; exact iZ); (try dsimp only [putEnv]) <;> exact rfl)
 | (apply RT.wr; simp [hl]; exact iZ; (try dsimp only [putEnv]) <;> exact rfl; simp [hl]; exact iZ; (iterate 2 exact iZ); simp; exact iZ))); exact RT.nil); (case hc => (show _ = _; kernel_rfl)); (case ht => simp [hl]; exact iZ))
 | apply WP.block | apply WP.skip | apply WP.exit | apply WP.ret | refine WP.condT rfl ?_ | refine WP.condF rfl ?_)
 exact hk.out) : G := h hl ⟨k⟩
end Go.Ac
end

section
set_option linter.unusedSectionVars false
namespace Go.Ac
open Go.Proofs
variable [GwR]

theorem encI_at {l : List Int} {i : Nat} {y : Int} (h : l[i]? = some y) : (encI l)[i]? = some [.int .i64 y] := by unfold encI; simp [h]
theorem encE_at {l : List En} {i : Nat} {y : En} (h : l[i]? = some y) : (encE l)[i]? = some y.cells := by unfold encE; simp [h]
theorem w_id' {n : Int} (h : -9223372036854775808 ≤ n) (h' : n ≤ 9223372036854775807) : IntKind.i64.wrap n = n := w_id h h'
end Go.Ac
end

section
set_option maxRecDepth 4000
set_option linter.unusedSectionVars false
namespace Go.Ac
open Go.Proofs Go.ChangeShapes Go.WideShapes Go.RowKit
open Go.Proofs.YtkimfnammkljoaaGreatDoor.Rows (uptoBulk uptoBulkAll)
variable [GwR]

section
variable {H : Type} {enc : TypeId × Value → H} {w : World}

instance : Inhabited X := ⟨.mk 0 0 0 0 [] []⟩
instance : Inhabited Y := ⟨.mk 0 [] 0 (.mk 0 0 0 0 [] []) [] [] []⟩
instance : Inhabited On := ⟨⟨[], 0, 0⟩⟩
instance : Inhabited Dc := ⟨⟨[], 0, []⟩⟩
instance : Inhabited En := ⟨⟨[], []⟩⟩
instance : Inhabited Mm := ⟨⟨[], 0, 0⟩⟩
instance : Inhabited Ii := ⟨⟨[], []⟩⟩
instance : Inhabited Cl := ⟨⟨[], [], [], [], [], [], []⟩⟩
theorem okX_iff : ∀ l : List X, okX l ↔ ∀ x, x ∈ l → x.ok
 | [] => by simp [okX]
 | x :: r => by simp [okX, okX_iff r]
end
end Go.Ac
end

section
set_option maxRecDepth 4000
set_option linter.unusedSectionVars false
namespace Go.Ac
open Go.Proofs
variable [GwR]

def inW (v : Int) : Bool := decide (-32768 ≤ v) && decide (v ≤ 32767)
def hasE (en : List En) (t v : Int) : Bool := if t = 2 then inW v else decide (0 ≤ v) && decide (v < sizeE en t)
theorem I64.sub3 {t : Int} (h : I64 t) (h3 : 3 ≤ t) : IntKind.i64.wrap (t - 3) = t - 3 := by unfold I64 at h; rw [w_id'] <;> omega

theorem kf69 (r : Nat) : Ob.keep 69 r = Ob.k69 r := by kernel_rfl
theorem kf131 (r : Nat) : Ob.keep 131 r = Ob.k131 r := by kernel_rfl
theorem kf70 (r : Nat) : Ob.keep 70 r = Ob.k70 r := by kernel_rfl
theorem kf31 (r : Nat) : Ob.keep 31 r = Ob.k31 r := by kernel_rfl
attribute [local simp] kf69 Ob.k69 kf131 Ob.k131 kf70 Ob.k70 kf31 Ob.k31
theorem in38 (v : Int) : den Tryz.prog Ob.cfg 69 [dI v] = some (dB (inW v)) := by
 refine den_wp Tryz.func69 rfl (by kernel_rfl) rfl rfl ?_
 unfold inW
 by_cases h1 : -32768 ≤ v
 ·have h1' := eq_true h1
  refine wkc (jn @dI.eq_1 @h1') ?_
  exact ⟨.inr rfl, _, _, rfl, by simp [h1]; rfl⟩
 ·have h1' := eq_false h1
  refine wkc (jn @dI.eq_1 @h1') ?_
  exact ⟨.inr rfl, _, _, rfl, by simp [h1]; rfl⟩

set_option maxHeartbeats 1000000 in
theorem enum86 (en : List En) (t : Int) (ht : I64 t) : den Tryz.prog Ob.cfg 131 [dL (encE en), dI t] = some (.tuple [aG (eAt en t).cells, dB (inE en t)]) := by
 refine den_wp Tryz.func131 rfl (by kernel_rfl) rfl rfl ?_
 by_cases h1 : t < 3
 ·have h1' := eq_true h1
  have hi : inE en t = false := by unfold inE; rw [decide_eq_false (by omega)]; rfl
  unfold eAt
  rw [hi]
  refine wkc (jn @dI.eq_1 (jn @dL.eq_1 (jn @h1' (jn @fillV.eq_1 @fillV.eq_2)))) ?_
  exact ⟨.inr rfl, _, _, rfl, rfl⟩
 have h1' := eq_false h1
 have hw := ht.sub3 (by omega)
 by_cases h2 : t - 3 ≥ en.length
 ·have h2' : ((en.length : Int) ≤ t - 3) = True := eq_true h2
  have hi : inE en t = false := by unfold inE; rw [decide_eq_false (p := t - 3 < en.length) (by omega)]; simp
  unfold eAt
  rw [hi]
  refine wkc (jn @dI.eq_1 (jn @dL.eq_1 (jn @h1' (jn @h2' (jn @hw (jn @fillV.eq_1 @fillV.eq_2)))))) ?_
  exact ⟨.inr rfl, _, _, rfl, rfl⟩
 have h2' : ((en.length : Int) ≤ t - 3) = False := eq_false h2
 have hi : inE en t = true := by unfold inE; rw [decide_eq_true (p := 3 ≤ t) (by omega), decide_eq_true (by omega)]; rfl
 obtain ⟨k, hk⟩ : ∃ k : Nat, t - 3 = k := ⟨(t - 3).toNat, by omega⟩
 have hkl : k < en.length := by omega
 obtain ⟨y, hy, hym, hix⟩ := at_lt hkl
 have hy' := encE_at hy
 have he : eAt en t = y := by unfold eAt; rw [hi, hk]; simp [List.getD, hy]
 rw [hi, he]
 rw [hk] at h2'
 have hw := hw.trans hk
 refine wkc (jn @dI.eq_1 (jn @dL.eq_1 (jn @h1' (jn @h2' (jn @hw (jn @hix (jn @hy' @En.cells.eq_1))))))) ?_
 exact ⟨.inr rfl, _, _, rfl, rfl⟩

set_option maxHeartbeats 1000000 in
theorem size39 (en : List En) (t : Int) (ht : I64 t) : den Tryz.prog Ob.cfg 70 [dL (encE en), dI t] = some (dI (sizeE en t)) := by
 have h := enum86 en t ht
 simp only [aG, En.cells, List.map_cons, List.map_nil, dL, dI, dB] at h
 refine den_wp Tryz.func70 rfl (by kernel_rfl) rfl rfl ?_
 unfold sizeE
 by_cases h1 : t = 1
 ·subst h1
  refine wkc (jn @dI.eq_1 @dL.eq_1) ?_
  show retQ _ _ _ _ _
  exact ⟨.inr rfl, _, _, rfl, rfl⟩
 by_cases h2 : t = 2
 ·subst h2
  refine wkc (jn @dI.eq_1 @dL.eq_1) ?_
  show retQ _ _ _ _ _
  exact ⟨.inr rfl, _, _, rfl, rfl⟩
 rw [if_neg h1, if_neg h2]
 refine wkc (jn @dI.eq_1 (jn @dL.eq_1 (jn @h1 (jn @h2 (jn @int_beq @h))))) ?_
 show retQ _ _ _ _ _
 exact ⟨.inr rfl, _, _, rfl, rfl⟩

set_option maxHeartbeats 1000000 in
theorem has15 (en : List En) (t v : Int) (ht : I64 t) : den Tryz.prog Ob.cfg 31 [dL (encE en), dI t, dI v] = some (dB (hasE en t v)) := by
 have h := size39 en t ht
 have hw := in38 v
 simp only [dL, dI, dB] at h hw
 refine den_wp Tryz.func31 rfl (by kernel_rfl) rfl rfl ?_
 unfold hasE
 by_cases h1 : t = 2
 ·subst h1
  refine wkc (jn @dI.eq_1 (jn @dL.eq_1 @hw)) ?_
  show retQ _ _ _ _ _
  exact ⟨.inr rfl, _, _, rfl, rfl⟩
 rw [if_neg h1]
 by_cases h2 : 0 ≤ v
 ·have h2' := eq_true h2
  refine wkc (jn @dI.eq_1 (jn @dL.eq_1 (jn @h1 (jn @int_beq (jn @h2' @h))))) ?_
  exact ⟨.inr rfl, _, _, rfl, by simp [h2]; rfl⟩
 ·have h2' := eq_false h2
  refine wkc (jn @dI.eq_1 (jn @dL.eq_1 (jn @h1 (jn @int_beq (jn @h2' @h))))) ?_
  exact ⟨.inr rfl, _, _, rfl, by simp [h2]; rfl⟩
def arE (o : Int) : Int := if o = 1 ∨ o = 2 then 1 else if 2 < o ∧ o ≤ 16 then 2 else 0
end Go.Ac
end

section
set_option maxRecDepth 4000
set_option linter.unusedSectionVars false
namespace Go.Ac
open Go.Proofs
variable [GwR]

theorem find_hit {α : Type} {p : α → Bool} : ∀ {l : List α} {j : Nat} {d : α}, (l.take j).all (fun a => !p a) = true → l[j]? = some d → p d = true → l.find? p = some d
 | a :: l, 0, d, _, h, hp => by simp at h; subst h; simp [hp]
 | a :: l, j + 1, d, hn, h, hp => by
  simp only [List.take_succ_cons, List.all_cons, Bool.and_eq_true] at hn
  have ha : p a = false := by simpa using hn.1
  simp only [List.find?_cons, ha]
  exact find_hit hn.2 (by simpa using h) hp
 | [], j, d, _, h, _ => by simp at h
theorem find_none {α : Type} {p : α → Bool} : ∀ {l : List α}, l.all (fun a => !p a) = true → l.find? p = none
 | [], _ => rfl
 | a :: l, h => by
  simp only [List.all_cons, Bool.and_eq_true] at h
  have ha : p a = false := by simpa using h.1
  simp only [List.find?_cons, ha]
  exact find_none h.2
theorem encP_at {l : List Pr} {i : Nat} {y : Pr} (h : l[i]? = some y) : (encP l)[i]? = some y.cells := by unfold encP; simp [h]
attribute [simp] encP_len






end Go.Ac
end
