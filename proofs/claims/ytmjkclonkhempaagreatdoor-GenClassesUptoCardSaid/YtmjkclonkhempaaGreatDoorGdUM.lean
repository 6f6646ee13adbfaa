/- The word of a text, the program's. -/
import Derived.Test.YtmjkclonkhempaaGreatDoorGdRM
set_option linter.unusedVariables false
set_option linter.unusedSimpArgs false
section
set_option maxRecDepth 4000
namespace Go.Ac
open Go.Proofs
attribute [local simp] Hp.get_set get_trunc_lt
/-- A byte that is a letter; which one. -/
def isB (b : UInt8) : Bool := decide (b.toNat = 48) || decide (b.toNat = 49)
def bitB (b : UInt8) : Bool := decide (b.toNat = 49)
def runB (s : Tx) : List Bool := (s.takeWhile isB).map bitB
theorem tw_at {α : Type} {p : α → Bool} : ∀ {l : List α} {j : Nat}, (l.take j).all p = true → (∀ x, l[j]? = some x → p x = false) → l.takeWhile p = l.take j
 | [], j, _, _ => by simp
 | x :: r, 0, _, h => by rw [List.takeWhile_cons_of_neg (by rw [h x rfl]; simp)]; rfl
 | x :: r, j + 1, ha, h => by
  rw [List.take_succ_cons, List.all_cons, Bool.and_eq_true] at ha
  rw [List.takeWhile_cons_of_pos ha.1, List.take_succ_cons, tw_at ha.2 fun y hy => h y (by simpa using hy)]
theorem encT_snoc (l : List Bool) (b : Bool) : encT l ++ [[.bool b]] = encT (l ++ [b]) := by unfold encT; simp
theorem fits1 {j : Nat} (h : j ≤ 8388608) : fitsB (j + 1) 1 = true := by simp [fitsB]; omega
theorem blockQ_nn {i : Nat} {Q : Ex → St → Prop} {t : St} (h : Q .normal t) : blockQ i Q .normal t := h
theorem close_d (look : Look) (b : D) : close look (.d b) = some (.d b, []) := by
 show ofD (toD look depthD (.d b)) = _
 rw [toD_d]; rfl
theorem close_tup2 {look : Look} {id g o n sz : Nat} {cap : Option Nat} {b : D} {v : V} {ids : List Nat} (h : closeT look (.osl id g o n sz cap) = some (v, ids)) : closeT look (.tuple [.osl id g o n sz cap, .d b]) = some (.tuple [v, .d b], ids) := by
 have h' : close look (.osl id g o n sz cap) = some (v, ids) := h
 simp only [closeT, closeVs, h', close_d, List.append_nil]
theorem kf62 (r : Nat) : Ob.keep 62 r = Ob.k62 r := by kernel_rfl
theorem kf48 (r : Nat) : Ob.keep 48 r = Ob.k48 r := by kernel_rfl
theorem kf63 (r : Nat) : Ob.keep 63 r = Ob.k63 r := by kernel_rfl
theorem kf49 (r : Nat) : Ob.keep 49 r = Ob.k49 r := by kernel_rfl
theorem kf34 (r : Nat) : Ob.keep 34 r = Ob.k34 r := by kernel_rfl
attribute [local simp] kf62 Ob.k62 kf48 Ob.k48 kf63 Ob.k63 kf49 Ob.k49 kf34 Ob.k34
set_option maxHeartbeats 4000000 in
theorem run62 (s : Tx) (i : Nat) (hs : s.length ≤ 8388608) (hi : i ≤ s.length) : den Tryz.prog Ob.cfg 62 [dS s, dI i] = some (dL (encT (runB (s.drop i)))) := by
 refine den_wp Tryz.func62 rfl (by kernel_rfl) rfl rfl ?_
 refine wkc (jn @envOf.eq_1 (jn @envOf.eq_2 (jn @dS.eq_1 (jn @dI.eq_1 (jn @fillV.eq_1 @fillV.eq_2))))) ?_
 obtain ⟨u, hu⟩ : ∃ u, u = s.drop i := ⟨_, rfl⟩
 have hul : u.length = s.length - i := by rw [hu, List.length_drop]
 rw [← hu]
 apply WP.loop' (I := fun D st => ∃ (j g c' : Nat) (hp' : Hp) (cs : List V), j + D = u.length ∧ hp'.get 0 = some ⟨g, false, cs⟩ ∧ RowD cs (encT ((u.take j).map bitB)) 1 ∧ (u.take j).all isB = true ∧
  st = ⟨[(0, dS s), (1, dI ((i + j : Nat) : Int)), (5, .osl 0 g 0 j 1 none)], hp', 1, c', 0, []⟩) (d := u.length)
 ·exact ⟨0, 0, _, _, [], by simp, by simp, RowD.nil 1, by simp, st_eq (by simp [dI, dL, dS]) rfl⟩
 rintro D _ ⟨j, g, c', hp', cs, hj, hx, hr, hall, rfl⟩
 have hLl : (encT ((u.take j).map bitB)).length = j := by rw [encT_len, List.length_map, List.length_take]; omega
 have hend : (∀ x, u[j]? = some x → isB x = false) → closeT hp'.get (.osl 0 g 0 j 1 none) = some (dL (encT (runB u)), [0]) := fun h => by
  have hcl := hr.close (cap := none) hx
  rw [hLl] at hcl
  unfold runB
  rw [hcl, tw_at hall h]
 by_cases hb : j < u.length
 ·obtain ⟨b, hb1⟩ : ∃ b, u[j]? = some b := ⟨_, List.getElem?_eq_getElem hb⟩
  have hsb : s[i + j]? = some b := by rw [hu, List.getElem?_drop] at hb1; exact hb1
  have hix : idx ((i : Int) + (j : Int)) s.length = some (i + j) := by have := idx_lt (show i + j < s.length by omega); simpa using this
  have hlt := eq_true (show (i : Int) + (j : Int) < (s.length : Int) by omega)
  have hw : IntKind.i64.wrap ((i : Int) + (j : Int) + 1) = (i : Int) + (j : Int) + 1 := by rw [w_id] <;> omega
  have f1 := fits1 (show j ≤ 8388608 by omega)
  have r2 := hr.len
  have r3 := hr.take
  rw [hLl, Nat.mul_one] at r2 r3
  have hsn := take_snoc hb1
  by_cases h48 : b.toNat = 48
  ·have k1 : ((b.toNat : Int) = 48) = True := eq_true (by omega)
   have k2 : ((b.toNat : Int) = 49) = False := eq_false (by omega)
   refine wkc (jn @dI.eq_1 (jn @dL.eq_1 (jn @dS.eq_1 (jn @dB.eq_1 (jn @hix (jn @hsb (jn @hlt (jn @int_beq (jn @k1 (jn @k2 (jn @f1 (jn @r2 (jn @r3 (jn @hx (jn @fillV.eq_1 (jn @fillV.eq_2 (jn @toD_dep (jn @toD_d @nble_d)))))))))))))))))) ?_
   refine blockQ_nn ?_
   refine loop_next (by simp [hw]; exact Is.rfl) ?_
   have hr2 := hr.snoc (vs := [V.d (.bool false)]) (r := [.bool false]) (VD.d VD.nil) rfl
   rw [encT_snoc, show (u.take j).map bitB ++ [false] = (u.take (j + 1)).map bitB by rw [hsn]; simp [bitB, h48]] at hr2
   exact ⟨D - 1, by omega, j + 1, _, _, _, _, by omega, by simp; rfl, hr2, by rw [hsn]; simp [hall, isB, h48], st_eq (by simp [dI, dL, dS, hw]; omega) rfl⟩
  by_cases h49 : b.toNat = 49
  ·have k1 : ((b.toNat : Int) = 48) = False := eq_false (by omega)
   have k2 : ((b.toNat : Int) = 49) = True := eq_true (by omega)
   refine wkc (jn @dI.eq_1 (jn @dL.eq_1 (jn @dS.eq_1 (jn @dB.eq_1 (jn @hix (jn @hsb (jn @hlt (jn @int_beq (jn @k1 (jn @k2 (jn @f1 (jn @r2 (jn @r3 (jn @hx (jn @fillV.eq_1 (jn @fillV.eq_2 (jn @toD_dep (jn @toD_d @nble_d)))))))))))))))))) ?_
   refine blockQ_nn ?_
   refine loop_next (by simp [hw]; exact Is.rfl) ?_
   have hr2 := hr.snoc (vs := [V.d (.bool true)]) (r := [.bool true]) (VD.d VD.nil) rfl
   rw [encT_snoc, show (u.take j).map bitB ++ [true] = (u.take (j + 1)).map bitB by rw [hsn]; simp [bitB, h49]] at hr2
   exact ⟨D - 1, by omega, j + 1, _, _, _, _, by omega, by simp; rfl, hr2, by rw [hsn]; simp [hall, isB, h49], st_eq (by simp [dI, dL, dS, hw]; omega) rfl⟩
  ·have k1 : ((b.toNat : Int) = 48) = False := eq_false (by omega)
   have k2 : ((b.toNat : Int) = 49) = False := eq_false (by omega)
   have he := hend fun x hx' => by rw [hb1] at hx'; cases hx'; simp [isB, h48, h49]
   refine wkc (jn @dI.eq_1 (jn @dL.eq_1 (jn @dS.eq_1 (jn @dB.eq_1 (jn @hix (jn @hsb (jn @hlt (jn @int_beq (jn @k1 @k2))))))))) ?_
   exact ⟨.inr rfl, _, [0], rfl, he⟩
 ·have hlt := eq_false (show ¬ ((i : Int) + (j : Int) < (s.length : Int)) by omega)
  have he := hend fun x hx' => by rw [List.getElem?_eq_none (by omega)] at hx'; cases hx'
  refine wkc (jn @dI.eq_1 (jn @dL.eq_1 (jn @dS.eq_1 (jn @dB.eq_1 @hlt)))) ?_
  exact ⟨.inr rfl, _, [0], rfl, he⟩
set_option maxHeartbeats 4000000 in
theorem letters48 (s : Tx) (hs : s.length ≤ 8388608) : den Tryz.prog Ob.cfg 48 [dS s] = some (.tuple [dL (encT (if s.all isB = true then s.map bitB else [])), dB (s.all isB)]) := by
 refine den_wp Tryz.func48 rfl (by kernel_rfl) rfl rfl ?_
 refine wkc (jn @envOf.eq_1 (jn @envOf.eq_2 (jn @dS.eq_1 (jn @dI.eq_1 (jn @fillV.eq_1 @fillV.eq_2))))) ?_
 apply WP.loop' (I := fun D st => ∃ (j g c' : Nat) (hp' : Hp) (cs : List V), j + D = s.length ∧ hp'.get 0 = some ⟨g, false, cs⟩ ∧ RowD cs (encT ((s.take j).map bitB)) 1 ∧ (s.take j).all isB = true ∧
  st = ⟨[(0, dS s), (4, .osl 0 g 0 j 1 none), (7, dI s.length), (8, dI j)], hp', 1, c', 0, []⟩) (d := s.length)
 ·exact ⟨0, 0, _, _, [], by simp, by simp, RowD.nil 1, by simp, st_eq (by simp [dI, dL, dS]) rfl⟩
 rintro D _ ⟨j, g, c', hp', cs, hj, hx, hr, hall, rfl⟩
 have hLl : (encT ((s.take j).map bitB)).length = j := by rw [encT_len, List.length_map, List.length_take]; omega
 by_cases hb : j < s.length
 ·obtain ⟨b, hb1, hbm, hix⟩ := at_lt hb
  have hlt := eq_true (show (j : Int) < (s.length : Int) by omega)
  have hw := w_succ hb (by omega)
  have f1 := fits1 (show j ≤ 8388608 by omega)
  have r2 := hr.len
  have r3 := hr.take
  rw [hLl, Nat.mul_one] at r2 r3
  have hsn := take_snoc hb1
  by_cases h48 : b.toNat = 48
  ·have k1 : ((b.toNat : Int) = 48) = True := eq_true (by omega)
   have k2 : ((b.toNat : Int) = 49) = False := eq_false (by omega)
   refine wkc (jn @dI.eq_1 (jn @dL.eq_1 (jn @dS.eq_1 (jn @dB.eq_1 (jn @hix (jn @hb1 (jn @hlt (jn @int_beq (jn @int_bne (jn @k1 (jn @k2 (jn @f1 (jn @r2 (jn @r3 (jn @hx (jn @fillV.eq_1 (jn @fillV.eq_2 (jn @toD_dep (jn @toD_d @nble_d))))))))))))))))))) ?_
   refine loop_next (by simp [hw]; exact Is.rfl) ?_
   have hr2 := hr.snoc (vs := [V.d (.bool false)]) (r := [.bool false]) (VD.d VD.nil) rfl
   rw [encT_snoc, show (s.take j).map bitB ++ [false] = (s.take (j + 1)).map bitB by rw [hsn]; simp [bitB, h48]] at hr2
   exact ⟨D - 1, by omega, j + 1, _, _, _, _, by omega, by simp; rfl, hr2, by rw [hsn]; simp [hall, isB, h48], st_eq (by simp [dI, dL, dS, hw]) rfl⟩
  by_cases h49 : b.toNat = 49
  ·have k1 : ((b.toNat : Int) = 48) = False := eq_false (by omega)
   have k2 : ((b.toNat : Int) = 49) = True := eq_true (by omega)
   refine wkc (jn @dI.eq_1 (jn @dL.eq_1 (jn @dS.eq_1 (jn @dB.eq_1 (jn @hix (jn @hb1 (jn @hlt (jn @int_beq (jn @int_bne (jn @k1 (jn @k2 (jn @f1 (jn @r2 (jn @r3 (jn @hx (jn @fillV.eq_1 (jn @fillV.eq_2 (jn @toD_dep (jn @toD_d @nble_d))))))))))))))))))) ?_
   refine loop_next (by simp [hw]; exact Is.rfl) ?_
   have hr2 := hr.snoc (vs := [V.d (.bool true)]) (r := [.bool true]) (VD.d VD.nil) rfl
   rw [encT_snoc, show (s.take j).map bitB ++ [true] = (s.take (j + 1)).map bitB by rw [hsn]; simp [bitB, h49]] at hr2
   exact ⟨D - 1, by omega, j + 1, _, _, _, _, by omega, by simp; rfl, hr2, by rw [hsn]; simp [hall, isB, h49], st_eq (by simp [dI, dL, dS, hw]) rfl⟩
  ·have k1 : ((b.toNat : Int) = 48) = False := eq_false (by omega)
   have k2 : ((b.toNat : Int) = 49) = False := eq_false (by omega)
   have he : s.all isB = false := by
    rw [List.all_eq_false]; exact ⟨b, hbm, by simp [isB, h48, h49]⟩
   rw [he]
   refine wkc (jn @dI.eq_1 (jn @dL.eq_1 (jn @dS.eq_1 (jn @dB.eq_1 (jn @hix (jn @hb1 (jn @hlt (jn @int_beq (jn @int_bne (jn @k1 @k2)))))))))) ?_
   show retQ _ _ _ _ _
   exact ⟨.inr rfl, _, _, rfl, rfl⟩
 ·have hlt := eq_false (show ¬ ((j : Int) < (s.length : Int)) by omega)
  have hje : j = s.length := by omega
  rw [hje, List.take_length] at hall hr hLl
  have hcl := hr.close (cap := none) hx
  rw [hLl, ← hje] at hcl
  rw [hall, if_pos rfl]
  refine wkc (jn @dI.eq_1 (jn @dL.eq_1 (jn @dS.eq_1 (jn @dB.eq_1 @hlt)))) ?_
  exact ⟨.inr rfl, [_, _], [0], rfl, close_tup2 hcl⟩
def aW (hd lo : List Bool) : V := .agg [.d (.slice (encT hd)), .d (.slice (encT lo))]
/-- Whether a word is right. -/
def ckW (hd lo : List Bool) : Int := if lo = [] then 5 else if 64 < hd.length + lo.length then 3 else 0
set_option maxHeartbeats 4000000 in
theorem check63 (hd lo : List Bool) (hl : hd.length + lo.length ≤ 8388608) : den Tryz.prog Ob.cfg 63 [aW hd lo] = some (dI (ckW hd lo)) := by
 refine den_wp Tryz.func63 rfl (by kernel_rfl) rfl rfl ?_
 have hw : IntKind.i64.wrap ((hd.length : Int) + (lo.length : Int)) = (hd.length : Int) + (lo.length : Int) := by rw [w_id] <;> omega
 unfold ckW
 by_cases h0 : lo = []
 ·have h0' := eq_true h0
  rw [if_pos h0]
  refine wkc (jn @envOf.eq_1 (jn @envOf.eq_2 (jn @aW.eq_1 (jn @dI.eq_1 (jn @dL.eq_1 (jn @fillV.eq_1 (jn @fillV.eq_2 (jn @encT_len (jn @int_beq @h0'))))))))) ?_
  show retQ _ _ _ _ _
  exact ⟨.inr rfl, _, _, rfl, rfl⟩
 have h0' := eq_false h0
 rw [if_neg h0]
 by_cases h1 : 64 < hd.length + lo.length
 ·have h1' := eq_true (show (hd.length : Int) + (lo.length : Int) > 64 by omega)
  rw [if_pos h1]
  refine wkc (jn @envOf.eq_1 (jn @envOf.eq_2 (jn @aW.eq_1 (jn @dI.eq_1 (jn @dL.eq_1 (jn @fillV.eq_1 (jn @fillV.eq_2 (jn @encT_len (jn @int_beq (jn @h0' (jn @hw @h1'))))))))))) ?_
  show retQ _ _ _ _ _
  exact ⟨.inr rfl, _, _, rfl, rfl⟩
 ·have h1' := eq_false (show ¬ ((hd.length : Int) + (lo.length : Int) > 64) by omega)
  rw [if_neg h1]
  refine wkc (jn @envOf.eq_1 (jn @envOf.eq_2 (jn @aW.eq_1 (jn @dI.eq_1 (jn @dL.eq_1 (jn @fillV.eq_1 (jn @fillV.eq_2 (jn @encT_len (jn @int_beq (jn @h0' (jn @hw @h1'))))))))))) ?_
  show retQ _ _ _ _ _
  exact ⟨.inr rfl, _, _, rfl, rfl⟩
set_option maxHeartbeats 4000000 in
theorem check49 (hd lo : List Bool) (hl : hd.length + lo.length ≤ 8388608) : den Tryz.prog Ob.cfg 49 [aW hd lo] = some (dI (ckW hd lo)) := by
 refine den_wp Tryz.func49 rfl (by kernel_rfl) rfl rfl ?_
 have hw : IntKind.i64.wrap ((hd.length : Int) + (lo.length : Int)) = (hd.length : Int) + (lo.length : Int) := by rw [w_id] <;> omega
 unfold ckW
 by_cases h0 : lo = []
 ·have h0' := eq_true h0
  rw [if_pos h0]
  refine wkc (jn @envOf.eq_1 (jn @envOf.eq_2 (jn @aW.eq_1 (jn @dI.eq_1 (jn @dL.eq_1 (jn @fillV.eq_1 (jn @fillV.eq_2 (jn @encT_len (jn @int_beq @h0'))))))))) ?_
  show retQ _ _ _ _ _
  exact ⟨.inr rfl, _, _, rfl, rfl⟩
 have h0' := eq_false h0
 rw [if_neg h0]
 by_cases h1 : 64 < hd.length + lo.length
 ·have h1' := eq_true (show (hd.length : Int) + (lo.length : Int) > 64 by omega)
  rw [if_pos h1]
  refine wkc (jn @envOf.eq_1 (jn @envOf.eq_2 (jn @aW.eq_1 (jn @dI.eq_1 (jn @dL.eq_1 (jn @fillV.eq_1 (jn @fillV.eq_2 (jn @encT_len (jn @int_beq (jn @h0' (jn @hw @h1'))))))))))) ?_
  show retQ _ _ _ _ _
  exact ⟨.inr rfl, _, _, rfl, rfl⟩
 ·have h1' := eq_false (show ¬ ((hd.length : Int) + (lo.length : Int) > 64) by omega)
  rw [if_neg h1]
  refine wkc (jn @envOf.eq_1 (jn @envOf.eq_2 (jn @aW.eq_1 (jn @dI.eq_1 (jn @dL.eq_1 (jn @fillV.eq_1 (jn @fillV.eq_2 (jn @encT_len (jn @int_beq (jn @h0' (jn @hw @h1'))))))))))) ?_
  show retQ _ _ _ _ _
  exact ⟨.inr rfl, _, _, rfl, rfl⟩
/-- The word of a text, and the error. -/
def prsT (s : Tx) : (List Bool × List Bool) × Int :=
 if 66 < s.length then (([], []), 3) else
 match s.dropWhile isB with
 | [] => (([], []), 5)
 | b :: r => if b.toNat ≠ 40 then (([], []), 5) else
  match r.dropWhile isB with
  | [] => (([], []), 5)
  | c :: z => if z ≠ [] ∨ c.toNat ≠ 41 ∨ runB r = [] then (([], []), 5) else ((runB s, runB r), 0)
theorem dw_drop {α : Type} {p : α → Bool} : ∀ l : List α, l.drop (l.takeWhile p).length = l.dropWhile p
 | [] => rfl
 | x :: r => by
  cases h : p x with
  | true => rw [List.takeWhile_cons_of_pos h, List.dropWhile_cons_of_pos h, List.length_cons, List.drop_succ_cons, dw_drop r]
  | false => rw [List.takeWhile_cons_of_neg (by simp [h]), List.dropWhile_cons_of_neg (by simp [h])]; rfl
theorem tw_le {α : Type} {p : α → Bool} (l : List α) : (l.takeWhile p).length ≤ l.length := (List.takeWhile_prefix p).length_le
theorem runB_drop (s : Tx) : s.drop (runB s).length = s.dropWhile isB := by unfold runB; rw [List.length_map, dw_drop]
theorem runB_len (s : Tx) : (runB s).length ≤ s.length := by unfold runB; rw [List.length_map]; exact tw_le s
theorem drop_hd {α : Type} {l r : List α} {i : Nat} {x : α} (h : l.drop i = x :: r) : l[i]? = some x ∧ i < l.length ∧ l.drop (i + 1) = r ∧ l.length = i + 1 + r.length := by
 have h1 : i < l.length := by
  by_cases h2 : i < l.length
  ·exact h2
  ·rw [List.drop_of_length_le (by omega)] at h; cases h
 have h3 := List.drop_eq_getElem_cons h1
 rw [h3] at h
 injection h with ha hb
 refine ⟨by rw [List.getElem?_eq_getElem h1, ha], h1, hb, ?_⟩
 have := congrArg List.length hb
 rw [List.length_drop] at this; omega
set_option maxHeartbeats 8000000 in
theorem parse34 (s : Tx) (hs : s.length ≤ 8388608) : den Tryz.prog Ob.cfg 34 [dS s] = some (.tuple [aW (prsT s).1.1 (prsT s).1.2, dI (prsT s).2]) := by
 refine den_wp Tryz.func34 rfl (by kernel_rfl) rfl rfl ?_
 unfold prsT
 by_cases h66 : 66 < s.length
 ·have h66' := eq_true (show (s.length : Int) > 66 by omega)
  rw [if_pos h66]
  refine wkc (jn @envOf.eq_1 (jn @envOf.eq_2 (jn @dS.eq_1 (jn @dI.eq_1 (jn @dL.eq_1 (jn @fillV.eq_1 (jn @fillV.eq_2 @h66'))))))) ?_
  show retQ _ _ _ _ _
  exact ⟨.inr rfl, _, _, rfl, rfl⟩
 have h66' := eq_false (show ¬ ((s.length : Int) > 66) by omega)
 rw [if_neg h66]
 have hd0 := run62 s 0 hs (by omega)
 rw [List.drop_zero] at hd0
 have hrl := runB_len s
 have hrd := runB_drop s
 obtain ⟨hd, hhd⟩ : ∃ hd, hd = runB s := ⟨_, rfl⟩
 rw [← hhd] at hd0 hrl hrd ⊢
 simp only [dS, dI, dL] at hd0
 rw [show (((0 : Nat) : Int)) = 0 from rfl] at hd0
 cases hdw : s.dropWhile isB with
 | nil =>
  rw [hdw] at hrd
  have h1 : s.length ≤ hd.length := by
   have := congrArg List.length hrd; rw [List.length_drop] at this; simpa using (show s.length ≤ hd.length by simp at this; omega)
  have h1' := eq_true (show (hd.length : Int) ≥ (s.length : Int) by omega)
  refine wkc (jn @envOf.eq_1 (jn @envOf.eq_2 (jn @dS.eq_1 (jn @dI.eq_1 (jn @dL.eq_1 (jn @fillV.eq_1 (jn @fillV.eq_2 (jn @h66' (jn @hd0 (jn @encT_len @h1')))))))))) ?_
  show retQ _ _ _ _ _
  exact ⟨.inr rfl, _, _, rfl, rfl⟩
 | cons b r =>
  rw [hdw] at hrd
  obtain ⟨q1, q2, q3, q4⟩ := drop_hd hrd
  have h1' := eq_false (show ¬ ((hd.length : Int) ≥ (s.length : Int)) by omega)
  have hix := idx_lt q2
  by_cases hb : b.toNat ≠ 40
  ·have k1 : ((b.toNat : Int) = 40) = False := eq_false (by omega)
   simp only [if_pos hb]
   refine wkc (jn @envOf.eq_1 (jn @envOf.eq_2 (jn @dS.eq_1 (jn @dI.eq_1 (jn @dL.eq_1 (jn @fillV.eq_1 (jn @fillV.eq_2 (jn @h66' (jn @hd0 (jn @encT_len (jn @h1' (jn @hix (jn @q1 (jn @int_bne @k1)))))))))))))) ?_
   show retQ _ _ _ _ _
   exact ⟨.inr rfl, _, _, rfl, rfl⟩
  have hb' : b.toNat = 40 := by omega
  have k1 : ((b.toNat : Int) = 40) = True := eq_true (by omega)
  simp only [if_neg hb]
  have hd1 := run62 s (hd.length + 1) hs (by omega)
  rw [q3] at hd1
  have wl := runB_len r
  have wd := runB_drop r
  obtain ⟨lo, hlo⟩ : ∃ lo, lo = runB r := ⟨_, rfl⟩
  rw [← hlo] at hd1 wl wd ⊢
  simp only [dS, dI, dL, Int.natCast_add, Int.natCast_one] at hd1
  have w1 : IntKind.i64.wrap ((hd.length : Int) + 1) = (hd.length : Int) + 1 := by rw [w_id] <;> omega
  have w2 : IntKind.i64.wrap ((hd.length : Int) + 1 + (lo.length : Int)) = (hd.length : Int) + 1 + (lo.length : Int) := by rw [w_id] <;> omega
  have w3 : IntKind.i64.wrap ((s.length : Int) - 1) = (s.length : Int) - 1 := by rw [w_id] <;> omega
  have hck := check63 hd lo (by omega)
  simp only [aW, dL, dI] at hck
  cases hdv : r.dropWhile isB with
  | nil =>
   rw [hdv] at wd
   have h2 : r.length ≤ lo.length := by
    have := congrArg List.length wd; rw [List.length_drop] at this; simp at this; omega
   have h2' := eq_false (show ¬ ((hd.length : Int) + 1 + (lo.length : Int) = (s.length : Int) - 1) by omega)
   refine wkc (jn @envOf.eq_1 (jn @envOf.eq_2 (jn @dS.eq_1 (jn @dI.eq_1 (jn @dL.eq_1 (jn @fillV.eq_1 (jn @fillV.eq_2 (jn @h66' (jn @hd0 (jn @encT_len (jn @h1' (jn @hix (jn @q1 (jn @int_bne (jn @k1 (jn @hd1 (jn @w1 (jn @w2 (jn @w3 @h2'))))))))))))))))))) ?_
   show retQ _ _ _ _ _
   exact ⟨.inr rfl, _, _, rfl, rfl⟩
  | cons c z =>
   rw [hdv] at wd
   obtain ⟨p1, p2, p3, p4⟩ := drop_hd wd
   by_cases hz : z = []
   ·have h2' := eq_true (show ((hd.length : Int) + 1 + (lo.length : Int) = (s.length : Int) - 1) by rw [hz] at p4; simp at p4; omega)
    have hs2 : s[hd.length + 1 + lo.length]? = some c := by rw [← q3, List.getElem?_drop] at p1; exact p1
    have hix2 : idx ((hd.length : Int) + 1 + (lo.length : Int)) s.length = some (hd.length + 1 + lo.length) := by have := idx_lt (show hd.length + 1 + lo.length < s.length by omega); simpa using this
    have hl1 := eq_true (show (s.length : Int) - 1 = (hd.length : Int) + 1 + (lo.length : Int) by rw [hz] at p4; simp at p4; omega)
    by_cases hc : c.toNat = 41
    ·have k2 : ((c.toNat : Int) = 41) = True := eq_true (by omega)
     by_cases hlo0 : lo = []
     ·have hck5 : ckW hd lo = 5 := by unfold ckW; rw [if_pos hlo0]
      rw [hck5] at hck
      simp only [if_pos (show z ≠ [] ∨ c.toNat ≠ 41 ∨ lo = [] from Or.inr (Or.inr hlo0))]
      refine wkc (jn @envOf.eq_1 (jn @envOf.eq_2 (jn @dS.eq_1 (jn @dI.eq_1 (jn @dL.eq_1 (jn @fillV.eq_1 (jn @fillV.eq_2 (jn @h66' (jn @hd0 (jn @encT_len (jn @h1' (jn @hix (jn @q1 (jn @int_bne (jn @k1 (jn @hd1 (jn @w1 (jn @w2 (jn @w3 (jn @h2' (jn @hix2 (jn @hs2 (jn @k2 @hck))))))))))))))))))))))) ?_
      show retQ _ _ _ _ _
      exact ⟨.inr rfl, _, _, rfl, rfl⟩
     ·have hck5 : ckW hd lo = 0 := by unfold ckW; rw [if_neg hlo0, if_neg (by omega)]
      rw [hck5] at hck
      simp only [if_neg (show ¬ (z ≠ [] ∨ c.toNat ≠ 41 ∨ lo = []) by rintro (h | h | h); exact h hz; exact h hc; exact hlo0 h)]
      refine wkc (jn @envOf.eq_1 (jn @envOf.eq_2 (jn @dS.eq_1 (jn @dI.eq_1 (jn @dL.eq_1 (jn @fillV.eq_1 (jn @fillV.eq_2 (jn @h66' (jn @hd0 (jn @encT_len (jn @h1' (jn @hix (jn @q1 (jn @int_bne (jn @k1 (jn @hd1 (jn @w1 (jn @w2 (jn @w3 (jn @h2' (jn @hix2 (jn @hs2 (jn @k2 @hck))))))))))))))))))))))) ?_
      show retQ _ _ _ _ _
      exact ⟨.inr rfl, _, _, rfl, rfl⟩
    ·have k2 : ((c.toNat : Int) = 41) = False := eq_false (by omega)
     simp only [if_pos (show z ≠ [] ∨ c.toNat ≠ 41 ∨ lo = [] from Or.inr (Or.inl hc))]
     refine wkc (jn @envOf.eq_1 (jn @envOf.eq_2 (jn @dS.eq_1 (jn @dI.eq_1 (jn @dL.eq_1 (jn @fillV.eq_1 (jn @fillV.eq_2 (jn @h66' (jn @hd0 (jn @encT_len (jn @h1' (jn @hix (jn @q1 (jn @int_bne (jn @k1 (jn @hd1 (jn @w1 (jn @w2 (jn @w3 (jn @h2' (jn @hix2 (jn @hs2 @k2)))))))))))))))))))))) ?_
     show retQ _ _ _ _ _
     exact ⟨.inr rfl, _, _, rfl, rfl⟩
   ·have hz' : 0 < z.length := List.length_pos_iff.2 hz
    have h2' := eq_false (show ¬ ((hd.length : Int) + 1 + (lo.length : Int) = (s.length : Int) - 1) by omega)
    simp only [if_pos (show z ≠ [] ∨ c.toNat ≠ 41 ∨ lo = [] from Or.inl hz)]
    refine wkc (jn @envOf.eq_1 (jn @envOf.eq_2 (jn @dS.eq_1 (jn @dI.eq_1 (jn @dL.eq_1 (jn @fillV.eq_1 (jn @fillV.eq_2 (jn @h66' (jn @hd0 (jn @encT_len (jn @h1' (jn @hix (jn @q1 (jn @int_bne (jn @k1 (jn @hd1 (jn @w1 (jn @w2 (jn @w3 @h2'))))))))))))))))))) ?_
    show retQ _ _ _ _ _
    exact ⟨.inr rfl, _, _, rfl, rfl⟩
end Go.Ac
end

section
set_option maxRecDepth 4000
namespace Go.Ac
open Go.Proofs
attribute [local simp] Hp.get_set get_trunc_lt
/-- A list in memory whose cells close: data. -/
theorem close_osl {look : Look} {id g n sz : Nat} {ro : Bool} {cap : Option Nat} {cs : List V} {ds : List D} {ids : List Nat} {rows : List (List D)} (hl : look id = some ⟨g, ro, cs⟩)
  (hn : n * sz ≤ cs.length) (hd : ∀ f, toDs (toD look f) (cs.take (n * sz)) = some (ds, ids)) (hc : chunk sz n ds = rows) : closeT look (.osl id g 0 n sz cap) = some (dL rows, id :: ids) := by
 show ofD (toD look depthD _) = _
 rw [toD_dep]
 have : live look id g = some ⟨g, ro, cs⟩ := by simp [live, hl]
 rw [this]
 simp only [Nat.zero_add, List.drop_zero, nble_d, hn, decide_true, hd, hc]
 rfl
theorem xIf_cells (a b c : X) : (xIf a b c).cells = [.int .i64 4, .int .i64 0, .int .i64 0, .int .i64 0, .str [], .slice (encX [a, b, c])] := by unfold xIf; simp [X.cells]
theorem kf40 (r : Nat) : Ob.keep 40 r = Ob.k40 r := by kernel_rfl
attribute [local simp] kf40 Ob.k40
set_option maxHeartbeats 8000000 in
theorem word40 (q : Nq) (hd lo : List Bool) (c : Tx) (e : Int) (hn : 0 < (hd ++ lo).length) (hl : (hd ++ lo).length ≤ 8388608) (hp : den Tryz.prog Ob.cfg 34 [dS q.node] = some (.tuple [aW hd lo, dI e])) :
  den Tryz.prog Ob.cfg 40 [aG q.cells, dS c] = some (dL (encY (wdY hd lo (lfQ q) c))) := by
 have hlf := left20 q
 obtain ⟨nm, hnm⟩ : ∃ nm, lfQ q = nm := ⟨_, rfl⟩
 rw [hnm] at hlf ⊢
 have fa := fun look => rows_fl look (encT_row hd)
 have fb := fun look => rows_fl look (encT_row lo)
 have la := fl_len (encT_row hd)
 have lb := fl_len (encT_row lo)
 have ra := fl_take (encT_row hd)
 have rb := fl_take (encT_row lo)
 rw [encT_len, Nat.mul_one] at la lb ra rb
 simp only [encT_len] at fa fb
 have k1 := fl_app (encT hd) (encT lo)
 rw [encT_app] at k1
 have hbl : ∀ n : Nat, Nat.ble n n = true := fun n => by rw [Nat.ble_eq]; exact Nat.le_refl n
 have hll : (hd ++ lo).length = hd.length + lo.length := List.length_append
 refine den_wp Tryz.func40 rfl (by kernel_rfl) rfl rfl ?_
 simp only [dI, dL, dS, aG, aW, Nq.cells, List.map_cons, List.map_nil] at hp hlf
 refine wkc (jn @envOf.eq_1 (jn @envOf.eq_2 (jn @aG.eq_1 (jn @Nq.cells.eq_1 (jn @dS.eq_1 (jn @hp (jn @fillV.eq_1 @fillV.eq_2))))))) ?_
 have f3 : fitsB (hd.length + lo.length) 1 = true := by simp [fitsB]; omega
 rcases (show hd = [] ∨ hd ≠ [] by by_cases h : hd = []; exact .inl h; exact .inr h) with h0 | h0
 have n0 : encT hd = [] := by rw [h0]; rfl
 have hz : 0 < lo.length := by rw [h0] at hn; simpa using hn
 have hb0 : Nat.ble lo.length 0 = false := by cases lo with | nil => simp at hz | cons _ _ => rfl
 have f1 : fitsB lo.length 1 = true := by rw [h0] at f3; simpa using f3
 repeat (first
 | apply WP.seq
 | (apply WP.reg; (case hR => dsimp only [prepL, prepO, List.map, gS, gZ]; exact iZ); (case hr => (repeat (first
 | (apply RT.op; simp [dL, closeParts, fillV, hbl, n0, fl_nil, fb, lb, hb0, f1, rb]; exact iZ; (try dsimp only [putEnv]) <;> exact rfl)
 | (apply RT.call; (iterate 2 simp; exact iZ); exact iZ; (iterate 4 simp [dL, closeParts, fillV, hbl, n0, fl_nil, fb, lb, hb0, f1, rb]; exact iZ); simp [Is]; (try dsimp only [putEnv]) <;> exact rfl; simp; exact iZ; simp; exact iZ)
 | (apply RT.wr; simp [dL, closeParts, fillV, hbl, n0, fl_nil, fb, lb, hb0, f1, rb]; exact iZ; (try dsimp only [putEnv]) <;> exact rfl; simp [dL, closeParts, fillV, hbl, n0, fl_nil, fb, lb, hb0, f1, rb]; exact iZ; (iterate 2 exact iZ); simp; exact iZ))); exact RT.nil); (case hc => first | (refine checkR_un [(0, 1), (0, 2), (0, 4), (1, 4), (2, 4), (3, 4), (0, 5), (1, 5), (2, 5), (3, 5)] (by kernel_rfl) (by kernel_rfl) rfl ?_; simp [memA, disj, nbeq_dec]; done) | (show _ = _; kernel_rfl)); (case ht => simp [dL, closeParts, fillV, hbl, n0, fl_nil, fb, lb, hb0, f1, rb]; exact iZ))
 | apply WP.block | apply WP.skip | apply WP.exit | apply WP.ret | refine WP.condT rfl ?_ | refine WP.condF rfl ?_)
 apply WP.gen3
 intro hp5 c5 wl5 hhp hwl
 have hw5 : wl5 = [] := hwl
 subst hw5
 have hx0 : hp5.get 0 = some ⟨0, false, [.d (.int .i64 q.k), .d (.slice (encS q.left)), .d (.int .i64 q.r.k), .d (.int .i64 q.r.o), .d (.int .i64 q.r.t), .d (.int .i64 q.r.v), .d (.str q.r.nm), .d (.slice (encX q.r.args)), .d (.int .i64 q.ini), .d (.str q.node), .d (.slice (encX q.args)), .d (.str q.ev), .d (.slice (encO q.ck))]⟩ := by rw [hhp]; rfl
 have hx1 : hp5.get 1 = some ⟨1, false, [.d (.slice (encT hd)), .d (.slice (encT lo))]⟩ := by rw [hhp, n0]; rfl
 obtain ⟨l, g, hl9, hg9, hx3⟩ : ∃ l g, hd ++ lo = l ∧ g = 3 ∧ hp5.get 3 = some ⟨g, false, fl (encT l)⟩ := ⟨_, _, rfl, rfl, by rw [hhp, h0]; rfl⟩
 have hl8 : lo.length = l.length := by rw [← hl9, h0]; simp
 refine WP.st_eq2 (s' := ⟨[(1, dS c), (2, .ptr 0 0 0), (5, .ptr 1 1 0), (7, .osl 3 g 0 l.length 1 none)], hp5, 4, c5, 0, []⟩) (by rw [← hl8, hg9]; rfl) ?_
 clear hhp
 rotate_left
 have hz : 0 < hd.length := List.length_pos_iff.2 h0
 have hb0 : Nat.ble hd.length 0 = false := by cases hd with | nil => simp at hz | cons _ _ => rfl
 have f1 : fitsB hd.length 1 = true := by simp [fitsB]; omega
 repeat (first
 | apply WP.seq
 | (apply WP.reg; (case hR => dsimp only [prepL, prepO, List.map, gS, gZ]; exact iZ); (case hr => (repeat (first
 | (apply RT.op; simp [dL, closeParts, fillV, hbl, fa, fb, la, lb, hb0, f1, f3, ra, rb, k1]; exact iZ; (try dsimp only [putEnv]) <;> exact rfl)
 | (apply RT.call; (iterate 2 simp; exact iZ); exact iZ; (iterate 4 simp [dL, closeParts, fillV, hbl, fa, fb, la, lb, hb0, f1, f3, ra, rb, k1]; exact iZ); simp [Is]; (try dsimp only [putEnv]) <;> exact rfl; simp; exact iZ; simp; exact iZ)
 | (apply RT.wr; simp [dL, closeParts, fillV, hbl, fa, fb, la, lb, hb0, f1, f3, ra, rb, k1]; exact iZ; (try dsimp only [putEnv]) <;> exact rfl; simp [dL, closeParts, fillV, hbl, fa, fb, la, lb, hb0, f1, f3, ra, rb, k1]; exact iZ; (iterate 2 exact iZ); simp; exact iZ))); exact RT.nil); (case hc => first | (refine checkR_un [(0, 1), (0, 2), (0, 4), (1, 4), (2, 4), (3, 4), (0, 5), (1, 5), (2, 5), (3, 5)] (by kernel_rfl) (by kernel_rfl) rfl ?_; simp [memA, disj, nbeq_dec]; done) | (show _ = _; kernel_rfl)); (case ht => simp [dL, closeParts, fillV, hbl, fa, fb, la, lb, hb0, f1, f3, ra, rb, k1]; exact iZ))
 | apply WP.block | apply WP.skip | apply WP.exit | apply WP.ret | refine WP.condT rfl ?_ | refine WP.condF rfl ?_)
 apply WP.gen3
 intro hp5 c5 wl5 hhp hwl
 have hw5 : wl5 = [] := hwl
 subst hw5
 have hx0 : hp5.get 0 = some ⟨0, false, [.d (.int .i64 q.k), .d (.slice (encS q.left)), .d (.int .i64 q.r.k), .d (.int .i64 q.r.o), .d (.int .i64 q.r.t), .d (.int .i64 q.r.v), .d (.str q.r.nm), .d (.slice (encX q.r.args)), .d (.int .i64 q.ini), .d (.str q.node), .d (.slice (encX q.args)), .d (.str q.ev), .d (.slice (encO q.ck))]⟩ := by rw [hhp]; rfl
 have hx1 : hp5.get 1 = some ⟨1, false, [.d (.slice (encT hd)), .d (.slice (encT lo))]⟩ := by rw [hhp]; rfl
 obtain ⟨l, g, hl9, hg9, hx3⟩ : ∃ l g, hd ++ lo = l ∧ g = 4 ∧ hp5.get 3 = some ⟨g, false, fl (encT l)⟩ := ⟨_, _, rfl, rfl, by rw [hhp]; rfl⟩
 have hl8 : hd.length + lo.length = l.length := by rw [← hl9]; simp
 refine WP.st_eq2 (s' := ⟨[(1, dS c), (2, .ptr 0 0 0), (5, .ptr 1 1 0), (7, .osl 3 g 0 l.length 1 none)], hp5, 4, c5, 0, []⟩) (by rw [← hl8, hg9]; rfl) ?_
 clear hhp
 rotate_left
 all_goals
  unfold wdY stepX
  rw [hl9] at hn hl ⊢
  have e1 := fun (look : Look) (h : look 3 = some ⟨g, false, fl (encT l)⟩) => (show toD look depthD (.osl 3 g 0 l.length 1 none) = some (.slice (encT l), [3]) by have := toD_fl (cap := none) (encT_row l) h; rwa [encT_len] at this)
  have hlt := letters67 c l hl l.length 0 l.length hn (Nat.le_refl _) (by omega)
  rw [Nat.sub_zero, List.drop_zero, List.take_length] at hlt
  rw [show ((0 : Nat) : Int) = 0 from rfl] at hlt
  have hw : IntKind.i64.wrap ((l.length : Int) - 1) = (l.length : Int) - 1 := by rw [w_id] <;> omega
  have d1 := mem21 c
  have d2 := num66 ((l.length : Int) - 1)
  have d3 := op65 11 (xSt c) (xNum ((l.length : Int) - 1))
  obtain ⟨u, hu⟩ : ∃ u, u = ltX c l.length 0 l := ⟨_, rfl⟩
  rw [← hu] at hlt ⊢
  have d4 := num66 (hd.length : Int)
  have d5 := num66 1
  have d6 := op65 6 (xSt c) (xNum 1)
  obtain ⟨w1, hw1⟩ : ∃ w, w = xOp 11 (xSt c) (xNum ((l.length : Int) - 1)) := ⟨_, rfl⟩
  obtain ⟨w2, hw2⟩ : ∃ w, w = xOp 6 (xSt c) (xNum 1) := ⟨_, rfl⟩
  rw [← hw1] at d3 ⊢
  rw [← hw2] at d6 ⊢
  simp only [dI, dL, dS, aG, X.cells_eq, List.map_cons, List.map_nil] at hlt d1 d2 d3 d4 d5 d6
  repeat (first
 | apply WP.seq
 | (apply WP.reg; (case hR => dsimp only [prepL, prepO, List.map, gS, gZ]; exact iZ); (case hr => (repeat (first
 | (apply RT.op; simp [dS, dL, dI, fillV, closeParts, cl2, toD_dep, toD_d, toD_full, toDs, chunk, hw, d1, d2, d3, d4, d5, d6, hlt, hlf, hx0, hx1, hx3, e1, encT_len]; exact iZ; (try dsimp only [putEnv]) <;> exact rfl)
 | (apply RT.call; (iterate 2 simp; exact iZ); exact iZ; (iterate 4 simp [dS, dL, dI, fillV, closeParts, cl2, toD_dep, toD_d, toD_full, toDs, chunk, hw, d1, d2, d3, d4, d5, d6, hlt, hlf, hx0, hx1, hx3, e1, encT_len]; exact iZ); simp [Is]; (try dsimp only [putEnv]) <;> exact rfl; simp; exact iZ; simp; exact iZ)
 | (apply RT.wr; simp [dS, dL, dI, fillV, closeParts, cl2, toD_dep, toD_d, toD_full, toDs, chunk, hw, d1, d2, d3, d4, d5, d6, hlt, hlf, hx0, hx1, hx3, e1, encT_len]; exact iZ; (try dsimp only [putEnv]) <;> exact rfl; simp [dS, dL, dI, fillV, closeParts, cl2, toD_dep, toD_d, toD_full, toDs, chunk, hw, d1, d2, d3, d4, d5, d6, hlt, hlf, hx0, hx1, hx3, e1, encT_len]; exact iZ; (iterate 2 exact iZ); simp; exact iZ))); exact RT.nil); (case hc => first | (refine checkR_un [(0, 2), (1, 2), (0, 3), (1, 3), (2, 3), (0, 4), (1, 4), (2, 4), (0, 5), (1, 5), (2, 5), (3, 5), (4, 5), (0, 8), (1, 8), (2, 8), (3, 8), (4, 8), (5, 8), (6, 8), (7, 8), (0, 9), (1, 9), (2, 9), (3, 9), (4, 9), (5, 9), (6, 9), (7, 9), (8, 9), (0, 10), (1, 10), (2, 10), (3, 10), (4, 10), (5, 10), (6, 10), (7, 10)] (by kernel_rfl) (by kernel_rfl) rfl ?_; simp [memA, disj, nbeq_dec]; done) | (show _ = _; kernel_rfl)); (case ht => simp [dS, dL, dI, fillV, closeParts, cl2, toD_dep, toD_d, toD_full, toDs, chunk, hw, d1, d2, d3, d4, d5, d6, hlt, hlf, hx0, hx1, hx3, e1, encT_len]; exact iZ))
 | apply WP.block | apply WP.skip | apply WP.exit | apply WP.ret | refine WP.condT rfl ?_ | refine WP.condF rfl ?_)
  refine ⟨.inr rfl, [.osl 6 (c5 + 2) 0 2 12 (some 2)], [6], ?_, ?_⟩
  ·show resultsV Tryz.prog _ [_] = _
   simp [resultsV, resultV]
  ·refine close_osl (ro := false) (Hp.get_set_self _ _ _) (by simp) (fun f => by simp only [List.take, toDs, toD_d, toD_full]; rfl) ?_
   simp only [encY_map, List.map_cons, List.map_nil, Y.cells, xIf_cells, X.cells_eq u, encX_map [w1, xNum hd.length, w2], X.cells_eq w1, X.cells_eq w2, X.cells_eq (xNum hd.length)]
   simp [chunk, encS, encX_map, encB_map]
end Go.Ac
end

section
set_option maxRecDepth 4000
namespace Go.Ac
open Go.Proofs
attribute [local simp] Hp.get_set get_trunc_lt
/-- A text cut at its first opening bracket. -/
def cutS : Tx → Tx × Tx × Bool
 | [] => ([], [], false)
 | x :: r => if x = 40 then ([], r, true) else (x :: (cutS r).1, (cutS r).2.1, (cutS r).2.2)
theorem cutS_idx : ∀ s : Tx, idxByte s 40 = (if (cutS s).2.2 = true then ((cutS s).1.length : Int) else -1) ∧ ((cutS s).2.2 = true → s = (cutS s).1 ++ 40 :: (cutS s).2.1) ∧ ((cutS s).2.2 = false → (cutS s).1 = s ∧ (cutS s).2.1 = []) := by
 have e40 : ∀ x : UInt8, (x == (Int.toNat (40 : Int)).toUInt8) = decide (x = 40) := fun x => by
  show (x == (40 : UInt8)) = _
  by_cases h : x = 40 <;> simp [h]
 intro s
 induction s with
 | nil => exact ⟨rfl, by simp [cutS], by simp [cutS]⟩
 | cons x r ih =>
  obtain ⟨h1, h2, h3⟩ := ih
  by_cases h : x = 40
  ·have e : cutS (x :: r) = ([], r, true) := by rw [cutS, if_pos h]
   rw [e]
   refine ⟨?_, fun _ => by rw [h]; rfl, by simp⟩
   unfold idxByte
   rw [List.findIdx?_cons, e40, decide_eq_true h]; rfl
  ·have e : cutS (x :: r) = (x :: (cutS r).1, (cutS r).2.1, (cutS r).2.2) := by rw [cutS, if_neg h]
   rw [e]
   refine ⟨?_, fun hq => by rw [List.cons_append, ← h2 hq], fun hq => ⟨by simp only; rw [(h3 hq).1], (h3 hq).2⟩⟩
   unfold idxByte at h1 ⊢
   rw [List.findIdx?_cons, e40, decide_eq_false h]
   simp only [Bool.false_eq_true, if_false]
   cases hf : r.findIdx? (fun x => x == (Int.toNat (40 : Int)).toUInt8) with
   | none =>
    rw [hf] at h1
    simp only at h1
    by_cases hq : (cutS r).2.2 = true
    ·rw [if_pos hq] at h1; omega
    ·rw [if_neg hq]; rfl
   | some i =>
    rw [hf] at h1
    simp only at h1
    by_cases hq : (cutS r).2.2 = true
    ·rw [if_pos hq] at h1 ⊢; simp; omega
    ·rw [if_neg hq] at h1; omega
theorem kf84 (r : Nat) : Ob.keep 84 r = Ob.k84 r := by kernel_rfl
theorem kf69 (r : Nat) : Ob.keep 69 r = Ob.k69 r := by kernel_rfl
theorem kf46 (r : Nat) : Ob.keep 46 r = Ob.k46 r := by kernel_rfl
theorem kf85 (r : Nat) : Ob.keep 85 r = Ob.k85 r := by kernel_rfl
theorem kf70 (r : Nat) : Ob.keep 70 r = Ob.k70 r := by kernel_rfl
theorem kf47 (r : Nat) : Ob.keep 47 r = Ob.k47 r := by kernel_rfl
theorem kf30 (r : Nat) : Ob.keep 30 r = Ob.k30 r := by kernel_rfl
attribute [local simp] kf84 Ob.k84 kf69 Ob.k69 kf46 Ob.k46 kf85 Ob.k85 kf70 Ob.k70 kf47 Ob.k47 kf30 Ob.k30
set_option maxHeartbeats 4000000 in
theorem index84 (s : Tx) (hs : s.length ≤ 8388608) : den Tryz.prog Ob.cfg 84 [dS s, dS [40]] = some (dI (idxByte s 40)) := by
 refine den_wp Tryz.func84 rfl (by kernel_rfl) rfl rfl ?_
 have h40 : (UInt8.toNat 40 : Int) = 40 := rfl
 by_cases h : s = [40]
 ·subst h
  refine wkc (jn @envOf.eq_1 (jn @envOf.eq_2 (jn @dS.eq_1 (jn @dI.eq_1 @tx_beq)))) ?_
  show retQ _ _ _ _ _
  exact ⟨.inr rfl, _, _, rfl, rfl⟩
 ·have h' := eq_false (show ¬ (([40] : Tx) = s) from fun h2 => h h2.symm)
  refine wkc (jn @envOf.eq_1 (jn @envOf.eq_2 (jn @dS.eq_1 (jn @dI.eq_1 (jn @tx_beq (jn @h' @h40)))))) ?_
  show retQ _ _ _ _ _
  exact ⟨.inr rfl, _, _, rfl, rfl⟩
theorem bnd0 (s : Tx) : s.take s.length = s := List.take_length
set_option maxHeartbeats 4000000 in
theorem cut69 (s : Tx) (hs : s.length ≤ 8388608) : den Tryz.prog Ob.cfg 69 [dS s, dS [40]] = some (.tuple [dS (cutS s).1, dS (cutS s).2.1, dB (cutS s).2.2]) := by
 refine den_wp Tryz.func69 rfl (by kernel_rfl) rfl rfl ?_
 obtain ⟨h1, h2, h3⟩ := cutS_idx s
 have hd := index84 s hs
 rw [h1] at hd
 obtain ⟨w, hc⟩ : ∃ w, cutS s = w := ⟨_, rfl⟩
 rw [hc] at hd h2 h3 ⊢
 obtain ⟨a, b, f⟩ := w
 cases f with
 | true =>
  have h2 := h2 rfl
  simp only [if_true] at hd h2 ⊢
  simp only [dS, dI] at hd
  have k1 := eq_true (show (a.length : Int) ≥ 0 by omega)
  have hl : s.length = a.length + 1 + b.length := by rw [h2]; simp; omega
  have w1 : IntKind.i64.wrap ((a.length : Int) + 1) = ((a.length + 1 : Nat) : Int) := by rw [w_id] <;> omega
  have k2 : ∀ n : Nat, (0 ≤ (n : Int)) = True := fun n => by simp
  have k3 := eq_true (show a.length ≤ s.length by omega)
  have k5 := eq_true (show 0 ≤ (a.length : Int) + 1 by omega)
  have k4 := eq_true (show a.length + 1 ≤ s.length by omega)
  have t1 : s.take a.length = a := by rw [h2, List.take_left']; rfl
  have t2 : s.drop (a.length + 1) = b := by rw [h2, ← List.drop_drop, List.drop_left']; rfl; rfl
  refine wkc (jn @envOf.eq_1 (jn @envOf.eq_2 (jn @dS.eq_1 (jn @dI.eq_1 (jn @dB.eq_1 (jn @hd (jn @k1 (jn @w1 (jn @sliceV.eq_def (jn @bnd.eq_def (jn @Int.toNat_natCast (jn @k2 (jn @k3 (jn @k4 (jn @k5 (jn @t1 (jn @t2 @bnd0))))))))))))))))) ?_
  show retQ _ _ _ _ _
  exact ⟨.inr rfl, _, _, rfl, rfl⟩
 | false =>
  obtain ⟨h4, h5⟩ := h3 rfl
  simp only [Bool.false_eq_true, if_false] at hd h4 h5 ⊢
  simp only [dS, dI] at hd
  rw [h4, h5]
  refine wkc (jn @envOf.eq_1 (jn @envOf.eq_2 (jn @dS.eq_1 (jn @dI.eq_1 (jn @dB.eq_1 @hd))))) ?_
  show retQ _ _ _ _ _
  exact ⟨.inr rfl, _, _, rfl, rfl⟩
theorem cut46 (s : Tx) (hs : s.length ≤ 8388608) : den Tryz.prog Ob.cfg 46 [dS s, dS [40]] = some (.tuple [dS (cutS s).1, dS (cutS s).2.1, dB (cutS s).2.2]) := by
 refine den_wp Tryz.func46 rfl (by kernel_rfl) rfl rfl ?_
 have hd := cut69 s hs
 simp only [dS, dI, dB] at hd
 refine wkc (jn @envOf.eq_1 (jn @envOf.eq_2 (jn @dS.eq_1 (jn @dI.eq_1 (jn @dB.eq_1 @hd))))) ?_
 show retQ _ _ _ _ _
 exact ⟨.inr rfl, _, _, rfl, rfl⟩
/-- A text cut at its last closing bracket. -/
def sufS (s : Tx) : Tx × Bool := if 0 < s.length ∧ s.drop (s.length - 1) = [41] then (s.take (s.length - 1), true) else (s, false)
set_option maxHeartbeats 4000000 in
theorem suffix85 (s : Tx) (hs : s.length ≤ 8388608) : den Tryz.prog Ob.cfg 85 [dS s, dS [41]] = some (dB (sufS s).2) := by
 refine den_wp Tryz.func85 rfl (by kernel_rfl) rfl rfl ?_
 unfold sufS
 by_cases h0 : 0 < s.length
 ·have k0 := eq_true (show (s.length : Int) ≥ 1 by omega)
  have w1 : IntKind.i64.wrap ((s.length : Int) - 1) = ((s.length - 1 : Nat) : Int) := by rw [w_id] <;> omega
  have k2 : ∀ n : Nat, (0 ≤ (n : Int)) = True := fun n => by simp
  have k3 := eq_true (show s.length - 1 ≤ s.length by omega)
  by_cases h : s.drop (s.length - 1) = [41]
  ·have h' := eq_true h
   rw [if_pos ⟨h0, h⟩]
   refine wkc (jn @envOf.eq_1 (jn @envOf.eq_2 (jn @dS.eq_1 (jn @dI.eq_1 (jn @dB.eq_1 (jn @k0 (jn @w1 (jn @sliceV.eq_def (jn @bnd.eq_def (jn @Int.toNat_natCast (jn @k2 (jn @k3 (jn @bnd0 (jn @tx_beq @h')))))))))))))) ?_
   show retQ _ _ _ _ _
   exact ⟨.inr rfl, _, _, rfl, rfl⟩
  ·have h' := eq_false h
   rw [if_neg fun h2 => h h2.2]
   refine wkc (jn @envOf.eq_1 (jn @envOf.eq_2 (jn @dS.eq_1 (jn @dI.eq_1 (jn @dB.eq_1 (jn @k0 (jn @w1 (jn @sliceV.eq_def (jn @bnd.eq_def (jn @Int.toNat_natCast (jn @k2 (jn @k3 (jn @bnd0 (jn @tx_beq @h')))))))))))))) ?_
   show retQ _ _ _ _ _
   exact ⟨.inr rfl, _, _, rfl, rfl⟩
 ·have k0 := eq_false (show ¬ ((s.length : Int) ≥ 1) by omega)
  rw [if_neg fun h2 => h0 h2.1]
  refine wkc (jn @envOf.eq_1 (jn @envOf.eq_2 (jn @dS.eq_1 (jn @dI.eq_1 (jn @dB.eq_1 @k0))))) ?_
  show retQ _ _ _ _ _
  exact ⟨.inr rfl, _, _, rfl, rfl⟩
set_option maxHeartbeats 4000000 in
theorem suffix70 (s : Tx) (hs : s.length ≤ 8388608) : den Tryz.prog Ob.cfg 70 [dS s, dS [41]] = some (.tuple [dS (sufS s).1, dB (sufS s).2]) := by
 refine den_wp Tryz.func70 rfl (by kernel_rfl) rfl rfl ?_
 have hd := suffix85 s hs
 unfold sufS at hd ⊢
 by_cases h : 0 < s.length ∧ s.drop (s.length - 1) = [41]
 ·rw [if_pos h] at hd ⊢
  simp only [dS, dB] at hd
  have w1 : IntKind.i64.wrap ((s.length : Int) - 1) = ((s.length - 1 : Nat) : Int) := by rw [w_id] <;> omega
  have k2 : ∀ n : Nat, (0 ≤ (n : Int)) = True := fun n => by simp
  have k3 := eq_true (show s.length - 1 ≤ s.length by omega)
  refine wkc (jn @envOf.eq_1 (jn @envOf.eq_2 (jn @dS.eq_1 (jn @dI.eq_1 (jn @dB.eq_1 (jn @hd (jn @w1 (jn @sliceV.eq_def (jn @bnd.eq_def (jn @Int.toNat_natCast (jn @k2 @k3))))))))))) ?_
  show retQ _ _ _ _ _
  exact ⟨.inr rfl, _, _, rfl, rfl⟩
 ·rw [if_neg h] at hd ⊢
  simp only [dS, dB] at hd
  refine wkc (jn @envOf.eq_1 (jn @envOf.eq_2 (jn @dS.eq_1 (jn @dI.eq_1 (jn @dB.eq_1 @hd))))) ?_
  show retQ _ _ _ _ _
  exact ⟨.inr rfl, _, _, rfl, rfl⟩
theorem suffix47 (s : Tx) (hs : s.length ≤ 8388608) : den Tryz.prog Ob.cfg 47 [dS s, dS [41]] = some (.tuple [dS (sufS s).1, dB (sufS s).2]) := by
 refine den_wp Tryz.func47 rfl (by kernel_rfl) rfl rfl ?_
 have hd := suffix70 s hs
 simp only [dS, dI, dB] at hd
 refine wkc (jn @envOf.eq_1 (jn @envOf.eq_2 (jn @dS.eq_1 (jn @dI.eq_1 (jn @dB.eq_1 @hd))))) ?_
 show retQ _ _ _ _ _
 exact ⟨.inr rfl, _, _, rfl, rfl⟩
theorem cutS_len (s : Tx) : (cutS s).1.length ≤ s.length ∧ (cutS s).2.1.length ≤ s.length := by
 obtain ⟨_, h2, h3⟩ := cutS_idx s
 cases hf : (cutS s).2.2 with
 | true => have := congrArg List.length (h2 hf); rw [List.length_append, List.length_cons] at this; omega
 | false => obtain ⟨h4, h5⟩ := h3 hf; rw [h4, h5]; simp
theorem sufS_len (s : Tx) : (sufS s).1.length ≤ s.length := by
 unfold sufS; split
 ·simp
 ·simp
theorem cut_dw : ∀ s : Tx, if (cutS s).2.2 = true ∧ (cutS s).1.all isB = true then s.takeWhile isB = (cutS s).1 ∧ s.dropWhile isB = 40 :: (cutS s).2.1 else ∀ b r, s.dropWhile isB = b :: r → b.toNat ≠ 40
 | [] => by rw [if_neg (by simp [cutS])]; intro b r h; cases h
 | x :: r => by
  have ih := cut_dw r
  by_cases h : x = 40
  ·have e : cutS (x :: r) = ([], r, true) := by rw [cutS, if_pos h]
   have hx : isB x = false := by rw [h]; rfl
   rw [e, if_pos ⟨rfl, rfl⟩, List.takeWhile_cons_of_neg (by simp [hx]), List.dropWhile_cons_of_neg (by simp [hx]), h]
   exact ⟨rfl, rfl⟩
  ·have e : cutS (x :: r) = (x :: (cutS r).1, (cutS r).2.1, (cutS r).2.2) := by rw [cutS, if_neg h]
   rw [e]
   cases hx : isB x with
   | true =>
    rw [List.takeWhile_cons_of_pos hx, List.dropWhile_cons_of_pos hx]
    simp only [List.all_cons, hx, Bool.true_and]
    by_cases h2 : (cutS r).2.2 = true ∧ (cutS r).1.all isB = true
    ·rw [if_pos h2] at ih ⊢; exact ⟨by rw [ih.1], ih.2⟩
    ·rw [if_neg h2] at ih ⊢; exact ih
   | false =>
    rw [if_neg (by simp [hx]), List.dropWhile_cons_of_neg (by simp [hx])]
    intro b z hz
    injection hz with h3 h4
    subst h3
    intro h5
    exact h (UInt8.toNat_inj.1 h5)
theorem dw_app {α : Type} {p : α → Bool} (b : α) (hb : p b = false) : ∀ l : List α, (l.all p = true → (l ++ [b]).dropWhile p = [b] ∧ (l ++ [b]).takeWhile p = l) ∧ (l.all p = false → ∃ c y z, (l ++ [b]).dropWhile p = c :: y :: z)
 | [] => ⟨fun _ => by rw [List.nil_append, List.dropWhile_cons_of_neg (by simp [hb]), List.takeWhile_cons_of_neg (by simp [hb])]; exact ⟨rfl, rfl⟩, by simp⟩
 | x :: r => by
  have ih := dw_app b hb r
  rw [List.cons_append, List.all_cons]
  cases hx : p x with
  | true =>
   rw [List.dropWhile_cons_of_pos hx, List.takeWhile_cons_of_pos hx, Bool.true_and]
   exact ⟨fun h => ⟨(ih.1 h).1, by rw [(ih.1 h).2]⟩, ih.2⟩
  | false =>
   rw [Bool.false_and, List.dropWhile_cons_of_neg (by simp [hx])]
   refine ⟨fun h => absurd h (by simp), fun _ => ?_⟩
   cases r with
   | nil => exact ⟨x, b, [], rfl⟩
   | cons y z => exact ⟨x, y, z ++ [b], rfl⟩
theorem dw_last {α : Type} {p : α → Bool} : ∀ (l : List α) (c : α), l.dropWhile p = [c] → l.drop (l.length - 1) = [c] ∧ 0 < l.length
 | [], c, h => by cases h
 | x :: r, c, h => by
  refine ⟨?_, by simp⟩
  cases hx : p x with
  | true =>
   rw [List.dropWhile_cons_of_pos hx] at h
   obtain ⟨h1, h2⟩ := dw_last r c h
   rw [List.length_cons, Nat.add_sub_cancel, show r.length = r.length - 1 + 1 by omega, List.drop_succ_cons]; exact h1
  | false =>
   rw [List.dropWhile_cons_of_neg (by simp [hx])] at h
   rw [h]; rfl
/-- What the program makes of a text. -/
def prsP (s : Tx) : (List Bool × List Bool) × Int :=
 if 66 < s.length then (([], []), 3) else
 if (cutS s).2.2 = true ∧ (sufS (cutS s).2.1).2 = true ∧ (cutS s).1.all isB = true ∧ (sufS (cutS s).2.1).1.all isB = true ∧ ckW ((cutS s).1.map bitB) ((sufS (cutS s).2.1).1.map bitB) = 0 then (((cutS s).1.map bitB, (sufS (cutS s).2.1).1.map bitB), 0) else (([], []), 5)
theorem prsP_eq (s : Tx) : prsP s = prsT s := by
 unfold prsP prsT
 by_cases h66 : 66 < s.length
 ·rw [if_pos h66, if_pos h66]
 rw [if_neg h66, if_neg h66]
 have h1 := cut_dw s
 obtain ⟨hl1, hl2⟩ := cutS_len s
 obtain ⟨_, hs2, _⟩ := cutS_idx s
 by_cases h2 : (cutS s).2.2 = true ∧ (cutS s).1.all isB = true
 ·rw [if_pos h2] at h1
  rw [h1.2]
  have hs3 := congrArg List.length (hs2 h2.1)
  rw [List.length_append, List.length_cons] at hs3
  have eR : runB s = (cutS s).1.map bitB := by unfold runB; rw [h1.1]
  obtain ⟨r, hr⟩ : ∃ r, (cutS s).2.1 = r := ⟨_, rfl⟩
  rw [hr] at hs3 ⊢
  simp only [show ¬ ((40 : UInt8).toNat ≠ 40) from fun h => h rfl, if_false]
  by_cases h3 : (sufS r).2 = true
  ·have h4 : 0 < r.length ∧ r.drop (r.length - 1) = [41] := by
    unfold sufS at h3; split at h3
    ·assumption
    ·cases h3
   have e1 : (sufS r).1 = r.take (r.length - 1) := by unfold sufS; rw [if_pos h4]
   have e2 : r = (sufS r).1 ++ [41] := by rw [e1, ← h4.2, List.take_append_drop]
   obtain ⟨b, hb⟩ : ∃ b, (sufS r).1 = b := ⟨_, rfl⟩
   rw [hb] at e2 ⊢
   have e3 := dw_app (p := isB) 41 (by rfl) b
   cases hB : b.all isB with
   | true =>
    obtain ⟨e4, e5⟩ := e3.1 hB
    rw [← e2] at e4 e5
    rw [e4]
    have eL : runB r = b.map bitB := by unfold runB; rw [e5]
    by_cases hb0 : b = []
    ·rw [if_neg (by rintro ⟨_, _, _, _, h⟩; rw [hb0] at h; simp [ckW] at h)]
     simp only [eL, hb0]; rw [if_pos (by simp)]
    ·have hck : ckW ((cutS s).1.map bitB) (b.map bitB) = 0 := by
      unfold ckW
      rw [if_neg (by simpa using hb0), if_neg]
      rw [List.length_map, List.length_map]
      have := congrArg List.length e2
      rw [List.length_append] at this; simp at this; omega
     rw [if_pos ⟨h2.1, h3, h2.2, rfl, hck⟩]
     simp only [eL, eR]; rw [if_neg (by simpa using hb0)]
   | false =>
    obtain ⟨c, y, z, e4⟩ := e3.2 hB
    rw [← e2] at e4
    rw [e4, if_neg (by rintro ⟨_, _, _, h, _⟩; cases h)]
    simp
  ·rw [if_neg (by rintro ⟨_, h, _⟩; exact h3 h)]
   cases hd : r.dropWhile isB with
   | nil => rfl
   | cons c z =>
    simp only
    rw [if_pos]
    by_cases hz : z = []
    ·right; left
     intro hc
     rw [hz] at hd
     have hc' : c = 41 := UInt8.toNat_inj.1 hc
     obtain ⟨k1, k2⟩ := dw_last r c hd
     rw [hc'] at k1
     apply h3
     unfold sufS; rw [if_pos ⟨k2, k1⟩]
    ·exact Or.inl hz
 ·rw [if_neg h2] at h1
  rw [if_neg (by rintro ⟨k1, _, k2, _⟩; exact h2 ⟨k1, k2⟩)]
  cases hd : s.dropWhile isB with
  | nil => rfl
  | cons b r =>
   simp only
   rw [if_pos (h1 b r hd)]
set_option maxHeartbeats 8000000 in
theorem parse30 (s : Tx) (hs : s.length ≤ 8388608) : den Tryz.prog Ob.cfg 30 [dS s] = some (.tuple [aW (prsT s).1.1 (prsT s).1.2, dI (prsT s).2]) := by
 rw [← prsP_eq]
 refine den_wp Tryz.func30 rfl (by kernel_rfl) rfl rfl ?_
 unfold prsP
 by_cases h66 : 66 < s.length
 ·have h66' := eq_true (show (s.length : Int) > 66 by omega)
  rw [if_pos h66]
  refine wkc (jn @envOf.eq_1 (jn @envOf.eq_2 (jn @dS.eq_1 (jn @dI.eq_1 (jn @dL.eq_1 (jn @fillV.eq_1 (jn @fillV.eq_2 @h66'))))))) ?_
  show retQ _ _ _ _ _
  exact ⟨.inr rfl, _, _, rfl, rfl⟩
 have h66' := eq_false (show ¬ ((s.length : Int) > 66) by omega)
 rw [if_neg h66]
 obtain ⟨hl1, hl2⟩ := cutS_len s
 have hl3 := sufS_len (cutS s).2.1
 have d1 := cut46 s hs
 have d2 := suffix47 (cutS s).2.1 (by omega)
 have d3 := letters48 (cutS s).1 (by omega)
 have d4 := letters48 (sufS (cutS s).2.1).1 (by omega)
 obtain ⟨w, hc⟩ : ∃ w, cutS s = w := ⟨_, rfl⟩
 rw [hc] at d1 d2 d3 d4 hl1 hl2 hl3 ⊢
 obtain ⟨a, r, is⟩ := w
 simp only at d1 d2 d3 d4 hl1 hl2 hl3 ⊢
 obtain ⟨w, hw⟩ : ∃ w, sufS r = w := ⟨_, rfl⟩
 rw [hw] at d2 d4 hl3 ⊢
 obtain ⟨b, cl⟩ := w
 simp only at d2 d4 hl3 ⊢
 have hck := check49 (a.map bitB) (b.map bitB) (by rw [List.length_map, List.length_map]; omega)
 simp only [dS, dI, dL, dB, aW] at d1 d2 d3 d4 hck
 cases is with
 | false =>
  rw [if_neg (by simp)]
  refine wkc (jn @envOf.eq_1 (jn @envOf.eq_2 (jn @dS.eq_1 (jn @dI.eq_1 (jn @dL.eq_1 (jn @dB.eq_1 (jn @fillV.eq_1 (jn @fillV.eq_2 (jn @h66' (jn @d1 (jn @d2 (jn @d3 @d4)))))))))))) ?_
  show retQ _ _ _ _ _
  exact ⟨.inr rfl, _, _, rfl, rfl⟩
 | true =>
 cases cl with
 | false =>
  rw [if_neg (by simp)]
  refine wkc (jn @envOf.eq_1 (jn @envOf.eq_2 (jn @dS.eq_1 (jn @dI.eq_1 (jn @dL.eq_1 (jn @dB.eq_1 (jn @fillV.eq_1 (jn @fillV.eq_2 (jn @h66' (jn @d1 (jn @d2 (jn @d3 @d4)))))))))))) ?_
  show retQ _ _ _ _ _
  exact ⟨.inr rfl, _, _, rfl, rfl⟩
 | true =>
 cases ha : a.all isB with
 | false =>
  rw [ha] at d3
  rw [if_neg (by simp)]
  refine wkc (jn @envOf.eq_1 (jn @envOf.eq_2 (jn @dS.eq_1 (jn @dI.eq_1 (jn @dL.eq_1 (jn @dB.eq_1 (jn @fillV.eq_1 (jn @fillV.eq_2 (jn @h66' (jn @d1 (jn @d2 (jn @d3 @d4)))))))))))) ?_
  show retQ _ _ _ _ _
  exact ⟨.inr rfl, _, _, rfl, rfl⟩
 | true =>
 rw [ha, if_pos rfl] at d3
 cases hb : b.all isB with
 | false =>
  rw [hb] at d4
  rw [if_neg (by simp)]
  refine wkc (jn @envOf.eq_1 (jn @envOf.eq_2 (jn @dS.eq_1 (jn @dI.eq_1 (jn @dL.eq_1 (jn @dB.eq_1 (jn @fillV.eq_1 (jn @fillV.eq_2 (jn @h66' (jn @d1 (jn @d2 (jn @d3 @d4)))))))))))) ?_
  show retQ _ _ _ _ _
  exact ⟨.inr rfl, _, _, rfl, rfl⟩
 | true =>
 rw [hb, if_pos rfl] at d4
 by_cases h0 : ckW (a.map bitB) (b.map bitB) = 0
 ·rw [h0] at hck
  rw [if_pos ⟨rfl, rfl, rfl, rfl, h0⟩]
  refine wkc (jn @envOf.eq_1 (jn @envOf.eq_2 (jn @dS.eq_1 (jn @dI.eq_1 (jn @dL.eq_1 (jn @dB.eq_1 (jn @fillV.eq_1 (jn @fillV.eq_2 (jn @h66' (jn @d1 (jn @d2 (jn @d3 (jn @d4 @hck))))))))))))) ?_
  show retQ _ _ _ _ _
  exact ⟨.inr rfl, _, _, rfl, rfl⟩
 ·have h0' := eq_false h0
  rw [if_neg (by rintro ⟨_, _, _, _, h⟩; exact h0 h)]
  refine wkc (jn @envOf.eq_1 (jn @envOf.eq_2 (jn @dS.eq_1 (jn @dI.eq_1 (jn @dL.eq_1 (jn @dB.eq_1 (jn @fillV.eq_1 (jn @fillV.eq_2 (jn @h66' (jn @d1 (jn @d2 (jn @d3 (jn @d4 (jn @hck (jn @int_bne @h0'))))))))))))))) ?_
  show retQ _ _ _ _ _
  exact ⟨.inr rfl, _, _, rfl, rfl⟩
end Go.Ac
end
