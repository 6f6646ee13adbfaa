/- Calls, the reference's. -/
import Derived.Test.YtmjkclonkhempabGreatDoorEmPM
set_option linter.unusedVariables false
set_option linter.unusedSimpArgs false
section
set_option maxRecDepth 4000
namespace Go.Ac
open Go.Proofs
def callsE (y : Y) : Bool := decide (y.outs ≠ []) || decide (y.args ≠ [])
def fieldsE (y : Y) : Bool :=
 if y.k = 1 ∨ y.k = 2 then decide (y.t = 0) && !callsE y && decide (y.brs = [])
 else if y.k = 3 then zeroE y.r && !callsE y
 else if y.k = 4 then decide (y.t = 0) && zeroE y.r && decide (y.brs = [])
 else if y.k = 5 then decide (y.t = 0) && zeroE y.r && !callsE y && decide (y.brs = []) else false
def exprW (w : Pl) (x : X) : Int × Int := if formE x then kindW w x else (0, 5)
def targetW (w : Pl) (nm : Tx) (t : Int) : Int := if setT w.c nm = 0 then 6 else if asL nm false w.cx w.bf then 7 else if setT w.c nm ≠ t then 10 else 0
theorem lt0 {α : Type} (l : List α) : ((0 : Int) < (l.length : Int)) = (l ≠ []) := by cases l <;> simp <;> omega
theorem lt0n {α : Type} (l : List α) : (0 < l.length) = (l ≠ []) := by cases l <;> simp
theorem kf72 (r : Nat) : Ob.keep 72 r = Ob.k72 r := by kernel_rfl
theorem kf73 (r : Nat) : Ob.keep 73 r = Ob.k73 r := by kernel_rfl
theorem kf74 (r : Nat) : Ob.keep 74 r = Ob.k74 r := by kernel_rfl
attribute [local simp] kf72 Ob.k72 kf73 Ob.k73 kf74 Ob.k74

set_option maxHeartbeats 4000000 in
theorem fields_0 (y : Y) (e1 : y.outs ≠ []) : den Tryz.prog Ob.cfg 72 [aG y.cells] = some (dB (fieldsE y)) := by
 have hzr := zero142 y.r
 simp only [aG, X.cells_eq, List.map_cons, List.map_nil, dB] at hzr
 refine den_wp Tryz.func72 rfl (by kernel_rfl) rfl rfl ?_
 by_cases q1 : y.k = 1
 ·skip
  by_cases d1 : y.t = 0
  case neg =>
   have d1' := eq_false d1
   rw [show fieldsE y = false by simp [fieldsE, callsE, e1, q1, d1]]
   refine wkc (jn @aG.eq_1 (jn @Y.cells_eq (jn @dL.eq_1 (jn @dB.eq_1 (jn @int_beq (jn @len0 (jn @lt0 (jn @lt0n (jn @encS_len (jn @encX_len (jn @encB_len (jn @hzr (jn @e1 (jn @q1 @d1')))))))))))))) ?_
   show retQ _ _ _ _ _
   exact ⟨.inr rfl, _, _, rfl, rfl⟩
  have d1' := eq_true d1
  rw [show fieldsE y = false by simp [fieldsE, callsE, e1, q1, d1]]
  refine wkc (jn @aG.eq_1 (jn @Y.cells_eq (jn @dL.eq_1 (jn @dB.eq_1 (jn @int_beq (jn @len0 (jn @lt0 (jn @lt0n (jn @encS_len (jn @encX_len (jn @encB_len (jn @hzr (jn @e1 (jn @q1 @d1')))))))))))))) ?_
  show retQ _ _ _ _ _
  exact ⟨.inr rfl, _, _, rfl, rfl⟩
 by_cases q2 : y.k = 2
 ·skip
  by_cases d1 : y.t = 0
  case neg =>
   have d1' := eq_false d1
   rw [show fieldsE y = false by simp [fieldsE, callsE, e1, q2, d1]]
   refine wkc (jn @aG.eq_1 (jn @Y.cells_eq (jn @dL.eq_1 (jn @dB.eq_1 (jn @int_beq (jn @len0 (jn @lt0 (jn @lt0n (jn @encS_len (jn @encX_len (jn @encB_len (jn @hzr (jn @e1 (jn @q2 @d1')))))))))))))) ?_
   show retQ _ _ _ _ _
   exact ⟨.inr rfl, _, _, rfl, rfl⟩
  have d1' := eq_true d1
  rw [show fieldsE y = false by simp [fieldsE, callsE, e1, q2, d1]]
  refine wkc (jn @aG.eq_1 (jn @Y.cells_eq (jn @dL.eq_1 (jn @dB.eq_1 (jn @int_beq (jn @len0 (jn @lt0 (jn @lt0n (jn @encS_len (jn @encX_len (jn @encB_len (jn @hzr (jn @e1 (jn @q2 @d1')))))))))))))) ?_
  show retQ _ _ _ _ _
  exact ⟨.inr rfl, _, _, rfl, rfl⟩
 by_cases q3 : y.k = 3
 ·skip
  by_cases d3 : zeroE y.r = true
  case neg =>
   have d3' : zeroE y.r = false := by simpa using d3
   rw [show fieldsE y = false by simp [fieldsE, callsE, e1, q3, d3']]
   refine wkc (jn @aG.eq_1 (jn @Y.cells_eq (jn @dL.eq_1 (jn @dB.eq_1 (jn @int_beq (jn @len0 (jn @lt0 (jn @lt0n (jn @encS_len (jn @encX_len (jn @encB_len (jn @hzr (jn @e1 (jn @q3 @d3')))))))))))))) ?_
   show retQ _ _ _ _ _
   exact ⟨.inr rfl, _, _, rfl, rfl⟩
  have d3' := d3
  rw [show fieldsE y = false by simp [fieldsE, callsE, e1, q3, d3]]
  refine wkc (jn @aG.eq_1 (jn @Y.cells_eq (jn @dL.eq_1 (jn @dB.eq_1 (jn @int_beq (jn @len0 (jn @lt0 (jn @lt0n (jn @encS_len (jn @encX_len (jn @encB_len (jn @hzr (jn @e1 (jn @q3 @d3')))))))))))))) ?_
  show retQ _ _ _ _ _
  exact ⟨.inr rfl, _, _, rfl, rfl⟩
 by_cases q4 : y.k = 4
 ·skip
  by_cases d1 : y.t = 0
  case neg =>
   have d1' := eq_false d1
   rw [show fieldsE y = false by simp [fieldsE, callsE, e1, q4, d1]]
   refine wkc (jn @aG.eq_1 (jn @Y.cells_eq (jn @dL.eq_1 (jn @dB.eq_1 (jn @int_beq (jn @len0 (jn @lt0 (jn @lt0n (jn @encS_len (jn @encX_len (jn @encB_len (jn @hzr (jn @e1 (jn @q4 @d1')))))))))))))) ?_
   show retQ _ _ _ _ _
   exact ⟨.inr rfl, _, _, rfl, rfl⟩
  have d1' := eq_true d1
  by_cases d3 : zeroE y.r = true
  case neg =>
   have d3' : zeroE y.r = false := by simpa using d3
   rw [show fieldsE y = false by simp [fieldsE, callsE, e1, q4, d1, d3']]
   refine wkc (jn @aG.eq_1 (jn @Y.cells_eq (jn @dL.eq_1 (jn @dB.eq_1 (jn @int_beq (jn @len0 (jn @lt0 (jn @lt0n (jn @encS_len (jn @encX_len (jn @encB_len (jn @hzr (jn @e1 (jn @q4 (jn @d1' @d3'))))))))))))))) ?_
   show retQ _ _ _ _ _
   exact ⟨.inr rfl, _, _, rfl, rfl⟩
  have d3' := d3
  by_cases d2 : y.brs = []
  case neg =>
   have d2' := eq_false d2
   rw [show fieldsE y = false by simp [fieldsE, callsE, e1, q4, d1, d3, d2]]
   refine wkc (jn @aG.eq_1 (jn @Y.cells_eq (jn @dL.eq_1 (jn @dB.eq_1 (jn @int_beq (jn @len0 (jn @lt0 (jn @lt0n (jn @encS_len (jn @encX_len (jn @encB_len (jn @hzr (jn @e1 (jn @q4 (jn @d1' (jn @d3' @d2')))))))))))))))) ?_
   show retQ _ _ _ _ _
   exact ⟨.inr rfl, _, _, rfl, rfl⟩
  have d2' := eq_true d2
  rw [show fieldsE y = true by simp [fieldsE, callsE, e1, q4, d1, d3, d2]]
  refine wkc (jn @aG.eq_1 (jn @Y.cells_eq (jn @dL.eq_1 (jn @dB.eq_1 (jn @int_beq (jn @len0 (jn @lt0 (jn @lt0n (jn @encS_len (jn @encX_len (jn @encB_len (jn @hzr (jn @e1 (jn @q4 (jn @d1' (jn @d3' @d2')))))))))))))))) ?_
  show retQ _ _ _ _ _
  exact ⟨.inr rfl, _, _, rfl, rfl⟩
 by_cases q5 : y.k = 5
 ·skip
  by_cases d1 : y.t = 0
  case neg =>
   have d1' := eq_false d1
   rw [show fieldsE y = false by simp [fieldsE, callsE, e1, q5, d1]]
   refine wkc (jn @aG.eq_1 (jn @Y.cells_eq (jn @dL.eq_1 (jn @dB.eq_1 (jn @int_beq (jn @len0 (jn @lt0 (jn @lt0n (jn @encS_len (jn @encX_len (jn @encB_len (jn @hzr (jn @e1 (jn @q5 @d1')))))))))))))) ?_
   show retQ _ _ _ _ _
   exact ⟨.inr rfl, _, _, rfl, rfl⟩
  have d1' := eq_true d1
  by_cases d3 : zeroE y.r = true
  case neg =>
   have d3' : zeroE y.r = false := by simpa using d3
   rw [show fieldsE y = false by simp [fieldsE, callsE, e1, q5, d1, d3']]
   refine wkc (jn @aG.eq_1 (jn @Y.cells_eq (jn @dL.eq_1 (jn @dB.eq_1 (jn @int_beq (jn @len0 (jn @lt0 (jn @lt0n (jn @encS_len (jn @encX_len (jn @encB_len (jn @hzr (jn @e1 (jn @q5 (jn @d1' @d3'))))))))))))))) ?_
   show retQ _ _ _ _ _
   exact ⟨.inr rfl, _, _, rfl, rfl⟩
  have d3' := d3
  rw [show fieldsE y = false by simp [fieldsE, callsE, e1, q5, d1, d3]]
  refine wkc (jn @aG.eq_1 (jn @Y.cells_eq (jn @dL.eq_1 (jn @dB.eq_1 (jn @int_beq (jn @len0 (jn @lt0 (jn @lt0n (jn @encS_len (jn @encX_len (jn @encB_len (jn @hzr (jn @e1 (jn @q5 (jn @d1' @d3'))))))))))))))) ?_
  show retQ _ _ _ _ _
  exact ⟨.inr rfl, _, _, rfl, rfl⟩
 rw [show fieldsE y = false by simp [fieldsE, callsE, e1, q1, q2, q3, q4, q5]]
 refine wkc (jn @aG.eq_1 (jn @Y.cells_eq (jn @dL.eq_1 (jn @dB.eq_1 (jn @int_beq (jn @len0 (jn @lt0 (jn @lt0n (jn @encS_len (jn @encX_len (jn @encB_len (jn @hzr (jn @e1 (jn @q1 (jn @q2 (jn @q3 (jn @q4 @q5))))))))))))))))) ?_
 show retQ _ _ _ _ _
 exact ⟨.inr rfl, _, _, rfl, rfl⟩
set_option maxHeartbeats 4000000 in
theorem fields_1 (y : Y) (e1 : y.outs = []) (e2 : y.args ≠ []) : den Tryz.prog Ob.cfg 72 [aG y.cells] = some (dB (fieldsE y)) := by
 have hzr := zero142 y.r
 simp only [aG, X.cells_eq, List.map_cons, List.map_nil, dB] at hzr
 refine den_wp Tryz.func72 rfl (by kernel_rfl) rfl rfl ?_
 by_cases q1 : y.k = 1
 ·skip
  by_cases d1 : y.t = 0
  case neg =>
   have d1' := eq_false d1
   rw [show fieldsE y = false by simp [fieldsE, callsE, e1, e2, q1, d1]]
   refine wkc (jn @aG.eq_1 (jn @Y.cells_eq (jn @dL.eq_1 (jn @dB.eq_1 (jn @int_beq (jn @len0 (jn @lt0 (jn @lt0n (jn @encS_len (jn @encX_len (jn @encB_len (jn @hzr (jn @e1 (jn @e2 (jn @q1 @d1'))))))))))))))) ?_
   show retQ _ _ _ _ _
   exact ⟨.inr rfl, _, _, rfl, rfl⟩
  have d1' := eq_true d1
  rw [show fieldsE y = false by simp [fieldsE, callsE, e1, e2, q1, d1]]
  refine wkc (jn @aG.eq_1 (jn @Y.cells_eq (jn @dL.eq_1 (jn @dB.eq_1 (jn @int_beq (jn @len0 (jn @lt0 (jn @lt0n (jn @encS_len (jn @encX_len (jn @encB_len (jn @hzr (jn @e1 (jn @e2 (jn @q1 @d1'))))))))))))))) ?_
  show retQ _ _ _ _ _
  exact ⟨.inr rfl, _, _, rfl, rfl⟩
 by_cases q2 : y.k = 2
 ·skip
  by_cases d1 : y.t = 0
  case neg =>
   have d1' := eq_false d1
   rw [show fieldsE y = false by simp [fieldsE, callsE, e1, e2, q2, d1]]
   refine wkc (jn @aG.eq_1 (jn @Y.cells_eq (jn @dL.eq_1 (jn @dB.eq_1 (jn @int_beq (jn @len0 (jn @lt0 (jn @lt0n (jn @encS_len (jn @encX_len (jn @encB_len (jn @hzr (jn @e1 (jn @e2 (jn @q2 @d1'))))))))))))))) ?_
   show retQ _ _ _ _ _
   exact ⟨.inr rfl, _, _, rfl, rfl⟩
  have d1' := eq_true d1
  rw [show fieldsE y = false by simp [fieldsE, callsE, e1, e2, q2, d1]]
  refine wkc (jn @aG.eq_1 (jn @Y.cells_eq (jn @dL.eq_1 (jn @dB.eq_1 (jn @int_beq (jn @len0 (jn @lt0 (jn @lt0n (jn @encS_len (jn @encX_len (jn @encB_len (jn @hzr (jn @e1 (jn @e2 (jn @q2 @d1'))))))))))))))) ?_
  show retQ _ _ _ _ _
  exact ⟨.inr rfl, _, _, rfl, rfl⟩
 by_cases q3 : y.k = 3
 ·skip
  by_cases d3 : zeroE y.r = true
  case neg =>
   have d3' : zeroE y.r = false := by simpa using d3
   rw [show fieldsE y = false by simp [fieldsE, callsE, e1, e2, q3, d3']]
   refine wkc (jn @aG.eq_1 (jn @Y.cells_eq (jn @dL.eq_1 (jn @dB.eq_1 (jn @int_beq (jn @len0 (jn @lt0 (jn @lt0n (jn @encS_len (jn @encX_len (jn @encB_len (jn @hzr (jn @e1 (jn @e2 (jn @q3 @d3'))))))))))))))) ?_
   show retQ _ _ _ _ _
   exact ⟨.inr rfl, _, _, rfl, rfl⟩
  have d3' := d3
  rw [show fieldsE y = false by simp [fieldsE, callsE, e1, e2, q3, d3]]
  refine wkc (jn @aG.eq_1 (jn @Y.cells_eq (jn @dL.eq_1 (jn @dB.eq_1 (jn @int_beq (jn @len0 (jn @lt0 (jn @lt0n (jn @encS_len (jn @encX_len (jn @encB_len (jn @hzr (jn @e1 (jn @e2 (jn @q3 @d3'))))))))))))))) ?_
  show retQ _ _ _ _ _
  exact ⟨.inr rfl, _, _, rfl, rfl⟩
 by_cases q4 : y.k = 4
 ·skip
  by_cases d1 : y.t = 0
  case neg =>
   have d1' := eq_false d1
   rw [show fieldsE y = false by simp [fieldsE, callsE, e1, e2, q4, d1]]
   refine wkc (jn @aG.eq_1 (jn @Y.cells_eq (jn @dL.eq_1 (jn @dB.eq_1 (jn @int_beq (jn @len0 (jn @lt0 (jn @lt0n (jn @encS_len (jn @encX_len (jn @encB_len (jn @hzr (jn @e1 (jn @e2 (jn @q4 @d1'))))))))))))))) ?_
   show retQ _ _ _ _ _
   exact ⟨.inr rfl, _, _, rfl, rfl⟩
  have d1' := eq_true d1
  by_cases d3 : zeroE y.r = true
  case neg =>
   have d3' : zeroE y.r = false := by simpa using d3
   rw [show fieldsE y = false by simp [fieldsE, callsE, e1, e2, q4, d1, d3']]
   refine wkc (jn @aG.eq_1 (jn @Y.cells_eq (jn @dL.eq_1 (jn @dB.eq_1 (jn @int_beq (jn @len0 (jn @lt0 (jn @lt0n (jn @encS_len (jn @encX_len (jn @encB_len (jn @hzr (jn @e1 (jn @e2 (jn @q4 (jn @d1' @d3')))))))))))))))) ?_
   show retQ _ _ _ _ _
   exact ⟨.inr rfl, _, _, rfl, rfl⟩
  have d3' := d3
  by_cases d2 : y.brs = []
  case neg =>
   have d2' := eq_false d2
   rw [show fieldsE y = false by simp [fieldsE, callsE, e1, e2, q4, d1, d3, d2]]
   refine wkc (jn @aG.eq_1 (jn @Y.cells_eq (jn @dL.eq_1 (jn @dB.eq_1 (jn @int_beq (jn @len0 (jn @lt0 (jn @lt0n (jn @encS_len (jn @encX_len (jn @encB_len (jn @hzr (jn @e1 (jn @e2 (jn @q4 (jn @d1' (jn @d3' @d2'))))))))))))))))) ?_
   show retQ _ _ _ _ _
   exact ⟨.inr rfl, _, _, rfl, rfl⟩
  have d2' := eq_true d2
  rw [show fieldsE y = true by simp [fieldsE, callsE, e1, e2, q4, d1, d3, d2]]
  refine wkc (jn @aG.eq_1 (jn @Y.cells_eq (jn @dL.eq_1 (jn @dB.eq_1 (jn @int_beq (jn @len0 (jn @lt0 (jn @lt0n (jn @encS_len (jn @encX_len (jn @encB_len (jn @hzr (jn @e1 (jn @e2 (jn @q4 (jn @d1' (jn @d3' @d2'))))))))))))))))) ?_
  show retQ _ _ _ _ _
  exact ⟨.inr rfl, _, _, rfl, rfl⟩
 by_cases q5 : y.k = 5
 ·skip
  by_cases d1 : y.t = 0
  case neg =>
   have d1' := eq_false d1
   rw [show fieldsE y = false by simp [fieldsE, callsE, e1, e2, q5, d1]]
   refine wkc (jn @aG.eq_1 (jn @Y.cells_eq (jn @dL.eq_1 (jn @dB.eq_1 (jn @int_beq (jn @len0 (jn @lt0 (jn @lt0n (jn @encS_len (jn @encX_len (jn @encB_len (jn @hzr (jn @e1 (jn @e2 (jn @q5 @d1'))))))))))))))) ?_
   show retQ _ _ _ _ _
   exact ⟨.inr rfl, _, _, rfl, rfl⟩
  have d1' := eq_true d1
  by_cases d3 : zeroE y.r = true
  case neg =>
   have d3' : zeroE y.r = false := by simpa using d3
   rw [show fieldsE y = false by simp [fieldsE, callsE, e1, e2, q5, d1, d3']]
   refine wkc (jn @aG.eq_1 (jn @Y.cells_eq (jn @dL.eq_1 (jn @dB.eq_1 (jn @int_beq (jn @len0 (jn @lt0 (jn @lt0n (jn @encS_len (jn @encX_len (jn @encB_len (jn @hzr (jn @e1 (jn @e2 (jn @q5 (jn @d1' @d3')))))))))))))))) ?_
   show retQ _ _ _ _ _
   exact ⟨.inr rfl, _, _, rfl, rfl⟩
  have d3' := d3
  rw [show fieldsE y = false by simp [fieldsE, callsE, e1, e2, q5, d1, d3]]
  refine wkc (jn @aG.eq_1 (jn @Y.cells_eq (jn @dL.eq_1 (jn @dB.eq_1 (jn @int_beq (jn @len0 (jn @lt0 (jn @lt0n (jn @encS_len (jn @encX_len (jn @encB_len (jn @hzr (jn @e1 (jn @e2 (jn @q5 (jn @d1' @d3')))))))))))))))) ?_
  show retQ _ _ _ _ _
  exact ⟨.inr rfl, _, _, rfl, rfl⟩
 rw [show fieldsE y = false by simp [fieldsE, callsE, e1, e2, q1, q2, q3, q4, q5]]
 refine wkc (jn @aG.eq_1 (jn @Y.cells_eq (jn @dL.eq_1 (jn @dB.eq_1 (jn @int_beq (jn @len0 (jn @lt0 (jn @lt0n (jn @encS_len (jn @encX_len (jn @encB_len (jn @hzr (jn @e1 (jn @e2 (jn @q1 (jn @q2 (jn @q3 (jn @q4 @q5)))))))))))))))))) ?_
 show retQ _ _ _ _ _
 exact ⟨.inr rfl, _, _, rfl, rfl⟩
set_option maxHeartbeats 4000000 in
theorem fields_2 (y : Y) (e1 : y.outs = []) (e2 : y.args = []) : den Tryz.prog Ob.cfg 72 [aG y.cells] = some (dB (fieldsE y)) := by
 have hzr := zero142 y.r
 simp only [aG, X.cells_eq, List.map_cons, List.map_nil, dB] at hzr
 refine den_wp Tryz.func72 rfl (by kernel_rfl) rfl rfl ?_
 by_cases q1 : y.k = 1
 ·skip
  by_cases d1 : y.t = 0
  case neg =>
   have d1' := eq_false d1
   rw [show fieldsE y = false by simp [fieldsE, callsE, e1, e2, q1, d1]]
   refine wkc (jn @aG.eq_1 (jn @Y.cells_eq (jn @dL.eq_1 (jn @dB.eq_1 (jn @int_beq (jn @len0 (jn @lt0 (jn @lt0n (jn @encS_len (jn @encX_len (jn @encB_len (jn @hzr (jn @e1 (jn @e2 (jn @q1 @d1'))))))))))))))) ?_
   show retQ _ _ _ _ _
   exact ⟨.inr rfl, _, _, rfl, rfl⟩
  have d1' := eq_true d1
  by_cases d2 : y.brs = []
  case neg =>
   have d2' := eq_false d2
   rw [show fieldsE y = false by simp [fieldsE, callsE, e1, e2, q1, d1, d2]]
   refine wkc (jn @aG.eq_1 (jn @Y.cells_eq (jn @dL.eq_1 (jn @dB.eq_1 (jn @int_beq (jn @len0 (jn @lt0 (jn @lt0n (jn @encS_len (jn @encX_len (jn @encB_len (jn @hzr (jn @e1 (jn @e2 (jn @q1 (jn @d1' @d2')))))))))))))))) ?_
   show retQ _ _ _ _ _
   exact ⟨.inr rfl, _, _, rfl, rfl⟩
  have d2' := eq_true d2
  rw [show fieldsE y = true by simp [fieldsE, callsE, e1, e2, q1, d1, d2]]
  refine wkc (jn @aG.eq_1 (jn @Y.cells_eq (jn @dL.eq_1 (jn @dB.eq_1 (jn @int_beq (jn @len0 (jn @lt0 (jn @lt0n (jn @encS_len (jn @encX_len (jn @encB_len (jn @hzr (jn @e1 (jn @e2 (jn @q1 (jn @d1' @d2')))))))))))))))) ?_
  show retQ _ _ _ _ _
  exact ⟨.inr rfl, _, _, rfl, rfl⟩
 by_cases q2 : y.k = 2
 ·skip
  by_cases d1 : y.t = 0
  case neg =>
   have d1' := eq_false d1
   rw [show fieldsE y = false by simp [fieldsE, callsE, e1, e2, q2, d1]]
   refine wkc (jn @aG.eq_1 (jn @Y.cells_eq (jn @dL.eq_1 (jn @dB.eq_1 (jn @int_beq (jn @len0 (jn @lt0 (jn @lt0n (jn @encS_len (jn @encX_len (jn @encB_len (jn @hzr (jn @e1 (jn @e2 (jn @q2 @d1'))))))))))))))) ?_
   show retQ _ _ _ _ _
   exact ⟨.inr rfl, _, _, rfl, rfl⟩
  have d1' := eq_true d1
  by_cases d2 : y.brs = []
  case neg =>
   have d2' := eq_false d2
   rw [show fieldsE y = false by simp [fieldsE, callsE, e1, e2, q2, d1, d2]]
   refine wkc (jn @aG.eq_1 (jn @Y.cells_eq (jn @dL.eq_1 (jn @dB.eq_1 (jn @int_beq (jn @len0 (jn @lt0 (jn @lt0n (jn @encS_len (jn @encX_len (jn @encB_len (jn @hzr (jn @e1 (jn @e2 (jn @q2 (jn @d1' @d2')))))))))))))))) ?_
   show retQ _ _ _ _ _
   exact ⟨.inr rfl, _, _, rfl, rfl⟩
  have d2' := eq_true d2
  rw [show fieldsE y = true by simp [fieldsE, callsE, e1, e2, q2, d1, d2]]
  refine wkc (jn @aG.eq_1 (jn @Y.cells_eq (jn @dL.eq_1 (jn @dB.eq_1 (jn @int_beq (jn @len0 (jn @lt0 (jn @lt0n (jn @encS_len (jn @encX_len (jn @encB_len (jn @hzr (jn @e1 (jn @e2 (jn @q2 (jn @d1' @d2')))))))))))))))) ?_
  show retQ _ _ _ _ _
  exact ⟨.inr rfl, _, _, rfl, rfl⟩
 by_cases q3 : y.k = 3
 ·skip
  by_cases d3 : zeroE y.r = true
  case neg =>
   have d3' : zeroE y.r = false := by simpa using d3
   rw [show fieldsE y = false by simp [fieldsE, callsE, e1, e2, q3, d3']]
   refine wkc (jn @aG.eq_1 (jn @Y.cells_eq (jn @dL.eq_1 (jn @dB.eq_1 (jn @int_beq (jn @len0 (jn @lt0 (jn @lt0n (jn @encS_len (jn @encX_len (jn @encB_len (jn @hzr (jn @e1 (jn @e2 (jn @q3 @d3'))))))))))))))) ?_
   show retQ _ _ _ _ _
   exact ⟨.inr rfl, _, _, rfl, rfl⟩
  have d3' := d3
  rw [show fieldsE y = true by simp [fieldsE, callsE, e1, e2, q3, d3]]
  refine wkc (jn @aG.eq_1 (jn @Y.cells_eq (jn @dL.eq_1 (jn @dB.eq_1 (jn @int_beq (jn @len0 (jn @lt0 (jn @lt0n (jn @encS_len (jn @encX_len (jn @encB_len (jn @hzr (jn @e1 (jn @e2 (jn @q3 @d3'))))))))))))))) ?_
  show retQ _ _ _ _ _
  exact ⟨.inr rfl, _, _, rfl, rfl⟩
 by_cases q4 : y.k = 4
 ·skip
  by_cases d1 : y.t = 0
  case neg =>
   have d1' := eq_false d1
   rw [show fieldsE y = false by simp [fieldsE, callsE, e1, e2, q4, d1]]
   refine wkc (jn @aG.eq_1 (jn @Y.cells_eq (jn @dL.eq_1 (jn @dB.eq_1 (jn @int_beq (jn @len0 (jn @lt0 (jn @lt0n (jn @encS_len (jn @encX_len (jn @encB_len (jn @hzr (jn @e1 (jn @e2 (jn @q4 @d1'))))))))))))))) ?_
   show retQ _ _ _ _ _
   exact ⟨.inr rfl, _, _, rfl, rfl⟩
  have d1' := eq_true d1
  by_cases d3 : zeroE y.r = true
  case neg =>
   have d3' : zeroE y.r = false := by simpa using d3
   rw [show fieldsE y = false by simp [fieldsE, callsE, e1, e2, q4, d1, d3']]
   refine wkc (jn @aG.eq_1 (jn @Y.cells_eq (jn @dL.eq_1 (jn @dB.eq_1 (jn @int_beq (jn @len0 (jn @lt0 (jn @lt0n (jn @encS_len (jn @encX_len (jn @encB_len (jn @hzr (jn @e1 (jn @e2 (jn @q4 (jn @d1' @d3')))))))))))))))) ?_
   show retQ _ _ _ _ _
   exact ⟨.inr rfl, _, _, rfl, rfl⟩
  have d3' := d3
  by_cases d2 : y.brs = []
  case neg =>
   have d2' := eq_false d2
   rw [show fieldsE y = false by simp [fieldsE, callsE, e1, e2, q4, d1, d3, d2]]
   refine wkc (jn @aG.eq_1 (jn @Y.cells_eq (jn @dL.eq_1 (jn @dB.eq_1 (jn @int_beq (jn @len0 (jn @lt0 (jn @lt0n (jn @encS_len (jn @encX_len (jn @encB_len (jn @hzr (jn @e1 (jn @e2 (jn @q4 (jn @d1' (jn @d3' @d2'))))))))))))))))) ?_
   show retQ _ _ _ _ _
   exact ⟨.inr rfl, _, _, rfl, rfl⟩
  have d2' := eq_true d2
  rw [show fieldsE y = true by simp [fieldsE, callsE, e1, e2, q4, d1, d3, d2]]
  refine wkc (jn @aG.eq_1 (jn @Y.cells_eq (jn @dL.eq_1 (jn @dB.eq_1 (jn @int_beq (jn @len0 (jn @lt0 (jn @lt0n (jn @encS_len (jn @encX_len (jn @encB_len (jn @hzr (jn @e1 (jn @e2 (jn @q4 (jn @d1' (jn @d3' @d2'))))))))))))))))) ?_
  show retQ _ _ _ _ _
  exact ⟨.inr rfl, _, _, rfl, rfl⟩
 by_cases q5 : y.k = 5
 ·skip
  by_cases d1 : y.t = 0
  case neg =>
   have d1' := eq_false d1
   rw [show fieldsE y = false by simp [fieldsE, callsE, e1, e2, q5, d1]]
   refine wkc (jn @aG.eq_1 (jn @Y.cells_eq (jn @dL.eq_1 (jn @dB.eq_1 (jn @int_beq (jn @len0 (jn @lt0 (jn @lt0n (jn @encS_len (jn @encX_len (jn @encB_len (jn @hzr (jn @e1 (jn @e2 (jn @q5 @d1'))))))))))))))) ?_
   show retQ _ _ _ _ _
   exact ⟨.inr rfl, _, _, rfl, rfl⟩
  have d1' := eq_true d1
  by_cases d3 : zeroE y.r = true
  case neg =>
   have d3' : zeroE y.r = false := by simpa using d3
   rw [show fieldsE y = false by simp [fieldsE, callsE, e1, e2, q5, d1, d3']]
   refine wkc (jn @aG.eq_1 (jn @Y.cells_eq (jn @dL.eq_1 (jn @dB.eq_1 (jn @int_beq (jn @len0 (jn @lt0 (jn @lt0n (jn @encS_len (jn @encX_len (jn @encB_len (jn @hzr (jn @e1 (jn @e2 (jn @q5 (jn @d1' @d3')))))))))))))))) ?_
   show retQ _ _ _ _ _
   exact ⟨.inr rfl, _, _, rfl, rfl⟩
  have d3' := d3
  by_cases d2 : y.brs = []
  case neg =>
   have d2' := eq_false d2
   rw [show fieldsE y = false by simp [fieldsE, callsE, e1, e2, q5, d1, d3, d2]]
   refine wkc (jn @aG.eq_1 (jn @Y.cells_eq (jn @dL.eq_1 (jn @dB.eq_1 (jn @int_beq (jn @len0 (jn @lt0 (jn @lt0n (jn @encS_len (jn @encX_len (jn @encB_len (jn @hzr (jn @e1 (jn @e2 (jn @q5 (jn @d1' (jn @d3' @d2'))))))))))))))))) ?_
   show retQ _ _ _ _ _
   exact ⟨.inr rfl, _, _, rfl, rfl⟩
  have d2' := eq_true d2
  rw [show fieldsE y = true by simp [fieldsE, callsE, e1, e2, q5, d1, d3, d2]]
  refine wkc (jn @aG.eq_1 (jn @Y.cells_eq (jn @dL.eq_1 (jn @dB.eq_1 (jn @int_beq (jn @len0 (jn @lt0 (jn @lt0n (jn @encS_len (jn @encX_len (jn @encB_len (jn @hzr (jn @e1 (jn @e2 (jn @q5 (jn @d1' (jn @d3' @d2'))))))))))))))))) ?_
  show retQ _ _ _ _ _
  exact ⟨.inr rfl, _, _, rfl, rfl⟩
 rw [show fieldsE y = false by simp [fieldsE, callsE, e1, e2, q1, q2, q3, q4, q5]]
 refine wkc (jn @aG.eq_1 (jn @Y.cells_eq (jn @dL.eq_1 (jn @dB.eq_1 (jn @int_beq (jn @len0 (jn @lt0 (jn @lt0n (jn @encS_len (jn @encX_len (jn @encB_len (jn @hzr (jn @e1 (jn @e2 (jn @q1 (jn @q2 (jn @q3 (jn @q4 @q5)))))))))))))))))) ?_
 show retQ _ _ _ _ _
 exact ⟨.inr rfl, _, _, rfl, rfl⟩
theorem fields114 (y : Y) : den Tryz.prog Ob.cfg 72 [aG y.cells] = some (dB (fieldsE y)) := by
 by_cases e1 : y.outs = []
 ·by_cases e2 : y.args = []
  ·exact fields_2 y e1 e2
  ·exact fields_1 y e1 e2
 ·exact fields_0 y e1
set_option maxHeartbeats 1000000 in
theorem expr115 (w : Pl) (hw : WOK w) (x : X) (hx : x.sz ≤ MX) (hok : x.ok) : den Tryz.prog Ob.cfg 73 [aG w.cells, aG x.cells] = some (.tuple [dI (exprW w x).1, dI (exprW w x).2]) := by
 have hf := form143 _ x (Nat.lt_succ_self _) hx
 refine den_wp Tryz.func73 rfl (by kernel_rfl) rfl rfl ?_
 unfold exprW
 cases hz : formE x with
 | true =>
  have hk := kind144 w hw _ x (Nat.lt_succ_self _) hz hok
  rw [hz] at hf
  simp only [aG, Pl.cells, X.cells_eq, List.map_cons, List.map_nil, dB, dI] at hf hk
  refine wkc (jn @aG.eq_1 (jn @Pl.cells.eq_1 (jn @X.cells_eq (jn @hf @hk)))) ?_
  exact ⟨.inr rfl, _, _, rfl, rfl⟩
 | false =>
  rw [hz] at hf
  simp only [aG, Pl.cells, X.cells_eq, List.map_cons, List.map_nil, dB, dI] at hf
  refine wkc (jn @aG.eq_1 (jn @Pl.cells.eq_1 (jn @X.cells_eq @hf))) ?_
  exact ⟨.inr rfl, _, _, rfl, rfl⟩
set_option maxHeartbeats 1000000 in
theorem target116 (w : Pl) (hw : WOK w) (nm : Tx) (t : Int) : den Tryz.prog Ob.cfg 74 [aG w.cells, dS nm, dI t] = some (dI (targetW w nm t)) := by
 have h1 := set145 w nm hw.out hw.loc
 have h2 := some33 nm false _ w.bf w.cx (Nat.lt_succ_self _) hw.bf
 simp only [aG, Pl.cells, List.map_cons, List.map_nil, dL, dS, dI, dB] at h1 h2
 refine den_wp Tryz.func74 rfl (by kernel_rfl) rfl rfl ?_
 unfold targetW
 by_cases c1 : setT w.c nm = 0
 ·rw [if_pos c1]
  rw [c1] at h1
  refine wkc (jn @aG.eq_1 (jn @Pl.cells.eq_1 (jn @dS.eq_1 (jn @dI.eq_1 @h1)))) ?_
  show retQ _ _ _ _ _
  exact ⟨.inr rfl, _, _, rfl, rfl⟩
 rw [if_neg c1]
 have c1' := eq_false c1
 cases c2 : asL nm false w.cx w.bf with
 | true =>
  rw [c2] at h2
  refine wkc (jn @aG.eq_1 (jn @Pl.cells.eq_1 (jn @dS.eq_1 (jn @dI.eq_1 (jn @h1 (jn @h2 (jn @c1' @int_beq))))))) ?_
  show retQ _ _ _ _ _
  exact ⟨.inr rfl, _, _, rfl, rfl⟩
 | false =>
  rw [c2] at h2
  by_cases c3 : setT w.c nm = t
  ·rw [show (if (false : Bool) = true then (7 : Int) else if setT w.c nm ≠ t then 10 else 0) = 0 by simp [c3]]
   have c3' := eq_true c3
   refine wkc (jn @aG.eq_1 (jn @Pl.cells.eq_1 (jn @dS.eq_1 (jn @dI.eq_1 (jn @h1 (jn @h2 (jn @c1' (jn @int_beq (jn @int_bne @c3'))))))))) ?_
   show retQ _ _ _ _ _
   exact ⟨.inr rfl, _, _, rfl, rfl⟩
  ·rw [show (if (false : Bool) = true then (7 : Int) else if setT w.c nm ≠ t then 10 else 0) = 10 by simp [c3]]
   have c3' := eq_false c3
   refine wkc (jn @aG.eq_1 (jn @Pl.cells.eq_1 (jn @dS.eq_1 (jn @dI.eq_1 (jn @h1 (jn @h2 (jn @c1' (jn @int_beq (jn @int_bne @c3'))))))))) ?_
   show retQ _ _ _ _ _
   exact ⟨.inr rfl, _, _, rfl, rfl⟩
end Go.Ac
end

section
set_option maxRecDepth 4000
namespace Go.Ac
open Go.Proofs
theorem drop_at {α : Type} {l : List α} {j : Nat} {x : α} (h : l[j]? = some x) : l.drop j = x :: l.drop (j + 1) := by
 obtain ⟨hj, rfl⟩ := List.getElem?_eq_some_iff.1 h
 exact List.drop_eq_getElem_cons hj
theorem encS_take (l : List Tx) (j : Nat) : (encS l).take j = encS (l.take j) := by unfold encS; rw [List.map_take]
theorem slice_rows (look : Look) (e b : Nat) (z : Option (List V)) {sz : Nat} {rows : List (List D)} (hr : ∀ r ∈ rows, r.length = sz) {j : Nat} (h : j ≤ rows.length) :
  sliceV look ⟨.slice e sz b, 1, 24, z⟩ (.d (.slice rows)) none (some (.d (.int .i64 j))) none = ret (.d (.slice (rows.take j))) := by
 have ha : rows.all (fun r => Nat.beq r.length sz) = true := by rw [List.all_eq_true]; intro r hm; rw [hr r hm]; exact nbeq_self sz
 have e1 : bnd none 0 = some 0 := rfl
 have e2 : bnd (some (V.d (.int .i64 (j : Int)))) rows.length = some j := by
  unfold bnd; simp
 unfold sliceV
 simp only [e1, e2, ha]
 rw [if_pos ⟨by omega, h, trivial⟩, List.drop_zero]
theorem encS_row (l : List Tx) : ∀ r ∈ encS l, r.length = 1 := by unfold encS; intro r hr; obtain ⟨x, _, rfl⟩ := List.mem_map.1 hr; rfl
def argE (w : Pl) (x : X) (d : Dc) : Int := if (exprW w x).2 ≠ 0 then (exprW w x).2 else if (exprW w x).1 ≠ d.t then 10 else 0
def argsW (w : Pl) : List X → List Dc → Int
 | x :: r, d :: s => if argE w x d ≠ 0 then argE w x d else argsW w r s
 | _, _ => 0
def outE (w : Pl) (pre : List Tx) (x : Tx) (d : Dc) : Int := if setT w.c x = 0 then 6 else if x ∈ pre then 7 else targetW w x d.t
def outsW (w : Pl) : List Tx → List Tx → List Dc → Int
 | pre, x :: r, d :: s => if outE w pre x d ≠ 0 then outE w pre x d else outsW w (pre ++ [x]) r s
 | _, _, _ => 0
def callW (w : Pl) (y : Y) : Int :=
 if (findI w.c.ins w.o.cl y.nm).2 = false then 6
 else if y.args.length ≠ (findI w.c.ins w.o.cl y.nm).1.inn.length ∨ y.outs.length ≠ (findI w.c.ins w.o.cl y.nm).1.out.length then 9
 else if argsW w y.args (findI w.c.ins w.o.cl y.nm).1.inn ≠ 0 then argsW w y.args (findI w.c.ins w.o.cl y.nm).1.inn
 else outsW w [] y.outs (findI w.c.ins w.o.cl y.nm).1.out
theorem argsW_nil (w : Pl) (l : List Dc) : argsW w [] l = 0 := by cases l <;> rw [argsW] <;> simp
theorem outsW_nil (w : Pl) (p : List Tx) (l : List Dc) : outsW w p [] l = 0 := by cases l <;> rw [outsW] <;> simp
theorem kf77 (r : Nat) : Ob.keep 77 r = Ob.k77 r := by kernel_rfl
attribute [local simp] kf77 Ob.k77
set_option maxHeartbeats 4000000 in
theorem call119 (w : Pl) (hw : WOK w) (y : Y) (hy0 : y.sz ≤ MX) (hok : okX y.args) : den Tryz.prog Ob.cfg 77 [aG w.cells, aG y.cells] = some (dI (callW w y)) := by
 have hc := callee120 w y.nm hw.ins hw.cl
 unfold MX at hy0
 rw [Y.sz_eq] at hy0
 have k1 := len_szX y.args
 have k2 := len_szS y.outs
 have hs5 := fun nm => set145 w nm hw.out hw.loc
 have ht6 := fun nm t => target116 w hw nm t
 unfold callW
 generalize hG : findI w.c.ins w.o.cl y.nm = G at hc ⊢
 obtain ⟨g, ok⟩ := G
 simp only [aG, Pl.cells, List.map_cons, List.map_nil, dL, dS, dI, dB] at hc hs5 ht6
 refine den_wp Tryz.func77 rfl (by kernel_rfl) rfl rfl ?_
 cases ok with
 | false =>
  refine wkc (jn @aG.eq_1 (jn @Pl.cells.eq_1 (jn @Y.cells_eq (jn @dL.eq_1 (jn @dS.eq_1 (jn @dI.eq_1 (jn @hc @Cl.cells.eq_1))))))) ?_
  show retQ _ _ _ _ _
  exact ⟨.inr rfl, _, _, rfl, rfl⟩
 | true =>
 rw [if_neg (by simp)]
 simp only [Cl.cells, List.map_cons, List.map_nil] at hc
 by_cases c1 : y.args.length = g.inn.length
 case neg =>
  have c1' : ((y.args.length : Int) = g.inn.length) = False := eq_false (by omega)
  have c1'' := eq_false c1
  rw [if_pos (.inl c1)]
  refine wkc (jn @aG.eq_1 (jn @Pl.cells.eq_1 (jn @Y.cells_eq (jn @dL.eq_1 (jn @dS.eq_1 (jn @dI.eq_1 (jn @hc (jn @int_bne (jn @encX_len (jn @encD_len (jn @c1' @c1''))))))))))) ?_
  show retQ _ _ _ _ _
  exact ⟨.inr rfl, _, _, rfl, rfl⟩
 have c1' : ((y.args.length : Int) = g.inn.length) = True := eq_true (by omega)
 by_cases c2 : y.outs.length = g.out.length
 case neg =>
  have c2' : ((y.outs.length : Int) = g.out.length) = False := eq_false (by omega)
  have c2'' := eq_false c2
  rw [if_pos (.inr c2)]
  refine wkc (jn @aG.eq_1 (jn @Pl.cells.eq_1 (jn @Y.cells_eq (jn @dL.eq_1 (jn @dS.eq_1 (jn @dI.eq_1 (jn @hc (jn @int_bne (jn @encX_len (jn @encS_len (jn @encD_len (jn @c1 (jn @c2' @c2''))))))))))))) ?_
  show retQ _ _ _ _ _
  exact ⟨.inr rfl, _, _, rfl, rfl⟩
 rw [if_neg (fun h => h.elim (fun h => h c1) (fun h => h c2))]
 refine wkc (jn @aG.eq_1 (jn @Pl.cells.eq_1 (jn @Y.cells_eq (jn @dL.eq_1 (jn @dS.eq_1 (jn @dI.eq_1 (jn @hc (jn @int_bne (jn @encX_len (jn @encS_len (jn @encD_len (jn @c1 @c2)))))))))))) ?_
 apply WP.loop' (I := fun D s => ∃ j : Nat, j + D = y.args.length ∧ argsW w (y.args.drop j) (g.inn.drop j) = argsW w y.args g.inn ∧ SE [(2, .ptr 0 0 0), (3, .ptr 1 1 0), (5, .ptr 2 2 0), (7, dI j)] [(0, ⟨0, false, w.cells.map .d⟩), (1, ⟨1, false, y.cells.map .d⟩), (2, ⟨2, false, g.cells.map .d⟩)] 3 s) (d := y.args.length)
 ·exact ⟨0, by simp, by simp, SE.mk (by simp [dI]) (by simp [Pl.cells, Y.cells_eq, Cl.cells])⟩
 rintro D _ ⟨j, hj, hv, cc, rfl⟩
 refine wk (jn @dI.eq_1 (jn @dL.eq_1 (jn @Pl.cells.eq_1 (jn @Y.cells_eq (jn @Cl.cells.eq_1 @encX_len))))) ?_
 show WP _ _ _ _ _ _
 refine WP.cond _ rfl (fun hb => ?_) (fun hb => ?_)
 ·simp at hb
  have hb' : j < y.args.length := by omega
  have hb2 : j < g.inn.length := by omega
  obtain ⟨x, hx, hxm, hix⟩ := at_lt hb'
  obtain ⟨d, hd, hdm, hid⟩ := at_lt hb2
  have hx' := encX_at hx
  have hd' := encD_at hd
  have hwj := w_succ hb' (by omega)
  have hxok := (okX_iff _).1 hok x hxm
  have hr := expr115 w hw x (by have := mem_szX hxm; unfold MX; omega) hxok
  simp only [aG, Pl.cells, X.cells_eq, List.map_cons, List.map_nil, dI] at hr
  rw [drop_at hx, drop_at hd, argsW] at hv
  by_cases hz : (exprW w x).2 = 0
  case neg =>
   have hz' := eq_false hz
   have ha : argE w x d = (exprW w x).2 := by unfold argE; rw [if_pos hz]
   rw [ha, if_pos hz] at hv
   rw [← hv, if_pos hz]
   refine wkc (jn @dI.eq_1 (jn @dL.eq_1 (jn @Pl.cells.eq_1 (jn @Y.cells_eq (jn @Cl.cells.eq_1 (jn @encX_len (jn @hix (jn @hx' (jn @X.cells_eq (jn @hr (jn @int_bne @hz'))))))))))) ?_
   show retQ _ _ _ _ _
   exact ⟨.inr rfl, _, _, rfl, rfl⟩
  rw [hz] at hr
  by_cases ht : (exprW w x).1 = d.t
  case neg =>
   have ht' := eq_false ht
   have ha : argE w x d = 10 := by unfold argE; rw [if_neg (by simp [hz]), if_pos ht]
   rw [ha, if_pos (by decide)] at hv
   rw [← hv, if_pos (by decide)]
   refine wkc (jn @dI.eq_1 (jn @dL.eq_1 (jn @Pl.cells.eq_1 (jn @Y.cells_eq (jn @Cl.cells.eq_1 (jn @encX_len (jn @encD_len (jn @hix (jn @hid (jn @hx' (jn @hd' (jn @X.cells_eq (jn @Dc.cells.eq_1 (jn @hr (jn @int_bne @ht'))))))))))))))) ?_
   show retQ _ _ _ _ _
   exact ⟨.inr rfl, _, _, rfl, rfl⟩
  have ha : argE w x d = 0 := by unfold argE; rw [if_neg (by simp [hz]), if_neg (by simp [ht])]
  rw [ha, if_neg (by decide)] at hv
  have ht' := eq_true ht
  refine wkc (jn @dI.eq_1 (jn @dL.eq_1 (jn @Pl.cells.eq_1 (jn @Y.cells_eq (jn @Cl.cells.eq_1 (jn @encX_len (jn @encD_len (jn @hix (jn @hid (jn @hx' (jn @hd' (jn @X.cells_eq (jn @Dc.cells.eq_1 (jn @hr (jn @int_bne @ht'))))))))))))))) ?_
  refine loop_next (by simp [hwj]; exact Is.rfl) ?_
  exact ⟨D - 1, by omega, j + 1, by omega, hv, SE.mk (by simp [dI, hwj]) (by simp [Pl.cells, Y.cells_eq, Cl.cells])⟩
 ·simp at hb
  have hje : j = y.args.length := by omega
  rw [hje, List.drop_length, argsW_nil] at hv
  rw [← hv, if_neg (by decide)]
  refine wkc (jn @dI.eq_1 (jn @dL.eq_1 (jn @Pl.cells.eq_1 (jn @Y.cells_eq @Cl.cells.eq_1)))) ?_
  apply WP.loop' (I := fun D s => ∃ j : Nat, j + D = y.outs.length ∧ outsW w (y.outs.take j) (y.outs.drop j) (g.out.drop j) = outsW w [] y.outs g.out ∧ SE [(2, .ptr 0 0 0), (3, .ptr 1 1 0), (5, .ptr 2 2 0), (10, dI j)] [(0, ⟨0, false, w.cells.map .d⟩), (1, ⟨1, false, y.cells.map .d⟩), (2, ⟨2, false, g.cells.map .d⟩)] 3 s) (d := y.outs.length)
  ·exact ⟨0, by simp, by simp, SE.mk (by simp [dI]) (by simp [Pl.cells, Y.cells_eq, Cl.cells])⟩
  clear hv hj hje hb
  rintro D2 _ ⟨j, hj, hv, cc2, rfl⟩
  refine wk (jn @dI.eq_1 (jn @dL.eq_1 (jn @Pl.cells.eq_1 (jn @Y.cells_eq (jn @Cl.cells.eq_1 @encS_len))))) ?_
  show WP _ _ _ _ _ _
  refine WP.cond _ rfl (fun hb => ?_) (fun hb => ?_)
  ·simp at hb
   have hb' : j < y.outs.length := by omega
   have hb2 : j < g.out.length := by omega
   obtain ⟨x, hx, hxm, hix⟩ := at_lt hb'
   obtain ⟨d, hd, hdm, hid⟩ := at_lt hb2
   have hx' := encS_at hx
   have hd' := encD_at hd
   have hwj := w_succ hb' (by omega)
   have h5 := hs5 x
   have h6 := ht6 x d.t
   have h75 := has75 (y.outs.take j) x (by unfold MX; rw [List.length_take]; omega)
   simp only [dL, dS, dB] at h75
   rw [drop_at hx, drop_at hd, outsW] at hv
   have htk := take_snoc hx
   have hsl := fun look e b z => slice_rows look e b z (encS_row y.outs) (j := j) (by rw [encS_len]; omega)
   have etk := encS_take y.outs j
   by_cases c5 : setT w.c x = 0
   ·have ha : outE w (y.outs.take j) x d = 6 := by unfold outE; rw [if_pos c5]
    rw [ha, if_pos (by decide)] at hv
    rw [← hv]
    rw [c5] at h5
    refine wkc (jn @dI.eq_1 (jn @dL.eq_1 (jn @Pl.cells.eq_1 (jn @Y.cells_eq (jn @Cl.cells.eq_1 (jn @encS_len (jn @hix (jn @hx' @h5)))))))) ?_
    show retQ _ _ _ _ _
    exact ⟨.inr rfl, _, _, rfl, rfl⟩
   have c5' := eq_false c5
   by_cases c7 : x ∈ y.outs.take j
   ·have ha : outE w (y.outs.take j) x d = 7 := by unfold outE; rw [if_neg c5, if_pos c7]
    rw [ha, if_pos (by decide)] at hv
    rw [← hv]
    rw [dTrue c7] at h75
    refine wkc (jn @dI.eq_1 (jn @dL.eq_1 (jn @Pl.cells.eq_1 (jn @Y.cells_eq (jn @Cl.cells.eq_1 (jn @encS_len (jn @hix (jn @hx' (jn @h5 (jn @c5' (jn @int_beq (jn @hsl (jn @etk @h75))))))))))))) ?_
    show retQ _ _ _ _ _
    exact ⟨.inr rfl, _, _, rfl, rfl⟩
   rw [dFalse c7] at h75
   have ha : outE w (y.outs.take j) x d = targetW w x d.t := by unfold outE; rw [if_neg c5, if_neg c7]
   rw [ha, ← htk] at hv
   by_cases c6 : targetW w x d.t = 0
   case neg =>
    have c6' := eq_false c6
    rw [if_pos c6] at hv
    rw [← hv]
    refine wkc (jn @dI.eq_1 (jn @dL.eq_1 (jn @Pl.cells.eq_1 (jn @Y.cells_eq (jn @Cl.cells.eq_1 (jn @Dc.cells.eq_1 (jn @encS_len (jn @encD_len (jn @hix (jn @hx' (jn @hid (jn @hd' (jn @h5 (jn @h6 (jn @c5' (jn @c6' (jn @int_beq (jn @int_bne (jn @hsl (jn @etk @h75)))))))))))))))))))) ?_
    show retQ _ _ _ _ _
    exact ⟨.inr rfl, _, _, rfl, rfl⟩
   rw [if_neg (by simp [c6])] at hv
   rw [c6] at h6
   refine wkc (jn @dI.eq_1 (jn @dL.eq_1 (jn @Pl.cells.eq_1 (jn @Y.cells_eq (jn @Cl.cells.eq_1 (jn @Dc.cells.eq_1 (jn @encS_len (jn @encD_len (jn @hix (jn @hx' (jn @hid (jn @hd' (jn @h5 (jn @h6 (jn @c5' (jn @int_beq (jn @int_bne (jn @hsl (jn @etk @h75))))))))))))))))))) ?_
   refine loop_next (by simp [hwj]; exact Is.rfl) ?_
   exact ⟨D2 - 1, by omega, j + 1, by omega, hv, SE.mk (by simp [dI, hwj]) (by simp [Pl.cells, Y.cells_eq, Cl.cells])⟩
  ·simp at hb
   have hje : j = y.outs.length := by omega
   rw [hje, List.drop_length, outsW_nil] at hv
   rw [← hv]
   refine wkc (jn @dI.eq_1 (jn @dL.eq_1 (jn @Pl.cells.eq_1 (jn @Y.cells_eq @Cl.cells.eq_1)))) ?_
   show retQ _ _ _ _ _
   exact ⟨.inr rfl, _, _, rfl, rfl⟩
end Go.Ac
end
