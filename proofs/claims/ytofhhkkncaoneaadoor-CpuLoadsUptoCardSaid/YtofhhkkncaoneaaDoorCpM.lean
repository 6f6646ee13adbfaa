/- The ranges of an instruction's fields. -/
import Derived.Test.YtofhhkkncaoneaaDoorAcBM
import Derived.Test.YtofhhkkncaoneaaDoorAcDM
import Derived.Test.YtofhhkkncaoneaaDoorAcGM
import Derived.Test.YtofhhkkncaoneaaDoorAcJM
import Derived.Test.YtofhhkkncaoneaaDoorAcMM
import Derived.Test.YtofhhkkncaoneaaDoorAcOM
import Derived.Test.YtofhhkkncaoneaaDoorAcSM
import Derived.Test.YtofhhkkncaoneaaDoorAcXM
import Derived.Test.YtofhhkkncaoneaaDoorAcUcM
import Derived.Test.YtofhhkkncaoneaaDoorAcThM
import Derived.Test.YtofhhkkncaoneaaDoorCpBM
import Derived.Test.YtofhhkkncaoneaaDoorCpD
import Derived.Test.YtofhhkkncaoneaaDoorCpIM
import Derived.Test.YtofhhkkncaoneaaDoorCpK
import Derived.Test.YtofhhkkncaoneaaDoorCpL
import Derived.Calls
import Derived.Orders
import Derived.Laws.World
import Derived.Laws.Sem
import Derived.Laws.Cells
import Derived.Laws.Append
import GoSem.ClaimData
import Derived.Laws.Tables
import Derived.Laws.Slices
import Derived.Laws.Strings
import Derived.Laws.Small
import Derived.KernelRfl
import Derived.Test.YtofhhkkncaoneaaDoorChecked
import Derived.Lib.RuneCount
set_option linter.unusedVariables false
set_option linter.unusedSimpArgs false
set_option maxRecDepth 4000
set_option linter.unusedSimpArgs false
set_option linter.unusedVariables false
namespace Go.Ac
open Go.Proofs

def rK (k : Int) (r q : Rt) (kind x : Int) : Bool :=
  if kind = 1 then wthn x 1 r.regs else if kind = 2 then wthn x 1 r.ini.length else if kind = 3 then decide (-32768 ≤ x) && decide (x ≤ 32767) else if kind = 6 then decide (0 ≤ x) && decide (x < k)
  else if kind = 7 then wthn x q.ini.length r.ini.length else if kind = 8 then wthn x q.inn.length r.regs else if kind = 9 then wthn x q.out.length r.regs else true
def rangB (rs : List Rt) (k : Int) (r : Rt) (i : I) : Bool := acc4 (rK k r (calledR rs i.a)) (kO i.op 0) (kO i.op 1) (kO i.op 2) (kO i.op 3) i.a i.b i.c i.d 4
set_option maxHeartbeats 8000000 in
theorem ranges_den (im : Im) (k : Nat) (r : Rt) (i : I) (h : IsO i.op) (hr : im.rs[k]? = some r) (hl : im.rs.length ≤ MX) (hil : r.ini.length ≤ MX) (hreg : r.regs ≤ 9223372036854775807) : den Tryd.prog Cp.cfg 50 [aM im, dI k, aI i] = some (dB (rangB im.rs k r i)) := by
  have hk := known_den h
  have hf := fields_den i
  have hc := called_den im
  have hw := wthn_den
  unfold MX at hl hil
  have h1 : ∀ x, den Tryd.prog Cp.cfg 64 [dI x, dI 1, dI r.regs] = some (dB (wthn x 1 r.regs)) := fun x => wthn_den x 1 _ (by omega) hreg
  have h2 : ∀ x, den Tryd.prog Cp.cfg 64 [dI x, dI 1, dI r.ini.length] = some (dB (wthn x 1 r.ini.length)) := fun x => wthn_den x 1 _ (by omega) (by omega)
  have h7 : ∀ x (n : Nat), den Tryd.prog Cp.cfg 64 [dI x, dI n, dI r.ini.length] = some (dB (wthn x n r.ini.length)) := fun x n => wthn_den x n _ (by omega) (by omega)
  have h8 : ∀ x (n : Nat), den Tryd.prog Cp.cfg 64 [dI x, dI n, dI r.regs] = some (dB (wthn x n r.regs)) := fun x n => wthn_den x n _ (by omega) hreg
  rw [rowO_eq h] at hk
  have hkl : k < im.rs.length := by rcases Nat.lt_or_ge k im.rs.length with h | h; exact h; rw [List.getElem?_eq_none h] at hr; cases hr
  have hix := idx_lt hkl
  have hr' := encR_at hr
  simp only [dI, dB, aI, aM, aR, Im.cells, Rt.cells, I.cells, List.map_cons, List.map_nil] at hk hf hc h1 h2 h7 h8
  unfold rangB
  obtain ⟨op, a, b, c, d⟩ := i
  simp only at h hk hf ⊢
  have hca := hc a
  generalize calledR im.rs a = q at *
  generalize kO op 0 = k0 at *
  generalize kO op 1 = k1 at *
  generalize kO op 2 = k2 at *
  generalize kO op 3 = k3 at *
  generalize cnO op = cnt at *
  refine den_wp Tryd.func50 rfl (by kernel_rfl) rfl rfl ?_
  refine wkc (And.intro @dI.eq_1 (And.intro @aM.eq_1 (And.intro @Im.cells.eq_1 (And.intro @aI.eq_1 (And.intro @I.cells.eq_1 (And.intro @Rt.cells.eq_1 (And.intro @hk (And.intro @hf (And.intro @hix @hr'))))))))) ?_
  apply WP.loop' (I := fun D s => ∃ i : Nat, i + D = 4 ∧ SE [(1, dI k), (3, .ptr 0 0 0), (5, .ptr 1 1 0), (7, .ptr 2 2 0), (8, .ptr 3 3 0), (10, dB (acc4 (rK k r q) k0 k1 k2 k3 a b c d i)), (25, .agg [dI a, dI b, dI c, dI d]), (26, dI i)] [(0, ⟨0, false, im.cells.map .d⟩), (1, ⟨1, false, [dI op, dI a, dI b, dI c, dI d]⟩), (2, ⟨2, false, r.cells.map .d⟩), (3, ⟨3, false, [.d (.str (nmO op)), dI k0, dI k1, dI k2, dI k3, dI cnt]⟩)] 4 s) (d := 4)
  · exact ⟨0, by simp, SE.mk (by simp [dI, dB, acc4]) (by simp [dI, Rt.cells, Im.cells])⟩
  rintro D _ ⟨i, hi, cc, rfl⟩
  have hi' : i = 0 ∨ i = 1 ∨ i = 2 ∨ i = 3 ∨ i = 4 := by omega
  rcases hi' with rfl | rfl | rfl | rfl | rfl

  · have hs : acc4 (rK k r q) k0 k1 k2 k3 a b c d 1 = (acc4 (rK k r q) k0 k1 k2 k3 a b c d 0 && rK k r q k0 a) := by simp [acc4]
    generalize acc4 (rK k r q) k0 k1 k2 k3 a b c d 0 = ok at hs ⊢
    by_cases q1 : k0 = 1
    · subst q1
      cases ok
      all_goals
        refine wkc (And.intro @dI.eq_1 (And.intro @dB.eq_1 (And.intro @Rt.cells.eq_1 (And.intro @Im.cells.eq_1 @h1)))) ?_
        refine loop_next (by simp; exact Is.rfl) ?_
        exact ⟨3, by omega, 1, by omega, SE.mk (by simp [dI, dB, hs, wl1, wl2, wl3, wl4, rK, int_beq]) (by simp [dI, Rt.cells, Im.cells])⟩
    by_cases q2 : k0 = 2
    · subst q2
      cases ok
      all_goals
        refine wkc (And.intro @dI.eq_1 (And.intro @dB.eq_1 (And.intro @Rt.cells.eq_1 (And.intro @Im.cells.eq_1 @h2)))) ?_
        refine loop_next (by simp; exact Is.rfl) ?_
        exact ⟨3, by omega, 1, by omega, SE.mk (by simp [dI, dB, hs, wl1, wl2, wl3, wl4, rK, int_beq]) (by simp [dI, Rt.cells, Im.cells])⟩
    by_cases q7 : k0 = 7
    · subst q7
      cases ok
      all_goals
        refine wkc (And.intro @dI.eq_1 (And.intro @dB.eq_1 (And.intro @Rt.cells.eq_1 (And.intro @Im.cells.eq_1 (And.intro @hca @h7))))) ?_
        refine loop_next (by simp; exact Is.rfl) ?_
        exact ⟨3, by omega, 1, by omega, SE.mk (by simp [dI, dB, hs, wl1, wl2, wl3, wl4, rK, int_beq]) (by simp [dI, Rt.cells, Im.cells])⟩
    by_cases q8 : k0 = 8
    · subst q8
      cases ok
      all_goals
        refine wkc (And.intro @dI.eq_1 (And.intro @dB.eq_1 (And.intro @Rt.cells.eq_1 (And.intro @Im.cells.eq_1 (And.intro @hca @h8))))) ?_
        refine loop_next (by simp; exact Is.rfl) ?_
        exact ⟨3, by omega, 1, by omega, SE.mk (by simp [dI, dB, hs, wl1, wl2, wl3, wl4, rK, int_beq]) (by simp [dI, Rt.cells, Im.cells])⟩
    by_cases q9 : k0 = 9
    · subst q9
      cases ok
      all_goals
        refine wkc (And.intro @dI.eq_1 (And.intro @dB.eq_1 (And.intro @Rt.cells.eq_1 (And.intro @Im.cells.eq_1 (And.intro @hca @h8))))) ?_
        refine loop_next (by simp; exact Is.rfl) ?_
        exact ⟨3, by omega, 1, by omega, SE.mk (by simp [dI, dB, hs, wl1, wl2, wl3, wl4, rK, int_beq]) (by simp [dI, Rt.cells, Im.cells])⟩
    by_cases q3 : k0 = 3
    · subst q3
      by_cases g1 : -32768 ≤ a
      · have g1' : (-32768 ≤ a) = True := by simp; omega
        cases ok
        all_goals
          refine wkc (And.intro @dI.eq_1 (And.intro @dB.eq_1 (And.intro @Rt.cells.eq_1 (And.intro @Im.cells.eq_1 @g1')))) ?_
          refine loop_next (by simp; exact Is.rfl) ?_
          exact ⟨3, by omega, 1, by omega, SE.mk (by simp [dI, dB, hs, wl1, wl2, wl3, wl4, rK, int_beq, g1']) (by simp [dI, Rt.cells, Im.cells])⟩
      · have g1' : (-32768 ≤ a) = False := by simp; omega
        cases ok
        all_goals
          refine wkc (And.intro @dI.eq_1 (And.intro @dB.eq_1 (And.intro @Rt.cells.eq_1 (And.intro @Im.cells.eq_1 @g1')))) ?_
          refine loop_next (by simp; exact Is.rfl) ?_
          exact ⟨3, by omega, 1, by omega, SE.mk (by simp [dI, dB, hs, wl1, wl2, wl3, wl4, rK, int_beq, g1']) (by simp [dI, Rt.cells, Im.cells])⟩
    by_cases q6 : k0 = 6
    · subst q6
      by_cases g1 : 0 ≤ a
      · have g1' : (0 ≤ a) = True := by simp; omega
        cases ok
        all_goals
          refine wkc (And.intro @dI.eq_1 (And.intro @dB.eq_1 (And.intro @Rt.cells.eq_1 (And.intro @Im.cells.eq_1 @g1')))) ?_
          refine loop_next (by simp; exact Is.rfl) ?_
          exact ⟨3, by omega, 1, by omega, SE.mk (by simp [dI, dB, hs, wl1, wl2, wl3, wl4, rK, int_beq, g1']) (by simp [dI, Rt.cells, Im.cells])⟩
      · have g1' : (0 ≤ a) = False := by simp; omega
        cases ok
        all_goals
          refine wkc (And.intro @dI.eq_1 (And.intro @dB.eq_1 (And.intro @Rt.cells.eq_1 (And.intro @Im.cells.eq_1 @g1')))) ?_
          refine loop_next (by simp; exact Is.rfl) ?_
          exact ⟨3, by omega, 1, by omega, SE.mk (by simp [dI, dB, hs, wl1, wl2, wl3, wl4, rK, int_beq, g1']) (by simp [dI, Rt.cells, Im.cells])⟩
    · refine wkc (And.intro @dI.eq_1 (And.intro @dB.eq_1 (And.intro @Rt.cells.eq_1 (And.intro @Im.cells.eq_1 (And.intro @q1 (And.intro @q2 (And.intro @q3 (And.intro @q6 (And.intro @q7 (And.intro @q8 (And.intro @q9 @int_beq))))))))))) ?_
      refine loop_next (by simp; exact Is.rfl) ?_
      exact ⟨3, by omega, 1, by omega, SE.mk (by simp [dI, dB, hs, wl1, wl2, wl3, wl4, rK, int_beq, q1, q2, q3, q6, q7, q8, q9]) (by simp [dI, Rt.cells, Im.cells])⟩
  · have hs : acc4 (rK k r q) k0 k1 k2 k3 a b c d 2 = (acc4 (rK k r q) k0 k1 k2 k3 a b c d 1 && rK k r q k1 b) := by simp [acc4]
    generalize acc4 (rK k r q) k0 k1 k2 k3 a b c d 1 = ok at hs ⊢
    by_cases q1 : k1 = 1
    · subst q1
      cases ok
      all_goals
        refine wkc (And.intro @dI.eq_1 (And.intro @dB.eq_1 (And.intro @Rt.cells.eq_1 (And.intro @Im.cells.eq_1 @h1)))) ?_
        refine loop_next (by simp; exact Is.rfl) ?_
        exact ⟨2, by omega, 2, by omega, SE.mk (by simp [dI, dB, hs, wl1, wl2, wl3, wl4, rK, int_beq]) (by simp [dI, Rt.cells, Im.cells])⟩
    by_cases q2 : k1 = 2
    · subst q2
      cases ok
      all_goals
        refine wkc (And.intro @dI.eq_1 (And.intro @dB.eq_1 (And.intro @Rt.cells.eq_1 (And.intro @Im.cells.eq_1 @h2)))) ?_
        refine loop_next (by simp; exact Is.rfl) ?_
        exact ⟨2, by omega, 2, by omega, SE.mk (by simp [dI, dB, hs, wl1, wl2, wl3, wl4, rK, int_beq]) (by simp [dI, Rt.cells, Im.cells])⟩
    by_cases q7 : k1 = 7
    · subst q7
      cases ok
      all_goals
        refine wkc (And.intro @dI.eq_1 (And.intro @dB.eq_1 (And.intro @Rt.cells.eq_1 (And.intro @Im.cells.eq_1 (And.intro @hca @h7))))) ?_
        refine loop_next (by simp; exact Is.rfl) ?_
        exact ⟨2, by omega, 2, by omega, SE.mk (by simp [dI, dB, hs, wl1, wl2, wl3, wl4, rK, int_beq]) (by simp [dI, Rt.cells, Im.cells])⟩
    by_cases q8 : k1 = 8
    · subst q8
      cases ok
      all_goals
        refine wkc (And.intro @dI.eq_1 (And.intro @dB.eq_1 (And.intro @Rt.cells.eq_1 (And.intro @Im.cells.eq_1 (And.intro @hca @h8))))) ?_
        refine loop_next (by simp; exact Is.rfl) ?_
        exact ⟨2, by omega, 2, by omega, SE.mk (by simp [dI, dB, hs, wl1, wl2, wl3, wl4, rK, int_beq]) (by simp [dI, Rt.cells, Im.cells])⟩
    by_cases q9 : k1 = 9
    · subst q9
      cases ok
      all_goals
        refine wkc (And.intro @dI.eq_1 (And.intro @dB.eq_1 (And.intro @Rt.cells.eq_1 (And.intro @Im.cells.eq_1 (And.intro @hca @h8))))) ?_
        refine loop_next (by simp; exact Is.rfl) ?_
        exact ⟨2, by omega, 2, by omega, SE.mk (by simp [dI, dB, hs, wl1, wl2, wl3, wl4, rK, int_beq]) (by simp [dI, Rt.cells, Im.cells])⟩
    by_cases q3 : k1 = 3
    · subst q3
      by_cases g1 : -32768 ≤ b
      · have g1' : (-32768 ≤ b) = True := by simp; omega
        cases ok
        all_goals
          refine wkc (And.intro @dI.eq_1 (And.intro @dB.eq_1 (And.intro @Rt.cells.eq_1 (And.intro @Im.cells.eq_1 @g1')))) ?_
          refine loop_next (by simp; exact Is.rfl) ?_
          exact ⟨2, by omega, 2, by omega, SE.mk (by simp [dI, dB, hs, wl1, wl2, wl3, wl4, rK, int_beq, g1']) (by simp [dI, Rt.cells, Im.cells])⟩
      · have g1' : (-32768 ≤ b) = False := by simp; omega
        cases ok
        all_goals
          refine wkc (And.intro @dI.eq_1 (And.intro @dB.eq_1 (And.intro @Rt.cells.eq_1 (And.intro @Im.cells.eq_1 @g1')))) ?_
          refine loop_next (by simp; exact Is.rfl) ?_
          exact ⟨2, by omega, 2, by omega, SE.mk (by simp [dI, dB, hs, wl1, wl2, wl3, wl4, rK, int_beq, g1']) (by simp [dI, Rt.cells, Im.cells])⟩
    by_cases q6 : k1 = 6
    · subst q6
      by_cases g1 : 0 ≤ b
      · have g1' : (0 ≤ b) = True := by simp; omega
        cases ok
        all_goals
          refine wkc (And.intro @dI.eq_1 (And.intro @dB.eq_1 (And.intro @Rt.cells.eq_1 (And.intro @Im.cells.eq_1 @g1')))) ?_
          refine loop_next (by simp; exact Is.rfl) ?_
          exact ⟨2, by omega, 2, by omega, SE.mk (by simp [dI, dB, hs, wl1, wl2, wl3, wl4, rK, int_beq, g1']) (by simp [dI, Rt.cells, Im.cells])⟩
      · have g1' : (0 ≤ b) = False := by simp; omega
        cases ok
        all_goals
          refine wkc (And.intro @dI.eq_1 (And.intro @dB.eq_1 (And.intro @Rt.cells.eq_1 (And.intro @Im.cells.eq_1 @g1')))) ?_
          refine loop_next (by simp; exact Is.rfl) ?_
          exact ⟨2, by omega, 2, by omega, SE.mk (by simp [dI, dB, hs, wl1, wl2, wl3, wl4, rK, int_beq, g1']) (by simp [dI, Rt.cells, Im.cells])⟩
    · refine wkc (And.intro @dI.eq_1 (And.intro @dB.eq_1 (And.intro @Rt.cells.eq_1 (And.intro @Im.cells.eq_1 (And.intro @q1 (And.intro @q2 (And.intro @q3 (And.intro @q6 (And.intro @q7 (And.intro @q8 (And.intro @q9 @int_beq))))))))))) ?_
      refine loop_next (by simp; exact Is.rfl) ?_
      exact ⟨2, by omega, 2, by omega, SE.mk (by simp [dI, dB, hs, wl1, wl2, wl3, wl4, rK, int_beq, q1, q2, q3, q6, q7, q8, q9]) (by simp [dI, Rt.cells, Im.cells])⟩
  · have hs : acc4 (rK k r q) k0 k1 k2 k3 a b c d 3 = (acc4 (rK k r q) k0 k1 k2 k3 a b c d 2 && rK k r q k2 c) := by simp [acc4]
    generalize acc4 (rK k r q) k0 k1 k2 k3 a b c d 2 = ok at hs ⊢
    by_cases q1 : k2 = 1
    · subst q1
      cases ok
      all_goals
        refine wkc (And.intro @dI.eq_1 (And.intro @dB.eq_1 (And.intro @Rt.cells.eq_1 (And.intro @Im.cells.eq_1 @h1)))) ?_
        refine loop_next (by simp; exact Is.rfl) ?_
        exact ⟨1, by omega, 3, by omega, SE.mk (by simp [dI, dB, hs, wl1, wl2, wl3, wl4, rK, int_beq]) (by simp [dI, Rt.cells, Im.cells])⟩
    by_cases q2 : k2 = 2
    · subst q2
      cases ok
      all_goals
        refine wkc (And.intro @dI.eq_1 (And.intro @dB.eq_1 (And.intro @Rt.cells.eq_1 (And.intro @Im.cells.eq_1 @h2)))) ?_
        refine loop_next (by simp; exact Is.rfl) ?_
        exact ⟨1, by omega, 3, by omega, SE.mk (by simp [dI, dB, hs, wl1, wl2, wl3, wl4, rK, int_beq]) (by simp [dI, Rt.cells, Im.cells])⟩
    by_cases q7 : k2 = 7
    · subst q7
      cases ok
      all_goals
        refine wkc (And.intro @dI.eq_1 (And.intro @dB.eq_1 (And.intro @Rt.cells.eq_1 (And.intro @Im.cells.eq_1 (And.intro @hca @h7))))) ?_
        refine loop_next (by simp; exact Is.rfl) ?_
        exact ⟨1, by omega, 3, by omega, SE.mk (by simp [dI, dB, hs, wl1, wl2, wl3, wl4, rK, int_beq]) (by simp [dI, Rt.cells, Im.cells])⟩
    by_cases q8 : k2 = 8
    · subst q8
      cases ok
      all_goals
        refine wkc (And.intro @dI.eq_1 (And.intro @dB.eq_1 (And.intro @Rt.cells.eq_1 (And.intro @Im.cells.eq_1 (And.intro @hca @h8))))) ?_
        refine loop_next (by simp; exact Is.rfl) ?_
        exact ⟨1, by omega, 3, by omega, SE.mk (by simp [dI, dB, hs, wl1, wl2, wl3, wl4, rK, int_beq]) (by simp [dI, Rt.cells, Im.cells])⟩
    by_cases q9 : k2 = 9
    · subst q9
      cases ok
      all_goals
        refine wkc (And.intro @dI.eq_1 (And.intro @dB.eq_1 (And.intro @Rt.cells.eq_1 (And.intro @Im.cells.eq_1 (And.intro @hca @h8))))) ?_
        refine loop_next (by simp; exact Is.rfl) ?_
        exact ⟨1, by omega, 3, by omega, SE.mk (by simp [dI, dB, hs, wl1, wl2, wl3, wl4, rK, int_beq]) (by simp [dI, Rt.cells, Im.cells])⟩
    by_cases q3 : k2 = 3
    · subst q3
      by_cases g1 : -32768 ≤ c
      · have g1' : (-32768 ≤ c) = True := by simp; omega
        cases ok
        all_goals
          refine wkc (And.intro @dI.eq_1 (And.intro @dB.eq_1 (And.intro @Rt.cells.eq_1 (And.intro @Im.cells.eq_1 @g1')))) ?_
          refine loop_next (by simp; exact Is.rfl) ?_
          exact ⟨1, by omega, 3, by omega, SE.mk (by simp [dI, dB, hs, wl1, wl2, wl3, wl4, rK, int_beq, g1']) (by simp [dI, Rt.cells, Im.cells])⟩
      · have g1' : (-32768 ≤ c) = False := by simp; omega
        cases ok
        all_goals
          refine wkc (And.intro @dI.eq_1 (And.intro @dB.eq_1 (And.intro @Rt.cells.eq_1 (And.intro @Im.cells.eq_1 @g1')))) ?_
          refine loop_next (by simp; exact Is.rfl) ?_
          exact ⟨1, by omega, 3, by omega, SE.mk (by simp [dI, dB, hs, wl1, wl2, wl3, wl4, rK, int_beq, g1']) (by simp [dI, Rt.cells, Im.cells])⟩
    by_cases q6 : k2 = 6
    · subst q6
      by_cases g1 : 0 ≤ c
      · have g1' : (0 ≤ c) = True := by simp; omega
        cases ok
        all_goals
          refine wkc (And.intro @dI.eq_1 (And.intro @dB.eq_1 (And.intro @Rt.cells.eq_1 (And.intro @Im.cells.eq_1 @g1')))) ?_
          refine loop_next (by simp; exact Is.rfl) ?_
          exact ⟨1, by omega, 3, by omega, SE.mk (by simp [dI, dB, hs, wl1, wl2, wl3, wl4, rK, int_beq, g1']) (by simp [dI, Rt.cells, Im.cells])⟩
      · have g1' : (0 ≤ c) = False := by simp; omega
        cases ok
        all_goals
          refine wkc (And.intro @dI.eq_1 (And.intro @dB.eq_1 (And.intro @Rt.cells.eq_1 (And.intro @Im.cells.eq_1 @g1')))) ?_
          refine loop_next (by simp; exact Is.rfl) ?_
          exact ⟨1, by omega, 3, by omega, SE.mk (by simp [dI, dB, hs, wl1, wl2, wl3, wl4, rK, int_beq, g1']) (by simp [dI, Rt.cells, Im.cells])⟩
    · refine wkc (And.intro @dI.eq_1 (And.intro @dB.eq_1 (And.intro @Rt.cells.eq_1 (And.intro @Im.cells.eq_1 (And.intro @q1 (And.intro @q2 (And.intro @q3 (And.intro @q6 (And.intro @q7 (And.intro @q8 (And.intro @q9 @int_beq))))))))))) ?_
      refine loop_next (by simp; exact Is.rfl) ?_
      exact ⟨1, by omega, 3, by omega, SE.mk (by simp [dI, dB, hs, wl1, wl2, wl3, wl4, rK, int_beq, q1, q2, q3, q6, q7, q8, q9]) (by simp [dI, Rt.cells, Im.cells])⟩
  · have hs : acc4 (rK k r q) k0 k1 k2 k3 a b c d 4 = (acc4 (rK k r q) k0 k1 k2 k3 a b c d 3 && rK k r q k3 d) := by simp [acc4]
    generalize acc4 (rK k r q) k0 k1 k2 k3 a b c d 3 = ok at hs ⊢
    by_cases q1 : k3 = 1
    · subst q1
      cases ok
      all_goals
        refine wkc (And.intro @dI.eq_1 (And.intro @dB.eq_1 (And.intro @Rt.cells.eq_1 (And.intro @Im.cells.eq_1 @h1)))) ?_
        refine loop_next (by simp; exact Is.rfl) ?_
        exact ⟨0, by omega, 4, by omega, SE.mk (by simp [dI, dB, hs, wl1, wl2, wl3, wl4, rK, int_beq]) (by simp [dI, Rt.cells, Im.cells])⟩
    by_cases q2 : k3 = 2
    · subst q2
      cases ok
      all_goals
        refine wkc (And.intro @dI.eq_1 (And.intro @dB.eq_1 (And.intro @Rt.cells.eq_1 (And.intro @Im.cells.eq_1 @h2)))) ?_
        refine loop_next (by simp; exact Is.rfl) ?_
        exact ⟨0, by omega, 4, by omega, SE.mk (by simp [dI, dB, hs, wl1, wl2, wl3, wl4, rK, int_beq]) (by simp [dI, Rt.cells, Im.cells])⟩
    by_cases q7 : k3 = 7
    · subst q7
      cases ok
      all_goals
        refine wkc (And.intro @dI.eq_1 (And.intro @dB.eq_1 (And.intro @Rt.cells.eq_1 (And.intro @Im.cells.eq_1 (And.intro @hca @h7))))) ?_
        refine loop_next (by simp; exact Is.rfl) ?_
        exact ⟨0, by omega, 4, by omega, SE.mk (by simp [dI, dB, hs, wl1, wl2, wl3, wl4, rK, int_beq]) (by simp [dI, Rt.cells, Im.cells])⟩
    by_cases q8 : k3 = 8
    · subst q8
      cases ok
      all_goals
        refine wkc (And.intro @dI.eq_1 (And.intro @dB.eq_1 (And.intro @Rt.cells.eq_1 (And.intro @Im.cells.eq_1 (And.intro @hca @h8))))) ?_
        refine loop_next (by simp; exact Is.rfl) ?_
        exact ⟨0, by omega, 4, by omega, SE.mk (by simp [dI, dB, hs, wl1, wl2, wl3, wl4, rK, int_beq]) (by simp [dI, Rt.cells, Im.cells])⟩
    by_cases q9 : k3 = 9
    · subst q9
      cases ok
      all_goals
        refine wkc (And.intro @dI.eq_1 (And.intro @dB.eq_1 (And.intro @Rt.cells.eq_1 (And.intro @Im.cells.eq_1 (And.intro @hca @h8))))) ?_
        refine loop_next (by simp; exact Is.rfl) ?_
        exact ⟨0, by omega, 4, by omega, SE.mk (by simp [dI, dB, hs, wl1, wl2, wl3, wl4, rK, int_beq]) (by simp [dI, Rt.cells, Im.cells])⟩
    by_cases q3 : k3 = 3
    · subst q3
      by_cases g1 : -32768 ≤ d
      · have g1' : (-32768 ≤ d) = True := by simp; omega
        cases ok
        all_goals
          refine wkc (And.intro @dI.eq_1 (And.intro @dB.eq_1 (And.intro @Rt.cells.eq_1 (And.intro @Im.cells.eq_1 @g1')))) ?_
          refine loop_next (by simp; exact Is.rfl) ?_
          exact ⟨0, by omega, 4, by omega, SE.mk (by simp [dI, dB, hs, wl1, wl2, wl3, wl4, rK, int_beq, g1']) (by simp [dI, Rt.cells, Im.cells])⟩
      · have g1' : (-32768 ≤ d) = False := by simp; omega
        cases ok
        all_goals
          refine wkc (And.intro @dI.eq_1 (And.intro @dB.eq_1 (And.intro @Rt.cells.eq_1 (And.intro @Im.cells.eq_1 @g1')))) ?_
          refine loop_next (by simp; exact Is.rfl) ?_
          exact ⟨0, by omega, 4, by omega, SE.mk (by simp [dI, dB, hs, wl1, wl2, wl3, wl4, rK, int_beq, g1']) (by simp [dI, Rt.cells, Im.cells])⟩
    by_cases q6 : k3 = 6
    · subst q6
      by_cases g1 : 0 ≤ d
      · have g1' : (0 ≤ d) = True := by simp; omega
        cases ok
        all_goals
          refine wkc (And.intro @dI.eq_1 (And.intro @dB.eq_1 (And.intro @Rt.cells.eq_1 (And.intro @Im.cells.eq_1 @g1')))) ?_
          refine loop_next (by simp; exact Is.rfl) ?_
          exact ⟨0, by omega, 4, by omega, SE.mk (by simp [dI, dB, hs, wl1, wl2, wl3, wl4, rK, int_beq, g1']) (by simp [dI, Rt.cells, Im.cells])⟩
      · have g1' : (0 ≤ d) = False := by simp; omega
        cases ok
        all_goals
          refine wkc (And.intro @dI.eq_1 (And.intro @dB.eq_1 (And.intro @Rt.cells.eq_1 (And.intro @Im.cells.eq_1 @g1')))) ?_
          refine loop_next (by simp; exact Is.rfl) ?_
          exact ⟨0, by omega, 4, by omega, SE.mk (by simp [dI, dB, hs, wl1, wl2, wl3, wl4, rK, int_beq, g1']) (by simp [dI, Rt.cells, Im.cells])⟩
    · refine wkc (And.intro @dI.eq_1 (And.intro @dB.eq_1 (And.intro @Rt.cells.eq_1 (And.intro @Im.cells.eq_1 (And.intro @q1 (And.intro @q2 (And.intro @q3 (And.intro @q6 (And.intro @q7 (And.intro @q8 (And.intro @q9 @int_beq))))))))))) ?_
      refine loop_next (by simp; exact Is.rfl) ?_
      exact ⟨0, by omega, 4, by omega, SE.mk (by simp [dI, dB, hs, wl1, wl2, wl3, wl4, rK, int_beq, q1, q2, q3, q6, q7, q8, q9]) (by simp [dI, Rt.cells, Im.cells])⟩
  · refine wkc (And.intro @dI.eq_1 @dB.eq_1) ?_
    show retQ _ _ _ _ _
    exact ⟨.inr rfl, _, _, rfl, rfl⟩
end Go.Ac
