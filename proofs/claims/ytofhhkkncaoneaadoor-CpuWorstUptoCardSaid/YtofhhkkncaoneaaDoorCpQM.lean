/- The check. -/
import Derived.Test.YtofhhkkncaoneaaDoorAcBM
import Derived.Test.YtofhhkkncaoneaaDoorAcDM
import Derived.Test.YtofhhkkncaoneaaDoorAcGM
import Derived.Test.YtofhhkkncaoneaaDoorAcJM
import Derived.Test.YtofhhkkncaoneaaDoorAcMM
import Derived.Test.YtofhhkkncaoneaaDoorAcSM
import Derived.Test.YtofhhkkncaoneaaDoorAcXM
import Derived.Test.YtofhhkkncaoneaaDoorAcUcM
import Derived.Test.YtofhhkkncaoneaaDoorAcThM
import Derived.Test.YtofhhkkncaoneaaDoorCpBM
import Derived.Test.YtofhhkkncaoneaaDoorCpD
import Derived.Test.YtofhhkkncaoneaaDoorCpF
import Derived.Test.YtofhhkkncaoneaaDoorCpIM
import Derived.Test.YtofhhkkncaoneaaDoorCpJ
import Derived.Test.YtofhhkkncaoneaaDoorCpK
import Derived.Test.YtofhhkkncaoneaaDoorCpL
import Derived.Test.YtofhhkkncaoneaaDoorCpM
import Derived.Test.YtofhhkkncaoneaaDoorCrTM
import Derived.Test.YtofhhkkncaoneaaDoorCqFM
import Derived.Test.YtofhhkkncaoneaaDoorCpWM
import Derived.Calls
import Derived.Orders
import Derived.Laws.World
import Derived.Laws.Sem
import Derived.Laws.Cells
import Derived.Laws.Append
import GoSem.ClaimData
import Derived.Laws.Tables
import Derived.Laws.Slices
import Derived.Laws.Strings
import Derived.Laws.Small
import Derived.KernelRfl
import Derived.Test.YtofhhkkncaoneaaDoorChecked
import Derived.Lib.RuneCount
import Derived.Lib.DecodeN
set_option linter.unusedVariables false
set_option linter.unusedSimpArgs false
section
set_option maxRecDepth 4000
set_option linter.unusedSimpArgs false
set_option linter.unusedVariables false
namespace Go.Ac
open Go.Proofs

def tailB (at_ lenC : Int) (i : I) : Bool := if i.op = 5 then decide (i.c = 1) || decide (i.c = 2) else if i.op = 6 then decide (3 ≤ i.d) && decide (i.d ≤ 16) else if i.op = 7 ∨ i.op = 8 then decide (at_ < i.b) && decide (i.b ≤ lenC) else true
theorem opn1 (x : Int) : decide (opn x = 1) = (decide (x = 1) || decide (x = 2)) := by
  unfold opn; rw [Bool.eq_iff_iff]; simp
  split <;> first | omega | (split <;> omega)
theorem opn2 (x : Int) : decide (opn x = 2) = (decide (3 ≤ x) && decide (x ≤ 16)) := by
  unfold opn; rw [Bool.eq_iff_iff]; simp
  split <;> first | omega | (split <;> omega)
theorem formB_bad {at_ lenC : Int} {i : I} (h : IsO i.op) {c : UInt8} (hc : c = 65 ∨ c = 66 ∨ c = 67 ∨ c = 68) (h1 : hasB i.op c = false) (h2 : xO i c ≠ 0) : formB at_ lenC i = false := by
  obtain ⟨op, a, b, c', d⟩ := i
  simp only at h h1 h2
  rcases h with rfl | rfl | rfl | rfl | rfl | rfl | rfl | rfl | rfl | rfl <;> rcases hc with rfl | rfl | rfl | rfl <;> first | (exfalso; revert h1; decide) | (simp [xO] at h2; simp [formB, acc4, fK, kO, ksO, cnO, h2])
theorem formB_good {at_ lenC : Int} {i : I} (h : IsO i.op) (h0 : hasB i.op 65 = true ∨ xO i 65 = 0) (h1 : hasB i.op 66 = true ∨ xO i 66 = 0) (h2 : hasB i.op 67 = true ∨ xO i 67 = 0) (h3 : hasB i.op 68 = true ∨ xO i 68 = 0) : formB at_ lenC i = tailB at_ lenC i := by
  obtain ⟨op, a, b, c, d⟩ := i
  simp only [xO] at h h0 h1 h2 h3
  simp at h0 h1 h2 h3
  rcases h with rfl | rfl | rfl | rfl | rfl | rfl | rfl | rfl | rfl | rfl <;> simp [hasB, fsO] at h0 h1 h2 h3 <;> simp [formB, tailB, acc4, fK, kO, ksO, cnO, opn1, opn2, h0, h1, h2, h3]

theorem rform_no (i : I) (at_ lenC : Int) (h : ¬ IsO i.op) : den Tryd.prog Cp.cfg 53 [aI i, dI at_, dI lenC] = some (dB false) := by
  refine den_wp Tryd.func53 rfl (by kernel_rfl) rfl rfl ?_
  by_cases h0 : i.op < 1
  · refine wkc (And.intro @dI.eq_1 (And.intro @aI.eq_1 (And.intro @I.cells.eq_1 @h0))) ?_
    show retQ _ _ _ _ _
    exact ⟨.inr rfl, _, _, rfl, rfl⟩
  · have h1 : 10 < i.op := by unfold IsO at h; omega
    refine wkc (And.intro @dI.eq_1 (And.intro @aI.eq_1 (And.intro @I.cells.eq_1 (And.intro @h0 @h1)))) ?_
    show retQ _ _ _ _ _
    exact ⟨.inr rfl, _, _, rfl, rfl⟩
set_option maxHeartbeats 4000000 in
theorem rform_yes (i : I) (at_ lenC : Int) (h : IsO i.op) : den Tryd.prog Cp.cfg 53 [aI i, dI at_, dI lenC] = some (dB (formB at_ lenC i)) := by
  have o1 : (i.op < 1) = False := by simp; rcases h with h | h | h | h | h | h | h | h | h | h <;> omega
  have o2 : (10 < i.op) = False := by simp; rcases h with h | h | h | h | h | h | h | h | h | h <;> omega
  have hf := rfields_den h
  have A0 : den Tryd.prog Cp.cfg 66 [dS (fsO i.op), .d (.int .u8 65)] = some (dB (hasB i.op 65)) := has_den h (c := 65) (by simp)
  have A1 : den Tryd.prog Cp.cfg 66 [dS (fsO i.op), .d (.int .u8 66)] = some (dB (hasB i.op 66)) := has_den h (c := 66) (by simp)
  have A2 : den Tryd.prog Cp.cfg 66 [dS (fsO i.op), .d (.int .u8 67)] = some (dB (hasB i.op 67)) := has_den h (c := 67) (by simp)
  have A3 : den Tryd.prog Cp.cfg 66 [dS (fsO i.op), .d (.int .u8 68)] = some (dB (hasB i.op 68)) := has_den h (c := 68) (by simp)
  have B0 : den Tryd.prog Cp.cfg 68 [aI i, .d (.int .u8 65)] = some (dI (xO i 65)) := rfield_den i (c := 65) (by simp)
  have B1 : den Tryd.prog Cp.cfg 68 [aI i, .d (.int .u8 66)] = some (dI (xO i 66)) := rfield_den i (c := 66) (by simp)
  have B2 : den Tryd.prog Cp.cfg 68 [aI i, .d (.int .u8 67)] = some (dI (xO i 67)) := rfield_den i (c := 67) (by simp)
  have B3 : den Tryd.prog Cp.cfg 68 [aI i, .d (.int .u8 68)] = some (dI (xO i 68)) := rfield_den i (c := 68) (by simp)
  simp only [dI, dB, dS, aI, I.cells, List.map_cons, List.map_nil] at hf A0 A1 A2 A3 B0 B1 B2 B3
  refine den_wp Tryd.func53 rfl (by kernel_rfl) rfl rfl ?_
  refine wkc (And.intro @dI.eq_1 (And.intro @aI.eq_1 (And.intro @I.cells.eq_1 (And.intro @o1 @o2)))) ?_
  apply WP.loop' (I := fun D s => ∃ k : Nat, k + D = 4 ∧ (0 < k → hasB i.op 65 = true ∨ xO i 65 = 0) ∧ (1 < k → hasB i.op 66 = true ∨ xO i 66 = 0) ∧ (2 < k → hasB i.op 67 = true ∨ xO i 67 = 0) ∧ (3 < k → hasB i.op 68 = true ∨ xO i 68 = 0) ∧ SE [(1, dI at_), (2, dI lenC), (3, .ptr 0 0 0), (7, .d (.str [65, 66, 67, 68])), (8, dI k)] [(0, ⟨0, false, i.cells.map .d⟩)] 1 s) (d := 4)
  · exact ⟨0, by simp, by simp, by simp, by simp, by simp, SE.mk (by simp [dI]) (by simp [I.cells])⟩
  rintro D _ ⟨k, hk, g0, g1, g2, g3, cc, rfl⟩
  have hk' : k = 0 ∨ k = 1 ∨ k = 2 ∨ k = 3 ∨ k = 4 := by omega
  rcases hk' with rfl | rfl | rfl | rfl | rfl
  · cases hh : hasB i.op 65 with
    | true =>
      rw [hh] at A0
      refine wkc (And.intro @dI.eq_1 (And.intro @I.cells.eq_1 (And.intro @hf (And.intro @A0 (And.intro @dI.eq_1 @idx.eq_def))))) ?_
      refine loop_next (by simp [wl1]; exact Is.rfl) ?_
      exact ⟨D - 1, by omega, 1, by omega, fun _ => by simp [hh], by intro h; omega, by intro h; omega, by intro h; omega, SE.mk (by simp [dI, wl1]) (by simp [I.cells])⟩
    | false =>
      rw [hh] at A0
      by_cases hx : xO i 65 = 0
      · rw [hx] at B0
        refine wkc (And.intro @dI.eq_1 (And.intro @I.cells.eq_1 (And.intro @hf (And.intro @A0 (And.intro @B0 @idx.eq_def))))) ?_
        refine loop_next (by simp [wl1]; exact Is.rfl) ?_
        exact ⟨D - 1, by omega, 1, by omega, fun _ => by simp [hx], by intro h; omega, by intro h; omega, by intro h; omega, SE.mk (by simp [dI, wl1]) (by simp [I.cells])⟩
      · rw [formB_bad h (c := 65) (by simp) hh hx]
        refine wkc (And.intro @dI.eq_1 (And.intro @I.cells.eq_1 (And.intro @hf (And.intro @A0 (And.intro @B0 (And.intro @idx.eq_def (And.intro @hx @int_bne))))))) ?_
        show retQ _ _ _ _ _
        exact ⟨.inr rfl, _, _, rfl, rfl⟩
  · cases hh : hasB i.op 66 with
    | true =>
      rw [hh] at A1
      refine wkc (And.intro @dI.eq_1 (And.intro @I.cells.eq_1 (And.intro @hf (And.intro @A1 (And.intro @dI.eq_1 @idx.eq_def))))) ?_
      refine loop_next (by simp [wl2]; exact Is.rfl) ?_
      exact ⟨D - 1, by omega, 2, by omega, by intro _; exact g0 (by omega), fun _ => by simp [hh], by intro h; omega, by intro h; omega, SE.mk (by simp [dI, wl2]) (by simp [I.cells])⟩
    | false =>
      rw [hh] at A1
      by_cases hx : xO i 66 = 0
      · rw [hx] at B1
        refine wkc (And.intro @dI.eq_1 (And.intro @I.cells.eq_1 (And.intro @hf (And.intro @A1 (And.intro @B1 @idx.eq_def))))) ?_
        refine loop_next (by simp [wl2]; exact Is.rfl) ?_
        exact ⟨D - 1, by omega, 2, by omega, by intro _; exact g0 (by omega), fun _ => by simp [hx], by intro h; omega, by intro h; omega, SE.mk (by simp [dI, wl2]) (by simp [I.cells])⟩
      · rw [formB_bad h (c := 66) (by simp) hh hx]
        refine wkc (And.intro @dI.eq_1 (And.intro @I.cells.eq_1 (And.intro @hf (And.intro @A1 (And.intro @B1 (And.intro @idx.eq_def (And.intro @hx @int_bne))))))) ?_
        show retQ _ _ _ _ _
        exact ⟨.inr rfl, _, _, rfl, rfl⟩
  · cases hh : hasB i.op 67 with
    | true =>
      rw [hh] at A2
      refine wkc (And.intro @dI.eq_1 (And.intro @I.cells.eq_1 (And.intro @hf (And.intro @A2 (And.intro @dI.eq_1 @idx.eq_def))))) ?_
      refine loop_next (by simp [wl3]; exact Is.rfl) ?_
      exact ⟨D - 1, by omega, 3, by omega, by intro _; exact g0 (by omega), by intro _; exact g1 (by omega), fun _ => by simp [hh], by intro h; omega, SE.mk (by simp [dI, wl3]) (by simp [I.cells])⟩
    | false =>
      rw [hh] at A2
      by_cases hx : xO i 67 = 0
      · rw [hx] at B2
        refine wkc (And.intro @dI.eq_1 (And.intro @I.cells.eq_1 (And.intro @hf (And.intro @A2 (And.intro @B2 @idx.eq_def))))) ?_
        refine loop_next (by simp [wl3]; exact Is.rfl) ?_
        exact ⟨D - 1, by omega, 3, by omega, by intro _; exact g0 (by omega), by intro _; exact g1 (by omega), fun _ => by simp [hx], by intro h; omega, SE.mk (by simp [dI, wl3]) (by simp [I.cells])⟩
      · rw [formB_bad h (c := 67) (by simp) hh hx]
        refine wkc (And.intro @dI.eq_1 (And.intro @I.cells.eq_1 (And.intro @hf (And.intro @A2 (And.intro @B2 (And.intro @idx.eq_def (And.intro @hx @int_bne))))))) ?_
        show retQ _ _ _ _ _
        exact ⟨.inr rfl, _, _, rfl, rfl⟩
  · cases hh : hasB i.op 68 with
    | true =>
      rw [hh] at A3
      refine wkc (And.intro @dI.eq_1 (And.intro @I.cells.eq_1 (And.intro @hf (And.intro @A3 (And.intro @dI.eq_1 @idx.eq_def))))) ?_
      refine loop_next (by simp [wl4]; exact Is.rfl) ?_
      exact ⟨D - 1, by omega, 4, by omega, by intro _; exact g0 (by omega), by intro _; exact g1 (by omega), by intro _; exact g2 (by omega), fun _ => by simp [hh], SE.mk (by simp [dI, wl4]) (by simp [I.cells])⟩
    | false =>
      rw [hh] at A3
      by_cases hx : xO i 68 = 0
      · rw [hx] at B3
        refine wkc (And.intro @dI.eq_1 (And.intro @I.cells.eq_1 (And.intro @hf (And.intro @A3 (And.intro @B3 @idx.eq_def))))) ?_
        refine loop_next (by simp [wl4]; exact Is.rfl) ?_
        exact ⟨D - 1, by omega, 4, by omega, by intro _; exact g0 (by omega), by intro _; exact g1 (by omega), by intro _; exact g2 (by omega), fun _ => by simp [hx], SE.mk (by simp [dI, wl4]) (by simp [I.cells])⟩
      · rw [formB_bad h (c := 68) (by simp) hh hx]
        refine wkc (And.intro @dI.eq_1 (And.intro @I.cells.eq_1 (And.intro @hf (And.intro @A3 (And.intro @B3 (And.intro @idx.eq_def (And.intro @hx @int_bne))))))) ?_
        show retQ _ _ _ _ _
        exact ⟨.inr rfl, _, _, rfl, rfl⟩
  · rw [formB_good h (g0 (by omega)) (g1 (by omega)) (g2 (by omega)) (g3 (by omega))]
    clear hf A0 A1 A2 A3 B0 B1 B2 B3 g0 g1 g2 g3 o1 o2
    obtain ⟨op, a, b, c, d⟩ := i
    simp only at h
    rcases h with rfl | rfl | rfl | rfl | rfl | rfl | rfl | rfl | rfl | rfl
    · refine wkc (And.intro @dI.eq_1 @I.cells.eq_1) ?_
      show retQ _ _ _ _ _
      exact ⟨.inr rfl, _, _, rfl, rfl⟩
    · refine wkc (And.intro @dI.eq_1 @I.cells.eq_1) ?_
      show retQ _ _ _ _ _
      exact ⟨.inr rfl, _, _, rfl, rfl⟩
    · refine wkc (And.intro @dI.eq_1 @I.cells.eq_1) ?_
      show retQ _ _ _ _ _
      exact ⟨.inr rfl, _, _, rfl, rfl⟩
    · refine wkc (And.intro @dI.eq_1 @I.cells.eq_1) ?_
      show retQ _ _ _ _ _
      exact ⟨.inr rfl, _, _, rfl, rfl⟩
    · by_cases q1 : c = 1
      · subst q1
        refine wkc (And.intro @dI.eq_1 @I.cells.eq_1) ?_
        show retQ _ _ _ _ _
        exact ⟨.inr rfl, _, _, rfl, rfl⟩
      · by_cases q2 : c = 2
        · subst q2
          refine wkc (And.intro @dI.eq_1 @I.cells.eq_1) ?_
          show retQ _ _ _ _ _
          exact ⟨.inr rfl, _, _, rfl, rfl⟩
        · refine wkc (And.intro @dI.eq_1 (And.intro @I.cells.eq_1 (And.intro @q1 (And.intro @q2 @int_beq)))) ?_
          show retQ _ _ _ _ _
          exact ⟨.inr rfl, _, _, rfl, by simp [tailB, q1, q2]; rfl⟩
    · by_cases q1 : 3 ≤ d
      · have q1' : (3 ≤ d) = True := by simp [q1]
        refine wkc (And.intro @dI.eq_1 (And.intro @I.cells.eq_1 @q1')) ?_
        show retQ _ _ _ _ _
        exact ⟨.inr rfl, _, _, rfl, by simp [tailB, q1']; rfl⟩
      · have q1' : (3 ≤ d) = False := by simp only [q1]
        refine wkc (And.intro @dI.eq_1 (And.intro @I.cells.eq_1 @q1')) ?_
        show retQ _ _ _ _ _
        exact ⟨.inr rfl, _, _, rfl, by simp [tailB, q1']; rfl⟩
    · by_cases q1 : at_ < b
      · have q1' : (at_ < b) = True := by simp [q1]
        refine wkc (And.intro @dI.eq_1 (And.intro @I.cells.eq_1 @q1')) ?_
        show retQ _ _ _ _ _
        exact ⟨.inr rfl, _, _, rfl, by simp [tailB, q1']; rfl⟩
      · have q1' : (at_ < b) = False := by simp only [q1]
        refine wkc (And.intro @dI.eq_1 (And.intro @I.cells.eq_1 @q1')) ?_
        show retQ _ _ _ _ _
        exact ⟨.inr rfl, _, _, rfl, by simp [tailB, q1']; rfl⟩
    · by_cases q1 : at_ < b
      · have q1' : (at_ < b) = True := by simp [q1]
        refine wkc (And.intro @dI.eq_1 (And.intro @I.cells.eq_1 @q1')) ?_
        show retQ _ _ _ _ _
        exact ⟨.inr rfl, _, _, rfl, by simp [tailB, q1']; rfl⟩
      · have q1' : (at_ < b) = False := by simp only [q1]
        refine wkc (And.intro @dI.eq_1 (And.intro @I.cells.eq_1 @q1')) ?_
        show retQ _ _ _ _ _
        exact ⟨.inr rfl, _, _, rfl, by simp [tailB, q1']; rfl⟩
    · refine wkc (And.intro @dI.eq_1 @I.cells.eq_1) ?_
      show retQ _ _ _ _ _
      exact ⟨.inr rfl, _, _, rfl, rfl⟩
    · refine wkc (And.intro @dI.eq_1 @I.cells.eq_1) ?_
      show retQ _ _ _ _ _
      exact ⟨.inr rfl, _, _, rfl, rfl⟩
end Go.Ac
end

section
set_option maxRecDepth 4000
set_option linter.unusedSimpArgs false
set_option linter.unusedVariables false
namespace Go.Ac
open Go.Proofs

section
variable (rs : List Rt) (k : Int) (r : Rt) (a b c d : Int)
theorem rang1 : rangB rs k r ⟨1, a, b, c, d⟩ = (wthn a 1 r.regs && (decide (-32768 ≤ b) && decide (b ≤ 32767))) := by simp [rangB, acc4, rK, kO, ksO]
theorem rang2 : rangB rs k r ⟨2, a, b, c, d⟩ = (wthn a 1 r.regs && wthn b 1 r.regs) := by simp [rangB, acc4, rK, kO, ksO]
theorem rang3 : rangB rs k r ⟨3, a, b, c, d⟩ = (wthn a 1 r.regs && wthn b 1 r.ini.length) := by simp [rangB, acc4, rK, kO, ksO]
theorem rang4 : rangB rs k r ⟨4, a, b, c, d⟩ = (wthn a 1 r.ini.length && wthn b 1 r.regs) := by simp [rangB, acc4, rK, kO, ksO]
theorem rang5 : rangB rs k r ⟨5, a, b, c, d⟩ = (wthn a 1 r.regs && wthn b 1 r.regs) := by simp [rangB, acc4, rK, kO, ksO]
theorem rang6 : rangB rs k r ⟨6, a, b, c, d⟩ = (wthn a 1 r.regs && (wthn b 1 r.regs && wthn c 1 r.regs)) := by simp [rangB, acc4, rK, kO, ksO, Bool.and_assoc]
theorem rang7 : rangB rs k r ⟨7, a, b, c, d⟩ = true := by simp [rangB, acc4, rK, kO, ksO]
theorem rang8 : rangB rs k r ⟨8, a, b, c, d⟩ = wthn a 1 r.regs := by simp [rangB, acc4, rK, kO, ksO]
theorem rang9 : rangB rs k r ⟨9, a, b, c, d⟩ = ((decide (0 ≤ a) && decide (a < k)) && (wthn b (calledR rs a).ini.length r.ini.length && (wthn c (calledR rs a).inn.length r.regs && wthn d (calledR rs a).out.length r.regs))) := by simp [rangB, acc4, rK, kO, ksO, Bool.and_assoc]
theorem rang10 : rangB rs k r ⟨10, a, b, c, d⟩ = ((decide (0 ≤ a) && decide (a < k)) && wthn b (calledR rs a).ini.length r.ini.length) := by simp [rangB, acc4, rK, kO, ksO, Bool.and_assoc]
end
theorem calledR_at {rs : List Rt} {n : Nat} {q : Rt} (h : rs[n]? = some q) : calledR rs (n : Int) = q := by
  obtain ⟨hl, he⟩ := List.getElem?_eq_some_iff.1 h
  unfold calledR
  rw [if_pos ⟨by omega, by omega⟩]
  simp [List.getD, h]

set_option maxHeartbeats 4000000 in
theorem rranges_den (im : Im) (k : Nat) (r : Rt) (i : I) (h : IsO i.op) (hr : im.rs[k]? = some r) (hl : im.rs.length ≤ MX) (hil : r.ini.length ≤ MX) (hreg : r.regs ≤ 9223372036854775807) : den Tryd.prog Cp.cfg 54 [aM im, dI k, aI i] = some (dB (rangB im.rs k r i)) := by
  obtain ⟨op, a, b, c, d⟩ := i
  simp only at h
  have hkl : k < im.rs.length := by rcases Nat.lt_or_ge k im.rs.length with h | h; exact h; rw [List.getElem?_eq_none h] at hr; cases hr
  have hix := idx_lt hkl
  have hr' := encR_at hr
  unfold MX at hl hil
  have WR := fun x => rwithin_den x 1 r.regs (by omega) hreg
  have WM := fun x => rwithin_den x 1 r.ini.length (by omega) (by omega)
  simp only [dI, dB] at WR WM
  refine den_wp Tryd.func54 rfl (by kernel_rfl) rfl rfl ?_
  rcases h with rfl | rfl | rfl | rfl | rfl | rfl | rfl | rfl | rfl | rfl
  case inl =>
    have e0 := WR a
    cases h0 : wthn a 1 r.regs with
    | false =>
      rw [h0] at e0
      rw [show rangB im.rs k r ⟨1, a, b, c, d⟩ = false by rw [rang1]; simp [h0]]
      refine wkc (And.intro @dI.eq_1 (And.intro @aM.eq_1 (And.intro @aI.eq_1 (And.intro @Im.cells.eq_1 (And.intro @Rt.cells.eq_1 (And.intro @I.cells.eq_1 (And.intro @hix (And.intro @hr' @e0)))))))) ?_
      show retQ _ _ _ _ _
      exact ⟨.inr rfl, _, _, rfl, rfl⟩
    | true =>
      rw [h0] at e0
      by_cases q : -32768 ≤ b
      · have q' : (-32768 ≤ b) = True := by simp [q]
        rw [show rangB im.rs k r ⟨1, a, b, c, d⟩ = decide (b ≤ 32767) by rw [rang1]; simp [h0, q']]
        refine wkc (And.intro @dI.eq_1 (And.intro @aM.eq_1 (And.intro @aI.eq_1 (And.intro @Im.cells.eq_1 (And.intro @Rt.cells.eq_1 (And.intro @I.cells.eq_1 (And.intro @hix (And.intro @hr' (And.intro @e0 @q'))))))))) ?_
        show retQ _ _ _ _ _
        exact ⟨.inr rfl, _, _, rfl, rfl⟩
      · have q' : (-32768 ≤ b) = False := by simp only [q]
        rw [show rangB im.rs k r ⟨1, a, b, c, d⟩ = false by rw [rang1]; simp [h0, q']]
        refine wkc (And.intro @dI.eq_1 (And.intro @aM.eq_1 (And.intro @aI.eq_1 (And.intro @Im.cells.eq_1 (And.intro @Rt.cells.eq_1 (And.intro @I.cells.eq_1 (And.intro @hix (And.intro @hr' (And.intro @e0 @q'))))))))) ?_
        show retQ _ _ _ _ _
        exact ⟨.inr rfl, _, _, rfl, rfl⟩
  case inr.inl =>
    have e0 := WR a
    cases h0 : wthn a 1 r.regs with
    | false =>
      rw [h0] at e0
      rw [show rangB im.rs k r ⟨2, a, b, c, d⟩ = false by rw [rang2]; simp [h0]]
      refine wkc (And.intro @dI.eq_1 (And.intro @aM.eq_1 (And.intro @aI.eq_1 (And.intro @Im.cells.eq_1 (And.intro @Rt.cells.eq_1 (And.intro @I.cells.eq_1 (And.intro @hix (And.intro @hr' @e0)))))))) ?_
      show retQ _ _ _ _ _
      exact ⟨.inr rfl, _, _, rfl, rfl⟩
    | true =>
      rw [h0] at e0
      have e1 := WR b
      cases h1 : wthn b 1 r.regs with
      | false =>
        rw [h1] at e1
        rw [show rangB im.rs k r ⟨2, a, b, c, d⟩ = false by rw [rang2]; simp [h0, h1]]
        refine wkc (And.intro @dI.eq_1 (And.intro @aM.eq_1 (And.intro @aI.eq_1 (And.intro @Im.cells.eq_1 (And.intro @Rt.cells.eq_1 (And.intro @I.cells.eq_1 (And.intro @hix (And.intro @hr' (And.intro @e0 @e1))))))))) ?_
        show retQ _ _ _ _ _
        exact ⟨.inr rfl, _, _, rfl, rfl⟩
      | true =>
        rw [h1] at e1
        rw [show rangB im.rs k r ⟨2, a, b, c, d⟩ = true by rw [rang2]; simp [h0, h1]]
        refine wkc (And.intro @dI.eq_1 (And.intro @aM.eq_1 (And.intro @aI.eq_1 (And.intro @Im.cells.eq_1 (And.intro @Rt.cells.eq_1 (And.intro @I.cells.eq_1 (And.intro @hix (And.intro @hr' (And.intro @e0 @e1))))))))) ?_
        show retQ _ _ _ _ _
        exact ⟨.inr rfl, _, _, rfl, rfl⟩
  case inr.inr.inl =>
    have e0 := WR a
    cases h0 : wthn a 1 r.regs with
    | false =>
      rw [h0] at e0
      rw [show rangB im.rs k r ⟨3, a, b, c, d⟩ = false by rw [rang3]; simp [h0]]
      refine wkc (And.intro @dI.eq_1 (And.intro @aM.eq_1 (And.intro @aI.eq_1 (And.intro @Im.cells.eq_1 (And.intro @Rt.cells.eq_1 (And.intro @I.cells.eq_1 (And.intro @hix (And.intro @hr' @e0)))))))) ?_
      show retQ _ _ _ _ _
      exact ⟨.inr rfl, _, _, rfl, rfl⟩
    | true =>
      rw [h0] at e0
      have e1 := WM b
      cases h1 : wthn b 1 (r.ini.length : Int) with
      | false =>
        rw [h1] at e1
        rw [show rangB im.rs k r ⟨3, a, b, c, d⟩ = false by rw [rang3]; simp [h0, h1]]
        refine wkc (And.intro @dI.eq_1 (And.intro @aM.eq_1 (And.intro @aI.eq_1 (And.intro @Im.cells.eq_1 (And.intro @Rt.cells.eq_1 (And.intro @I.cells.eq_1 (And.intro @hix (And.intro @hr' (And.intro @e0 @e1))))))))) ?_
        show retQ _ _ _ _ _
        exact ⟨.inr rfl, _, _, rfl, rfl⟩
      | true =>
        rw [h1] at e1
        rw [show rangB im.rs k r ⟨3, a, b, c, d⟩ = true by rw [rang3]; simp [h0, h1]]
        refine wkc (And.intro @dI.eq_1 (And.intro @aM.eq_1 (And.intro @aI.eq_1 (And.intro @Im.cells.eq_1 (And.intro @Rt.cells.eq_1 (And.intro @I.cells.eq_1 (And.intro @hix (And.intro @hr' (And.intro @e0 @e1))))))))) ?_
        show retQ _ _ _ _ _
        exact ⟨.inr rfl, _, _, rfl, rfl⟩
  case inr.inr.inr.inl =>
    have e0 := WM a
    cases h0 : wthn a 1 (r.ini.length : Int) with
    | false =>
      rw [h0] at e0
      rw [show rangB im.rs k r ⟨4, a, b, c, d⟩ = false by rw [rang4]; simp [h0]]
      refine wkc (And.intro @dI.eq_1 (And.intro @aM.eq_1 (And.intro @aI.eq_1 (And.intro @Im.cells.eq_1 (And.intro @Rt.cells.eq_1 (And.intro @I.cells.eq_1 (And.intro @hix (And.intro @hr' @e0)))))))) ?_
      show retQ _ _ _ _ _
      exact ⟨.inr rfl, _, _, rfl, rfl⟩
    | true =>
      rw [h0] at e0
      have e1 := WR b
      cases h1 : wthn b 1 r.regs with
      | false =>
        rw [h1] at e1
        rw [show rangB im.rs k r ⟨4, a, b, c, d⟩ = false by rw [rang4]; simp [h0, h1]]
        refine wkc (And.intro @dI.eq_1 (And.intro @aM.eq_1 (And.intro @aI.eq_1 (And.intro @Im.cells.eq_1 (And.intro @Rt.cells.eq_1 (And.intro @I.cells.eq_1 (And.intro @hix (And.intro @hr' (And.intro @e0 @e1))))))))) ?_
        show retQ _ _ _ _ _
        exact ⟨.inr rfl, _, _, rfl, rfl⟩
      | true =>
        rw [h1] at e1
        rw [show rangB im.rs k r ⟨4, a, b, c, d⟩ = true by rw [rang4]; simp [h0, h1]]
        refine wkc (And.intro @dI.eq_1 (And.intro @aM.eq_1 (And.intro @aI.eq_1 (And.intro @Im.cells.eq_1 (And.intro @Rt.cells.eq_1 (And.intro @I.cells.eq_1 (And.intro @hix (And.intro @hr' (And.intro @e0 @e1))))))))) ?_
        show retQ _ _ _ _ _
        exact ⟨.inr rfl, _, _, rfl, rfl⟩
  case inr.inr.inr.inr.inl =>
    have e0 := WR a
    cases h0 : wthn a 1 r.regs with
    | false =>
      rw [h0] at e0
      rw [show rangB im.rs k r ⟨5, a, b, c, d⟩ = false by rw [rang5]; simp [h0]]
      refine wkc (And.intro @dI.eq_1 (And.intro @aM.eq_1 (And.intro @aI.eq_1 (And.intro @Im.cells.eq_1 (And.intro @Rt.cells.eq_1 (And.intro @I.cells.eq_1 (And.intro @hix (And.intro @hr' @e0)))))))) ?_
      show retQ _ _ _ _ _
      exact ⟨.inr rfl, _, _, rfl, rfl⟩
    | true =>
      rw [h0] at e0
      have e1 := WR b
      cases h1 : wthn b 1 r.regs with
      | false =>
        rw [h1] at e1
        rw [show rangB im.rs k r ⟨5, a, b, c, d⟩ = false by rw [rang5]; simp [h0, h1]]
        refine wkc (And.intro @dI.eq_1 (And.intro @aM.eq_1 (And.intro @aI.eq_1 (And.intro @Im.cells.eq_1 (And.intro @Rt.cells.eq_1 (And.intro @I.cells.eq_1 (And.intro @hix (And.intro @hr' (And.intro @e0 @e1))))))))) ?_
        show retQ _ _ _ _ _
        exact ⟨.inr rfl, _, _, rfl, rfl⟩
      | true =>
        rw [h1] at e1
        rw [show rangB im.rs k r ⟨5, a, b, c, d⟩ = true by rw [rang5]; simp [h0, h1]]
        refine wkc (And.intro @dI.eq_1 (And.intro @aM.eq_1 (And.intro @aI.eq_1 (And.intro @Im.cells.eq_1 (And.intro @Rt.cells.eq_1 (And.intro @I.cells.eq_1 (And.intro @hix (And.intro @hr' (And.intro @e0 @e1))))))))) ?_
        show retQ _ _ _ _ _
        exact ⟨.inr rfl, _, _, rfl, rfl⟩
  case inr.inr.inr.inr.inr.inl =>
    have e0 := WR a
    cases h0 : wthn a 1 r.regs with
    | false =>
      rw [h0] at e0
      rw [show rangB im.rs k r ⟨6, a, b, c, d⟩ = false by rw [rang6]; simp [h0]]
      refine wkc (And.intro @dI.eq_1 (And.intro @aM.eq_1 (And.intro @aI.eq_1 (And.intro @Im.cells.eq_1 (And.intro @Rt.cells.eq_1 (And.intro @I.cells.eq_1 (And.intro @hix (And.intro @hr' @e0)))))))) ?_
      show retQ _ _ _ _ _
      exact ⟨.inr rfl, _, _, rfl, rfl⟩
    | true =>
      rw [h0] at e0
      have e1 := WR b
      cases h1 : wthn b 1 r.regs with
      | false =>
        rw [h1] at e1
        rw [show rangB im.rs k r ⟨6, a, b, c, d⟩ = false by rw [rang6]; simp [h0, h1]]
        refine wkc (And.intro @dI.eq_1 (And.intro @aM.eq_1 (And.intro @aI.eq_1 (And.intro @Im.cells.eq_1 (And.intro @Rt.cells.eq_1 (And.intro @I.cells.eq_1 (And.intro @hix (And.intro @hr' (And.intro @e0 @e1))))))))) ?_
        show retQ _ _ _ _ _
        exact ⟨.inr rfl, _, _, rfl, rfl⟩
      | true =>
        rw [h1] at e1
        have e2 := WR c
        cases h2 : wthn c 1 r.regs with
        | false =>
          rw [h2] at e2
          rw [show rangB im.rs k r ⟨6, a, b, c, d⟩ = false by rw [rang6]; simp [h0, h1, h2]]
          refine wkc (And.intro @dI.eq_1 (And.intro @aM.eq_1 (And.intro @aI.eq_1 (And.intro @Im.cells.eq_1 (And.intro @Rt.cells.eq_1 (And.intro @I.cells.eq_1 (And.intro @hix (And.intro @hr' (And.intro @e0 (And.intro @e1 @e2)))))))))) ?_
          show retQ _ _ _ _ _
          exact ⟨.inr rfl, _, _, rfl, rfl⟩
        | true =>
          rw [h2] at e2
          rw [show rangB im.rs k r ⟨6, a, b, c, d⟩ = true by rw [rang6]; simp [h0, h1, h2]]
          refine wkc (And.intro @dI.eq_1 (And.intro @aM.eq_1 (And.intro @aI.eq_1 (And.intro @Im.cells.eq_1 (And.intro @Rt.cells.eq_1 (And.intro @I.cells.eq_1 (And.intro @hix (And.intro @hr' (And.intro @e0 (And.intro @e1 @e2)))))))))) ?_
          show retQ _ _ _ _ _
          exact ⟨.inr rfl, _, _, rfl, rfl⟩
  case inr.inr.inr.inr.inr.inr.inl =>
    rw [show rangB im.rs k r ⟨7, a, b, c, d⟩ = true by rw [rang7]]
    refine wkc (And.intro @dI.eq_1 (And.intro @aM.eq_1 (And.intro @aI.eq_1 (And.intro @Im.cells.eq_1 (And.intro @Rt.cells.eq_1 (And.intro @I.cells.eq_1 (And.intro @hix @hr'))))))) ?_
    show retQ _ _ _ _ _
    exact ⟨.inr rfl, _, _, rfl, rfl⟩
  case inr.inr.inr.inr.inr.inr.inr.inl =>
    have e0 := WR a
    cases h0 : wthn a 1 r.regs with
    | false =>
      rw [h0] at e0
      rw [show rangB im.rs k r ⟨8, a, b, c, d⟩ = false by rw [rang8]; simp [h0]]
      refine wkc (And.intro @dI.eq_1 (And.intro @aM.eq_1 (And.intro @aI.eq_1 (And.intro @Im.cells.eq_1 (And.intro @Rt.cells.eq_1 (And.intro @I.cells.eq_1 (And.intro @hix (And.intro @hr' @e0)))))))) ?_
      show retQ _ _ _ _ _
      exact ⟨.inr rfl, _, _, rfl, rfl⟩
    | true =>
      rw [h0] at e0
      rw [show rangB im.rs k r ⟨8, a, b, c, d⟩ = true by rw [rang8]; simp [h0]]
      refine wkc (And.intro @dI.eq_1 (And.intro @aM.eq_1 (And.intro @aI.eq_1 (And.intro @Im.cells.eq_1 (And.intro @Rt.cells.eq_1 (And.intro @I.cells.eq_1 (And.intro @hix (And.intro @hr' @e0)))))))) ?_
      show retQ _ _ _ _ _
      exact ⟨.inr rfl, _, _, rfl, rfl⟩
  case inr.inr.inr.inr.inr.inr.inr.inr.inl =>
    by_cases q1 : a < 0
    · have q1' : (a < 0) = True := by simp [q1]
      rw [show rangB im.rs k r ⟨9, a, b, c, d⟩ = false by rw [rang9]; simp <;> omega]
      refine wkc (And.intro @dI.eq_1 (And.intro @aM.eq_1 (And.intro @aI.eq_1 (And.intro @Im.cells.eq_1 (And.intro @Rt.cells.eq_1 (And.intro @I.cells.eq_1 (And.intro @hix (And.intro @hr' @q1')))))))) ?_
      show retQ _ _ _ _ _
      exact ⟨.inr rfl, _, _, rfl, rfl⟩
    have q1' : (a < 0) = False := by simp only [q1]
    by_cases q2 : (k : Int) ≤ a
    · have q2' : ((k : Int) ≤ a) = True := by simp [q2]
      rw [show rangB im.rs k r ⟨9, a, b, c, d⟩ = false by rw [rang9]; simp <;> omega]
      refine wkc (And.intro @dI.eq_1 (And.intro @aM.eq_1 (And.intro @aI.eq_1 (And.intro @Im.cells.eq_1 (And.intro @Rt.cells.eq_1 (And.intro @I.cells.eq_1 (And.intro @hix (And.intro @hr' (And.intro @q1' @q2'))))))))) ?_
      show retQ _ _ _ _ _
      exact ⟨.inr rfl, _, _, rfl, rfl⟩
    have q2' : ((k : Int) ≤ a) = False := by simp only [q2]
    obtain ⟨n, rfl⟩ : ∃ n : Nat, a = n := ⟨a.toNat, by omega⟩
    have hnl : n < im.rs.length := by omega
    obtain ⟨q, hq, hqm, hqx⟩ := at_lt hnl
    have hq' := encR_at hq
    have hcq := calledR_at hq
    have f1 : decide ((0 : Int) ≤ n) = true := by simp
    have f2 : decide ((n : Int) < k) = true := by simp; omega
    have VM := fun x => rwithin_den x q.ini.length r.ini.length (by omega) (by omega)
    have VI := fun x => rwithin_den x q.inn.length r.regs (by omega) hreg
    have VO := fun x => rwithin_den x q.out.length r.regs (by omega) hreg
    simp only [dI, dB] at VM VI VO
    have e0 := VM b
    cases h0 : wthn b q.ini.length r.ini.length with
    | false =>
      rw [h0] at e0
      rw [show rangB im.rs k r ⟨9, n, b, c, d⟩ = false by rw [rang9, hcq]; simp [f1, f2, show (n : Int) < k by omega, h0]]
      refine wkc (And.intro @dI.eq_1 (And.intro @aM.eq_1 (And.intro @aI.eq_1 (And.intro @Im.cells.eq_1 (And.intro @Rt.cells.eq_1 (And.intro @I.cells.eq_1 (And.intro @hix (And.intro @hr' (And.intro @q1' (And.intro @q2' (And.intro @hqx (And.intro @hq' (And.intro @int_beq @e0))))))))))))) ?_
      show retQ _ _ _ _ _
      exact ⟨.inr rfl, _, _, rfl, rfl⟩
    | true =>
      rw [h0] at e0
      have e1 := VI c
      cases h1 : wthn c q.inn.length r.regs with
      | false =>
        rw [h1] at e1
        rw [show rangB im.rs k r ⟨9, n, b, c, d⟩ = false by rw [rang9, hcq]; simp [f1, f2, show (n : Int) < k by omega, h0, h1]]
        refine wkc (And.intro @dI.eq_1 (And.intro @aM.eq_1 (And.intro @aI.eq_1 (And.intro @Im.cells.eq_1 (And.intro @Rt.cells.eq_1 (And.intro @I.cells.eq_1 (And.intro @hix (And.intro @hr' (And.intro @q1' (And.intro @q2' (And.intro @hqx (And.intro @hq' (And.intro @int_beq (And.intro @e0 @e1)))))))))))))) ?_
        show retQ _ _ _ _ _
        exact ⟨.inr rfl, _, _, rfl, rfl⟩
      | true =>
        rw [h1] at e1
        have e2 := VO d
        cases h2 : wthn d q.out.length r.regs with
        | false =>
          rw [h2] at e2
          rw [show rangB im.rs k r ⟨9, n, b, c, d⟩ = false by rw [rang9, hcq]; simp [f1, f2, show (n : Int) < k by omega, h0, h1, h2]]
          refine wkc (And.intro @dI.eq_1 (And.intro @aM.eq_1 (And.intro @aI.eq_1 (And.intro @Im.cells.eq_1 (And.intro @Rt.cells.eq_1 (And.intro @I.cells.eq_1 (And.intro @hix (And.intro @hr' (And.intro @q1' (And.intro @q2' (And.intro @hqx (And.intro @hq' (And.intro @int_beq (And.intro @e0 (And.intro @e1 @e2))))))))))))))) ?_
          show retQ _ _ _ _ _
          exact ⟨.inr rfl, _, _, rfl, rfl⟩
        | true =>
          rw [h2] at e2
          rw [show rangB im.rs k r ⟨9, n, b, c, d⟩ = true by rw [rang9, hcq]; simp [f1, f2, show (n : Int) < k by omega, h0, h1, h2]]
          refine wkc (And.intro @dI.eq_1 (And.intro @aM.eq_1 (And.intro @aI.eq_1 (And.intro @Im.cells.eq_1 (And.intro @Rt.cells.eq_1 (And.intro @I.cells.eq_1 (And.intro @hix (And.intro @hr' (And.intro @q1' (And.intro @q2' (And.intro @hqx (And.intro @hq' (And.intro @int_beq (And.intro @e0 (And.intro @e1 @e2))))))))))))))) ?_
          show retQ _ _ _ _ _
          exact ⟨.inr rfl, _, _, rfl, rfl⟩
  case inr.inr.inr.inr.inr.inr.inr.inr.inr =>
    by_cases q1 : a < 0
    · have q1' : (a < 0) = True := by simp [q1]
      rw [show rangB im.rs k r ⟨10, a, b, c, d⟩ = false by rw [rang10]; simp <;> omega]
      refine wkc (And.intro @dI.eq_1 (And.intro @aM.eq_1 (And.intro @aI.eq_1 (And.intro @Im.cells.eq_1 (And.intro @Rt.cells.eq_1 (And.intro @I.cells.eq_1 (And.intro @hix (And.intro @hr' @q1')))))))) ?_
      show retQ _ _ _ _ _
      exact ⟨.inr rfl, _, _, rfl, rfl⟩
    have q1' : (a < 0) = False := by simp only [q1]
    by_cases q2 : (k : Int) ≤ a
    · have q2' : ((k : Int) ≤ a) = True := by simp [q2]
      rw [show rangB im.rs k r ⟨10, a, b, c, d⟩ = false by rw [rang10]; simp <;> omega]
      refine wkc (And.intro @dI.eq_1 (And.intro @aM.eq_1 (And.intro @aI.eq_1 (And.intro @Im.cells.eq_1 (And.intro @Rt.cells.eq_1 (And.intro @I.cells.eq_1 (And.intro @hix (And.intro @hr' (And.intro @q1' @q2'))))))))) ?_
      show retQ _ _ _ _ _
      exact ⟨.inr rfl, _, _, rfl, rfl⟩
    have q2' : ((k : Int) ≤ a) = False := by simp only [q2]
    obtain ⟨n, rfl⟩ : ∃ n : Nat, a = n := ⟨a.toNat, by omega⟩
    have hnl : n < im.rs.length := by omega
    obtain ⟨q, hq, hqm, hqx⟩ := at_lt hnl
    have hq' := encR_at hq
    have hcq := calledR_at hq
    have f1 : decide ((0 : Int) ≤ n) = true := by simp
    have f2 : decide ((n : Int) < k) = true := by simp; omega
    have VM := fun x => rwithin_den x q.ini.length r.ini.length (by omega) (by omega)
    have VI := fun x => rwithin_den x q.inn.length r.regs (by omega) hreg
    have VO := fun x => rwithin_den x q.out.length r.regs (by omega) hreg
    simp only [dI, dB] at VM VI VO
    have e0 := VM b
    cases h0 : wthn b q.ini.length r.ini.length with
    | false =>
      rw [h0] at e0
      rw [show rangB im.rs k r ⟨10, n, b, c, d⟩ = false by rw [rang10, hcq]; simp [f1, f2, show (n : Int) < k by omega, h0]]
      refine wkc (And.intro @dI.eq_1 (And.intro @aM.eq_1 (And.intro @aI.eq_1 (And.intro @Im.cells.eq_1 (And.intro @Rt.cells.eq_1 (And.intro @I.cells.eq_1 (And.intro @hix (And.intro @hr' (And.intro @q1' (And.intro @q2' (And.intro @hqx (And.intro @hq' (And.intro @int_beq @e0))))))))))))) ?_
      show retQ _ _ _ _ _
      exact ⟨.inr rfl, _, _, rfl, rfl⟩
    | true =>
      rw [h0] at e0
      rw [show rangB im.rs k r ⟨10, n, b, c, d⟩ = true by rw [rang10, hcq]; simp [f1, f2, show (n : Int) < k by omega, h0]]
      refine wkc (And.intro @dI.eq_1 (And.intro @aM.eq_1 (And.intro @aI.eq_1 (And.intro @Im.cells.eq_1 (And.intro @Rt.cells.eq_1 (And.intro @I.cells.eq_1 (And.intro @hix (And.intro @hr' (And.intro @q1' (And.intro @q2' (And.intro @hqx (And.intro @hq' (And.intro @int_beq @e0))))))))))))) ?_
      show retQ _ _ _ _ _
      exact ⟨.inr rfl, _, _, rfl, rfl⟩
end Go.Ac
end

section
set_option maxRecDepth 4000
set_option linter.unusedSimpArgs false
set_option linter.unusedVariables false
namespace Go.Ac
open Go.Proofs

theorem wthn_lt {x m : Int} (h : wthn x 1 m = true) : ∃ n : Nat, x = n ∧ (n : Int) < m := by
  unfold wthn at h; simp at h
  exact ⟨x.toNat, by omega, by omega⟩
theorem wthn_le {x m : Int} {n : Nat} (h : wthn x n m = true) : ∃ p : Nat, x = p ∧ (p : Int) + n ≤ m := by
  unfold wthn at h; simp at h
  exact ⟨x.toNat, by omega, by omega⟩
theorem form_of {at_ lenC : Int} {i : I} (h : IsO i.op) (hf : formB at_ lenC i = true) : (hasB i.op 65 = true ∨ xO i 65 = 0) ∧ (hasB i.op 66 = true ∨ xO i 66 = 0) ∧ (hasB i.op 67 = true ∨ xO i 67 = 0) ∧ (hasB i.op 68 = true ∨ xO i 68 = 0) := by
  have key : ∀ c : UInt8, (c = 65 ∨ c = 66 ∨ c = 67 ∨ c = 68) → hasB i.op c = true ∨ xO i c = 0 := fun c hc => by
    cases hb : hasB i.op c with
    | true => exact .inl rfl
    | false =>
      by_cases hx : xO i c = 0
      · exact .inr hx
      · rw [formB_bad h hc hb hx] at hf; cases hf
  exact ⟨key 65 (by simp), key 66 (by simp), key 67 (by simp), key 68 (by simp)⟩

theorem okI_of {rs : List Rt} {k : Nat} {r : Rt} {at_ : Nat} {i : I} (hk : k ≤ rs.length) (hR : 0 ≤ r.regs) (h : IsO i.op) (hf : formB at_ r.code.length i = true) (hg : rangB rs k r i = true) : OkI rs k r.regs.toNat r.ini.length at_ r.code.length i := by
  obtain ⟨g0, g1, g2, g3⟩ := form_of h hf
  rw [formB_good h g0 g1 g2 g3] at hf
  obtain ⟨op, a, b, c, d⟩ := i
  simp only [xO] at h g0 g1 g2 g3
  simp at g0 g1 g2 g3
  have rA : ∀ (a : Int), (decide (0 ≤ a) && decide (a < k)) = true → ∃ (A : Nat) (q : Rt), a = A ∧ rs[A]? = some q ∧ A < k ∧ calledR rs a = q := fun a h => by
    simp at h
    obtain ⟨A, rfl⟩ : ∃ A : Nat, a = A := ⟨a.toNat, by omega⟩
    have : A < rs.length := by omega
    exact ⟨A, rs[A], rfl, by simp [this], by omega, calledR_at (by simp [this])⟩
  rcases h with rfl | rfl | rfl | rfl | rfl | rfl | rfl | rfl | rfl | rfl <;> simp [hasB, fsO] at g0 g1 g2 g3
  · subst g2; subst g3
    rw [rang1] at hg; simp only [Bool.and_eq_true, decide_eq_true_eq] at hg
    obtain ⟨A, rfl, hA⟩ := wthn_lt hg.1
    exact .load A b (by omega) hg.2.1 hg.2.2
  · subst g2; subst g3
    rw [rang2] at hg; simp only [Bool.and_eq_true] at hg
    obtain ⟨A, rfl, hA⟩ := wthn_lt hg.1
    obtain ⟨B, rfl, hB⟩ := wthn_lt hg.2
    exact .move A B (by omega) (by omega)
  · subst g2; subst g3
    rw [rang3] at hg; simp only [Bool.and_eq_true] at hg
    obtain ⟨A, rfl, hA⟩ := wthn_lt hg.1
    obtain ⟨B, rfl, hB⟩ := wthn_lt hg.2
    exact .read A B (by omega) (by omega)
  · subst g2; subst g3
    rw [rang4] at hg; simp only [Bool.and_eq_true] at hg
    obtain ⟨A, rfl, hA⟩ := wthn_lt hg.1
    obtain ⟨B, rfl, hB⟩ := wthn_lt hg.2
    exact .write A B (by omega) (by omega)
  · subst g3
    rw [rang5] at hg; simp only [Bool.and_eq_true] at hg
    obtain ⟨A, rfl, hA⟩ := wthn_lt hg.1
    obtain ⟨B, rfl, hB⟩ := wthn_lt hg.2
    exact .unary A B c (by omega) (by omega) (by simpa [tailB] using hf)
  · rw [rang6] at hg; simp only [Bool.and_eq_true] at hg
    obtain ⟨A, rfl, hA⟩ := wthn_lt hg.1
    obtain ⟨B, rfl, hB⟩ := wthn_lt hg.2.1
    obtain ⟨C, rfl, hC⟩ := wthn_lt hg.2.2
    simp [tailB] at hf
    exact .apply A B C d (by omega) (by omega) (by omega) hf.1 hf.2
  · subst g0; subst g2; subst g3
    simp [tailB] at hf
    obtain ⟨B, rfl⟩ : ∃ B : Nat, b = B := ⟨b.toNat, by omega⟩
    exact .jump B (by omega) (by omega)
  · subst g2; subst g3
    rw [rang8] at hg
    obtain ⟨A, rfl, hA⟩ := wthn_lt hg
    simp [tailB] at hf
    obtain ⟨B, rfl⟩ : ∃ B : Nat, b = B := ⟨b.toNat, by omega⟩
    exact .zero A B (by omega) (by omega) (by omega)
  · rw [rang9] at hg; simp only [Bool.and_eq_true (a := decide _ && decide _), Bool.and_eq_true (a := wthn _ _ _)] at hg
    obtain ⟨A, q, rfl, hq, hA, hc⟩ := rA a (by simpa using hg.1)
    rw [hc] at hg
    obtain ⟨B, rfl, hB⟩ := wthn_le hg.2.1
    obtain ⟨C, rfl, hC⟩ := wthn_le hg.2.2.1
    obtain ⟨D, rfl, hD⟩ := wthn_le hg.2.2.2
    exact .call A B C D q hq hA (by omega) (by omega) (by omega)
  · subst g2; subst g3
    rw [rang10] at hg; simp only [Bool.and_eq_true (a := decide _ && decide _), Bool.and_eq_true (a := wthn _ _ _)] at hg
    obtain ⟨A, q, rfl, hq, hA, hc⟩ := rA a (by simpa using hg.1)
    rw [hc] at hg
    obtain ⟨B, rfl, hB⟩ := wthn_le hg.2
    exact .reset A B q hq hA (by omega)

end Go.Ac
end

section
set_option linter.unusedVariables false
namespace Go.Ac
open Go.Proofs

def byteOK (b : UInt8) : Bool := (decide (97 ≤ b.toNat) && decide (b.toNat ≤ 122)) || (decide (65 ≤ b.toNat) && decide (b.toNat ≤ 90)) || (decide (48 ≤ b.toNat) && decide (b.toNat ≤ 57)) || decide (b.toNat = 95)
theorem decN_hi (n b0 b1 b2 b3 : Nat) (h : 128 ≤ b0) : 128 ≤ (Go.Lib.decodeN n b0 b1 b2 b3).1 := by
  unfold Go.Lib.decodeN
  repeat' split
  all_goals (try simp only)
  all_goals omega
theorem badR_hi {c : Int} (h : 128 ≤ c) : badR c = true := by unfold badR; simp; omega
theorem badR_byte (b : UInt8) (h : b.toNat < 128) : badR (b.toNat : Int) = !byteOK b := by
  unfold badR byteOK
  rw [Bool.eq_iff_iff]; simp; omega
theorem dec_byte {s : List UInt8} {pos : Nat} {b : UInt8} (h : s[pos]? = some b) : (b.toNat < 128 ∧ Utf8.decode ⟨s.toArray⟩ pos = (b.toNat, 1)) ∨ (128 ≤ b.toNat ∧ 128 ≤ (Utf8.decode ⟨s.toArray⟩ pos).1) := by
  have hg : (ByteArray.get! ⟨s.toArray⟩ pos) = b := by
    obtain ⟨hl, he⟩ := List.getElem?_eq_some_iff.1 h
    show s.toArray[pos]! = b
    simp [hl, he]
  rw [Go.Lib.decode_at, hg]
  rcases Nat.lt_or_ge b.toNat 128 with h1 | h1
  · exact .inl ⟨h1, by unfold Go.Lib.decodeN; rw [if_pos h1]⟩
  · exact .inr ⟨h1, decN_hi _ _ _ _ _ h1⟩
theorem idxS_all (s : List UInt8) : ∀ (d pos : Nat), s.length - pos ≤ d → (decide (idxS s s.length pos ≥ 0)) = !(s.drop pos).all byteOK
  | d, pos, hd => by
    by_cases hp : pos < s.length
    · have hi : s[pos]? = some s[pos] := by simp [hp]
      rw [idxS_step s hp, List.drop_eq_getElem_cons hp, List.all_cons]
      rcases dec_byte hi with ⟨h1, h2⟩ | ⟨h1, h2⟩
      · rw [h2]
        simp only
        rw [badR_byte _ h1]
        cases hb : byteOK s[pos] with
        | true =>
          obtain ⟨d', rfl⟩ : ∃ d', d = d' + 1 := ⟨d - 1, by omega⟩
          have ih := idxS_all s d' (pos + 1) (by omega)
          simpa using ih
        | false => simp
      · have h3 : badR ((Utf8.decode ⟨s.toArray⟩ pos).1 : Int) = true := badR_hi (by omega)
        have h4 : byteOK s[pos] = false := by
          unfold byteOK; rw [← Bool.not_eq_true]; simp; omega
        rw [h3, h4]; simp
    · rw [idxS_end (by omega), List.drop_of_length_le (by omega)]; rfl
theorem nameOK_bytes (s : List UInt8) : nameOK s = (!decide (s = []) && decide (s.length ≤ 40) && s.all byteOK) := by
  have := idxS_all s s.length 0 (by omega)
  unfold nameOK badI
  rw [this]; simp
end Go.Ac
end

section
set_option maxRecDepth 4000
set_option linter.unusedSimpArgs false
set_option linter.unusedVariables false
namespace Go.Ac
open Go.Proofs

set_option maxHeartbeats 2000000 in
theorem rname_den (s : List UInt8) (hs : s.length ≤ MX) : den Tryd.prog Cp.cfg 51 [dS s] = some (dB (nameOK s)) := by
  unfold MX at hs
  rw [nameOK_bytes]
  refine den_wp Tryd.func51 rfl (by kernel_rfl) rfl rfl ?_
  by_cases h0 : s = []
  · subst h0
    refine wkc (@dS.eq_1) ?_
    show retQ _ _ _ _ _
    exact ⟨.inr rfl, _, _, rfl, rfl⟩
  have hE : s.isEmpty = false := by cases s with | nil => exact absurd rfl h0 | cons a b => rfl
  by_cases h1 : s.length ≤ 40
  case neg =>
    have h1' : (40 < s.length) = True := by simp; omega
    have h1'' : ((40 : Int) < s.length) = True := by simp; omega
    refine wkc (And.intro @dS.eq_1 (And.intro @hE (And.intro @h0 (And.intro @h1' @h1'')))) ?_
    show retQ _ _ _ _ _
    exact ⟨.inr rfl, _, _, rfl, by simp [h0, h1]; rfl⟩
  have h1' : (40 < s.length) = False := by simp; omega
  have h1'' : ((40 : Int) < s.length) = False := by simp; omega
  rw [show (!decide (s = []) && decide (s.length ≤ 40) && s.all byteOK) = s.all byteOK by simp [h0, h1]]
  refine wkc (And.intro @dS.eq_1 (And.intro @hE (And.intro @h0 (And.intro @h1' @h1'')))) ?_
  apply WP.loop' (I := fun D t => ∃ j : Nat, j + D = s.length ∧ (s.take j).all byteOK = true ∧ SE [(0, dS s), (3, dI j)] [] 0 t) (d := s.length)
  · exact ⟨0, by simp, by simp, SE.mk (by simp [dI, dS]) rfl⟩
  rintro D _ ⟨j, hj, hno, cc, rfl⟩
  refine wk (And.intro @dI.eq_1 @dS.eq_1) ?_
  show WP _ _ _ _ _ _
  refine WP.cond _ rfl (fun hb => ?_) (fun hb => ?_)
  · simp at hb
    have hb' : j < s.length := hb
    obtain ⟨b, hv, hvm, hix⟩ := at_lt hb'
    have hw := w_succ hb' (by omega)
    have hts := all_take_succ (p := byteOK) hv
    have hlt := b.toNat_lt
    have hI : (0 ≤ b.toNat ∧ b.toNat ≤ 47) ∨ (48 ≤ b.toNat ∧ b.toNat ≤ 57) ∨ (58 ≤ b.toNat ∧ b.toNat ≤ 64) ∨ (65 ≤ b.toNat ∧ b.toNat ≤ 90) ∨ (91 ≤ b.toNat ∧ b.toNat ≤ 94) ∨ (95 ≤ b.toNat ∧ b.toNat ≤ 95) ∨ (96 ≤ b.toNat ∧ b.toNat ≤ 96) ∨ (97 ≤ b.toNat ∧ b.toNat ≤ 122) ∨ (123 ≤ b.toNat ∧ b.toNat ≤ 255) := by omega
    rcases hI with h | h | h | h | h | h | h | h | h
    · have f0 : (97 ≤ (b.toNat : Int)) = False := by simp; omega
      have f1 : ((b.toNat : Int) ≤ 122) = True := by simp; omega
      have f2 : (65 ≤ (b.toNat : Int)) = False := by simp; omega
      have f3 : ((b.toNat : Int) ≤ 90) = True := by simp; omega
      have f4 : (48 ≤ (b.toNat : Int)) = False := by simp; omega
      have f5 : ((b.toNat : Int) ≤ 57) = True := by simp; omega
      have f6 : ((b.toNat : Int) = 95) = False := by simp; omega
      have hB : byteOK b = false := by unfold byteOK; rw [← Bool.not_eq_true]; simp; omega
      have f7 : ((b.toNat : Int) = 95) = False := by simp; omega
      refine wkc (And.intro @dI.eq_1 (And.intro @dS.eq_1 (And.intro @hix (And.intro @hv (And.intro @f0 (And.intro @f1 (And.intro @f2 (And.intro @f3 (And.intro @f4 (And.intro @f5 (And.intro @f6 (And.intro @f7 @int_beq)))))))))))) ?_
      rw [not_all hvm hB]
      show retQ _ _ _ _ _
      exact ⟨.inr rfl, _, _, rfl, rfl⟩
    · have f0 : (97 ≤ (b.toNat : Int)) = False := by simp; omega
      have f1 : ((b.toNat : Int) ≤ 122) = True := by simp; omega
      have f2 : (65 ≤ (b.toNat : Int)) = False := by simp; omega
      have f3 : ((b.toNat : Int) ≤ 90) = True := by simp; omega
      have f4 : (48 ≤ (b.toNat : Int)) = True := by simp; omega
      have f5 : ((b.toNat : Int) ≤ 57) = True := by simp; omega
      have f6 : ((b.toNat : Int) = 95) = False := by simp; omega
      have hB : byteOK b = true := by unfold byteOK; simp; omega
      have f7 : ((b.toNat : Int) = 95) = False := by simp; omega
      refine wkc (And.intro @dI.eq_1 (And.intro @dS.eq_1 (And.intro @hix (And.intro @hv (And.intro @f0 (And.intro @f1 (And.intro @f2 (And.intro @f3 (And.intro @f4 (And.intro @f5 (And.intro @f6 (And.intro @f7 @int_beq)))))))))))) ?_
      refine loop_next (by simp [hw]; exact Is.rfl) ?_
      exact ⟨D - 1, by omega, j + 1, by omega, by rw [hts, hno, hB]; rfl, SE.mk (by simp [dI, dS, hw]) rfl⟩
    · have f0 : (97 ≤ (b.toNat : Int)) = False := by simp; omega
      have f1 : ((b.toNat : Int) ≤ 122) = True := by simp; omega
      have f2 : (65 ≤ (b.toNat : Int)) = False := by simp; omega
      have f3 : ((b.toNat : Int) ≤ 90) = True := by simp; omega
      have f4 : (48 ≤ (b.toNat : Int)) = True := by simp; omega
      have f5 : ((b.toNat : Int) ≤ 57) = False := by simp; omega
      have f6 : ((b.toNat : Int) = 95) = False := by simp; omega
      have hB : byteOK b = false := by unfold byteOK; rw [← Bool.not_eq_true]; simp; omega
      have f7 : ((b.toNat : Int) = 95) = False := by simp; omega
      refine wkc (And.intro @dI.eq_1 (And.intro @dS.eq_1 (And.intro @hix (And.intro @hv (And.intro @f0 (And.intro @f1 (And.intro @f2 (And.intro @f3 (And.intro @f4 (And.intro @f5 (And.intro @f6 (And.intro @f7 @int_beq)))))))))))) ?_
      rw [not_all hvm hB]
      show retQ _ _ _ _ _
      exact ⟨.inr rfl, _, _, rfl, rfl⟩
    · have f0 : (97 ≤ (b.toNat : Int)) = False := by simp; omega
      have f1 : ((b.toNat : Int) ≤ 122) = True := by simp; omega
      have f2 : (65 ≤ (b.toNat : Int)) = True := by simp; omega
      have f3 : ((b.toNat : Int) ≤ 90) = True := by simp; omega
      have f4 : (48 ≤ (b.toNat : Int)) = True := by simp; omega
      have f5 : ((b.toNat : Int) ≤ 57) = False := by simp; omega
      have f6 : ((b.toNat : Int) = 95) = False := by simp; omega
      have hB : byteOK b = true := by unfold byteOK; simp; omega
      have f7 : ((b.toNat : Int) = 95) = False := by simp; omega
      refine wkc (And.intro @dI.eq_1 (And.intro @dS.eq_1 (And.intro @hix (And.intro @hv (And.intro @f0 (And.intro @f1 (And.intro @f2 (And.intro @f3 (And.intro @f4 (And.intro @f5 (And.intro @f6 (And.intro @f7 @int_beq)))))))))))) ?_
      refine loop_next (by simp [hw]; exact Is.rfl) ?_
      exact ⟨D - 1, by omega, j + 1, by omega, by rw [hts, hno, hB]; rfl, SE.mk (by simp [dI, dS, hw]) rfl⟩
    · have f0 : (97 ≤ (b.toNat : Int)) = False := by simp; omega
      have f1 : ((b.toNat : Int) ≤ 122) = True := by simp; omega
      have f2 : (65 ≤ (b.toNat : Int)) = True := by simp; omega
      have f3 : ((b.toNat : Int) ≤ 90) = False := by simp; omega
      have f4 : (48 ≤ (b.toNat : Int)) = True := by simp; omega
      have f5 : ((b.toNat : Int) ≤ 57) = False := by simp; omega
      have f6 : ((b.toNat : Int) = 95) = False := by simp; omega
      have hB : byteOK b = false := by unfold byteOK; rw [← Bool.not_eq_true]; simp; omega
      have f7 : ((b.toNat : Int) = 95) = False := by simp; omega
      refine wkc (And.intro @dI.eq_1 (And.intro @dS.eq_1 (And.intro @hix (And.intro @hv (And.intro @f0 (And.intro @f1 (And.intro @f2 (And.intro @f3 (And.intro @f4 (And.intro @f5 (And.intro @f6 (And.intro @f7 @int_beq)))))))))))) ?_
      rw [not_all hvm hB]
      show retQ _ _ _ _ _
      exact ⟨.inr rfl, _, _, rfl, rfl⟩
    · have f0 : (97 ≤ (b.toNat : Int)) = False := by simp; omega
      have f1 : ((b.toNat : Int) ≤ 122) = True := by simp; omega
      have f2 : (65 ≤ (b.toNat : Int)) = True := by simp; omega
      have f3 : ((b.toNat : Int) ≤ 90) = False := by simp; omega
      have f4 : (48 ≤ (b.toNat : Int)) = True := by simp; omega
      have f5 : ((b.toNat : Int) ≤ 57) = False := by simp; omega
      have f6 : ((b.toNat : Int) = 95) = True := by simp; omega
      have hB : byteOK b = true := by unfold byteOK; simp; omega
      have f7 : ((b.toNat : Int) = 95) = True := by simp; omega
      refine wkc (And.intro @dI.eq_1 (And.intro @dS.eq_1 (And.intro @hix (And.intro @hv (And.intro @f0 (And.intro @f1 (And.intro @f2 (And.intro @f3 (And.intro @f4 (And.intro @f5 (And.intro @f6 (And.intro @f7 @int_beq)))))))))))) ?_
      refine loop_next (by simp [hw]; exact Is.rfl) ?_
      exact ⟨D - 1, by omega, j + 1, by omega, by rw [hts, hno, hB]; rfl, SE.mk (by simp [dI, dS, hw]) rfl⟩
    · have f0 : (97 ≤ (b.toNat : Int)) = False := by simp; omega
      have f1 : ((b.toNat : Int) ≤ 122) = True := by simp; omega
      have f2 : (65 ≤ (b.toNat : Int)) = True := by simp; omega
      have f3 : ((b.toNat : Int) ≤ 90) = False := by simp; omega
      have f4 : (48 ≤ (b.toNat : Int)) = True := by simp; omega
      have f5 : ((b.toNat : Int) ≤ 57) = False := by simp; omega
      have f6 : ((b.toNat : Int) = 95) = False := by simp; omega
      have hB : byteOK b = false := by unfold byteOK; rw [← Bool.not_eq_true]; simp; omega
      have f7 : ((b.toNat : Int) = 95) = False := by simp; omega
      refine wkc (And.intro @dI.eq_1 (And.intro @dS.eq_1 (And.intro @hix (And.intro @hv (And.intro @f0 (And.intro @f1 (And.intro @f2 (And.intro @f3 (And.intro @f4 (And.intro @f5 (And.intro @f6 (And.intro @f7 @int_beq)))))))))))) ?_
      rw [not_all hvm hB]
      show retQ _ _ _ _ _
      exact ⟨.inr rfl, _, _, rfl, rfl⟩
    · have f0 : (97 ≤ (b.toNat : Int)) = True := by simp; omega
      have f1 : ((b.toNat : Int) ≤ 122) = True := by simp; omega
      have f2 : (65 ≤ (b.toNat : Int)) = True := by simp; omega
      have f3 : ((b.toNat : Int) ≤ 90) = False := by simp; omega
      have f4 : (48 ≤ (b.toNat : Int)) = True := by simp; omega
      have f5 : ((b.toNat : Int) ≤ 57) = False := by simp; omega
      have f6 : ((b.toNat : Int) = 95) = False := by simp; omega
      have hB : byteOK b = true := by unfold byteOK; simp; omega
      have f7 : ((b.toNat : Int) = 95) = False := by simp; omega
      refine wkc (And.intro @dI.eq_1 (And.intro @dS.eq_1 (And.intro @hix (And.intro @hv (And.intro @f0 (And.intro @f1 (And.intro @f2 (And.intro @f3 (And.intro @f4 (And.intro @f5 (And.intro @f6 (And.intro @f7 @int_beq)))))))))))) ?_
      refine loop_next (by simp [hw]; exact Is.rfl) ?_
      exact ⟨D - 1, by omega, j + 1, by omega, by rw [hts, hno, hB]; rfl, SE.mk (by simp [dI, dS, hw]) rfl⟩
    · have f0 : (97 ≤ (b.toNat : Int)) = True := by simp; omega
      have f1 : ((b.toNat : Int) ≤ 122) = False := by simp; omega
      have f2 : (65 ≤ (b.toNat : Int)) = True := by simp; omega
      have f3 : ((b.toNat : Int) ≤ 90) = False := by simp; omega
      have f4 : (48 ≤ (b.toNat : Int)) = True := by simp; omega
      have f5 : ((b.toNat : Int) ≤ 57) = False := by simp; omega
      have f6 : ((b.toNat : Int) = 95) = False := by simp; omega
      have hB : byteOK b = false := by unfold byteOK; rw [← Bool.not_eq_true]; simp; omega
      have f7 : ((b.toNat : Int) = 95) = False := by simp; omega
      refine wkc (And.intro @dI.eq_1 (And.intro @dS.eq_1 (And.intro @hix (And.intro @hv (And.intro @f0 (And.intro @f1 (And.intro @f2 (And.intro @f3 (And.intro @f4 (And.intro @f5 (And.intro @f6 (And.intro @f7 @int_beq)))))))))))) ?_
      rw [not_all hvm hB]
      show retQ _ _ _ _ _
      exact ⟨.inr rfl, _, _, rfl, rfl⟩
  · simp at hb
    have hx : s.all byteOK = true := by rw [← hno, List.take_of_length_le hb]
    rw [hx]
    refine wk True.intro ?_
    show retQ _ _ _ _ _
    exact ⟨.inr rfl, _, _, rfl, rfl⟩
end Go.Ac
end

section
set_option maxRecDepth 4000
set_option linter.unusedSimpArgs false
set_option linter.unusedVariables false
namespace Go.Ac
open Go.Proofs

theorem rtyped_den (en l : List Int) (he : en.length ≤ 4294967296) (hl : l.length ≤ MX) : den Tryd.prog Cp.cfg 52 [dL en, dL l] = some (dB (l.all (typOK en))) := by
  unfold MX at hl
  have hws : IntKind.i64.wrap (3 + (en.length : Int)) = 3 + (en.length : Int) := by rw [w_id'] <;> omega
  refine den_wp Tryd.func52 rfl (by kernel_rfl) rfl rfl ?_
  refine wk (@dL.eq_1) ?_
  apply WP.loop' (I := fun D s => ∃ j : Nat, j + D = l.length ∧ (l.take j).all (typOK en) = true ∧ SE [(0, dL en), (1, dL l), (5, dI j)] [] 0 s) (d := l.length)
  · exact ⟨0, by simp, by simp, SE.mk (by simp [dI, dL]) rfl⟩
  rintro D _ ⟨j, hj, hno, cc, rfl⟩
  refine wk (And.intro @dI.eq_1 @dL.eq_1) ?_
  show WP _ _ _ _ _ _
  refine WP.cond _ rfl (fun hb => ?_) (fun hb => ?_)
  · simp at hb
    have hb' : j < l.length := hb
    obtain ⟨v, hv, hvm, hix⟩ := at_lt hb'
    have hv' := encI_at hv
    have hw := w_succ hb' (by omega)
    have hts := all_take_succ (p := typOK en) hv
    by_cases h0 : v < 1
    · have hx : l.all (typOK en) = false := not_all hvm (by unfold typOK; simp; omega)
      rw [hx]
      refine wkc (And.intro @dI.eq_1 (And.intro @dL.eq_1 (And.intro @hix (And.intro @hv' (And.intro @h0 @hws))))) ?_
      show retQ _ _ _ _ _
      exact ⟨.inr rfl, _, _, rfl, rfl⟩
    · by_cases h1 : 3 + (en.length : Int) ≤ v
      · have hx : l.all (typOK en) = false := not_all hvm (by unfold typOK; simp; omega)
        have h1' : (3 + (en.length : Int) ≤ v) = True := by simp [h1]
        rw [hx]
        refine wkc (And.intro @dI.eq_1 (And.intro @dL.eq_1 (And.intro @hix (And.intro @hv' (And.intro @h0 (And.intro @h1' @hws)))))) ?_
        show retQ _ _ _ _ _
        exact ⟨.inr rfl, _, _, rfl, rfl⟩
      · have h1' : (3 + (en.length : Int) ≤ v) = False := by simp only [h1]
        have hg : typOK en v = true := by unfold typOK; simp; omega
        refine wkc (And.intro @dI.eq_1 (And.intro @dL.eq_1 (And.intro @hix (And.intro @hv' (And.intro @h0 (And.intro @h1' @hws)))))) ?_
        refine loop_next (by simp [hw]; exact Is.rfl) ?_
        exact ⟨D - 1, by omega, j + 1, by omega, by rw [hts, hno, hg]; rfl, SE.mk (by simp [dI, dL, hw]) rfl⟩
  · simp at hb
    have hx : l.all (typOK en) = true := by rw [← hno, List.take_of_length_le hb]
    rw [hx]
    refine wk True.intro ?_
    show retQ _ _ _ _ _
    exact ⟨.inr rfl, _, _, rfl, rfl⟩
end Go.Ac
end

section
set_option maxRecDepth 4000
set_option linter.unusedSimpArgs false
set_option linter.unusedVariables false
namespace Go.Ac
open Go.Proofs

def rsE (im : Im) : Nat → List Rt → Int
  | _, [] => 0
  | k, r :: l => if oneE im k r = 0 then rsE im (k + 1) l else oneE im k r
theorem rsE_step {im : Im} {l : List Rt} {j : Nat} {r : Rt} (h : l[j]? = some r) : rsE im j (l.drop j) = if oneE im j r = 0 then rsE im (j + 1) (l.drop (j + 1)) else oneE im j r := by
  obtain ⟨hl, he⟩ := List.getElem?_eq_some_iff.1 h
  rw [List.drop_eq_getElem_cons hl, he]; rfl
def chkE (im : Im) : Int :=
  if im.enums.length > 24 then 3 else if im.rs.length > 96 then 3 else if im.enums.any outE then 14 else if im.rs.length = 0 then 5 else rsE im 0 im.rs
set_option maxHeartbeats 1000000 in
theorem check_den (im : Im) (hs : im.sz ≤ MB) (hok : ∀ r, r ∈ im.rs → RtOK r) : den Tryd.prog Cp.cfg 22 [aM im] = some (dI (chkE im)) := by
  have hrl := im.len_rs
  have hel : im.enums.length ≤ im.sz := by unfold Im.sz; omega
  unfold MB at hs
  have hce := contains_outE im.enums (by unfold MX; omega)
  simp only [dL, dB] at hce
  refine den_wp Tryd.func22 rfl (by kernel_rfl) rfl rfl ?_
  unfold chkE
  by_cases q1 : im.enums.length > 24
  · rw [if_pos q1]
    have q1' : (24 < im.enums.length) = True := by simp; omega
    have q1'' : ((24 : Int) < im.enums.length) = True := by simp; omega
    refine wkc (And.intro @dI.eq_1 (And.intro @aM.eq_1 (And.intro @Im.cells.eq_1 (And.intro @q1' @q1'')))) ?_
    show retQ _ _ _ _ _
    exact ⟨.inr rfl, _, _, rfl, rfl⟩
  rw [if_neg q1]
  have q1' : (24 < im.enums.length) = False := by simp; omega
  have q1'' : ((24 : Int) < im.enums.length) = False := by simp; omega
  by_cases q2 : im.rs.length > 96
  · rw [if_pos q2]
    have q2' : (96 < im.rs.length) = True := by simp; omega
    have q2'' : ((96 : Int) < im.rs.length) = True := by simp; omega
    refine wkc (And.intro @dI.eq_1 (And.intro @aM.eq_1 (And.intro @Im.cells.eq_1 (And.intro @q1' (And.intro @q1'' (And.intro @q2' @q2'')))))) ?_
    show retQ _ _ _ _ _
    exact ⟨.inr rfl, _, _, rfl, rfl⟩
  rw [if_neg q2]
  have q2' : (96 < im.rs.length) = False := by simp; omega
  have q2'' : ((96 : Int) < im.rs.length) = False := by simp; omega
  cases q3 : im.enums.any outE with
  | true =>
    rw [q3] at hce
    refine wkc (And.intro @dI.eq_1 (And.intro @aM.eq_1 (And.intro @Im.cells.eq_1 (And.intro @q1' (And.intro @q1'' (And.intro @q2' (And.intro @q2'' @hce))))))) ?_
    show retQ _ _ _ _ _
    exact ⟨.inr rfl, _, _, rfl, rfl⟩
  | false =>
    rw [q3] at hce
    rw [if_neg (by simp)]
    by_cases q4 : im.rs.length = 0
    · rw [if_pos q4]
      have q4' : im.rs = [] := List.eq_nil_of_length_eq_zero q4
      refine wkc (And.intro @dI.eq_1 (And.intro @aM.eq_1 (And.intro @Im.cells.eq_1 (And.intro @q1' (And.intro @q1'' (And.intro @q2' (And.intro @q2'' (And.intro @hce (And.intro @q4 @q4'))))))))) ?_
      show retQ _ _ _ _ _
      exact ⟨.inr rfl, _, _, rfl, rfl⟩
    rw [if_neg q4]
    have q4' : ¬ im.rs = [] := fun h => q4 (by rw [h]; rfl)
    have q4'' : ((im.rs.length : Int) = 0) = False := by simp; omega
    refine wkc (And.intro @dI.eq_1 (And.intro @aM.eq_1 (And.intro @Im.cells.eq_1 (And.intro @q1' (And.intro @q1'' (And.intro @q2' (And.intro @q2'' (And.intro @hce (And.intro @q4 (And.intro @q4' (And.intro @q4'' @int_beq))))))))))) ?_
    apply WP.loop' (I := fun D s => ∃ j : Nat, j + D = im.rs.length ∧ rsE im 0 im.rs = rsE im j (im.rs.drop j) ∧ SE [(1, .ptr 0 0 0), (24, dI im.rs.length), (25, dI j)] [(0, ⟨0, false, im.cells.map .d⟩)] 1 s) (d := im.rs.length)
    · exact ⟨0, by simp, rfl, SE.mk (by simp [dI]) (by simp [Im.cells])⟩
    rintro D _ ⟨j, hj, hE, cc, rfl⟩
    refine wk (@dI.eq_1) ?_
    show WP _ _ _ _ _ _
    refine WP.cond _ rfl (fun hb => ?_) (fun hb => ?_)
    · simp at hb
      have hb' : j < im.rs.length := hb
      obtain ⟨r, hr, hm, hix⟩ := at_lt hb'
      have hw := w_succ hb' (by omega)
      have hst := rsE_step (im := im) hr
      rw [← hE] at hst
      have h1 := one_den im j r hr (by unfold MB; omega) (hok r hm)
      simp only [aM, Im.cells, List.map_cons, List.map_nil, dI] at h1
      by_cases h0 : oneE im j r = 0
      · rw [h0] at h1
        rw [if_pos h0] at hst
        refine wkc (And.intro @dI.eq_1 (And.intro @Im.cells.eq_1 @h1)) ?_
        refine loop_next (by simp [hw]; exact Is.rfl) ?_
        exact ⟨D - 1, by omega, j + 1, by omega, hst, SE.mk (by simp [dI, hw]) (by simp [Im.cells])⟩
      · rw [if_neg h0] at hst
        rw [hst]
        refine wkc (And.intro @dI.eq_1 (And.intro @Im.cells.eq_1 (And.intro @h1 (And.intro @h0 @int_bne)))) ?_
        show retQ _ _ _ _ _
        exact ⟨.inr rfl, _, _, rfl, rfl⟩
    · simp at hb
      have hE0 : rsE im 0 im.rs = 0 := by rw [hE, List.drop_of_length_le hb]; rfl
      rw [hE0]
      refine wk True.intro ?_
      show retQ _ _ _ _ _
      exact ⟨.inr rfl, _, _, rfl, rfl⟩
end Go.Ac
end
