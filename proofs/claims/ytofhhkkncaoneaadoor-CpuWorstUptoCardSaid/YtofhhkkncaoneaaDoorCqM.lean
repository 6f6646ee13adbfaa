/- The reference's check of one routine. -/
import Derived.Test.YtofhhkkncaoneaaDoorAcBM
import Derived.Test.YtofhhkkncaoneaaDoorAcDM
import Derived.Test.YtofhhkkncaoneaaDoorAcGM
import Derived.Test.YtofhhkkncaoneaaDoorAcJM
import Derived.Test.YtofhhkkncaoneaaDoorAcMM
import Derived.Test.YtofhhkkncaoneaaDoorAcSM
import Derived.Test.YtofhhkkncaoneaaDoorAcXM
import Derived.Test.YtofhhkkncaoneaaDoorAcUcM
import Derived.Test.YtofhhkkncaoneaaDoorAcThM
import Derived.Test.YtofhhkkncaoneaaDoorCpBM
import Derived.Test.YtofhhkkncaoneaaDoorCpD
import Derived.Test.YtofhhkkncaoneaaDoorCpF
import Derived.Test.YtofhhkkncaoneaaDoorCpIM
import Derived.Test.YtofhhkkncaoneaaDoorCpJ
import Derived.Test.YtofhhkkncaoneaaDoorCpK
import Derived.Test.YtofhhkkncaoneaaDoorCpL
import Derived.Test.YtofhhkkncaoneaaDoorCpM
import Derived.Test.YtofhhkkncaoneaaDoorCrTM
import Derived.Test.YtofhhkkncaoneaaDoorCpQM
import Derived.Test.YtofhhkkncaoneaaDoorCpR
import Derived.Calls
import Derived.Orders
import Derived.Laws.World
import Derived.Laws.Sem
import Derived.Laws.Cells
import Derived.Laws.Append
import GoSem.ClaimData
import Derived.Laws.Tables
import Derived.Laws.Slices
import Derived.Laws.Strings
import Derived.Laws.Small
import Derived.KernelRfl
import Derived.Test.YtofhhkkncaoneaaDoorChecked
import Derived.Lib.RuneCount
import Derived.Lib.DecodeN
set_option linter.unusedVariables false
set_option linter.unusedSimpArgs false
set_option maxRecDepth 4000
set_option linter.unusedSimpArgs false
set_option linter.unusedVariables false
namespace Go.Ac
open Go.Proofs

theorem rform_all (i : I) (at_ lenC : Int) : den Tryd.prog Cp.cfg 53 [aI i, dI at_, dI lenC] = some (dB (isO i.op && formB at_ lenC i)) := by
  cases h : isO i.op with
  | true => exact rform_yes i at_ lenC ((isO_iff _).1 h)
  | false => exact rform_no i at_ lenC fun h' => by rw [(isO_iff _).2 h'] at h; cases h

theorem bigE_iff {r : Rt} : bigE r = true ↔ c1 r ∨ c2 r ∨ c3 r := by
  unfold bigE; simp [or_assoc]
set_option maxHeartbeats 4000000 in
theorem routine_den (im : Im) (k : Nat) (r : Rt) (hr : im.rs[k]? = some r) (hs : im.sz ≤ MB) (hok : RtOK r) : den Tryd.prog Cp.cfg 40 [aM im, dI k] = some (dI (oneE im k r)) := by
  have hkl : k < im.rs.length := by rcases Nat.lt_or_ge k im.rs.length with h | h; exact h; rw [List.getElem?_eq_none h] at hr; cases hr
  have hix := idx_lt hkl
  have hr' := encR_at hr
  have hsz := hok.sz
  have hrl := im.len_rs
  have hel : im.enums.length ≤ im.sz := by unfold Im.sz; omega
  unfold Rt.sz MB at hsz
  unfold MB at hs
  have hn := rname_den r.nm (by unfold MX; omega)
  simp only [dI, dB, dS] at hn
  refine den_wp Tryd.func40 rfl (by kernel_rfl) rfl rfl ?_
  unfold oneE
  cases h0 : nameOK r.nm with
  | false =>
    rw [h0] at hn
    refine wkc (And.intro @dI.eq_1 (And.intro @aM.eq_1 (And.intro @Im.cells.eq_1 (And.intro @Rt.cells.eq_1 (And.intro @hix (And.intro @hr' @hn)))))) ?_
    show retQ _ _ _ _ _
    exact ⟨.inr rfl, _, _, rfl, rfl⟩
  | true =>
    rw [h0] at hn
    rw [if_neg (by simp)]
    have fin3 : bigE r = true → (if bigE r = true then (3 : Int) else if (r.inn ++ r.out).any (fun t => !typOK im.enums t) = true then 10 else if r.regs < (r.inn.length : Int) + r.out.length then 9 else if r.ini.any outW = true then 14 else codeE (stepE im.rs k r) 0 r.code) = 3 := fun h => by rw [if_pos h]
    by_cases p1 : (64 : Int) < r.inn.length
    · have p1t : ((64 : Int) < r.inn.length) = True := eq_true p1
      have p1n : (64 < r.inn.length) = True := eq_true (by omega)
      rw [fin3 (bigE_iff.2 (.inl (by unfold c1; split <;> omega)))]
      refine wkc (And.intro @dI.eq_1 (And.intro @aM.eq_1 (And.intro @Im.cells.eq_1 (And.intro @Rt.cells.eq_1 (And.intro @hix (And.intro @hr' (And.intro @hn (And.intro @p1t @p1n)))))))) ?_
      show retQ _ _ _ _ _
      exact ⟨.inr rfl, _, _, rfl, rfl⟩
    have p1t : ((64 : Int) < r.inn.length) = False := eq_false p1
    have p1n : (64 < r.inn.length) = False := eq_false (by omega)
    by_cases p2 : (64 : Int) < r.out.length
    · have p2t : ((64 : Int) < r.out.length) = True := eq_true p2
      have p2n : (64 < r.out.length) = True := eq_true (by omega)
      rw [fin3 (bigE_iff.2 (.inl (by unfold c1; split <;> omega)))]
      refine wkc (And.intro @dI.eq_1 (And.intro @aM.eq_1 (And.intro @Im.cells.eq_1 (And.intro @Rt.cells.eq_1 (And.intro @hix (And.intro @hr' (And.intro @hn (And.intro @p1t (And.intro @p1n (And.intro @p2t @p2n)))))))))) ?_
      show retQ _ _ _ _ _
      exact ⟨.inr rfl, _, _, rfl, rfl⟩
    have p2t : ((64 : Int) < r.out.length) = False := eq_false p2
    have p2n : (64 < r.out.length) = False := eq_false (by omega)
    by_cases p3 : (16384 : Int) < r.ini.length
    · have p3t : ((16384 : Int) < r.ini.length) = True := eq_true p3
      have p3n : (16384 < r.ini.length) = True := eq_true (by omega)
      rw [fin3 (bigE_iff.2 (.inr (.inl (by unfold c2; omega))))]
      refine wkc (And.intro @dI.eq_1 (And.intro @aM.eq_1 (And.intro @Im.cells.eq_1 (And.intro @Rt.cells.eq_1 (And.intro @hix (And.intro @hr' (And.intro @hn (And.intro @p1t (And.intro @p1n (And.intro @p2t (And.intro @p2n (And.intro @p3t @p3n)))))))))))) ?_
      show retQ _ _ _ _ _
      exact ⟨.inr rfl, _, _, rfl, rfl⟩
    have p3t : ((16384 : Int) < r.ini.length) = False := eq_false p3
    have p3n : (16384 < r.ini.length) = False := eq_false (by omega)
    by_cases p4 : (32768 : Int) < r.code.length
    · have p4t : ((32768 : Int) < r.code.length) = True := eq_true p4
      have p4n : (32768 < r.code.length) = True := eq_true (by omega)
      rw [fin3 (bigE_iff.2 (.inr (.inr (by unfold c3; split <;> omega))))]
      refine wkc (And.intro @dI.eq_1 (And.intro @aM.eq_1 (And.intro @Im.cells.eq_1 (And.intro @Rt.cells.eq_1 (And.intro @hix (And.intro @hr' (And.intro @hn (And.intro @p1t (And.intro @p1n (And.intro @p2t (And.intro @p2n (And.intro @p3t (And.intro @p3n (And.intro @p4t @p4n)))))))))))))) ?_
      show retQ _ _ _ _ _
      exact ⟨.inr rfl, _, _, rfl, rfl⟩
    have p4t : ((32768 : Int) < r.code.length) = False := eq_false p4
    have p4n : (32768 < r.code.length) = False := eq_false (by omega)
    by_cases p5 : (32768 : Int) < r.regs
    · have p5t : ((32768 : Int) < r.regs) = True := eq_true p5
      rw [fin3 (bigE_iff.2 (.inr (.inr (by unfold c3; split <;> omega))))]
      refine wkc (And.intro @dI.eq_1 (And.intro @aM.eq_1 (And.intro @Im.cells.eq_1 (And.intro @Rt.cells.eq_1 (And.intro @hix (And.intro @hr' (And.intro @hn (And.intro @p1t (And.intro @p1n (And.intro @p2t (And.intro @p2n (And.intro @p3t (And.intro @p3n (And.intro @p4t (And.intro @p4n @p5t))))))))))))))) ?_
      show retQ _ _ _ _ _
      exact ⟨.inr rfl, _, _, rfl, rfl⟩
    have p5t : ((32768 : Int) < r.regs) = False := eq_false p5
    have hbg : ¬ bigE r = true := fun h => by
      rcases bigE_iff.1 h with h | h | h
      · unfold c1 at h; split at h <;> omega
      · unfold c2 at h; omega
      · unfold c3 at h; split at h <;> omega
    rw [if_neg hbg]
    clear fin3
    have t1 := rtyped_den im.enums r.inn (by omega) (by unfold MX; omega)
    have t2 := rtyped_den im.enums r.out (by omega) (by unfold MX; omega)
    simp only [dL, dB] at t1 t2
    have hany : (r.inn ++ r.out).any (fun t => !typOK im.enums t) = !(r.inn.all (typOK im.enums) && r.out.all (typOK im.enums)) := by
      rw [List.any_append, Bool.not_and, List.not_all_eq_any_not, List.not_all_eq_any_not]
    rw [hany]
    cases h1 : r.inn.all (typOK im.enums) with
    | false =>
      rw [h1] at t1
      refine wkc (And.intro @dI.eq_1 (And.intro @aM.eq_1 (And.intro @Im.cells.eq_1 (And.intro @Rt.cells.eq_1 (And.intro @hix (And.intro @hr' (And.intro @hn (And.intro @p1t (And.intro @p1n (And.intro @p2t (And.intro @p2n (And.intro @p3t (And.intro @p3n (And.intro @p4t (And.intro @p4n (And.intro @p5t @t1)))))))))))))))) ?_
      show retQ _ _ _ _ _
      exact ⟨.inr rfl, _, _, rfl, rfl⟩
    | true =>
    rw [h1] at t1
    cases h2 : r.out.all (typOK im.enums) with
    | false =>
      rw [h2] at t2
      refine wkc (And.intro @dI.eq_1 (And.intro @aM.eq_1 (And.intro @Im.cells.eq_1 (And.intro @Rt.cells.eq_1 (And.intro @hix (And.intro @hr' (And.intro @hn (And.intro @p1t (And.intro @p1n (And.intro @p2t (And.intro @p2n (And.intro @p3t (And.intro @p3n (And.intro @p4t (And.intro @p4n (And.intro @p5t (And.intro @t1 @t2))))))))))))))))) ?_
      show retQ _ _ _ _ _
      exact ⟨.inr rfl, _, _, rfl, rfl⟩
    | true =>
    rw [h2] at t2
    rw [if_neg (by simp)]
    have hws : IntKind.i64.wrap ((r.inn.length : Int) + r.out.length) = (r.inn.length : Int) + r.out.length := by rw [w_id'] <;> omega
    by_cases q4 : r.regs < (r.inn.length : Int) + r.out.length
    · rw [if_pos q4]
      have q4' : (r.regs < (r.inn.length : Int) + r.out.length) = True := eq_true q4
      refine wkc (And.intro @dI.eq_1 (And.intro @aM.eq_1 (And.intro @Im.cells.eq_1 (And.intro @Rt.cells.eq_1 (And.intro @hix (And.intro @hr' (And.intro @hn (And.intro @p1t (And.intro @p1n (And.intro @p2t (And.intro @p2n (And.intro @p3t (And.intro @p3n (And.intro @p4t (And.intro @p4n (And.intro @p5t (And.intro @t1 (And.intro @t2 (And.intro @hws @q4'))))))))))))))))))) ?_
      show retQ _ _ _ _ _
      exact ⟨.inr rfl, _, _, rfl, rfl⟩
    rw [if_neg q4]
    have q4' : (r.regs < (r.inn.length : Int) + r.out.length) = False := eq_false q4
    refine wkc (And.intro @dI.eq_1 (And.intro @aM.eq_1 (And.intro @Im.cells.eq_1 (And.intro @Rt.cells.eq_1 (And.intro @hix (And.intro @hr' (And.intro @hn (And.intro @p1t (And.intro @p1n (And.intro @p2t (And.intro @p2n (And.intro @p3t (And.intro @p3n (And.intro @p4t (And.intro @p4n (And.intro @p5t (And.intro @t1 (And.intro @t2 (And.intro @hws @q4'))))))))))))))))))) ?_
    clear t1 t2 hany h1 h2 hn
    apply WP.loop' (I := fun D s => ∃ j : Nat, j + D = r.ini.length ∧ (r.ini.take j).all (fun v => !outW v) = true ∧ SE [(1, dI k), (2, .ptr 0 0 0), (5, .ptr 1 1 0), (6, dI j)] [(0, ⟨0, false, im.cells.map .d⟩), (1, ⟨1, false, r.cells.map .d⟩)] 2 s) (d := r.ini.length)
    · exact ⟨0, by simp, by simp, SE.mk (by simp [dI]) (by simp [Im.cells, Rt.cells])⟩
    rintro D _ ⟨j, hj, hno, cc, rfl⟩
    refine wk (And.intro @dI.eq_1 @Rt.cells.eq_1) ?_
    show WP _ _ _ _ _ _
    refine WP.cond _ rfl (fun hb => ?_) (fun hb => ?_)
    · simp at hb
      have hb' : j < r.ini.length := hb
      obtain ⟨v, hv, hvm, hix2⟩ := at_lt hb'
      have hv' := encI_at hv
      have hw := w_succ hb' (by omega)
      have hts := all_take_succ (p := fun v => !outW v) hv
      by_cases u0 : v < -32768
      · have hx : r.ini.any outW = true := List.any_eq_true.2 ⟨v, hvm, by simp [outW, u0]⟩
        rw [if_pos hx]
        refine wkc (And.intro @dI.eq_1 (And.intro @Im.cells.eq_1 (And.intro @Rt.cells.eq_1 (And.intro @hix2 (And.intro @hv' @u0))))) ?_
        show retQ _ _ _ _ _
        exact ⟨.inr rfl, _, _, rfl, rfl⟩
      · by_cases u1 : 32767 < v
        · have hx : r.ini.any outW = true := List.any_eq_true.2 ⟨v, hvm, by simp [outW, u1]⟩
          rw [if_pos hx]
          refine wkc (And.intro @dI.eq_1 (And.intro @Im.cells.eq_1 (And.intro @Rt.cells.eq_1 (And.intro @hix2 (And.intro @hv' (And.intro @u0 @u1)))))) ?_
          show retQ _ _ _ _ _
          exact ⟨.inr rfl, _, _, rfl, rfl⟩
        · refine wkc (And.intro @dI.eq_1 (And.intro @Im.cells.eq_1 (And.intro @Rt.cells.eq_1 (And.intro @hix2 (And.intro @hv' (And.intro @u0 @u1)))))) ?_
          refine loop_next (by simp [hw]; exact Is.rfl) ?_
          exact ⟨D - 1, by omega, j + 1, by omega, by rw [hts, hno]; simp [outW, u0, u1], SE.mk (by simp [dI, hw]) (by simp [Im.cells, Rt.cells])⟩
    · simp at hb
      have hil : j = r.ini.length := by omega
      subst hil
      have hx : ¬ r.ini.any outW = true := by
        rw [List.take_length] at hno
        intro h
        obtain ⟨v, hv, hp⟩ := List.any_eq_true.1 h
        have := List.all_eq_true.1 hno v hv
        rw [hp] at this; cases this
      rw [if_neg hx]
      refine wkc (And.intro @dI.eq_1 (And.intro @Im.cells.eq_1 @Rt.cells.eq_1)) ?_
      apply WP.loop' (I := fun D s => ∃ j : Nat, j + D = r.code.length ∧ codeE (stepE im.rs k r) 0 r.code = codeE (stepE im.rs k r) j (r.code.drop j) ∧ SE [(1, dI k), (2, .ptr 0 0 0), (5, .ptr 1 1 0), (7, dI j)] [(0, ⟨0, false, im.cells.map .d⟩), (1, ⟨1, false, r.cells.map .d⟩)] 2 s) (d := r.code.length)
      · exact ⟨0, by simp, rfl, SE.mk (by simp [dI]) (by simp [Im.cells, Rt.cells])⟩
      rintro D _ ⟨j, hj, hE, cc, rfl⟩
      refine wk (And.intro @dI.eq_1 @Rt.cells.eq_1) ?_
      show WP _ _ _ _ _ _
      refine WP.cond _ rfl (fun hb => ?_) (fun hb => ?_)
      · simp at hb
        have hb' : j < r.code.length := hb
        obtain ⟨i, hi1, him, hix2⟩ := at_lt hb'
        have hi2 := encC_at hi1
        have hw := w_succ hb' (by omega)
        have hst := codeE_step (f := stepE im.rs k r) hi1
        rw [← hE] at hst
        have hF := rform_all i j r.code.length
        simp only [aI, I.cells, List.map_cons, List.map_nil, dI, dB] at hF
        cases hf : (isO i.op && formB j r.code.length i) with
        | false =>
          rw [hf] at hF
          have h5' : stepE im.rs k r j i = 5 := by unfold stepE; rw [hf]; rfl
          rw [h5'] at hst
          rw [hst]
          refine wkc (And.intro @dI.eq_1 (And.intro @hix2 (And.intro @hi2 (And.intro @I.cells.eq_1 (And.intro @Rt.cells.eq_1 (And.intro @Im.cells.eq_1 @hF)))))) ?_
          show retQ _ _ _ _ _
          exact ⟨.inr rfl, _, _, rfl, rfl⟩
        | true =>
          rw [hf] at hF
          have hO : IsO i.op := (isO_iff _).1 (by simp only [Bool.and_eq_true] at hf; exact hf.1)
          have hR := rranges_den im k r i hO hr (by unfold MX; omega) (by unfold MX; omega) hok.regs
          simp only [aM, aI, Im.cells, I.cells, List.map_cons, List.map_nil, dI, dB] at hR
          cases hg : rangB im.rs k r i with
          | false =>
            rw [hg] at hR
            have h5' : stepE im.rs k r j i = 14 := by unfold stepE; rw [hf, hg]; rfl
            rw [h5'] at hst
            rw [hst]
            refine wkc (And.intro @dI.eq_1 (And.intro @hix2 (And.intro @hi2 (And.intro @I.cells.eq_1 (And.intro @Rt.cells.eq_1 (And.intro @Im.cells.eq_1 (And.intro @hF @hR))))))) ?_
            show retQ _ _ _ _ _
            exact ⟨.inr rfl, _, _, rfl, rfl⟩
          | true =>
            rw [hg] at hR
            have h5' : stepE im.rs k r j i = 0 := by unfold stepE; rw [hf, hg]; rfl
            rw [h5'] at hst
            refine wkc (And.intro @dI.eq_1 (And.intro @hix2 (And.intro @hi2 (And.intro @I.cells.eq_1 (And.intro @Rt.cells.eq_1 (And.intro @Im.cells.eq_1 (And.intro @hF @hR))))))) ?_
            refine loop_next (by simp [hw]; exact Is.rfl) ?_
            exact ⟨D - 1, by omega, j + 1, by omega, by rw [hst]; rfl, SE.mk (by simp [dI, hw]) (by simp [Im.cells, Rt.cells])⟩
      · simp at hb
        have hE0 : codeE (stepE im.rs k r) 0 r.code = 0 := by rw [hE, List.drop_of_length_le hb]; rfl
        rw [hE0]
        refine wk True.intro ?_
        show retQ _ _ _ _ _
        exact ⟨.inr rfl, _, _, rfl, rfl⟩
theorem rcheck_den (im : Im) (hs : im.sz ≤ MB) (hok : ∀ r, r ∈ im.rs → RtOK r) : den Tryd.prog Cp.cfg 25 [aM im] = some (dI (chkE im)) :=
  rcheck_of im hs fun k r hr => routine_den im k r hr hs (hok r (List.mem_of_getElem? hr))
end Go.Ac
