/- CpuSteps by data. -/
import Derived.Test.YtofhhkkncaoneaaDoorAcBM
import Derived.Test.YtofhhkkncaoneaaDoorAcDM
import Derived.Test.YtofhhkkncaoneaaDoorAcGM
import Derived.Test.YtofhhkkncaoneaaDoorAcJM
import Derived.Test.YtofhhkkncaoneaaDoorAcLM
import Derived.Test.YtofhhkkncaoneaaDoorAcOM
import Derived.Test.YtofhhkkncaoneaaDoorAcSM
import Derived.Test.YtofhhkkncaoneaaDoorAcXM
import Derived.Test.YtofhhkkncaoneaaDoorAcUcM
import Derived.Test.YtofhhkkncaoneaaDoorAcThM
import Derived.Test.YtofhhkkncaoneaaDoorCpBM
import Derived.Test.YtofhhkkncaoneaaDoorCpD
import Derived.Test.YtofhhkkncaoneaaDoorCpF
import Derived.Test.YtofhhkkncaoneaaDoorCpL
import Derived.Test.YtofhhkkncaoneaaDoorCrTM
import Derived.Test.YtofhhkkncaoneaaDoorCqFM
import Derived.Test.YtofhhkkncaoneaaDoorCqIM
import Derived.Test.YtofhhkkncaoneaaDoorCqNM
import Derived.Test.YtofhhkkncaoneaaDoorCpWM
import Derived.Test.YtofhhkkncaoneaaDoorCpQM
import Derived.Test.YtofhhkkncaoneaaDoorCqWM
import Derived.Test.YtofhhkkncaoneaaDoorCrA
import Derived.Test.YtofhhkkncaoneaaDoorCrB
import Derived.Calls
import Derived.Orders
import Derived.Laws.World
import Derived.Laws.Sem
import Derived.Laws.Cells
import Derived.Laws.Append
import GoSem.ClaimData
import Derived.Laws.Tables
import Derived.Laws.Slices
import Derived.Laws.Strings
import Derived.Laws.Small
import Derived.KernelRfl
import Derived.Test.YtofhhkkncaoneaaDoorChecked
import Derived.Lib.RuneCount
import Derived.Lib.DecodeN
set_option linter.unusedVariables false
set_option linter.unusedSimpArgs false
set_option maxRecDepth 4000
set_option linter.unusedSimpArgs false
set_option linter.unusedVariables false
namespace Go.Ac
open Go.Proofs

set_option maxHeartbeats 8000000 in
theorem steps_den (im : Im) (rows : List (List Int)) (hs : im.sz ≤ MB) (hok : ∀ r, r ∈ im.rs → RtOK r) (hr1 : rows.length ≤ MB) (hr3 : ∀ r ∈ rows, r.length ≤ 4194304) : den Tryd.prog Cp.cfg 3 [aM im, dLL rows] = some (dB true) := by
  have haw := awake_den
  simp only [dB] at haw
  obtain ⟨bh, hh⟩ := heavy_den im hs (rows.length : Int)
  simp only [aM, Im.cells, List.map_cons, List.map_nil, dI, dB] at hh
  unfold MB at hr1
  refine den_wp Tryd.func3 rfl (by kernel_rfl) rfl rfl ?_
  cases bh with
  | true =>
    refine wkceiktux (And.intro @dI.eq_1 (And.intro @dLL.eq_1 (And.intro @aM.eq_1 (And.intro @Im.cells.eq_1 (And.intro @hh (And.intro @haw @addNew_zero)))))) ?_
    show retQ _ _ _ _ _
    exact ⟨.inr rfl, _, _, rfl, rfl⟩
  | false =>
  by_cases hc : chkE im = 0
  case neg =>
    have hb := new_bad hs hok hc
    have hb2 := rnew_bad hs hok hc
    have n1 := nstep_den
    have n2 := rnstep_den
    have n3 := nmem_den
    have n4 := rnmem_den
    have n5 := ncount_den
    have n6 := rncount_den
    have n7 := nstep2_den
    have n8 := nreset_den
    have n9 := nload_den
    have i0 : den Tryd.prog Cp.cfg 13 [.d (.slice []), .d (.slice [])] = some (.d (.bool true)) := ints_same [] (by simp)
    simp only [aM, Im.cells, List.map_cons, List.map_nil, dI] at hb hb2 n1 n2 n3 n4 n5 n6 n7 n8 n9
    refine wkceiktux (And.intro @dI.eq_1 (And.intro @dLL.eq_1 (And.intro @aM.eq_1 (And.intro @Im.cells.eq_1 (And.intro @hh (And.intro @haw (And.intro @addNew_zero (And.intro @hb (And.intro @hb2 (And.intro @hc @int_bne)))))))))) ?_
    apply WP.loop' (I := fun D s => ∃ (j : Nat) (hp' : Hp) (c' : Nat), j + D = rows.length ∧ s = ⟨[(1, dLL rows), (5, .con (.pointer none)), (7, .con (.pointer none)), (9, dI j)], hp', 1, c', 0, []⟩) (d := rows.length)
    · exact ⟨0, _, _, by simp, by rfl⟩
    rintro D _ ⟨j, hp', c', hj, rfl⟩
    refine wkeiktux (And.intro @dI.eq_1 (And.intro @dLL.eq_1 (And.intro @dL.eq_1 @addNew_zero))) ?_
    show WP _ _ _ _ _ _
    refine WP.cond _ rfl (fun hb => ?_) (fun hb => ?_)
    · simp at hb
      have hb' : j < rows.length := hb
      have hrow := encL_row hb'
      have hix := idx_lt hb'
      have hw := w_succ hb' (by omega)
      refine wkceiktux (And.intro @dI.eq_1 (And.intro @dLL.eq_1 (And.intro @dL.eq_1 (And.intro @addNew_zero (And.intro @hix (And.intro @hrow (And.intro @n1 (And.intro @n2 (And.intro @n3 (And.intro @n4 (And.intro @n5 (And.intro @n6 (And.intro @i0 @int_bne))))))))))))) ?_
      refine loop_next (by simp [addNew_zero, -addNew, hw]; exact Is.rfl) ?_
      exact ⟨D - 1, by omega, j + 1, _, _, by omega, by rfl⟩
    · refine wkceiktux (And.intro @dI.eq_1 (And.intro @dLL.eq_1 (And.intro @dL.eq_1 (And.intro @addNew_zero (And.intro @n3 (And.intro @n5 (And.intro @n7 (And.intro @n8 (And.intro @n9 (And.intro @i0 @haw)))))))))) ?_
      show retQ _ _ _ _ _
      exact ⟨.inr rfl, _, _, rfl, rfl⟩
  have hG := good_of hc
  obtain ⟨q, hI1, hqv, mid, mg, hMq, hmlt, hn1⟩ := new_ok hs hok hc
  have hI2 : closeT noLook q.v = none := by rw [hqv]; rfl
  have hI3 : shiftV 1 1 q.v = .tuple [.ptr 2 2 0, dI 0] := by rw [hqv]; rfl
  obtain ⟨W1, hI4⟩ : ∃ W, shiftH 1 1 (wrOf q.hp.get (List.range q.n)) = W := ⟨_, rfl⟩
  simp only [aM, Im.cells, List.map_cons, List.map_nil] at hI1
  refine wkceiktux (And.intro @dI.eq_1 (And.intro @dLL.eq_1 (And.intro @aM.eq_1 (And.intro @Im.cells.eq_1 (And.intro @hh (And.intro @haw @addNew_zero)))))) ?_
  apply WP.gen
  intro hp1 wl1 hhp hwl
  have hb1 : hp1.get 0 = some ⟨0, false, [.d (.slice (encI im.enums)), .d (.slice (encR im.rs))]⟩ := by rw [hhp, ← hI4, import_old (by omega)]; rfl
  have hM1 : Mc im hp1 2 2 (mid + 1) (mg + 1) (lastR im).ini 0 := by rw [hhp, ← hI4]; exact hMq.shift hn1 hmlt
  obtain ⟨n1, hn1e⟩ : ∃ n1, n1 = 1 + q.n := ⟨_, rfl⟩
  obtain ⟨c1, hc1e⟩ : ∃ c1, c1 = 1 + q.c := ⟨_, rfl⟩
  rw [← hn1e, ← hc1e]
  clear hhp hwl hI3 hI4 hI1 hI2
  obtain ⟨r, hI1, hrv, mid', mg', hMr, hmlt', hn1'⟩ := rnew_ok hs hok hc
  have hI2 : closeT noLook r.v = none := by rw [hrv]; rfl
  have hI3 : shiftV n1 c1 r.v = .tuple [.ptr (1 + n1) (1 + c1) 0, dI 0] := by rw [hrv]; simp [shiftV, shiftVs, dI]
  obtain ⟨W2, hI4⟩ : ∃ W, shiftH n1 c1 (wrOf r.hp.get (List.range r.n)) = W := ⟨_, rfl⟩
  simp only [aM, Im.cells, List.map_cons, List.map_nil] at hI1
  refine wkceiktux (And.intro @dI.eq_1 (And.intro @addNew_zero @hb1)) ?_
  apply WP.gen
  intro hp2 wl2 hhp hwl
  have hT0 : Two im hp2 (n1 + r.n) 2 2 (mid + 1) (mg + 1) (lastR im).ini 0 (1 + n1) (1 + c1) (mid' + n1) (mg' + c1) (lastR im).ini 0 := by
    have hold : ∀ j, j < n1 → hp2.get j = hp1.get j := fun j hj => by rw [hhp, ← hI4, import_old hj]
    have hd : Mc im hp2 (1 + n1) (1 + c1) (mid' + n1) (mg' + c1) (lastR im).ini 0 := by rw [hhp, ← hI4]; exact hMr.shift hn1' hmlt'
    exact ⟨hM1.same (hold _ (by omega)) (hold _ (by omega)), hd, by omega, by omega, by omega, by omega, by omega, by omega, by omega, by omega⟩
  clear hhp hwl hI3 hI4 hI1 hI2 hM1 hb1
  obtain ⟨N, hNe⟩ : ∃ N, N = n1 + r.n := ⟨_, rfl⟩
  obtain ⟨mc, hmce⟩ : ∃ m, m = mid + 1 := ⟨_, rfl⟩
  obtain ⟨mgc, hmgce⟩ : ∃ m, m = mg + 1 := ⟨_, rfl⟩
  obtain ⟨id, hide⟩ : ∃ m, m = 1 + n1 := ⟨_, rfl⟩
  obtain ⟨gd, hgde⟩ : ∃ m, m = 1 + c1 := ⟨_, rfl⟩
  obtain ⟨md, hmde⟩ : ∃ m, m = mid' + n1 := ⟨_, rfl⟩
  obtain ⟨mgd, hmgde⟩ : ∃ m, m = mg' + c1 := ⟨_, rfl⟩
  rw [← hNe, ← hide, ← hgde] at ⊢
  rw [← hNe, ← hmce, ← hmgce, ← hide, ← hgde, ← hmde, ← hmgde] at hT0
  clear hNe hmce hmgce hide hgde hmde hmgde
  obtain ⟨capc, _, hCc⟩ := hT0.c.c
  obtain ⟨capd, _, hCd⟩ := hT0.d.c
  have hlm : (lastR im).ini.length ≤ 1000000 := by have := hG.il _ hG.mem; omega
  have hrgi : Rg (lastR im).ini := hG.ini _ hG.mem
  refine wkceiktux (And.intro @dI.eq_1 (And.intro @addNew_zero (And.intro @hCc (And.intro @hCd @int_bne)))) ?_
  clear hCc hCd
  apply WP.loop' (I := fun D s => ∃ (j : Nat) (hp' : Hp) (c' : Nat) (mem : List Int) (cnt : Int), j + D = rows.length ∧ mem.length = (lastR im).ini.length ∧ Rg mem ∧ Two im hp' N 2 2 mc mgc mem cnt id gd md mgd mem cnt ∧
    s = ⟨[(1, dLL rows), (5, .ptr 2 2 0), (7, .ptr id gd 0), (9, dI j)], hp', N, c', 0, wl2⟩) (d := rows.length)
  · exact ⟨0, _, _, _, 0, by simp, rfl, hrgi, hT0, by rfl⟩
  clear hT0
  rintro D _ ⟨j, hp', c', mem, cnt, hj, hml, hmr, hTw, rfl⟩
  refine wkeiktux (And.intro @dI.eq_1 (And.intro @dLL.eq_1 (And.intro @dL.eq_1 @addNew_zero))) ?_
  show WP _ _ _ _ _ _
  refine WP.cond _ rfl (fun hb => ?_) (fun hb => ?_)
  · simp at hb
    have hb' : j < rows.length := hb
    have hrow := encL_row hb'
    have hix := idx_lt hb'
    have hw := w_succ hb' (by omega)
    obtain ⟨row, hrowe⟩ : ∃ r, r = rows.getD j [] := ⟨_, rfl⟩
    have hrl : row.length ≤ 4194304 := by rw [hrowe]; exact hr3 _ (by rw [List.getD_eq_getElem?_getD, List.getElem?_eq_getElem hb']; exact List.getElem_mem hb')
    rw [← hrowe] at hrow
    obtain ⟨r0, hT1, hv, hn, hT2, hki, hfr, hpz, hMz, hsame⟩ := (step_den (n := N) (c := c') hG hTw.c hTw.lic hTw.lmc hml hrl).caller (by intro j hj; have := hTw.lic; have := hTw.lmc; simp at hj; omega)
    have hTw2 := hTw.stepc hfr hMz hsame
    obtain ⟨r1, hU1, hv1, hn1', hU2, hki1, hfr1, hpz1, hMz1, hsame1⟩ := (rstep_den (n := N) (c := c' + (r0.c - c')) hG hTw2.d hTw2.lid hTw2.lmd hml hrl).caller (by intro j hj; have := hTw2.lid; have := hTw2.lmd; simp at hj; omega)
    have hTw3 := hTw2.stepd hfr1 hMz1 hsame1
    have hmem := stepR_mem (cnt := cnt) (row := row) hG hml hmr
    have ho := stepR_out (cnt := cnt) (row := row) hG hml
    obtain ⟨st, hst⟩ : ∃ st, st = stepR im mem cnt row := ⟨_, rfl⟩
    rw [← hst] at hv hv1 hTw3 hmem ho
    simp only [dL, dI] at hv hv1
    refine wkceiktux (And.intro @dI.eq_1 (And.intro @dLL.eq_1 (And.intro @dL.eq_1 (And.intro @addNew_zero (And.intro @hix (And.intro @hrow (And.intro @hv (And.intro @hn (And.intro @hv1 @hn1'))))))))) ?_
    have i1 := ints_same _ ho
    have i2 := ints_same st.2.2.1 (by rw [hmem.1]; unfold MX; omega)
    simp only [dL, dB] at i1 i2
    apply WP.gen
    intro hp4 wl4 hhp hwl
    rw [← hhp] at hTw3
    subst hwl
    clear hhp hT1 hU1 hT2 hU2 hki hki1 hfr hfr1 hMz hMz1 hsame hsame1 hv hv1 hn hn1' hTw hTw2 hpz hpz1
    obtain ⟨c4, hc4⟩ : ∃ c4, c4 = c' + (r0.c - c') + (r1.c - (c' + (r0.c - c'))) := ⟨_, rfl⟩
    rw [← hc4]
    have hl2 : st.2.2.1.length ≤ 1000000 := by rw [hmem.1]; exact hlm
    obtain ⟨s0, hT1, hv, hn, hT2, hki, hfr, _⟩ := (memory_ok (n := N) (c := c4) hTw3.c hTw3.lic hTw3.lmc hl2).caller (by intro j hj; cases hj)
    have hTw4 : Two im (hp4.sets (tWr s0 N)) (N + (s0.n - N)) 2 2 mc mgc st.2.2.1 st.2.2.2 id gd md mgd st.2.2.1 st.2.2.2 := hTw3.same (by omega) fun j hj => hfr j hj (by simp)
    obtain ⟨s1, hU1, hv1, hn1', hU2, hki1, hfr1, _⟩ := (rmemory_ok (n := N + (s0.n - N)) (c := c4 + (s0.c - c4)) hTw4.d hTw4.lid hTw4.lmd hl2).caller (by intro j hj; cases hj)
    have hTw5 : Two im ((hp4.sets (tWr s0 N)).sets (tWr s1 (N + (s0.n - N)))) (N + (s0.n - N) + (s1.n - (N + (s0.n - N)))) 2 2 mc mgc st.2.2.1 st.2.2.2 id gd md mgd st.2.2.1 st.2.2.2 := hTw4.same (by omega) fun j hj => hfr1 j hj (by simp)
    obtain ⟨s2, hX1, hv2, hn2, hX2, hki2, hfr2, _⟩ := (count_ok (n := N + (s0.n - N) + (s1.n - (N + (s0.n - N)))) (c := c4 + (s0.c - c4) + (s1.c - (c4 + (s0.c - c4)))) hTw5.c hTw5.lic).caller (by intro j hj; cases hj)
    have hTw6 : Two im (((hp4.sets (tWr s0 N)).sets (tWr s1 (N + (s0.n - N)))).sets (tWr s2 (N + (s0.n - N) + (s1.n - (N + (s0.n - N)))))) (N + (s0.n - N) + (s1.n - (N + (s0.n - N))) + (s2.n - (N + (s0.n - N) + (s1.n - (N + (s0.n - N)))))) 2 2 mc mgc st.2.2.1 st.2.2.2 id gd md mgd st.2.2.1 st.2.2.2 := hTw5.same (by omega) fun j hj => hfr2 j hj (by simp)
    obtain ⟨s3, hY1, hv3, hn3, hY2, hki3, hfr3, _⟩ := (rcount_ok (n := N + (s0.n - N) + (s1.n - (N + (s0.n - N))) + (s2.n - (N + (s0.n - N) + (s1.n - (N + (s0.n - N)))))) (c := c4 + (s0.c - c4) + (s1.c - (c4 + (s0.c - c4))) + (s2.c - (c4 + (s0.c - c4) + (s1.c - (c4 + (s0.c - c4)))))) hTw6.d hTw6.lid).caller (by intro j hj; cases hj)
    simp only [dL, dI] at hv hv1 hv2 hv3
    have hnn : N + (s0.n - N) + (s1.n - (N + (s0.n - N))) + (s2.n - (N + (s0.n - N) + (s1.n - (N + (s0.n - N))))) + (s3.n - (N + (s0.n - N) + (s1.n - (N + (s0.n - N))) + (s2.n - (N + (s0.n - N) + (s1.n - (N + (s0.n - N))))))) = N := by omega
    have hTw7 := hTw6.same (n' := N) (hp' := Hp.trunc N ((((hp4.sets (tWr s0 N)).sets (tWr s1 (N + (s0.n - N)))).sets (tWr s2 (N + (s0.n - N) + (s1.n - (N + (s0.n - N)))))).sets (tWr s3 (N + (s0.n - N) + (s1.n - (N + (s0.n - N))) + (s2.n - (N + (s0.n - N) + (s1.n - (N + (s0.n - N))))))))) (by omega) fun j hj => by rw [Hp.get_trunc _ _ _ (by omega)]; exact hfr3 j hj (by simp)
    refine wkceiktux (And.intro @dI.eq_1 (And.intro @dLL.eq_1 (And.intro @dL.eq_1 (And.intro @addNew_zero (And.intro @hv (And.intro @hv1 (And.intro @hv2 (And.intro @hv3 (And.intro @int_bne (And.intro @i1 @i2)))))))))) ?_
    refine loop_next (by simp [addNew_zero, -addNew, hw, hnn]; exact Is.rfl) ?_
    exact ⟨D - 1, by omega, j + 1, _, _, st.2.2.1, _, by omega, hmem.1, hmem.2, hTw7, by rfl⟩
  · obtain ⟨capc, _, hCc⟩ := hTw.c.c
    refine wkceiktux (And.intro @dI.eq_1 (And.intro @dLL.eq_1 (And.intro @dL.eq_1 (And.intro @addNew_zero (And.intro @hCc @haw))))) ?_
    show retQ _ _ _ _ _
    exact ⟨.inr rfl, _, _, rfl, rfl⟩
end Go.Ac
