/- CpuWorst by data. -/
import Derived.Test.YtofhhkkncaoneaaDoorAcBM
import Derived.Test.YtofhhkkncaoneaaDoorAcDM
import Derived.Test.YtofhhkkncaoneaaDoorAcGM
import Derived.Test.YtofhhkkncaoneaaDoorAcJM
import Derived.Test.YtofhhkkncaoneaaDoorAcLM
import Derived.Test.YtofhhkkncaoneaaDoorAcOM
import Derived.Test.YtofhhkkncaoneaaDoorAcSM
import Derived.Test.YtofhhkkncaoneaaDoorAcXM
import Derived.Test.YtofhhkkncaoneaaDoorAcUcM
import Derived.Test.YtofhhkkncaoneaaDoorAcThM
import Derived.Test.YtofhhkkncaoneaaDoorCpBM
import Derived.Test.YtofhhkkncaoneaaDoorCpD
import Derived.Test.YtofhhkkncaoneaaDoorCpF
import Derived.Test.YtofhhkkncaoneaaDoorCpIM
import Derived.Test.YtofhhkkncaoneaaDoorCpL
import Derived.Test.YtofhhkkncaoneaaDoorCrTM
import Derived.Test.YtofhhkkncaoneaaDoorCqFM
import Derived.Test.YtofhhkkncaoneaaDoorCqIM
import Derived.Test.YtofhhkkncaoneaaDoorCqNM
import Derived.Test.YtofhhkkncaoneaaDoorCpWM
import Derived.Test.YtofhhkkncaoneaaDoorCpQM
import Derived.Test.YtofhhkkncaoneaaDoorCqWM
import Derived.Test.YtofhhkkncaoneaaDoorCrA
import Derived.Test.YtofhhkkncaoneaaDoorCrE
import Derived.Test.YtofhhkkncaoneaaDoorCrF
import Derived.Test.YtofhhkkncaoneaaDoorCrG
import Derived.Calls
import Derived.Orders
import Derived.Laws.World
import Derived.Laws.Sem
import Derived.Laws.Cells
import Derived.Laws.Append
import GoSem.ClaimData
import Derived.Laws.Tables
import Derived.Laws.Slices
import Derived.Laws.Strings
import Derived.Laws.Small
import Derived.KernelRfl
import Derived.Test.YtofhhkkncaoneaaDoorChecked
import Derived.Lib.RuneCount
import Derived.Lib.DecodeN
set_option linter.unusedVariables false
set_option linter.unusedSimpArgs false
set_option maxRecDepth 4000
set_option linter.unusedSimpArgs false
set_option linter.unusedVariables false
namespace Go.Ac
open Go.Proofs

set_option maxHeartbeats 4000000 in
theorem worst_bad {im : Im} (h : chkE im ≠ 0) (hc : den Tryd.prog Cp.cfg 22 [aM im] = some (dI (chkE im))) : den Tryd.prog Cp.cfg 21 [aM im] = some (.tuple [dI 0, dI (chkE im)]) := by
  simp only [aM, Im.cells, List.map_cons, List.map_nil, dI] at hc
  refine den_wp Tryd.func21 rfl (by kernel_rfl) rfl rfl ?_
  refine wkceiktu (And.intro @dI.eq_1 (And.intro @aM.eq_1 (And.intro @Im.cells.eq_1 (And.intro @hc (And.intro @h (And.intro @int_bne @addNew_zero)))))) ?_
  exact ⟨.inr rfl, _, _, rfl, rfl⟩

set_option maxHeartbeats 8000000 in
theorem worstl_den (im : Im) (rows : List (List Int)) (hs : im.sz ≤ MB) (hok : ∀ r, r ∈ im.rs → RtOK r) (hr1 : rows.length ≤ MB) (hr3 : ∀ r ∈ rows, r.length ≤ 4194304) : den Tryd.prog Cp.cfg 6 [aM im, dLL rows] = some (dB true) := by
  have haw := awake_den
  simp only [dB] at haw
  obtain ⟨bh, hh⟩ := heavy_den im hs (rows.length : Int)
  simp only [aM, Im.cells, List.map_cons, List.map_nil, dI, dB] at hh
  unfold MB at hr1
  have hck := check_den im hs hok
  refine den_wp Tryd.func6 rfl (by kernel_rfl) rfl rfl ?_
  cases bh with
  | true =>
    refine wkceiktu (And.intro @dI.eq_1 (And.intro @dLL.eq_1 (And.intro @aM.eq_1 (And.intro @Im.cells.eq_1 (And.intro @hh (And.intro @haw @addNew_zero)))))) ?_
    show retQ _ _ _ _ _
    exact ⟨.inr rfl, _, _, rfl, rfl⟩
  | false =>
  by_cases hc : chkE im = 0
  case neg =>
    have hb := new_bad hs hok hc
    have hwb := worst_bad hc hck
    simp only [aM, Im.cells, List.map_cons, List.map_nil, dI] at hb hwb hck
    refine wkceiktu (And.intro @dI.eq_1 (And.intro @dLL.eq_1 (And.intro @aM.eq_1 (And.intro @Im.cells.eq_1 (And.intro @hh (And.intro @haw (And.intro @addNew_zero (And.intro @hb (And.intro @hwb (And.intro @hck (And.intro @hc (And.intro @int_bne @int_beq)))))))))))) ?_
    show retQ _ _ _ _ _
    exact ⟨.inr rfl, _, _, rfl, rfl⟩
  have hG := good_of hc
  rw [hc] at hck
  have hwd := worst_den im hG hck
  obtain ⟨q, hI1, hqv, mid, mg, hMq, hmlt, hn1⟩ := new_ok hs hok hc
  have hI2 : closeT noLook q.v = none := by rw [hqv]; rfl
  have hI3 : shiftV 1 1 q.v = .tuple [.ptr 2 2 0, dI 0] := by rw [hqv]; rfl
  obtain ⟨W1, hI4⟩ : ∃ W, shiftH 1 1 (wrOf q.hp.get (List.range q.n)) = W := ⟨_, rfl⟩
  simp only [aM, Im.cells, List.map_cons, List.map_nil] at hI1
  by_cases hfar : 1099511627776 < worstW im
  · rw [if_pos hfar, if_pos hfar] at hwd
    simp only [aM, Im.cells, List.map_cons, List.map_nil, dI] at hwd hck
    refine wkceiktu (And.intro @dI.eq_1 (And.intro @dLL.eq_1 (And.intro @aM.eq_1 (And.intro @Im.cells.eq_1 (And.intro @hh (And.intro @haw (And.intro @hwd @addNew_zero))))))) ?_
    apply WP.gen
    intro hp1 wl1 hhp hwl
    have hb1 : hp1.get 0 = some ⟨0, false, [.d (.slice (encI im.enums)), .d (.slice (encR im.rs))]⟩ := by rw [hhp, ← hI4, import_old (by omega)]; rfl
    have hM1 : Mc im hp1 2 2 (mid + 1) (mg + 1) (lastR im).ini 0 := by rw [hhp, ← hI4]; exact hMq.shift hn1 hmlt
    clear hhp hwl hI3 hI4 hI1 hI2
    obtain ⟨capc, _, hCc⟩ := hM1.c
    refine wkceiktu (And.intro @dI.eq_1 (And.intro @addNew_zero (And.intro @hb1 (And.intro @hCc (And.intro @hck (And.intro @haw (And.intro @int_bne @int_beq))))))) ?_
    show retQ _ _ _ _ _
    exact ⟨.inr rfl, _, _, rfl, rfl⟩
  rw [if_neg hfar, if_neg hfar] at hwd
  simp only [aM, Im.cells, List.map_cons, List.map_nil, dI] at hwd hck
  refine wkceiktu (And.intro @dI.eq_1 (And.intro @dLL.eq_1 (And.intro @aM.eq_1 (And.intro @Im.cells.eq_1 (And.intro @hh (And.intro @haw (And.intro @hwd @addNew_zero))))))) ?_
  apply WP.gen
  intro hp1 wl1 hhp hwl
  have hM1 : Mc im hp1 2 2 (mid + 1) (mg + 1) (lastR im).ini 0 := by rw [hhp, ← hI4]; exact hMq.shift hn1 hmlt
  clear hhp hwl hI3 hI4 hI1 hI2
  obtain ⟨N, hNe⟩ : ∃ N, N = 1 + q.n := ⟨_, rfl⟩
  obtain ⟨c1, hc1e⟩ : ∃ c1, c1 = 1 + q.c := ⟨_, rfl⟩
  obtain ⟨mc, hmce⟩ : ∃ m, m = mid + 1 := ⟨_, rfl⟩
  obtain ⟨mgc, hmgce⟩ : ∃ m, m = mg + 1 := ⟨_, rfl⟩
  have hl2 : 2 < N := by omega
  have hlc : mc < N := by omega
  rw [← hmce, ← hmgce] at hM1
  rw [← hNe, ← hc1e]
  clear hNe hc1e hmce hmgce
  have hlm : (lastR im).ini.length ≤ 1000000 := by have := hG.il _ hG.mem; omega
  have hrgi : Rg (lastR im).ini := hG.ini _ hG.mem
  have hw0 : 0 ≤ worstW im := (rgv_far (wL_far _ _) _).1
  have hM1' := hM1
  obtain ⟨capc, _, hCc⟩ := hM1.c
  refine wkceiktu (And.intro @dI.eq_1 (And.intro @addNew_zero (And.intro @hCc (And.intro @haw (And.intro @int_bne @int_beq))))) ?_
  clear hCc
  apply WP.loop' (I := fun D s => ∃ (j : Nat) (hp' : Hp) (c' : Nat) (mem : List Int) (cnt : Int), j + D = rows.length ∧ mem.length = (lastR im).ini.length ∧ Rg mem ∧ cnt ≤ worstW im ∧ Mc im hp' 2 2 mc mgc mem cnt ∧
    s = ⟨[(1, dLL rows), (5, dI (worstW im)), (7, .ptr 2 2 0), (9, dI j)], hp', N, c', 0, wl1⟩) (d := rows.length)
  · exact ⟨0, _, _, _, 0, by simp, rfl, hrgi, hw0, hM1', by rfl⟩
  clear hM1 hM1'
  rintro D _ ⟨j, hp', c', mem, cnt, hj, hml, hmr, hcw, hTw, rfl⟩
  refine wkeiktu (And.intro @dI.eq_1 (And.intro @dLL.eq_1 (And.intro @dL.eq_1 @addNew_zero))) ?_
  show WP _ _ _ _ _ _
  refine WP.cond _ rfl (fun hb => ?_) (fun hb => ?_)
  · simp at hb
    have hb' : j < rows.length := hb
    have hrow := encL_row hb'
    have hix := idx_lt hb'
    have hw := w_succ hb' (by omega)
    obtain ⟨row, hrowe⟩ : ∃ r, r = rows.getD j [] := ⟨_, rfl⟩
    have hrl : row.length ≤ 4194304 := by rw [hrowe]; exact hr3 _ (by rw [List.getD_eq_getElem?_getD, List.getElem?_eq_getElem hb']; exact List.getElem_mem hb')
    rw [← hrowe] at hrow
    obtain ⟨r0, hT1, hv, hn, hT2, hki, hfr, hpz, hMz, hsame⟩ := (step_den (n := N) (c := c') hG hTw hl2 hlc hml hrl).caller (by intro j hj; simp at hj; omega)
    have hTw2 : Mc im (hp'.sets (tWr r0 N)) 2 2 mc mgc (stepR im mem cnt row).2.2.1 (stepR im mem cnt row).2.2.2 := hMz.after hl2 hlc hsame
    have hmem := stepR_mem (cnt := cnt) (row := row) hG hml hmr
    have hle := stepR_le (mem := mem) (row := row) hG (by omega) hcw
    obtain ⟨st, hst⟩ : ∃ st, st = stepR im mem cnt row := ⟨_, rfl⟩
    rw [← hst] at hv hTw2 hmem hle
    obtain ⟨s2, hU1, hv2, hn2, hU2, hki2, hfr2, _⟩ := (count_ok (n := N) (c := c' + (r0.c - c')) hTw2 (by omega)).caller (by intro j hj; cases hj)
    simp only [dI, dL] at hv hv2
    have hnn : N + (s2.n - N) = N := by omega
    have hgt : (worstW im < st.2.2.2) = False := eq_false (by omega)
    have hTw3 : Mc im (Hp.trunc N ((hp'.sets (tWr r0 N)).sets (tWr s2 N))) 2 2 mc mgc st.2.2.1 st.2.2.2 := hTw2.same (by rw [Hp.get_trunc _ _ _ hl2]; exact hfr2 _ (by omega) (by simp)) (by rw [Hp.get_trunc _ _ _ hlc]; exact hfr2 _ (by omega) (by simp))
    refine wkceiktu (And.intro @dI.eq_1 (And.intro @dLL.eq_1 (And.intro @dL.eq_1 (And.intro @addNew_zero (And.intro @hix (And.intro @hrow (And.intro @hv (And.intro @hn (And.intro @hv2 (And.intro @hn2 @hgt)))))))))) ?_
    refine loop_next (by simp [addNew_zero, -addNew, hw, hnn]; exact Is.rfl) ?_
    exact ⟨D - 1, by omega, j + 1, _, _, st.2.2.1, _, by omega, hmem.1, hmem.2, hle, hTw3, by rfl⟩
  · obtain ⟨capc, _, hCc⟩ := hTw.c
    refine wkceiktu (And.intro @dI.eq_1 (And.intro @dLL.eq_1 (And.intro @dL.eq_1 (And.intro @addNew_zero (And.intro @hCc @haw))))) ?_
    show retQ _ _ _ _ _
    exact ⟨.inr rfl, _, _, rfl, rfl⟩
end Go.Ac
