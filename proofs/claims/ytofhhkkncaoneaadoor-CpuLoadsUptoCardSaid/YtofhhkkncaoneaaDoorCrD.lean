/- CpuLoads by data. -/
import Derived.Test.YtofhhkkncaoneaaDoorAcBM
import Derived.Test.YtofhhkkncaoneaaDoorAcDM
import Derived.Test.YtofhhkkncaoneaaDoorAcGM
import Derived.Test.YtofhhkkncaoneaaDoorAcJM
import Derived.Test.YtofhhkkncaoneaaDoorAcLM
import Derived.Test.YtofhhkkncaoneaaDoorAcOM
import Derived.Test.YtofhhkkncaoneaaDoorAcSM
import Derived.Test.YtofhhkkncaoneaaDoorAcXM
import Derived.Test.YtofhhkkncaoneaaDoorAcUcM
import Derived.Test.YtofhhkkncaoneaaDoorAcThM
import Derived.Test.YtofhhkkncaoneaaDoorCpBM
import Derived.Test.YtofhhkkncaoneaaDoorCpD
import Derived.Test.YtofhhkkncaoneaaDoorCpF
import Derived.Test.YtofhhkkncaoneaaDoorCpIM
import Derived.Test.YtofhhkkncaoneaaDoorCpL
import Derived.Test.YtofhhkkncaoneaaDoorCrTM
import Derived.Test.YtofhhkkncaoneaaDoorCqFM
import Derived.Test.YtofhhkkncaoneaaDoorCqIM
import Derived.Test.YtofhhkkncaoneaaDoorCqNM
import Derived.Test.YtofhhkkncaoneaaDoorCpWM
import Derived.Test.YtofhhkkncaoneaaDoorCpQM
import Derived.Test.YtofhhkkncaoneaaDoorCqWM
import Derived.Test.YtofhhkkncaoneaaDoorCrA
import Derived.Calls
import Derived.Orders
import Derived.Laws.World
import Derived.Laws.Sem
import Derived.Laws.Cells
import Derived.Laws.Append
import GoSem.ClaimData
import Derived.Laws.Tables
import Derived.Laws.Slices
import Derived.Laws.Strings
import Derived.Laws.Small
import Derived.KernelRfl
import Derived.Test.YtofhhkkncaoneaaDoorChecked
import Derived.Lib.RuneCount
import Derived.Lib.DecodeN
set_option linter.unusedVariables false
set_option linter.unusedSimpArgs false
set_option maxRecDepth 4000
set_option linter.unusedSimpArgs false
set_option linter.unusedVariables false
namespace Go.Ac
open Go.Proofs

theorem Two.loadc {im : Im} {hp hp' hpz : Hp} {n n' ic gc mc mgc : Nat} {memc memc' : List Int} {cntc : Int} {id gd md mgd : Nat} {memd : List Int} {cntd : Int} (h : Two im hp n ic gc mc mgc memc cntc id gd md mgd memd cntd) (hn : n ≤ n') (hf : ∀ j, j < n → j ∉ [ic] → hp'.get j = hp.get j) (hM : NewMem im ic gc n mc memc' cntc hpz n') (hs : ∀ j, j < n' → (hpz.get j).isSome = true → hp'.get j = hpz.get j) :
    ∃ mc' mgc', Two im hp' n' ic gc mc' mgc' memc' cntc id gd md mgd memd cntd := by
  obtain ⟨mc', mgc', h1, h2, h3⟩ := hM
  have b1 := h.lic
  have b2 := h.lmc
  have b3 := h.lid
  have b4 := h.lmd
  have b5 := h.a1
  have b6 := h.a2
  have b7 := h.a3
  have b8 := h.a4
  refine ⟨mc', mgc', h1.after (by omega) h2 hs, h.d.same (hf _ b3 (by simp; omega)) (hf _ b4 (by simp; omega)), by omega, by omega, by omega, by omega, b5, b6, ?_, ?_⟩
  · rcases h3 with h | h <;> omega
  · rcases h3 with h | h <;> omega
theorem Two.loadd {im : Im} {hp hp' hpz : Hp} {n n' ic gc mc mgc : Nat} {memc memd' : List Int} {cntc : Int} {id gd md mgd : Nat} {memd : List Int} {cntd : Int} (h : Two im hp n ic gc mc mgc memc cntc id gd md mgd memd cntd) (hn : n ≤ n') (hf : ∀ j, j < n → j ∉ [id] → hp'.get j = hp.get j) (hM : NewMem im id gd n md memd' cntd hpz n') (hs : ∀ j, j < n' → (hpz.get j).isSome = true → hp'.get j = hpz.get j) :
    ∃ md' mgd', Two im hp' n' ic gc mc mgc memc cntc id gd md' mgd' memd' cntd := by
  obtain ⟨md', mgd', h1, h2, h3⟩ := hM
  have b1 := h.lic
  have b2 := h.lmc
  have b3 := h.lid
  have b4 := h.lmd
  have b5 := h.a1
  have b6 := h.a2
  have b7 := h.a3
  have b8 := h.a4
  refine ⟨md', mgd', h.c.same (hf _ b1 (by simp; omega)) (hf _ b2 (by simp; omega)), h1.after (by omega) h2 hs, by omega, by omega, by omega, by omega, b5, ?_, b7, ?_⟩
  · rcases h3 with h | h <;> omega
  · rcases h3 with h | h <;> omega

set_option maxHeartbeats 8000000 in
theorem loads_den (im : Im) (rows : List (List Int)) (m : List Int) (hs : im.sz ≤ MB) (hok : ∀ r, r ∈ im.rs → RtOK r) (hr1 : rows.length ≤ MB) (hr3 : ∀ r ∈ rows, r.length ≤ 4194304) : den Tryd.prog Cp.cfg 4 [aM im, dLL rows, dL m] = some (dB true) := by
  have haw := awake_den
  simp only [dB] at haw
  obtain ⟨bh, hh⟩ := heavy_den im hs (rows.length : Int)
  simp only [aM, Im.cells, List.map_cons, List.map_nil, dI, dB] at hh
  unfold MB at hr1
  refine den_wp Tryd.func4 rfl (by kernel_rfl) rfl rfl ?_
  cases bh with
  | true =>
    refine wkceiktux (And.intro @dI.eq_1 (And.intro @dLL.eq_1 (And.intro @dL.eq_1 (And.intro @aM.eq_1 (And.intro @Im.cells.eq_1 (And.intro @hh (And.intro @haw @addNew_zero))))))) ?_
    show retQ _ _ _ _ _
    exact ⟨.inr rfl, _, _, rfl, rfl⟩
  | false =>
  by_cases hm5 : 5000 < m.length
  · have hm5' : (5000 < m.length) = True := eq_true hm5
    have hm5'' : ((5000 : Int) < m.length) = True := eq_true (by omega)
    refine wkceiktux (And.intro @dI.eq_1 (And.intro @dLL.eq_1 (And.intro @dL.eq_1 (And.intro @aM.eq_1 (And.intro @Im.cells.eq_1 (And.intro @hh (And.intro @haw (And.intro @addNew_zero (And.intro @hm5' @hm5''))))))))) ?_
    show retQ _ _ _ _ _
    exact ⟨.inr rfl, _, _, rfl, rfl⟩
  have hm5' : (5000 < m.length) = False := eq_false hm5
  have hm5'' : ((5000 : Int) < m.length) = False := eq_false (by omega)
  by_cases hc : chkE im = 0
  case neg =>
    have hb := new_bad hs hok hc
    have hb2 := rnew_bad hs hok hc
    simp only [aM, Im.cells, List.map_cons, List.map_nil, dI] at hb hb2
    refine wkceiktux (And.intro @dI.eq_1 (And.intro @dLL.eq_1 (And.intro @dL.eq_1 (And.intro @aM.eq_1 (And.intro @Im.cells.eq_1 (And.intro @hh (And.intro @haw (And.intro @addNew_zero (And.intro @hb (And.intro @hb2 (And.intro @hc (And.intro @int_bne (And.intro @hm5' @hm5''))))))))))))) ?_
    show retQ _ _ _ _ _
    exact ⟨.inr rfl, _, _, rfl, rfl⟩
  have hG := good_of hc
  obtain ⟨q, hI1, hqv, mid, mg, hMq, hmlt, hn1⟩ := new_ok hs hok hc
  have hI2 : closeT noLook q.v = none := by rw [hqv]; rfl
  have hI3 : shiftV 1 1 q.v = .tuple [.ptr 2 2 0, dI 0] := by rw [hqv]; rfl
  obtain ⟨W1, hI4⟩ : ∃ W, shiftH 1 1 (wrOf q.hp.get (List.range q.n)) = W := ⟨_, rfl⟩
  simp only [aM, Im.cells, List.map_cons, List.map_nil] at hI1
  refine wkceiktux (And.intro @dI.eq_1 (And.intro @dLL.eq_1 (And.intro @dL.eq_1 (And.intro @aM.eq_1 (And.intro @Im.cells.eq_1 (And.intro @hh (And.intro @haw (And.intro @addNew_zero (And.intro @hm5' @hm5''))))))))) ?_
  apply WP.gen
  intro hp1 wl1 hhp hwl
  have hb1 : hp1.get 0 = some ⟨0, false, [.d (.slice (encI im.enums)), .d (.slice (encR im.rs))]⟩ := by rw [hhp, ← hI4, import_old (by omega)]; rfl
  have hM1 : Mc im hp1 2 2 (mid + 1) (mg + 1) (lastR im).ini 0 := by rw [hhp, ← hI4]; exact hMq.shift hn1 hmlt
  obtain ⟨n1, hn1e⟩ : ∃ n1, n1 = 1 + q.n := ⟨_, rfl⟩
  obtain ⟨c1, hc1e⟩ : ∃ c1, c1 = 1 + q.c := ⟨_, rfl⟩
  rw [← hn1e, ← hc1e]
  clear hhp hwl hI3 hI4 hI1 hI2
  obtain ⟨r, hI1, hrv, mid', mg', hMr, hmlt', hn1'⟩ := rnew_ok hs hok hc
  have hI2 : closeT noLook r.v = none := by rw [hrv]; rfl
  have hI3 : shiftV n1 c1 r.v = .tuple [.ptr (1 + n1) (1 + c1) 0, dI 0] := by rw [hrv]; simp [shiftV, shiftVs, dI]
  obtain ⟨W2, hI4⟩ : ∃ W, shiftH n1 c1 (wrOf r.hp.get (List.range r.n)) = W := ⟨_, rfl⟩
  simp only [aM, Im.cells, List.map_cons, List.map_nil] at hI1
  refine wkceiktux (And.intro @dI.eq_1 (And.intro @addNew_zero @hb1)) ?_
  apply WP.gen
  intro hp2 wl2 hhp hwl
  have hT0 : Two im hp2 (n1 + r.n) 2 2 (mid + 1) (mg + 1) (lastR im).ini 0 (1 + n1) (1 + c1) (mid' + n1) (mg' + c1) (lastR im).ini 0 := by
    have hold : ∀ j, j < n1 → hp2.get j = hp1.get j := fun j hj => by rw [hhp, ← hI4, import_old hj]
    have hd : Mc im hp2 (1 + n1) (1 + c1) (mid' + n1) (mg' + c1) (lastR im).ini 0 := by rw [hhp, ← hI4]; exact hMr.shift hn1' hmlt'
    exact ⟨hM1.same (hold _ (by omega)) (hold _ (by omega)), hd, by omega, by omega, by omega, by omega, by omega, by omega, by omega, by omega⟩
  clear hhp hwl hI3 hI4 hI1 hI2 hM1 hb1
  obtain ⟨N, hNe⟩ : ∃ N, N = n1 + r.n := ⟨_, rfl⟩
  obtain ⟨mc, hmce⟩ : ∃ m, m = mid + 1 := ⟨_, rfl⟩
  obtain ⟨mgc, hmgce⟩ : ∃ m, m = mg + 1 := ⟨_, rfl⟩
  obtain ⟨id, hide⟩ : ∃ m, m = 1 + n1 := ⟨_, rfl⟩
  obtain ⟨gd, hgde⟩ : ∃ m, m = 1 + c1 := ⟨_, rfl⟩
  obtain ⟨md, hmde⟩ : ∃ m, m = mid' + n1 := ⟨_, rfl⟩
  obtain ⟨mgd, hmgde⟩ : ∃ m, m = mg' + c1 := ⟨_, rfl⟩
  rw [← hNe, ← hide, ← hgde] at ⊢
  rw [← hNe, ← hmce, ← hmgce, ← hide, ← hgde, ← hmde, ← hmgde] at hT0
  clear hNe hmce hmgce hide hgde hmde hmgde
  obtain ⟨capc, _, hCc⟩ := hT0.c.c
  obtain ⟨capd, _, hCd⟩ := hT0.d.c
  have hlm : (lastR im).ini.length ≤ 1000000 := by have := hG.il _ hG.mem; omega
  have hrgi : Rg (lastR im).ini := hG.ini _ hG.mem
  refine wkceiktux (And.intro @dI.eq_1 (And.intro @addNew_zero (And.intro @hCc (And.intro @hCd @int_bne)))) ?_
  clear hCc hCd
  apply WP.loop' (I := fun D s => ∃ (j : Nat) (hp' : Hp) (c' : Nat) (mem : List Int) (cnt : Int), j + D = rows.length ∧ mem.length = (lastR im).ini.length ∧ Rg mem ∧ Two im hp' N 2 2 mc mgc mem cnt id gd md mgd mem cnt ∧
    s = ⟨[(1, dLL rows), (2, dL m), (7, .ptr 2 2 0), (9, .ptr id gd 0), (11, dI j)], hp', N, c', 0, wl2⟩) (d := rows.length)
  · exact ⟨0, _, _, _, 0, by simp, rfl, hrgi, hT0, by rfl⟩
  clear hT0
  rintro D _ ⟨j, hp', c', mem, cnt, hj, hml, hmr, hTw, rfl⟩
  refine wkeiktux (And.intro @dI.eq_1 (And.intro @dLL.eq_1 (And.intro @dL.eq_1 @addNew_zero))) ?_
  show WP _ _ _ _ _ _
  refine WP.cond _ rfl (fun hb => ?_) (fun hb => ?_)
  · simp at hb
    have hb' : j < rows.length := hb
    have hrow := encL_row hb'
    have hix := idx_lt hb'
    have hw := w_succ hb' (by omega)
    obtain ⟨row, hrowe⟩ : ∃ r, r = rows.getD j [] := ⟨_, rfl⟩
    have hrl : row.length ≤ 4194304 := by rw [hrowe]; exact hr3 _ (by rw [List.getD_eq_getElem?_getD, List.getElem?_eq_getElem hb']; exact List.getElem_mem hb')
    rw [← hrowe] at hrow
    obtain ⟨r0, hT1, hv, hn, hT2, hki, hfr, hpz, hMz, hsame⟩ := (step_den (n := N) (c := c') hG hTw.c hTw.lic hTw.lmc hml hrl).caller (by intro j hj; have := hTw.lic; have := hTw.lmc; simp at hj; omega)
    have hTw2 := hTw.stepc hfr hMz hsame
    obtain ⟨r1, hU1, hv1, hn1', hU2, hki1, hfr1, hpz1, hMz1, hsame1⟩ := (rstep_den (n := N) (c := c' + (r0.c - c')) hG hTw2.d hTw2.lid hTw2.lmd hml hrl).caller (by intro j hj; have := hTw2.lid; have := hTw2.lmd; simp at hj; omega)
    have hTw3 := hTw2.stepd hfr1 hMz1 hsame1
    have hmem := stepR_mem (cnt := cnt) (row := row) hG hml hmr
    refine wkceiktux (And.intro @dI.eq_1 (And.intro @dLL.eq_1 (And.intro @dL.eq_1 (And.intro @addNew_zero (And.intro @hix (And.intro @hrow (And.intro @hv (And.intro @hn (And.intro @hv1 @hn1'))))))))) ?_
    refine loop_next (by simp [addNew_zero, -addNew, hw]; exact Is.rfl) ?_
    exact ⟨D - 1, by omega, j + 1, _, _, _, _, by omega, hmem.1, hmem.2, hTw3.same (Nat.le_refl _) (fun t ht => Hp.get_trunc _ _ _ ht), by rfl⟩
  · obtain ⟨r0, hT1, hv, hn, hT2, hki, hfr, _⟩ := (count_ok (n := N) (c := c') hTw.c hTw.lic).caller (by intro j hj; cases hj)
    have hTw2 : Two im (hp'.sets (tWr r0 N)) N 2 2 mc mgc mem cnt id gd md mgd mem cnt := hTw.same (Nat.le_refl _) fun j hj => hfr j hj (by simp)
    have hml5 : m.length ≤ 1000000 := by omega
    obtain ⟨r1, hU1, hv1, hn1', hU2, hki1, hfr1, hpz, hMz, hsame⟩ := (load_ok (n := N) (c := c' + (r0.c - c')) (m := m) hTw2.c hTw2.lic hTw2.lmc hml5).caller (by intro j hj; have := hTw2.lic; simp at hj; omega)
    obtain ⟨N2, hN2⟩ : ∃ N2, N2 = N + (r1.n - N) := ⟨_, rfl⟩
    have hN2r : r1.n = N2 := by omega
    rw [hN2r] at hMz hsame
    obtain ⟨mc2, mgc2, hTw3⟩ := hTw2.loadc (by omega) hfr1 hMz hsame
    obtain ⟨e, he⟩ : ∃ e, e = loadE mem m := ⟨_, rfl⟩
    obtain ⟨mm, hmm⟩ : ∃ x, x = if loadE mem m = 0 then m else mem := ⟨_, rfl⟩
    rw [← hmm] at hTw3
    rw [← he] at hv1
    simp only [dI] at hv hv1
    refine wkceiktux (And.intro @dI.eq_1 (And.intro @dLL.eq_1 (And.intro @dL.eq_1 (And.intro @addNew_zero (And.intro @hv (And.intro @hn @hv1)))))) ?_
    rw [← hN2]
    apply WP.gen
    intro hp4 wl4 hhp hwl
    rw [← hhp] at hTw3
    subst hwl
    clear hhp hT1 hU1 hT2 hU2 hki hki1 hfr hfr1 hMz hsame hv hv1 hn hn1' hTw hTw2 hpz
    obtain ⟨c4, hc4⟩ : ∃ c4, c4 = c' + (r0.c - c') + (r1.c - (c' + (r0.c - c'))) := ⟨_, rfl⟩
    rw [← hc4]
    have hl2 : mm.length ≤ 1000000 := by rw [hmm]; split <;> omega
    obtain ⟨s0, hT1, hv, hn, hT2, hki, hfr, hpz, hMz, hsame⟩ := (rload_ok (n := N2) (c := c4) (m := m) hTw3.d hTw3.lid hTw3.lmd hml5).caller (by intro j hj; have := hTw3.lid; simp at hj; omega)
    obtain ⟨N3, hN3⟩ : ∃ N3, N3 = N2 + (s0.n - N2) := ⟨_, rfl⟩
    have hN3r : s0.n = N3 := by omega
    rw [hN3r] at hMz hsame
    obtain ⟨md2, mgd2, hTw4⟩ := hTw3.loadd (by omega) hfr hMz hsame
    rw [← hmm] at hTw4
    rw [← he] at hv
    rw [hN3] at hTw4
    obtain ⟨s1, hU1, hv1, hn1', hU2, hki1, hfr1, _⟩ := (memory_ok (n := N2 + (s0.n - N2)) (c := c4 + (s0.c - c4)) hTw4.c hTw4.lic hTw4.lmc hl2).caller (by intro j hj; cases hj)
    have hTw5 : Two im ((hp4.sets (tWr s0 N2)).sets (tWr s1 (N2 + (s0.n - N2)))) (N2 + (s0.n - N2) + (s1.n - (N2 + (s0.n - N2)))) 2 2 mc2 mgc2 mm cnt id gd md2 mgd2 mm cnt := hTw4.same (by omega) fun j hj => hfr1 j hj (by simp)
    obtain ⟨s2, hX1, hv2, hn2, hX2, hki2, hfr2, _⟩ := (rmemory_ok (n := N2 + (s0.n - N2) + (s1.n - (N2 + (s0.n - N2)))) (c := c4 + (s0.c - c4) + (s1.c - (c4 + (s0.c - c4)))) hTw5.d hTw5.lid hTw5.lmd hl2).caller (by intro j hj; cases hj)
    have hTw6 : Two im (((hp4.sets (tWr s0 N2)).sets (tWr s1 (N2 + (s0.n - N2)))).sets (tWr s2 (N2 + (s0.n - N2) + (s1.n - (N2 + (s0.n - N2)))))) (N2 + (s0.n - N2) + (s1.n - (N2 + (s0.n - N2))) + (s2.n - (N2 + (s0.n - N2) + (s1.n - (N2 + (s0.n - N2)))))) 2 2 mc2 mgc2 mm cnt id gd md2 mgd2 mm cnt := hTw5.same (by omega) fun j hj => hfr2 j hj (by simp)
    obtain ⟨s3, hY1, hv3, hn3, hY2, hki3, hfr3, _⟩ := (count_ok (n := N2 + (s0.n - N2) + (s1.n - (N2 + (s0.n - N2))) + (s2.n - (N2 + (s0.n - N2) + (s1.n - (N2 + (s0.n - N2)))))) (c := c4 + (s0.c - c4) + (s1.c - (c4 + (s0.c - c4))) + (s2.c - (c4 + (s0.c - c4) + (s1.c - (c4 + (s0.c - c4)))))) hTw6.c hTw6.lic).caller (by intro j hj; cases hj)
    have i2 := ints_same mm (by unfold MX; omega)
    simp only [dL, dI] at hv hv1 hv2 hv3
    simp only [dL, dB] at i2
    refine wkceiktux (And.intro @dI.eq_1 (And.intro @dLL.eq_1 (And.intro @dL.eq_1 (And.intro @addNew_zero (And.intro @hv (And.intro @hv1 (And.intro @hv2 (And.intro @hv3 (And.intro @int_beq (And.intro @i2 @haw)))))))))) ?_
    show retQ _ _ _ _ _
    exact ⟨.inr rfl, _, _, rfl, rfl⟩
end Go.Ac
