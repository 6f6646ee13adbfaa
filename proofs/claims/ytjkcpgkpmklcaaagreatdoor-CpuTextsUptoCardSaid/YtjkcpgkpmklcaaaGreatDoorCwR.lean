/- CpuTexts by data. -/
import Derived.Test.YtjkcpgkpmklcaaaGreatDoorCvAM
set_option linter.unusedVariables false
set_option linter.unusedSimpArgs false
set_option maxRecDepth 4000
namespace Go.Ac
open Go.Proofs

theorem Mc.some1' {im : Im} {hp : Hp} {idc gc mid mg : Nat} {mem : List Int} {cnt : Int} (h : Mc im hp idc gc mid mg mem cnt) : (hp.get idc).isSome = true := by
 obtain ⟨⟨cap, _, h3⟩, _, _⟩ := h; rw [h3]; rfl
theorem Mc.some2' {im : Im} {hp : Hp} {idc gc mid mg : Nat} {mem : List Int} {cnt : Int} (h : Mc im hp idc gc mid mg mem cnt) : (hp.get mid).isSome = true := by
 obtain ⟨_, h3, _⟩ := h; rw [h3]; rfl
theorem Mc.after {im : Im} {hp hp' : Hp} {n idc gc mid mg : Nat} {mem : List Int} {cnt : Int} (h : Mc im hp idc gc mid mg mem cnt) (h1 : idc < n) (h2 : mid < n) (hs : ∀ j, j < n → (hp.get j).isSome = true → hp'.get j = hp.get j) : Mc im hp' idc gc mid mg mem cnt :=
 h.same (hs _ h1 h.some1') (hs _ h2 h.some2')
theorem Two.same {im : Im} {hp hp' : Hp} {n n' ic gc mc mgc : Nat} {memc : List Int} {cntc : Int} {id gd md mgd : Nat} {memd : List Int} {cntd : Int} (h : Two im hp n ic gc mc mgc memc cntc id gd md mgd memd cntd) (hn : n ≤ n') (hs : ∀ j, j < n → hp'.get j = hp.get j) : Two im hp' n' ic gc mc mgc memc cntc id gd md mgd memd cntd :=
 ⟨h.c.same (hs _ h.lic) (hs _ h.lmc), h.d.same (hs _ h.lid) (hs _ h.lmd), by have := h.lic; omega, by have := h.lmc; omega, by have := h.lid; omega, by have := h.lmd; omega, h.a1, h.a2, h.a3, h.a4⟩
theorem Two.stepc {im : Im} {hp hp' hpz : Hp} {n ic gc mc mgc : Nat} {memc memc' : List Int} {cntc cntc' : Int} {id gd md mgd : Nat} {memd : List Int} {cntd : Int} (h : Two im hp n ic gc mc mgc memc cntc id gd md mgd memd cntd) (hf : ∀ j, j < n → j ∉ [ic, mc] → hp'.get j = hp.get j) (hM : Mc im hpz ic gc mc mgc memc' cntc') (hs : ∀ j, j < n → (hpz.get j).isSome = true → hp'.get j = hpz.get j) : Two im hp' n ic gc mc mgc memc' cntc' id gd md mgd memd cntd :=
 ⟨hM.after h.lic h.lmc hs, h.d.same (hf _ h.lid (by have := h.a1; have := h.a3; simp; omega)) (hf _ h.lmd (by have := h.a2; have := h.a4; simp; omega)), h.lic, h.lmc, h.lid, h.lmd, h.a1, h.a2, h.a3, h.a4⟩
theorem Two.stepd {im : Im} {hp hp' hpz : Hp} {n ic gc mc mgc : Nat} {memc : List Int} {cntc : Int} {id gd md mgd : Nat} {memd memd' : List Int} {cntd cntd' : Int} (h : Two im hp n ic gc mc mgc memc cntc id gd md mgd memd cntd) (hf : ∀ j, j < n → j ∉ [id, md] → hp'.get j = hp.get j) (hM : Mc im hpz id gd md mgd memd' cntd') (hs : ∀ j, j < n → (hpz.get j).isSome = true → hp'.get j = hpz.get j) : Two im hp' n ic gc mc mgc memc cntc id gd md mgd memd' cntd' :=
 ⟨h.c.same (hf _ h.lic (by have := h.a1; have := h.a2; simp; omega)) (hf _ h.lmc (by have := h.a3; have := h.a4; simp; omega)), hM.after h.lid h.lmd hs, h.lic, h.lmc, h.lid, h.lmd, h.a1, h.a2, h.a3, h.a4⟩
theorem wt_le {l : List Rt} {r : Rt} (h : r ∈ l) : wt r ≤ (l.map wt).sum := sum_mem h
theorem rtL_sum (l : List Rt) : (l.flatMap rtL).length ≤ 6 * (l.map wt).sum := by
 induction l with
 | nil => simp
 | cons r l ih =>
  rw [List.flatMap_cons, List.length_append, rtL_length, List.map_cons, List.sum_cons]
  have : r.code.length + 1 ≤ wt r := by unfold wt; omega
  omega
theorem len_sum (l : List Rt) : l.length ≤ (l.map wt).sum := by
 induction l with
 | nil => simp
 | cons r l ih =>
  rw [List.length_cons, List.map_cons, List.sum_cons]
  have : 1 ≤ wt r := by unfold wt; omega
  omega

set_option maxHeartbeats 16000000 in
theorem texts_den (im : Im) (rows : List (List Int)) (hs : im.sz ≤ MB) (hok : ∀ r, r ∈ im.rs → RtOK r) (hr1 : rows.length ≤ MB) (hr3 : ∀ r ∈ rows, r.length ≤ 4194304) : den Tryz.prog Cp.cfg 3 [aM im, dLL rows] = some (dB true) := by
 have haw := awake_den
 simp only [dB] at haw
 obtain ⟨bh, hh, hhb⟩ := heavyB im hs (rows.length : Int)
 simp only [aM, Im.cells, List.map_cons, List.map_nil, dI, dB] at hh
 unfold MB at hr1
 refine den_wp Tryz.func3 rfl (by kernel_rfl) rfl rfl ?_
 cases bh with
 | true =>
  refine wkceiktu (jn @dI.eq_1 (jn @dLL.eq_1 (jn @aM.eq_1 (jn @Im.cells.eq_1 (jn @hh (jn @haw @addNew_zero)))))) ?_
  show retQ _ _ _ _ _
  exact ⟨.inr rfl, _, _, rfl, rfl⟩
 | false =>
 obtain ⟨b1, b2, b3, b4⟩ := hhb rfl
 by_cases hc : chkE im = 0
 case neg =>
  have hb := text_bad hs hok hc
  simp only [aM, Im.cells, List.map_cons, List.map_nil, dI, dS] at hb
  refine wkceiktu (jn @dI.eq_1 (jn @dLL.eq_1 (jn @aM.eq_1 (jn @Im.cells.eq_1 (jn @hh (jn @haw (jn @addNew_zero (jn @hb (jn @hc @int_bne))))))))) ?_
  show retQ _ _ _ _ _
  exact ⟨.inr rfl, _, _, rfl, rfl⟩
 have hG := good_of hc
 obtain ⟨t1, t2, t3⟩ := good_txt hc
 have ls := len_sum im.rs
 have hlen : (txt im).length ≤ 4194304 := by have := imL_len t1 t2; omega
 have himl : (imL im).length ≤ 800000 := by
  have := rtL_sum im.rs
  unfold imL
  simp only [List.length_cons]
  omega
 have hw : ∀ r ∈ im.rs, wt r ≤ 20000 := fun r hr => by have := wt_le hr; omega
 have hT := text6 hc hs hok t1 (by omega) (by omega) t2 t3 hw hlen
 have hP := parse7 hc hs hok t1 (by omega) (by omega) t2 t3 (fun r hr => by have := hw r hr; omega) hlen himl
 obtain ⟨T, hTx⟩ : ∃ T, T = txt im := ⟨_, rfl⟩
 rw [← hTx] at hT hP
 simp only [aM, Im.cells, List.map_cons, List.map_nil, dI, dS] at hT hP
 obtain ⟨q, hI1, hqv, mid, mg, hMq, hmlt, hn1⟩ := new_ok hs hok hc
 have hI2 : closeT noLook q.v = none := by rw [hqv]; rfl
 simp only [aM, Im.cells, List.map_cons, List.map_nil] at hI1
 have hI3 : shiftV 2 2 q.v = .tuple [.ptr 3 3 0, dI 0] := by rw [hqv]; rfl
 obtain ⟨W1, hI4⟩ : ∃ W, shiftH 2 2 (wrOf q.hp.get (List.range q.n)) = W := ⟨_, rfl⟩
 refine wkceiktu (jn @dI.eq_1 (jn @dLL.eq_1 (jn @aM.eq_1 (jn @Im.cells.eq_1 (jn @hh (jn @haw (jn @hT (jn @hP (jn @addNew_zero (jn @int_bne @ti25)))))))))) ?_
 apply WP.gen
 intro hp1 wl1 hhp hwl
 have hb1 : hp1.get 1 = some ⟨1, false, [.d (.slice (encI im.enums)), .d (.slice (encR im.rs))]⟩ := by rw [hhp, ← hI4, import_old (by omega)]; rfl
 have hM1 : Mc im hp1 3 3 (mid + 2) (mg + 2) (lastR im).ini 0 := by rw [hhp, ← hI4]; exact hMq.shift hn1 hmlt
 clear hhp hwl hI3 hI4
 obtain ⟨n1, hn1e⟩ : ∃ n1, n1 = 2 + q.n := ⟨_, rfl⟩
 obtain ⟨c1, hc1e⟩ : ∃ c1, c1 = 2 + q.c := ⟨_, rfl⟩
 rw [← hn1e, ← hc1e]
 have hI3 : shiftV n1 c1 q.v = .tuple [.ptr (1 + n1) (1 + c1) 0, dI 0] := by rw [hqv]; simp [shiftV, shiftVs, dI]
 obtain ⟨W2, hI4⟩ : ∃ W, shiftH n1 c1 (wrOf q.hp.get (List.range q.n)) = W := ⟨_, rfl⟩
 refine wkceiktu (jn @dI.eq_1 (jn @addNew_zero (jn @hb1 (jn @int_bne @ti25)))) ?_
 apply WP.gen
 intro hp2 wl2 hhp hwl
 have hT0 : Two im hp2 (n1 + q.n) 3 3 (mid + 2) (mg + 2) (lastR im).ini 0 (1 + n1) (1 + c1) (mid + n1) (mg + c1) (lastR im).ini 0 := by
  have hold : ∀ j, j < n1 → hp2.get j = hp1.get j := fun j hj => by rw [hhp, ← hI4, import_old hj]
  have hd : Mc im hp2 (1 + n1) (1 + c1) (mid + n1) (mg + c1) (lastR im).ini 0 := by rw [hhp, ← hI4]; exact hMq.shift hn1 hmlt
  exact ⟨hM1.same (hold _ (by omega)) (hold _ (by omega)), hd, by omega, by omega, by omega, by omega, by omega, by omega, by omega, by omega⟩
 clear hhp hwl hI3 hI4 hM1 hb1 hI1 hI2 hT hP hTx
 obtain ⟨N, hNe⟩ : ∃ N, N = n1 + q.n := ⟨_, rfl⟩
 obtain ⟨mc, hmce⟩ : ∃ m, m = mid + 2 := ⟨_, rfl⟩
 obtain ⟨mgc, hmgce⟩ : ∃ m, m = mg + 2 := ⟨_, rfl⟩
 obtain ⟨id, hide⟩ : ∃ m, m = 1 + n1 := ⟨_, rfl⟩
 obtain ⟨gd, hgde⟩ : ∃ m, m = 1 + c1 := ⟨_, rfl⟩
 obtain ⟨md, hmde⟩ : ∃ m, m = mid + n1 := ⟨_, rfl⟩
 obtain ⟨mgd, hmgde⟩ : ∃ m, m = mg + c1 := ⟨_, rfl⟩
 rw [← hNe, ← hide, ← hgde] at ⊢
 rw [← hNe, ← hmce, ← hmgce, ← hide, ← hgde, ← hmde, ← hmgde] at hT0
 clear hNe hmce hmgce hide hgde hmde hmgde
 have hrgi : Rg (lastR im).ini := hG.ini _ hG.mem
 obtain ⟨c9, hc9⟩ : ∃ c9, c9 = c1 + q.c := ⟨_, rfl⟩
 rw [← hc9]
 clear hc9
 obtain ⟨capc, _, hCc⟩ := hT0.c.c
 obtain ⟨capd, _, hCd⟩ := hT0.d.c
 refine wkceiktu (jn @dI.eq_1 (jn @addNew_zero (jn @int_bne (jn @hCc @hCd)))) ?_
 clear hCc hCd
 apply WP.loop' (I := fun D s => ∃ (j : Nat) (hp' : Hp) (c' : Nat) (mem : List Int) (cnt : Int), j + D = rows.length ∧ mem.length = (lastR im).ini.length ∧ Rg mem ∧ Two im hp' N 3 3 mc mgc mem cnt id gd md mgd mem cnt ∧
  s = ⟨[(1, dLL rows), (10, .ptr 3 3 0), (12, .ptr id gd 0), (14, dI j)], hp', N, c', 0, wl2⟩) (d := rows.length)
 ·exact ⟨0, hp2, c9, _, 0, by simp, rfl, hrgi, hT0, by rfl⟩
 clear hT0
 rintro D _ ⟨j, hp', c', mem, cnt, hj, hml, hmr, hTw, rfl⟩
 refine wkeiktu (jn @dI.eq_1 (jn @dLL.eq_1 (jn @dL.eq_1 @addNew_zero))) ?_
 show WP _ _ _ _ _ _
 refine WP.cond _ rfl (fun hb => ?_) (fun hb => ?_)
 ·simp at hb
  have hb' : j < rows.length := hb
  have hrow := encL_row hb'
  have hix := idx_lt hb'
  have hw := w_succ hb' (by omega)
  obtain ⟨row, hrowe⟩ : ∃ r, r = rows.getD j [] := ⟨_, rfl⟩
  have hrl : row.length ≤ 4194304 := by rw [hrowe]; exact hr3 _ (by rw [List.getD_eq_getElem?_getD, List.getElem?_eq_getElem hb']; exact List.getElem_mem hb')
  rw [← hrowe] at hrow
  obtain ⟨r0, hT1, hv, hn, hT2, hki, hfr, hpz, hMz, hsame⟩ := (step_den (n := N) (c := c') hG hTw.c hTw.lic hTw.lmc hml hrl).caller (by intro j hj; have := hTw.lic; have := hTw.lmc; simp at hj; omega)
  have hTw2 := hTw.stepc hfr hMz hsame
  obtain ⟨r1, hU1, hv1, hn1', hU2, hki1, hfr1, hpz1, hMz1, hsame1⟩ := (step_den (n := N) (c := c' + (r0.c - c')) hG hTw2.d hTw2.lid hTw2.lmd hml hrl).caller (by intro j hj; have := hTw2.lid; have := hTw2.lmd; simp at hj; omega)
  have hTw3 := hTw2.stepd hfr1 hMz1 hsame1
  have hmem := stepR_mem (cnt := cnt) (row := row) hG hml hmr
  obtain ⟨st, hst⟩ : ∃ st, st = stepR im mem cnt row := ⟨_, rfl⟩
  rw [← hst] at hv hv1 hTw3 hmem
  simp only [dL, dI] at hv hv1
  refine wkceiktu (jn @dI.eq_1 (jn @dLL.eq_1 (jn @dL.eq_1 (jn @addNew_zero (jn @hix (jn @hrow (jn @hv (jn @hn (jn @hv1 @hn1'))))))))) ?_
  have ho := stepR_out (cnt := cnt) (row := row) hG hml
  rw [← hst] at ho
  have i1 := ints_same _ ho
  simp only [dL, dB] at i1
  apply WP.gen
  intro hp4 wl4 hhp hwl
  rw [← hhp] at hTw3
  subst hwl
  clear hhp hT1 hU1 hT2 hU2 hki hki1 hfr hfr1 hMz hMz1 hsame hsame1 hv hv1 hn hn1' hTw hTw2 hpz hpz1
  refine wkceiktu (jn @dI.eq_1 (jn @dLL.eq_1 (jn @dL.eq_1 (jn @addNew_zero (jn @int_bne @i1))))) ?_
  refine loop_next (by simp [addNew_zero, -addNew, hw]; exact Is.rfl) ?_
  exact ⟨D - 1, by omega, j + 1, _, _, st.2.2.1, st.2.2.2, by omega, hmem.1, hmem.2, hTw3.same (Nat.le_refl _) (fun t ht => Hp.get_trunc _ _ _ ht), by rfl⟩
 ·refine wkceiktu (jn @dI.eq_1 (jn @haw @addNew_zero)) ?_
  show retQ _ _ _ _ _
  exact ⟨.inr rfl, _, _, rfl, rfl⟩
end Go.Ac
