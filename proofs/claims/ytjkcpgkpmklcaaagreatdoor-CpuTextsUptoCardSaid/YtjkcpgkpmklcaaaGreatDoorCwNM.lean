/- A line of a text: a word and numbers. (Printed by mkCwN.py.) -/
import Derived.Test.YtjkcpgkpmklcaaaGreatDoorCtQM
set_option linter.unusedVariables false
set_option linter.unusedSimpArgs false
section
set_option maxRecDepth 8000
namespace Go.Ac
open Go.Proofs
section
attribute [local simp] Hp.get_set
/-- The cells of a list of routines. -/
def cRt (l : List Rt) : List V := l.flatMap fun i => i.cells.map V.d
theorem cRt_len : ∀ l : List Rt, (cRt l).length = l.length * 6
 | [] => rfl
 | i :: l => by
  have := cRt_len l
  unfold cRt at this ⊢
  rw [List.flatMap_cons, List.length_append, this, List.length_cons]
  show 6 + _ = _; omega
theorem cRt_snoc (l : List Rt) (i : Rt) : cRt l ++ i.cells.map V.d = cRt (l ++ [i]) := by
 unfold cRt; rw [List.flatMap_append]; simp
theorem toDs_cR (look : Look) (f : Nat) (l : List Rt) : toDs (toD look f) (cRt l) = some (l.flatMap Rt.cells, []) := by
 have : cRt l = (l.flatMap Rt.cells).map V.d := by unfold cRt; rw [List.map_flatMap]
 rw [this, toDs_dT]
theorem chunkRt : ∀ l : List Rt, chunk 6 l.length (l.flatMap Rt.cells) = encR l
 | [] => rfl
 | i :: l => by
  rw [List.length_cons, chunk, List.flatMap_cons]
  have e1 : List.take 6 (i.cells ++ l.flatMap Rt.cells) = i.cells := List.take_append_of_le_length (by simp [Rt.cells]) |>.trans (List.take_of_length_le (by simp [Rt.cells]))
  have e2 : List.drop 6 (i.cells ++ l.flatMap Rt.cells) = l.flatMap Rt.cells := by
   have : 6 = i.cells.length := by simp [Rt.cells]
   rw [this, List.drop_left]
  rw [e1, e2, chunkRt l]; rfl
theorem close_oslR {look : Look} {id g : Nat} {ro : Bool} {l : List Rt} {cap : Option Nat} (hl : look id = some ⟨g, ro, cRt l⟩) : close1 look (.osl id g 0 l.length 6 cap) = some (.d (.slice (encR l)), [id]) := by
 show ofD (toD look depthD _) = _
 rw [toD_dep]
 have : live look id g = some ⟨g, ro, cRt l⟩ := by simp [live, hl]
 rw [this]
 have e1 : (cRt l).take (l.length * 6) = cRt l := List.take_of_length_le (by rw [cRt_len]; exact Nat.le_refl _)
 simp only [Nat.zero_add, List.drop_zero, e1, toDs_cR, chunkRt, nble_d, cRt_len, Nat.le_refl, decide_true]
 rfl
theorem toD_R {look : Look} {id g : Nat} {ro : Bool} {l : List Rt} {cap : Option Nat} (hl : look id = some ⟨g, ro, cRt l⟩) : toD look depthD (.osl id g 0 l.length 6 cap) = some (.slice (encR l), [id]) := by
 rw [toD_dep]
 have : live look id g = some ⟨g, ro, cRt l⟩ := by simp [live, hl]
 rw [this]
 have e1 : (cRt l).take (l.length * 6) = cRt l := List.take_of_length_le (by rw [cRt_len]; exact Nat.le_refl _)
 simp only [Nat.zero_add, List.drop_zero, e1, toDs_cR, chunkRt, nble_d, cRt_len, Nat.le_refl, decide_true]
/-- Where the text of the routines before j ends. -/
def posT (im : Im) (j : Nat) : Nat := 1 + ((im.rs.take j).flatMap rtL).length
theorem posT_zero (im : Im) : posT im 0 = 1 := rfl
theorem posT_succ {im : Im} {j : Nat} {r : Rt} (h : im.rs[j]? = some r) : posT im (j + 1) = posT im j + (rtL r).length := by
 unfold posT
 rw [List.take_add_one, h, List.flatMap_append]
 simp; omega
theorem posT_all (im : Im) : posT im im.rs.length = (imL im).length := by
 unfold posT imL
 rw [List.take_length]; simp; omega
theorem posT_at {im : Im} {j : Nat} {r : Rt} (h : im.rs[j]? = some r) (k : Nat) (x : List UInt8) (hx : (rtL r)[k]? = some x) : (imL im ++ [[]])[posT im j + k]? = some x := by
 obtain ⟨hl, he⟩ := List.getElem?_eq_some_iff.1 h
 have e1 : im.rs = im.rs.take j ++ r :: im.rs.drop (j + 1) := by
  rw [← he, ← List.drop_eq_getElem_cons hl, List.take_append_drop]
 have e2 : imL im ++ [[]] = ((wEnums ++ nums im.enums) :: (im.rs.take j).flatMap rtL) ++ (rtL r ++ ((im.rs.drop (j + 1)).flatMap rtL ++ [[]])) := by
  unfold imL
  conv => lhs; rw [e1]
  rw [List.flatMap_append, List.flatMap_cons]; simp
 rw [e2, List.getElem?_append_right (by unfold posT; simp; omega)]
 have e3 : posT im j + k - ((wEnums ++ nums im.enums) :: (im.rs.take j).flatMap rtL).length = k := by unfold posT; simp; omega
 rw [e3, List.getElem?_append_left (List.getElem?_eq_some_iff.1 hx).1, hx]
theorem posT_le {im : Im} : ∀ {j : Nat}, j ≤ im.rs.length → posT im j ≤ (imL im).length := by
 intro j hj
 unfold posT imL
 have : ((im.rs.take j).flatMap rtL).length ≤ (im.rs.flatMap rtL).length := by
  conv => rhs; rw [← List.take_append_drop j im.rs, List.flatMap_append]
  rw [List.length_append]; omega
 rw [List.length_cons]; omega
theorem rtL_pos (r : Rt) : 1 ≤ (rtL r).length := by rw [rtL_length]; omega

set_option maxHeartbeats 16000000 in
theorem parse7 {im : Im} (hc : chkE im = 0) (hs : im.sz ≤ MB) (hok : ∀ r ∈ im.rs, RtOK r) (he : ∀ x ∈ im.enums, NumOK x) (hel : im.enums.length ≤ 100000) (hrl : im.rs.length ≤ 100000) (hr : ∀ r ∈ im.rs, RtT r) (hop : ∀ r ∈ im.rs, ∀ i ∈ r.code, OpF i) (hw : ∀ r ∈ im.rs, wt r ≤ 500000)
  (hlen : (txt im).length ≤ 4194304) (hls : (imL im).length ≤ 800000) : den Tryz.prog Cp.cfg 7 [dS (txt im)] = some (.tuple [aM im, dI 0, dI 0]) := by
 obtain ⟨ls, hLs⟩ : ∃ ls, ls = imL im ++ [[]] := ⟨_, rfl⟩
 have hsp := split18 (txt im) 10 (by omega)
 rw [cut_txt hr, ← hLs] at hsp
 simp only [dS, dSl] at hsp
 have hll : ls.length = (imL im).length + 1 := by rw [hLs]; simp
 have hl0 : ls[0]? = some (wEnums ++ nums im.enums) := by rw [hLs]; rfl
 have hlast : ls[ls.length - 1]? = some [] := by
  rw [show ls.length - 1 = (imL im).length by omega, hLs, List.getElem?_append_right (Nat.le_refl _)]; simp
 have hpl1 := posT_le (im := im) (Nat.zero_le _)
 rw [posT_zero] at hpl1
 have t1 : (4194304 < (txt im).length) = False := eq_false (by omega)
 have t1' : ((4194304 : Int) < ((txt im).length : Int)) = False := eq_false (by omega)
 refine den_wp Tryz.func7 rfl (by kernel_rfl) rfl rfl ?_
 refine wkcekt (jn @envOf.eq_1 (jn @envOf.eq_2 (jn @dI.eq_1 (jn @dS.eq_1 (jn @z25_eq (jn @ti25 (jn @t1 (jn @t1' (jn @hsp (jn @ti62 @ti58)))))))))) ?_
 apply WP.gen
 intro hp1 wl1 h1 h2
 have z1 : hp1.get 0 = some ⟨0, false, [V.full [], V.full []]⟩ := by rw [h1]; simp
 have R1 : Rd hp1 1 1 ls 0 := by unfold Rd; rw [h1]; simp [dI, dSl]; rfl
 clear h1 h2
 obtain ⟨r0, hT1, hv, hn, hT2, hki, hfr, hpz, hz, hsame⟩ := (list19 (n := 2) (c := 2) (many := -1) R1 (by omega) (by omega) (by omega) (show 32 ∉ wEnums by decide) (by decide) hl0 (by have := nums_len he; simp [wEnums]; omega) he (by omega) (.inl rfl)).caller (by intro j hj; simp at hj; omega)
 simp only [dI, dS, dL, wEnums] at hT1 hv
 refine wkcekt (jn @dI.eq_1 (jn @hv (jn @hn (jn @ti22 (jn @ti25 (jn @z25_eq (jn @fillV.eq_1 (jn @fillV.eq_2 (jn @Value.oneCell'.eq_def (jn @closeParts.eq_1 (jn @closeParts.eq_2 @cl2.eq_def))))))))))) ?_
 apply WP.gen
 intro hp2 wl2 h1 h2
 obtain ⟨G2, hG2⟩ : ∃ G2, G2 = 2 + (r0.c - 2) := ⟨_, rfl⟩
 rw [← hG2] at h1 ⊢
 have x2 : hp2.get 2 = some ⟨G2, false, [V.d (.slice (encI im.enums)), V.osl 3 (G2 + 1) 0 0 6 none]⟩ := by rw [h1]; simp
 have o2 : hp2.get 3 = some ⟨G2 + 1, false, cRt (im.rs.take 0)⟩ := by rw [h1]; simp; rfl
 have z2 := (hfr 0 (by omega) (by simp)).trans z1
 have z3 : hp2.get 0 = some ⟨0, false, [V.full [], V.full []]⟩ := by rw [h1]; simp; exact z2
 have R2 : Rd hp2 1 1 ls (posT im 0) := hz.of (by rw [h1]; simp; exact hsame 1 (by omega) hz.some)
 clear h1 h2 hT1 hT2 hki hfr hv hpz hz hsame z1 z2 R1 hn
 obtain ⟨c2, hc2⟩ : ∃ c2, c2 = G2 + 1 + 1 := ⟨_, rfl⟩
 rw [← hc2]
 clear hc2 hG2
 apply WP.loop' (I := fun D s => ∃ (j gO : Nat) (hp3 : Hp) (c3 : Nat) (wl3 : List Nat), j + D = im.rs.length ∧ hp3.get 2 = some ⟨G2, false, [V.d (.slice (encI im.enums)), V.osl 3 gO 0 j 6 none]⟩ ∧ hp3.get 3 = some ⟨gO, false, cRt (im.rs.take j)⟩ ∧ hp3.get 0 = some ⟨0, false, [V.full [], V.full []]⟩ ∧ Rd hp3 1 1 ls (posT im j) ∧
  s = ⟨[(2, .ptr 0 0 0), (5, .ptr 1 1 0), (6, .ptr 2 G2 0)], hp3, 4, c3, 0, wl3⟩) (d := im.rs.length)
 ·exact ⟨0, G2 + 1, hp2, c2, wl2, by simp, x2, o2, z3, R2, by rfl⟩
 clear x2 o2 z3 R2
 rintro D _ ⟨j, gO, hp3, c3, wl3, hj, x3, o3, z3, R3, rfl⟩
 have hpj := posT_le (im := im) (j := j) (by omega)
 obtain ⟨r0, hT1, hv, hn, hT2, hki, hfr, _⟩ := (more20 (n := 4) (c := c3) R3 (by omega) (by omega) (by omega) hlast).caller (by intro j hj; cases hj)
 by_cases hjl : j < im.rs.length
 ·obtain ⟨r, hrj⟩ : ∃ r, im.rs[j]? = some r := ⟨im.rs[j], by simp⟩
  have hrm := List.mem_of_getElem? hrj
  have hps := posT_succ hrj
  have hpl := rtL_pos r
  have hpj1 := posT_le (im := im) (j := j + 1) (by omega)
  rw [show decide (posT im j + 1 < ls.length) = true from decide_eq_true (by omega)] at hv
  simp only [dB] at hv
  refine wkcekt (jn @dI.eq_1 (jn @hv @hn)) ?_
  apply WP.gen
  intro hp4 wl4 h1 h2
  have x4 := (hfr 2 (by omega) (by simp)).trans x3
  have o4 := (hfr 3 (by omega) (by simp)).trans o3
  have z4 := (hfr 0 (by omega) (by simp)).trans z3
  have R4 : Rd hp4 1 1 ls (posT im j) := R3.of (by rw [h1]; exact hfr 1 (by omega) (by simp))
  rw [← h1] at x4 o4 z4
  clear h1 h2 hT1 hT2 hki hfr hv hn x3 o3 z3 R3
  obtain ⟨c4, hc4⟩ : ∃ c4, c4 = c3 + (r0.c - c3) := ⟨_, rfl⟩
  rw [← hc4]
  clear hc4
  obtain ⟨r1, hT1, hv, hn, hT2, hki, hfr, hpz, hz, hsame⟩ := (routine21 (n := 4) (c := c4) (hr r hrm) (hop r hrm) (hw r hrm) R4 (by omega) (by omega) (fun k x hx => by rw [hLs]; exact posT_at hrj k x hx) (by omega)).caller (by intro j hj; simp at hj; omega)
  simp only [aR, Rt.cells, List.map_cons, List.map_nil] at hv
  have x5 := (hfr 2 (by omega) (by simp)).trans x4
  have o5 := (hfr 3 (by omega) (by simp)).trans o4
  have z5 := (hfr 0 (by omega) (by simp)).trans z4
  have R5 : Rd (hp4.sets (tWr r1 4)) 1 1 ls (posT im (j + 1)) := by rw [hps]; exact hz.of (hsame 1 (by omega) hz.some)
  have hd42 : disj [4] [2] = true := rfl
  have hdj : disj (List.map (fun x => x.fst) (tWr r1 4)) [2] = true := by
   unfold disj
   rw [List.all_eq_true]
   intro x hx
   have := hki x hx
   simp at this
   subst this; rfl
  obtain ⟨C, hC⟩ : ∃ C, C = cRt (im.rs.take j) := ⟨_, rfl⟩
  rw [← hC] at o4 o5
  have hCl : C.length = j * 6 := by rw [hC, cRt_len]; simp; omega
  have hCt : List.take (j * 6) C = C := List.take_of_length_le (by omega)
  have hfit : fitsB (j + 1) 120 = true := by simp [fitsB]; omega
  repeat (first
 | apply WP.seq
 | (apply WP.reg; (case hR => dsimp only [prepL, prepO, List.map, gS, gZ]; exact iZ); (case hr => (repeat (first
 | (apply RT.op; simp [dI, -addNew, hv, hn, x4, x5, o4, o5, ti22, ti25, ti43, ti23, closeParts, cl2, fillV, Value.oneCell', hCl, hCt, nble_d, hfit]; exact iZ; (try dsimp only [putEnv]) <;> exact rfl)
 | (apply RT.call; (iterate 2 simp; exact iZ); exact iZ; (iterate 4 simp [dI, -addNew, hv, hn, x4, x5, o4, o5, ti22, ti25, ti43, ti23, closeParts, cl2, fillV, Value.oneCell', hCl, hCt, nble_d, hfit]; exact iZ); simp [Is]; (try dsimp only [putEnv]) <;> exact rfl; simp; exact iZ; exact iZ)
 | (apply RT.callT (hd := hT1) (hk := hT2); (iterate 2 simp; exact iZ); exact iZ; (iterate 2 simp [dI, -addNew, hv, hn, x4, x5, o4, o5, ti22, ti25, ti43, ti23, closeParts, cl2, fillV, Value.oneCell', hCl, hCt, nble_d, hfit]; exact iZ); (try dsimp only [putEnv]) <;> exact rfl)
 | (apply RT.wr; simp [dI, -addNew, hv, hn, x4, x5, o4, o5, ti22, ti25, ti43, ti23, closeParts, cl2, fillV, Value.oneCell', hCl, hCt, nble_d, hfit]; exact iZ; (try dsimp only [putEnv]) <;> exact rfl; simp [dI, -addNew, hv, hn, x4, x5, o4, o5, ti22, ti25, ti43, ti23, closeParts, cl2, fillV, Value.oneCell', hCl, hCt, nble_d, hfit]; exact iZ; (iterate 2 exact iZ); exact iZ))); exact RT.nil); (case hc => first | (refine checkR_un [(0, 2), (1, 2), (0, 3), (1, 3), (0, 4), (1, 4)] (by kernel_rfl) (by decide +kernel) rfl ?_; simp [memA, disj_l, disj_r, hdj, hd42]; done) | (show _ = _; kernel_rfl)); (case ht => simp [dI, -addNew, hv, hn, x4, x5, o4, o5, ti22, ti25, ti43, ti23, closeParts, cl2, fillV, Value.oneCell', hCl, hCt, nble_d, hfit]; exact iZ))
 | apply WP.block | apply WP.skip | apply WP.exit | apply WP.ret | refine WP.condT rfl ?_ | refine WP.condF rfl ?_)
  have hCn : C ++ [V.d (.str r.nm), V.d (.slice (encI r.inn)), V.d (.slice (encI r.out)), V.d (.int .i64 r.regs), V.d (.slice (encI r.ini)), V.d (.slice (encC r.code))] = cRt (im.rs.take (j + 1)) := by
   rw [hC, List.take_add_one, hrj]
   exact cRt_snoc _ _
  rw [hCn]
  refine block_n ?_
  refine loop_next (by simp [-addNew]; exact Is.rfl) ?_
  refine ⟨D - 1, by omega, j + 1, c4 + (r1.c - c4) + 1, _, _, _, by omega, ?_, ?_, ?_, ?_, by rfl⟩
  ·rw [Hp.get_trunc _ _ _ (by omega), Hp.get_set_self]
  ·rw [Hp.get_trunc _ _ _ (by omega), Hp.get_set_ne _ _ _ _ (by omega), Hp.get_set_self]
  ·rw [Hp.get_trunc _ _ _ (by omega), Hp.get_set_ne _ _ _ _ (by omega), Hp.get_set_ne _ _ _ _ (by omega), Hp.get_set_ne _ _ _ _ (by omega), z5]
  ·exact R5.of (by rw [Hp.get_trunc _ _ _ (by omega), Hp.get_set_ne _ _ _ _ (by omega), Hp.get_set_ne _ _ _ _ (by omega), Hp.get_set_ne _ _ _ _ (by omega)])
 ·have hjL : j = im.rs.length := by omega
  subst hjL
  rw [posT_all] at R3 hv hpj
  rw [show decide ((imL im).length + 1 < ls.length) = false from decide_eq_false (by omega)] at hv
  simp only [dB] at hv
  rw [List.take_length] at o3
  have x4 := (hfr 2 (by omega) (by simp)).trans x3
  have o4 := (hfr 3 (by omega) (by simp)).trans o3
  have z4 := (hfr 0 (by omega) (by simp)).trans z3
  have R4 : Rd (hp3.sets (tWr r0 4)) 1 1 ls (imL im).length := R3.of (hfr 1 (by omega) (by simp))
  unfold Rd at R4
  simp only [dI, dSl] at R4
  have hk := check_den im hs hok
  rw [hc] at hk
  simp only [dI, aM, Im.cells, List.map_cons, List.map_nil] at hk
  have hca := toD_R (ro := false) (cap := none) o4
  refine wkcekt (jn @dI.eq_1 (jn @hv (jn @hn (jn @R4 (jn @int_bne (jn @ti62 (jn @ti29 (jn @ti25 (jn @x4 (jn @o4 (jn @z4 (jn @hca (jn @hk (jn @closeParts.eq_1 (jn @closeParts.eq_2 @cl2.eq_def))))))))))))))) ?_
  refine ⟨.inr rfl, [.agg [.d (.slice (encI im.enums)), .osl 3 gO 0 im.rs.length 6 none], dI 0, dI 0], [3], by simp [resultsV, resultV, Hp.get_set, dI], ?_⟩
  have o5 : ((hp3.sets (tWr r0 4)).set 0 ⟨0, false, [.d (.slice (encI im.enums)), .osl 3 gO 0 im.rs.length 6 none]⟩).get 3 = some ⟨gO, false, cRt im.rs⟩ := by
   rw [Hp.get_set_ne _ _ _ _ (by omega)]; exact o4
  show closeT _ (.tuple [.agg [.d (.slice (encI im.enums)), .osl 3 gO 0 im.rs.length 6 none], .d (.int .i64 0), .d (.int .i64 0)]) = _
  have e0 : ∀ look n, close look (.d (.int .i64 n)) = some (.d (.int .i64 n), []) := fun look n => close1_d (look := look) _
  have e1 : close ((hp3.sets (tWr r0 4)).set 0 ⟨0, false, [.d (.slice (encI im.enums)), .osl 3 gO 0 im.rs.length 6 none]⟩).get (.agg [.d (.slice (encI im.enums)), .osl 3 gO 0 im.rs.length 6 none]) = some (aM im, [3]) := by
   simp only [close, closeVs, close1_d, close_oslR (ro := false) o5]; rfl
  simp only [closeT, closeVs, e0, e1]; rfl
end
end Go.Ac
end

section
set_option maxRecDepth 20000
namespace Go.Ac
open Go.Proofs Go.Lib
attribute [local simp] Hp.get_set
/-- A call that makes a list of bytes and hands it out. -/
def ApN (f : FuncId) (vs : List V) (hp : Hp) (n c : Nat) (bs : List V) : Prop :=
 ∃ q c2, lim Tryz.prog Cp.cfg f vs hp n c = some q ∧ q.v = .osl n c2 0 bs.length 1 none ∧ n < q.n ∧ WI [] n hp q.wl q.hp ∧ q.hp.get n = some ⟨c2, false, bs⟩
def anQ (fn : Func) (hp : Hp) (n : Nat) (bs : List V) (e : Ex) (t : St) : Prop :=
 (e = .normal ∨ e = .ret) ∧ ∃ rs c2, resultsV Tryz.prog t fn.results.toList = some rs ∧ tup rs = .osl n c2 0 bs.length 1 none ∧ n < t.n ∧ WI [] n hp t.wl t.hp ∧ t.hp.get n = some ⟨c2, false, bs⟩
theorem an_wp {f : FuncId} {fn : Func} {body : Code} {vs : List V} {hp : Hp} {n c : Nat} {bs : List V} (hf : Tryz.prog.funcs[f]? = some fn) (hb : fn.body = some body) (hok : (Nat.ble vs.length fn.ntmps && codeOK fn.ntmps body) = true)
  (hthr : Cp.cfg.thr f = true) (h : WP Tryz.prog Cp.cfg f body ⟨envOf 0 vs, hp, n, c, n, []⟩ (anQ fn hp n bs)) : ApN f vs hp n c bs := by
 obtain ⟨w, t, h1, c2, h2⟩ := lim_wp (Q := fun w t => ∃ c2, w = .osl n c2 0 bs.length 1 none ∧ n < t.n ∧ WI [] n hp t.wl t.hp ∧ t.hp.get n = some ⟨c2, false, bs⟩) hf hb hok (h.mono fun e t ⟨he, rs, c2, a1, a2, a3, a4, a5⟩ => ⟨he, rs, a1, .inl hthr, c2, a2, a3, a4, a5⟩)
 exact ⟨_, c2, h1, h2⟩
theorem ApN.caller {f : FuncId} {vs : List V} {hp : Hp} {n c : Nat} {bs : List V} (h : ApN f vs hp n c bs) :
  ∃ q c2, lim Tryz.prog Cp.cfg f vs hp n c = some q ∧ q.v = .osl n c2 0 bs.length 1 none ∧ n < q.n ∧ (∀ k, k ∈ (tWr q n).map (·.1) → k < n + (q.n - n)) ∧ (∀ k, k ∈ (tWr q n).map (·.1) → n ≤ k) ∧
   (∀ j, j < n → (hp.sets (tWr q n)).get j = hp.get j) ∧ (hp.sets (tWr q n)).get n = some ⟨c2, false, bs⟩ := by
 obtain ⟨q, c2, h1, h2, h3, h4, h5⟩ := h
 have hids : ∀ j, j ∈ ([] : List Nat) → j < n := fun j hj => by cases hj
 refine ⟨q, c2, h1, h2, h3, fun k hk => by have := (tWr_keys (by omega) h4 hids hk).2; omega, fun k hk => by rcases (tWr_keys (by omega) h4 hids hk).1 with h | h; cases h; exact h, fun j hj => tWr_old h4 hj (by simp), ?_⟩
 rw [tWr_same h4 (by omega) (by rw [h5]; rfl), h5]
theorem strRow_app (a b : List UInt8) : strRow (a ++ b) = strRow a ++ strRow b := by simp [strRow]
section
variable {hp : Hp} {n c id g k gk : Nat} {cp : Option Nat} {bs : List V} {w : List UInt8} {l : List Int}

set_option maxHeartbeats 8000000 in
theorem line15n (hwl : w.length ≤ 4194304) (hl : ∀ x ∈ l, NumOK x) (hll : l.length ≤ 20000) : ApN 15 [.full [], dS w, dL l] hp n c (strRow (w ++ nums l ++ [10])) := by
 have f1 : (n < n + 1) = True := eq_true (by omega)
 have hfit : fitsB w.length 1 = true := by simp [fitsB]; omega
 refine an_wp Tryz.func15 rfl (by kernel_rfl) rfl ?_
 refine wkcekt (jn @envOf.eq_1 (jn @envOf.eq_2 (jn @dI.eq_1 (jn @dS.eq_1 (jn @dL.eq_1 (jn @ti50 (jn @ti9 (jn @ti22 (jn @nble_d (jn @hfit (jn @f1 (jn @Nat.zero_add @encI_len)))))))))))) ?_
 apply WP.gen
 intro hp1 wl1 h1 h2
 obtain ⟨B0, hB0⟩ : ∃ B, B = strRow w := ⟨_, rfl⟩
 have hB0l : B0.length = w.length := by rw [hB0]; simp [strRow_len]
 rw [← hB0l]
 have z1 : hp1.get n = some ⟨c, false, B0⟩ := by rw [h1, Hp.get_set_self, hB0]; rfl
 have w1 : WI [] n hp wl1 hp1 := by rw [h1, h2]; exact WI.refl.set (k := n) (.inr (Nat.le_refl _))
 clear h1 h2
 obtain ⟨c1, hc1⟩ : ∃ c1, c1 = c + 1 := ⟨_, rfl⟩
 rw [← hc1]
 clear hc1
 have g1 : (n < n + 2) = True := eq_true (by omega)
 have g2 : (n + 1 = n) = False := eq_false (by omega)
 have g3 : (n < n + 1) = True := eq_true (by omega)
 have g4 : (n = n + 1) = False := eq_false (by omega)
 apply WP.loop' (I := fun D s => ∃ (j gn : Nat) (B : List V) (hp2 : Hp) (c2 : Nat) (wl2 : List Nat), j + D = l.length ∧ B = B0 ++ strRow (nums (l.take j)) ∧ hp2.get n = some ⟨gn, false, B⟩ ∧ WI [] n hp wl2 hp2 ∧
  s = ⟨[(0, .osl n gn 0 B.length 1 none), (12, .d (.slice (encI l))), (13, dI l.length), (14, dI j)], hp2, n + 1, c2, n, wl2⟩) (d := l.length)
 ·exact ⟨0, c, B0, hp1, c1, wl1, by simp, by simp [nums, strRow], z1, w1, by rfl⟩
 rintro D _ ⟨j, gn, B, hp2, c2, wl2, hj, hB, z2, w2, rfl⟩
 have hBl : B.length ≤ 9000000 := by
  have := nums_len (l := l.take j) fun x hx => hl x (List.mem_of_mem_take hx)
  rw [hB, List.length_append, strRow_len, hB0l]
  have h4 : (l.take j).length ≤ 20000 := by simp; omega
  omega
 refine wkekt (@dI.eq_1) ?_
 show WP _ _ _ _ _ _
 refine WP.cond _ rfl (fun hb => ?_) (fun hb => ?_)
 ·simp at hb
  have hb' : j < l.length := by omega
  obtain ⟨x, hx⟩ : ∃ x, l[j]? = some x := ⟨l[j], by simp⟩
  have hxo := hl x (List.mem_of_getElem? hx)
  have hix := idx_lt hb'
  have hw := w_succ hb' (by omega)
  have hfit2 : fitsB (B.length + 1) 1 = true := by simp [fitsB]; omega
  obtain ⟨B1, hB1⟩ : ∃ B1, B1 = B ++ [V.d (.int .u8 32)] := ⟨_, rfl⟩
  have hB1l : B.length + 1 = B1.length := by rw [hB1]; simp
  rw [hB1l] at hfit2
  obtain ⟨r0, c3, hT1, hv, hn, hT2, hki, hfr, hz⟩ := (appI31 (hp := (hp2.set (n + 1) ⟨c2, false, [V.d (.int .u8 32)]⟩).set n ⟨c2 + 1, false, B1⟩) (n := n + 2) (id := n) (c := c2 + 1 + 1) hxo (by omega) (Hp.get_set_self _ _ _) (by omega)).caller (by omega)
  simp only [dI] at hT1
  have hB1' := hB1.symm
  have hx2 : (encI l)[j]? = some [.int .i64 x] := encI_at hx
  refine wkcekt (jn @dI.eq_1 (jn @hix (jn @hx2 (jn @encI_len (jn @z2 (jn @nble_d (jn @hfit2 (jn @hB1' (jn @hB1l (jn @hv (jn @ti22 (jn @ti50 (jn @ti5 (jn @ti2 (jn @g1 (jn @g2 (jn @g3 (jn @g4 (jn @fillV.eq_1 (jn @fillV.eq_2 (jn @Value.oneCell'.eq_def (jn @z5_eq (jn @closeParts.eq_1 (jn @closeParts.eq_2 @cl2.eq_def)))))))))))))))))))))))) ?_
  refine loop_next (by simp [-addNew, hw]; exact Is.rfl) ?_
  obtain ⟨B2, hB2⟩ : ∃ B2, B2 = B1 ++ strRow (dg x) := ⟨_, rfl⟩
  have hB2l : B1.length + (dg x).length = B2.length := by rw [hB2, List.length_append, strRow_len]
  rw [← hB2] at hz
  rw [hB2l]
  refine ⟨D - 1, by omega, j + 1, c3, B2, _, _, _, by omega, ?_, ?_, (((w2.set (k := n + 1) (.inr (by omega))).set (k := n) (.inr (Nat.le_refl _))).sets (wr := tWr r0 (n + 2)) fun p hp => ?_).trunc (m := n + 1) (by omega), by rfl⟩
  ·rw [hB2, hB1, hB, List.take_add_one, hx]
   show _ = B0 ++ strRow (nums (List.take j l ++ [x]))
   rw [nums_snoc, strRow_app]
   simp [strRow]
  ·rw [Hp.get_trunc _ _ _ (by omega)]; exact hz
  ·have := hki p.1 (List.mem_map_of_mem hp)
   simp at this ⊢; omega
 ·simp at hb
  have hjL : j = l.length := by omega
  subst hjL
  rw [List.take_length] at hB
  have hBf : strRow (w ++ nums l ++ [10]) = B ++ [V.d (.int .u8 10)] := by rw [hB, hB0]; simp [strRow]
  have hfit2 : fitsB (B.length + 1) 1 = true := by simp [fitsB]; omega
  refine wkcekt (jn @dI.eq_1 (jn @ti50 (jn @ti5 (jn @nble_d (jn @hfit2 (jn @z2 (jn @g1 (jn @g2 (jn @g3 (jn @g4 (jn @fillV.eq_1 (jn @fillV.eq_2 (jn @Value.oneCell'.eq_def (jn @z5_eq (jn @closeParts.eq_1 (jn @closeParts.eq_2 @cl2.eq_def)))))))))))))))) ?_
  show anQ _ _ _ _ _ _
  refine ⟨.inr rfl, _, c2 + 1, rfl, ?_, by show n < n + 1 + 1; omega, (w2.set (k := n + 1) (.inr (by omega))).set (k := n) (.inr (Nat.le_refl _)), ?_⟩
  ·show V.osl n _ 0 (B.length + 1) 1 none = _
   congr 1
   rw [hBf]; simp
  ·show (Hp.set _ _ _).get n = _
   rw [Hp.get_set_self, hBf]

set_option maxHeartbeats 8000000 in
theorem line15d (hid : id < n) (hget : hp.get id = some ⟨g, false, bs⟩) (hb : bs.length ≤ 4194304) (hwl : w.length ≤ 4194304) (hl : ∀ x ∈ l, NumOK x) (hll : l.length ≤ 20000) : ApK 15 [.osl id g 0 bs.length 1 none, dS w, dL l] hp n c id (bs ++ strRow (w ++ nums l ++ [10])) := by
 have f1 : (id < n) = True := eq_true hid
 have f2 : (n = id) = False := eq_false (by omega)
 have f3 : (id < n + 1) = True := eq_true (by omega)
 have hfit : fitsB (bs.length + w.length) 1 = true := by simp [fitsB]; omega
 refine ap_wp Tryz.func15 rfl (by kernel_rfl) rfl ?_
 refine wkcekt (jn @envOf.eq_1 (jn @envOf.eq_2 (jn @dI.eq_1 (jn @dS.eq_1 (jn @dL.eq_1 (jn @ti50 (jn @ti9 (jn @ti22 (jn @nble_d (jn @hget (jn @hfit (jn @f1 (jn @f2 (jn @f3 @encI_len)))))))))))))) ?_
 apply WP.gen
 intro hp1 wl1 h1 h2
 obtain ⟨B0, hB0⟩ : ∃ B, B = bs ++ strRow w := ⟨_, rfl⟩
 have hB0l : B0.length = (bs.length + w.length) := by rw [hB0]; simp [strRow_len]
 rw [← hB0l]
 have z1 : hp1.get id = some ⟨c, false, B0⟩ := by rw [h1, Hp.get_set_self, hB0]; rfl
 have w1 : WI [id] n hp wl1 hp1 := by rw [h1, h2]; exact WI.refl.set (k := id) (.inl (by simp))
 clear h1 h2
 obtain ⟨c1, hc1⟩ : ∃ c1, c1 = c + 1 := ⟨_, rfl⟩
 rw [← hc1]
 clear hc1
 have g1 : (id < n + 1) = True := eq_true (by omega)
 have g2 : (n = id) = False := eq_false (by omega)
 have g3 : (id < n) = True := eq_true (by omega)
 have g4 : (id = n) = False := eq_false (by omega)
 apply WP.loop' (I := fun D s => ∃ (j gn : Nat) (B : List V) (hp2 : Hp) (c2 : Nat) (wl2 : List Nat), j + D = l.length ∧ B = B0 ++ strRow (nums (l.take j)) ∧ hp2.get id = some ⟨gn, false, B⟩ ∧ WI [id] n hp wl2 hp2 ∧
  s = ⟨[(0, .osl id gn 0 B.length 1 none), (12, .d (.slice (encI l))), (13, dI l.length), (14, dI j)], hp2, n, c2, n, wl2⟩) (d := l.length)
 ·exact ⟨0, c, B0, hp1, c1, wl1, by simp, by simp [nums, strRow], z1, w1, by rfl⟩
 rintro D _ ⟨j, gn, B, hp2, c2, wl2, hj, hB, z2, w2, rfl⟩
 have hBl : B.length ≤ 9000000 := by
  have := nums_len (l := l.take j) fun x hx => hl x (List.mem_of_mem_take hx)
  rw [hB, List.length_append, strRow_len, hB0l]
  have h4 : (l.take j).length ≤ 20000 := by simp; omega
  omega
 refine wkekt (@dI.eq_1) ?_
 show WP _ _ _ _ _ _
 refine WP.cond _ rfl (fun hb => ?_) (fun hb => ?_)
 ·simp at hb
  have hb' : j < l.length := by omega
  obtain ⟨x, hx⟩ : ∃ x, l[j]? = some x := ⟨l[j], by simp⟩
  have hxo := hl x (List.mem_of_getElem? hx)
  have hix := idx_lt hb'
  have hw := w_succ hb' (by omega)
  have hfit2 : fitsB (B.length + 1) 1 = true := by simp [fitsB]; omega
  obtain ⟨B1, hB1⟩ : ∃ B1, B1 = B ++ [V.d (.int .u8 32)] := ⟨_, rfl⟩
  have hB1l : B.length + 1 = B1.length := by rw [hB1]; simp
  rw [hB1l] at hfit2
  obtain ⟨r0, c3, hT1, hv, hn, hT2, hki, hfr, hz⟩ := (appI31 (hp := (hp2.set (n) ⟨c2, false, [V.d (.int .u8 32)]⟩).set id ⟨c2 + 1, false, B1⟩) (n := n + 1) (id := id) (c := c2 + 1 + 1) hxo (by omega) (Hp.get_set_self _ _ _) (by omega)).caller (by omega)
  simp only [dI] at hT1
  have hB1' := hB1.symm
  have hx2 : (encI l)[j]? = some [.int .i64 x] := encI_at hx
  refine wkcekt (jn @dI.eq_1 (jn @hix (jn @hx2 (jn @encI_len (jn @z2 (jn @nble_d (jn @hfit2 (jn @hB1' (jn @hB1l (jn @hv (jn @ti22 (jn @ti50 (jn @ti5 (jn @ti2 (jn @g1 (jn @g2 (jn @g3 (jn @g4 (jn @fillV.eq_1 (jn @fillV.eq_2 (jn @Value.oneCell'.eq_def (jn @z5_eq (jn @closeParts.eq_1 (jn @closeParts.eq_2 @cl2.eq_def)))))))))))))))))))))))) ?_
  refine loop_next (by simp [-addNew, hw]; exact Is.rfl) ?_
  obtain ⟨B2, hB2⟩ : ∃ B2, B2 = B1 ++ strRow (dg x) := ⟨_, rfl⟩
  have hB2l : B1.length + (dg x).length = B2.length := by rw [hB2, List.length_append, strRow_len]
  rw [← hB2] at hz
  rw [hB2l]
  refine ⟨D - 1, by omega, j + 1, c3, B2, _, _, _, by omega, ?_, ?_, (((w2.set (k := n) (.inr (by omega))).set (k := id) (.inl (by simp))).sets (wr := tWr r0 (n + 1)) fun p hp => ?_).trunc (m := n) (by omega), by rfl⟩
  ·rw [hB2, hB1, hB, List.take_add_one, hx]
   show _ = B0 ++ strRow (nums (List.take j l ++ [x]))
   rw [nums_snoc, strRow_app]
   simp [strRow]
  ·rw [Hp.get_trunc _ _ _ (by omega)]; exact hz
  ·have := hki p.1 (List.mem_map_of_mem hp)
   simp at this ⊢; omega
 ·simp at hb
  have hjL : j = l.length := by omega
  subst hjL
  rw [List.take_length] at hB
  have hBf : bs ++ strRow (w ++ nums l ++ [10]) = B ++ [V.d (.int .u8 10)] := by rw [hB, hB0]; simp [strRow]
  have hfit2 : fitsB (B.length + 1) 1 = true := by simp [fitsB]; omega
  refine wkcekt (jn @dI.eq_1 (jn @ti50 (jn @ti5 (jn @nble_d (jn @hfit2 (jn @z2 (jn @g1 (jn @g2 (jn @g3 (jn @g4 (jn @fillV.eq_1 (jn @fillV.eq_2 (jn @Value.oneCell'.eq_def (jn @z5_eq (jn @closeParts.eq_1 (jn @closeParts.eq_2 @cl2.eq_def)))))))))))))))) ?_
  show apQ _ _ _ _ _ _ _
  refine ⟨.inr rfl, _, c2 + 1, rfl, ?_, Nat.le_succ n, (w2.set (k := n) (.inr (by omega))).set (k := id) (.inl (by simp)), ?_⟩
  ·show V.osl id _ 0 (B.length + 1) 1 none = _
   congr 1
   rw [hBf]; simp
  ·show (Hp.set _ _ _).get id = _
   rw [Hp.get_set_self, hBf]

set_option maxHeartbeats 8000000 in
theorem line15z (hid : id < n) (hget : hp.get id = some ⟨g, false, bs⟩) (hb : bs.length ≤ 4194304) (hwl : w.length ≤ 4194304) : ApK 15 [.osl id g 0 bs.length 1 none, dS w, .full []] hp n c id (bs ++ strRow (w ++ nums [] ++ [10])) := by
 have f1 : (id < n) = True := eq_true hid
 have f2 : (n = id) = False := eq_false (by omega)
 have f3 : (id < n + 1) = True := eq_true (by omega)
 have hfit : fitsB (bs.length + w.length) 1 = true := by simp [fitsB]; omega
 refine ap_wp Tryz.func15 rfl (by kernel_rfl) rfl ?_
 refine wkcekt (jn @envOf.eq_1 (jn @envOf.eq_2 (jn @dI.eq_1 (jn @dS.eq_1 (jn @dL.eq_1 (jn @ti50 (jn @ti9 (jn @ti22 (jn @nble_d (jn @hget (jn @hfit (jn @f1 (jn @f2 @f3))))))))))))) ?_
 apply WP.gen
 intro hp1 wl1 h1 h2
 obtain ⟨B0, hB0⟩ : ∃ B, B = bs ++ strRow w := ⟨_, rfl⟩
 have hB0l : B0.length = (bs.length + w.length) := by rw [hB0]; simp [strRow_len]
 rw [← hB0l]
 have z1 : hp1.get id = some ⟨c, false, B0⟩ := by rw [h1, Hp.get_set_self, hB0]; rfl
 have w1 : WI [id] n hp wl1 hp1 := by rw [h1, h2]; exact WI.refl.set (k := id) (.inl (by simp))
 clear h1 h2
 obtain ⟨c1, hc1⟩ : ∃ c1, c1 = c + 1 := ⟨_, rfl⟩
 rw [← hc1]
 clear hc1
 have g1 : (id < n + 1) = True := eq_true (by omega)
 have g2 : (n = id) = False := eq_false (by omega)
 have g3 : (id < n) = True := eq_true (by omega)
 have g4 : (id = n) = False := eq_false (by omega)
 apply WP.loop' (I := fun D s => s = ⟨[(0, .osl id c 0 B0.length 1 none), (12, .full []), (13, dI 0), (14, dI 0)], hp1, n, c1, n, wl1⟩) (d := 0)
 ·rfl
 ·rintro D _ rfl
  have hBf : bs ++ strRow (w ++ nums [] ++ [10]) = B0 ++ [V.d (.int .u8 10)] := by rw [hB0]; simp [nums, strRow]
  have hfit2 : fitsB (B0.length + 1) 1 = true := by simp [fitsB]; omega
  refine wkcekt (jn @dI.eq_1 (jn @ti22 (jn @ti50 (jn @ti5 (jn @nble_d (jn @hfit2 (jn @z1 (jn @g1 (jn @g2 (jn @g3 (jn @g4 (jn @fillV.eq_1 (jn @fillV.eq_2 (jn @Value.oneCell'.eq_def (jn @z5_eq (jn @closeParts.eq_1 (jn @closeParts.eq_2 @cl2.eq_def))))))))))))))))) ?_
  show apQ _ _ _ _ _ _ _
  refine ⟨.inr rfl, _, c1 + 1, rfl, ?_, Nat.le_succ n, (w1.set (k := n) (.inr (by omega))).set (k := id) (.inl (by simp)), ?_⟩
  ·show V.osl id _ 0 (B0.length + 1) 1 none = _
   congr 1
   rw [hBf]; simp
  ·show (Hp.set _ _ _).get id = _
   rw [Hp.get_set_self, hBf]

set_option maxHeartbeats 8000000 in
theorem line15o (hid : id < n) (hget : hp.get id = some ⟨g, false, bs⟩) (hb : bs.length ≤ 4194304) (hwl : w.length ≤ 4194304) (hl : ∀ x ∈ l, NumOK x) (hll : l.length ≤ 20000) (hk : k < n) (hkid : k ≠ id) (hgk : hp.get k = some ⟨gk, false, cI l⟩) : ApK 15 [.osl id g 0 bs.length 1 none, dS w, .osl k gk 0 l.length 1 cp] hp n c id (bs ++ strRow (w ++ nums l ++ [10])) := by
 have f1 : (id < n) = True := eq_true hid
 have f2 : (n = id) = False := eq_false (by omega)
 have f3 : (id < n + 1) = True := eq_true (by omega)
 have hfit : fitsB (bs.length + w.length) 1 = true := by simp [fitsB]; omega
 refine ap_wp Tryz.func15 rfl (by kernel_rfl) rfl ?_
 have f4 : (k < n) = True := eq_true hk
 have f5 : (id = k) = False := eq_false (fun e => hkid e.symm)
 have f6 : (n = k) = False := eq_false (by omega)
 refine wkcekt (jn @envOf.eq_1 (jn @envOf.eq_2 (jn @dI.eq_1 (jn @dS.eq_1 (jn @dL.eq_1 (jn @ti50 (jn @ti9 (jn @ti22 (jn @nble_d (jn @hget (jn @hfit (jn @f1 (jn @f2 (jn @f3 (jn @hgk (jn @f4 (jn @f5 (jn @f6 @cI_len)))))))))))))))))) ?_
 apply WP.gen
 intro hp1 wl1 h1 h2
 obtain ⟨B0, hB0⟩ : ∃ B, B = bs ++ strRow w := ⟨_, rfl⟩
 have hB0l : B0.length = (bs.length + w.length) := by rw [hB0]; simp [strRow_len]
 rw [← hB0l]
 have z1 : hp1.get id = some ⟨c, false, B0⟩ := by rw [h1, Hp.get_set_self, hB0]; rfl
 have w1 : WI [id] n hp wl1 hp1 := by rw [h1, h2]; exact WI.refl.set (k := id) (.inl (by simp))
 have o1 : hp1.get k = some ⟨gk, false, cI l⟩ := by rw [h1, Hp.get_set_ne _ _ _ _ (fun e => hkid e.symm)]; exact hgk
 clear h1 h2
 obtain ⟨c1, hc1⟩ : ∃ c1, c1 = c + 1 := ⟨_, rfl⟩
 rw [← hc1]
 clear hc1
 have g1 : (id < n + 1) = True := eq_true (by omega)
 have g2 : (n = id) = False := eq_false (by omega)
 have g3 : (id < n) = True := eq_true (by omega)
 have g4 : (id = n) = False := eq_false (by omega)
 have g5 : (k < n + 1) = True := eq_true (by omega)
 have g6 : (n = k) = False := eq_false (by omega)
 have g7 : (id = k) = False := eq_false (fun e => hkid e.symm)
 have g8 : (k < n) = True := eq_true (by omega)
 apply WP.loop' (I := fun D s => ∃ (j gn : Nat) (B : List V) (hp2 : Hp) (c2 : Nat) (wl2 : List Nat), j + D = l.length ∧ B = B0 ++ strRow (nums (l.take j)) ∧ hp2.get id = some ⟨gn, false, B⟩ ∧ hp2.get k = some ⟨gk, false, cI l⟩ ∧ WI [id] n hp wl2 hp2 ∧
  s = ⟨[(0, .osl id gn 0 B.length 1 none), (12, .osl k gk 0 l.length 1 cp), (13, dI l.length), (14, dI j)], hp2, n, c2, n, wl2⟩) (d := l.length)
 ·exact ⟨0, c, B0, hp1, c1, wl1, by simp, by simp [nums, strRow], z1, o1, w1, by rfl⟩
 rintro D _ ⟨j, gn, B, hp2, c2, wl2, hj, hB, z2, o2, w2, rfl⟩
 have hBl : B.length ≤ 9000000 := by
  have := nums_len (l := l.take j) fun x hx => hl x (List.mem_of_mem_take hx)
  rw [hB, List.length_append, strRow_len, hB0l]
  have h4 : (l.take j).length ≤ 20000 := by simp; omega
  omega
 refine wkekt (@dI.eq_1) ?_
 show WP _ _ _ _ _ _
 refine WP.cond _ rfl (fun hb => ?_) (fun hb => ?_)
 ·simp at hb
  have hb' : j < l.length := by omega
  obtain ⟨x, hx⟩ : ∃ x, l[j]? = some x := ⟨l[j], by simp⟩
  have hxo := hl x (List.mem_of_getElem? hx)
  have hix := idx_lt hb'
  have hw := w_succ hb' (by omega)
  have hfit2 : fitsB (B.length + 1) 1 = true := by simp [fitsB]; omega
  obtain ⟨B1, hB1⟩ : ∃ B1, B1 = B ++ [V.d (.int .u8 32)] := ⟨_, rfl⟩
  have hB1l : B.length + 1 = B1.length := by rw [hB1]; simp
  rw [hB1l] at hfit2
  obtain ⟨r0, c3, hT1, hv, hn, hT2, hki, hfr, hz⟩ := (appI31 (hp := (hp2.set (n) ⟨c2, false, [V.d (.int .u8 32)]⟩).set id ⟨c2 + 1, false, B1⟩) (n := n + 1) (id := id) (c := c2 + 1 + 1) hxo (by omega) (Hp.get_set_self _ _ _) (by omega)).caller (by omega)
  simp only [dI] at hT1
  have hB1' := hB1.symm
  have hx2 : (cI l)[j]? = some (V.d (.int .i64 x)) := cI_at hx
  have hCt : List.take l.length (cI l) = cI l := by rw [← cI_len l, List.take_length]
  refine wkcekt (jn @dI.eq_1 (jn @hix (jn @hx2 (jn @cI_len (jn @o2 (jn @hCt (jn @z2 (jn @nble_d (jn @hfit2 (jn @hB1' (jn @hB1l (jn @hv (jn @ti22 (jn @ti50 (jn @ti5 (jn @ti2 (jn @g1 (jn @g2 (jn @g3 (jn @g4 (jn @g5 (jn @g6 (jn @g7 (jn @g8 (jn @fillV.eq_1 (jn @fillV.eq_2 (jn @Value.oneCell'.eq_def (jn @z5_eq (jn @closeParts.eq_1 (jn @closeParts.eq_2 @cl2.eq_def)))))))))))))))))))))))))))))) ?_
  refine loop_next (by simp [-addNew, hw]; exact Is.rfl) ?_
  obtain ⟨B2, hB2⟩ : ∃ B2, B2 = B1 ++ strRow (dg x) := ⟨_, rfl⟩
  have hB2l : B1.length + (dg x).length = B2.length := by rw [hB2, List.length_append, strRow_len]
  rw [← hB2] at hz
  rw [hB2l]
  refine ⟨D - 1, by omega, j + 1, c3, B2, _, _, _, by omega, ?_, ?_, ?_, (((w2.set (k := n) (.inr (by omega))).set (k := id) (.inl (by simp))).sets (wr := tWr r0 (n + 1)) fun p hp => ?_).trunc (m := n) (by omega), by rfl⟩
  ·rw [hB2, hB1, hB, List.take_add_one, hx]
   show _ = B0 ++ strRow (nums (List.take j l ++ [x]))
   rw [nums_snoc, strRow_app]
   simp [strRow]
  ·rw [Hp.get_trunc _ _ _ (by omega)]; exact hz
  ·rw [Hp.get_trunc _ _ _ (by omega), hfr k (by omega) hkid, Hp.get_set_ne _ _ _ _ (fun e => hkid e.symm), Hp.get_set_ne _ _ _ _ (by omega)]; exact o2
  ·have := hki p.1 (List.mem_map_of_mem hp)
   simp at this ⊢; omega
 ·simp at hb
  have hjL : j = l.length := by omega
  subst hjL
  rw [List.take_length] at hB
  have hBf : bs ++ strRow (w ++ nums l ++ [10]) = B ++ [V.d (.int .u8 10)] := by rw [hB, hB0]; simp [strRow]
  have hfit2 : fitsB (B.length + 1) 1 = true := by simp [fitsB]; omega
  refine wkcekt (jn @dI.eq_1 (jn @ti50 (jn @ti5 (jn @nble_d (jn @hfit2 (jn @z2 (jn @g1 (jn @g2 (jn @g3 (jn @g4 (jn @g5 (jn @g6 (jn @g7 (jn @g8 (jn @fillV.eq_1 (jn @fillV.eq_2 (jn @Value.oneCell'.eq_def (jn @z5_eq (jn @closeParts.eq_1 (jn @closeParts.eq_2 @cl2.eq_def)))))))))))))))))))) ?_
  show apQ _ _ _ _ _ _ _
  refine ⟨.inr rfl, _, c2 + 1, rfl, ?_, Nat.le_succ n, (w2.set (k := n) (.inr (by omega))).set (k := id) (.inl (by simp)), ?_⟩
  ·show V.osl id _ 0 (B.length + 1) 1 none = _
   congr 1
   rw [hBf]; simp
  ·show (Hp.set _ _ _).get id = _
   rw [Hp.get_set_self, hBf]

end
end Go.Ac
end
