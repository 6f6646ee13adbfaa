/- The reference's machine: one round over a routine's code, all operations but calls and resets. -/
import Derived.Test.YtofhhkkncaoneaaDoorAcBM
import Derived.Test.YtofhhkkncaoneaaDoorAcDM
import Derived.Test.YtofhhkkncaoneaaDoorAcGM
import Derived.Test.YtofhhkkncaoneaaDoorAcJM
import Derived.Test.YtofhhkkncaoneaaDoorAcMM
import Derived.Test.YtofhhkkncaoneaaDoorAcOM
import Derived.Test.YtofhhkkncaoneaaDoorAcSM
import Derived.Test.YtofhhkkncaoneaaDoorAcXM
import Derived.Test.YtofhhkkncaoneaaDoorAcUcM
import Derived.Test.YtofhhkkncaoneaaDoorAcThM
import Derived.Test.YtofhhkkncaoneaaDoorCpBM
import Derived.Test.YtofhhkkncaoneaaDoorCpD
import Derived.Test.YtofhhkkncaoneaaDoorCpE
import Derived.Test.YtofhhkkncaoneaaDoorCpIM
import Derived.Test.YtofhhkkncaoneaaDoorCrTM
import Derived.Test.YtofhhkkncaoneaaDoorCqFM
import Derived.Calls
import Derived.Orders
import Derived.Laws.World
import Derived.Laws.Sem
import Derived.Laws.Cells
import Derived.Laws.Append
import GoSem.ClaimData
import Derived.Laws.Tables
import Derived.Laws.Slices
import Derived.Laws.Strings
import Derived.Laws.Small
import Derived.KernelRfl
import Derived.Test.YtofhhkkncaoneaaDoorChecked
set_option linter.unusedVariables false
set_option linter.unusedSimpArgs false
section
set_option maxRecDepth 4000
set_option linter.unusedSimpArgs false
set_option linter.unusedVariables false
namespace Go.Ac
open Go.Proofs

theorem blockQ_nn {i : Nat} {Q : Ex → St → Prop} {t : St} (h : Q .normal t) : blockQ i Q .normal t := h
theorem rep_flat (m : Nat) (x : V) : (List.replicate m [x]).flatten = List.replicate m x := by
  induction m with
  | zero => rfl
  | succ m ih => simp [List.replicate_succ, ih]
theorem cI_rep (m : Nat) : List.replicate m (V.d (D.int .i64 0)) = cI (List.replicate m 0) := by unfold cI; simp [dI]
theorem cI_drop (l : List Int) (k : Nat) : List.drop k (cI l) = cI (l.drop k) := by unfold cI; simp
theorem cI_takeN (l : List Int) (k : Nat) : List.take k (cI l) = cI (l.take k) := by unfold cI; simp
theorem InV.rows {hp hp' : Hp} {n : Nat} {v : V} {ins : List Int} (h : InV hp n v ins) (hs : ∀ j, j < n → hp'.get j = hp.get j) : ∃ rx, rowsOf hp'.get 1 v = some (ins.length, cI ins, rx) := by
  rcases h with rfl | ⟨rid, rg, off, cap, l, h1, rfl, h2, h3, h4⟩
  · exact ⟨[], rowsI _ _⟩
  · refine ⟨[rid], ?_⟩
    rw [rowsOf_osl]
    have : live hp'.get rid rg = some ⟨rg, false, cI l⟩ := by simp [live, hs rid h1, h2]
    rw [this]
    have h5 : Nat.ble (off + ins.length * 1) (cI l).length = true := by rw [nble_d, cI_len]; simp; omega
    simp only [nbeq_self, h5]
    rw [cI_drop, cI_takeN, Nat.mul_one, h3]
theorem wrap_add (a b : Int) : IntKind.i64.wrap (IntKind.i64.wrap a + b) = IntKind.i64.wrap (a + b) := by
  simp [IntKind.wrap, IntKind.signed, IntKind.bits]
  omega
section
variable {im : Im} {hp : Hp} {n c idc gc mid mg kid kg base : Nat} {cap : Option Nat} {v : V} {ins mem : List Int} {y : Int} {k : Nat} {q : Rt}

set_option maxHeartbeats 4000000 in
theorem exec_ok {f : Nat} (hkf : k ≤ f) (hq : im.rs[k]? = some q) (hOk : OkM im.rs) (hE : ExecOK im f) (hil : ins.length = q.inn.length) (hql : q.code.length ≤ 900000)
    (hC : ∃ rest, CAt im hp idc gc rest) (hm : hp.get mid = some ⟨mg, false, cI mem⟩) (hk : hp.get kid = some ⟨kg, false, [dI (IntKind.i64.wrap y)]⟩) (d1 : mid ≠ kid) (d2 : idc ≠ mid) (d3 : idc ≠ kid) (q1 : idc < n) (q2 : mid < n) (q3 : kid < n) (hv : InV hp n v ins)
    (hbm : base + q.ini.length ≤ mem.length) (hml : mem.length ≤ 1000000) (hcap : (q.ini.length ≤ cap.getD q.ini.length) = True) :
    ExecAt hp n c idc gc mid mg kid kg base cap q v y (callM im.rs (f + 1) k base ins mem).1 (callM im.rs (f + 1) k base ins mem).2.1 (callM im.rs (f + 1) k base ins mem).2.2 := by
  have hr := hOk k q hq
  have hio := hr.io
  have hhi := hr.hi
  obtain ⟨R, hR⟩ : ∃ R : Nat, q.regs = R := ⟨q.regs.toNat, by omega⟩
  have hg : im.rs.getD k rtZ = q := by simp [List.getD, hq]
  have hcallM : callM im.rs (f + 1) k base ins mem = (((loopM im.rs (callM im.rs f) q base q.code.length 0 (ins ++ List.replicate (R - ins.length) 0) mem 0).1.drop q.inn.length).take q.out.length, (loopM im.rs (callM im.rs f) q base q.code.length 0 (ins ++ List.replicate (R - ins.length) 0) mem 0).2) := by
    simp only [callM, hg, hR, Int.toNat_natCast]
  have hfit : fitsB R 8 = true := by simp [fitsB]; omega
  have g1 : (0 ≤ (R : Int)) = True := by simp
  have g2 : ((R : Int) ≤ 9223372036854775807) = True := by simp; omega
  refine thr_wp Tryd.func29 rfl (by kernel_rfl) rfl ?_
  refine wkcenkt (And.intro @envOf.eq_1 (And.intro @envOf.eq_2 (And.intro @aR.eq_1 (And.intro @Rt.cells.eq_1 (And.intro @dI.eq_1 (And.intro @Hp.get_set (And.intro @cI_len (And.intro @nble_d (And.intro @hR (And.intro @hfit (And.intro @g1 (And.intro @g2 (And.intro @makeV.eq_def (And.intro @rep_flat (And.intro @cI_rep (And.intro @fillV.eq_1 (And.intro @fillV.eq_2 @Value.oneCell'.eq_def))))))))))))))))) ?_
  apply WP.gen
  intro hp1 wl1 hhp hwl
  have hwi : WI [mid, kid] n hp wl1 hp1 := by
    rw [hhp, hwl]
    exact ((((WI.refl.set (.inr (by omega))).set (.inr (by omega))).set (.inr (by omega))).set (.inr (by omega)))
  have hfr : ∀ j, j < n → hp1.get j = hp.get j := fun j hj => by
    rw [hhp]
    have f1 : ¬ n = j := by omega
    have f2 : ¬ n + 1 = j := by omega
    have f3 : ¬ n + 1 + 1 = j := by omega
    simp [Hp.get_set, f1, f2, f3]
  have z1 : (n + 1 + 1 = n) = False := by simp; omega
  have z2 : (n + 1 = n) = False := by simp
  have k0 : hp1.get n = some ⟨c, false, [V.d (D.str q.nm), V.d (D.slice (encI q.inn)), V.d (D.slice (encI q.out)), V.d (D.int IntKind.i64 ↑R), V.d (D.slice (encI q.ini)), V.d (D.slice (encC q.code))]⟩ := by rw [hhp]; simp [Hp.get_set, z1, z2]
  have k1 : hp1.get (n + 1) = some ⟨c + 1, false, cI (List.replicate R 0)⟩ := by rw [hhp]; simp [Hp.get_set, z1, z2]
  have k2 : hp1.get (n + 1 + 1) = some ⟨c + 1 + 1, false, [V.osl (n + 1) (c + 1) 0 R 1 (some R), V.osl mid mg base q.ini.length 1 cap, V.ptr kid kg 0]⟩ := by rw [hhp]; simp [Hp.get_set, z1, z2]
  obtain ⟨rx, hrows⟩ := hv.rows hfr
  obtain ⟨rest, ro, hC⟩ := hC
  have kc := (hfr idc q1).trans hC
  have km := (hfr mid q2).trans hm
  have kk := (hfr kid q3).trans hk
  clear hhp hwl
  have hmin : min ins.length R = ins.length := by omega
  have hcp : cI ins ++ List.drop ins.length (cI (List.replicate R 0)) = cI (ins ++ List.replicate (R - ins.length) 0) := by
    rw [cI_drop, List.drop_replicate, cI_app]
  have c4 : (n + 1 < n + 3) = True := by simp
  obtain ⟨regs0, hregs0⟩ : ∃ l, l = ins ++ List.replicate (R - ins.length) 0 := ⟨_, rfl⟩
  have hrl : regs0.length = R := by rw [hregs0]; simp; omega
  rw [← hregs0] at hcp hcallM
  refine wkcenkt (And.intro @dI.eq_1 (And.intro @k0 (And.intro @k1 (And.intro @k2 (And.intro @kc (And.intro @hrows (And.intro @hmin (And.intro @hcp (And.intro @copyV.eq_def (And.intro @cI_len (And.intro @nble_d (And.intro @cI_take @c4)))))))))))) ?_
  obtain ⟨L, hL⟩ : ∃ L, L = q.code.length := ⟨_, rfl⟩
  obtain ⟨T, hT⟩ : ∃ T, T = loopM im.rs (callM im.rs f) q base q.code.length 0 regs0 mem 0 := ⟨_, rfl⟩
  rw [← hT] at hcallM
  have hqr : q.regs.toNat = R := by omega
  rw [← hL] at hql
  apply WP.loop' (I := fun d s => ∃ (at_ d' : Nat) (regs mem' : List Int) (K : Nat) (hp' : Hp) (c' : Nat) (wl' : List Nat), at_ ≤ L ∧ L ≤ at_ + d' ∧ d = L - at_ ∧ T = loopM im.rs (callM im.rs f) q base d' at_ regs mem' K ∧ regs.length = R ∧ mem'.length = mem.length ∧
    hp'.get n = some ⟨c, false, [V.d (D.str q.nm), V.d (D.slice (encI q.inn)), V.d (D.slice (encI q.out)), V.d (D.int IntKind.i64 ↑R), V.d (D.slice (encI q.ini)), V.d (D.slice (encC q.code))]⟩ ∧ hp'.get (n + 1 + 1) = some ⟨c + 1 + 1, false, [V.osl (n + 1) (c + 1) 0 R 1 (some R), V.osl mid mg base q.ini.length 1 cap, V.ptr kid kg 0]⟩ ∧
    hp'.get idc = hp.get idc ∧ Mst hp' (n + 1) (c + 1) mid mg kid kg regs mem' (IntKind.i64.wrap (y + K)) ∧ WI [mid, kid] n hp wl' hp' ∧
    s = ⟨[(0, .ptr idc gc 0), (4, .ptr kid kg 0), (6, .ptr n c 0), (11, .ptr (n + 1 + 1) (c + 1 + 1) 0), (12, dI at_)], hp', n + 3, c', n, wl'⟩) (d := L)
  · have gs : ∀ o j, (hp1.set (n + 1) o).get j = if n + 1 = j then some o else hp1.get j := fun o j => Hp.get_set ..
    refine ⟨0, L, regs0, mem, 0, _, _, _, Nat.zero_le _, by simp, by simp, by rw [hT, hL], hrl, rfl, ?_, ?_, ?_, ⟨?_, ?_, ?_⟩, hwi.set (k := n + 1) (.inr (by omega)), by rfl⟩
    · rw [gs, if_neg (by omega), k0]
    · rw [gs, if_neg (by omega), k2]
    · rw [gs, if_neg (by omega), hfr idc q1]
    · rw [gs, if_pos rfl]
    · rw [gs, if_neg (by omega), km]
    · rw [gs, if_neg (by omega), kk]; simp
  clear hwi hfr k0 k1 k2 kc km kk hrows hv hcp hregs0
  rintro d _ ⟨at_, d', regs, mem', K, hp', c', wl', h1, h2, h3, h4, h5, h6, g0, g2, gcc, gM, gw, rfl⟩
  have gr := gM.r
  have gm := gM.m
  have gk := gM.k
  simp only [dI] at gk
  refine wkenkt (And.intro @dI.eq_1 (And.intro @g0 @g2)) ?_
  show WP _ _ _ _ _ _
  refine WP.cond _ rfl (fun hb => ?_) (fun hb => ?_)
  · simp at hb
    have hb' : at_ < q.code.length := hb
    obtain ⟨i, hi1, him, hix⟩ := at_lt hb'
    have hi2 := encC_at hi1
    have e1 : IntKind.i64.wrap (IntKind.i64.wrap (y + K) + 1) = IntKind.i64.wrap (y + ((K + 1 : Nat) : Int)) := by rw [wrap_add]; congr 1; push_cast; omega
    have c5 : (kid < n + 3) = True := by simp; omega
    refine wkcenkt (And.intro @dI.eq_1 (And.intro @g0 (And.intro @g2 (And.intro @gr (And.intro @gm (And.intro @gk (And.intro @e1 @c5))))))) ?_
    apply WP.gen
    intro hp2 wl2 hhp2 hwl2
    have gs : ∀ o j, (hp'.set kid o).get j = if kid = j then some o else hp'.get j := fun o j => Hp.get_set ..
    have w2 : WI [mid, kid] n hp wl2 hp2 := by rw [hhp2, hwl2]; exact gw.set (.inl (by simp))
    have x0 := g0
    have x2 := g2
    rw [← show hp2.get n = hp'.get n by rw [hhp2, gs, if_neg (by omega)]] at x0
    rw [← show hp2.get (n + 1 + 1) = hp'.get (n + 1 + 1) by rw [hhp2, gs, if_neg (by omega)]] at x2
    have xc : hp2.get idc = hp.get idc := by rw [hhp2, gs, if_neg (fun h => d3 h.symm), gcc]
    have xM : Mst hp2 (n + 1) (c + 1) mid mg kid kg regs mem' (IntKind.i64.wrap (y + ((K + 1 : Nat) : Int))) := ⟨by rw [hhp2, gs, if_neg (by omega), gr], by rw [hhp2, gs, if_neg (fun h => d1 h.symm), gm], by rw [hhp2, gs, if_pos rfl]; simp [dI]⟩
    clear hhp2 hwl2 g0 g2 gr gm gk gM gw gs
    have hAp : Ap (n + 3) idc (n + 1) mid kid := ⟨by omega, by omega, d1, by omega, d2, d3, by omega, by omega, by omega, by omega⟩
    have hcode := hr.code at_ i hi1
    rw [hqr, ← hL] at hcode
    have hcallok : CallOk im.rs f (callM im.rs f) := callM_ok hOk f
    have hst := step_any (c := c') (gc := gc) (base := base) (cap := cap) hAp xM (by omega) hcode hkf hE hcallok h5 ⟨rest, ro, xc.trans hC⟩ (by omega) (by omega) (by omega) hcap
    have hsok := stepM_ok (base := base) (mem := mem') hcode (fun j q' b i m hj => hcallok j q' b i m (by omega)) h5 (by omega) (by omega)
    have hls := loopM_step (f := callM im.rs f) (rs := im.rs) (base := base) hi1 regs mem' K (d' - 1)
    rw [show d' - 1 + 1 = d' by omega, ← h4] at hls
    obtain ⟨st, hsd⟩ : ∃ st, st = stepM im.rs (callM im.rs f) base at_ i regs mem' := ⟨_, rfl⟩
    rw [← hsd] at hst hsok hls
    unfold StepAt at hst
    obtain ⟨r0, hT1, hv, hn, hT2, hki, hfr2, hp3, hM2, hsame⟩ := hst.caller (by intro j hj; simp at hj; omega)
    simp only [aI, I.cells, List.map_cons, List.map_nil, h5] at hT1
    simp only [dI] at hv
    refine wkcenkt (And.intro @dI.eq_1 (And.intro @x0 (And.intro @x2 (And.intro @hix (And.intro @hi2 (And.intro @I.cells.eq_1 (And.intro @hv @hn))))))) ?_
    refine blockQ_nn ?_
    refine loop_next (by simp [-addNew]; exact Is.rfl) ?_
    have ht : ∀ j, j < n + 3 → (Hp.trunc (n + 3) (hp2.sets (tWr r0 (n + 3)))).get j = (hp2.sets (tWr r0 (n + 3))).get j := fun j hj => Hp.get_trunc _ _ _ hj
    refine ⟨L - st.1, by omega, st.1, d' - 1, st.2.1, st.2.2.1, K + 1 + st.2.2.2, _, _, _, hsok.2.2.2, by omega, rfl, hls, hsok.1, hsok.2.1.trans h6, ?_, ?_, ?_, ⟨?_, ?_, ?_⟩, (w2.sets (wr := tWr r0 (n + 3)) fun p hp => ?_).trunc (m := n + 3) (by omega), rfl⟩
    · rw [ht _ (by omega), hfr2 _ (by omega) (by simp; omega), x0]
    · rw [ht _ (by omega), hfr2 _ (by omega) (by simp; omega), x2]
    · rw [ht _ (by omega), hfr2 _ (by omega) (by simp; omega), xc]
    · rw [ht _ (by omega), hsame _ (by omega) (by rw [hM2.r]; rfl), hM2.r]
    · rw [ht _ (by omega), hsame _ (by omega) (by rw [hM2.m]; rfl), hM2.m]
    · rw [ht _ (by omega), hsame _ (by omega) (by rw [hM2.k]; rfl), hM2.k]
      have : y + ((K + 1 : Nat) : Int) + (st.2.2.2 : Int) = y + ((K + 1 + st.2.2.2 : Nat) : Int) := by push_cast; omega
      rw [this]
    · have := hki _ (List.mem_map.2 ⟨p, hp, rfl⟩)
      simp only [List.mem_cons, List.not_mem_nil, or_false] at this ⊢
      rcases this with h | h | h
      · exact .inr (by omega)
      · exact .inl (.inl h)
      · exact .inl (.inr h)
  · simp at hb
    have hdl : q.code.length ≤ at_ := by simpa [hL] using hb
    rw [loopM_end hdl] at h4
    rw [h4] at hcallM
    rw [hcallM]
    have hli : IntKind.i64.wrap ((q.inn.length : Int) + q.out.length) = ((q.inn.length + q.out.length : Nat) : Int) := by rw [w_id'] <;> omega
    have t1 : ((q.inn.length : Int) + q.out.length).toNat = q.inn.length + q.out.length := by omega
    have p1 : (0 ≤ (q.inn.length : Int) + q.out.length) = True := by simp; omega
    have l1 : (q.inn.length + q.out.length ≤ R) = True := by simp; omega
    have l2 : (q.inn.length ≤ q.inn.length + q.out.length) = True := by simp
    refine wkcenkt (And.intro @dI.eq_1 (And.intro @g0 (And.intro @g2 (And.intro @gr (And.intro @gm (And.intro @hli (And.intro @t1 (And.intro @p1 (And.intro @l1 (And.intro @l2 (And.intro @sliceV.eq_def (And.intro @bnd.eq_def (And.intro @h5 (And.intro @cI_len @nble_d)))))))))))))) ?_
    have hol : ((regs.drop q.inn.length).take q.out.length).length = q.out.length := by simp; omega
    have hcl := close_osl1 (look := (hp'.set (n + 3) ⟨c', false, List.take q.out.length (List.drop q.inn.length (cI regs))⟩).get) (id := n + 3) (g := c') (ro := false) (cs := List.take q.out.length (List.drop q.inn.length (cI regs))) (l := (regs.drop q.inn.length).take q.out.length) (cap := none) (Hp.get_set_self ..)
      (by rw [hol, cI_drop, cI_takeN, cI_takeN, List.take_take, Nat.min_self]) (by rw [hol, cI_drop, cI_takeN, cI_len, hol]; exact Nat.le_refl _)
    rw [hol] at hcl
    have ht : ∀ o j, j < n → (Hp.trunc n (hp'.set (n + 3) o)).get j = hp'.get j := fun o j hj => by rw [Hp.get_trunc _ _ _ hj, Hp.get_set_ne _ _ _ _ (by omega)]
    exact ⟨.inr rfl, _, [n + 3], rfl, hcl, by simp [nble_d], gw.set (k := n + 3) (.inr (by omega)), by rw [ht _ _ q2, gm], by rw [ht _ _ q3, gk]; rfl⟩
end
/-- All routines of an image that has passed the check are executed as the plain machine says. -/
theorem exec_all {im : Im} (hOk : OkM im.rs) (hcl : ∀ q ∈ im.rs, q.code.length ≤ 900000) : ∀ f, ExecOK im f
  | 0 => fun k q hk => by omega
  | f + 1 => fun k q hk hq hp n c idc gc mid mg kid kg base cap v ins mem y hC hm hkk d1 d2 d3 q1 q2 q3 hv hil hbm hml hcap =>
    exec_ok (by omega) hq hOk (exec_all hOk hcl f) hil (hcl q (List.mem_of_getElem? hq)) hC hm hkk d1 d2 d3 q1 q2 q3 hv hbm hml hcap
end Go.Ac
end

section
set_option maxRecDepth 4000
set_option linter.unusedSimpArgs false
set_option linter.unusedVariables false
namespace Go.Ac
open Go.Proofs

theorem wrap_add2 (a b : Int) : IntKind.i64.wrap (IntKind.i64.wrap a + IntKind.i64.wrap b) = IntKind.i64.wrap (a + b) := by
  simp [IntKind.wrap, IntKind.signed, IntKind.bits]
  omega
def insAt (ins : List Int) (R j : Nat) : List Int := ins.take j ++ List.replicate (R - j) 0
theorem insAt_len {ins : List Int} {R j : Nat} (h : j ≤ ins.length) (h' : ins.length ≤ R) : (insAt ins R j).length = R := by
  unfold insAt; simp; omega
theorem insAt_step {ins : List Int} {R j : Nat} {x : Int} (h : ins[j]? = some x) (h' : ins.length ≤ R) : (insAt ins R j).set j x = insAt ins R (j + 1) := by
  obtain ⟨hl, he⟩ := List.getElem?_eq_some_iff.1 h
  unfold insAt
  have h1 : (ins.take j).length = j := by simp; omega
  rw [List.set_append_right _ _ (by omega), h1, Nat.sub_self, show R - j = (R - (j + 1)) + 1 by omega, List.replicate_succ, List.set_cons_zero, List.take_add_one, h]
  simp
/-- What is known once the inputs have been copied. -/
def Copied (hp1 hp' : Hp) (n g : Nat) (regs : List Int) : Prop := hp'.get (n + 1) = some ⟨g, false, cI regs⟩ ∧ ∀ t, t < n + 2 → t ≠ n + 1 → hp'.get t = hp1.get t
section
variable {hp0 hp1 : Hp} {n idc gc g g0 c1 base R : Nat} {wl1 ids0 : List Nat} {ins : List Int}

set_option maxHeartbeats 1000000 in
theorem rcopy_dL  (hR : R ≤ 100000) (hil : ins.length ≤ R) (h1 : hp1.get (n + 1) = some ⟨g, false, cI (List.replicate R 0)⟩) (hw : WI ids0 n hp0 wl1 hp1) :
    WP Tryd.prog Cp.cfg 32 (inside Tryd.f32 0) ⟨[(0, .ptr idc gc 0), (2, dI base), (3, dL ins), (10, .ptr n g0 0), (11, .osl (n + 1) g 0 R 1 (some R)), (12, dI 0)], hp1, n + 2, c1, n, wl1⟩
      (fun e t => e = .exit 0 ∧ ∃ hp' c' wl', Copied hp1 hp' n g (insAt ins R ins.length) ∧ WI ids0 n hp0 wl' hp' ∧ t = ⟨[(0, .ptr idc gc 0), (2, dI base), (3, dL ins), (10, .ptr n g0 0), (11, .osl (n + 1) g 0 R 1 (some R)), (12, dI ins.length), (37, dB false)], hp', n + 2, c', n, wl'⟩) := by
  refine WP.loop' (I := fun d s => ∃ j : Nat, j + d = ins.length ∧ ∃ hp' c' wl', Copied hp1 hp' n g (insAt ins R j) ∧ WI ids0 n hp0 wl' hp' ∧ s = ⟨[(0, .ptr idc gc 0), (2, dI base), (3, dL ins), (10, .ptr n g0 0), (11, .osl (n + 1) g 0 R 1 (some R)), (12, dI j)], hp', n + 2, c', n, wl'⟩) (d := ins.length) ?_ ?_
  · exact ⟨0, by simp, hp1, c1, wl1, ⟨by rw [h1]; simp [insAt], fun _ _ _ => rfl⟩, hw, rfl⟩
  rintro d _ ⟨j, hj, hp', c', wl', ⟨a1, a2⟩, a3, rfl⟩
  refine wkek (And.intro @dI.eq_1 @dL.eq_1) ?_
  show WP _ _ _ _ _ _
  refine WP.cond _ rfl (fun hb => ?_) (fun hb => ?_)
  · simp at hb
    have hb' : j < ins.length := hb
    have hv := rgv_at hb'
    have hv2 := cI_at hv
    have hs := insAt_step hv hil
    have hlen := insAt_len (by omega : j ≤ ins.length) hil
    have jR : j < R := by omega
    have l1 : (j + 1 ≤ R) = True := by simp; omega
    have l2 : (n + 1 < n + 2) = True := by simp
    have hput := cI_put (l := insAt ins R j) (j := j) (by omega) (rgv ins j)
    rw [hs] at hput
    have hw2 := w_succ hb' (by omega)
    have hv3 := encI_at hv
    refine wkcek (And.intro @dI.eq_1 (And.intro (idx_lt hb') (And.intro (idx_lt jR) (And.intro @a1 (And.intro @hput (And.intro @cI_len (And.intro @nble_d (And.intro @hlen (And.intro @l1 (And.intro @l2 (And.intro @dL.eq_1 @hv3))))))))))) ?_
    refine loop_next (by simp [-addNew, hw2]; exact Is.rfl) ?_
    refine ⟨d - 1, by omega, j + 1, by omega, _, _, _, ⟨?_, fun t x1 x2 => ?_⟩, (a3.set (k := n + 1) (.inr (by omega))).trunc (m := n + 2) (by omega), by rfl⟩
    · rw [Hp.get_trunc _ _ _ (by omega), Hp.get_set_self]
    · rw [Hp.get_trunc _ _ _ (by omega), Hp.get_set_ne _ _ _ _ (by omega), a2 t x1 x2]
  · simp at hb
    have hje : j = ins.length := by omega
    subst hje
    refine wkek True.intro ?_
    exact ⟨rfl, hp', c', wl', ⟨a1, a2⟩, a3, by simp [dI, dB, dL]⟩

set_option maxHeartbeats 1000000 in
theorem rcopy_osl {rid rg off : Nat} {cap : Option Nat} {l : List Int} (hrid : rid < n) (hl : hp1.get rid = some ⟨rg, false, cI l⟩) (hins : (l.drop off).take ins.length = ins) (hol : off + ins.length ≤ l.length) (hR : R ≤ 100000) (hil : ins.length ≤ R) (h1 : hp1.get (n + 1) = some ⟨g, false, cI (List.replicate R 0)⟩) (hw : WI ids0 n hp0 wl1 hp1) :
    WP Tryd.prog Cp.cfg 32 (inside Tryd.f32 0) ⟨[(0, .ptr idc gc 0), (2, dI base), (3, .osl rid rg off ins.length 1 cap), (10, .ptr n g0 0), (11, .osl (n + 1) g 0 R 1 (some R)), (12, dI 0)], hp1, n + 2, c1, n, wl1⟩
      (fun e t => e = .exit 0 ∧ ∃ hp' c' wl', Copied hp1 hp' n g (insAt ins R ins.length) ∧ WI ids0 n hp0 wl' hp' ∧ t = ⟨[(0, .ptr idc gc 0), (2, dI base), (3, .osl rid rg off ins.length 1 cap), (10, .ptr n g0 0), (11, .osl (n + 1) g 0 R 1 (some R)), (12, dI ins.length), (37, dB false)], hp', n + 2, c', n, wl'⟩) := by
  refine WP.loop' (I := fun d s => ∃ j : Nat, j + d = ins.length ∧ ∃ hp' c' wl', Copied hp1 hp' n g (insAt ins R j) ∧ WI ids0 n hp0 wl' hp' ∧ s = ⟨[(0, .ptr idc gc 0), (2, dI base), (3, .osl rid rg off ins.length 1 cap), (10, .ptr n g0 0), (11, .osl (n + 1) g 0 R 1 (some R)), (12, dI j)], hp', n + 2, c', n, wl'⟩) (d := ins.length) ?_ ?_
  · exact ⟨0, by simp, hp1, c1, wl1, ⟨by rw [h1]; simp [insAt], fun _ _ _ => rfl⟩, hw, rfl⟩
  rintro d _ ⟨j, hj, hp', c', wl', ⟨a1, a2⟩, a3, rfl⟩
  have hl2 := (a2 rid (by omega) (by omega)).trans hl
  refine wkek (And.intro @dI.eq_1 @hl2) ?_
  show WP _ _ _ _ _ _
  refine WP.cond _ rfl (fun hb => ?_) (fun hb => ?_)
  · simp at hb
    have hb' : j < ins.length := hb
    have hv := rgv_at hb'
    have hv2 := cI_at hv
    have hs := insAt_step hv hil
    have hlen := insAt_len (by omega : j ≤ ins.length) hil
    have jR : j < R := by omega
    have l1 : (j + 1 ≤ R) = True := by simp; omega
    have l2 : (n + 1 < n + 2) = True := by simp
    have hput := cI_put (l := insAt ins R j) (j := j) (by omega) (rgv ins j)
    rw [hs] at hput
    have hw2 := w_succ hb' (by omega)
    have hlv : l[off + j]? = some (rgv ins j) := by
      rw [← hv]
      conv => rhs; rw [← hins]
      rw [List.getElem?_take, if_pos hb', List.getElem?_drop]
    have hv3 := cI_at hlv
    refine wkcek (And.intro @dI.eq_1 (And.intro (idx_lt hb') (And.intro (idx_lt jR) (And.intro @a1 (And.intro @hput (And.intro @cI_len (And.intro @nble_d (And.intro @hlen (And.intro @l1 (And.intro @l2 (And.intro @hl2 @hv3))))))))))) ?_
    refine loop_next (by simp [-addNew, hw2]; exact Is.rfl) ?_
    refine ⟨d - 1, by omega, j + 1, by omega, _, _, _, ⟨?_, fun t x1 x2 => ?_⟩, (a3.set (k := n + 1) (.inr (by omega))).trunc (m := n + 2) (by omega), by rfl⟩
    · rw [Hp.get_trunc _ _ _ (by omega), Hp.get_set_self]
    · rw [Hp.get_trunc _ _ _ (by omega), Hp.get_set_ne _ _ _ _ (by omega), a2 t x1 x2]
  · simp at hb
    have hje : j = ins.length := by omega
    subst hje
    refine wkek True.intro ?_
    exact ⟨rfl, hp', c', wl', ⟨a1, a2⟩, a3, by simp [dI, dB, dL]⟩

end
end Go.Ac
end

section
set_option maxRecDepth 4000
set_option linter.unusedSimpArgs false
set_option linter.unusedVariables false
namespace Go.Ac
open Go.Proofs

/-- What a call of the reference's machine comes to. -/
def RCallAt (hp : Hp) (n c idc gc mid mg : Nat) (k base : Nat) (v : V) (outs mem' : List Int) (K : Nat) : Prop :=
  Thr 32 [.ptr idc gc 0, dI k, dI base, v] hp n c (.tuple [dL outs, dI (IntKind.i64.wrap K)]) [mid] (fun hp' => hp'.get mid = some ⟨mg, false, cI mem'⟩)
/-- What lies where while a routine is executed. -/
structure RF (q : Rt) (hp0 hp' : Hp) (n g0 g idc mid mg : Nat) (R : Nat) (regs mem : List Int) : Prop where
  x : hp'.get n = some ⟨g0, false, [V.d (D.str q.nm), V.d (D.slice (encI q.inn)), V.d (D.slice (encI q.out)), V.d (D.int IntKind.i64 ↑R), V.d (D.slice (encI q.ini)), V.d (D.slice (encC q.code))]⟩
  r : hp'.get (n + 1) = some ⟨g, false, cI regs⟩
  c : hp'.get idc = hp0.get idc
  m : hp'.get mid = some ⟨mg, false, cI mem⟩
theorem RF.put {q : Rt} {hp0 hp' hp'' : Hp} {n g0 g idc mid mg R : Nat} {regs mem regs' mem' : List Int} (h : RF q hp0 hp' n g0 g idc mid mg R regs mem) (h1 : hp''.get n = hp'.get n) (h2 : hp''.get (n + 1) = some ⟨g, false, cI regs'⟩) (h3 : hp''.get idc = hp'.get idc) (h4 : hp''.get mid = some ⟨mg, false, cI mem'⟩) : RF q hp0 hp'' n g0 g idc mid mg R regs' mem' :=
  ⟨h1.trans h.x, h2, h3.trans h.c, h4⟩
theorem idx_add {a b l : Nat} (h : a + b < l) : idx ((a : Int) + (b : Int)) l = some (a + b) := by
  have := idx_lt h
  rwa [Int.natCast_add] at this
/-- Places that lie apart. -/
structure RpF (n idc mid : Nat) : Prop where
  a1 : (n + 2 = n) = False
  a2 : (n + 2 = n + 1) = False
  a3 : (n + 2 = idc) = False
  a4 : (n + 2 = mid) = False
  a5 : (n + 1 = n) = False
  a6 : (n + 1 = idc) = False
  a7 : (n + 1 = mid) = False
  a8 : (mid = n) = False
  a9 : (mid = n + 1) = False
  b1 : (mid = idc) = False
  b2 : (n + 2 + 1 = n) = False
  b3 : (n + 2 + 1 = n + 1) = False
  b4 : (n + 2 + 1 = n + 2) = False
  b5 : (n + 2 + 1 = idc) = False
  b6 : (n + 2 + 1 = mid) = False
  b7 : (mid = n + 2) = False
  c1 : (n + 1 < n + 2 + 1) = True
  c2 : (mid < n + 2 + 1) = True
  c3 : (n + 1 < n + 2 + 1 + 1) = True
  e1 : Nat.beq (n + 2 + 1) n = false
  e2 : Nat.beq (n + 2 + 1) (n + 1) = false
  e3 : Nat.beq (n + 2 + 1) (n + 2) = false
  e4 : Nat.beq (n + 2 + 1) idc = false
  e5 : Nat.beq (n + 2) idc = false
theorem rpF {n idc mid : Nat} (d2 : idc ≠ mid) (q1 : idc < n) (q2 : mid < n) : RpF n idc mid := by
  refine ⟨?_, ?_, ?_, ?_, ?_, ?_, ?_, ?_, ?_, ?_, ?_, ?_, ?_, ?_, ?_, ?_, ?_, ?_, ?_, nbeq_ne (by omega), nbeq_ne (by omega), nbeq_ne (by omega), nbeq_ne (by omega), nbeq_ne (by omega)⟩ <;> simp <;> omega

section
variable {im : Im} {q : Rt} {hp0 : Hp} {n idc gc g g0 mid mg base R M k : Nat} {cap : Option Nat} {last : V}

/-- What one round comes to. -/
def rQ (im : Im) (q : Rt) (hp0 : Hp) (n idc gc g g0 mid mg base R f : Nat) (K at_ : Nat) (i : I) (regs mem : List Int) (e : Ex) (t : St) : Prop :=
  e = .normal ∧ ∃ hp' c' wl', RF q hp0 hp' n g0 g idc mid mg R (stepM im.rs (callM im.rs f) base at_ i regs mem).2.1 (stepM im.rs (callM im.rs f) base at_ i regs mem).2.2.1 ∧ WI [mid] n hp0 wl' hp' ∧ ∃ n' tail, n + 2 ≤ n' ∧
    t = ⟨(0, .ptr idc gc 0) :: (2, dI base) :: (10, .ptr n g0 0) :: (11, .osl (n + 1) g 0 R 1 (some R)) :: (13, dI (IntKind.i64.wrap ((K + 1 + (stepM im.rs (callM im.rs f) base at_ i regs mem).2.2.2 : Nat) : Int))) :: (14, dI (stepM im.rs (callM im.rs f) base at_ i regs mem).1) :: tail, hp', n', c', n, wl'⟩
/-- One round. -/
def Round (im : Im) (q : Rt) (hp0 : Hp) (n idc gc g g0 mid mg base R f : Nat) (K at_ c' : Nat) (i : I) (regs mem : List Int) (hp' : Hp) (wl' : List Nat) : Prop :=
  WP Tryd.prog Cp.cfg 32 (inside Tryd.f32 3) ⟨[(0, .ptr idc gc 0), (2, dI base), (10, .ptr n g0 0), (11, .osl (n + 1) g 0 R 1 (some R)), (13, dI (IntKind.i64.wrap K)), (14, dI at_), (51, dB true)], hp', n + 2, c', n, wl'⟩ (rQ im q hp0 n idc gc g g0 mid mg base R f K at_ i regs mem)

set_option maxHeartbeats 4000000 in
theorem round_load {f K at_ c' : Nat} {regs mem : List Int} {hp' : Hp} {wl' : List Nat} {ro : Bool} (A : Nat) (b : Int) (hA : A < R) (hi : q.code[at_]? = some ⟨1, A, b, 0, 0⟩) (hat : at_ < 1000000) (h5 : regs.length = R) (d2 : idc ≠ mid) (q1 : idc < n) (q2 : mid < n) (hC : hp0.get idc = some ⟨gc, ro, [V.d (.slice (encI im.enums)), V.d (.slice (encR im.rs)), .osl mid mg 0 mem.length 1 cap, last]⟩) (hF : RF q hp0 hp' n g0 g idc mid mg R regs mem) (gw : WI [mid] n hp0 wl' hp') : Round im q hp0 n idc gc g g0 mid mg base R f K at_ c' ⟨1, A, b, 0, 0⟩ regs mem hp' wl' := by
  have hix := idx_lt (by obtain ⟨h, _⟩ := List.getElem?_eq_some_iff.1 hi; exact h : at_ < q.code.length)
  have hi2 := encC_at hi
  obtain ⟨a1, a2, a3, a4, a5, a6, a7, a8, a9, b1, b2, b3, b4, b5, b6, b7, c1, c2, c3, e1, e2, e3, e4, e5⟩ := rpF d2 q1 q2
  have hx := hF.x
  have hr := hF.r
  have hm := hF.m
  have hc := hF.c.trans hC
  have hw : IntKind.i64.wrap ((at_ : Int) + 1) = ((at_ + 1 : Nat) : Int) := by rw [w_id'] <;> omega
  have w1 : IntKind.i64.wrap (IntKind.i64.wrap K + 1) = IntKind.i64.wrap ((K + 1 : Nat) : Int) := by rw [wrap_add]; rfl
  have l1 : (A + 1 ≤ regs.length) = True := by simp; omega
  have hput := cI_put (l := regs) (j := A) (by omega) b
  have hst : stepM im.rs (callM im.rs f) base at_ ⟨1, A, b, 0, 0⟩ regs mem = (at_ + 1, regs.set A b, mem, 0) := by simp [stepM]
  unfold Round rQ
  rw [hst]
  refine wkcek (And.intro @dI.eq_1 (And.intro @dB.eq_1 (And.intro @Hp.get_set (And.intro @hx (And.intro @hr (And.intro @hm (And.intro @hc (And.intro @hix (And.intro @hi2 (And.intro @I.cells.eq_1 (And.intro @hw (And.intro @w1 (And.intro @a1 (And.intro @a2 (And.intro @a3 (And.intro @a4 (And.intro @a5 (And.intro @a6 (And.intro @a7 (And.intro @b2 (And.intro @b3 (And.intro @b4 (And.intro @b5 (And.intro @b6 (And.intro @cI_len (And.intro @nble_d (And.intro @c1 (And.intro @c2 (And.intro @c3 (And.intro (idx_lt hA) (And.intro @l1 @hput))))))))))))))))))))))))))))))) ?_
  refine blockQ_nn ?_
  refine ⟨rfl, _, _, _, ?_, ?_, _, _, ?_, by rfl⟩
  · exact hF.put (by simp [Hp.get_set, a1, a2, a3, a4, a5, a6, a7, a8, a9, b1, b2, b3, b4, b5, b6, b7, hr, hm]) (by simp [Hp.get_set, a1, a2, a3, a4, a5, a6, a7, a8, a9, b1, b2, b3, b4, b5, b6, b7, hr, hm]) (by simp [Hp.get_set, a1, a2, a3, a4, a5, a6, a7, a8, a9, b1, b2, b3, b4, b5, b6, b7, hr, hm]) (by simp [Hp.get_set, a1, a2, a3, a4, a5, a6, a7, a8, a9, b1, b2, b3, b4, b5, b6, b7, hr, hm])
  · exact (((gw.set (.inr (by omega))).set (.inr (by omega))).set (.inr (by omega)))
  · omega

set_option maxHeartbeats 4000000 in
theorem round_move {f K at_ c' : Nat} {regs mem : List Int} {hp' : Hp} {wl' : List Nat} {ro : Bool} (A B : Nat) (hA : A < R) (hB : B < R) (hi : q.code[at_]? = some ⟨2, A, B, 0, 0⟩) (hat : at_ < 1000000) (h5 : regs.length = R) (d2 : idc ≠ mid) (q1 : idc < n) (q2 : mid < n) (hC : hp0.get idc = some ⟨gc, ro, [V.d (.slice (encI im.enums)), V.d (.slice (encR im.rs)), .osl mid mg 0 mem.length 1 cap, last]⟩) (hF : RF q hp0 hp' n g0 g idc mid mg R regs mem) (gw : WI [mid] n hp0 wl' hp') : Round im q hp0 n idc gc g g0 mid mg base R f K at_ c' ⟨2, A, B, 0, 0⟩ regs mem hp' wl' := by
  have hix := idx_lt (by obtain ⟨h, _⟩ := List.getElem?_eq_some_iff.1 hi; exact h : at_ < q.code.length)
  have hi2 := encC_at hi
  obtain ⟨a1, a2, a3, a4, a5, a6, a7, a8, a9, b1, b2, b3, b4, b5, b6, b7, c1, c2, c3, e1, e2, e3, e4, e5⟩ := rpF d2 q1 q2
  have hx := hF.x
  have hr := hF.r
  have hm := hF.m
  have hc := hF.c.trans hC
  have hw : IntKind.i64.wrap ((at_ : Int) + 1) = ((at_ + 1 : Nat) : Int) := by rw [w_id'] <;> omega
  have w1 : IntKind.i64.wrap (IntKind.i64.wrap K + 1) = IntKind.i64.wrap ((K + 1 : Nat) : Int) := by rw [wrap_add]; rfl
  have l1 : (A + 1 ≤ regs.length) = True := by simp; omega
  have hput := cI_put (l := regs) (j := A) (by omega) (rgv regs B)
  have hb2 := cI_at (rgv_at (l := regs) (j := B) (by omega))
  have hst : stepM im.rs (callM im.rs f) base at_ ⟨2, A, B, 0, 0⟩ regs mem = (at_ + 1, regs.set A (rgv regs B), mem, 0) := by simp [stepM]
  unfold Round rQ
  rw [hst]
  refine wkcek (And.intro @dI.eq_1 (And.intro @dB.eq_1 (And.intro @Hp.get_set (And.intro @hx (And.intro @hr (And.intro @hm (And.intro @hc (And.intro @hix (And.intro @hi2 (And.intro @I.cells.eq_1 (And.intro @hw (And.intro @w1 (And.intro @a1 (And.intro @a2 (And.intro @a3 (And.intro @a4 (And.intro @a5 (And.intro @a6 (And.intro @a7 (And.intro @b2 (And.intro @b3 (And.intro @b4 (And.intro @b5 (And.intro @b6 (And.intro @cI_len (And.intro @nble_d (And.intro @c1 (And.intro @c2 (And.intro @c3 (And.intro (idx_lt hA) (And.intro (idx_lt hB) (And.intro @l1 (And.intro @hput @hb2))))))))))))))))))))))))))))))))) ?_
  refine blockQ_nn ?_
  refine ⟨rfl, _, _, _, ?_, ?_, _, _, ?_, by rfl⟩
  · exact hF.put (by simp [Hp.get_set, a1, a2, a3, a4, a5, a6, a7, a8, a9, b1, b2, b3, b4, b5, b6, b7, hr, hm]) (by simp [Hp.get_set, a1, a2, a3, a4, a5, a6, a7, a8, a9, b1, b2, b3, b4, b5, b6, b7, hr, hm]) (by simp [Hp.get_set, a1, a2, a3, a4, a5, a6, a7, a8, a9, b1, b2, b3, b4, b5, b6, b7, hr, hm]) (by simp [Hp.get_set, a1, a2, a3, a4, a5, a6, a7, a8, a9, b1, b2, b3, b4, b5, b6, b7, hr, hm])
  · exact (((gw.set (.inr (by omega))).set (.inr (by omega))).set (.inr (by omega)))
  · omega

set_option maxHeartbeats 4000000 in
theorem round_read {f K at_ c' : Nat} {regs mem : List Int} {hp' : Hp} {wl' : List Nat} {ro : Bool} (A B : Nat) (hA : A < R) (hB : base + B < mem.length) (hml : mem.length ≤ 1000000) (hi : q.code[at_]? = some ⟨3, A, B, 0, 0⟩) (hat : at_ < 1000000) (h5 : regs.length = R) (d2 : idc ≠ mid) (q1 : idc < n) (q2 : mid < n) (hC : hp0.get idc = some ⟨gc, ro, [V.d (.slice (encI im.enums)), V.d (.slice (encR im.rs)), .osl mid mg 0 mem.length 1 cap, last]⟩) (hF : RF q hp0 hp' n g0 g idc mid mg R regs mem) (gw : WI [mid] n hp0 wl' hp') : Round im q hp0 n idc gc g g0 mid mg base R f K at_ c' ⟨3, A, B, 0, 0⟩ regs mem hp' wl' := by
  have hix := idx_lt (by obtain ⟨h, _⟩ := List.getElem?_eq_some_iff.1 hi; exact h : at_ < q.code.length)
  have hi2 := encC_at hi
  obtain ⟨a1, a2, a3, a4, a5, a6, a7, a8, a9, b1, b2, b3, b4, b5, b6, b7, c1, c2, c3, e1, e2, e3, e4, e5⟩ := rpF d2 q1 q2
  have hx := hF.x
  have hr := hF.r
  have hm := hF.m
  have hc := hF.c.trans hC
  have hw : IntKind.i64.wrap ((at_ : Int) + 1) = ((at_ + 1 : Nat) : Int) := by rw [w_id'] <;> omega
  have w1 : IntKind.i64.wrap (IntKind.i64.wrap K + 1) = IntKind.i64.wrap ((K + 1 : Nat) : Int) := by rw [wrap_add]; rfl
  have l1 : (A + 1 ≤ regs.length) = True := by simp; omega
  have hput := cI_put (l := regs) (j := A) (by omega) (rgv mem (base + (B : Int)))
  have hb2 := cI_at (rgv_at (l := mem) (j := base + B) hB)
  rw [Int.natCast_add] at hb2
  have wb : IntKind.i64.wrap ((base : Int) + B) = (base : Int) + B := by rw [w_id'] <;> omega
  have hst : stepM im.rs (callM im.rs f) base at_ ⟨3, A, B, 0, 0⟩ regs mem = (at_ + 1, regs.set A (rgv mem (base + (B : Int))), mem, 0) := by simp [stepM]
  unfold Round rQ
  rw [hst]
  refine wkcek (And.intro @dI.eq_1 (And.intro @dB.eq_1 (And.intro @Hp.get_set (And.intro @hx (And.intro @hr (And.intro @hm (And.intro @hc (And.intro @hix (And.intro @hi2 (And.intro @I.cells.eq_1 (And.intro @hw (And.intro @w1 (And.intro @a1 (And.intro @a2 (And.intro @a3 (And.intro @a4 (And.intro @a5 (And.intro @a6 (And.intro @a7 (And.intro @b2 (And.intro @b3 (And.intro @b4 (And.intro @b5 (And.intro @b6 (And.intro @cI_len (And.intro @nble_d (And.intro @c1 (And.intro @c2 (And.intro @c3 (And.intro (idx_lt hA) (And.intro (idx_add hB) (And.intro @wb (And.intro @l1 (And.intro @hput @hb2)))))))))))))))))))))))))))))))))) ?_
  refine blockQ_nn ?_
  refine ⟨rfl, _, _, _, ?_, ?_, _, _, ?_, by rfl⟩
  · exact hF.put (by simp [Hp.get_set, a1, a2, a3, a4, a5, a6, a7, a8, a9, b1, b2, b3, b4, b5, b6, b7, hr, hm]) (by simp [Hp.get_set, a1, a2, a3, a4, a5, a6, a7, a8, a9, b1, b2, b3, b4, b5, b6, b7, hr, hm]) (by simp [Hp.get_set, a1, a2, a3, a4, a5, a6, a7, a8, a9, b1, b2, b3, b4, b5, b6, b7, hr, hm]) (by simp [Hp.get_set, a1, a2, a3, a4, a5, a6, a7, a8, a9, b1, b2, b3, b4, b5, b6, b7, hr, hm])
  · exact (((gw.set (.inr (by omega))).set (.inr (by omega))).set (.inr (by omega)))
  · omega

set_option maxHeartbeats 4000000 in
theorem round_write {f K at_ c' : Nat} {regs mem : List Int} {hp' : Hp} {wl' : List Nat} {ro : Bool} (A B : Nat) (hA : base + A < mem.length) (hB : B < R) (hml : mem.length ≤ 1000000) (hi : q.code[at_]? = some ⟨4, A, B, 0, 0⟩) (hat : at_ < 1000000) (h5 : regs.length = R) (d2 : idc ≠ mid) (q1 : idc < n) (q2 : mid < n) (hC : hp0.get idc = some ⟨gc, ro, [V.d (.slice (encI im.enums)), V.d (.slice (encR im.rs)), .osl mid mg 0 mem.length 1 cap, last]⟩) (hF : RF q hp0 hp' n g0 g idc mid mg R regs mem) (gw : WI [mid] n hp0 wl' hp') : Round im q hp0 n idc gc g g0 mid mg base R f K at_ c' ⟨4, A, B, 0, 0⟩ regs mem hp' wl' := by
  have hix := idx_lt (by obtain ⟨h, _⟩ := List.getElem?_eq_some_iff.1 hi; exact h : at_ < q.code.length)
  have hi2 := encC_at hi
  obtain ⟨a1, a2, a3, a4, a5, a6, a7, a8, a9, b1, b2, b3, b4, b5, b6, b7, c1, c2, c3, e1, e2, e3, e4, e5⟩ := rpF d2 q1 q2
  have hx := hF.x
  have hr := hF.r
  have hm := hF.m
  have hc := hF.c.trans hC
  have hw : IntKind.i64.wrap ((at_ : Int) + 1) = ((at_ + 1 : Nat) : Int) := by rw [w_id'] <;> omega
  have w1 : IntKind.i64.wrap (IntKind.i64.wrap K + 1) = IntKind.i64.wrap ((K + 1 : Nat) : Int) := by rw [wrap_add]; rfl
  have l1 : (base + A + 1 ≤ mem.length) = True := by simp; omega
  have hput := cI_put (l := mem) (j := base + A) (by omega) (rgv regs B)
  have hb2 := cI_at (rgv_at (l := regs) (j := B) (by omega))
  have wb : IntKind.i64.wrap ((base : Int) + A) = (base : Int) + A := by rw [w_id'] <;> omega
  have hst : stepM im.rs (callM im.rs f) base at_ ⟨4, A, B, 0, 0⟩ regs mem = (at_ + 1, regs, mem.set (base + A) (rgv regs B), 0) := by simp [stepM]
  unfold Round rQ
  rw [hst]
  refine wkcek (And.intro @dI.eq_1 (And.intro @dB.eq_1 (And.intro @Hp.get_set (And.intro @hx (And.intro @hr (And.intro @hm (And.intro @hc (And.intro @hix (And.intro @hi2 (And.intro @I.cells.eq_1 (And.intro @hw (And.intro @w1 (And.intro @a1 (And.intro @a2 (And.intro @a3 (And.intro @a4 (And.intro @a5 (And.intro @a6 (And.intro @a7 (And.intro @b2 (And.intro @b3 (And.intro @b4 (And.intro @b5 (And.intro @b6 (And.intro @cI_len (And.intro @nble_d (And.intro @c1 (And.intro @c2 (And.intro @c3 (And.intro (idx_add hA) (And.intro (idx_lt hB) (And.intro @wb (And.intro @l1 (And.intro @hput @hb2)))))))))))))))))))))))))))))))))) ?_
  refine blockQ_nn ?_
  refine ⟨rfl, _, _, _, ?_, ?_, _, _, ?_, by rfl⟩
  · exact hF.put (by simp [Hp.get_set, a1, a2, a3, a4, a5, a6, a7, a8, a9, b1, b2, b3, b4, b5, b6, b7, hr, hm]) (by simp [Hp.get_set, a1, a2, a3, a4, a5, a6, a7, a8, a9, b1, b2, b3, b4, b5, b6, b7, hr, hm]) (by simp [Hp.get_set, a1, a2, a3, a4, a5, a6, a7, a8, a9, b1, b2, b3, b4, b5, b6, b7, hr, hm]) (by simp [Hp.get_set, a1, a2, a3, a4, a5, a6, a7, a8, a9, b1, b2, b3, b4, b5, b6, b7, hr, hm])
  · exact (((gw.set (.inr (by omega))).set (.inr (by omega))).set (.inl (by simp)))
  · omega

set_option maxHeartbeats 4000000 in
theorem round_jump {f K at_ c' : Nat} {regs mem : List Int} {hp' : Hp} {wl' : List Nat} {ro : Bool} (B : Nat) (hi : q.code[at_]? = some ⟨7, 0, B, 0, 0⟩) (hat : at_ < 1000000) (h5 : regs.length = R) (d2 : idc ≠ mid) (q1 : idc < n) (q2 : mid < n) (hC : hp0.get idc = some ⟨gc, ro, [V.d (.slice (encI im.enums)), V.d (.slice (encR im.rs)), .osl mid mg 0 mem.length 1 cap, last]⟩) (hF : RF q hp0 hp' n g0 g idc mid mg R regs mem) (gw : WI [mid] n hp0 wl' hp') : Round im q hp0 n idc gc g g0 mid mg base R f K at_ c' ⟨7, 0, B, 0, 0⟩ regs mem hp' wl' := by
  have hix := idx_lt (by obtain ⟨h, _⟩ := List.getElem?_eq_some_iff.1 hi; exact h : at_ < q.code.length)
  have hi2 := encC_at hi
  obtain ⟨a1, a2, a3, a4, a5, a6, a7, a8, a9, b1, b2, b3, b4, b5, b6, b7, c1, c2, c3, e1, e2, e3, e4, e5⟩ := rpF d2 q1 q2
  have hx := hF.x
  have hr := hF.r
  have hm := hF.m
  have hc := hF.c.trans hC
  have hw : IntKind.i64.wrap ((at_ : Int) + 1) = ((at_ + 1 : Nat) : Int) := by rw [w_id'] <;> omega
  have w1 : IntKind.i64.wrap (IntKind.i64.wrap K + 1) = IntKind.i64.wrap ((K + 1 : Nat) : Int) := by rw [wrap_add]; rfl
  have hst : stepM im.rs (callM im.rs f) base at_ ⟨7, 0, B, 0, 0⟩ regs mem = (B, regs, mem, 0) := by simp [stepM]
  unfold Round rQ
  rw [hst]
  refine wkcek (And.intro @dI.eq_1 (And.intro @dB.eq_1 (And.intro @Hp.get_set (And.intro @hx (And.intro @hr (And.intro @hm (And.intro @hc (And.intro @hix (And.intro @hi2 (And.intro @I.cells.eq_1 (And.intro @hw (And.intro @w1 (And.intro @a1 (And.intro @a2 (And.intro @a3 (And.intro @a4 (And.intro @a5 (And.intro @a6 (And.intro @a7 (And.intro @b2 (And.intro @b3 (And.intro @b4 (And.intro @b5 (And.intro @b6 (And.intro @cI_len (And.intro @nble_d (And.intro @c1 (And.intro @c2 @c3)))))))))))))))))))))))))))) ?_
  refine blockQ_nn ?_
  refine ⟨rfl, _, _, _, ?_, ?_, _, _, ?_, by rfl⟩
  · exact hF.put (by simp [Hp.get_set, a1, a2, a3, a4, a5, a6, a7, a8, a9, b1, b2, b3, b4, b5, b6, b7, hr, hm]) (by simp [Hp.get_set, a1, a2, a3, a4, a5, a6, a7, a8, a9, b1, b2, b3, b4, b5, b6, b7, hr, hm]) (by simp [Hp.get_set, a1, a2, a3, a4, a5, a6, a7, a8, a9, b1, b2, b3, b4, b5, b6, b7, hr, hm]) (by simp [Hp.get_set, a1, a2, a3, a4, a5, a6, a7, a8, a9, b1, b2, b3, b4, b5, b6, b7, hr, hm])
  · exact ((gw.set (.inr (by omega))).set (.inr (by omega)))
  · omega

set_option maxHeartbeats 4000000 in
theorem round_zero {f K at_ c' : Nat} {regs mem : List Int} {hp' : Hp} {wl' : List Nat} {ro : Bool} (A B : Nat) (hA : A < R) (hi : q.code[at_]? = some ⟨8, A, B, 0, 0⟩) (hat : at_ < 1000000) (h5 : regs.length = R) (d2 : idc ≠ mid) (q1 : idc < n) (q2 : mid < n) (hC : hp0.get idc = some ⟨gc, ro, [V.d (.slice (encI im.enums)), V.d (.slice (encR im.rs)), .osl mid mg 0 mem.length 1 cap, last]⟩) (hF : RF q hp0 hp' n g0 g idc mid mg R regs mem) (gw : WI [mid] n hp0 wl' hp') : Round im q hp0 n idc gc g g0 mid mg base R f K at_ c' ⟨8, A, B, 0, 0⟩ regs mem hp' wl' := by
  have hix := idx_lt (by obtain ⟨h, _⟩ := List.getElem?_eq_some_iff.1 hi; exact h : at_ < q.code.length)
  have hi2 := encC_at hi
  obtain ⟨a1, a2, a3, a4, a5, a6, a7, a8, a9, b1, b2, b3, b4, b5, b6, b7, c1, c2, c3, e1, e2, e3, e4, e5⟩ := rpF d2 q1 q2
  have hx := hF.x
  have hr := hF.r
  have hm := hF.m
  have hc := hF.c.trans hC
  have hw : IntKind.i64.wrap ((at_ : Int) + 1) = ((at_ + 1 : Nat) : Int) := by rw [w_id'] <;> omega
  have w1 : IntKind.i64.wrap (IntKind.i64.wrap K + 1) = IntKind.i64.wrap ((K + 1 : Nat) : Int) := by rw [wrap_add]; rfl
  have hb2 := cI_at (rgv_at (l := regs) (j := A) (by omega))
  have hst : stepM im.rs (callM im.rs f) base at_ ⟨8, A, B, 0, 0⟩ regs mem = (if rgv regs A = 0 then B else at_ + 1, regs, mem, 0) := by simp [stepM]
  unfold Round rQ
  rw [hst]
  by_cases hz : rgv regs A = 0
  · rw [if_pos hz]
    refine wkcek (And.intro @dI.eq_1 (And.intro @dB.eq_1 (And.intro @Hp.get_set (And.intro @hx (And.intro @hr (And.intro @hm (And.intro @hc (And.intro @hix (And.intro @hi2 (And.intro @I.cells.eq_1 (And.intro @hw (And.intro @w1 (And.intro @a1 (And.intro @a2 (And.intro @a3 (And.intro @a4 (And.intro @a5 (And.intro @a6 (And.intro @a7 (And.intro @b2 (And.intro @b3 (And.intro @b4 (And.intro @b5 (And.intro @b6 (And.intro @cI_len (And.intro @nble_d (And.intro @c1 (And.intro @c2 (And.intro @c3 (And.intro (idx_lt hA) (And.intro @hb2 @hz))))))))))))))))))))))))))))))) ?_
    refine blockQ_nn ?_
    refine ⟨rfl, _, _, _, ?_, ?_, _, _, ?_, by rfl⟩
    · exact hF.put (by simp [Hp.get_set, a1, a2, a3, a4, a5, a6, a7, a8, a9, b1, b2, b3, b4, b5, b6, b7, hr, hm]) (by simp [Hp.get_set, a1, a2, a3, a4, a5, a6, a7, a8, a9, b1, b2, b3, b4, b5, b6, b7, hr, hm]) (by simp [Hp.get_set, a1, a2, a3, a4, a5, a6, a7, a8, a9, b1, b2, b3, b4, b5, b6, b7, hr, hm]) (by simp [Hp.get_set, a1, a2, a3, a4, a5, a6, a7, a8, a9, b1, b2, b3, b4, b5, b6, b7, hr, hm])
    · exact ((gw.set (.inr (by omega))).set (.inr (by omega)))
    · omega
  · rw [if_neg hz]
    refine wkcek (And.intro @dI.eq_1 (And.intro @dB.eq_1 (And.intro @Hp.get_set (And.intro @hx (And.intro @hr (And.intro @hm (And.intro @hc (And.intro @hix (And.intro @hi2 (And.intro @I.cells.eq_1 (And.intro @hw (And.intro @w1 (And.intro @a1 (And.intro @a2 (And.intro @a3 (And.intro @a4 (And.intro @a5 (And.intro @a6 (And.intro @a7 (And.intro @b2 (And.intro @b3 (And.intro @b4 (And.intro @b5 (And.intro @b6 (And.intro @cI_len (And.intro @nble_d (And.intro @c1 (And.intro @c2 (And.intro @c3 (And.intro (idx_lt hA) (And.intro @hb2 (And.intro @hz @int_beq)))))))))))))))))))))))))))))))) ?_
    refine blockQ_nn ?_
    refine ⟨rfl, _, _, _, ?_, ?_, _, _, ?_, by rfl⟩
    · exact hF.put (by simp [Hp.get_set, a1, a2, a3, a4, a5, a6, a7, a8, a9, b1, b2, b3, b4, b5, b6, b7, hr, hm]) (by simp [Hp.get_set, a1, a2, a3, a4, a5, a6, a7, a8, a9, b1, b2, b3, b4, b5, b6, b7, hr, hm]) (by simp [Hp.get_set, a1, a2, a3, a4, a5, a6, a7, a8, a9, b1, b2, b3, b4, b5, b6, b7, hr, hm]) (by simp [Hp.get_set, a1, a2, a3, a4, a5, a6, a7, a8, a9, b1, b2, b3, b4, b5, b6, b7, hr, hm])
    · exact ((gw.set (.inr (by omega))).set (.inr (by omega)))
    · omega

set_option maxHeartbeats 4000000 in
theorem round_unary {f K at_ c' : Nat} {regs mem : List Int} {hp' : Hp} {wl' : List Nat} {ro : Bool} (A B : Nat) (d : Int) (hA : A < R) (hB : B < R) (h4 : d = 1 ∨ d = 2) (hi : q.code[at_]? = some ⟨5, A, B, d, 0⟩) (hat : at_ < 1000000) (h5 : regs.length = R) (d2 : idc ≠ mid) (q1 : idc < n) (q2 : mid < n) (hC : hp0.get idc = some ⟨gc, ro, [V.d (.slice (encI im.enums)), V.d (.slice (encR im.rs)), .osl mid mg 0 mem.length 1 cap, last]⟩) (hF : RF q hp0 hp' n g0 g idc mid mg R regs mem) (gw : WI [mid] n hp0 wl' hp') : Round im q hp0 n idc gc g g0 mid mg base R f K at_ c' ⟨5, A, B, d, 0⟩ regs mem hp' wl' := by
  have hix := idx_lt (by obtain ⟨h, _⟩ := List.getElem?_eq_some_iff.1 hi; exact h : at_ < q.code.length)
  have hi2 := encC_at hi
  obtain ⟨a1, a2, a3, a4, a5, a6, a7, a8, a9, b1, b2, b3, b4, b5, b6, b7, c1, c2, c3, e1, e2, e3, e4, e5⟩ := rpF d2 q1 q2
  have hx := hF.x
  have hr := hF.r
  have hm := hF.m
  have hc := hF.c.trans hC
  have hw : IntKind.i64.wrap ((at_ : Int) + 1) = ((at_ + 1 : Nat) : Int) := by rw [w_id'] <;> omega
  have w1 : IntKind.i64.wrap (IntKind.i64.wrap K + 1) = IntKind.i64.wrap ((K + 1 : Nat) : Int) := by rw [wrap_add]; rfl
  have l1 : (A + 1 ≤ regs.length) = True := by simp; omega
  have hput := cI_put (l := regs) (j := A) (by omega) (apR d [rgv regs B])
  have hb2 := cI_at (rgv_at (l := regs) (j := B) (by omega))
  have hd := rmapply_den d (by rcases h4 with rfl | rfl <;> simp [IsOp]) [rgv regs B] (by rcases h4 with rfl | rfl <;> rfl)
  simp only [dI, dL, encI, ni, List.map_cons, List.map_nil] at hd
  have hst : stepM im.rs (callM im.rs f) base at_ ⟨5, A, B, d, 0⟩ regs mem = (at_ + 1, regs.set A (apR d [rgv regs B]), mem, 0) := by simp [stepM]
  unfold Round rQ
  rw [hst]
  repeat (first
 | apply WP.seq
 | (apply WP.reg; (case hR => dsimp only [prepL, prepO, List.map, gS, gZ]; exact iZ); (case hr => (repeat (first
 | (apply RT.op; simp [dI, dB, -addNew, Hp.get_set, hx, hr, hm, hc, hix, hi2, I.cells, hw, w1, a1, a2, a3, a4, a5, a6, a7, b2, b3, b4, b5, b6, cI_len, nble_d, c1, c2, c3, idx_lt hA, idx_lt hB, l1, hput, hb2, hd, toD_dep, toDs, chunk, closeParts, cl2, fillV]; exact iZ; (try dsimp only [putEnv]) <;> exact rfl)
 | (apply RT.call; (iterate 2 simp; exact iZ); exact iZ; (iterate 4 simp [dI, dB, -addNew, Hp.get_set, hx, hr, hm, hc, hix, hi2, I.cells, hw, w1, a1, a2, a3, a4, a5, a6, a7, b2, b3, b4, b5, b6, cI_len, nble_d, c1, c2, c3, idx_lt hA, idx_lt hB, l1, hput, hb2, hd, toD_dep, toDs, chunk, closeParts, cl2, fillV]; exact iZ); simp [Is]; (try dsimp only [putEnv]) <;> exact rfl; simp; exact iZ; exact iZ)
 | (apply RT.wr; simp [dI, dB, -addNew, Hp.get_set, hx, hr, hm, hc, hix, hi2, I.cells, hw, w1, a1, a2, a3, a4, a5, a6, a7, b2, b3, b4, b5, b6, cI_len, nble_d, c1, c2, c3, idx_lt hA, idx_lt hB, l1, hput, hb2, hd, toD_dep, toDs, chunk, closeParts, cl2, fillV]; exact iZ; (try dsimp only [putEnv]) <;> exact rfl; simp [dI, dB, -addNew, Hp.get_set, hx, hr, hm, hc, hix, hi2, I.cells, hw, w1, a1, a2, a3, a4, a5, a6, a7, b2, b3, b4, b5, b6, cI_len, nble_d, c1, c2, c3, idx_lt hA, idx_lt hB, l1, hput, hb2, hd, toD_dep, toDs, chunk, closeParts, cl2, fillV]; exact iZ; (iterate 2 exact iZ); exact iZ))); exact RT.nil); (case hc => first | (refine checkR_un [(0, 1), (0, 2), (0, 3), (1, 3), (2, 3), (0, 4), (1, 4), (2, 4), (0, 5), (1, 5), (2, 5), (3, 5), (4, 5), (0, 6), (1, 6), (2, 6), (3, 6), (4, 6), (5, 6), (0, 7), (1, 7), (2, 7), (3, 7), (4, 7), (5, 7), (0, 8), (1, 8), (2, 8), (3, 8), (4, 8), (0, 9), (1, 9), (2, 9), (3, 9), (4, 9), (0, 10), (1, 10), (2, 10), (3, 10), (4, 10), (0, 11), (1, 11), (2, 11)] (by kernel_rfl) (by kernel_rfl) rfl ?_; simp [memA, disj, e1, e2, e3, e4]; done) | (show _ = _; kernel_rfl)); (case ht => simp [dI, dB, -addNew, Hp.get_set, hx, hr, hm, hc, hix, hi2, I.cells, hw, w1, a1, a2, a3, a4, a5, a6, a7, b2, b3, b4, b5, b6, cI_len, nble_d, c1, c2, c3, idx_lt hA, idx_lt hB, l1, hput, hb2, hd, toD_dep, toDs, chunk, closeParts, cl2, fillV]; exact iZ))
 | apply WP.block | apply WP.skip | apply WP.exit | apply WP.ret | refine WP.condT rfl ?_ | refine WP.condF rfl ?_)
  refine blockQ_nn ?_
  refine ⟨rfl, _, _, _, ?_, ?_, _, _, ?_, by rfl⟩
  · exact hF.put (by simp [Hp.get_set, a1, a2, a3, a4, a5, a6, a7, a8, a9, b1, b2, b3, b4, b5, b6, b7, hr, hm]) (by simp [Hp.get_set, a1, a2, a3, a4, a5, a6, a7, a8, a9, b1, b2, b3, b4, b5, b6, b7, hr, hm]) (by simp [Hp.get_set, a1, a2, a3, a4, a5, a6, a7, a8, a9, b1, b2, b3, b4, b5, b6, b7, hr, hm]) (by simp [Hp.get_set, a1, a2, a3, a4, a5, a6, a7, a8, a9, b1, b2, b3, b4, b5, b6, b7, hr, hm])
  · exact ((((gw.set (.inr (by omega))).set (.inr (by omega))).set (.inr (by omega))).set (.inr (by omega)))
  · omega

set_option maxHeartbeats 4000000 in
theorem round_apply {f K at_ c' : Nat} {regs mem : List Int} {hp' : Hp} {wl' : List Nat} {ro : Bool} (A B C : Nat) (d : Int) (hA : A < R) (hB : B < R) (hCr : C < R) (h4 : 3 ≤ d) (h6 : d ≤ 16) (hi : q.code[at_]? = some ⟨6, A, B, C, d⟩) (hat : at_ < 1000000) (h5 : regs.length = R) (d2 : idc ≠ mid) (q1 : idc < n) (q2 : mid < n) (hC : hp0.get idc = some ⟨gc, ro, [V.d (.slice (encI im.enums)), V.d (.slice (encR im.rs)), .osl mid mg 0 mem.length 1 cap, last]⟩) (hF : RF q hp0 hp' n g0 g idc mid mg R regs mem) (gw : WI [mid] n hp0 wl' hp') : Round im q hp0 n idc gc g g0 mid mg base R f K at_ c' ⟨6, A, B, C, d⟩ regs mem hp' wl' := by
  have hix := idx_lt (by obtain ⟨h, _⟩ := List.getElem?_eq_some_iff.1 hi; exact h : at_ < q.code.length)
  have hi2 := encC_at hi
  obtain ⟨a1, a2, a3, a4, a5, a6, a7, a8, a9, b1, b2, b3, b4, b5, b6, b7, c1, c2, c3, e1, e2, e3, e4, e5⟩ := rpF d2 q1 q2
  have hx := hF.x
  have hr := hF.r
  have hm := hF.m
  have hc := hF.c.trans hC
  have hw : IntKind.i64.wrap ((at_ : Int) + 1) = ((at_ + 1 : Nat) : Int) := by rw [w_id'] <;> omega
  have w1 : IntKind.i64.wrap (IntKind.i64.wrap K + 1) = IntKind.i64.wrap ((K + 1 : Nat) : Int) := by rw [wrap_add]; rfl
  have l1 : (A + 1 ≤ regs.length) = True := by simp; omega
  have hput := cI_put (l := regs) (j := A) (by omega) (apR d [rgv regs B, rgv regs C])
  have hb2 := cI_at (rgv_at (l := regs) (j := B) (by omega))
  have hb3 := cI_at (rgv_at (l := regs) (j := C) (by omega))
  have hd := rmapply_den d (isOp_of (by omega) h6) [rgv regs B, rgv regs C] (by unfold ar; rw [if_neg (by omega)]; rfl)
  simp only [dI, dL, encI, ni, List.map_cons, List.map_nil] at hd
  have hst : stepM im.rs (callM im.rs f) base at_ ⟨6, A, B, C, d⟩ regs mem = (at_ + 1, regs.set A (apR d [rgv regs B, rgv regs C]), mem, 0) := by simp [stepM]
  unfold Round rQ
  rw [hst]
  repeat (first
 | apply WP.seq
 | (apply WP.reg; (case hR => dsimp only [prepL, prepO, List.map, gS, gZ]; exact iZ); (case hr => (repeat (first
 | (apply RT.op; simp [dI, dB, -addNew, Hp.get_set, hx, hr, hm, hc, hix, hi2, I.cells, hw, w1, a1, a2, a3, a4, a5, a6, a7, b2, b3, b4, b5, b6, cI_len, nble_d, c1, c2, c3, idx_lt hA, idx_lt hB, idx_lt hCr, l1, hput, hb2, hb3, hd, toD_dep, toDs, chunk, closeParts, cl2, fillV]; exact iZ; (try dsimp only [putEnv]) <;> exact rfl)
 | (apply RT.call; (iterate 2 simp; exact iZ); exact iZ; (iterate 4 simp [dI, dB, -addNew, Hp.get_set, hx, hr, hm, hc, hix, hi2, I.cells, hw, w1, a1, a2, a3, a4, a5, a6, a7, b2, b3, b4, b5, b6, cI_len, nble_d, c1, c2, c3, idx_lt hA, idx_lt hB, idx_lt hCr, l1, hput, hb2, hb3, hd, toD_dep, toDs, chunk, closeParts, cl2, fillV]; exact iZ); simp [Is]; (try dsimp only [putEnv]) <;> exact rfl; simp; exact iZ; exact iZ)
 | (apply RT.wr; simp [dI, dB, -addNew, Hp.get_set, hx, hr, hm, hc, hix, hi2, I.cells, hw, w1, a1, a2, a3, a4, a5, a6, a7, b2, b3, b4, b5, b6, cI_len, nble_d, c1, c2, c3, idx_lt hA, idx_lt hB, idx_lt hCr, l1, hput, hb2, hb3, hd, toD_dep, toDs, chunk, closeParts, cl2, fillV]; exact iZ; (try dsimp only [putEnv]) <;> exact rfl; simp [dI, dB, -addNew, Hp.get_set, hx, hr, hm, hc, hix, hi2, I.cells, hw, w1, a1, a2, a3, a4, a5, a6, a7, b2, b3, b4, b5, b6, cI_len, nble_d, c1, c2, c3, idx_lt hA, idx_lt hB, idx_lt hCr, l1, hput, hb2, hb3, hd, toD_dep, toDs, chunk, closeParts, cl2, fillV]; exact iZ; (iterate 2 exact iZ); exact iZ))); exact RT.nil); (case hc => first | (refine checkR_un [(0, 1), (0, 2), (0, 3), (1, 3), (2, 3), (0, 4), (1, 4), (2, 4), (0, 5), (1, 5), (2, 5), (3, 5), (4, 5), (0, 6), (1, 6), (2, 6), (3, 6), (4, 6), (5, 6), (0, 7), (1, 7), (2, 7), (3, 7), (4, 7), (5, 7), (0, 8), (1, 8), (2, 8), (3, 8), (4, 8), (0, 9), (1, 9), (2, 9), (3, 9), (4, 9), (0, 10), (1, 10), (2, 10), (3, 10), (4, 10), (5, 10), (6, 10), (7, 10), (8, 10), (9, 10), (0, 11), (1, 11), (2, 11), (3, 11), (4, 11), (5, 11), (6, 11), (7, 11), (8, 11), (9, 11), (10, 11), (0, 12), (1, 12), (2, 12), (3, 12), (4, 12), (5, 12), (6, 12), (7, 12), (8, 12), (9, 12), (10, 12), (0, 13), (1, 13), (2, 13), (3, 13), (4, 13), (5, 13), (6, 13), (7, 13), (8, 13), (9, 13), (0, 14), (1, 14), (2, 14), (3, 14), (4, 14), (5, 14), (6, 14), (7, 14), (8, 14), (9, 14), (0, 15), (1, 15), (2, 15), (3, 15), (4, 15), (0, 16), (1, 16), (2, 16)] (by kernel_rfl) (by kernel_rfl) rfl ?_; simp [memA, disj, e1, e2, e3, e4]; done) | (show _ = _; kernel_rfl)); (case ht => simp [dI, dB, -addNew, Hp.get_set, hx, hr, hm, hc, hix, hi2, I.cells, hw, w1, a1, a2, a3, a4, a5, a6, a7, b2, b3, b4, b5, b6, cI_len, nble_d, c1, c2, c3, idx_lt hA, idx_lt hB, idx_lt hCr, l1, hput, hb2, hb3, hd, toD_dep, toDs, chunk, closeParts, cl2, fillV]; exact iZ))
 | apply WP.block | apply WP.skip | apply WP.exit | apply WP.ret | refine WP.condT rfl ?_ | refine WP.condF rfl ?_)
  refine blockQ_nn ?_
  refine ⟨rfl, _, _, _, ?_, ?_, _, _, ?_, by rfl⟩
  · exact hF.put (by simp [Hp.get_set, a1, a2, a3, a4, a5, a6, a7, a8, a9, b1, b2, b3, b4, b5, b6, b7, hr, hm]) (by simp [Hp.get_set, a1, a2, a3, a4, a5, a6, a7, a8, a9, b1, b2, b3, b4, b5, b6, b7, hr, hm]) (by simp [Hp.get_set, a1, a2, a3, a4, a5, a6, a7, a8, a9, b1, b2, b3, b4, b5, b6, b7, hr, hm]) (by simp [Hp.get_set, a1, a2, a3, a4, a5, a6, a7, a8, a9, b1, b2, b3, b4, b5, b6, b7, hr, hm])
  · exact ((((gw.set (.inr (by omega))).set (.inr (by omega))).set (.inr (by omega))).set (.inr (by omega)))
  · omega

end
end Go.Ac
end
