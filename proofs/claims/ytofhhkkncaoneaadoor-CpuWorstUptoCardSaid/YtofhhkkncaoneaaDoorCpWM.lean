/- The reference's fields, one by one. -/
import Derived.Test.YtofhhkkncaoneaaDoorAcBM
import Derived.Test.YtofhhkkncaoneaaDoorAcDM
import Derived.Test.YtofhhkkncaoneaaDoorAcGM
import Derived.Test.YtofhhkkncaoneaaDoorAcJM
import Derived.Test.YtofhhkkncaoneaaDoorAcLM
import Derived.Test.YtofhhkkncaoneaaDoorAcMM
import Derived.Test.YtofhhkkncaoneaaDoorAcOM
import Derived.Test.YtofhhkkncaoneaaDoorAcSM
import Derived.Test.YtofhhkkncaoneaaDoorAcXM
import Derived.Test.YtofhhkkncaoneaaDoorAcUcM
import Derived.Test.YtofhhkkncaoneaaDoorAcThM
import Derived.Test.YtofhhkkncaoneaaDoorCpBM
import Derived.Test.YtofhhkkncaoneaaDoorCpD
import Derived.Test.YtofhhkkncaoneaaDoorCpF
import Derived.Test.YtofhhkkncaoneaaDoorCpIM
import Derived.Test.YtofhhkkncaoneaaDoorCpK
import Derived.Test.YtofhhkkncaoneaaDoorCrTM
import Derived.Test.YtofhhkkncaoneaaDoorCqFM
import Derived.Test.YtofhhkkncaoneaaDoorCqIM
import Derived.Test.YtofhhkkncaoneaaDoorCqNM
import Derived.Calls
import Derived.Orders
import Derived.Laws.World
import Derived.Laws.Sem
import Derived.Laws.Cells
import Derived.Laws.Append
import GoSem.ClaimData
import Derived.Laws.Tables
import Derived.Laws.Slices
import Derived.Laws.Strings
import Derived.Laws.Small
import Derived.KernelRfl
import Derived.Test.YtofhhkkncaoneaaDoorChecked
import Derived.Lib.RuneCount
set_option linter.unusedVariables false
set_option linter.unusedSimpArgs false
section
set_option maxRecDepth 4000
set_option linter.unusedSimpArgs false
set_option linter.unusedVariables false
namespace Go.Ac
open Go.Proofs

theorem blockQ_rt {i : Nat} {Q : Ex → St → Prop} {t : St} (h : Q .ret t) : blockQ i Q .ret t := h
theorem seqQ_rt {P : Program} {cfg : Cfg} {fid : FuncId} {b : Code} {Q : Ex → St → Prop} {t : St} (h : Q .ret t) : seqQ P cfg fid b Q .ret t := h
theorem loopQ_rt {cfg : Cfg} {fid : FuncId} {s : St} {I : St → Prop} {Q : Ex → St → Prop} {t : St} (h : Q .ret t) : loopQ cfg fid s I Q .ret t := h
/-- An image that has passed the check. -/
structure GoodIm (im : Im) : Prop where
  ok : OkM im.rs
  cl : ∀ q ∈ im.rs, q.code.length ≤ 900000
  il : ∀ q ∈ im.rs, q.ini.length ≤ 900000
  nl : ∀ q ∈ im.rs, q.inn.length ≤ 900000
  rl : im.rs.length ≤ 900000
  ne : 0 < im.rs.length
  el : im.enums.length ≤ 900000
  ty : ∀ q ∈ im.rs, ∀ t ∈ q.inn, typOK im.enums t = true
  ini : ∀ q ∈ im.rs, ∀ v ∈ q.ini, -32768 ≤ v ∧ v ≤ 32767
  en : ∀ v ∈ im.enums, v ≤ 16
def lastR (im : Im) : Rt := im.rs.getD (im.rs.length - 1) rtZ
theorem GoodIm.last {im : Im} (h : GoodIm im) : im.rs[im.rs.length - 1]? = some (lastR im) := by
  have h1 := h.ne
  have h2 : im.rs.length - 1 < im.rs.length := by omega
  unfold lastR
  simp [List.getD, h2]
theorem GoodIm.mem {im : Im} (h : GoodIm im) : lastR im ∈ im.rs := List.mem_of_getElem? h.last
def fitsL (en : List Int) : List Int → List Int → Bool
  | t :: ts, v :: vs => fitsV en t v && fitsL en ts vs
  | _, _ => true
theorem fitsL_step {en ts vs : List Int} {j : Nat} {t v : Int} (h1 : ts[j]? = some t) (h2 : vs[j]? = some v) : fitsL en (ts.drop j) (vs.drop j) = (fitsV en t v && fitsL en (ts.drop (j + 1)) (vs.drop (j + 1))) := by
  obtain ⟨a1, a2⟩ := List.getElem?_eq_some_iff.1 h1
  obtain ⟨b1, b2⟩ := List.getElem?_eq_some_iff.1 h2
  rw [List.drop_eq_getElem_cons a1, List.drop_eq_getElem_cons b1, a2, b2]; rfl
/-- What a step gives; the memory and the count afterwards. -/
def stepR (im : Im) (mem : List Int) (cnt : Int) (row : List Int) : List Int × Int × List Int × Int :=
  if row.length ≠ (lastR im).inn.length then ([], 9, mem, cnt)
  else if fitsL im.enums (lastR im).inn row = false then ([], 14, mem, cnt)
  else ((callM im.rs im.rs.length (im.rs.length - 1) 0 row mem).1, 0, (callM im.rs im.rs.length (im.rs.length - 1) 0 row mem).2.1, IntKind.i64.wrap (callM im.rs im.rs.length (im.rs.length - 1) 0 row mem).2.2)

section
variable {im : Im} {hp : Hp} {n c idc gc mid mg : Nat} {mem row : List Int} {cnt : Int}
set_option maxHeartbeats 4000000 in
theorem step_den (hG : GoodIm im) (hM : Mc im hp idc gc mid mg mem cnt) (q1 : idc < n) (q2 : mid < n) (hml : mem.length = (lastR im).ini.length) (hrow : row.length ≤ 4194304) :
    Thr 11 [.ptr idc gc 0, dL row] hp n c (.tuple [dL (stepR im mem cnt row).1, dI (stepR im mem cnt row).2.1]) [idc, mid] (fun hp' => Mc im hp' idc gc mid mg (stepR im mem cnt row).2.2.1 (stepR im mem cnt row).2.2.2) := by
  have hM0 := hM
  obtain ⟨⟨cap, hcap, hC⟩, hm, d2⟩ := hM
  have hq := hG.last
  have hil := hG.il _ hG.mem
  have hnl := hG.nl _ hG.mem
  have hrl := hG.rl
  have hel := hG.el
  have hgd := hG.ok _ _ hq
  obtain ⟨q, hqd⟩ : ∃ q, q = lastR im := ⟨_, rfl⟩
  rw [← hqd] at hq hil hnl hml hgd
  unfold stepR
  rw [← hqd]
  refine thr_wp Tryd.func11 rfl (by kernel_rfl) rfl ?_
  obtain ⟨r0, hT1, hv, hn, hT2, hki, hfr, _⟩ := (main_ok (c := c) hM0 q1 hq (by omega)).caller (by intro j hj; cases hj)
  simp only [aR, Rt.cells, List.map_cons, List.map_nil] at hv
  have f1 : (n = idc) = False := eq_false (by omega)
  by_cases hl : row.length = q.inn.length
  case neg =>
    rw [if_pos hl]
    have hl2 : ((row.length : Int) = q.inn.length) = False := eq_false (by omega)
    refine wkcekt (And.intro @envOf.eq_1 (And.intro @envOf.eq_2 (And.intro @dI.eq_1 (And.intro @dL.eq_1 (And.intro @hC (And.intro @hv (And.intro @hn (And.intro @Hp.get_set (And.intro @int_bne (And.intro @hl2 @hl)))))))))) ?_
    have hw : WI [idc, mid] n hp (addNew n [] (tWr r0 n)) (hp.sets (tWr r0 n)) := WI.refl.sets fun p hp => by have := hki _ (List.mem_map.2 ⟨p, hp, rfl⟩); cases this
    have hgt : ∀ o o' j, j < n → (Hp.trunc n (((hp.sets (tWr r0 n)).set n o).set n o')).get j = hp.get j := fun o o' j hj => by
      rw [Hp.get_trunc _ _ _ hj, Hp.get_set_ne _ _ _ _ (by omega), Hp.get_set_ne _ _ _ _ (by omega), hfr j hj (by simp)]
    exact ⟨.inr rfl, _, [], rfl, rfl, rfl, (hw.set (.inr (Nat.le_refl _))).set (.inr (Nat.le_refl _)), hM0.same (hgt _ _ _ q1) (hgt _ _ _ q2)⟩
  rw [if_neg (by simp [hl])]
  have hl2 : ((row.length : Int) = q.inn.length) = True := eq_true (by omega)
  refine wkcekt (And.intro @envOf.eq_1 (And.intro @envOf.eq_2 (And.intro @dI.eq_1 (And.intro @dL.eq_1 (And.intro @hC (And.intro @hv (And.intro @hn (And.intro @Hp.get_set (And.intro @int_bne (And.intro @hl2 @hl)))))))))) ?_
  apply WP.gen
  intro hp1 wl1 hhp hwl
  have w1 : WI [idc, mid] n hp wl1 hp1 := by
    have hw : WI [idc, mid] n hp (addNew n [] (tWr r0 n)) (hp.sets (tWr r0 n)) := WI.refl.sets fun p hp => by have := hki _ (List.mem_map.2 ⟨p, hp, rfl⟩); cases this
    rw [hhp, hwl]
    exact (hw.set (.inr (Nat.le_refl _))).set (.inr (Nat.le_refl _))
  have g1 : ∀ j, j < n → hp1.get j = hp.get j := fun j hj => by
    rw [hhp, Hp.get_set_ne _ _ _ _ (by omega), Hp.get_set_ne _ _ _ _ (by omega), hfr j hj (by simp)]
  obtain ⟨gq, hgq⟩ : ∃ g, g = c + (r0.c - c) := ⟨_, rfl⟩
  have k1 : hp1.get n = some ⟨gq, false, [V.d (D.str q.nm), V.d (D.slice (encI q.inn)), V.d (D.slice (encI q.out)), V.d (D.int IntKind.i64 q.regs), V.d (D.slice (encI q.ini)), V.d (D.slice (encC q.code))]⟩ := by rw [hhp, hgq, Hp.get_set_self]
  rw [← hgq]
  clear hhp hwl hT1 hT2 hki hfr hv hn
  have hfit : ∀ t ∈ q.inn, typOK im.enums t = true := by rw [hqd]; exact hG.ty _ hG.mem
  apply WP.loop' (I := fun d s => ∃ (j : Nat) (hp' : Hp) (c' : Nat) (wl' : List Nat), j + d = q.inn.length ∧ fitsL im.enums q.inn row = fitsL im.enums (q.inn.drop j) (row.drop j) ∧ (∀ t, t < n + 1 → hp'.get t = hp1.get t) ∧ WI [idc, mid] n hp wl' hp' ∧
    s = ⟨[(0, .ptr idc gc 0), (1, dL row), (6, .ptr n gq 0), (21, dL row), (22, dI q.inn.length), (23, dI j)], hp', n + 1, c', n, wl'⟩) (d := q.inn.length)
  · exact ⟨0, hp1, _, wl1, by simp, rfl, fun _ _ => rfl, w1, by rfl⟩
  rintro d _ ⟨j, hp', c', wl', h1, h2, h3, h4, rfl⟩
  have h3n := (h3 n (by omega)).trans k1
  have hMc : Mc im hp' idc gc mid mg mem cnt := hM0.same ((h3 _ (by omega)).trans (g1 _ q1)) ((h3 _ (by omega)).trans (g1 _ q2))
  refine wkekt (And.intro @dI.eq_1 @dL.eq_1) ?_
  show WP _ _ _ _ _ _
  refine WP.cond _ rfl (fun hb => ?_) (fun hb => ?_)
  · simp at hb
    have hb' : j < q.inn.length := hb
    obtain ⟨t, ht, htm, hix⟩ := at_lt hb'
    have htv := encI_at ht
    have hjr : j < row.length := by omega
    have hv0 := rgv_at hjr
    have hvv := encI_at hv0
    have hix2 := idx_lt hjr
    have hst := fitsL_step (en := im.enums) ht hv0
    rw [← h2] at hst
    have hw2 := w_succ hb' (by omega)
    obtain ⟨r1, hT1, hv, hn, hT2, hki, hfr, _⟩ := (fits_ok (c := c') hMc (n := n + 1) (by omega) t (rgv row j) (hfit t htm) (by omega)).caller (by intro j hj; cases hj)
    simp only [dI] at hT1
    simp only [dB] at hv
    cases hf : fitsV im.enums t (rgv row j) with
    | false =>
      rw [hf] at hv hst
      rw [Bool.false_and] at hst
      rw [hst, if_pos rfl]
      refine wkcekt (And.intro @dI.eq_1 (And.intro @dL.eq_1 (And.intro @h3n (And.intro @hix (And.intro @htv (And.intro @hix2 (And.intro @hvv (And.intro @hv @hn)))))))) ?_
      repeat (first | with_reducible apply blockQ_rt | with_reducible apply seqQ_rt | with_reducible apply loopQ_rt)
      have hgt : ∀ j, j < n → (Hp.trunc n (hp'.sets (tWr r1 (n + 1)))).get j = hp.get j := fun j hj => by
        rw [Hp.get_trunc _ _ _ hj, hfr j (by omega) (by simp), h3 j (by omega), g1 j hj]
      exact ⟨.inr rfl, _, [], rfl, rfl, rfl, h4.sets (fun p hp => by have := hki _ (List.mem_map.2 ⟨p, hp, rfl⟩); cases this), hM0.same (hgt _ q1) (hgt _ q2)⟩
    | true =>
      rw [hf] at hv hst
      rw [Bool.true_and] at hst
      refine wkcekt (And.intro @dI.eq_1 (And.intro @dL.eq_1 (And.intro @h3n (And.intro @hix (And.intro @htv (And.intro @hix2 (And.intro @hvv (And.intro @hv @hn)))))))) ?_
      refine loop_next (by simp [-addNew, hw2]; exact Is.rfl) ?_
      refine ⟨d - 1, by omega, j + 1, _, _, _, by omega, hst, fun t ht => ?_, (h4.sets (fun p hp => by have := hki _ (List.mem_map.2 ⟨p, hp, rfl⟩); cases this)).trunc (m := n + 1) (by omega), by rfl⟩
      rw [Hp.get_trunc _ _ _ ht, hfr t ht (by simp), h3 t ht]
  · simp at hb
    have hje : j = q.inn.length := by omega
    rw [hje, List.drop_of_length_le (Nat.le_refl _)] at h2
    have h2' : fitsL im.enums q.inn row = true := h2
    rw [h2', if_neg (by simp)]
    refine wkcekt (And.intro @dI.eq_1 (And.intro @dL.eq_1 @h3n)) ?_
    apply WP.gen
    intro hp2 wl2 hhp2 hwl2
    have w2 : WI [idc, mid] n hp wl2 hp2 := by
      rw [hhp2, hwl2]
      exact (h4.set (.inr (by omega))).set (.inr (by omega))
    have g2 : ∀ j, j < n + 1 → hp2.get j = hp'.get j := fun j hj => by
      rw [hhp2, Hp.get_set_ne _ _ _ _ (by omega), Hp.get_set_ne _ _ _ _ (by omega)]
    have kk : hp2.get (n + 1) = some ⟨c', false, [V.d (D.int IntKind.i64 0)]⟩ := by rw [hhp2, Hp.get_set_self]
    have kn := (g2 n (by omega)).trans h3n
    have kc := ((g2 idc (by omega)).trans ((h3 idc (by omega)).trans (g1 idc q1))).trans hC
    have km := ((g2 mid (by omega)).trans ((h3 mid (by omega)).trans (g1 mid q2))).trans hm
    have ko : ∀ j, j < n → hp2.get j = hp.get j := fun j hj => (g2 j (by omega)).trans ((h3 j (by omega)).trans (g1 j hj))
    clear hhp2 hwl2
    have hx := exec_all hG.ok hG.cl im.rs.length (im.rs.length - 1) q (by have := hG.ne; omega) hq hp2 (n + 2) (c' + 1) idc gc mid mg (n + 1) c' 0 cap (dL row) row mem 0 ⟨_, _, kc⟩ km kk (by omega) d2 (by omega) (by omega) (by omega) (by omega) (.inl rfl) hl (by omega) (by omega) (eq_true (by rw [← hml]; exact hcap))
    obtain ⟨res, hres⟩ : ∃ r, r = callM im.rs im.rs.length (im.rs.length - 1) 0 row mem := ⟨_, rfl⟩
    have hlen := (callM_ok hG.ok im.rs.length (im.rs.length - 1) q 0 row mem (by have := hG.ne; omega) hq hl (by omega)).2
    rw [← hres] at hx hlen ⊢
    unfold ExecAt at hx
    obtain ⟨r2, hT1, hv, hn, hT2, hki, hfr, hpz, ⟨z1, z2⟩, hsame⟩ := hx.caller (by intro j hj; simp at hj; omega)
    simp only [aR, Rt.cells, List.map_cons, List.map_nil, ← hml] at hT1
    simp only [dL] at hv
    have f2 : (idc < n + 2) = True := eq_true (by omega)
    have m1 := (hsame mid (by omega) (by rw [z1]; rfl)).trans z1
    have m2 := (hsame (n + 1) (by omega) (by rw [z2]; rfl)).trans z2
    have m3 := (hfr idc (by omega) (by simp; omega)).trans kc
    rw [Int.zero_add] at m2
    simp only [dI] at m2
    refine wkcekt (And.intro @dI.eq_1 (And.intro @dL.eq_1 (And.intro @kn (And.intro @kc (And.intro @hv (And.intro @hn (And.intro @m2 (And.intro @m3 @f2)))))))) ?_
    have hgt : ∀ o j, j < n → (Hp.trunc n ((hp2.sets (tWr r2 (n + 2))).set idc o)).get j = if idc = j then some o else (hp2.sets (tWr r2 (n + 2))).get j := fun o j hj => by
      rw [Hp.get_trunc _ _ _ hj, Hp.get_set]
    refine ⟨.inr rfl, _, [], rfl, rfl, rfl, (w2.sets fun p hp => ?_).set (.inl (by simp)), ⟨⟨cap, ?_, ?_⟩, ?_, d2⟩⟩
    · have := hki _ (List.mem_map.2 ⟨p, hp, rfl⟩)
      simp only [List.mem_cons, List.not_mem_nil, or_false] at this ⊢
      rcases this with h | h
      · exact .inl (.inr h)
      · exact .inr (by omega)
    · show res.2.1.length ≤ cap.getD res.2.1.length
      rw [hlen]; exact hcap
    · rw [hgt _ _ q1, if_pos rfl]
      show _ = some (Ob.mk gc false [V.d (.slice (encI im.enums)), V.d (.slice (encR im.rs)), .osl mid mg 0 res.2.1.length 1 cap, dI (IntKind.i64.wrap res.2.2)])
      rw [hlen]; rfl
    · rw [hgt _ _ q2, if_neg d2, m1]
end
end Go.Ac
end

section
set_option maxRecDepth 4000
set_option linter.unusedSimpArgs false
set_option linter.unusedVariables false
namespace Go.Ac
open Go.Proofs

section
variable {im : Im} {hp : Hp} {n c idc gc mid mg : Nat} {mem row : List Int} {cnt : Int}
set_option maxHeartbeats 4000000 in
theorem rstep_den (hG : GoodIm im) (hM : Mc im hp idc gc mid mg mem cnt) (q1 : idc < n) (q2 : mid < n) (hml : mem.length = (lastR im).ini.length) (hrow : row.length ≤ 4194304) :
    Thr 12 [.ptr idc gc 0, dL row] hp n c (.tuple [dL (stepR im mem cnt row).1, dI (stepR im mem cnt row).2.1]) [idc, mid] (fun hp' => Mc im hp' idc gc mid mg (stepR im mem cnt row).2.2.1 (stepR im mem cnt row).2.2.2) := by
  have hM0 := hM
  obtain ⟨⟨cap, hcap, hC⟩, hm, d2⟩ := hM
  have hq := hG.last
  have hil := hG.il _ hG.mem
  have hnl := hG.nl _ hG.mem
  have hrl := hG.rl
  have hel := hG.el
  have hgd := hG.ok _ _ hq
  obtain ⟨q, hqd⟩ : ∃ q, q = lastR im := ⟨_, rfl⟩
  rw [← hqd] at hq hil hnl hml hgd
  unfold stepR
  rw [← hqd]
  refine thr_wp Tryd.func12 rfl (by kernel_rfl) rfl ?_
  obtain ⟨r0, hT1, hv, hn, hT2, hki, hfr, _⟩ := (rmain_ok (c := c) hM0 q1 hq (by omega)).caller (by intro j hj; cases hj)
  simp only [aR, Rt.cells, List.map_cons, List.map_nil] at hv
  have f1 : (n = idc) = False := eq_false (by omega)
  by_cases hl : row.length = q.inn.length
  case neg =>
    rw [if_pos hl]
    have hl2 : ((row.length : Int) = q.inn.length) = False := eq_false (by omega)
    refine wkcekt (And.intro @envOf.eq_1 (And.intro @envOf.eq_2 (And.intro @dI.eq_1 (And.intro @dL.eq_1 (And.intro @hC (And.intro @hv (And.intro @hn (And.intro @Hp.get_set (And.intro @int_bne (And.intro @hl2 @hl)))))))))) ?_
    have hw : WI [idc, mid] n hp (addNew n [] (tWr r0 n)) (hp.sets (tWr r0 n)) := WI.refl.sets fun p hp => by have := hki _ (List.mem_map.2 ⟨p, hp, rfl⟩); cases this
    have hgt : ∀ o o' j, j < n → (Hp.trunc n (((hp.sets (tWr r0 n)).set n o).set n o')).get j = hp.get j := fun o o' j hj => by
      rw [Hp.get_trunc _ _ _ hj, Hp.get_set_ne _ _ _ _ (by omega), Hp.get_set_ne _ _ _ _ (by omega), hfr j hj (by simp)]
    exact ⟨.inr rfl, _, [], rfl, rfl, rfl, (hw.set (.inr (Nat.le_refl _))).set (.inr (Nat.le_refl _)), hM0.same (hgt _ _ _ q1) (hgt _ _ _ q2)⟩
  rw [if_neg (by simp [hl])]
  have hl2 : ((row.length : Int) = q.inn.length) = True := eq_true (by omega)
  refine wkcekt (And.intro @envOf.eq_1 (And.intro @envOf.eq_2 (And.intro @dI.eq_1 (And.intro @dL.eq_1 (And.intro @hC (And.intro @hv (And.intro @hn (And.intro @Hp.get_set (And.intro @int_bne (And.intro @hl2 @hl)))))))))) ?_
  apply WP.gen
  intro hp1 wl1 hhp hwl
  have w1 : WI [idc, mid] n hp wl1 hp1 := by
    have hw : WI [idc, mid] n hp (addNew n [] (tWr r0 n)) (hp.sets (tWr r0 n)) := WI.refl.sets fun p hp => by have := hki _ (List.mem_map.2 ⟨p, hp, rfl⟩); cases this
    rw [hhp, hwl]
    exact (hw.set (.inr (Nat.le_refl _))).set (.inr (Nat.le_refl _))
  have g1 : ∀ j, j < n → hp1.get j = hp.get j := fun j hj => by
    rw [hhp, Hp.get_set_ne _ _ _ _ (by omega), Hp.get_set_ne _ _ _ _ (by omega), hfr j hj (by simp)]
  obtain ⟨gq, hgq⟩ : ∃ g, g = c + (r0.c - c) := ⟨_, rfl⟩
  have k1 : hp1.get n = some ⟨gq, false, [V.d (D.str q.nm), V.d (D.slice (encI q.inn)), V.d (D.slice (encI q.out)), V.d (D.int IntKind.i64 q.regs), V.d (D.slice (encI q.ini)), V.d (D.slice (encC q.code))]⟩ := by rw [hhp, hgq, Hp.get_set_self]
  rw [← hgq]
  clear hhp hwl hT1 hT2 hki hfr hv hn
  have hfit : ∀ t ∈ q.inn, typOK im.enums t = true := by rw [hqd]; exact hG.ty _ hG.mem
  apply WP.loop' (I := fun d s => ∃ (j : Nat) (hp' : Hp) (c' : Nat) (wl' : List Nat), j + d = q.inn.length ∧ fitsL im.enums q.inn row = fitsL im.enums (q.inn.drop j) (row.drop j) ∧ (∀ t, t < n + 1 → hp'.get t = hp1.get t) ∧ WI [idc, mid] n hp wl' hp' ∧
    s = ⟨[(0, .ptr idc gc 0), (1, dL row), (6, .ptr n gq 0), (7, dI j)], hp', n + 1, c', n, wl'⟩) (d := q.inn.length)
  · exact ⟨0, hp1, _, wl1, by simp, rfl, fun _ _ => rfl, w1, by rfl⟩
  rintro d _ ⟨j, hp', c', wl', h1, h2, h3, h4, rfl⟩
  have h3n := (h3 n (by omega)).trans k1
  have hMc : Mc im hp' idc gc mid mg mem cnt := hM0.same ((h3 _ (by omega)).trans (g1 _ q1)) ((h3 _ (by omega)).trans (g1 _ q2))
  refine wkekt (And.intro @dI.eq_1 @dL.eq_1) ?_
  show WP _ _ _ _ _ _
  refine WP.cond _ rfl (fun hb => ?_) (fun hb => ?_)
  · simp at hb
    have hb' : j < q.inn.length := by omega
    obtain ⟨t, ht, htm, hix⟩ := at_lt hb'
    have htv := encI_at ht
    have hjr : j < row.length := by omega
    have hv0 := rgv_at hjr
    have hvv := encI_at hv0
    have hix2 := idx_lt hjr
    have hst := fitsL_step (en := im.enums) ht hv0
    rw [← h2] at hst
    have hw2 := w_succ hb' (by omega)
    obtain ⟨r1, hT1, hv, hn, hT2, hki, hfr, _⟩ := (rfits_ok (c := c') hMc (n := n + 1) (by omega) t (rgv row j) (hfit t htm) (by omega)).caller (by intro j hj; cases hj)
    simp only [dI] at hT1
    simp only [dB] at hv
    cases hf : fitsV im.enums t (rgv row j) with
    | false =>
      rw [hf] at hv hst
      rw [Bool.false_and] at hst
      rw [hst, if_pos rfl]
      refine wkcekt (And.intro @dI.eq_1 (And.intro @dL.eq_1 (And.intro @h3n (And.intro @hix (And.intro @htv (And.intro @hix2 (And.intro @hvv (And.intro @hv @hn)))))))) ?_
      repeat (first | with_reducible apply blockQ_rt | with_reducible apply seqQ_rt | with_reducible apply loopQ_rt)
      have hgt : ∀ j, j < n → (Hp.trunc n (hp'.sets (tWr r1 (n + 1)))).get j = hp.get j := fun j hj => by
        rw [Hp.get_trunc _ _ _ hj, hfr j (by omega) (by simp), h3 j (by omega), g1 j hj]
      exact ⟨.inr rfl, _, [], rfl, rfl, rfl, h4.sets (fun p hp => by have := hki _ (List.mem_map.2 ⟨p, hp, rfl⟩); cases this), hM0.same (hgt _ q1) (hgt _ q2)⟩
    | true =>
      rw [hf] at hv hst
      rw [Bool.true_and] at hst
      refine wkcekt (And.intro @dI.eq_1 (And.intro @dL.eq_1 (And.intro @h3n (And.intro @hix (And.intro @htv (And.intro @hix2 (And.intro @hvv (And.intro @hv @hn)))))))) ?_
      refine loop_next (by simp [-addNew, hw2]; exact Is.rfl) ?_
      refine ⟨d - 1, by omega, j + 1, _, _, _, by omega, hst, fun t ht => ?_, (h4.sets (fun p hp => by have := hki _ (List.mem_map.2 ⟨p, hp, rfl⟩); cases this)).trunc (m := n + 1) (by omega), by rfl⟩
      rw [Hp.get_trunc _ _ _ ht, hfr t ht (by simp), h3 t ht]
  · simp at hb
    have hje : j = q.inn.length := by omega
    rw [hje, List.drop_of_length_le (Nat.le_refl _)] at h2
    have h2' : fitsL im.enums q.inn row = true := h2
    rw [h2', if_neg (by simp)]
    rw [← hl] at hje
    have hne := hG.ne
    have hwl : IntKind.i64.wrap ((im.rs.length : Int) - 1) = ((im.rs.length - 1 : Nat) : Int) := by rw [w_id'] <;> omega
    have kc := (h3 idc (by omega)).trans ((g1 idc q1).trans hC)
    have km := (h3 mid (by omega)).trans ((g1 mid q2).trans hm)
    have hx := rexec_all hG.ok hG.cl im.rs.length (im.rs.length - 1) q (by have := hG.ne; omega) hq hp' (n + 1) c' idc gc mid mg 0 cap (dI cnt) (dL row) row mem ⟨_, kc⟩ km d2 (by omega) (by omega) (.inl rfl) hl (by omega) (by omega)
    obtain ⟨res, hres⟩ : ∃ r, r = callM im.rs im.rs.length (im.rs.length - 1) 0 row mem := ⟨_, rfl⟩
    have hlen := (callM_ok hG.ok im.rs.length (im.rs.length - 1) q 0 row mem (by have := hG.ne; omega) hq hl (by omega)).2
    rw [← hres] at hx hlen ⊢
    unfold RCallAt at hx
    obtain ⟨r2, hT1, hv, hn, hT2, hki, hfr, hpz, z1, hsame⟩ := hx.caller (by intro j hj; simp at hj; omega)
    simp only [dL, dI] at hv
    have f2 : (idc < n + 1) = True := eq_true (by omega)
    have m1 := (hsame mid (by omega) (by rw [z1]; rfl)).trans z1
    have m3 := (hfr idc (by omega) (by simp; omega)).trans kc
    refine wkcekt (And.intro @dI.eq_1 (And.intro @dL.eq_1 (And.intro @kc (And.intro @hwl (And.intro @hv (And.intro @hn (And.intro @m3 @f2))))))) ?_
    have hgt : ∀ o j, j < n → (Hp.trunc n ((hp'.sets (tWr r2 (n + 1))).set idc o)).get j = if idc = j then some o else (hp'.sets (tWr r2 (n + 1))).get j := fun o j hj => by
      rw [Hp.get_trunc _ _ _ hj, Hp.get_set]
    refine ⟨.inr rfl, _, [], rfl, rfl, rfl, (h4.sets fun p hp => ?_).set (.inl (by simp)), ⟨⟨cap, ?_, ?_⟩, ?_, d2⟩⟩
    · have := hki _ (List.mem_map.2 ⟨p, hp, rfl⟩)
      simp only [List.mem_cons, List.not_mem_nil, or_false] at this ⊢
      exact .inl (.inr this)
    · show res.2.1.length ≤ cap.getD res.2.1.length
      rw [hlen]; exact hcap
    · rw [hgt _ _ q1, if_pos rfl]
      show _ = some (Ob.mk gc false [V.d (.slice (encI im.enums)), V.d (.slice (encR im.rs)), .osl mid mg 0 res.2.1.length 1 cap, dI (IntKind.i64.wrap res.2.2)])
      rw [hlen]; rfl
    · rw [hgt _ _ q2, if_neg d2, m1]
end
end Go.Ac
end

section
set_option maxRecDepth 4000
set_option linter.unusedSimpArgs false
set_option linter.unusedVariables false
namespace Go.Ac
open Go.Proofs

/-- A call that is handed objects and hands the memory back. -/
def ThrN (f : FuncId) (vs : List V) (hp : Hp) (n c : Nat) (v : V) (ids : List Nat) (Φ : Hp → Nat → Prop) : Prop :=
  ∃ q, lim Tryd.prog Cp.cfg f vs hp n c = some q ∧ q.v = v ∧ n ≤ q.n ∧ WI ids n hp q.wl q.hp ∧ Φ q.hp q.n
def thrNQ (fn : Func) (hp : Hp) (n : Nat) (v : V) (ids0 : List Nat) (Φ : Hp → Nat → Prop) (e : Ex) (t : St) : Prop :=
  (e = .normal ∨ e = .ret) ∧ ∃ rs, resultsV Tryd.prog t fn.results.toList = some rs ∧ tup rs = v ∧ n ≤ t.n ∧ WI ids0 n hp t.wl t.hp ∧ Φ t.hp t.n
theorem thrN_wp {f : FuncId} {fn : Func} {body : Code} {vs : List V} {hp : Hp} {n c : Nat} {v : V} {ids0 : List Nat} {Φ : Hp → Nat → Prop} (hf : Tryd.prog.funcs[f]? = some fn) (hb : fn.body = some body) (hok : (Nat.ble vs.length fn.ntmps && codeOK fn.ntmps body) = true)
    (hthr : Cp.cfg.thr f = true) (h : WP Tryd.prog Cp.cfg f body ⟨envOf 0 vs, hp, n, c, n, []⟩ (thrNQ fn hp n v ids0 Φ)) : ThrN f vs hp n c v ids0 Φ := by
  obtain ⟨w, t, h1, h2⟩ := lim_wp (Q := fun w t => w = v ∧ n ≤ t.n ∧ WI ids0 n hp t.wl t.hp ∧ Φ t.hp t.n) hf hb hok (h.mono fun e t ⟨he, rs, a1, a2, a3, a4, a5⟩ => ⟨he, rs, a1, .inl hthr, a2, a3, a4, a5⟩)
  exact ⟨_, h1, h2.1, h2.2.1, h2.2.2.1, h2.2.2.2⟩
theorem ThrN.caller {f : FuncId} {vs : List V} {hp : Hp} {n c : Nat} {v : V} {ids : List Nat} {Φ : Hp → Nat → Prop} (h : ThrN f vs hp n c v ids Φ) (hids : ∀ j, j ∈ ids → j < n) :
    ∃ q, lim Tryd.prog Cp.cfg f vs hp n c = some q ∧ q.v = v ∧ n ≤ q.n ∧ (∀ k, k ∈ (tWr q n).map (·.1) → k < n + (q.n - n)) ∧ (∀ k, k ∈ (tWr q n).map (·.1) → k ∈ ids ∨ n ≤ k) ∧
      (∀ j, j < n → j ∉ ids → (hp.sets (tWr q n)).get j = hp.get j) ∧ ∃ hp', Φ hp' q.n ∧ ∀ j, j < q.n → (hp'.get j).isSome = true → (hp.sets (tWr q n)).get j = hp'.get j := by
  obtain ⟨q, h1, h2, h3, h4, h5⟩ := h
  exact ⟨q, h1, h2, h3, fun k hk => by have := (tWr_keys h3 h4 hids hk).2; omega, fun k hk => (tWr_keys h3 h4 hids hk).1, fun j hj hn => tWr_old h4 hj hn, q.hp, h5, fun j hj hs => tWr_same h4 hj hs⟩

/-- What Load answers. -/
def loadE (mem m : List Int) : Int := if m.length ≠ mem.length then 9 else if m.any outW then 14 else 0
/-- The machine, its memory anew. -/
def NewMem (im : Im) (idc gc n mid : Nat) (mem : List Int) (cnt : Int) (hp' : Hp) (n' : Nat) : Prop := ∃ mid' mg', Mc im hp' idc gc mid' mg' mem cnt ∧ mid' < n' ∧ (mid' = mid ∨ n ≤ mid')
theorem any_take {p : Int → Bool} {l : List Int} (h : (l.take l.length).all (fun v => !p v) = true) : l.any p = false := by
  rw [List.take_length] at h
  rw [← Bool.not_eq_true]
  intro hx
  obtain ⟨v, hv, hp⟩ := List.any_eq_true.1 hx
  have := List.all_eq_true.1 h v hv
  rw [hp] at this; cases this
section
variable {im : Im} {hp : Hp} {n c idc gc mid mg : Nat} {mem m : List Int} {cnt : Int}

set_option maxHeartbeats 2000000 in
theorem load_ok (hM : Mc im hp idc gc mid mg mem cnt) (q1 : idc < n) (q2 : mid < n) (hml : m.length ≤ 1000000) :
    ThrN 19 [.ptr idc gc 0, dL m] hp n c (dI (loadE mem m)) [idc] (NewMem im idc gc n mid (if loadE mem m = 0 then m else mem) cnt) := by
  have hM0 := hM
  obtain ⟨⟨cap, hcap, hC⟩, hm, d2⟩ := hM
  have hfit : fitsB m.length 8 = true := by simp [fitsB]; omega
  refine thrN_wp Tryd.func19 rfl (by kernel_rfl) rfl ?_
  unfold loadE
  by_cases hl : m.length = mem.length
  case neg =>
    rw [if_pos hl]
    have hl2 : ((m.length : Int) = mem.length) = False := eq_false (by omega)
    refine wkcenkt (And.intro @envOf.eq_1 (And.intro @envOf.eq_2 (And.intro @dI.eq_1 (And.intro @dL.eq_1 (And.intro @hC (And.intro @hm (And.intro @int_bne (And.intro @hl2 @hl)))))))) ?_
    refine ⟨.inr rfl, _, rfl, rfl, Nat.le_refl _, WI.refl, mid, mg, ?_, q2, .inl rfl⟩
    exact hM0
  rw [if_neg (by simp [hl])]
  have hl2 : ((m.length : Int) = mem.length) = True := eq_true (by omega)
  refine wkcenkt (And.intro @envOf.eq_1 (And.intro @envOf.eq_2 (And.intro @dI.eq_1 (And.intro @dL.eq_1 (And.intro @hC (And.intro @hm (And.intro @int_bne (And.intro @hl2 @hl)))))))) ?_
  apply WP.loop' (I := fun d s => ∃ j : Nat, j + d = m.length ∧ (m.take j).all (fun v => !outW v) = true ∧ ∃ hp' c' wl', (∀ t, t < n → hp'.get t = hp.get t) ∧ WI [idc] n hp wl' hp' ∧ s = ⟨[(0, .ptr idc gc 0), (1, dL m), (19, dL m), (20, dI mem.length), (21, dI j)], hp', n, c', n, wl'⟩) (d := m.length)
  · exact ⟨0, by simp, by simp, hp, c, [], fun _ _ => rfl, WI.refl, by rfl⟩
  rintro d _ ⟨j, hj, hno, hp', c', wl', hfr, gw, rfl⟩
  have hMc : Mc im hp' idc gc mid mg mem cnt := hM0.same (hfr _ q1) (hfr _ q2)
  have hC' := (hfr _ q1).trans hC
  refine wkenkt (And.intro @dI.eq_1 @dL.eq_1) ?_
  show WP _ _ _ _ _ _
  refine WP.cond _ rfl (fun hb => ?_) (fun hb => ?_)
  · simp at hb
    have hb' : j < m.length := by omega
    obtain ⟨v, hv, hvm, hix⟩ := at_lt hb'
    have hv' := encI_at hv
    have hw := w_succ hb' (by omega)
    have hts := all_take_succ (p := fun v => !outW v) hv
    have hin := in_den v
    simp only [dI, dB] at hin
    have hio : (decide (-32768 ≤ v) && decide (v ≤ 32767)) = !outW v := by unfold outW; rw [Bool.eq_iff_iff]; simp
    rw [hio] at hin
    cases ho : outW v with
    | true =>
      rw [ho] at hin
      have hx : m.any outW = true := List.any_eq_true.2 ⟨v, hvm, ho⟩
      rw [if_pos hx]
      refine wkcenkt (And.intro @dI.eq_1 (And.intro @dL.eq_1 (And.intro @hix (And.intro @hv' @hin)))) ?_
      repeat (first | with_reducible apply blockQ_rt | with_reducible apply seqQ_rt | with_reducible apply loopQ_rt)
      refine ⟨.inr rfl, _, rfl, rfl, Nat.le_refl _, gw, mid, mg, ?_, q2, .inl rfl⟩
      exact hMc
    | false =>
      rw [ho] at hin
      refine wkcenkt (And.intro @dI.eq_1 (And.intro @dL.eq_1 (And.intro @hix (And.intro @hv' @hin)))) ?_
      refine loop_next (by simp [-addNew, hw]; exact Is.rfl) ?_
      exact ⟨d - 1, by omega, j + 1, by omega, by rw [hts, hno, ho]; rfl, _, _, _, fun t ht => (Hp.get_trunc _ _ _ ht).trans (hfr t ht), gw.trunc (Nat.le_refl _), by rfl⟩
  · simp at hb
    have hje : j = m.length := by omega
    subst hje
    rw [any_take hno, if_neg (by simp)]
    have f1 : (n = idc) = False := eq_false (by omega)
    have f2 : (idc < n + 1) = True := eq_true (by omega)
    refine wkcenkt (And.intro @dI.eq_1 (And.intro @dL.eq_1 (And.intro @hC' (And.intro @rowsI (And.intro @Hp.get_set (And.intro @f1 @f2)))))) ?_
    refine ⟨.inr rfl, _, rfl, rfl, by simp, (gw.set (.inr (Nat.le_refl _))).set (.inl (by simp)), n, c', ?_, by simp, .inr (Nat.le_refl _)⟩
    rw [if_pos rfl]
    refine ⟨⟨none, by simp, ?_⟩, ?_, by omega⟩
    · rw [Hp.get_set_self]; rfl
    · rw [Hp.get_set_ne _ _ _ _ (by omega), Hp.get_set_self]

set_option maxHeartbeats 2000000 in
theorem rload_ok (hM : Mc im hp idc gc mid mg mem cnt) (q1 : idc < n) (q2 : mid < n) (hml : m.length ≤ 1000000) :
    ThrN 20 [.ptr idc gc 0, dL m] hp n c (dI (loadE mem m)) [idc] (NewMem im idc gc n mid (if loadE mem m = 0 then m else mem) cnt) := by
  have hM0 := hM
  obtain ⟨⟨cap, hcap, hC⟩, hm, d2⟩ := hM
  have hfit : fitsB m.length 8 = true := by simp [fitsB]; omega
  refine thrN_wp Tryd.func20 rfl (by kernel_rfl) rfl ?_
  unfold loadE
  by_cases hl : m.length = mem.length
  case neg =>
    rw [if_pos hl]
    have hl2 : ((m.length : Int) = mem.length) = False := eq_false (by omega)
    refine wkcenkt (And.intro @envOf.eq_1 (And.intro @envOf.eq_2 (And.intro @dI.eq_1 (And.intro @dL.eq_1 (And.intro @hC (And.intro @hm (And.intro @int_bne (And.intro @hl2 @hl)))))))) ?_
    refine ⟨.inr rfl, _, rfl, rfl, Nat.le_refl _, WI.refl, mid, mg, ?_, q2, .inl rfl⟩
    exact hM0
  rw [if_neg (by simp [hl])]
  have hl2 : ((m.length : Int) = mem.length) = True := eq_true (by omega)
  refine wkcenkt (And.intro @envOf.eq_1 (And.intro @envOf.eq_2 (And.intro @dI.eq_1 (And.intro @dL.eq_1 (And.intro @hC (And.intro @hm (And.intro @int_bne (And.intro @hl2 @hl)))))))) ?_
  apply WP.loop' (I := fun d s => ∃ j : Nat, j + d = m.length ∧ (m.take j).all (fun v => !outW v) = true ∧ ∃ hp' c' wl', (∀ t, t < n → hp'.get t = hp.get t) ∧ WI [idc] n hp wl' hp' ∧ s = ⟨[(0, .ptr idc gc 0), (1, dL m), (5, dI j)], hp', n, c', n, wl'⟩) (d := m.length)
  · exact ⟨0, by simp, by simp, hp, c, [], fun _ _ => rfl, WI.refl, by rfl⟩
  rintro d _ ⟨j, hj, hno, hp', c', wl', hfr, gw, rfl⟩
  have hMc : Mc im hp' idc gc mid mg mem cnt := hM0.same (hfr _ q1) (hfr _ q2)
  have hC' := (hfr _ q1).trans hC
  refine wkenkt (And.intro @dI.eq_1 @dL.eq_1) ?_
  show WP _ _ _ _ _ _
  refine WP.cond _ rfl (fun hb => ?_) (fun hb => ?_)
  · simp at hb
    have hb' : j < m.length := by omega
    obtain ⟨v, hv, hvm, hix⟩ := at_lt hb'
    have hv' := encI_at hv
    have hw := w_succ hb' (by omega)
    have hts := all_take_succ (p := fun v => !outW v) hv
    by_cases u0 : v < -32768
    · have u0' : (v < -32768) = True := eq_true u0
      have hx : m.any outW = true := List.any_eq_true.2 ⟨v, hvm, by simp [outW, u0]⟩
      rw [if_pos hx]
      refine wkcenkt (And.intro @dI.eq_1 (And.intro @dL.eq_1 (And.intro @hix (And.intro @hv' @u0')))) ?_
      repeat (first | with_reducible apply blockQ_rt | with_reducible apply seqQ_rt | with_reducible apply loopQ_rt)
      refine ⟨.inr rfl, _, rfl, rfl, Nat.le_refl _, gw, mid, mg, ?_, q2, .inl rfl⟩
      exact hMc
    have u0' : (v < -32768) = False := eq_false u0
    by_cases u1 : 32767 < v
    · have u1' : (32767 < v) = True := eq_true u1
      have hx : m.any outW = true := List.any_eq_true.2 ⟨v, hvm, by simp [outW, u1]⟩
      rw [if_pos hx]
      refine wkcenkt (And.intro @dI.eq_1 (And.intro @dL.eq_1 (And.intro @hix (And.intro @hv' (And.intro @u0' @u1'))))) ?_
      repeat (first | with_reducible apply blockQ_rt | with_reducible apply seqQ_rt | with_reducible apply loopQ_rt)
      refine ⟨.inr rfl, _, rfl, rfl, Nat.le_refl _, gw, mid, mg, ?_, q2, .inl rfl⟩
      exact hMc
    have u1' : (32767 < v) = False := eq_false u1
    refine wkcenkt (And.intro @dI.eq_1 (And.intro @dL.eq_1 (And.intro @hix (And.intro @hv' (And.intro @u0' @u1'))))) ?_
    refine loop_next (by simp [-addNew, hw]; exact Is.rfl) ?_
    exact ⟨d - 1, by omega, j + 1, by omega, by rw [hts, hno]; simp [outW, u0, u1], _, _, _, fun t ht => (Hp.get_trunc _ _ _ ht).trans (hfr t ht), gw.trunc (Nat.le_refl _), by rfl⟩
  · simp at hb
    have hje : j = m.length := by omega
    subst hje
    rw [any_take hno, if_neg (by simp)]
    have f1 : (n = idc) = False := eq_false (by omega)
    have f3 : (n + 1 = idc) = False := eq_false (by omega)
    have f2 : (idc < n + 1) = True := eq_true (by omega)
    have f4 : (idc < n + 1 + 1) = True := eq_true (by omega)
    have y6 : fitsB 0 8 = true := rfl
    by_cases hz : m.length = 0
    · have hzz : m = [] := List.eq_nil_of_length_eq_zero hz
      have hz2 : rowsOf (hp'.set n ⟨c', false, []⟩).get 1 (.d (.slice (encI []))) = some (0, [], []) := rowsI _ []
      subst hzz
      refine wkcenkt (And.intro @dI.eq_1 (And.intro @dL.eq_1 (And.intro @hC' (And.intro @rowsI (And.intro @Hp.get_set (And.intro @f1 (And.intro @f2 (And.intro @f3 (And.intro @f4 (And.intro @closeParts.eq_1 (And.intro @closeParts.eq_2 (And.intro @fillV.eq_1 (And.intro @fillV.eq_2 (And.intro @y6 (And.intro @nble_d (And.intro @hz2 @cI.eq_1)))))))))))))))) ?_
      refine ⟨.inr rfl, _, rfl, rfl, by simp, ((gw.set (.inr (Nat.le_refl _))).set (.inr (Nat.le_refl _))).set (.inl (by simp)), n, c', ?_, by simp, .inr (Nat.le_refl _)⟩
      rw [if_pos rfl]
      refine ⟨⟨some 0, by simp, ?_⟩, ?_, by omega⟩
      · rw [Hp.get_set_self]; rfl
      · rw [Hp.get_set_ne _ _ _ _ (by omega), Hp.get_set_self]; rfl
    · have y8 : (0 < m.length) = True := eq_true (by omega)
      have y9 : (m.length ≤ 0) = False := eq_false (by omega)
      have y10 : (m = []) = False := eq_false (fun h => hz (by rw [h]; rfl))
      refine wkcenkt (And.intro @dI.eq_1 (And.intro @dL.eq_1 (And.intro @hC' (And.intro @rowsI (And.intro @Hp.get_set (And.intro @f1 (And.intro @f2 (And.intro @f3 (And.intro @f4 (And.intro @closeParts.eq_1 (And.intro @closeParts.eq_2 (And.intro @fillV.eq_1 (And.intro @fillV.eq_2 (And.intro @y6 (And.intro @nble_d (And.intro @hfit (And.intro @y8 (And.intro @y9 (And.intro @y10 @hz))))))))))))))))))) ?_
      refine ⟨.inr rfl, _, rfl, rfl, by simp <;> omega, ((gw.set (.inr (Nat.le_refl _))).set (.inr (by omega))).set (.inl (by simp)), n + 1, c' + 1, ?_, by simp, .inr (by omega)⟩
      rw [if_pos rfl]
      refine ⟨⟨none, by simp, ?_⟩, ?_, by omega⟩
      · rw [Hp.get_set_self]; rfl
      · rw [Hp.get_set_ne _ _ _ _ (by omega), Hp.get_set_self]

theorem reset_ok {o3 o4 : V} {q : Rt} (hC : hp.get idc = some ⟨gc, false, [V.d (.slice (encI im.enums)), V.d (.slice (encR im.rs)), o3, o4]⟩) (hmain : Thr 27 [.ptr idc gc 0] hp n c (aR q) [] (fun _ => True)) (q1 : idc < n) (hml : q.ini.length ≤ 1000000) :
    ThrN 18 [.ptr idc gc 0] hp n c (.tuple []) [idc] (NewMem im idc gc n n q.ini 0) := by
  have hfit : fitsB q.ini.length 8 = true := by simp [fitsB]; omega
  obtain ⟨r0, hT1, hv, hn, hT2, hki, hfr, _⟩ := hmain.caller (by intro j hj; cases hj)
  simp only [aR, Rt.cells, List.map_cons, List.map_nil] at hv
  have f1 : (n = idc) = False := eq_false (by omega)
  have f2 : (idc < n + 1) = True := eq_true (by omega)
  have hk := (hfr idc q1 (by simp)).trans hC
  refine thrN_wp Tryd.func18 rfl (by kernel_rfl) rfl ?_
  refine wkcenkt (And.intro @envOf.eq_1 (And.intro @envOf.eq_2 (And.intro @dI.eq_1 (And.intro @dL.eq_1 (And.intro @hC (And.intro @hv (And.intro @hn (And.intro @hk (And.intro @rowsI (And.intro @Hp.get_set (And.intro @f1 @f2))))))))))) ?_
  have hw : WI [idc] n hp (addNew n [] (tWr r0 n)) (hp.sets (tWr r0 n)) := WI.refl.sets fun p hp => by have := hki _ (List.mem_map.2 ⟨p, hp, rfl⟩); cases this
  refine ⟨.inl rfl, _, rfl, rfl, by simp, ((hw.set (.inr (Nat.le_refl _))).set (.inl (by simp))).set (.inl (by simp)), n, c + (r0.c - c), ⟨⟨none, by simp, ?_⟩, ?_, by omega⟩, by simp, .inr (Nat.le_refl _)⟩
  · rw [Hp.get_set_self]; rfl
  · rw [Hp.get_set_ne _ _ _ _ (by omega), Hp.get_set_ne _ _ _ _ (by omega), Hp.get_set_self]
theorem rreset_ok {o3 o4 : V} {q : Rt} (hC : hp.get idc = some ⟨gc, false, [V.d (.slice (encI im.enums)), V.d (.slice (encR im.rs)), o3, o4]⟩) (hmain : ∀ hp1 n1 c1, n ≤ n1 → (∀ j, j < n → hp1.get j = hp.get j) → Thr 30 [.ptr idc gc 0] hp1 n1 c1 (aR q) [] (fun _ => True)) (q1 : idc < n) (hml : q.ini.length ≤ 1000000) :
    ThrN 26 [.ptr idc gc 0] hp n c (.tuple []) [idc] (NewMem im idc gc n n q.ini 0) := by
  have hfit : fitsB q.ini.length 8 = true := by simp [fitsB]; omega
  have f1 : (n = idc) = False := eq_false (by omega)
  have f2 : (idc < n + 1) = True := eq_true (by omega)
  have f3 : (n + 1 = idc) = False := eq_false (by omega)
  have f4 : (idc < n + 1 + 1) = True := eq_true (by omega)
  have y6 : fitsB 0 8 = true := rfl
  have hfr0 : ∀ o j, j < n → (hp.set n o).get j = hp.get j := fun o j hj => Hp.get_set_ne _ _ _ _ (by omega)
  obtain ⟨r0, hT1, hv, hn, hT2, hki, hfr, _⟩ := (hmain (hp.set n ⟨c, false, []⟩) (n + 1) (c + 1) (by omega) (hfr0 _)).caller (by intro j hj; cases hj)
  simp only [aR, Rt.cells, List.map_cons, List.map_nil] at hv
  have hk := (hfr idc (by omega) (by simp)).trans ((hfr0 _ idc q1).trans hC)
  have hkn := (hfr n (by omega) (by simp)).trans (Hp.get_set_self hp n ⟨c, false, []⟩)
  have hw : WI [idc] n hp (addNew n (addNew n [] [(n, ⟨c, false, []⟩)]) (tWr r0 (n + 1))) ((hp.set n ⟨c, false, []⟩).sets (tWr r0 (n + 1))) := (WI.refl.set (.inr (Nat.le_refl _))).sets fun p hp => by have := hki _ (List.mem_map.2 ⟨p, hp, rfl⟩); cases this
  refine thrN_wp Tryd.func26 rfl (by kernel_rfl) rfl ?_
  by_cases hz : q.ini.length = 0
  · have hzz : q.ini = [] := List.eq_nil_of_length_eq_zero hz
    rw [hzz] at hv ⊢
    have hz2 : ∀ look, rowsOf look 1 (.d (.slice (encI []))) = some (0, [], []) := fun look => rowsI look []
    refine wkcenkt (And.intro @envOf.eq_1 (And.intro @envOf.eq_2 (And.intro @dI.eq_1 (And.intro @dL.eq_1 (And.intro @hC (And.intro @hv (And.intro @hn (And.intro @hk (And.intro @hkn (And.intro @rowsI (And.intro @Hp.get_set (And.intro @f1 (And.intro @f2 (And.intro @f3 (And.intro @f4 (And.intro @closeParts.eq_1 (And.intro @closeParts.eq_2 (And.intro @fillV.eq_1 (And.intro @fillV.eq_2 (And.intro @y6 (And.intro @nble_d @hz2))))))))))))))))))))) ?_
    refine ⟨.inl rfl, _, rfl, rfl, by simp, ((hw.set (.inr (Nat.le_refl _))).set (.inl (by simp))).set (.inl (by simp)), n, c, ⟨⟨some 0, by simp, ?_⟩, ?_, by omega⟩, by simp, .inr (Nat.le_refl _)⟩
    · rw [Hp.get_set_self]; rfl
    · (rw [Hp.get_set_ne _ _ _ _ (by omega), Hp.get_set_ne _ _ _ _ (by omega), Hp.get_set_self]) <;> rfl
  · have y8 : (0 < q.ini.length) = True := eq_true (by omega)
    have y9 : (q.ini.length ≤ 0) = False := eq_false (by omega)
    have y10 : (q.ini = []) = False := eq_false (fun h => hz (by rw [h]; rfl))
    refine wkcenkt (And.intro @envOf.eq_1 (And.intro @envOf.eq_2 (And.intro @dI.eq_1 (And.intro @dL.eq_1 (And.intro @hC (And.intro @hv (And.intro @hn (And.intro @hk (And.intro @hkn (And.intro @rowsI (And.intro @Hp.get_set (And.intro @f1 (And.intro @f2 (And.intro @f3 (And.intro @f4 (And.intro @closeParts.eq_1 (And.intro @closeParts.eq_2 (And.intro @fillV.eq_1 (And.intro @fillV.eq_2 (And.intro @y6 (And.intro @nble_d (And.intro @hfit (And.intro @y8 (And.intro @y9 (And.intro @y10 @hz))))))))))))))))))))))))) ?_
    refine ⟨.inl rfl, _, rfl, rfl, by simp <;> omega, ((hw.set (.inr (by omega))).set (.inl (by simp))).set (.inl (by simp)), n + 1, c + 1 + (r0.c - (c + 1)), ⟨⟨none, by simp, ?_⟩, ?_, by omega⟩, by simp, .inr (by omega)⟩
    · rw [Hp.get_set_self]; rfl
    · rw [Hp.get_set_ne _ _ _ _ (by omega), Hp.get_set_ne _ _ _ _ (by omega), Hp.get_set_self]
end
end Go.Ac
end

section
set_option maxRecDepth 4000
set_option linter.unusedSimpArgs false
set_option linter.unusedVariables false
namespace Go.Ac
open Go.Proofs

theorem toDs_d (look : Look) (f : Nat) : ∀ l : List D, toDs (toD look f) (l.map V.d) = some (l, [])
  | [] => rfl
  | x :: r => by
    have h1 := toDs_d look f r
    have h2 : toD look f (.d x) = some (x, []) := by cases f <;> rfl
    simp only [List.map_cons, toDs, h1, h2]; rfl
theorem chunk_flat {sz : Nat} : ∀ {l : List (List D)}, (∀ r ∈ l, r.length = sz) → chunk sz l.length l.flatten = l
  | [], _ => rfl
  | r :: l, h => by
    have h1 := h r (by simp)
    have ih := chunk_flat (l := l) (fun x hx => h x (by simp [hx]))
    simp only [List.length_cons, List.flatten_cons, chunk]
    rw [List.take_append_of_le_length (by omega), List.drop_append_of_le_length (by omega), ← h1, List.take_length, List.drop_length, List.nil_append, h1, ih]
def cC (l : List I) : List V := (encC l).flatten.map .d
def cR (l : List Rt) : List V := (encR l).flatten.map .d
theorem encC_row (l : List I) : ∀ r ∈ encC l, r.length = 5 := by
  unfold encC; intro r hr; obtain ⟨x, _, rfl⟩ := List.mem_map.1 hr; rfl
theorem encR_row (l : List Rt) : ∀ r ∈ encR l, r.length = 6 := by
  unfold encR; intro r hr; obtain ⟨x, _, rfl⟩ := List.mem_map.1 hr; rfl
theorem flat_len {sz : Nat} : ∀ {l : List (List D)}, (∀ r ∈ l, r.length = sz) → l.flatten.length = l.length * sz
  | [], _ => by simp
  | r :: l, h => by
    have h1 := h r (by simp)
    have ih := flat_len (l := l) (fun x hx => h x (by simp [hx]))
    simp [ih, h1, Nat.add_mul]; omega
theorem cC_len (l : List I) : (cC l).length = l.length * 5 := by unfold cC; rw [List.length_map, flat_len (encC_row l), encC_len]
theorem cR_len (l : List Rt) : (cR l).length = l.length * 6 := by unfold cR; rw [List.length_map, flat_len (encR_row l), encR_len]
theorem rowsC (look : Look) (l : List I) : rowsOf look 5 (.d (.slice (encC l))) = some (l.length, cC l, []) := by
  have : (encC l).all (fun r => Nat.beq r.length 5) = true := by rw [List.all_eq_true]; intro r hr; rw [encC_row l r hr]; rfl
  simp only [rowsOf, this, if_true, encC_len]; rfl
theorem toDs_cc (look : Look) (f : Nat) (l : List I) : toDs (toD look f) (cC l) = some ((encC l).flatten, []) := toDs_d look f _
theorem chunkC (l : List I) : chunk 5 l.length (encC l).flatten = encC l := by
  have := chunk_flat (encC_row l); rwa [encC_len] at this
theorem toDs_cr (look : Look) (f : Nat) (l : List Rt) : toDs (toD look f) (cR l) = some ((encR l).flatten, []) := toDs_d look f _
theorem chunkR (l : List Rt) : chunk 6 l.length (encR l).flatten = encR l := by
  have := chunk_flat (encR_row l); rwa [encR_len] at this
theorem cC_take (l : List I) : (cC l).take (l.length * 5) = cC l := by rw [← cC_len, List.take_length]
theorem cR_take (l : List Rt) : (cR l).take (l.length * 6) = cR l := by rw [← cR_len, List.take_length]
theorem cR_snoc (l : List Rt) (r : Rt) : cR l ++ r.cells.map .d = cR (l ++ [r]) := by
  unfold cR encR; simp

set_option maxHeartbeats 4000000 in
theorem copied_im (im : Im) (hs : im.sz ≤ MB) : den Tryd.prog Cp.cfg 24 [aM im] = some (aM im) := by
  have hrl := im.len_rs
  have hel : im.enums.length ≤ im.sz := by unfold Im.sz; omega
  unfold MB at hs
  have hfe : fitsB im.enums.length 8 = true := by simp [fitsB]; omega
  refine den_wp Tryd.func24 rfl (by kernel_rfl) rfl rfl ?_
  refine wkcn (And.intro @dI.eq_1 (And.intro @aM.eq_1 (And.intro @Im.cells.eq_1 (And.intro @rowsI (And.intro @cI_len (And.intro @fillV.eq_1 @fillV.eq_2)))))) ?_
  apply WP.loop' (I := fun D s => ∃ (j g : Nat), j + D = im.rs.length ∧ ∃ c', s = ⟨[(2, .ptr 1 1 0), (3, .ptr 3 3 0), (11, .d (.slice (encR im.rs))), (12, dI im.rs.length), (13, dI j)], [(0, ⟨0, false, [.d (.slice (encI im.enums)), .d (.slice (encR im.rs))]⟩), (1, ⟨1, false, [.full [], .full []]⟩), (2, ⟨2, false, cI im.enums⟩), (3, ⟨3, false, [.osl 2 2 0 im.enums.length 1 none, .osl 4 g 0 j 6 none]⟩), (4, ⟨g, false, cR (im.rs.take j)⟩)], 5, c', 0, []⟩) (d := im.rs.length)
  · exact ⟨0, 4, by simp, 5, by rfl⟩
  rintro D _ ⟨j, g, hj, c', rfl⟩
  refine wkn (@dI.eq_1) ?_
  show WP _ _ _ _ _ _
  refine WP.cond _ rfl (fun hb => ?_) (fun hb => ?_)
  · simp at hb
    have hb' : j < im.rs.length := hb
    obtain ⟨r, hr, hm, hix⟩ := at_lt hb'
    have hr' := encR_at hr
    have hw := w_succ hb' (by omega)
    have hsz := Im.mem_rs hm
    unfold Rt.sz at hsz
    have f1 : fitsB r.inn.length 8 = true := by simp [fitsB]; omega
    have f2 : fitsB r.out.length 8 = true := by simp [fitsB]; omega
    have f3 : fitsB r.ini.length 8 = true := by simp [fitsB]; omega
    have f4 : fitsB r.code.length 40 = true := by simp [fitsB]; omega
    have f5 : fitsB (j + 1) 120 = true := by simp [fitsB]; omega
    have htl : (im.rs.take j).length = j := by simp; omega
    have hcl : (cR (im.rs.take j)).length = j * 6 := by rw [cR_len, htl]
    have hct : (cR (im.rs.take j)).take (j * 6) = cR (im.rs.take j) := by rw [← hcl, List.take_length]
    have hsn := cR_snoc (im.rs.take j) r
    simp only [Rt.cells, List.map_cons, List.map_nil] at hsn
    have hts : im.rs.take j ++ [r] = im.rs.take (j + 1) := by rw [List.take_add_one, hr]; rfl
    rw [hts] at hsn
    refine wkcn (And.intro @dI.eq_1 (And.intro @hix (And.intro @hr' (And.intro @Rt.cells.eq_1 (And.intro @rowsI (And.intro @rowsC (And.intro @fillV.eq_1 (And.intro @fillV.eq_2 (And.intro @cI_len (And.intro @cC_len (And.intro @cI_take (And.intro @cC_take (And.intro @toD_dep (And.intro @toDs.eq_1 (And.intro @toDs.eq_2 (And.intro @toDs_ci (And.intro @toDs_cc (And.intro @chunkI (And.intro @chunkC (And.intro @nble_d (And.intro @closeParts.eq_1 (And.intro @closeParts.eq_2 (And.intro @cl2.eq_def (And.intro @f5 (And.intro @hcl (And.intro @hct @hsn)))))))))))))))))))))))))) ?_
    refine loop_next (by simp [hw]; exact Is.rfl) ?_
    exact ⟨D - 1, by omega, j + 1, _, by omega, _, by rfl⟩
  · simp at hb
    have hje : j = im.rs.length := by omega
    subst hje
    rw [List.take_length]
    refine wkcn (@dI.eq_1) ?_
    have h1 : ∀ look : Look, look 2 = some ⟨2, false, cI im.enums⟩ → toD look depthD (.osl 2 2 0 im.enums.length 1 none) = some (.slice (encI im.enums), [2]) := fun look hl => by
      have h2 : live look 2 2 = some ⟨2, false, cI im.enums⟩ := by simp [live, hl]
      rw [toD_dep, h2]
      simp only [Nat.zero_add, Nat.mul_one, List.drop_zero, nble_d, cI_len, cI_take, toDs_ci]
      simp [chunkI]
    have h3 : ∀ look : Look, look 4 = some ⟨g, false, cR im.rs⟩ → toD look depthD (.osl 4 g 0 im.rs.length 6 none) = some (.slice (encR im.rs), [4]) := fun look hl => by
      have h2 : live look 4 g = some ⟨g, false, cR im.rs⟩ := by simp [live, hl]
      rw [toD_dep, h2]
      simp only [Nat.zero_add, List.drop_zero, nble_d, cR_len, cR_take, toDs_cr]
      simp [chunkR]
    obtain ⟨H, hH⟩ : ∃ H : Hp, H = [(0, ⟨0, false, [.d (.slice (encI im.enums)), .d (.slice (encR im.rs))]⟩), (1, ⟨1, false, [.osl 2 2 0 im.enums.length 1 none, .osl 4 g 0 im.rs.length 6 none]⟩), (2, ⟨2, false, cI im.enums⟩), (3, ⟨3, false, [.osl 2 2 0 im.enums.length 1 none, .osl 4 g 0 im.rs.length 6 none]⟩), (4, ⟨g, false, cR im.rs⟩)] := ⟨_, rfl⟩
    have e1 := h1 H.get (by rw [hH]; rfl)
    have e3 := h3 H.get (by rw [hH]; rfl)
    refine ⟨.inr rfl, _, [2, 4], by simp [resultsV, resultV, loadV, readV]; rfl, ?_⟩
    show closeT (Hp.get _) (.agg [.osl 2 2 0 im.enums.length 1 none, .osl 4 g 0 im.rs.length 6 none]) = _
    rw [← hH]
    simp only [closeT, close, closeVs, close1, e1, e3, ofD]
    rfl
end Go.Ac
end

section
set_option maxRecDepth 4000
set_option linter.unusedSimpArgs false
set_option linter.unusedVariables false
namespace Go.Ac
open Go.Proofs

/-- The fields of an operation, as the reference writes them. -/
def fsO (op : Int) : List UInt8 := match op with | 5 => [65, 66, 67] | 6 => [65, 66, 67, 68] | 7 => [66] | 9 => [65, 66, 67, 68] | _ => [65, 66]
theorem rfields_den {op : Int} (h : IsO op) : den Tryd.prog Cp.cfg 67 [dI op] = some (dS (fsO op)) := by
  rcases h with rfl | rfl | rfl | rfl | rfl | rfl | rfl | rfl | rfl | rfl <;> exact den_k 100 (fun k => by kernel_rfl) rfl
theorem rwithin_den (a n most : Int) (hn : 0 ≤ n) (hm : most ≤ 9223372036854775807) : den Tryd.prog Cp.cfg 69 [dI a, dI n, dI most] = some (dB (wthn a n most)) := by
  refine den_wp Tryd.func69 rfl (by kernel_rfl) rfl rfl ?_
  by_cases h0 : 0 ≤ a
  · by_cases h1 : a ≤ most
    · have h0' : (0 ≤ a) = True := by simp [h0]
      have h1' : (a ≤ most) = True := by simp [h1]
      have hw : IntKind.i64.wrap (most - a) = most - a := by rw [w_id'] <;> omega
      refine wkc (And.intro @dI.eq_1 (And.intro @h0' (And.intro @h1' @hw))) ?_
      show retQ _ _ _ _ _
      exact ⟨.inr rfl, _, _, rfl, by simp [wthn, h0, h1]; rfl⟩
    · have h0' : (0 ≤ a) = True := by simp [h0]
      have h1' : (a ≤ most) = False := by simp [h1]
      refine wkc (And.intro @dI.eq_1 (And.intro @h0' @h1')) ?_
      show retQ _ _ _ _ _
      exact ⟨.inr rfl, _, _, rfl, by simp [wthn, h0, h1]; rfl⟩
  · have h0' : (0 ≤ a) = False := by simp [h0]
    refine wkc (And.intro @dI.eq_1 @h0') ?_
    show retQ _ _ _ _ _
    exact ⟨.inr rfl, _, _, rfl, by simp [wthn, h0]; rfl⟩
end Go.Ac
end

section
set_option maxRecDepth 4000
set_option linter.unusedSimpArgs false
set_option linter.unusedVariables false
namespace Go.Ac
open Go.Proofs

def hasB (op : Int) (c : UInt8) : Bool := (fsO op).any (· == c)
theorem has_den {op : Int} (h : IsO op) {c : UInt8} (hc : c = 65 ∨ c = 66 ∨ c = 67 ∨ c = 68) : den Tryd.prog Cp.cfg 66 [dS (fsO op), .d (.int .u8 c.toNat)] = some (dB (hasB op c)) := by
  rcases hc with rfl | rfl | rfl | rfl <;> rcases h with rfl | rfl | rfl | rfl | rfl | rfl | rfl | rfl | rfl | rfl <;> exact den_k 100 (fun k => by kernel_rfl) rfl
def xO (i : I) (c : UInt8) : Int := if c = 65 then i.a else if c = 66 then i.b else if c = 67 then i.c else i.d
theorem rfield_den (i : I) {c : UInt8} (hc : c = 65 ∨ c = 66 ∨ c = 67 ∨ c = 68) : den Tryd.prog Cp.cfg 68 [aI i, .d (.int .u8 c.toNat)] = some (dI (xO i c)) := by
  refine den_wp Tryd.func68 rfl (by kernel_rfl) rfl rfl ?_
  rcases hc with rfl | rfl | rfl | rfl
  all_goals
    refine wkc (And.intro @aI.eq_1 @I.cells.eq_1) ?_
    show retQ _ _ _ _ _
    exact ⟨.inr rfl, _, _, rfl, rfl⟩
end Go.Ac
end
