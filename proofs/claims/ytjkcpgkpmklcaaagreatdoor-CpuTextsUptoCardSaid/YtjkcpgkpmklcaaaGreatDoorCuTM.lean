/- The machines: New. -/
import Derived.Test.YtjkcpgkpmklcaaaGreatDoorCtQM
import Derived.Test.YtjkcpgkpmklcaaaGreatDoorCuIM
set_option linter.unusedVariables false
set_option linter.unusedSimpArgs false
section
set_option maxRecDepth 4000
namespace Go.Ac
open Go.Proofs

/-- A machine: its object and its memory. -/
structure Mc (im : Im) (hp : Hp) (idc gc mid mg : Nat) (mem : List Int) (cnt : Int) : Prop where
 c : ∃ cap, mem.length ≤ cap.getD mem.length ∧ hp.get idc = some ⟨gc, false, [V.d (.slice (encI im.enums)), V.d (.slice (encR im.rs)), .osl mid mg 0 mem.length 1 cap, dI cnt]⟩
 m : hp.get mid = some ⟨mg, false, cI mem⟩
 ne : idc ≠ mid
theorem Mc.same {im : Im} {hp hp' : Hp} {idc gc mid mg : Nat} {mem : List Int} {cnt : Int} (h : Mc im hp idc gc mid mg mem cnt) (h1 : hp'.get idc = hp.get idc) (h2 : hp'.get mid = hp.get mid) : Mc im hp' idc gc mid mg mem cnt := by
 obtain ⟨⟨cap, hc, h3⟩, h4, h5⟩ := h
 exact ⟨⟨cap, hc, h1.trans h3⟩, h2.trans h4, h5⟩
/-- A value of a type. -/
def fitsV (en : List Int) (t v : Int) : Bool := if t = 1 then decide (v = 0) || decide (v = 1) else if t = 2 then decide (-32768 ≤ v) && decide (v ≤ 32767) else decide (0 ≤ v) && decide (v < rgv en (t - 3))
theorem closeT_agg {look : Look} (r : Rt) : closeT look (aR r) = some (aR r, []) := rfl
section
variable {im : Im} {hp : Hp} {n c idc gc mid mg : Nat} {mem : List Int} {cnt : Int}

set_option maxHeartbeats 1000000 in
theorem main_c {q : Rt} {o3 o4 : V} (hC : hp.get idc = some ⟨gc, false, [V.d (.slice (encI im.enums)), V.d (.slice (encR im.rs)), o3, o4]⟩) (q1 : idc < n) (hq : im.rs[im.rs.length - 1]? = some q) (hl : im.rs.length ≤ 1000000) : Thr 24 [.ptr idc gc 0] hp n c (aR q) [] (fun _ => True) := by
 have hlt : im.rs.length - 1 < im.rs.length := by obtain ⟨h, _⟩ := List.getElem?_eq_some_iff.1 hq; exact h
 have hq' := encR_at hq
 have hix := idx_lt hlt
 have hw : IntKind.i64.wrap ((im.rs.length : Int) - 1) = ((im.rs.length - 1 : Nat) : Int) := by rw [w_id'] <;> omega
 have f1 : (n = idc) = False := eq_false (by omega)
 refine thr_wp Tryz.func24 rfl (by kernel_rfl) rfl ?_
 refine wkcenkt (jn @envOf.eq_1 (jn @envOf.eq_2 (jn @dI.eq_1 (jn @Hp.get_set (jn @f1 (jn @hC (jn @hw (jn @hix (jn @hq' @Rt.cells.eq_1))))))))) ?_
 refine ⟨.inr rfl, _, [], by simp [resultsV, resultV, Hp.get_set]; rfl, closeT_agg q, rfl, ((WI.refl.set (.inr (by omega))).set (.inr (by omega))), trivial⟩
theorem main_ok {q : Rt} (hM : Mc im hp idc gc mid mg mem cnt) (q1 : idc < n) (hq : im.rs[im.rs.length - 1]? = some q) (hl : im.rs.length ≤ 1000000) : Thr 24 [.ptr idc gc 0] hp n c (aR q) [] (fun _ => True) := by
 obtain ⟨⟨cap, hcap, hC⟩, hm, d2⟩ := hM
 exact main_c hC q1 hq hl

set_option maxHeartbeats 1000000 in
theorem fits_ok (hM : Mc im hp idc gc mid mg mem cnt) (q1 : idc < n) (t v : Int) (ht : typOK im.enums t = true) (hel : im.enums.length ≤ 1000000) : Thr 25 [.ptr idc gc 0, dI t, dI v] hp n c (dB (fitsV im.enums t v)) [] (fun _ => True) := by
 obtain ⟨⟨cap, hcap, hC⟩, hm, d2⟩ := hM
 have hin := in_den v
 simp only [dI, dB] at hin
 refine thr_wp Tryz.func25 rfl (by kernel_rfl) rfl ?_
 by_cases h1 : t = 1
 ·subst h1
  by_cases v0 : v = 0
  ·subst v0
   refine wkcenkt (jn @envOf.eq_1 (jn @envOf.eq_2 @dI.eq_1)) ?_
   exact ⟨.inr rfl, _, [], rfl, rfl, rfl, WI.refl, trivial⟩
  ·refine wkcenkt (jn @envOf.eq_1 (jn @envOf.eq_2 (jn @dI.eq_1 (jn @v0 @int_beq)))) ?_
   refine ⟨.inr rfl, _, [], rfl, ?_, rfl, WI.refl, trivial⟩
   simp [fitsV, v0]; rfl
 by_cases h2 : t = 2
 ·subst h2
  by_cases v0 : -32768 ≤ v
  ·have v0' : (-32768 ≤ v) = True := eq_true v0
   refine wkcenkt (jn @envOf.eq_1 (jn @envOf.eq_2 (jn @dI.eq_1 (jn @hin @v0')))) ?_
   refine ⟨.inr rfl, _, [], rfl, ?_, rfl, WI.refl, trivial⟩
   simp [fitsV, v0']; rfl
  ·have v0' : (-32768 ≤ v) = False := eq_false v0
   refine wkcenkt (jn @envOf.eq_1 (jn @envOf.eq_2 (jn @dI.eq_1 (jn @hin @v0')))) ?_
   refine ⟨.inr rfl, _, [], rfl, ?_, rfl, WI.refl, trivial⟩
   simp [fitsV, v0']; rfl
 have ht3 : 3 ≤ t ∧ t - 3 < im.enums.length := by
  simp [typOK, h1, h2] at ht; exact ht
 obtain ⟨k, hk⟩ : ∃ k : Nat, t - 3 = k := ⟨(t - 3).toNat, by omega⟩
 have hkl : k < im.enums.length := by omega
 have hw : IntKind.i64.wrap (t - 3) = (k : Int) := by rw [w_id'] <;> omega
 have hix := idx_lt hkl
 have he := encI_at (rgv_at hkl)
 by_cases v0 : 0 ≤ v
 ·have v0' : (0 ≤ v) = True := eq_true v0
  refine wkcenkt (jn @envOf.eq_1 (jn @envOf.eq_2 (jn @dI.eq_1 (jn @h1 (jn @h2 (jn @int_beq (jn @v0' (jn @hC (jn @hw (jn @hix @he)))))))))) ?_
  refine ⟨.inr rfl, _, [], rfl, ?_, rfl, WI.refl, trivial⟩
  simp [fitsV, h1, h2, v0', hk]; rfl
 ·have v0' : (0 ≤ v) = False := eq_false v0
  refine wkcenkt (jn @envOf.eq_1 (jn @envOf.eq_2 (jn @dI.eq_1 (jn @h1 (jn @h2 (jn @int_beq (jn @v0' (jn @hC (jn @hw (jn @hix @he)))))))))) ?_
  refine ⟨.inr rfl, _, [], rfl, ?_, rfl, WI.refl, trivial⟩
  simp [fitsV, h1, h2, v0']; rfl

end
end Go.Ac
end

section
set_option maxRecDepth 4000
namespace Go.Ac
open Go.Proofs

theorem blockQ_rt {i : Nat} {Q : Ex → St → Prop} {t : St} (h : Q .ret t) : blockQ i Q .ret t := h
theorem seqQ_rt {P : Program} {cfg : Cfg} {fid : FuncId} {b : Code} {Q : Ex → St → Prop} {t : St} (h : Q .ret t) : seqQ P cfg fid b Q .ret t := h
theorem loopQ_rt {cfg : Cfg} {fid : FuncId} {s : St} {I : St → Prop} {Q : Ex → St → Prop} {t : St} (h : Q .ret t) : loopQ cfg fid s I Q .ret t := h
/-- An image that has passed the check. -/
structure GoodIm (im : Im) : Prop where
 ok : OkM im.rs
 cl : ∀ q ∈ im.rs, q.code.length ≤ 900000
 il : ∀ q ∈ im.rs, q.ini.length ≤ 900000
 nl : ∀ q ∈ im.rs, q.inn.length ≤ 900000
 rl : im.rs.length ≤ 900000
 ne : 0 < im.rs.length
 el : im.enums.length ≤ 900000
 ty : ∀ q ∈ im.rs, ∀ t ∈ q.inn, typOK im.enums t = true
 ini : ∀ q ∈ im.rs, ∀ v ∈ q.ini, -32768 ≤ v ∧ v ≤ 32767
 en : ∀ v ∈ im.enums, v ≤ 16
def lastR (im : Im) : Rt := im.rs.getD (im.rs.length - 1) rtZ
theorem GoodIm.last {im : Im} (h : GoodIm im) : im.rs[im.rs.length - 1]? = some (lastR im) := by
 have h1 := h.ne
 have h2 : im.rs.length - 1 < im.rs.length := by omega
 unfold lastR
 simp [List.getD, h2]
theorem GoodIm.mem {im : Im} (h : GoodIm im) : lastR im ∈ im.rs := List.mem_of_getElem? h.last
def fitsL (en : List Int) : List Int → List Int → Bool
 | t :: ts, v :: vs => fitsV en t v && fitsL en ts vs
 | _, _ => true
theorem fitsL_step {en ts vs : List Int} {j : Nat} {t v : Int} (h1 : ts[j]? = some t) (h2 : vs[j]? = some v) : fitsL en (ts.drop j) (vs.drop j) = (fitsV en t v && fitsL en (ts.drop (j + 1)) (vs.drop (j + 1))) := by
 obtain ⟨a1, a2⟩ := List.getElem?_eq_some_iff.1 h1
 obtain ⟨b1, b2⟩ := List.getElem?_eq_some_iff.1 h2
 rw [List.drop_eq_getElem_cons a1, List.drop_eq_getElem_cons b1, a2, b2]; rfl
/-- What a step gives; the memory and the count afterwards. -/
def stepR (im : Im) (mem : List Int) (cnt : Int) (row : List Int) : List Int × Int × List Int × Int :=
 if row.length ≠ (lastR im).inn.length then ([], 9, mem, cnt)
 else if fitsL im.enums (lastR im).inn row = false then ([], 14, mem, cnt)
 else ((callM im.rs im.rs.length (im.rs.length - 1) 0 row mem).1, 0, (callM im.rs im.rs.length (im.rs.length - 1) 0 row mem).2.1, IntKind.i64.wrap (callM im.rs im.rs.length (im.rs.length - 1) 0 row mem).2.2)

section
variable {im : Im} {hp : Hp} {n c idc gc mid mg : Nat} {mem row : List Int} {cnt : Int}
set_option maxHeartbeats 4000000 in
theorem step_den (hG : GoodIm im) (hM : Mc im hp idc gc mid mg mem cnt) (q1 : idc < n) (q2 : mid < n) (hml : mem.length = (lastR im).ini.length) (hrow : row.length ≤ 4194304) :
  Thr 9 [.ptr idc gc 0, dL row] hp n c (.tuple [dL (stepR im mem cnt row).1, dI (stepR im mem cnt row).2.1]) [idc, mid] (fun hp' => Mc im hp' idc gc mid mg (stepR im mem cnt row).2.2.1 (stepR im mem cnt row).2.2.2) := by
 have hM0 := hM
 obtain ⟨⟨cap, hcap, hC⟩, hm, d2⟩ := hM
 have hq := hG.last
 have hil := hG.il _ hG.mem
 have hnl := hG.nl _ hG.mem
 have hrl := hG.rl
 have hel := hG.el
 have hgd := hG.ok _ _ hq
 obtain ⟨q, hqd⟩ : ∃ q, q = lastR im := ⟨_, rfl⟩
 rw [← hqd] at hq hil hnl hml hgd
 unfold stepR
 rw [← hqd]
 refine thr_wp Tryz.func9 rfl (by kernel_rfl) rfl ?_
 obtain ⟨r0, hT1, hv, hn, hT2, hki, hfr, _⟩ := (main_ok (c := c) hM0 q1 hq (by omega)).caller (by intro j hj; cases hj)
 simp only [aR, Rt.cells, List.map_cons, List.map_nil] at hv
 have f1 : (n = idc) = False := eq_false (by omega)
 by_cases hl : row.length = q.inn.length
 case neg =>
  rw [if_pos hl]
  have hl2 : ((row.length : Int) = q.inn.length) = False := eq_false (by omega)
  refine wkcekt (jn @envOf.eq_1 (jn @envOf.eq_2 (jn @dI.eq_1 (jn @dL.eq_1 (jn @hC (jn @hv (jn @hn (jn @Hp.get_set (jn @int_bne (jn @hl2 @hl)))))))))) ?_
  have hw : WI [idc, mid] n hp (addNew n [] (tWr r0 n)) (hp.sets (tWr r0 n)) := WI.refl.sets fun p hp => by have := hki _ (List.mem_map.2 ⟨p, hp, rfl⟩); cases this
  have hgt : ∀ o o' j, j < n → (Hp.trunc n (((hp.sets (tWr r0 n)).set n o).set n o')).get j = hp.get j := fun o o' j hj => by
   rw [Hp.get_trunc _ _ _ hj, Hp.get_set_ne _ _ _ _ (by omega), Hp.get_set_ne _ _ _ _ (by omega), hfr j hj (by simp)]
  exact ⟨.inr rfl, _, [], rfl, rfl, rfl, (hw.set (.inr (Nat.le_refl _))).set (.inr (Nat.le_refl _)), hM0.same (hgt _ _ _ q1) (hgt _ _ _ q2)⟩
 rw [if_neg (by simp [hl])]
 have hl2 : ((row.length : Int) = q.inn.length) = True := eq_true (by omega)
 refine wkcekt (jn @envOf.eq_1 (jn @envOf.eq_2 (jn @dI.eq_1 (jn @dL.eq_1 (jn @hC (jn @hv (jn @hn (jn @Hp.get_set (jn @int_bne (jn @hl2 @hl)))))))))) ?_
 apply WP.gen
 intro hp1 wl1 hhp hwl
 have w1 : WI [idc, mid] n hp wl1 hp1 := by
  have hw : WI [idc, mid] n hp (addNew n [] (tWr r0 n)) (hp.sets (tWr r0 n)) := WI.refl.sets fun p hp => by have := hki _ (List.mem_map.2 ⟨p, hp, rfl⟩); cases this
  rw [hhp, hwl]
  exact (hw.set (.inr (Nat.le_refl _))).set (.inr (Nat.le_refl _))
 have g1 : ∀ j, j < n → hp1.get j = hp.get j := fun j hj => by
  rw [hhp, Hp.get_set_ne _ _ _ _ (by omega), Hp.get_set_ne _ _ _ _ (by omega), hfr j hj (by simp)]
 obtain ⟨gq, hgq⟩ : ∃ g, g = c + (r0.c - c) := ⟨_, rfl⟩
 have k1 : hp1.get n = some ⟨gq, false, [V.d (D.str q.nm), V.d (D.slice (encI q.inn)), V.d (D.slice (encI q.out)), V.d (D.int IntKind.i64 q.regs), V.d (D.slice (encI q.ini)), V.d (D.slice (encC q.code))]⟩ := by rw [hhp, hgq, Hp.get_set_self]
 rw [← hgq]
 clear hhp hwl hT1 hT2 hki hfr hv hn
 have hfit : ∀ t ∈ q.inn, typOK im.enums t = true := by rw [hqd]; exact hG.ty _ hG.mem
 apply WP.loop' (I := fun d s => ∃ (j : Nat) (hp' : Hp) (c' : Nat) (wl' : List Nat), j + d = q.inn.length ∧ fitsL im.enums q.inn row = fitsL im.enums (q.inn.drop j) (row.drop j) ∧ (∀ t, t < n + 1 → hp'.get t = hp1.get t) ∧ WI [idc, mid] n hp wl' hp' ∧
  s = ⟨[(0, .ptr idc gc 0), (1, dL row), (6, .ptr n gq 0), (21, dL row), (22, dI q.inn.length), (23, dI j)], hp', n + 1, c', n, wl'⟩) (d := q.inn.length)
 ·exact ⟨0, hp1, _, wl1, by simp, rfl, fun _ _ => rfl, w1, by rfl⟩
 rintro d _ ⟨j, hp', c', wl', h1, h2, h3, h4, rfl⟩
 have h3n := (h3 n (by omega)).trans k1
 have hMc : Mc im hp' idc gc mid mg mem cnt := hM0.same ((h3 _ (by omega)).trans (g1 _ q1)) ((h3 _ (by omega)).trans (g1 _ q2))
 refine wkekt (jn @dI.eq_1 @dL.eq_1) ?_
 show WP _ _ _ _ _ _
 refine WP.cond _ rfl (fun hb => ?_) (fun hb => ?_)
 ·simp at hb
  have hb' : j < q.inn.length := hb
  obtain ⟨t, ht, htm, hix⟩ := at_lt hb'
  have htv := encI_at ht
  have hjr : j < row.length := by omega
  have hv0 := rgv_at hjr
  have hvv := encI_at hv0
  have hix2 := idx_lt hjr
  have hst := fitsL_step (en := im.enums) ht hv0
  rw [← h2] at hst
  have hw2 := w_succ hb' (by omega)
  obtain ⟨r1, hT1, hv, hn, hT2, hki, hfr, _⟩ := (fits_ok (c := c') hMc (n := n + 1) (by omega) t (rgv row j) (hfit t htm) (by omega)).caller (by intro j hj; cases hj)
  simp only [dI] at hT1
  simp only [dB] at hv
  cases hf : fitsV im.enums t (rgv row j) with
  | false =>
   rw [hf] at hv hst
   rw [Bool.false_and] at hst
   rw [hst, if_pos rfl]
   refine wkcekt (jn @dI.eq_1 (jn @dL.eq_1 (jn @h3n (jn @hix (jn @htv (jn @hix2 (jn @hvv (jn @hv @hn)))))))) ?_
   repeat (first | with_reducible apply blockQ_rt | with_reducible apply seqQ_rt | with_reducible apply loopQ_rt)
   have hgt : ∀ j, j < n → (Hp.trunc n (hp'.sets (tWr r1 (n + 1)))).get j = hp.get j := fun j hj => by
    rw [Hp.get_trunc _ _ _ hj, hfr j (by omega) (by simp), h3 j (by omega), g1 j hj]
   exact ⟨.inr rfl, _, [], rfl, rfl, rfl, h4.sets (fun p hp => by have := hki _ (List.mem_map.2 ⟨p, hp, rfl⟩); cases this), hM0.same (hgt _ q1) (hgt _ q2)⟩
  | true =>
   rw [hf] at hv hst
   rw [Bool.true_and] at hst
   refine wkcekt (jn @dI.eq_1 (jn @dL.eq_1 (jn @h3n (jn @hix (jn @htv (jn @hix2 (jn @hvv (jn @hv @hn)))))))) ?_
   refine loop_next (by simp [-addNew, hw2]; exact Is.rfl) ?_
   refine ⟨d - 1, by omega, j + 1, _, _, _, by omega, hst, fun t ht => ?_, (h4.sets (fun p hp => by have := hki _ (List.mem_map.2 ⟨p, hp, rfl⟩); cases this)).trunc (m := n + 1) (by omega), by rfl⟩
   rw [Hp.get_trunc _ _ _ ht, hfr t ht (by simp), h3 t ht]
 ·simp at hb
  have hje : j = q.inn.length := by omega
  rw [hje, List.drop_of_length_le (Nat.le_refl _)] at h2
  have h2' : fitsL im.enums q.inn row = true := h2
  rw [h2', if_neg (by simp)]
  refine wkcekt (jn @dI.eq_1 (jn @dL.eq_1 @h3n)) ?_
  apply WP.gen
  intro hp2 wl2 hhp2 hwl2
  have w2 : WI [idc, mid] n hp wl2 hp2 := by
   rw [hhp2, hwl2]
   exact (h4.set (.inr (by omega))).set (.inr (by omega))
  have g2 : ∀ j, j < n + 1 → hp2.get j = hp'.get j := fun j hj => by
   rw [hhp2, Hp.get_set_ne _ _ _ _ (by omega), Hp.get_set_ne _ _ _ _ (by omega)]
  have kk : hp2.get (n + 1) = some ⟨c', false, [V.d (D.int IntKind.i64 0)]⟩ := by rw [hhp2, Hp.get_set_self]
  have kn := (g2 n (by omega)).trans h3n
  have kc := ((g2 idc (by omega)).trans ((h3 idc (by omega)).trans (g1 idc q1))).trans hC
  have km := ((g2 mid (by omega)).trans ((h3 mid (by omega)).trans (g1 mid q2))).trans hm
  have ko : ∀ j, j < n → hp2.get j = hp.get j := fun j hj => (g2 j (by omega)).trans ((h3 j (by omega)).trans (g1 j hj))
  clear hhp2 hwl2
  have hx := exec_all hG.ok hG.cl im.rs.length (im.rs.length - 1) q (by have := hG.ne; omega) hq hp2 (n + 2) (c' + 1) idc gc mid mg (n + 1) c' 0 cap (dL row) row mem 0 ⟨_, _, kc⟩ km kk (by omega) d2 (by omega) (by omega) (by omega) (by omega) (.inl rfl) hl (by omega) (by omega) (eq_true (by rw [← hml]; exact hcap))
  obtain ⟨res, hres⟩ : ∃ r, r = callM im.rs im.rs.length (im.rs.length - 1) 0 row mem := ⟨_, rfl⟩
  have hlen := (callM_ok hG.ok im.rs.length (im.rs.length - 1) q 0 row mem (by have := hG.ne; omega) hq hl (by omega)).2
  rw [← hres] at hx hlen ⊢
  unfold ExecAt at hx
  obtain ⟨r2, hT1, hv, hn, hT2, hki, hfr, hpz, ⟨z1, z2⟩, hsame⟩ := hx.caller (by intro j hj; simp at hj; omega)
  simp only [aR, Rt.cells, List.map_cons, List.map_nil, ← hml] at hT1
  simp only [dL] at hv
  have f2 : (idc < n + 2) = True := eq_true (by omega)
  have m1 := (hsame mid (by omega) (by rw [z1]; rfl)).trans z1
  have m2 := (hsame (n + 1) (by omega) (by rw [z2]; rfl)).trans z2
  have m3 := (hfr idc (by omega) (by simp; omega)).trans kc
  rw [Int.zero_add] at m2
  simp only [dI] at m2
  refine wkcekt (jn @dI.eq_1 (jn @dL.eq_1 (jn @kn (jn @kc (jn @hv (jn @hn (jn @m2 (jn @m3 @f2)))))))) ?_
  have hgt : ∀ o j, j < n → (Hp.trunc n ((hp2.sets (tWr r2 (n + 2))).set idc o)).get j = if idc = j then some o else (hp2.sets (tWr r2 (n + 2))).get j := fun o j hj => by
   rw [Hp.get_trunc _ _ _ hj, Hp.get_set]
  refine ⟨.inr rfl, _, [], rfl, rfl, rfl, (w2.sets fun p hp => ?_).set (.inl (by simp)), ⟨⟨cap, ?_, ?_⟩, ?_, d2⟩⟩
  ·have := hki _ (List.mem_map.2 ⟨p, hp, rfl⟩)
   simp only [List.mem_cons, List.not_mem_nil, or_false] at this ⊢
   rcases this with h | h
   ·exact .inl (.inr h)
   ·exact .inr (by omega)
  ·show res.2.1.length ≤ cap.getD res.2.1.length
   rw [hlen]; exact hcap
  ·rw [hgt _ _ q1, if_pos rfl]
   show _ = some (Ob.mk gc false [V.d (.slice (encI im.enums)), V.d (.slice (encR im.rs)), .osl mid mg 0 res.2.1.length 1 cap, dI (IntKind.i64.wrap res.2.2)])
   rw [hlen]; rfl
  ·rw [hgt _ _ q2, if_neg d2, m1]
end
end Go.Ac
end

section
set_option maxRecDepth 4000
namespace Go.Ac
open Go.Proofs

/-- A call that is handed objects and hands the memory back. -/
def ThrN (f : FuncId) (vs : List V) (hp : Hp) (n c : Nat) (v : V) (ids : List Nat) (Φ : Hp → Nat → Prop) : Prop :=
 ∃ q, lim Tryz.prog Cp.cfg f vs hp n c = some q ∧ q.v = v ∧ n ≤ q.n ∧ WI ids n hp q.wl q.hp ∧ Φ q.hp q.n
def thrNQ (fn : Func) (hp : Hp) (n : Nat) (v : V) (ids0 : List Nat) (Φ : Hp → Nat → Prop) (e : Ex) (t : St) : Prop :=
 (e = .normal ∨ e = .ret) ∧ ∃ rs, resultsV Tryz.prog t fn.results.toList = some rs ∧ tup rs = v ∧ n ≤ t.n ∧ WI ids0 n hp t.wl t.hp ∧ Φ t.hp t.n
theorem thrN_wp {f : FuncId} {fn : Func} {body : Code} {vs : List V} {hp : Hp} {n c : Nat} {v : V} {ids0 : List Nat} {Φ : Hp → Nat → Prop} (hf : Tryz.prog.funcs[f]? = some fn) (hb : fn.body = some body) (hok : (Nat.ble vs.length fn.ntmps && codeOK fn.ntmps body) = true)
  (hthr : Cp.cfg.thr f = true) (h : WP Tryz.prog Cp.cfg f body ⟨envOf 0 vs, hp, n, c, n, []⟩ (thrNQ fn hp n v ids0 Φ)) : ThrN f vs hp n c v ids0 Φ := by
 obtain ⟨w, t, h1, h2⟩ := lim_wp (Q := fun w t => w = v ∧ n ≤ t.n ∧ WI ids0 n hp t.wl t.hp ∧ Φ t.hp t.n) hf hb hok (h.mono fun e t ⟨he, rs, a1, a2, a3, a4, a5⟩ => ⟨he, rs, a1, .inl hthr, a2, a3, a4, a5⟩)
 exact ⟨_, h1, h2.1, h2.2.1, h2.2.2.1, h2.2.2.2⟩
theorem ThrN.caller {f : FuncId} {vs : List V} {hp : Hp} {n c : Nat} {v : V} {ids : List Nat} {Φ : Hp → Nat → Prop} (h : ThrN f vs hp n c v ids Φ) (hids : ∀ j, j ∈ ids → j < n) :
  ∃ q, lim Tryz.prog Cp.cfg f vs hp n c = some q ∧ q.v = v ∧ n ≤ q.n ∧ (∀ k, k ∈ (tWr q n).map (·.1) → k < n + (q.n - n)) ∧ (∀ k, k ∈ (tWr q n).map (·.1) → k ∈ ids ∨ n ≤ k) ∧
   (∀ j, j < n → j ∉ ids → (hp.sets (tWr q n)).get j = hp.get j) ∧ ∃ hp', Φ hp' q.n ∧ ∀ j, j < q.n → (hp'.get j).isSome = true → (hp.sets (tWr q n)).get j = hp'.get j := by
 obtain ⟨q, h1, h2, h3, h4, h5⟩ := h
 exact ⟨q, h1, h2, h3, fun k hk => by have := (tWr_keys h3 h4 hids hk).2; omega, fun k hk => (tWr_keys h3 h4 hids hk).1, fun j hj hn => tWr_old h4 hj hn, q.hp, h5, fun j hj hs => tWr_same h4 hj hs⟩

/-- The machine, its memory anew. -/
def NewMem (im : Im) (idc gc n mid : Nat) (mem : List Int) (cnt : Int) (hp' : Hp) (n' : Nat) : Prop := ∃ mid' mg', Mc im hp' idc gc mid' mg' mem cnt ∧ mid' < n' ∧ (mid' = mid ∨ n ≤ mid')
section
variable {im : Im} {hp : Hp} {n c idc gc mid mg : Nat} {mem m : List Int} {cnt : Int}

theorem reset_ok {o3 o4 : V} {q : Rt} (hC : hp.get idc = some ⟨gc, false, [V.d (.slice (encI im.enums)), V.d (.slice (encR im.rs)), o3, o4]⟩) (hmain : Thr 24 [.ptr idc gc 0] hp n c (aR q) [] (fun _ => True)) (q1 : idc < n) (hml : q.ini.length ≤ 1000000) :
  ThrN 23 [.ptr idc gc 0] hp n c (.tuple []) [idc] (NewMem im idc gc n n q.ini 0) := by
 have hfit : fitsB q.ini.length 8 = true := by simp [fitsB]; omega
 obtain ⟨r0, hT1, hv, hn, hT2, hki, hfr, _⟩ := hmain.caller (by intro j hj; cases hj)
 simp only [aR, Rt.cells, List.map_cons, List.map_nil] at hv
 have f1 : (n = idc) = False := eq_false (by omega)
 have f2 : (idc < n + 1) = True := eq_true (by omega)
 have hk := (hfr idc q1 (by simp)).trans hC
 refine thrN_wp Tryz.func23 rfl (by kernel_rfl) rfl ?_
 refine wkcenkt (jn @envOf.eq_1 (jn @envOf.eq_2 (jn @dI.eq_1 (jn @dL.eq_1 (jn @hC (jn @hv (jn @hn (jn @hk (jn @rowsI (jn @Hp.get_set (jn @f1 @f2))))))))))) ?_
 have hw : WI [idc] n hp (addNew n [] (tWr r0 n)) (hp.sets (tWr r0 n)) := WI.refl.sets fun p hp => by have := hki _ (List.mem_map.2 ⟨p, hp, rfl⟩); cases this
 refine ⟨.inl rfl, _, rfl, rfl, by simp, ((hw.set (.inr (Nat.le_refl _))).set (.inl (by simp))).set (.inl (by simp)), n, c + (r0.c - c), ⟨⟨none, by simp, ?_⟩, ?_, by omega⟩, by simp, .inr (Nat.le_refl _)⟩
 ·rw [Hp.get_set_self]; rfl
 ·rw [Hp.get_set_ne _ _ _ _ (by omega), Hp.get_set_ne _ _ _ _ (by omega), Hp.get_set_self]
end
end Go.Ac
end

section
set_option maxRecDepth 4000
namespace Go.Ac
open Go.Proofs

theorem toDs_d (look : Look) (f : Nat) : ∀ l : List D, toDs (toD look f) (l.map V.d) = some (l, [])
 | [] => rfl
 | x :: r => by
  have h1 := toDs_d look f r
  have h2 : toD look f (.d x) = some (x, []) := by cases f <;> rfl
  simp only [List.map_cons, toDs, h1, h2]; rfl
theorem chunk_flat {sz : Nat} : ∀ {l : List (List D)}, (∀ r ∈ l, r.length = sz) → chunk sz l.length l.flatten = l
 | [], _ => rfl
 | r :: l, h => by
  have h1 := h r (by simp)
  have ih := chunk_flat (l := l) (fun x hx => h x (by simp [hx]))
  simp only [List.length_cons, List.flatten_cons, chunk]
  rw [List.take_append_of_le_length (by omega), List.drop_append_of_le_length (by omega), ← h1, List.take_length, List.drop_length, List.nil_append, h1, ih]
def cC (l : List I) : List V := (encC l).flatten.map .d
def cR (l : List Rt) : List V := (encR l).flatten.map .d
theorem encC_row (l : List I) : ∀ r ∈ encC l, r.length = 5 := by
 unfold encC; intro r hr; obtain ⟨x, _, rfl⟩ := List.mem_map.1 hr; rfl
theorem encR_row (l : List Rt) : ∀ r ∈ encR l, r.length = 6 := by
 unfold encR; intro r hr; obtain ⟨x, _, rfl⟩ := List.mem_map.1 hr; rfl
theorem flat_len {sz : Nat} : ∀ {l : List (List D)}, (∀ r ∈ l, r.length = sz) → l.flatten.length = l.length * sz
 | [], _ => by simp
 | r :: l, h => by
  have h1 := h r (by simp)
  have ih := flat_len (l := l) (fun x hx => h x (by simp [hx]))
  simp [ih, h1, Nat.add_mul]; omega
theorem cC_len (l : List I) : (cC l).length = l.length * 5 := by unfold cC; rw [List.length_map, flat_len (encC_row l), encC_len]
theorem cR_len (l : List Rt) : (cR l).length = l.length * 6 := by unfold cR; rw [List.length_map, flat_len (encR_row l), encR_len]
theorem rowsC (look : Look) (l : List I) : rowsOf look 5 (.d (.slice (encC l))) = some (l.length, cC l, []) := by
 have : (encC l).all (fun r => Nat.beq r.length 5) = true := by rw [List.all_eq_true]; intro r hr; rw [encC_row l r hr]; rfl
 simp only [rowsOf, this, if_true, encC_len]; rfl
theorem toDs_cc (look : Look) (f : Nat) (l : List I) : toDs (toD look f) (cC l) = some ((encC l).flatten, []) := toDs_d look f _
theorem chunkC (l : List I) : chunk 5 l.length (encC l).flatten = encC l := by
 have := chunk_flat (encC_row l); rwa [encC_len] at this
theorem toDs_cr (look : Look) (f : Nat) (l : List Rt) : toDs (toD look f) (cR l) = some ((encR l).flatten, []) := toDs_d look f _
theorem chunkR (l : List Rt) : chunk 6 l.length (encR l).flatten = encR l := by
 have := chunk_flat (encR_row l); rwa [encR_len] at this
theorem cC_take (l : List I) : (cC l).take (l.length * 5) = cC l := by rw [← cC_len, List.take_length]
theorem cR_take (l : List Rt) : (cR l).take (l.length * 6) = cR l := by rw [← cR_len, List.take_length]
theorem cR_snoc (l : List Rt) (r : Rt) : cR l ++ r.cells.map .d = cR (l ++ [r]) := by
 unfold cR encR; simp

set_option maxHeartbeats 4000000 in
theorem copied_im (im : Im) (hs : im.sz ≤ MB) : den Tryz.prog Cp.cfg 22 [aM im] = some (aM im) := by
 have hrl := im.len_rs
 have hel : im.enums.length ≤ im.sz := by unfold Im.sz; omega
 unfold MB at hs
 have hfe : fitsB im.enums.length 8 = true := by simp [fitsB]; omega
 refine den_wp Tryz.func22 rfl (by kernel_rfl) rfl rfl ?_
 refine wkcn (jn @dI.eq_1 (jn @aM.eq_1 (jn @Im.cells.eq_1 (jn @rowsI (jn @cI_len (jn @fillV.eq_1 @fillV.eq_2)))))) ?_
 apply WP.loop' (I := fun D s => ∃ (j g : Nat), j + D = im.rs.length ∧ ∃ c', s = ⟨[(2, .ptr 1 1 0), (3, .ptr 3 3 0), (11, .d (.slice (encR im.rs))), (12, dI im.rs.length), (13, dI j)], [(0, ⟨0, false, [.d (.slice (encI im.enums)), .d (.slice (encR im.rs))]⟩), (1, ⟨1, false, [.full [], .full []]⟩), (2, ⟨2, false, cI im.enums⟩), (3, ⟨3, false, [.osl 2 2 0 im.enums.length 1 none, .osl 4 g 0 j 6 none]⟩), (4, ⟨g, false, cR (im.rs.take j)⟩)], 5, c', 0, []⟩) (d := im.rs.length)
 ·exact ⟨0, 4, by simp, 5, by rfl⟩
 rintro D _ ⟨j, g, hj, c', rfl⟩
 refine wkn (@dI.eq_1) ?_
 show WP _ _ _ _ _ _
 refine WP.cond _ rfl (fun hb => ?_) (fun hb => ?_)
 ·simp at hb
  have hb' : j < im.rs.length := hb
  obtain ⟨r, hr, hm, hix⟩ := at_lt hb'
  have hr' := encR_at hr
  have hw := w_succ hb' (by omega)
  have hsz := Im.mem_rs hm
  unfold Rt.sz at hsz
  have f1 : fitsB r.inn.length 8 = true := by simp [fitsB]; omega
  have f2 : fitsB r.out.length 8 = true := by simp [fitsB]; omega
  have f3 : fitsB r.ini.length 8 = true := by simp [fitsB]; omega
  have f4 : fitsB r.code.length 40 = true := by simp [fitsB]; omega
  have f5 : fitsB (j + 1) 120 = true := by simp [fitsB]; omega
  have htl : (im.rs.take j).length = j := by simp; omega
  have hcl : (cR (im.rs.take j)).length = j * 6 := by rw [cR_len, htl]
  have hct : (cR (im.rs.take j)).take (j * 6) = cR (im.rs.take j) := by rw [← hcl, List.take_length]
  have hsn := cR_snoc (im.rs.take j) r
  simp only [Rt.cells, List.map_cons, List.map_nil] at hsn
  have hts : im.rs.take j ++ [r] = im.rs.take (j + 1) := by rw [List.take_add_one, hr]; rfl
  rw [hts] at hsn
  refine wkcn (jn @dI.eq_1 (jn @hix (jn @hr' (jn @Rt.cells.eq_1 (jn @rowsI (jn @rowsC (jn @fillV.eq_1 (jn @fillV.eq_2 (jn @cI_len (jn @cC_len (jn @cI_take (jn @cC_take (jn @toD_dep (jn @toDs.eq_1 (jn @toDs.eq_2 (jn @toDs_ci (jn @toDs_cc (jn @chunkI (jn @chunkC (jn @nble_d (jn @closeParts.eq_1 (jn @closeParts.eq_2 (jn @cl2.eq_def (jn @f5 (jn @hcl (jn @hct @hsn)))))))))))))))))))))))))) ?_
  refine loop_next (by simp [hw]; exact Is.rfl) ?_
  exact ⟨D - 1, by omega, j + 1, _, by omega, _, by rfl⟩
 ·simp at hb
  have hje : j = im.rs.length := by omega
  subst hje
  rw [List.take_length]
  refine wkcn (@dI.eq_1) ?_
  have h1 : ∀ look : Look, look 2 = some ⟨2, false, cI im.enums⟩ → toD look depthD (.osl 2 2 0 im.enums.length 1 none) = some (.slice (encI im.enums), [2]) := fun look hl => by
   have h2 : live look 2 2 = some ⟨2, false, cI im.enums⟩ := by simp [live, hl]
   rw [toD_dep, h2]
   simp only [Nat.zero_add, Nat.mul_one, List.drop_zero, nble_d, cI_len, cI_take, toDs_ci]
   simp [chunkI]
  have h3 : ∀ look : Look, look 4 = some ⟨g, false, cR im.rs⟩ → toD look depthD (.osl 4 g 0 im.rs.length 6 none) = some (.slice (encR im.rs), [4]) := fun look hl => by
   have h2 : live look 4 g = some ⟨g, false, cR im.rs⟩ := by simp [live, hl]
   rw [toD_dep, h2]
   simp only [Nat.zero_add, List.drop_zero, nble_d, cR_len, cR_take, toDs_cr]
   simp [chunkR]
  obtain ⟨H, hH⟩ : ∃ H : Hp, H = [(0, ⟨0, false, [.d (.slice (encI im.enums)), .d (.slice (encR im.rs))]⟩), (1, ⟨1, false, [.osl 2 2 0 im.enums.length 1 none, .osl 4 g 0 im.rs.length 6 none]⟩), (2, ⟨2, false, cI im.enums⟩), (3, ⟨3, false, [.osl 2 2 0 im.enums.length 1 none, .osl 4 g 0 im.rs.length 6 none]⟩), (4, ⟨g, false, cR im.rs⟩)] := ⟨_, rfl⟩
  have e1 := h1 H.get (by rw [hH]; rfl)
  have e3 := h3 H.get (by rw [hH]; rfl)
  refine ⟨.inr rfl, _, [2, 4], by simp [resultsV, resultV, loadV, readV]; rfl, ?_⟩
  show closeT (Hp.get _) (.agg [.osl 2 2 0 im.enums.length 1 none, .osl 4 g 0 im.rs.length 6 none]) = _
  rw [← hH]
  simp only [closeT, close, closeVs, close1, e1, e3, ofD]
  rfl
end Go.Ac
end

section
set_option maxRecDepth 4000
namespace Go.Ac
open Go.Proofs

/-- The fields of an operation, as the reference writes them. -/
def fsO (op : Int) : List UInt8 := match op with | 5 => [65, 66, 67] | 6 => [65, 66, 67, 68] | 7 => [66] | 9 => [65, 66, 67, 68] | _ => [65, 66]
end Go.Ac
end

section
set_option maxRecDepth 4000
namespace Go.Ac
open Go.Proofs

def hasB (op : Int) (c : UInt8) : Bool := (fsO op).any (· == c)
def xO (i : I) (c : UInt8) : Int := if c = 65 then i.a else if c = 66 then i.b else if c = 67 then i.c else i.d
end Go.Ac
end

section
set_option maxRecDepth 4000
namespace Go.Ac
open Go.Proofs

def tailB (at_ lenC : Int) (i : I) : Bool := if i.op = 5 then decide (i.c = 1) || decide (i.c = 2) else if i.op = 6 then decide (3 ≤ i.d) && decide (i.d ≤ 16) else if i.op = 7 ∨ i.op = 8 then decide (at_ < i.b) && decide (i.b ≤ lenC) else true
theorem opn1 (x : Int) : decide (opn x = 1) = (decide (x = 1) || decide (x = 2)) := by
 unfold opn; rw [Bool.eq_iff_iff]; simp
 split <;> first | omega | (split <;> omega)
theorem opn2 (x : Int) : decide (opn x = 2) = (decide (3 ≤ x) && decide (x ≤ 16)) := by
 unfold opn; rw [Bool.eq_iff_iff]; simp
 split <;> first | omega | (split <;> omega)
theorem formB_bad {at_ lenC : Int} {i : I} (h : IsO i.op) {c : UInt8} (hc : c = 65 ∨ c = 66 ∨ c = 67 ∨ c = 68) (h1 : hasB i.op c = false) (h2 : xO i c ≠ 0) : formB at_ lenC i = false := by
 obtain ⟨op, a, b, c', d⟩ := i
 simp only at h h1 h2
 rcases h with rfl | rfl | rfl | rfl | rfl | rfl | rfl | rfl | rfl | rfl <;> rcases hc with rfl | rfl | rfl | rfl <;> first | (exfalso; revert h1; decide) | (simp [xO] at h2; simp [formB, acc4, fK, kO, ksO, cnO, h2])
theorem formB_good {at_ lenC : Int} {i : I} (h : IsO i.op) (h0 : hasB i.op 65 = true ∨ xO i 65 = 0) (h1 : hasB i.op 66 = true ∨ xO i 66 = 0) (h2 : hasB i.op 67 = true ∨ xO i 67 = 0) (h3 : hasB i.op 68 = true ∨ xO i 68 = 0) : formB at_ lenC i = tailB at_ lenC i := by
 obtain ⟨op, a, b, c, d⟩ := i
 simp only [xO] at h h0 h1 h2 h3
 simp at h0 h1 h2 h3
 rcases h with rfl | rfl | rfl | rfl | rfl | rfl | rfl | rfl | rfl | rfl <;> simp [hasB, fsO] at h0 h1 h2 h3 <;> simp [formB, tailB, acc4, fK, kO, ksO, cnO, opn1, opn2, h0, h1, h2, h3]

end Go.Ac
end

section
set_option maxRecDepth 4000
namespace Go.Ac
open Go.Proofs

section
variable (rs : List Rt) (k : Int) (r : Rt) (a b c d : Int)
theorem rang1 : rangB rs k r ⟨1, a, b, c, d⟩ = (wthn a 1 r.regs && (decide (-32768 ≤ b) && decide (b ≤ 32767))) := by simp [rangB, acc4, rK, kO, ksO]
theorem rang2 : rangB rs k r ⟨2, a, b, c, d⟩ = (wthn a 1 r.regs && wthn b 1 r.regs) := by simp [rangB, acc4, rK, kO, ksO]
theorem rang3 : rangB rs k r ⟨3, a, b, c, d⟩ = (wthn a 1 r.regs && wthn b 1 r.ini.length) := by simp [rangB, acc4, rK, kO, ksO]
theorem rang4 : rangB rs k r ⟨4, a, b, c, d⟩ = (wthn a 1 r.ini.length && wthn b 1 r.regs) := by simp [rangB, acc4, rK, kO, ksO]
theorem rang5 : rangB rs k r ⟨5, a, b, c, d⟩ = (wthn a 1 r.regs && wthn b 1 r.regs) := by simp [rangB, acc4, rK, kO, ksO]
theorem rang6 : rangB rs k r ⟨6, a, b, c, d⟩ = (wthn a 1 r.regs && (wthn b 1 r.regs && wthn c 1 r.regs)) := by simp [rangB, acc4, rK, kO, ksO, Bool.and_assoc]
theorem rang8 : rangB rs k r ⟨8, a, b, c, d⟩ = wthn a 1 r.regs := by simp [rangB, acc4, rK, kO, ksO]
theorem rang9 : rangB rs k r ⟨9, a, b, c, d⟩ = ((decide (0 ≤ a) && decide (a < k)) && (wthn b (calledR rs a).ini.length r.ini.length && (wthn c (calledR rs a).inn.length r.regs && wthn d (calledR rs a).out.length r.regs))) := by simp [rangB, acc4, rK, kO, ksO, Bool.and_assoc]
theorem rang10 : rangB rs k r ⟨10, a, b, c, d⟩ = ((decide (0 ≤ a) && decide (a < k)) && wthn b (calledR rs a).ini.length r.ini.length) := by simp [rangB, acc4, rK, kO, ksO, Bool.and_assoc]
end
theorem calledR_at {rs : List Rt} {n : Nat} {q : Rt} (h : rs[n]? = some q) : calledR rs (n : Int) = q := by
 obtain ⟨hl, he⟩ := List.getElem?_eq_some_iff.1 h
 unfold calledR
 rw [if_pos ⟨by omega, by omega⟩]
 simp [List.getD, h]

end Go.Ac
end

section
set_option maxRecDepth 4000
namespace Go.Ac
open Go.Proofs

theorem wthn_lt {x m : Int} (h : wthn x 1 m = true) : ∃ n : Nat, x = n ∧ (n : Int) < m := by
 unfold wthn at h; simp at h
 exact ⟨x.toNat, by omega, by omega⟩
theorem wthn_le {x m : Int} {n : Nat} (h : wthn x n m = true) : ∃ p : Nat, x = p ∧ (p : Int) + n ≤ m := by
 unfold wthn at h; simp at h
 exact ⟨x.toNat, by omega, by omega⟩
theorem form_of {at_ lenC : Int} {i : I} (h : IsO i.op) (hf : formB at_ lenC i = true) : (hasB i.op 65 = true ∨ xO i 65 = 0) ∧ (hasB i.op 66 = true ∨ xO i 66 = 0) ∧ (hasB i.op 67 = true ∨ xO i 67 = 0) ∧ (hasB i.op 68 = true ∨ xO i 68 = 0) := by
 have key : ∀ c : UInt8, (c = 65 ∨ c = 66 ∨ c = 67 ∨ c = 68) → hasB i.op c = true ∨ xO i c = 0 := fun c hc => by
  cases hb : hasB i.op c with
  | true => exact .inl rfl
  | false =>
   by_cases hx : xO i c = 0
   ·exact .inr hx
   ·rw [formB_bad h hc hb hx] at hf; cases hf
 exact ⟨key 65 (by simp), key 66 (by simp), key 67 (by simp), key 68 (by simp)⟩

theorem okI_of {rs : List Rt} {k : Nat} {r : Rt} {at_ : Nat} {i : I} (hk : k ≤ rs.length) (hR : 0 ≤ r.regs) (h : IsO i.op) (hf : formB at_ r.code.length i = true) (hg : rangB rs k r i = true) : OkI rs k r.regs.toNat r.ini.length at_ r.code.length i := by
 obtain ⟨g0, g1, g2, g3⟩ := form_of h hf
 rw [formB_good h g0 g1 g2 g3] at hf
 obtain ⟨op, a, b, c, d⟩ := i
 simp only [xO] at h g0 g1 g2 g3
 simp at g0 g1 g2 g3
 have rA : ∀ (a : Int), (decide (0 ≤ a) && decide (a < k)) = true → ∃ (A : Nat) (q : Rt), a = A ∧ rs[A]? = some q ∧ A < k ∧ calledR rs a = q := fun a h => by
  simp at h
  obtain ⟨A, rfl⟩ : ∃ A : Nat, a = A := ⟨a.toNat, by omega⟩
  have : A < rs.length := by omega
  exact ⟨A, rs[A], rfl, by simp [this], by omega, calledR_at (by simp [this])⟩
 rcases h with rfl | rfl | rfl | rfl | rfl | rfl | rfl | rfl | rfl | rfl <;> simp [hasB, fsO] at g0 g1 g2 g3
 ·subst g2; subst g3
  rw [rang1] at hg; simp only [Bool.and_eq_true, decide_eq_true_eq] at hg
  obtain ⟨A, rfl, hA⟩ := wthn_lt hg.1
  exact .load A b (by omega) hg.2.1 hg.2.2
 ·subst g2; subst g3
  rw [rang2] at hg; simp only [Bool.and_eq_true] at hg
  obtain ⟨A, rfl, hA⟩ := wthn_lt hg.1
  obtain ⟨B, rfl, hB⟩ := wthn_lt hg.2
  exact .move A B (by omega) (by omega)
 ·subst g2; subst g3
  rw [rang3] at hg; simp only [Bool.and_eq_true] at hg
  obtain ⟨A, rfl, hA⟩ := wthn_lt hg.1
  obtain ⟨B, rfl, hB⟩ := wthn_lt hg.2
  exact .read A B (by omega) (by omega)
 ·subst g2; subst g3
  rw [rang4] at hg; simp only [Bool.and_eq_true] at hg
  obtain ⟨A, rfl, hA⟩ := wthn_lt hg.1
  obtain ⟨B, rfl, hB⟩ := wthn_lt hg.2
  exact .write A B (by omega) (by omega)
 ·subst g3
  rw [rang5] at hg; simp only [Bool.and_eq_true] at hg
  obtain ⟨A, rfl, hA⟩ := wthn_lt hg.1
  obtain ⟨B, rfl, hB⟩ := wthn_lt hg.2
  exact .unary A B c (by omega) (by omega) (by simpa [tailB] using hf)
 ·rw [rang6] at hg; simp only [Bool.and_eq_true] at hg
  obtain ⟨A, rfl, hA⟩ := wthn_lt hg.1
  obtain ⟨B, rfl, hB⟩ := wthn_lt hg.2.1
  obtain ⟨C, rfl, hC⟩ := wthn_lt hg.2.2
  simp [tailB] at hf
  exact .apply A B C d (by omega) (by omega) (by omega) hf.1 hf.2
 ·subst g0; subst g2; subst g3
  simp [tailB] at hf
  obtain ⟨B, rfl⟩ : ∃ B : Nat, b = B := ⟨b.toNat, by omega⟩
  exact .jump B (by omega) (by omega)
 ·subst g2; subst g3
  rw [rang8] at hg
  obtain ⟨A, rfl, hA⟩ := wthn_lt hg
  simp [tailB] at hf
  obtain ⟨B, rfl⟩ : ∃ B : Nat, b = B := ⟨b.toNat, by omega⟩
  exact .zero A B (by omega) (by omega) (by omega)
 ·rw [rang9] at hg; simp only [Bool.and_eq_true (a := decide _ && decide _), Bool.and_eq_true (a := wthn _ _ _)] at hg
  obtain ⟨A, q, rfl, hq, hA, hc⟩ := rA a (by simpa using hg.1)
  rw [hc] at hg
  obtain ⟨B, rfl, hB⟩ := wthn_le hg.2.1
  obtain ⟨C, rfl, hC⟩ := wthn_le hg.2.2.1
  obtain ⟨D, rfl, hD⟩ := wthn_le hg.2.2.2
  exact .call A B C D q hq hA (by omega) (by omega) (by omega)
 ·subst g2; subst g3
  rw [rang10] at hg; simp only [Bool.and_eq_true (a := decide _ && decide _), Bool.and_eq_true (a := wthn _ _ _)] at hg
  obtain ⟨A, q, rfl, hq, hA, hc⟩ := rA a (by simpa using hg.1)
  rw [hc] at hg
  obtain ⟨B, rfl, hB⟩ := wthn_le hg.2
  exact .reset A B q hq hA (by omega)

end Go.Ac
end

section
set_option maxRecDepth 4000
namespace Go.Ac
open Go.Proofs

theorem bigE_iff {r : Rt} : bigE r = true ↔ c1 r ∨ c2 r ∨ c3 r := by
 unfold bigE; simp [or_assoc]
end Go.Ac
end

section
set_option maxRecDepth 4000
namespace Go.Ac
open Go.Proofs

theorem codeE_zero {f : Nat → I → Int} : ∀ {l : List I} {j : Nat}, codeE f j l = 0 → ∀ (t : Nat) (i : I), l[t]? = some i → f (j + t) i = 0
 | [], j, h, t, i, hi => by simp at hi
 | a :: l, j, h, t, i, hi => by
  unfold codeE at h
  by_cases h0 : f j a = 0
  ·rw [if_pos h0] at h
   cases t with
   | zero => simp at hi; subst hi; exact h0
   | succ t =>
    have := codeE_zero h t i (by simpa using hi)
    rwa [Nat.add_right_comm, Nat.add_assoc] at this
  ·rw [if_neg h0] at h
   exact absurd h h0
theorem rsE_zero {im : Im} : ∀ {l : List Rt} {j : Nat}, rsE im j l = 0 → ∀ (t : Nat) (r : Rt), l[t]? = some r → oneE im (j + t) r = 0
 | [], j, h, t, r, hi => by simp at hi
 | a :: l, j, h, t, r, hi => by
  unfold rsE at h
  by_cases h0 : oneE im j a = 0
  ·rw [if_pos h0] at h
   cases t with
   | zero => simp at hi; subst hi; exact h0
   | succ t =>
    have := rsE_zero h t r (by simpa using hi)
    rwa [Nat.add_right_comm, Nat.add_assoc] at this
  ·rw [if_neg h0] at h
   exact absurd h h0
structure OneOK (im : Im) (k : Nat) (r : Rt) : Prop where
 big : ¬ bigE r = true
 ty : ∀ t ∈ r.inn ++ r.out, typOK im.enums t = true
 io : (r.inn.length : Int) + r.out.length ≤ r.regs
 ini : ∀ v ∈ r.ini, outW v = false
 code : codeE (stepE im.rs k r) 0 r.code = 0
theorem oneE_zero {im : Im} {k : Nat} {r : Rt} (h : oneE im k r = 0) : OneOK im k r := by
 unfold oneE at h
 split at h
 ·omega
 ·split at h
  ·omega
  ·rename_i hb
   split at h
   ·omega
   ·rename_i ht
    split at h
    ·omega
    ·rename_i hr
     split at h
     ·omega
     ·rename_i hi
      refine ⟨hb, fun t hm => ?_, by omega, fun v hv => ?_, h⟩
      ·cases hq : typOK im.enums t with
       | true => rfl
       | false => exact absurd (List.any_eq_true.2 ⟨t, hm, by rw [hq]; rfl⟩) ht
      ·cases hq : outW v with
       | false => rfl
       | true => exact absurd (List.any_eq_true.2 ⟨v, hv, hq⟩) hi
theorem not_big {r : Rt} (h : ¬ bigE r = true) : r.inn.length ≤ 64 ∧ r.out.length ≤ 64 ∧ r.ini.length ≤ 16384 ∧ r.code.length ≤ 32768 ∧ r.regs ≤ 32768 := by
 rw [bigE_iff] at h
 have h1 : ¬ c1 r := fun x => h (.inl x)
 have h2 : ¬ c2 r := fun x => h (.inr (.inl x))
 have h3 : ¬ c3 r := fun x => h (.inr (.inr x))
 unfold c1 at h1
 unfold c2 at h2
 unfold c3 at h3
 split at h1 <;> split at h3 <;> omega
theorem good_of {im : Im} (h : chkE im = 0) : GoodIm im := by
 unfold chkE at h
 split at h
 ·omega
 ·rename_i h1
  split at h
  ·omega
  ·rename_i h2
   split at h
   ·omega
   ·rename_i h3
    split at h
    ·omega
    ·rename_i h4
     have one : ∀ k r, im.rs[k]? = some r → OneOK im k r := fun k r hr => by
      have := rsE_zero h k r hr
      rw [Nat.zero_add] at this
      exact oneE_zero this
     have onem : ∀ r ∈ im.rs, ∃ k, OneOK im k r := fun r hr => by
      obtain ⟨k, hk⟩ := List.mem_iff_getElem?.1 hr
      exact ⟨k, one k r hk⟩
     refine ⟨fun k r hr => ?_, fun q hq => ?_, fun q hq => ?_, fun q hq => ?_, by omega, by omega, by omega, fun q hq t ht => ?_, fun q hq v hv => ?_, fun v hv => ?_⟩
     ·have ho := one k r hr
      have hb := not_big ho.big
      have hkl : k < im.rs.length := by rcases Nat.lt_or_ge k im.rs.length with h | h; exact h; rw [List.getElem?_eq_none h] at hr; cases hr
      refine ⟨ho.io, by omega, fun at_ i hi => ?_⟩
      have hs := codeE_zero ho.code at_ i hi
      rw [Nat.zero_add] at hs
      unfold stepE at hs
      split at hs
      ·rename_i h5
       split at hs
       ·rename_i h6
        simp only [Bool.and_eq_true] at h5
        exact okI_of (by omega) (by have := ho.io; omega) ((isO_iff _).1 h5.1) h5.2 h6
       ·omega
      ·omega
     ·obtain ⟨k, ho⟩ := onem q hq
      have := not_big ho.big; omega
     ·obtain ⟨k, ho⟩ := onem q hq
      have := not_big ho.big; omega
     ·obtain ⟨k, ho⟩ := onem q hq
      have := not_big ho.big; omega
     ·obtain ⟨k, ho⟩ := onem q hq
      exact ho.ty t (List.mem_append_left _ ht)
     ·obtain ⟨k, ho⟩ := onem q hq
      have := ho.ini v hv
      unfold outW at this; simp at this; omega
     ·have : outE v = false := by
       cases hq : outE v with
       | false => rfl
       | true => exact absurd (List.any_eq_true.2 ⟨v, hv, hq⟩) h3
      unfold outE at this; simp at this; omega
end Go.Ac
end

section
set_option maxRecDepth 4000
namespace Go.Ac
open Go.Proofs

section
variable {im : Im}
/-- A new machine. -/
def NewAt (im : Im) (f : Nat) : Prop := ∃ q, lim Tryz.prog Cp.cfg f [aM im] [] 0 0 = some q ∧ q.v = .tuple [.ptr 1 1 0, dI 0] ∧ ∃ mid mg, Mc im q.hp 1 1 mid mg (lastR im).ini 0 ∧ mid < q.n ∧ 1 < q.n
set_option maxHeartbeats 1000000 in
theorem new_ok (hs : im.sz ≤ MB) (hok : ∀ r, r ∈ im.rs → RtOK r) (h : chkE im = 0) : NewAt im 8 := by
 have hG := good_of h
 have hc := check_den im hs hok
 have hcp := copied_im im hs
 rw [h] at hc
 simp only [aM, Im.cells, List.map_cons, List.map_nil, dI] at hc hcp
 have main : ∃ (v : V) (t : St), lim Tryz.prog Cp.cfg 8 [aM im] [] 0 0 = some ⟨v, t.hp, t.n, t.c, t.wl⟩ ∧ v = .tuple [.ptr 1 1 0, dI 0] ∧ ∃ mid mg, Mc im t.hp 1 1 mid mg (lastR im).ini 0 ∧ mid < t.n ∧ 1 < t.n := by
  refine lim_wp (Q := fun v (t : St) => v = .tuple [.ptr 1 1 0, dI 0] ∧ ∃ mid mg, Mc im t.hp 1 1 mid mg (lastR im).ini 0 ∧ mid < t.n ∧ 1 < t.n) Tryz.func8 rfl (by kernel_rfl) ?_
  refine wkckt (jn @envOf.eq_1 (jn @envOf.eq_2 (jn @dI.eq_1 (jn @aM.eq_1 (jn @Im.cells.eq_1 (jn @hc (jn @hcp (jn @fillV.eq_1 (jn @fillV.eq_2 @Value.oneCell'.eq_def))))))))) ?_
  obtain ⟨hp0, hhp0⟩ : ∃ H : Hp, H = [(0, ⟨0, false, [.d (.slice (encI im.enums)), .d (.slice (encR im.rs))]⟩), (1, ⟨1, false, [.d (.slice (encI im.enums)), .d (.slice (encR im.rs)), .full [], .d (.int .i64 0)]⟩)] := ⟨_, rfl⟩
  have hC : hp0.get 1 = some ⟨1, false, [.d (.slice (encI im.enums)), .d (.slice (encR im.rs)), .full [], .d (.int .i64 0)]⟩ := by rw [hhp0]; rfl
  have hmc := main_c (c := 2) (n := 2) hC (by omega) hG.last (by have := hG.rl; omega)
  obtain ⟨r0, hT1, hv, hn, hT2, hki, hfr, hpz, ⟨mid, mg, hMc, hlt, hor⟩, hsame⟩ := (reset_ok hC hmc (by omega) (by have := hG.il _ hG.mem; omega)).caller (by intro j hj; simp at hj; omega)
  rw [hhp0] at hT1 hsame
  refine wkcekt (jn @dI.eq_1 @hv) ?_
  obtain ⟨cap, hcap, hc1⟩ := hMc.c
  refine ⟨.inr rfl, _, rfl, .inr rfl, rfl, mid, mg, hMc.same (hsame 1 (by omega) (by rw [hc1]; rfl)) (hsame mid hlt (by rw [hMc.m]; rfl)), ?_, ?_⟩
  ·show mid < 2 + (r0.n - 2)
   omega
  ·show 1 < 2 + (r0.n - 2)
   omega
 obtain ⟨v, t, h1, h2, h3⟩ := main
 exact ⟨_, h1, h2, h3⟩
end
end Go.Ac
end
