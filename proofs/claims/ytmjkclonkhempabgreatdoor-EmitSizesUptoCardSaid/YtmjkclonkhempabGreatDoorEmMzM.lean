/- What a statement assigns under a nil context: the reference's. -/
import Derived.Test.YtmjkclonkhempabGreatDoorEmVM
set_option linter.unusedVariables false
set_option linter.unusedSimpArgs false
section
set_option maxRecDepth 4000
namespace Go.Ac
open Go.Proofs
mutual
/-- The error of a statement. -/
def stmtW (o : Oc) (c : Cl) : List Pr → List Y → Y → Int
 | cx, bf, .mk k nm t r outs args brs =>
  if fieldsE (.mk k nm t r outs args brs) = false then 5
  else if k = 1 then (if (exprW ⟨o, c, bf, cx⟩ r).2 ≠ 0 then (exprW ⟨o, c, bf, cx⟩ r).2 else targetW ⟨o, c, bf, cx⟩ nm (exprW ⟨o, c, bf, cx⟩ r).1)
  else if k = 2 then (if (exprW ⟨o, c, bf, cx⟩ r).2 ≠ 0 then (exprW ⟨o, c, bf, cx⟩ r).2 else if findM c.mems nm = 0 then 6 else if findM c.mems nm ≠ (exprW ⟨o, c, bf, cx⟩ r).1 then 10 else 0)
  else if k = 3 then (if getT c nm = 0 then 6 else if readyW ⟨o, c, bf, cx⟩ nm = false then 22 else if t ≠ getT c nm ∨ getT c nm = 2 then 10 else if (brs.length : Int) ≠ sizeE o.en (getT c nm) then 9 else brsW o c cx bf nm 0 brs)
  else if k = 4 then callW ⟨o, c, bf, cx⟩ (.mk k nm t r outs args brs)
  else if (findI c.ins o.cl nm).2 = false then 6 else 0
/-- The first error of statements. -/
def listW (o : Oc) (c : Cl) : List Pr → List Y → List Y → Int
 | _, _, [] => 0
 | cx, bf, y :: r => if stmtW o c cx bf y ≠ 0 then stmtW o c cx bf y else listW o c cx (bf ++ [y]) r
def brsW (o : Oc) (c : Cl) : List Pr → List Y → Tx → Nat → List (List Y) → Int
 | _, _, _, _, [] => 0
 | cx, bf, nm, k, b :: r => if listW o c (cx ++ [⟨nm, k⟩]) bf b ≠ 0 then listW o c (cx ++ [⟨nm, k⟩]) bf b else brsW o c cx bf nm (k + 1) r
end
theorem stmtW_eq (o : Oc) (c : Cl) (cx : List Pr) (bf : List Y) (y : Y) : stmtW o c cx bf y =
  if fieldsE y = false then 5
  else if y.k = 1 then (if (exprW ⟨o, c, bf, cx⟩ y.r).2 ≠ 0 then (exprW ⟨o, c, bf, cx⟩ y.r).2 else targetW ⟨o, c, bf, cx⟩ y.nm (exprW ⟨o, c, bf, cx⟩ y.r).1)
  else if y.k = 2 then (if (exprW ⟨o, c, bf, cx⟩ y.r).2 ≠ 0 then (exprW ⟨o, c, bf, cx⟩ y.r).2 else if findM c.mems y.nm = 0 then 6 else if findM c.mems y.nm ≠ (exprW ⟨o, c, bf, cx⟩ y.r).1 then 10 else 0)
  else if y.k = 3 then (if getT c y.nm = 0 then 6 else if readyW ⟨o, c, bf, cx⟩ y.nm = false then 22 else if y.t ≠ getT c y.nm ∨ getT c y.nm = 2 then 10 else if (y.brs.length : Int) ≠ sizeE o.en (getT c y.nm) then 9 else brsW o c cx bf y.nm 0 y.brs)
  else if y.k = 4 then callW ⟨o, c, bf, cx⟩ y
  else if (findI c.ins o.cl y.nm).2 = false then 6 else 0 := by cases y; rw [stmtW]; rfl
def casesW (w : Pl) (y : Y) : Int := if getT w.c y.nm = 0 then 6 else if readyW w y.nm = false then 22 else if y.t ≠ getT w.c y.nm ∨ getT w.c y.nm = 2 then 10 else if (y.brs.length : Int) ≠ sizeE w.o.en (getT w.c y.nm) then 9 else brsW w.o w.c w.cx w.bf y.nm 0 y.brs
theorem WOK.upd {w : Pl} (h : WOK w) {bf : List Y} {cx : List Pr} (hb : cx.length + szY bf ≤ 8388608) : WOK ⟨w.o, w.c, bf, cx⟩ := ⟨h.inn, h.out, h.loc, h.mems, h.ins, h.cl, hb⟩
theorem encY_row (l : List Y) : ∀ r ∈ encY l, r.length = 12 := by rw [encY_map]; intro r hr; obtain ⟨x, _, rfl⟩ := List.mem_map.1 hr; rw [Y.cells_eq]; rfl
theorem encY_snoc (l : List Y) (y : Y) : encY l ++ [y.cells] = encY (l ++ [y]) := by simp [encY_map]
theorem szY_app (a b : List Y) : szY (a ++ b) = szY a + szY b := by simp [szY_sum]
theorem szY_take {l : List Y} {j : Nat} {y : Y} (h : l[j]? = some y) : szY (l.take j) + y.sz ≤ szY l := by
 have e : l = l.take j ++ y :: l.drop (j + 1) := by rw [← drop_at h, List.take_append_drop]
 have : szY l = szY (l.take j ++ y :: l.drop (j + 1)) := by rw [← e]
 rw [this, szY_app, szY]; omega
theorem Y.ok_eq {y : Y} (h : y.ok) : I64 y.t ∧ y.r.ok ∧ okX y.args ∧ okB y.brs := by cases y; rw [Y.ok] at h; exact h.2
/-- What list32 says. -/
def ListAt (N : Nat) : Prop := ∀ (w : Pl) (l : List Y), szY l < N → WOK w → (∀ nm, I64 (getT w.c nm)) → w.cx.length + szY w.bf + szY l ≤ 8388608 → okY l → den Tryz.prog Ob.cfg 29 [aG w.cells, dL (encY l)] = some (dI (listW w.o w.c w.cx w.bf l))
theorem kf76 (r : Nat) : Ob.keep 76 r = Ob.k76 r := by kernel_rfl
theorem kf48 (r : Nat) : Ob.keep 48 r = Ob.k48 r := by kernel_rfl
theorem kf29 (r : Nat) : Ob.keep 29 r = Ob.k29 r := by kernel_rfl
attribute [local simp] kf76 Ob.k76 kf48 Ob.k48 kf29 Ob.k29
set_option maxHeartbeats 4000000 in
theorem cases118 {N : Nat} (ih : ListAt N) (w : Pl) (hw : WOK w) (hty : ∀ nm, I64 (getT w.c nm)) (y : Y) (hN : y.sz < N + 1) (hbd : w.cx.length + szY w.bf + y.sz ≤ 8388608) (hok : y.ok) : den Tryz.prog Ob.cfg 76 [aG w.cells, aG y.cells] = some (dI (casesW w y)) := by
 rw [Y.sz_eq] at hN hbd
 have k2 := len_szB y.brs
 have h1 := get146 w y.nm hw.out hw.loc hw.inn
 have h2 := ready147 w y.nm hw
 have h3 := size101 w.o.en (getT w.c y.nm) (hty y.nm)
 obtain ⟨ok1, ok2, ok3, ok4⟩ := Y.ok_eq hok
 simp only [aG, Pl.cells, List.map_cons, List.map_nil, dL, dS, dI, dB] at h1 h2 h3
 refine den_wp Tryz.func76 rfl (by kernel_rfl) rfl rfl ?_
 unfold casesW
 by_cases c1 : getT w.c y.nm = 0
 ·rw [if_pos c1]
  rw [c1] at h1
  refine wkc (jn @aG.eq_1 (jn @Pl.cells.eq_1 (jn @Y.cells_eq (jn @dI.eq_1 @h1)))) ?_
  show retQ _ _ _ _ _
  exact ⟨.inr rfl, _, _, rfl, rfl⟩
 rw [if_neg c1]
 have c1' := eq_false c1
 cases c2 : readyW w y.nm with
 | false =>
  rw [c2] at h2
  refine wkc (jn @aG.eq_1 (jn @Pl.cells.eq_1 (jn @Y.cells_eq (jn @dI.eq_1 (jn @h1 (jn @h2 (jn @c1' @int_beq))))))) ?_
  show retQ _ _ _ _ _
  exact ⟨.inr rfl, _, _, rfl, rfl⟩
 | true =>
 rw [c2] at h2
 rw [if_neg (by decide)]
 by_cases c3 : y.t = getT w.c y.nm
 case neg =>
  have c3' := eq_false c3
  rw [if_pos (.inl c3)]
  refine wkc (jn @aG.eq_1 (jn @Pl.cells.eq_1 (jn @Y.cells_eq (jn @dI.eq_1 (jn @h1 (jn @h2 (jn @c1' (jn @int_beq (jn @int_bne @c3'))))))))) ?_
  show retQ _ _ _ _ _
  exact ⟨.inr rfl, _, _, rfl, rfl⟩
 have c3' := eq_true c3
 by_cases c4 : getT w.c y.nm = 2
 ·rw [if_pos (.inr c4)]
  have c4' := eq_true c4
  refine wkc (jn @aG.eq_1 (jn @Pl.cells.eq_1 (jn @Y.cells_eq (jn @dI.eq_1 (jn @h1 (jn @h2 (jn @c1' (jn @int_beq (jn @int_bne (jn @c3' @c4')))))))))) ?_
  show retQ _ _ _ _ _
  exact ⟨.inr rfl, _, _, rfl, rfl⟩
 rw [if_neg (fun h => h.elim (fun h => h c3) (fun h => c4 h))]
 have c4' := eq_false c4
 by_cases c5 : (y.brs.length : Int) = sizeE w.o.en (getT w.c y.nm)
 case neg =>
  have c5' := eq_false c5
  rw [if_pos c5]
  refine wkc (jn @aG.eq_1 (jn @Pl.cells.eq_1 (jn @Y.cells_eq (jn @dI.eq_1 (jn @h1 (jn @h2 (jn @h3 (jn @c1' (jn @int_beq (jn @int_bne (jn @c3' (jn @c4' (jn @c5' @encB_len))))))))))))) ?_
  show retQ _ _ _ _ _
  exact ⟨.inr rfl, _, _, rfl, rfl⟩
 rw [if_neg (fun h => h c5)]
 have c5' := eq_true c5
 refine wkc (jn @aG.eq_1 (jn @Pl.cells.eq_1 (jn @Y.cells_eq (jn @dI.eq_1 (jn @h1 (jn @h2 (jn @h3 (jn @c1' (jn @int_beq (jn @int_bne (jn @c3' (jn @c4' (jn @c5' @encB_len))))))))))))) ?_
 apply WP.loop' (I := fun D s => ∃ j : Nat, j + D = y.brs.length ∧ brsW w.o w.c w.cx w.bf y.nm j (y.brs.drop j) = brsW w.o w.c w.cx w.bf y.nm 0 y.brs ∧ SE [(2, .ptr 0 0 0), (3, .ptr 1 1 0), (6, dI j)] [(0, ⟨0, false, w.cells.map .d⟩), (1, ⟨1, false, y.cells.map .d⟩)] 2 s) (d := y.brs.length)
 ·exact ⟨0, by simp, by simp, SE.mk (by simp [dI]) (by simp [Pl.cells, Y.cells_eq])⟩
 clear h1 h2 h3
 rintro D _ ⟨j, hj, hv, cc, rfl⟩
 refine wk (jn @dI.eq_1 (jn @dL.eq_1 (jn @Pl.cells.eq_1 (jn @Y.cells_eq @encB_len)))) ?_
 show WP _ _ _ _ _ _
 refine WP.cond _ rfl (fun hb => ?_) (fun hb => ?_)
 ·simp at hb
  have hb' : j < y.brs.length := by omega
  obtain ⟨b, hbj, hbm, hix⟩ := at_lt hb'
  have hb2 := encB_at hbj
  have hwj := w_succ hb' (by omega)
  have hsb := mem_szB hbm
  have hin := inside121 w.cx y.nm j (by omega)
  have hr := ih ⟨w.o, w.c, w.bf, w.cx ++ [⟨y.nm, j⟩]⟩ b (by omega) (hw.upd (by simp; omega)) hty (by simp; omega) ((okB_iff _).1 ok4 b hbm)
  simp only [aG, Pl.cells, List.map_cons, List.map_nil, dL, dS, dI] at hin hr
  rw [drop_at hbj, brsW] at hv
  by_cases hz : listW w.o w.c (w.cx ++ [⟨y.nm, j⟩]) w.bf b = 0
  case neg =>
   have hz' := eq_false hz
   rw [if_pos hz] at hv
   rw [← hv]
   refine wkc (jn @dI.eq_1 (jn @dL.eq_1 (jn @Pl.cells.eq_1 (jn @Y.cells_eq (jn @encB_len (jn @hix (jn @hb2 (jn @hin (jn @hr (jn @int_bne @hz')))))))))) ?_
   show retQ _ _ _ _ _
   exact ⟨.inr rfl, _, _, rfl, rfl⟩
  rw [if_neg (by simp [hz])] at hv
  rw [hz] at hr
  refine wkc (jn @dI.eq_1 (jn @dL.eq_1 (jn @Pl.cells.eq_1 (jn @Y.cells_eq (jn @encB_len (jn @hix (jn @hb2 (jn @hin (jn @hr @int_bne))))))))) ?_
  refine loop_next (by simp [hwj]; exact Is.rfl) ?_
  exact ⟨D - 1, by omega, j + 1, by omega, hv, SE.mk (by simp [dI, hwj]) (by simp [Pl.cells, Y.cells_eq])⟩
 ·simp at hb
  have hje : j = y.brs.length := by omega
  rw [hje, List.drop_length, brsW] at hv
  rw [← hv]
  refine wkc (jn @dI.eq_1 (jn @dL.eq_1 (jn @Pl.cells.eq_1 @Y.cells_eq))) ?_
  show retQ _ _ _ _ _
  exact ⟨.inr rfl, _, _, rfl, rfl⟩
set_option maxHeartbeats 4000000 in
theorem stmt76 {N : Nat} (ih : ListAt N) (w : Pl) (hw : WOK w) (hty : ∀ nm, I64 (getT w.c nm)) (y : Y) (hN : y.sz < N + 1) (hbd : w.cx.length + szY w.bf + y.sz ≤ 8388608) (hok : y.ok) : den Tryz.prog Ob.cfg 48 [aG w.cells, aG y.cells] = some (dI (stmtW w.o w.c w.cx w.bf y)) := by
 have hs := Y.sz_eq y
 obtain ⟨ok1, ok2, ok3, ok4⟩ := Y.ok_eq hok
 have hf := fields114 y
 have h1 := expr115 w hw y.r (by unfold MX; omega) ok2
 have h2 := fun t => target116 w hw y.nm t
 have h3 := mem117 w y.nm hw.mems
 have h4 := cases118 ih w hw hty y hN hbd hok
 have h5 := call119 w hw y (by unfold MX; omega) ok3
 have h6 := callee120 w y.nm hw.ins hw.cl
 simp only [aG, Pl.cells, Y.cells_eq, X.cells_eq, List.map_cons, List.map_nil, dL, dS, dI, dB] at hf h1 h2 h3 h4 h5 h6
 refine den_wp Tryz.func48 rfl (by kernel_rfl) rfl rfl ?_
 rw [stmtW_eq]
 cases c0 : fieldsE y with
 | false =>
  rw [c0] at hf
  refine wkc (jn @aG.eq_1 (jn @Pl.cells.eq_1 (jn @Y.cells_eq @hf))) ?_
  show retQ _ _ _ _ _
  exact ⟨.inr rfl, _, _, rfl, rfl⟩
 | true =>
 rw [c0] at hf
 rw [if_neg (by decide)]
 have hwe : (⟨w.o, w.c, w.bf, w.cx⟩ : Pl) = w := rfl
 by_cases q1 : y.k = 1
 ·rw [if_pos q1, hwe]
  rw [q1] at hf
  by_cases c1 : (exprW w y.r).2 = 0
  ·rw [if_neg (by simp [c1])]
   rw [c1] at h1
   refine wkc (jn @aG.eq_1 (jn @Pl.cells.eq_1 (jn @Y.cells_eq (jn @hf (jn @q1 (jn @h1 @h2)))))) ?_
   show retQ _ _ _ _ _
   exact ⟨.inr rfl, _, _, rfl, rfl⟩
  ·rw [if_pos c1]
   have c1' := eq_false c1
   refine wkc (jn @aG.eq_1 (jn @Pl.cells.eq_1 (jn @Y.cells_eq (jn @hf (jn @q1 (jn @h1 (jn @c1' @int_bne))))))) ?_
   show retQ _ _ _ _ _
   exact ⟨.inr rfl, _, _, rfl, rfl⟩
 rw [if_neg q1]
 have q1' := eq_false q1
 by_cases q2 : y.k = 2
 ·rw [if_pos q2, hwe]
  rw [q2] at hf
  by_cases c1 : (exprW w y.r).2 = 0
  case neg =>
   rw [if_pos c1]
   have c1' := eq_false c1
   refine wkc (jn @aG.eq_1 (jn @Pl.cells.eq_1 (jn @Y.cells_eq (jn @hf (jn @q2 (jn @h1 (jn @c1' @int_bne))))))) ?_
   show retQ _ _ _ _ _
   exact ⟨.inr rfl, _, _, rfl, rfl⟩
  rw [if_neg (by simp [c1])]
  rw [c1] at h1
  by_cases c2 : findM w.c.mems y.nm = 0
  ·rw [if_pos c2]
   rw [c2] at h3
   refine wkc (jn @aG.eq_1 (jn @Pl.cells.eq_1 (jn @Y.cells_eq (jn @hf (jn @q2 (jn @h1 @h3)))))) ?_
   show retQ _ _ _ _ _
   exact ⟨.inr rfl, _, _, rfl, rfl⟩
  rw [if_neg c2]
  have c2' := eq_false c2
  by_cases c3 : findM w.c.mems y.nm = (exprW w y.r).1
  ·rw [if_neg (by simp [c3])]
   have c3' := eq_true c3
   rw [c3] at h3 c2'
   refine wkc (jn @aG.eq_1 (jn @Pl.cells.eq_1 (jn @Y.cells_eq (jn @hf (jn @q2 (jn @h1 (jn @h3 (jn @c2' (jn @int_beq @int_bne))))))))) ?_
   show retQ _ _ _ _ _
   exact ⟨.inr rfl, _, _, rfl, rfl⟩
  ·rw [if_pos c3]
   have c3' := eq_false c3
   refine wkc (jn @aG.eq_1 (jn @Pl.cells.eq_1 (jn @Y.cells_eq (jn @hf (jn @q2 (jn @h1 (jn @h3 (jn @c2' (jn @c3' (jn @int_beq @int_bne)))))))))) ?_
   show retQ _ _ _ _ _
   exact ⟨.inr rfl, _, _, rfl, rfl⟩
 rw [if_neg q2]
 have q2' := eq_false q2
 by_cases q3 : y.k = 3
 ·rw [if_pos q3, hwe]
  have hc : casesW w y = if getT w.c y.nm = 0 then 6 else if readyW w y.nm = false then 22 else if y.t ≠ getT w.c y.nm ∨ getT w.c y.nm = 2 then 10 else if (y.brs.length : Int) ≠ sizeE w.o.en (getT w.c y.nm) then 9 else brsW w.o w.c w.cx w.bf y.nm 0 y.brs := rfl
  rw [← hc]
  rw [q3] at h4 hf
  refine wkc (jn @aG.eq_1 (jn @Pl.cells.eq_1 (jn @Y.cells_eq (jn @hf (jn @q3 @h4))))) ?_
  show retQ _ _ _ _ _
  exact ⟨.inr rfl, _, _, rfl, rfl⟩
 rw [if_neg q3]
 have q3' := eq_false q3
 by_cases q4 : y.k = 4
 ·rw [if_pos q4, hwe]
  rw [q4] at h5 hf
  refine wkc (jn @aG.eq_1 (jn @Pl.cells.eq_1 (jn @Y.cells_eq (jn @hf (jn @q4 @h5))))) ?_
  show retQ _ _ _ _ _
  exact ⟨.inr rfl, _, _, rfl, rfl⟩
 rw [if_neg q4]
 have q4' := eq_false q4
 generalize hG : findI w.c.ins w.o.cl y.nm = G at h6 ⊢
 obtain ⟨g, ok⟩ := G
 simp only [Cl.cells, List.map_cons, List.map_nil] at h6
 cases ok with
 | false =>
  refine wkc (jn @aG.eq_1 (jn @Pl.cells.eq_1 (jn @Y.cells_eq (jn @hf (jn @q1' (jn @q2' (jn @q3' (jn @q4' (jn @int_beq @h6))))))))) ?_
  show retQ _ _ _ _ _
  exact ⟨.inr rfl, _, _, rfl, rfl⟩
 | true =>
  refine wkc (jn @aG.eq_1 (jn @Pl.cells.eq_1 (jn @Y.cells_eq (jn @hf (jn @q1' (jn @q2' (jn @q3' (jn @q4' (jn @int_beq @h6))))))))) ?_
  show retQ _ _ _ _ _
  exact ⟨.inr rfl, _, _, rfl, rfl⟩

set_option maxHeartbeats 4000000 in
theorem list32 : ∀ N, ListAt N := by
 intro N
 induction N with
 | zero => intro w l h; omega
 | succ N ih =>
 intro w l hN hw hty hbd hok
 have k1 := len_szY l
 have k2 := len_szY w.bf
 have r1 := fun look => rows_fl look (encY_row w.bf)
 have f1 : fitsB w.bf.length 176 = true := by simp [fitsB]; omega
 simp only [encY_len] at r1
 refine den_wp Tryz.func29 rfl (by kernel_rfl) rfl rfl ?_
 refine wkc (jn @aG.eq_1 (jn @Pl.cells.eq_1 (jn @dL.eq_1 (jn @fillV.eq_1 (jn @fillV.eq_2 (jn @r1 (jn @f1 @nble_d))))))) ?_
 apply WP.loop' (I := fun D s => ∃ j g m : Nat, j + D = l.length ∧ ∃ (c' : Nat) (B : List Y), B = w.bf ++ l.take j ∧ m = B.length ∧ listW w.o w.c w.cx B (l.drop j) = listW w.o w.c w.cx w.bf l ∧ s = ⟨[(1, dL (encY l)), (2, .ptr 0 0 0), (5, .osl 1 g 0 m 12 none), (6, dI j)], [(0, ⟨0, false, w.cells.map .d⟩), (1, ⟨g, false, fl (encY B)⟩)], 2, c', 0, []⟩) (d := l.length)
 ·exact ⟨0, _, _, by simp, _, w.bf, by simp, rfl, by simp, by simp [Pl.cells, dL, dI]; exact ⟨rfl, rfl⟩⟩
 rintro D _ ⟨j, g, m, hj, c', B, hB, hm, hv, rfl⟩
 refine wk (jn @dI.eq_1 (jn @dL.eq_1 (jn @Pl.cells.eq_1 @encY_len))) ?_
 show WP _ _ _ _ _ _
 refine WP.cond _ rfl (fun hb => ?_) (fun hb => ?_)
 ·simp at hb
  have hb' : j < l.length := by omega
  obtain ⟨y, hy, hym, hix⟩ := at_lt hb'
  have hy' := encY_at hy
  have hwj := w_succ hb' (by omega)
  have hsz := szY_take hy
  have hBs : szY B = szY w.bf + szY (l.take j) := by rw [hB, szY_app]
  have kB := len_szY B
  have hr := stmt76 ih ⟨w.o, w.c, B, w.cx⟩ (hw.upd (by omega)) hty y (by omega) (by simp only; omega) ((okY_iff _).1 hok y hym)
  rw [drop_at hy, listW] at hv
  have r2 := fl_len (encY_row B)
  have r3 := fl_take (encY_row B)
  have r4 := chunk_flat (encY_row B)
  have r5 := encY_snoc B y
  have r6 := fl_snoc (encY B) y.cells
  have f5 : fitsB (m + 1) 176 = true := by simp [fitsB]; omega
  rw [encY_len, ← hm] at r2 r3 r4
  rw [r5] at r6
  simp only [Y.cells_eq, List.map_cons, List.map_nil] at r6
  simp only [aG, Pl.cells, Y.cells_eq, List.map_cons, List.map_nil, dI] at hr
  by_cases hz : stmtW w.o w.c w.cx B y = 0
  case neg =>
   have hz' := eq_false hz
   rw [if_pos hz] at hv
   rw [← hv]
   refine wkc (jn @dI.eq_1 (jn @dL.eq_1 (jn @Pl.cells.eq_1 (jn @Y.cells_eq (jn @encY_len (jn @hix (jn @hy' (jn @hr (jn @int_bne (jn @hz' (jn @closeParts.eq_1 (jn @closeParts.eq_2 (jn @toD_dep (jn @toD_d (jn @toDs_fl (jn @r2 (jn @r3 (jn @r4 @nble_d)))))))))))))))))) ?_
   show retQ _ _ _ _ _
   exact ⟨.inr rfl, _, _, rfl, rfl⟩
  rw [if_neg (by simp [hz])] at hv
  rw [hz] at hr
  refine wkc (jn @dI.eq_1 (jn @dL.eq_1 (jn @Pl.cells.eq_1 (jn @Y.cells_eq (jn @encY_len (jn @hix (jn @hy' (jn @hr (jn @int_bne (jn @closeParts.eq_1 (jn @closeParts.eq_2 (jn @toD_dep (jn @toD_d (jn @toDs_fl (jn @r2 (jn @r3 (jn @r4 (jn @r6 (jn @f5 @nble_d))))))))))))))))))) ?_
  refine loop_next (by simp [hwj]; exact Is.rfl) ?_
  exact ⟨D - 1, by omega, j + 1, _, m + 1, by omega, _, B ++ [y], by rw [hB, take_snoc hy]; simp, by simp; omega, hv, by simp [Pl.cells, dL, dI, hwj]; exact ⟨rfl, rfl⟩⟩
 ·simp at hb
  have hje : j = l.length := by omega
  rw [hje, List.drop_length, listW] at hv
  rw [← hv]
  refine wkc (jn @dI.eq_1 (jn @dL.eq_1 @Pl.cells.eq_1)) ?_
  show retQ _ _ _ _ _
  exact ⟨.inr rfl, _, _, rfl, rfl⟩
end Go.Ac
end

section
set_option maxRecDepth 4000
namespace Go.Ac
open Go.Proofs
def declsW (en : List En) : List Dc → Int
 | [] => 0
 | d :: r => if ¬ 0 < sizeE en d.t then 10 else if d.ck ≠ [] then 5 else declsW en r
def Cl.names (c : Cl) : List Tx := c.inn.map Dc.nm ++ c.out.map Dc.nm ++ c.loc.map Dc.nm ++ c.mems.map Mm.nm ++ c.ins.map Ii.nm
theorem encS_snoc (l : List Tx) (x : Tx) : encS l ++ [[.str x]] = encS (l ++ [x]) := by unfold encS; simp
theorem kf42 (r : Nat) : Ob.keep 42 r = Ob.k42 r := by kernel_rfl
theorem kf45 (r : Nat) : Ob.keep 45 r = Ob.k45 r := by kernel_rfl
attribute [local simp] kf42 Ob.k42 kf45 Ob.k45
set_option maxHeartbeats 2000000 in
theorem decls72 (en : List En) (l : List Dc) (hl : l.length ≤ MX) (hok : ∀ d, d ∈ l → d.ok) : den Tryz.prog Ob.cfg 42 [dL (encE en), dL (encD l)] = some (dI (declsW en l)) := by
 unfold MX at hl
 refine den_wp Tryz.func42 rfl (by kernel_rfl) rfl rfl ?_
 refine wkc (@dL.eq_1) ?_
 apply WP.loop' (I := fun D s => ∃ j : Nat, j + D = l.length ∧ declsW en (l.drop j) = declsW en l ∧ SE [(0, dL (encE en)), (1, dL (encD l)), (5, dI j)] [] 0 s) (d := l.length)
 ·exact ⟨0, by simp, by simp, SE.mk (by simp [dI, dL]) rfl⟩
 rintro D _ ⟨j, hj, hv, cc, rfl⟩
 refine wk (jn @dI.eq_1 @dL.eq_1) ?_
 show WP _ _ _ _ _ _
 refine WP.cond _ rfl (fun hb => ?_) (fun hb => ?_)
 ·simp at hb
  have hb' : j < l.length := by omega
  obtain ⟨d, hd, hdm, hix⟩ := at_lt hb'
  have hd' := encD_at hd
  have hwj := w_succ hb' (by omega)
  have hk := known73 en d.t (hok d hdm).1
  simp only [dL, dI, dB] at hk
  rw [drop_at hd, declsW] at hv
  by_cases c1 : 0 < sizeE en d.t
  case neg =>
   rw [if_pos c1] at hv
   rw [← hv]
   rw [dFalse c1] at hk
   refine wkc (jn @dI.eq_1 (jn @dL.eq_1 (jn @hix (jn @hd' (jn @Dc.cells.eq_1 @hk))))) ?_
   show retQ _ _ _ _ _
   exact ⟨.inr rfl, _, _, rfl, rfl⟩
  rw [dTrue c1] at hk
  rw [if_neg (by simp [c1])] at hv
  by_cases c2 : d.ck = []
  case neg =>
   rw [if_pos c2] at hv
   rw [← hv]
   refine wkc (jn @dI.eq_1 (jn @dL.eq_1 (jn @hix (jn @hd' (jn @Dc.cells.eq_1 (jn @hk (jn @encO_len (jn @lt0 (jn @lt0n @c2))))))))) ?_
   show retQ _ _ _ _ _
   exact ⟨.inr rfl, _, _, rfl, rfl⟩
  rw [if_neg (by simp [c2])] at hv
  refine wkc (jn @dI.eq_1 (jn @dL.eq_1 (jn @hix (jn @hd' (jn @Dc.cells.eq_1 (jn @hk (jn @encO_len (jn @lt0 (jn @lt0n @c2))))))))) ?_
  refine loop_next (by simp [hwj]; exact Is.rfl) ?_
  exact ⟨D - 1, by omega, j + 1, by omega, hv, SE.mk (by simp [dI, dL, hwj]) rfl⟩
 ·simp at hb
  have hje : j = l.length := by omega
  rw [hje, List.drop_length, declsW] at hv
  rw [← hv]
  refine wkc (jn @dI.eq_1 @dL.eq_1) ?_
  show retQ _ _ _ _ _
  exact ⟨.inr rfl, _, _, rfl, rfl⟩
set_option maxHeartbeats 4000000 in
theorem names74 (c : Cl) (hL : c.inn.length + c.out.length + c.loc.length + c.mems.length + c.ins.length ≤ 8388608) : den Tryz.prog Ob.cfg 45 [aG c.cells] = some (dL (encS c.names)) := by
 refine den_wp Tryz.func45 rfl (by kernel_rfl) rfl rfl ?_
 refine wkc (jn @aG.eq_1 @Cl.cells.eq_1) ?_
 apply WP.loop' (I := fun D s => ∃ j g m : Nat, j + D = c.inn.length ∧ ∃ (c' : Nat) (B : List Tx), B = ([] : List Tx) ++ (c.inn.take j).map Dc.nm ∧ m = B.length ∧ s = ⟨[(1, .ptr 0 0 0), (3, .osl 1 g 0 m 1 none), (4, dI j)], [(0, ⟨0, false, c.cells.map .d⟩), (1, ⟨g, false, fl (encS B)⟩)], 2, c', 0, []⟩) (d := c.inn.length)
 ·exact ⟨0, _, _, by simp, _, [], by simp, rfl, by simp [Cl.cells, dL, dI]; exact ⟨rfl, ⟨rfl, rfl⟩, rfl⟩⟩
 rintro D _ ⟨j, g, m, hj, c', B, hB, hm, rfl⟩
 refine wk (jn @dI.eq_1 (jn @dL.eq_1 (jn @Cl.cells.eq_1 @encD_len))) ?_
 refine WP.cond _ rfl (fun hb => ?_) (fun hb => ?_)
 ·simp at hb
  have hb' : j < c.inn.length := by omega
  obtain ⟨d, hd, hdm, hix⟩ := at_lt hb'
  have hd' := encD_at hd
  have hwj := w_succ hb' (by omega)
  have hBl : B.length = 0 + j := by rw [hB]; simp; omega
  have r2 := fl_len (encS_row B)
  have r3 := fl_take (encS_row B)
  have r5 := encS_snoc B d.nm
  have r6 := fl_snoc (encS B) [.str d.nm]
  have f5 : fitsB (m + 1) 16 = true := by simp [fitsB]; omega
  rw [encS_len, ← hm, Nat.mul_one] at r2 r3
  rw [r5] at r6
  simp only [List.map_cons, List.map_nil] at r6
  refine wkc (jn @dI.eq_1 (jn @dL.eq_1 (jn @Cl.cells.eq_1 (jn @encD_len (jn @hix (jn @hd' (jn @Dc.cells.eq_1 (jn @fillV.eq_1 (jn @fillV.eq_2 (jn @toD_dep (jn @toD_d (jn @r2 (jn @r3 (jn @r6 (jn @f5 @nble_d))))))))))))))) ?_
  refine loop_next (by simp [hwj]; exact Is.rfl) ?_
  exact ⟨D - 1, by omega, j + 1, _, m + 1, by omega, _, B ++ [d.nm], by rw [hB, take_snoc hd]; simp, by simp; omega, by simp [Cl.cells, dL, dI, hwj]; exact ⟨rfl, rfl⟩⟩
 simp at hb
 have hje : j = c.inn.length := by omega
 rw [hje, List.take_length] at hB
 refine wkc (jn @dI.eq_1 (jn @dL.eq_1 @Cl.cells.eq_1)) ?_
 rw [List.nil_append] at hB
 apply WP.loop' (I := fun D s => ∃ j g m : Nat, j + D = c.out.length ∧ ∃ (c' : Nat) (B : List Tx), B = c.inn.map Dc.nm ++ (c.out.take j).map Dc.nm ∧ m = B.length ∧ s = ⟨[(1, .ptr 0 0 0), (3, .osl 1 g 0 m 1 none), (5, dI j)], [(0, ⟨0, false, c.cells.map .d⟩), (1, ⟨g, false, fl (encS B)⟩)], 2, c', 0, []⟩) (d := c.out.length)
 ·exact ⟨0, _, _, by simp, _, B, by simp [hB], hm, by simp [Cl.cells, dL, dI]; exact ⟨rfl, rfl⟩⟩
 clear hB hm hj hb B
 rintro D _ ⟨j, g, m, hj, c', B, hB, hm, rfl⟩
 refine wk (jn @dI.eq_1 (jn @dL.eq_1 (jn @Cl.cells.eq_1 @encD_len))) ?_
 refine WP.cond _ rfl (fun hb => ?_) (fun hb => ?_)
 ·simp at hb
  have hb' : j < c.out.length := by omega
  obtain ⟨d, hd, hdm, hix⟩ := at_lt hb'
  have hd' := encD_at hd
  have hwj := w_succ hb' (by omega)
  have hBl : B.length = c.inn.length + j := by rw [hB]; simp; omega
  have r2 := fl_len (encS_row B)
  have r3 := fl_take (encS_row B)
  have r5 := encS_snoc B d.nm
  have r6 := fl_snoc (encS B) [.str d.nm]
  have f5 : fitsB (m + 1) 16 = true := by simp [fitsB]; omega
  rw [encS_len, ← hm, Nat.mul_one] at r2 r3
  rw [r5] at r6
  simp only [List.map_cons, List.map_nil] at r6
  refine wkc (jn @dI.eq_1 (jn @dL.eq_1 (jn @Cl.cells.eq_1 (jn @encD_len (jn @hix (jn @hd' (jn @Dc.cells.eq_1 (jn @fillV.eq_1 (jn @fillV.eq_2 (jn @toD_dep (jn @toD_d (jn @r2 (jn @r3 (jn @r6 (jn @f5 @nble_d))))))))))))))) ?_
  refine loop_next (by simp [hwj]; exact Is.rfl) ?_
  exact ⟨D - 1, by omega, j + 1, _, m + 1, by omega, _, B ++ [d.nm], by rw [hB, take_snoc hd]; simp, by simp; omega, by simp [Cl.cells, dL, dI, hwj]; exact ⟨rfl, rfl⟩⟩
 simp at hb
 have hje : j = c.out.length := by omega
 rw [hje, List.take_length] at hB
 refine wkc (jn @dI.eq_1 (jn @dL.eq_1 @Cl.cells.eq_1)) ?_
 apply WP.loop' (I := fun D s => ∃ j g m : Nat, j + D = c.loc.length ∧ ∃ (c' : Nat) (B : List Tx), B = c.inn.map Dc.nm ++ c.out.map Dc.nm ++ (c.loc.take j).map Dc.nm ∧ m = B.length ∧ s = ⟨[(1, .ptr 0 0 0), (3, .osl 1 g 0 m 1 none), (6, dI j)], [(0, ⟨0, false, c.cells.map .d⟩), (1, ⟨g, false, fl (encS B)⟩)], 2, c', 0, []⟩) (d := c.loc.length)
 ·exact ⟨0, _, _, by simp, _, B, by simp [hB], hm, by simp [Cl.cells, dL, dI]; exact ⟨rfl, rfl⟩⟩
 clear hB hm hj hb B
 rintro D _ ⟨j, g, m, hj, c', B, hB, hm, rfl⟩
 refine wk (jn @dI.eq_1 (jn @dL.eq_1 (jn @Cl.cells.eq_1 @encD_len))) ?_
 refine WP.cond _ rfl (fun hb => ?_) (fun hb => ?_)
 ·simp at hb
  have hb' : j < c.loc.length := by omega
  obtain ⟨d, hd, hdm, hix⟩ := at_lt hb'
  have hd' := encD_at hd
  have hwj := w_succ hb' (by omega)
  have hBl : B.length = c.inn.length + c.out.length + j := by rw [hB]; simp; omega
  have r2 := fl_len (encS_row B)
  have r3 := fl_take (encS_row B)
  have r5 := encS_snoc B d.nm
  have r6 := fl_snoc (encS B) [.str d.nm]
  have f5 : fitsB (m + 1) 16 = true := by simp [fitsB]; omega
  rw [encS_len, ← hm, Nat.mul_one] at r2 r3
  rw [r5] at r6
  simp only [List.map_cons, List.map_nil] at r6
  refine wkc (jn @dI.eq_1 (jn @dL.eq_1 (jn @Cl.cells.eq_1 (jn @encD_len (jn @hix (jn @hd' (jn @Dc.cells.eq_1 (jn @fillV.eq_1 (jn @fillV.eq_2 (jn @toD_dep (jn @toD_d (jn @r2 (jn @r3 (jn @r6 (jn @f5 @nble_d))))))))))))))) ?_
  refine loop_next (by simp [hwj]; exact Is.rfl) ?_
  exact ⟨D - 1, by omega, j + 1, _, m + 1, by omega, _, B ++ [d.nm], by rw [hB, take_snoc hd]; simp, by simp; omega, by simp [Cl.cells, dL, dI, hwj]; exact ⟨rfl, rfl⟩⟩
 simp at hb
 have hje : j = c.loc.length := by omega
 rw [hje, List.take_length] at hB
 refine wkc (jn @dI.eq_1 (jn @dL.eq_1 @Cl.cells.eq_1)) ?_
 apply WP.loop' (I := fun D s => ∃ j g m : Nat, j + D = c.mems.length ∧ ∃ (c' : Nat) (B : List Tx), B = c.inn.map Dc.nm ++ c.out.map Dc.nm ++ c.loc.map Dc.nm ++ (c.mems.take j).map Mm.nm ∧ m = B.length ∧ s = ⟨[(1, .ptr 0 0 0), (3, .osl 1 g 0 m 1 none), (7, dI j)], [(0, ⟨0, false, c.cells.map .d⟩), (1, ⟨g, false, fl (encS B)⟩)], 2, c', 0, []⟩) (d := c.mems.length)
 ·exact ⟨0, _, _, by simp, _, B, by simp [hB], hm, by simp [Cl.cells, dL, dI]; exact ⟨rfl, rfl⟩⟩
 clear hB hm hj hb B
 rintro D _ ⟨j, g, m, hj, c', B, hB, hm, rfl⟩
 refine wk (jn @dI.eq_1 (jn @dL.eq_1 (jn @Cl.cells.eq_1 @encM_len))) ?_
 refine WP.cond _ rfl (fun hb => ?_) (fun hb => ?_)
 ·simp at hb
  have hb' : j < c.mems.length := by omega
  obtain ⟨d, hd, hdm, hix⟩ := at_lt hb'
  have hd' := encM_at hd
  have hwj := w_succ hb' (by omega)
  have hBl : B.length = c.inn.length + c.out.length + c.loc.length + j := by rw [hB]; simp; omega
  have r2 := fl_len (encS_row B)
  have r3 := fl_take (encS_row B)
  have r5 := encS_snoc B d.nm
  have r6 := fl_snoc (encS B) [.str d.nm]
  have f5 : fitsB (m + 1) 16 = true := by simp [fitsB]; omega
  rw [encS_len, ← hm, Nat.mul_one] at r2 r3
  rw [r5] at r6
  simp only [List.map_cons, List.map_nil] at r6
  refine wkc (jn @dI.eq_1 (jn @dL.eq_1 (jn @Cl.cells.eq_1 (jn @encM_len (jn @hix (jn @hd' (jn @Mm.cells.eq_1 (jn @fillV.eq_1 (jn @fillV.eq_2 (jn @toD_dep (jn @toD_d (jn @r2 (jn @r3 (jn @r6 (jn @f5 @nble_d))))))))))))))) ?_
  refine loop_next (by simp [hwj]; exact Is.rfl) ?_
  exact ⟨D - 1, by omega, j + 1, _, m + 1, by omega, _, B ++ [d.nm], by rw [hB, take_snoc hd]; simp, by simp; omega, by simp [Cl.cells, dL, dI, hwj]; exact ⟨rfl, rfl⟩⟩
 simp at hb
 have hje : j = c.mems.length := by omega
 rw [hje, List.take_length] at hB
 refine wkc (jn @dI.eq_1 (jn @dL.eq_1 @Cl.cells.eq_1)) ?_
 apply WP.loop' (I := fun D s => ∃ j g m : Nat, j + D = c.ins.length ∧ ∃ (c' : Nat) (B : List Tx), B = c.inn.map Dc.nm ++ c.out.map Dc.nm ++ c.loc.map Dc.nm ++ c.mems.map Mm.nm ++ (c.ins.take j).map Ii.nm ∧ m = B.length ∧ s = ⟨[(1, .ptr 0 0 0), (3, .osl 1 g 0 m 1 none), (8, dI j)], [(0, ⟨0, false, c.cells.map .d⟩), (1, ⟨g, false, fl (encS B)⟩)], 2, c', 0, []⟩) (d := c.ins.length)
 ·exact ⟨0, _, _, by simp, _, B, by simp [hB], hm, by simp [Cl.cells, dL, dI]; exact ⟨rfl, rfl⟩⟩
 clear hB hm hj hb B
 rintro D _ ⟨j, g, m, hj, c', B, hB, hm, rfl⟩
 refine wk (jn @dI.eq_1 (jn @dL.eq_1 (jn @Cl.cells.eq_1 @encJ_len))) ?_
 refine WP.cond _ rfl (fun hb => ?_) (fun hb => ?_)
 ·simp at hb
  have hb' : j < c.ins.length := by omega
  obtain ⟨d, hd, hdm, hix⟩ := at_lt hb'
  have hd' := encJ_at hd
  have hwj := w_succ hb' (by omega)
  have hBl : B.length = c.inn.length + c.out.length + c.loc.length + c.mems.length + j := by rw [hB]; simp; omega
  have r2 := fl_len (encS_row B)
  have r3 := fl_take (encS_row B)
  have r5 := encS_snoc B d.nm
  have r6 := fl_snoc (encS B) [.str d.nm]
  have f5 : fitsB (m + 1) 16 = true := by simp [fitsB]; omega
  rw [encS_len, ← hm, Nat.mul_one] at r2 r3
  rw [r5] at r6
  simp only [List.map_cons, List.map_nil] at r6
  refine wkc (jn @dI.eq_1 (jn @dL.eq_1 (jn @Cl.cells.eq_1 (jn @encJ_len (jn @hix (jn @hd' (jn @Ii.cells.eq_1 (jn @fillV.eq_1 (jn @fillV.eq_2 (jn @toD_dep (jn @toD_d (jn @r2 (jn @r3 (jn @r6 (jn @f5 @nble_d))))))))))))))) ?_
  refine loop_next (by simp [hwj]; exact Is.rfl) ?_
  exact ⟨D - 1, by omega, j + 1, _, m + 1, by omega, _, B ++ [d.nm], by rw [hB, take_snoc hd]; simp, by simp; omega, by simp [Cl.cells, dL, dI, hwj]; exact ⟨rfl, rfl⟩⟩
 simp at hb
 have hje : j = c.ins.length := by omega
 rw [hje, List.take_length] at hB
 refine wkc (jn @dI.eq_1 (jn @dL.eq_1 @Cl.cells.eq_1)) ?_
 have hc := fun look hl => close_fl (look := look) (id := 1) (g := g) (ro := false) (cap := none) (encS_row B) hl
 rw [encS_len, ← hm] at hc
 have hBn : B = c.names := hB
 rw [← hBn]
 exact ⟨.inr rfl, _, [1], rfl, hc _ rfl⟩
end Go.Ac
end

section
set_option maxRecDepth 4000
namespace Go.Ac
open Go.Proofs
def dupW : List Tx → List Tx → Bool
 | _, [] => false
 | pre, x :: r => decide (x ∈ pre) || dupW (pre ++ [x]) r
def memOk (en : List En) (m : Mm) : Bool := decide (0 < sizeE en m.t) && hasE en m.t m.ini
def headW (o : Oc) (i : Nat) (c : Cl) : Int :=
 if (o.cl.take i).any (fun d => decide (d.nm = c.nm)) = true then 7
 else if declsW o.en c.inn ≠ 0 then declsW o.en c.inn
 else if declsW o.en c.out ≠ 0 then declsW o.en c.out
 else if declsW o.en c.loc ≠ 0 then declsW o.en c.loc
 else if c.mems.any (fun m => !memOk o.en m) = true then 10
 else if dupW [] c.names = true then 7
 else if c.ins.any (fun x => !(findC (o.cl.take i) x.cl).2) = true then 6 else 0
theorem encC_row (l : List Cl) : ∀ r ∈ encC l, r.length = 7 := by unfold encC; intro r hr; obtain ⟨x, _, rfl⟩ := List.mem_map.1 hr; rfl
theorem encC_take (l : List Cl) (j : Nat) : (encC l).take j = encC (l.take j) := by unfold encC; rw [List.map_take]
theorem any_no {α : Type} {p : α → Bool} {l : List α} (h : l.all (fun a => !p a) = true) : l.any p = false := by
 rw [List.any_eq_false]; intro x hx; simpa using List.all_eq_true.1 h x hx
structure CLen (c : Cl) : Prop where
 sum : c.inn.length + c.out.length + c.loc.length + c.mems.length + c.ins.length ≤ 8388608
theorem kf28 (r : Nat) : Ob.keep 28 r = Ob.k28 r := by kernel_rfl
attribute [local simp] kf28 Ob.k28
set_option maxHeartbeats 8000000 in
theorem head31 (o : Oc) (i : Nat) (c : Cl) (hci : o.cl[i]? = some c) (hn : o.cl.length ≤ 8388608) (hL : CLen c) (hok : c.ok) : den Tryz.prog Ob.cfg 28 [aG o.cells, dI i] = some (dI (headW o i c)) := by
 have hL := hL.sum
 have hil : i < o.cl.length := (List.getElem?_eq_some_iff.1 hci).1
 have hixi := idx_lt hil
 have hci' := encC_at hci
 have d1 := decls72 o.en c.inn (by unfold MX; omega) hok.inn
 have d2 := decls72 o.en c.out (by unfold MX; omega) hok.out
 have d3 := decls72 o.en c.loc (by unfold MX; omega) hok.loc
 have hnm := names74 c hL
 simp only [aG, Cl.cells, List.map_cons, List.map_nil, dL, dI] at d1 d2 d3 hnm
 refine den_wp Tryz.func28 rfl (by kernel_rfl) rfl rfl ?_
 unfold headW
 refine wkc (jn @aG.eq_1 (jn @Oc.cells.eq_1 (jn @dI.eq_1 (jn @dL.eq_1 (jn @hixi (jn @hci' @Cl.cells.eq_1)))))) ?_
 apply WP.loop' (I := fun D s => ∃ k : Nat, k + D = i ∧ (o.cl.take k).all (fun d => !decide (d.nm = c.nm)) = true ∧ SE [(1, dI i), (2, .ptr 0 0 0), (5, .ptr 1 1 0), (6, dI k)] [(0, ⟨0, false, o.cells.map .d⟩), (1, ⟨1, false, c.cells.map .d⟩)] 2 s) (d := i)
 ·exact ⟨0, by simp, by simp, SE.mk (by simp [dI]) (by simp [Oc.cells, Cl.cells])⟩
 rintro D _ ⟨k, hk, hno, cc, rfl⟩
 refine wk (jn @dI.eq_1 (jn @dL.eq_1 (jn @Oc.cells.eq_1 @Cl.cells.eq_1))) ?_
 show WP _ _ _ _ _ _
 refine WP.cond _ rfl (fun hb => ?_) (fun hb => ?_)
 ·simp at hb
  have hb' : k < o.cl.length := by omega
  have hki : k < i := by omega
  obtain ⟨d, hd, hdm, hix⟩ := at_lt hb'
  have hd' := encC_at hd
  have hwk := w_succ hb' (by omega)
  have hs := all_snoc (p := fun d : Cl => !decide (d.nm = c.nm)) hd
  by_cases hq : d.nm = c.nm
  ·have hq' := eq_true hq
   have hdt : d ∈ o.cl.take i := by rw [List.mem_iff_getElem?]; exact ⟨k, by rw [List.getElem?_take, if_pos hki]; exact hd⟩
   rw [if_pos (List.any_eq_true.2 ⟨d, hdt, by simp [hq]⟩)]
   refine wkc (jn @dI.eq_1 (jn @dL.eq_1 (jn @Oc.cells.eq_1 (jn @Cl.cells.eq_1 (jn @hix (jn @hd' (jn @tx_beq @hq'))))))) ?_
   show retQ _ _ _ _ _
   exact ⟨.inr rfl, _, _, rfl, rfl⟩
  ·have hq' := eq_false hq
   refine wkc (jn @dI.eq_1 (jn @dL.eq_1 (jn @Oc.cells.eq_1 (jn @Cl.cells.eq_1 (jn @hix (jn @hd' (jn @tx_beq @hq'))))))) ?_
   refine loop_next (by simp [hwk]; exact Is.rfl) ?_
   exact ⟨D - 1, by omega, k + 1, by omega, by rw [hs, hno, decide_eq_false hq]; rfl, SE.mk (by simp [dI, dL, hwk]) (by simp [Oc.cells, Cl.cells])⟩
 simp at hb
 have hke : k = i := by omega
 rw [hke] at hno
 rw [if_neg (by rw [any_no (p := fun d : Cl => decide (d.nm = c.nm)) hno]; simp)]
 clear hno hke hb hk
 by_cases e1 : declsW o.en c.inn = 0
 case neg =>
  have e1' := eq_false e1
  rw [if_pos e1]
  refine wkc (jn @dI.eq_1 (jn @dL.eq_1 (jn @Oc.cells.eq_1 (jn @Cl.cells.eq_1 (jn @d1 (jn @e1' (jn @int_beq @int_bne))))))) ?_
  show retQ _ _ _ _ _
  exact ⟨.inr rfl, _, _, rfl, rfl⟩
 rw [if_neg (by simp [e1])]
 rw [e1] at d1
 by_cases e2 : declsW o.en c.out = 0
 case neg =>
  have e2' := eq_false e2
  rw [if_pos e2]
  refine wkc (jn @dI.eq_1 (jn @dL.eq_1 (jn @Oc.cells.eq_1 (jn @Cl.cells.eq_1 (jn @d1 (jn @d2 (jn @e2' (jn @int_beq @int_bne)))))))) ?_
  show retQ _ _ _ _ _
  exact ⟨.inr rfl, _, _, rfl, rfl⟩
 rw [if_neg (by simp [e2])]
 rw [e2] at d2
 by_cases e3 : declsW o.en c.loc = 0
 case neg =>
  have e3' := eq_false e3
  rw [if_pos e3]
  refine wkc (jn @dI.eq_1 (jn @dL.eq_1 (jn @Oc.cells.eq_1 (jn @Cl.cells.eq_1 (jn @d1 (jn @d2 (jn @d3 (jn @e3' (jn @int_beq @int_bne))))))))) ?_
  show retQ _ _ _ _ _
  exact ⟨.inr rfl, _, _, rfl, rfl⟩
 rw [if_neg (by simp [e3])]
 rw [e3] at d3
 refine wkc (jn @dI.eq_1 (jn @dL.eq_1 (jn @Oc.cells.eq_1 (jn @Cl.cells.eq_1 (jn @d1 (jn @d2 @d3)))))) ?_
 clear d1 d2 d3
 apply WP.loop' (I := fun D s => ∃ k : Nat, k + D = c.mems.length ∧ (c.mems.take k).all (fun m => !(!memOk o.en m)) = true ∧ SE [(1, dI i), (2, .ptr 0 0 0), (5, .ptr 1 1 0), (8, dI k)] [(0, ⟨0, false, o.cells.map .d⟩), (1, ⟨1, false, c.cells.map .d⟩)] 2 s) (d := c.mems.length)
 ·exact ⟨0, by simp, by simp, SE.mk (by simp [dI]) (by simp [Oc.cells, Cl.cells])⟩
 rintro D _ ⟨k, hk, hno, cc, rfl⟩
 refine wk (jn @dI.eq_1 (jn @dL.eq_1 (jn @Oc.cells.eq_1 (jn @Cl.cells.eq_1 @encM_len)))) ?_
 show WP _ _ _ _ _ _
 refine WP.cond _ rfl (fun hb => ?_) (fun hb => ?_)
 ·simp at hb
  have hb' : k < c.mems.length := by omega
  obtain ⟨d, hd, hdm, hix⟩ := at_lt hb'
  have hd' := encM_at hd
  have hwk := w_succ hb' (by omega)
  have hs := all_snoc (p := fun m : Mm => !(!memOk o.en m)) hd
  have h1 := known73 o.en d.t (hok.mems d hdm).1
  have h2 := has53 o.en d.t d.ini (hok.mems d hdm).1
  simp only [dL, dI, dB] at h1 h2
  by_cases c1 : 0 < sizeE o.en d.t
  case neg =>
   rw [dFalse c1] at h1
   rw [if_pos (List.any_eq_true.2 ⟨d, hdm, by simp [memOk, dFalse c1]⟩)]
   refine wkc (jn @dI.eq_1 (jn @dL.eq_1 (jn @Oc.cells.eq_1 (jn @Cl.cells.eq_1 (jn @Mm.cells.eq_1 (jn @encM_len (jn @hix (jn @hd' @h1)))))))) ?_
   show retQ _ _ _ _ _
   exact ⟨.inr rfl, _, _, rfl, rfl⟩
  rw [dTrue c1] at h1
  cases c2 : hasE o.en d.t d.ini with
  | false =>
   rw [c2] at h2
   rw [if_pos (List.any_eq_true.2 ⟨d, hdm, by simp [memOk, c2]⟩)]
   refine wkc (jn @dI.eq_1 (jn @dL.eq_1 (jn @Oc.cells.eq_1 (jn @Cl.cells.eq_1 (jn @Mm.cells.eq_1 (jn @encM_len (jn @hix (jn @hd' (jn @h1 @h2))))))))) ?_
   show retQ _ _ _ _ _
   exact ⟨.inr rfl, _, _, rfl, rfl⟩
  | true =>
   rw [c2] at h2
   refine wkc (jn @dI.eq_1 (jn @dL.eq_1 (jn @Oc.cells.eq_1 (jn @Cl.cells.eq_1 (jn @Mm.cells.eq_1 (jn @encM_len (jn @hix (jn @hd' (jn @h1 @h2))))))))) ?_
   refine loop_next (by simp [hwk]; exact Is.rfl) ?_
   exact ⟨D - 1, by omega, k + 1, by omega, by rw [hs, hno]; simp [memOk, dTrue c1, c2], SE.mk (by simp [dI, dL, hwk]) (by simp [Oc.cells, Cl.cells])⟩
 simp at hb
 have hke : k = c.mems.length := by omega
 rw [hke, List.take_length] at hno
 rw [if_neg (by rw [any_no (p := fun m : Mm => !memOk o.en m) hno]; simp)]
 clear hno hke hb hk
 refine wkc (jn @dI.eq_1 (jn @dL.eq_1 (jn @Oc.cells.eq_1 (jn @Cl.cells.eq_1 @hnm)))) ?_
 have hnl : c.names.length ≤ 8388608 := by unfold Cl.names; simp; omega
 apply WP.loop' (I := fun D s => ∃ k : Nat, k + D = c.names.length ∧ dupW (c.names.take k) (c.names.drop k) = dupW [] c.names ∧ SE [(1, dI i), (2, .ptr 0 0 0), (5, .ptr 1 1 0), (9, dL (encS c.names)), (10, dI k)] [(0, ⟨0, false, o.cells.map .d⟩), (1, ⟨1, false, c.cells.map .d⟩)] 2 s) (d := c.names.length)
 ·exact ⟨0, by simp, by simp, SE.mk (by simp [dI, dL]) (by simp [Oc.cells, Cl.cells])⟩
 rintro D _ ⟨k, hk, hno, cc, rfl⟩
 refine wk (jn @dI.eq_1 (jn @dL.eq_1 (jn @Oc.cells.eq_1 (jn @Cl.cells.eq_1 @encS_len)))) ?_
 show WP _ _ _ _ _ _
 refine WP.cond _ rfl (fun hb => ?_) (fun hb => ?_)
 ·simp at hb
  have hb' : k < c.names.length := by omega
  obtain ⟨d, hd, hdm, hix⟩ := at_lt hb'
  have hd' := encS_at hd
  have hwk := w_succ hb' (by omega)
  have h75 := has75 (c.names.take k) d (by unfold MX; rw [List.length_take]; omega)
  have hsl := fun look e b z => slice_rows look e b z (encS_row c.names) (j := k) (by rw [encS_len]; omega)
  have etk := encS_take c.names k
  simp only [dL, dS, dB] at h75
  rw [drop_at hd, dupW] at hno
  by_cases c7 : d ∈ c.names.take k
  ·rw [dTrue c7] at h75 hno
   rw [Bool.true_or] at hno
   rw [if_pos hno.symm]
   refine wkc (jn @dI.eq_1 (jn @dL.eq_1 (jn @Oc.cells.eq_1 (jn @Cl.cells.eq_1 (jn @encS_len (jn @hix (jn @hd' (jn @hsl (jn @etk @h75))))))))) ?_
   show retQ _ _ _ _ _
   exact ⟨.inr rfl, _, _, rfl, rfl⟩
  ·rw [dFalse c7] at h75 hno
   rw [Bool.false_or, ← take_snoc hd] at hno
   refine wkc (jn @dI.eq_1 (jn @dL.eq_1 (jn @Oc.cells.eq_1 (jn @Cl.cells.eq_1 (jn @encS_len (jn @hix (jn @hd' (jn @hsl (jn @etk @h75))))))))) ?_
   refine loop_next (by simp [hwk]; exact Is.rfl) ?_
   exact ⟨D - 1, by omega, k + 1, by omega, hno, SE.mk (by simp [dI, dL, hwk]) (by simp [Oc.cells, Cl.cells])⟩
 simp at hb
 have hke : k = c.names.length := by omega
 rw [hke, List.drop_length, dupW] at hno
 rw [if_neg (by rw [← hno]; simp)]
 clear hno hke hb hk
 refine wkc (jn @dI.eq_1 (jn @dL.eq_1 (jn @Oc.cells.eq_1 @Cl.cells.eq_1))) ?_
 apply WP.loop' (I := fun D s => ∃ k : Nat, k + D = c.ins.length ∧ (c.ins.take k).all (fun x => !(!(findC (o.cl.take i) x.cl).2)) = true ∧ SE [(1, dI i), (2, .ptr 0 0 0), (5, .ptr 1 1 0), (11, dI k)] [(0, ⟨0, false, o.cells.map .d⟩), (1, ⟨1, false, c.cells.map .d⟩)] 2 s) (d := c.ins.length)
 ·exact ⟨0, by simp, by simp, SE.mk (by simp [dI]) (by simp [Oc.cells, Cl.cells])⟩
 rintro D _ ⟨k, hk, hno, cc, rfl⟩
 refine wk (jn @dI.eq_1 (jn @dL.eq_1 (jn @Oc.cells.eq_1 (jn @Cl.cells.eq_1 @encJ_len)))) ?_
 show WP _ _ _ _ _ _
 refine WP.cond _ rfl (fun hb => ?_) (fun hb => ?_)
 ·simp at hb
  have hb' : k < c.ins.length := by omega
  obtain ⟨d, hd, hdm, hix⟩ := at_lt hb'
  have hd' := encJ_at hd
  have hwk := w_succ hb' (by omega)
  have hs := all_snoc (p := fun x : Ii => !(!(findC (o.cl.take i) x.cl).2)) hd
  have h51 := class51 ⟨[], o.cl.take i⟩ d.cl (by simp only [List.length_take]; unfold MX; omega)
  have hsl := fun look e b z => slice_rows look e b z (encC_row o.cl) (j := i) (by rw [encC_len]; omega)
  have etk := encC_take o.cl i
  have he0 : encE [] = [] := rfl
  generalize hG : findC (o.cl.take i) d.cl = G at h51
  obtain ⟨g, ok⟩ := G
  have hs2 : (!(!(findC (o.cl.take i) d.cl).2)) = ok := by rw [hG]; simp
  simp only [aG, Oc.cells, Cl.cells, List.map_cons, List.map_nil, dS, dB, he0] at h51
  cases ok with
  | false =>
   rw [if_pos (List.any_eq_true.2 ⟨d, hdm, by rw [hG]; rfl⟩)]
   refine wkc (jn @dI.eq_1 (jn @dL.eq_1 (jn @Oc.cells.eq_1 (jn @Cl.cells.eq_1 (jn @Ii.cells.eq_1 (jn @encJ_len (jn @hix (jn @hd' (jn @hsl (jn @etk (jn @h51 (jn @fillV.eq_1 (jn @fillV.eq_2 (jn @closeParts.eq_1 (jn @closeParts.eq_2 (jn @toD_d @toD_full)))))))))))))))) ?_
   show retQ _ _ _ _ _
   exact ⟨.inr rfl, _, _, rfl, rfl⟩
  | true =>
   refine wkc (jn @dI.eq_1 (jn @dL.eq_1 (jn @Oc.cells.eq_1 (jn @Cl.cells.eq_1 (jn @Ii.cells.eq_1 (jn @encJ_len (jn @hix (jn @hd' (jn @hsl (jn @etk (jn @h51 (jn @fillV.eq_1 (jn @fillV.eq_2 (jn @closeParts.eq_1 (jn @closeParts.eq_2 (jn @toD_d @toD_full)))))))))))))))) ?_
   refine loop_next (by simp [hwk]; exact Is.rfl) ?_
   exact ⟨D - 1, by omega, k + 1, by omega, by rw [hs, hno, hs2]; rfl, SE.mk (by simp [dI, dL, hwk]) (by simp [Oc.cells, Cl.cells])⟩
 simp at hb
 have hke : k = c.ins.length := by omega
 rw [hke, List.take_length] at hno
 rw [if_neg (by rw [any_no (p := fun x : Ii => !(findC (o.cl.take i) x.cl).2) hno]; simp)]
 refine wkc (jn @dI.eq_1 (jn @dL.eq_1 (jn @Oc.cells.eq_1 @Cl.cells.eq_1))) ?_
 show retQ _ _ _ _ _
 exact ⟨.inr rfl, _, _, rfl, rfl⟩
end Go.Ac
end

section
set_option maxRecDepth 4000
namespace Go.Ac
open Go.Proofs
attribute [local simp] kf79 Ob.k79 kf30 Ob.k30 kf49 Ob.k49
set_option maxHeartbeats 1000000 in
theorem inside121z (nm : Tx) (k : Nat) : den Tryz.prog Ob.cfg 79 [.full [], dS nm, dI k] = some (dL (encP [⟨nm, k⟩])) := by
 have f1 : fitsB 0 24 = true := rfl
 have f2 : fitsB 1 24 = true := rfl
 have r1 : ∀ look, rowsOf look 2 (.full []) = some (0, [], []) := fun look => rfl
 refine den_wp Tryz.func79 rfl (by kernel_rfl) rfl rfl ?_
 refine wkc (jn @dL.eq_1 (jn @dS.eq_1 (jn @dI.eq_1 (jn @f1 (jn @f2 (jn @r1 (jn @fillV.eq_1 (jn @fillV.eq_2 (jn @closeParts.eq_1 (jn @closeParts.eq_2 @nble_d)))))))))) ?_
 exact ⟨.inr rfl, _, [0], rfl, rfl⟩

set_option maxHeartbeats 4000000 in
theorem assigns77z {x : Tx} {all : Bool} (y : Y) (hb0 : y.sz ≤ 8388607) : den Tryz.prog Ob.cfg 49 [aG y.cells, dS x, .full [], dB all] = some (dB (asY x all [] y)) := by
 rw [Y.sz_eq] at hb0
 have k1 := len_szS y.outs
 have k2 := len_szB y.brs
 have ho := has75 y.outs x (by unfold MX; omega)
 simp only [dL, dS, dB] at ho
 rw [asY_eq]
 refine den_wp Tryz.func49 rfl (by kernel_rfl) rfl rfl ?_
 by_cases q1 : y.k = 1
 ·rw [if_pos q1]
  refine wkc (jn @aG.eq_1 (jn @Y.cells_eq (jn @dL.eq_1 (jn @dS.eq_1 (jn @dB.eq_1 (jn @int_beq (jn @tx_beq @q1))))))) ?_
  show retQ _ _ _ _ _
  exact ⟨.inr rfl, _, _, rfl, rfl⟩
 rw [if_neg q1]
 by_cases q4 : y.k = 4
 ·rw [if_pos q4]
  refine wkc (jn @aG.eq_1 (jn @Y.cells_eq (jn @dL.eq_1 (jn @dS.eq_1 (jn @dB.eq_1 (jn @int_beq (jn @tx_beq (jn @q4 @ho)))))))) ?_
  show retQ _ _ _ _ _
  exact ⟨.inr rfl, _, _, rfl, rfl⟩
 rw [if_neg q4]
 by_cases q3 : y.k = 3
 case neg =>
  rw [if_neg q3]
  refine wkc (jn @aG.eq_1 (jn @Y.cells_eq (jn @dL.eq_1 (jn @dS.eq_1 (jn @dB.eq_1 (jn @int_beq (jn @q1 (jn @q4 @q3)))))))) ?_
  show retQ _ _ _ _ _
  exact ⟨.inr rfl, _, _, rfl, rfl⟩
 rw [if_pos q3]
 simp only [List.find?_nil]
 refine wkc (jn @aG.eq_1 (jn @Y.cells_eq (jn @dL.eq_1 (jn @dS.eq_1 (jn @dB.eq_1 (jn @int_beq @q3)))))) ?_
 apply WP.loop' (I := fun D s => SE [(1, dS x), (2, .full []), (3, dB all), (4, .ptr 0 0 0), (9, dI 0)] [(0, ⟨0, false, y.cells.map .d⟩)] 1 s) (d := 0)
 ·exact SE.mk (by simp [dI, dL, dS, dB]) (by simp [Y.cells_eq, q3])
 rintro D _ ⟨cc, rfl⟩
 refine wkc (jn @dI.eq_1 (jn @dL.eq_1 (jn @dS.eq_1 (jn @dB.eq_1 @Y.cells_eq)))) ?_
 apply WP.loop' (I := fun D s => ∃ i n : Nat, i + D = y.brs.length ∧ n = asC x all [] y.nm 0 (y.brs.take i) ∧ SE [(1, dS x), (2, .full []), (3, dB all), (4, .ptr 0 0 0), (10, dI n), (11, dI i)] [(0, ⟨0, false, y.cells.map .d⟩)] 1 s) (d := y.brs.length)
 ·exact ⟨0, 0, by simp, by simp [asC], SE.mk (by simp [dI, dL, dS, dB]) (by simp [Y.cells_eq])⟩
 rintro D2 _ ⟨i, n, hi, hn, cc2, rfl⟩
 refine wk (jn @dI.eq_1 (jn @dL.eq_1 (jn @dS.eq_1 (jn @dB.eq_1 @Y.cells_eq)))) ?_
 show WP _ _ _ _ _ _
 refine WP.cond _ rfl (fun hb => ?_) (fun hb => ?_)
 ·simp at hb
  have hc' : i < y.brs.length := by omega
  obtain ⟨b, hb1, hbm, hib⟩ := at_lt hc'
  have hb2 := encB_at hb1
  have hw2 := w_succ hc' (by omega)
  have hin := inside121z y.nm i
  have hr := some33 x all _ b [⟨y.nm, i⟩] (Nat.lt_succ_self _) (by have := mem_szB hbm; simp; omega)
  have hts : y.brs.take (i + 1) = y.brs.take i ++ [b] := take_snoc hb1
  have hcn := asC_snoc x all [] y.nm (y.brs.take i) 0 b
  rw [← hts, ← hn, List.length_take, Nat.min_eq_left (by omega), Nat.zero_add, List.nil_append] at hcn
  have hnl := count_le x all [] y.nm (y.brs.take i) 0
  rw [← hn] at hnl
  have hnl2 : n ≤ y.brs.length := by rw [List.length_take] at hnl; omega
  have hwn : IntKind.i64.wrap ((n : Int) + 1) = ((n + 1 : Nat) : Int) := by rw [w_id'] <;> omega
  simp only [dL, dS, dB, dI] at hin hr
  cases he : asL x all [⟨y.nm, i⟩] b with
  | true =>
   rw [he] at hr hcn
   refine wkc (jn @dI.eq_1 (jn @dL.eq_1 (jn @dS.eq_1 (jn @dB.eq_1 (jn @Y.cells_eq (jn @hib (jn @hb2 (jn @hin @hr)))))))) ?_
   refine loop_next (by simp [hw2, hwn]; exact Is.rfl) ?_
   exact ⟨D2 - 1, by omega, i + 1, n + 1, by omega, by rw [hcn]; simp, SE.mk (by simp [dI, dL, dS, dB, hw2, hwn]) (by simp [Y.cells_eq])⟩
  | false =>
   rw [he] at hr hcn
   refine wkc (jn @dI.eq_1 (jn @dL.eq_1 (jn @dS.eq_1 (jn @dB.eq_1 (jn @Y.cells_eq (jn @hib (jn @hb2 (jn @hin @hr)))))))) ?_
   refine loop_next (by simp [hw2]; exact Is.rfl) ?_
   exact ⟨D2 - 1, by omega, i + 1, n, by omega, by rw [hcn]; simp, SE.mk (by simp [dI, dL, dS, dB, hw2]) (by simp [Y.cells_eq])⟩
 ·simp at hb
  have hie : i = y.brs.length := by omega
  rw [hie, List.take_length] at hn
  simp only [← hn]
  cases all with
  | true =>
   by_cases hnn : n = y.brs.length
   ·have e1 : ((n : Int) = y.brs.length) = True := eq_true (by omega)
    refine wkc (jn @dI.eq_1 (jn @dL.eq_1 (jn @dS.eq_1 (jn @dB.eq_1 (jn @Y.cells_eq (jn @int_beq (jn @e1 @hnn))))))) ?_
    exact ⟨.inr rfl, _, _, rfl, by simp [hnn]; rfl⟩
   ·have e1 : ((n : Int) = y.brs.length) = False := eq_false (by omega)
    refine wkc (jn @dI.eq_1 (jn @dL.eq_1 (jn @dS.eq_1 (jn @dB.eq_1 (jn @Y.cells_eq (jn @int_beq (jn @e1 @hnn))))))) ?_
    exact ⟨.inr rfl, _, _, rfl, by simp [hnn]; rfl⟩
  | false =>
   refine wkc (jn @dI.eq_1 (jn @dL.eq_1 (jn @dS.eq_1 (jn @dB.eq_1 (jn @Y.cells_eq @int_beq))))) ?_
   exact ⟨.inr rfl, _, _, rfl, by simp; rfl⟩


set_option maxHeartbeats 1000000 in
theorem some33z (x : Tx) (all : Bool) (l : List Y) (hb0 : szY l ≤ 8388607) : den Tryz.prog Ob.cfg 30 [dL (encY l), dS x, .full [], dB all] = some (dB (asL x all [] l)) := by
 have k1 := len_szY l
 refine den_wp Tryz.func30 rfl (by kernel_rfl) rfl rfl ?_
 rw [asL_any]
 refine wkc (jn @dL.eq_1 (jn @dS.eq_1 @dB.eq_1)) ?_
 apply WP.loop' (I := fun D s => ∃ j : Nat, j + D = l.length ∧ (l.take j).all (fun y => !asY x all [] y) = true ∧ SE [(0, dL (encY l)), (1, dS x), (2, .full []), (3, dB all), (9, dI j)] [] 0 s) (d := l.length)
 ·exact ⟨0, by simp, by simp, SE.mk (by simp [dI, dL, dS, dB]) rfl⟩
 rintro D _ ⟨j, hj, hno, cc, rfl⟩
 refine wk (jn @dI.eq_1 (jn @dL.eq_1 (jn @dS.eq_1 @dB.eq_1))) ?_
 show WP _ _ _ _ _ _
 refine WP.cond _ rfl (fun hb => ?_) (fun hb => ?_)
 ·simp at hb
  have hb' : j < l.length := by omega
  obtain ⟨y, hy, hym, hix⟩ := at_lt hb'
  have hy' := encY_at hy
  have hw := w_succ hb' (by omega)
  have hs := all_snoc (p := fun y => !asY x all [] y) hy
  have hr := assigns77z (x := x) (all := all) y (by have := mem_szY hym; omega)
  simp only [aG, Y.cells_eq, List.map_cons, List.map_nil, dL, dS, dB] at hr
  cases he : asY x all [] y with
  | true =>
   rw [he] at hr
   have ha : l.any (asY x all []) = true := List.any_eq_true.2 ⟨y, hym, he⟩
   rw [ha]
   refine wkc (jn @dI.eq_1 (jn @dL.eq_1 (jn @dS.eq_1 (jn @dB.eq_1 (jn @Y.cells_eq (jn @hix (jn @hy' @hr))))))) ?_
   show retQ _ _ _ _ _
   exact ⟨.inr rfl, _, _, rfl, rfl⟩
  | false =>
   rw [he] at hr hs
   refine wkc (jn @dI.eq_1 (jn @dL.eq_1 (jn @dS.eq_1 (jn @dB.eq_1 (jn @Y.cells_eq (jn @hix (jn @hy' @hr))))))) ?_
   refine loop_next (by simp [hw]; exact Is.rfl) ?_
   exact ⟨D - 1, by omega, j + 1, by omega, by rw [hs, hno]; rfl, SE.mk (by simp [dI, dL, dS, dB, hw]) rfl⟩
 ·simp at hb
  have hje : j = l.length := by omega
  rw [hje, List.take_length] at hno
  have ha : l.any (asY x all []) = false := by
   cases hany : l.any (asY x all []) with
   | false => rfl
   | true =>
    obtain ⟨y, hy, hye⟩ := List.any_eq_true.1 hany
    have := List.all_eq_true.1 hno y hy
    rw [hye] at this; cases this
  rw [ha]
  refine wkc (jn @dI.eq_1 (jn @dL.eq_1 (jn @dS.eq_1 @dB.eq_1))) ?_
  show retQ _ _ _ _ _
  exact ⟨.inr rfl, _, _, rfl, rfl⟩
end Go.Ac
end
