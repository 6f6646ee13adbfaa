/- More walks in one line. No conditions. -/
import Derived.Test.YtkgekafdhehleaaGreatObPhM
set_option linter.unusedVariables false
set_option linter.unusedSimpArgs false
section
set_option maxRecDepth 4000
namespace Go.Ac
open Go.Proofs
attribute [local simp] Hp.get_set Ag_set Ag_refl Ag_trunc get_trunc_lt
/-- The type that the program gives, though the variable may not be ready. -/
def kindT (w : Pl) (x : X) : Int := if x.k = 2 then getT w.c x.nm else (kindW w x).1
theorem kind2_args {x : X} (hf : formE x = true) (q : x.k = 2) : x.args = [] := by
 rw [formE_eq] at hf
 simp only [formN, q] at hf
 split at hf
 ·cases hf
 ·rename_i n hn
  simp at hn hf
  have : n = 0 := hn.2.symm
  have h1 := hf.1
  rw [this] at h1
  simpa using h1
theorem kindT_ok {w : Pl} {x : X} (hf : formE x = true) (h : (kindW w x).2 = 0) : kindT w x = (kindW w x).1 := by
 unfold kindT
 split
 ·rename_i q
  rw [kindW_eq] at h ⊢
  have ha := kind2_args hf q
  rw [ha] at h ⊢
  simp only [kindsW, kindO, q] at h ⊢
  simp at h ⊢
  split
  ·rename_i hz; simp [hz]
  ·rename_i hz
   simp only [hz, if_false] at h
   split at h
   ·simp [*]
   ·simp at h
 ·rfl
theorem kf174 (r : Nat) : Ob.keep 174 r = Ob.k174 r := by kernel_rfl
attribute [local simp] kf174 Ob.k174
section
variable {ic gc iv gv ip gp im gm ii gi : Nat} {o : Oc} {ea : List Cl} {c : Cl}
/-- A place's lists are not too long. -/
structure BOK (cx : List Pr) (bl : List (List Y)) : Prop where
 len : bl.length ≤ MX
 nb : nbB bl = true
 sz : cx.length + szY bl.flatten ≤ 8388608
set_option maxHeartbeats 4000000 in
theorem typed174 (hW : KW o c) (cx : List Pr) (bl : List (List Y)) (hB : BOK cx bl) : ∀ (N : Nat) (x : X), x.sz < N → formE x = true → x.ok →
  QK ic gc iv gv ip gp im gm ii gi o ea c 174 [.ptr ic gc 0, aG x.cells, pP cx bl] (.tuple [dI (kindT ⟨o, c, bl.flatten, cx⟩ x), dI (kindW ⟨o, c, bl.flatten, cx⟩ x).2]) := by
 intro N
 induction N with
 | zero => intro x h; omega
 | succ N ih =>
 intro x hN hf hok hp n cc hK
 obtain ⟨hf1, hf2, hf3⟩ := formE_l hf
 obtain ⟨hx1, hx2⟩ := X.ok_eq hok
 have hs0 := X.sz_eq x
 refine quietV_wp Tryz.func174 rfl (by kernel_rfl) rfl (fun _ => rfl) ?_
 generalize hw : (⟨o, c, bl.flatten, cx⟩ : Pl) = w at *
 refine wkcv (jn @envOf.eq_1 (jn @envOf.eq_2 (jn @aG.eq_1 (jn @pP.eq_1 (jn @X.cells_eq @dL.eq_1))))) ?_
 apply WP.loop' (I := fun D s => ∃ j g : Nat, j + D = x.args.length ∧ (x.args.take j).all (okK w) = true ∧ ∃ (c' : Nat) (L : List Int) (hp' : Hp), L = (x.args.take j).map (fun y => (kindW w y).1) ∧ Ag n hp hp' ∧
  hp'.get n = some ⟨cc, false, x.cells.map .d⟩ ∧ hp'.get (n + 1) = some ⟨cc + 1, false, [V.d (.slice (encP cx)), V.d (.slice (encB bl))]⟩ ∧ hp'.get (n + 2) = some ⟨g, false, fl (encI L)⟩ ∧
  s = ⟨[(0, .ptr ic gc 0), (4, .ptr n cc 0), (5, .ptr (n + 1) (cc + 1) 0), (8, .osl (n + 2) g 0 j 1 none), (18, dL (encX x.args)), (19, dI x.args.length), (20, dI j)], hp', n + 3, c', n, []⟩) (d := x.args.length)
 ·refine ⟨0, cc + 1 + 1, by simp, by simp, _, [], _, by simp, ?_, ?_, ?_, ?_, st_eq (by simp [dI, dL]) rfl⟩
  ·simp [Ag_set, Ag_refl]
  ·simp [Hp.get_set, X.cells_eq]
  ·simp [Hp.get_set]
  ·simp [Hp.get_set, fl, encI]
 rintro D _ ⟨j, g, hj, hno, c', L, hp', hL, hag, hx0, hx1', hx2', rfl⟩
 have hKp := hK.ag hag (Nat.le_refl n)
 have hco := hKp.co
 have nc := nf hK.lc
 have hagt := eq_true hag
 rw [X.cells_eq] at hx0
 simp only [List.map_cons, List.map_nil] at hx0
 refine wkv (jn @dI.eq_1 @dL.eq_1) ?_
 show WP _ _ _ _ _ _
 refine WP.cond _ rfl (fun hb => ?_) (fun hb => ?_)
 ·simp at hb
  have hb' : j < x.args.length := by omega
  obtain ⟨d, hd, hdm, hix⟩ := at_lt hb'
  have hd' := encX_at hd
  have hwj := w_succ hb' (by omega)
  have hs := all_snoc (p := okK w) hd
  obtain ⟨F, G, hr⟩ := (ih d (by have := mem_szX hdm; omega) (List.all_eq_true.1 hf1 d hdm) ((okX_iff _).1 hx2 d hdm)).fn hK
  simp only [aG, pP, X.cells_eq, List.map_cons, List.map_nil, dI] at hr
  by_cases hz : (kindW w d).2 = 0
  ·rw [hz, kindT_ok (List.all_eq_true.1 hf1 d hdm) hz] at hr
   have hsn := take_snoc hd
   have hLl : L.length = j := by rw [hL]; simp; omega
   have hLs : (x.args.take (j + 1)).map (fun y => (kindW w y).1) = L ++ [(kindW w d).1] := by rw [hsn, hL]; simp
   have r2 := fl_len (encI_row L)
   have r3 := fl_take (encI_row L)
   have r4 := fl_snoc (encI L) [.int .i64 (kindW w d).1]
   have r5 := encI_snoc L (kindW w d).1
   have f5 : fitsB (j + 1) 8 = true := by simp [fitsB]; omega
   rw [r5] at r4
   rw [encI_len, hLl, Nat.mul_one] at r2 r3
   simp only [List.map_cons, List.map_nil] at r4
   refine wkcv (jn @dI.eq_1 (jn @dL.eq_1 (jn @X.cells_eq (jn @hix (jn @hd' (jn @hr (jn @fillV.eq_1 (jn @fillV.eq_2 (jn @closeParts.eq_1 (jn @closeParts.eq_2 (jn @cl2.eq_def (jn @toD_dep (jn @toD_d (jn @nble_d (jn @f5 (jn @r2 (jn @r3 (jn @r4 (jn @Hp.get_set (jn @hx0 (jn @hx1' (jn @hx2' (jn @nc (jn @hco (jn @Ag_set @hagt))))))))))))))))))))))))) ?_
   refine loop_next (by simp [hwj]; exact Is.rfl) ?_
   exact ⟨D - 1, by omega, j + 1, _, by omega, by rw [hs, hno]; simp [okK, hz], _, _, _, hLs.symm, by simp [hag], by simp [hx0, X.cells_eq], by simp [hx1'], by simp; rfl, st_eq (by simp [dI, dL, hwj]) rfl⟩
  ·have hz' := eq_false hz
   have hkk : kindW w x = (0, (kindW w d).2) := by rw [kindW_eq, kindsW_bad w hno hd hz, if_pos hz]
   have hkt : x.k ≠ 2 := fun q => by
    have := kind2_args hf q
    rw [this] at hb'; simp at hb'
   rw [show kindT w x = 0 by unfold kindT; rw [if_neg hkt, hkk], hkk]
   refine wkcv (jn @dI.eq_1 (jn @dL.eq_1 (jn @X.cells_eq (jn @hx0 (jn @hx1' (jn @hx2' (jn @nc (jn @hco (jn @hagt (jn @hix (jn @hd' (jn @hr (jn @hz' @int_bne))))))))))))) ?_
   exact ⟨.inr rfl, rfl, _, rfl, rfl⟩
 ·simp at hb
  have hje : j = x.args.length := by omega
  rw [hje, List.take_length] at hno
  have hks := kindsW_ok w hno
  have hkk : kindW w x = kindO w x.k x.o x.t x.v x.nm (x.args.map (fun y => (kindW w y).1)) := by rw [kindW_eq, hks, if_neg (by simp)]
  have hx : (x.args.take x.args.length).map (fun y => (kindW w y).1) = x.args.map (fun y => (kindW w y).1) := by rw [List.take_length]
  rw [hje, hx] at hL
  rw [← hL] at hkk
  rw [hkk]
  have hLl : L.length = x.args.length := by rw [hL]; simp
  subst hje
  clear hL hx hks
  have hwo : w.o = o := by rw [← hw]
  have hwc : w.c = c := by rw [← hw]
  rcases formE_k hf with q | q | q | q | q
  ·have hh := has15 o.en x.t x.v hx1
   simp only [dL, dI, dB] at hh
   rw [show kindT w x = (kindO w x.k x.o x.t x.v x.nm L).1 by unfold kindT; rw [if_neg (by omega), hkk]]
   cases hz : hasE o.en x.t x.v with
   | true =>
    rw [hz] at hh
    simp only [kindO, q, hwo, hz]
    refine wkcv (jn @dI.eq_1 (jn @dL.eq_1 (jn @X.cells_eq (jn @hx0 (jn @hx1' (jn @hx2' (jn @nc (jn @hco (jn @hagt (jn @q @hh)))))))))) ?_
    exact ⟨.inr rfl, rfl, _, rfl, rfl⟩
   | false =>
    rw [hz] at hh
    simp only [kindO, q, hwo, hz]
    refine wkcv (jn @dI.eq_1 (jn @dL.eq_1 (jn @X.cells_eq (jn @hx0 (jn @hx1' (jn @hx2' (jn @nc (jn @hco (jn @hagt (jn @q @hh)))))))))) ?_
    exact ⟨.inr rfl, rfl, _, rfl, rfl⟩
  ·have hlk := fun (look : Look) (sz by_ : Nat) (zr : Option (List V)) (y : Tx) (h : look iv = hp'.get iv) => hKp.look_vars (look := look) (sz := sz) (by_ := by_) (zr := zr) (x := y) h
   have nv := nf hK.lv
   obtain ⟨F, G, hr⟩ := (ready151 (ic := ic) (gc := gc) (iv := iv) (gv := gv) (ip := ip) (gp := gp) (im := im) (gm := gm) (ii := ii) (gi := gi) (ea := ea) hW x.nm cx bl hB.len hB.nb hB.sz).fn hK
   rw [hw] at hr
   simp only [dS, pP, dI] at hr
   rw [show kindT w x = getT c x.nm by unfold kindT; rw [if_pos q, hwc]]
   by_cases hz : getT c x.nm = 0
   ·simp only [kindO, q, hwc, hz]
    refine wkcv (jn @dI.eq_1 (jn @dL.eq_1 (jn @X.cells_eq (jn @hx0 (jn @hx1' (jn @hx2' (jn @nc (jn @hco (jn @hagt (jn @q (jn @zt3 (jn @lookRes.eq_1 (jn @lookRes.eq_2 (jn @nv (jn @hlk @hz))))))))))))))) ?_
    exact ⟨.inr rfl, rfl, _, rfl, rfl⟩
   have hz' := eq_false hz
   cases hy : readyW w x.nm with
   | true =>
    rw [hy] at hr
    simp only [kindO, q, hwc, hz', hy]
    refine wkcv (jn @dI.eq_1 (jn @dL.eq_1 (jn @X.cells_eq (jn @hx0 (jn @hx1' (jn @hx2' (jn @nc (jn @hco (jn @hagt (jn @q (jn @zt3 (jn @lookRes.eq_1 (jn @lookRes.eq_2 (jn @nv (jn @hlk (jn @hz' @hr)))))))))))))))) ?_
    exact ⟨.inr rfl, rfl, _, rfl, rfl⟩
   | false =>
    rw [hy] at hr
    simp only [kindO, q, hwc, hz', hy]
    refine wkcv (jn @dI.eq_1 (jn @dL.eq_1 (jn @X.cells_eq (jn @hx0 (jn @hx1' (jn @hx2' (jn @nc (jn @hco (jn @hagt (jn @q (jn @zt3 (jn @lookRes.eq_1 (jn @lookRes.eq_2 (jn @nv (jn @hlk (jn @hz' @hr)))))))))))))))) ?_
    exact ⟨.inr rfl, rfl, _, rfl, rfl⟩
  ·have hlk := fun (look : Look) (sz by_ : Nat) (zr : Option (List V)) (y : Tx) (h : look im = hp'.get im) => hKp.look_mems (look := look) (sz := sz) (by_ := by_) (zr := zr) (x := y) h
   have nv := nf hK.lm
   rw [show kindT w x = (kindO w x.k x.o x.t x.v x.nm L).1 by unfold kindT; rw [if_neg (by omega), hkk]]
   by_cases hz : findM c.mems x.nm = 0
   ·simp only [kindO, q, hwc, hz]
    refine wkcv (jn @dI.eq_1 (jn @dL.eq_1 (jn @X.cells_eq (jn @hx0 (jn @hx1' (jn @hx2' (jn @nc (jn @hco (jn @hagt (jn @q (jn @zt3 (jn @lookRes.eq_1 (jn @lookRes.eq_2 (jn @nv (jn @hlk @hz))))))))))))))) ?_
    exact ⟨.inr rfl, rfl, _, rfl, rfl⟩
   have hz' := eq_false hz
   simp only [kindO, q, hwc, hz']
   refine wkcv (jn @dI.eq_1 (jn @dL.eq_1 (jn @X.cells_eq (jn @hx0 (jn @hx1' (jn @hx2' (jn @nc (jn @hco (jn @hagt (jn @q (jn @zt3 (jn @lookRes.eq_1 (jn @lookRes.eq_2 (jn @nv (jn @hlk @hz'))))))))))))))) ?_
   exact ⟨.inr rfl, rfl, _, rfl, rfl⟩
  ·have hg := res193 x.o L
   have r2 := fl_len (encI_row L)
   have r3 := fl_take (encI_row L)
   have r4 := chunk_flat (encI_row L)
   rw [encI_len, Nat.mul_one] at r2 r3
   rw [encI_len] at r4
   rw [hLl] at r2 r3 r4
   simp only [dL, dI] at hg
   rw [show kindT w x = (kindO w x.k x.o x.t x.v x.nm L).1 by unfold kindT; rw [if_neg (by omega), hkk]]
   simp only [kindO, q]
   refine wkcv (jn @dI.eq_1 (jn @dL.eq_1 (jn @X.cells_eq (jn @hx0 (jn @hx1' (jn @hx2' (jn @nc (jn @hco (jn @hagt (jn @q (jn @hg (jn @closeParts.eq_1 (jn @closeParts.eq_2 (jn @cl2.eq_def (jn @toD_dep (jn @toD_d (jn @toDs_fl (jn @r2 (jn @r3 (jn @r4 @nble_d)))))))))))))))))))) ?_
   exact ⟨.inr rfl, rfl, _, rfl, rfl⟩
  ·rw [show kindT w x = (kindO w x.k x.o x.t x.v x.nm L).1 by unfold kindT; rw [if_neg (by omega), hkk]]
   rw [hf2 q] at hLl ⊢
   obtain ⟨a, b, d, rfl⟩ : ∃ a b d, L = [a, b, d] := by
    match L, hLl with
    | [a, b, d], _ => exact ⟨a, b, d, rfl⟩
   have e : fl (encI [a, b, d]) = [.d (.int .i64 a), .d (.int .i64 b), .d (.int .i64 d)] := rfl
   rw [e] at hx2'
   by_cases c1 : a = 1
   case neg =>
    have c1' := eq_false c1
    simp only [kindO, q]
    rw [show (if ([a, b, d].getD 0 0 ≠ 1 ∨ [a, b, d].getD 1 0 ≠ [a, b, d].getD 2 0) then ((0 : Int), (10 : Int)) else ([a, b, d].getD 1 0, 0)) = (0, 10) by simp [c1]]
    refine wkcv (jn @dI.eq_1 (jn @dL.eq_1 (jn @X.cells_eq (jn @hx0 (jn @hx1' (jn @hx2' (jn @nc (jn @hco (jn @hagt (jn @q (jn @c1' (jn @int_bne @idx.eq_def)))))))))))) ?_
    exact ⟨.inr rfl, rfl, _, rfl, rfl⟩
   by_cases c2 : b = d
   case neg =>
    have c2' := eq_false c2
    simp only [kindO, q]
    rw [show (if ([a, b, d].getD 0 0 ≠ 1 ∨ [a, b, d].getD 1 0 ≠ [a, b, d].getD 2 0) then ((0 : Int), (10 : Int)) else ([a, b, d].getD 1 0, 0)) = (0, 10) by simp [c2]]
    refine wkcv (jn @dI.eq_1 (jn @dL.eq_1 (jn @X.cells_eq (jn @hx0 (jn @hx1' (jn @hx2' (jn @nc (jn @hco (jn @hagt (jn @q (jn @c1 (jn @c2' (jn @int_bne @idx.eq_def))))))))))))) ?_
    exact ⟨.inr rfl, rfl, _, rfl, rfl⟩
   simp only [kindO, q]
   rw [show (if ([a, b, d].getD 0 0 ≠ 1 ∨ [a, b, d].getD 1 0 ≠ [a, b, d].getD 2 0) then ((0 : Int), (10 : Int)) else ([a, b, d].getD 1 0, 0)) = (b, 0) by simp [c1, c2]]
   subst c1 c2
   refine wkcv (jn @dI.eq_1 (jn @dL.eq_1 (jn @X.cells_eq (jn @hx0 (jn @hx1' (jn @hx2' (jn @nc (jn @hco (jn @hagt (jn @q (jn @int_bne @idx.eq_def))))))))))) ?_
   exact ⟨.inr rfl, rfl, _, rfl, rfl⟩
end
end Go.Ac
end

section
set_option maxRecDepth 4000
namespace Go.Ac
open Go.Proofs
attribute [local simp] Hp.get_set Ag_set Ag_refl Ag_trunc get_trunc_lt
theorem kf153 (r : Nat) : Ob.keep 153 r = Ob.k153 r := by kernel_rfl
theorem kf154 (r : Nat) : Ob.keep 154 r = Ob.k154 r := by kernel_rfl
theorem kf136 (r : Nat) : Ob.keep 136 r = Ob.k136 r := by kernel_rfl
attribute [local simp] kf153 Ob.k153 kf154 Ob.k154 kf136 Ob.k136
def exprT (w : Pl) (x : X) : Int := if formE x then kindT w x else 0
theorem exprT_ok {w : Pl} {x : X} (h : (exprW w x).2 = 0) : exprT w x = (exprW w x).1 := by
 unfold exprT exprW at *
 split
 ·rename_i hf
  rw [if_pos hf] at h
  exact kindT_ok hf h
 ·rename_i hf
  rw [if_neg hf] at h
def tgtP (w : Pl) (nm : Tx) (twice : Bool) (t : Int) : Int := if setT w.c nm = 0 then 6 else if twice then 7 else targetW w nm t
def storeP (w : Pl) (y : Y) : Int := if (exprW w y.r).2 ≠ 0 then (exprW w y.r).2 else if y.k = 1 then targetW w y.nm (exprW w y.r).1 else if findM w.c.mems y.nm = 0 then 6 else if findM w.c.mems y.nm ≠ (exprW w y.r).1 then 10 else 0
section
variable {ic gc iv gv ip gp im gm ii gi : Nat} {o : Oc} {ea : List Cl} {c : Cl}
set_option maxHeartbeats 1000000 in
theorem expr153 (hW : KW o c) (cx : List Pr) (bl : List (List Y)) (hB : BOK cx bl) (x : X) (hx : x.sz ≤ MX) (hok : x.ok) :
  QK ic gc iv gv ip gp im gm ii gi o ea c 153 [.ptr ic gc 0, aG x.cells, pP cx bl] (.tuple [dI (exprT ⟨o, c, bl.flatten, cx⟩ x), dI (exprW ⟨o, c, bl.flatten, cx⟩ x).2]) := by
 intro hp n cc hK
 have ho := object173 _ x (Nat.lt_succ_self _) hx
 simp only [aG, X.cells_eq, List.map_cons, List.map_nil, dB] at ho
 refine quietV_wp Tryz.func153 rfl (by kernel_rfl) rfl (fun _ => rfl) ?_
 unfold exprT exprW
 cases hf : formE x with
 | false =>
  rw [hf] at ho
  refine wkcv (jn @envOf.eq_1 (jn @envOf.eq_2 (jn @aG.eq_1 (jn @pP.eq_1 (jn @X.cells_eq (jn @dL.eq_1 @ho)))))) ?_
  exact ⟨.inr rfl, rfl, _, rfl, rfl⟩
 | true =>
  rw [hf] at ho
  obtain ⟨F, G, hr⟩ := (typed174 hW cx bl hB _ x (Nat.lt_succ_self _) hf hok).fn hK
  simp only [aG, pP, X.cells_eq, List.map_cons, List.map_nil, dI] at hr
  simp only [if_true]
  refine wkcv (jn @envOf.eq_1 (jn @envOf.eq_2 (jn @aG.eq_1 (jn @pP.eq_1 (jn @X.cells_eq (jn @dL.eq_1 (jn @ho @hr))))))) ?_
  exact ⟨.inr rfl, rfl, _, rfl, rfl⟩
set_option maxHeartbeats 1000000 in
theorem target154 (hW : KW o c) (cx : List Pr) (bl : List (List Y)) (hB : BOK cx bl) (nm : Tx) (tw : Bool) (t : Int) :
  QK ic gc iv gv ip gp im gm ii gi o ea c 154 [.ptr ic gc 0, dS nm, pP cx bl, dB tw, dI t] (dI (tgtP ⟨o, c, bl.flatten, cx⟩ nm tw t)) := by
 intro hp n cc hK
 have ha := assigned71 nm true cx bl hB.len hB.nb hB.sz
 have hco := hK.co
 have nc := nf hK.lc
 have np := nf hK.lp
 have nv := nf hK.lv
 have hlp := fun (look : Look) (sz by_ : Nat) (zr : Option (List V)) (y : Tx) (h : look ip = hp.get ip) => hK.look_ports (look := look) (sz := sz) (by_ := by_) (zr := zr) (x := y) h
 have hlv := fun (look : Look) (sz by_ : Nat) (zr : Option (List V)) (y : Tx) (h : look iv = hp.get iv) => hK.look_vars1 (look := look) (sz := sz) (by_ := by_) (zr := zr) (x := y) h
 simp only [dL, dS, dB, pP, Bool.not_true] at ha
 refine quietV_wp Tryz.func154 rfl (by kernel_rfl) rfl (fun _ => rfl) ?_
 unfold tgtP targetW
 by_cases hz : setT c nm = 0
 ·simp only [hz]
  refine wkcv (jn @envOf.eq_1 (jn @envOf.eq_2 (jn @dS.eq_1 (jn @dB.eq_1 (jn @dI.eq_1 (jn @pP.eq_1 (jn @dL.eq_1 (jn @hco (jn @nc (jn @np (jn @hlp (jn @zt4 @hz)))))))))))) ?_
  exact ⟨.inr rfl, rfl, _, rfl, rfl⟩
 have hz' := eq_false hz
 have hg := hW.set nm hz
 cases tw with
 | true =>
  simp only [hz', if_true, if_false]
  refine wkcv (jn @envOf.eq_1 (jn @envOf.eq_2 (jn @dS.eq_1 (jn @dB.eq_1 (jn @dI.eq_1 (jn @pP.eq_1 (jn @dL.eq_1 (jn @hco (jn @nc (jn @np (jn @hlp (jn @zt4 @hz')))))))))))) ?_
  exact ⟨.inr rfl, rfl, _, rfl, rfl⟩
 | false =>
  cases has : asL nm false cx bl.flatten with
  | true =>
   rw [has] at ha
   simp only [hz', if_true, if_false]
   refine wkcv (jn @envOf.eq_1 (jn @envOf.eq_2 (jn @dS.eq_1 (jn @dB.eq_1 (jn @dI.eq_1 (jn @pP.eq_1 (jn @dL.eq_1 (jn @hco (jn @nc (jn @np (jn @hlp (jn @zt4 (jn @hz' @ha))))))))))))) ?_
   exact ⟨.inr rfl, rfl, _, rfl, rfl⟩
  | false =>
   rw [has] at ha
   by_cases ht : setT c nm = t
   ·have ht' := eq_true ht
    rw [if_neg hz, if_neg (by simp), if_neg hz, if_neg (by simp [has]), if_neg (by simp [ht])]
    refine wkcv (jn @envOf.eq_1 (jn @envOf.eq_2 (jn @dS.eq_1 (jn @dB.eq_1 (jn @dI.eq_1 (jn @pP.eq_1 (jn @dL.eq_1 (jn @hco (jn @nc (jn @np (jn @nv (jn @hlp (jn @hlv (jn @zt4 (jn @zt3 (jn @hz' (jn @ha (jn @hg (jn @int_bne @ht'))))))))))))))))))) ?_
    exact ⟨.inr rfl, rfl, _, rfl, rfl⟩
   ·have ht' := eq_false ht
    simp only [hz', if_true, if_false, ne_eq, ht', not_false_eq_true, Bool.false_eq_true]
    refine wkcv (jn @envOf.eq_1 (jn @envOf.eq_2 (jn @dS.eq_1 (jn @dB.eq_1 (jn @dI.eq_1 (jn @pP.eq_1 (jn @dL.eq_1 (jn @hco (jn @nc (jn @np (jn @nv (jn @hlp (jn @hlv (jn @zt4 (jn @zt3 (jn @hz' (jn @ha (jn @hg (jn @int_bne @ht'))))))))))))))))))) ?_
    exact ⟨.inr rfl, rfl, _, rfl, rfl⟩
set_option maxHeartbeats 2000000 in
theorem store136 (hW : KW o c) (cx : List Pr) (bl : List (List Y)) (hB : BOK cx bl) (y : Y) (hy : y.k = 1 ∨ y.k = 2) (hsz : y.sz ≤ MX) (hok : y.ok) :
  QK ic gc iv gv ip gp im gm ii gi o ea c 136 [.ptr ic gc 0, aG y.cells, pP cx bl] (dI (storeP ⟨o, c, bl.flatten, cx⟩ y)) := by
 intro hp n cc hK
 obtain ⟨hy1, hy2, hy3, hy4⟩ := Y.ok_eq hok
 rw [Y.sz_eq] at hsz
 have hco := hK.co
 have nc := nf hK.lc
 have nm := nf hK.lm
 have hlm := fun (look : Look) (sz by_ : Nat) (zr : Option (List V)) (y : Tx) (h : look im = hp.get im) => hK.look_mems (look := look) (sz := sz) (by_ := by_) (zr := zr) (x := y) h
 obtain ⟨F, G, hr⟩ := (expr153 hW cx bl hB y.r (by omega) hy2).fn hK
 simp only [aG, pP, X.cells_eq, List.map_cons, List.map_nil, dI] at hr
 refine quietV_wp Tryz.func136 rfl (by kernel_rfl) rfl (fun _ => rfl) ?_
 unfold storeP
 by_cases he : (exprW ⟨o, c, bl.flatten, cx⟩ y.r).2 = 0
 case neg =>
  have he' := eq_false he
  rw [if_pos he]
  refine wkcv (jn @envOf.eq_1 (jn @envOf.eq_2 (jn @dI.eq_1 (jn @pP.eq_1 (jn @aG.eq_1 (jn @Y.cells_eq (jn @hco (jn @nc (jn @hr (jn @int_bne @he')))))))))) ?_
  exact ⟨.inr rfl, rfl, _, rfl, rfl⟩
 rw [if_neg (by simp [he])]
 rw [he, exprT_ok he] at hr
 generalize (exprW ⟨o, c, bl.flatten, cx⟩ y.r).1 = t at hr ⊢
 rcases hy with q | q
 ·rw [if_pos q]
  obtain ⟨F', G', ht⟩ := (target154 hW cx bl hB y.nm false t).fn hK
  rw [show tgtP ⟨o, c, bl.flatten, cx⟩ y.nm false t = targetW ⟨o, c, bl.flatten, cx⟩ y.nm t by unfold tgtP targetW; split <;> simp [*]] at ht
  simp only [pP, dI, dS, dB] at ht
  refine wkcv (jn @envOf.eq_1 (jn @envOf.eq_2 (jn @dI.eq_1 (jn @pP.eq_1 (jn @aG.eq_1 (jn @Y.cells_eq (jn @hco (jn @nc (jn @hr (jn @int_bne (jn @q @ht))))))))))) ?_
  exact ⟨.inr rfl, rfl, _, rfl, rfl⟩
 rw [if_neg (by omega)]
 by_cases hz : findM c.mems y.nm = 0
 ·simp only [hz]
  refine wkcv (jn @envOf.eq_1 (jn @envOf.eq_2 (jn @dI.eq_1 (jn @pP.eq_1 (jn @aG.eq_1 (jn @Y.cells_eq (jn @hco (jn @nc (jn @nm (jn @hr (jn @int_bne (jn @q (jn @hlm (jn @zt3 @hz)))))))))))))) ?_
  exact ⟨.inr rfl, rfl, _, rfl, rfl⟩
 have hz' := eq_false hz
 by_cases ht : findM c.mems y.nm = t
 ·have ht' := eq_true ht
  rw [if_neg hz, if_neg (by simp [ht])]
  refine wkcv (jn @envOf.eq_1 (jn @envOf.eq_2 (jn @dI.eq_1 (jn @pP.eq_1 (jn @aG.eq_1 (jn @Y.cells_eq (jn @hco (jn @nc (jn @nm (jn @hr (jn @int_bne (jn @q (jn @hlm (jn @zt3 (jn @hz' @ht'))))))))))))))) ?_
  exact ⟨.inr rfl, rfl, _, rfl, rfl⟩
 ·have ht' := eq_false ht
  simp only [hz', if_false, ht', ne_eq, not_false_eq_true, if_true]
  refine wkcv (jn @envOf.eq_1 (jn @envOf.eq_2 (jn @dI.eq_1 (jn @pP.eq_1 (jn @aG.eq_1 (jn @Y.cells_eq (jn @hco (jn @nc (jn @nm (jn @hr (jn @int_bne (jn @q (jn @hlm (jn @zt3 (jn @hz' @ht'))))))))))))))) ?_
  exact ⟨.inr rfl, rfl, _, rfl, rfl⟩
end
end Go.Ac
end

section
set_option maxRecDepth 4000
namespace Go.Ac
open Go.Proofs
attribute [local simp] Hp.get_set Ag_set Ag_refl Ag_trunc get_trunc_lt
theorem kf135 (r : Nat) : Ob.keep 135 r = Ob.k135 r := by kernel_rfl
attribute [local simp] kf135 Ob.k135
theorem nbeq_dec (a b : Nat) : Nat.beq a b = decide (a = b) := by
 by_cases h : a = b
 ·subst h; simp
 ·rw [nbeq_ne h, decide_eq_false h]
theorem tgtP_out (w : Pl) (pre : List Tx) (x : Tx) (d : Dc) : tgtP w x (decide (x ∈ pre)) d.t = outE w pre x d := by unfold tgtP outE; simp
section
variable {ic gc iv gv ip gp im gm ii gi : Nat} {o : Oc} {ea : List Cl} {c : Cl}
set_option maxHeartbeats 4000000 in
theorem call135 (hW : KW o c) (cx : List Pr) (bl : List (List Y)) (hB : BOK cx bl) (y : Y) (hsz : y.sz ≤ MX) (hok : okX y.args) :
  QK ic gc iv gv ip gp im gm ii gi o ea c 135 [.ptr ic gc 0, aG y.cells, pP cx bl] (dI (callW ⟨o, c, bl.flatten, cx⟩ y)) := by
 intro hp n cc hK
 unfold MX at hsz
 rw [Y.sz_eq] at hsz
 have k1 := len_szX y.args
 have k2 := len_szS y.outs
 have hco := hK.co
 have nc := nf hK.lc
 have ni := nf hK.li
 have hli := fun (look : Look) (sz by_ : Nat) (zr : Option (List V)) (y : Tx) (h : look ii = hp.get ii) => hK.look_ins (look := look) (sz := sz) (by_ := by_) (zr := zr) (x := y) h
 refine quietV_wp Tryz.func135 rfl (by kernel_rfl) rfl (fun _ => rfl) ?_
 unfold callW
 show WP _ _ _ _ _ (quietVQ _ _ _ (dI (if (findI c.ins o.cl y.nm).2 = false then 6 else if y.args.length ≠ (findI c.ins o.cl y.nm).1.inn.length ∨ y.outs.length ≠ (findI c.ins o.cl y.nm).1.out.length then 9 else if argsW ⟨o, c, bl.flatten, cx⟩ y.args (findI c.ins o.cl y.nm).1.inn ≠ 0 then argsW ⟨o, c, bl.flatten, cx⟩ y.args (findI c.ins o.cl y.nm).1.inn else outsW ⟨o, c, bl.flatten, cx⟩ [] y.outs (findI c.ins o.cl y.nm).1.out)))
 generalize hw : (⟨o, c, bl.flatten, cx⟩ : Pl) = w
 have hf : ∀ q, findI c.ins o.cl y.nm = q → True := fun _ _ => trivial
 generalize hG : findI c.ins o.cl y.nm = G
 obtain ⟨g, ok⟩ := G
 cases ok with
 | false =>
  have hfo : foundC (g, false) = .agg [.d (.str []), .full [], .full [], .full [], .full [], .full [], .full []] := rfl
  repeat (first
 | apply WP.seq
 | (apply WP.reg; (case hR => dsimp only [prepL, prepO, List.map, gS, gZ]; exact iZ); (case hr => (repeat (first
 | (apply RT.op; simp [envOf, aG, pP, Y.cells_eq, dL, hco, nc, ni, hli, zt36, hG, hfo, fillV]; exact iZ; (try dsimp only [putEnv]) <;> exact rfl)
 | (apply RT.call; (iterate 2 simp; exact iZ); exact iZ; (iterate 4 simp [envOf, aG, pP, Y.cells_eq, dL, hco, nc, ni, hli, zt36, hG, hfo, fillV]; exact iZ); simp [Is]; (try dsimp only [putEnv]) <;> exact rfl; simp; exact iZ; simp; exact iZ)
 | (apply RT.callV; (iterate 2 simp; exact iZ); exact iZ; (iterate 3 simp [envOf, aG, pP, Y.cells_eq, dL, hco, nc, ni, hli, zt36, hG, hfo, fillV]; exact iZ); (try dsimp only [putEnv]) <;> exact rfl)
 | (apply RT.wr; simp [envOf, aG, pP, Y.cells_eq, dL, hco, nc, ni, hli, zt36, hG, hfo, fillV]; exact iZ; (try dsimp only [putEnv]) <;> exact rfl; simp [envOf, aG, pP, Y.cells_eq, dL, hco, nc, ni, hli, zt36, hG, hfo, fillV]; exact iZ; (iterate 2 exact iZ); simp; exact iZ))); exact RT.nil); (case hc => first | (refine checkR_un [(0, 4), (1, 4), (2, 4), (3, 4), (0, 5), (1, 5), (2, 5), (3, 5), (8, 9), (0, 10), (1, 10), (2, 10), (3, 10), (4, 10), (5, 10), (6, 10), (7, 10), (8, 10), (9, 10), (9, 11)] (by kernel_rfl) (by kernel_rfl) rfl ?_; simp [memA, disj, nbeq_dec, nc, ni]; done) | (show _ = _; kernel_rfl)); (case ht => simp [envOf, aG, pP, Y.cells_eq, dL, hco, nc, ni, hli, zt36, hG, hfo, fillV]; exact iZ))
 | apply WP.block | apply WP.skip | apply WP.exit | apply WP.ret | refine WP.condT rfl ?_ | refine WP.condF rfl ?_)
  exact ⟨.inr rfl, rfl, _, rfl, rfl⟩
 | true =>
 have hfo : foundC (g, true) = .agg [V.d (.str g.nm), V.d (.slice (encD g.inn)), V.d (.slice (encD g.out)), V.d (.slice (encD g.loc)), V.d (.slice (encM g.mems)), V.d (.slice (encJ g.ins)), V.d (.slice (encY g.step))] := rfl
 rw [if_neg (by simp)]
 simp only []
 by_cases c1 : y.args.length = g.inn.length
 case neg =>
  have c1' : ((y.args.length : Int) = g.inn.length) = False := eq_false (by omega)
  have c1'' := eq_false c1
  rw [if_pos (.inl c1)]
  repeat (first
 | apply WP.seq
 | (apply WP.reg; (case hR => dsimp only [prepL, prepO, List.map, gS, gZ]; exact iZ); (case hr => (repeat (first
 | (apply RT.op; simp [envOf, aG, pP, Y.cells_eq, dL, hco, nc, ni, hli, zt36, hG, hfo, fillV, int_bne, encX_len, encD_len, c1', c1'']; exact iZ; (try dsimp only [putEnv]) <;> exact rfl)
 | (apply RT.call; (iterate 2 simp; exact iZ); exact iZ; (iterate 4 simp [envOf, aG, pP, Y.cells_eq, dL, hco, nc, ni, hli, zt36, hG, hfo, fillV, int_bne, encX_len, encD_len, c1', c1'']; exact iZ); simp [Is]; (try dsimp only [putEnv]) <;> exact rfl; simp; exact iZ; simp; exact iZ)
 | (apply RT.callV; (iterate 2 simp; exact iZ); exact iZ; (iterate 3 simp [envOf, aG, pP, Y.cells_eq, dL, hco, nc, ni, hli, zt36, hG, hfo, fillV, int_bne, encX_len, encD_len, c1', c1'']; exact iZ); (try dsimp only [putEnv]) <;> exact rfl)
 | (apply RT.wr; simp [envOf, aG, pP, Y.cells_eq, dL, hco, nc, ni, hli, zt36, hG, hfo, fillV, int_bne, encX_len, encD_len, c1', c1'']; exact iZ; (try dsimp only [putEnv]) <;> exact rfl; simp [envOf, aG, pP, Y.cells_eq, dL, hco, nc, ni, hli, zt36, hG, hfo, fillV, int_bne, encX_len, encD_len, c1', c1'']; exact iZ; (iterate 2 exact iZ); simp; exact iZ))); exact RT.nil); (case hc => first | (refine checkR_un [(0, 4), (1, 4), (2, 4), (3, 4), (0, 5), (1, 5), (2, 5), (3, 5), (8, 9), (0, 10), (1, 10), (2, 10), (3, 10), (4, 10), (5, 10), (6, 10), (7, 10), (8, 10), (9, 10), (9, 11)] (by kernel_rfl) (by kernel_rfl) rfl ?_; simp [memA, disj, nbeq_dec, nc, ni]; done) | (show _ = _; kernel_rfl)); (case ht => simp [envOf, aG, pP, Y.cells_eq, dL, hco, nc, ni, hli, zt36, hG, hfo, fillV, int_bne, encX_len, encD_len, c1', c1'']; exact iZ))
 | apply WP.block | apply WP.skip | apply WP.exit | apply WP.ret | refine WP.condT rfl ?_ | refine WP.condF rfl ?_)
  exact ⟨.inr rfl, rfl, _, rfl, rfl⟩
 have c1' : ((y.args.length : Int) = g.inn.length) = True := eq_true (by omega)
 by_cases c2 : y.outs.length = g.out.length
 case neg =>
  have c2' : ((y.outs.length : Int) = g.out.length) = False := eq_false (by omega)
  have c2'' := eq_false c2
  rw [if_pos (.inr c2)]
  repeat (first
 | apply WP.seq
 | (apply WP.reg; (case hR => dsimp only [prepL, prepO, List.map, gS, gZ]; exact iZ); (case hr => (repeat (first
 | (apply RT.op; simp [envOf, aG, pP, Y.cells_eq, dL, hco, nc, ni, hli, zt36, hG, hfo, fillV, int_bne, encX_len, encS_len, encD_len, c1, c2', c2'']; exact iZ; (try dsimp only [putEnv]) <;> exact rfl)
 | (apply RT.call; (iterate 2 simp; exact iZ); exact iZ; (iterate 4 simp [envOf, aG, pP, Y.cells_eq, dL, hco, nc, ni, hli, zt36, hG, hfo, fillV, int_bne, encX_len, encS_len, encD_len, c1, c2', c2'']; exact iZ); simp [Is]; (try dsimp only [putEnv]) <;> exact rfl; simp; exact iZ; simp; exact iZ)
 | (apply RT.callV; (iterate 2 simp; exact iZ); exact iZ; (iterate 3 simp [envOf, aG, pP, Y.cells_eq, dL, hco, nc, ni, hli, zt36, hG, hfo, fillV, int_bne, encX_len, encS_len, encD_len, c1, c2', c2'']; exact iZ); (try dsimp only [putEnv]) <;> exact rfl)
 | (apply RT.wr; simp [envOf, aG, pP, Y.cells_eq, dL, hco, nc, ni, hli, zt36, hG, hfo, fillV, int_bne, encX_len, encS_len, encD_len, c1, c2', c2'']; exact iZ; (try dsimp only [putEnv]) <;> exact rfl; simp [envOf, aG, pP, Y.cells_eq, dL, hco, nc, ni, hli, zt36, hG, hfo, fillV, int_bne, encX_len, encS_len, encD_len, c1, c2', c2'']; exact iZ; (iterate 2 exact iZ); simp; exact iZ))); exact RT.nil); (case hc => first | (refine checkR_un [(0, 4), (1, 4), (2, 4), (3, 4), (0, 5), (1, 5), (2, 5), (3, 5), (8, 9), (0, 10), (1, 10), (2, 10), (3, 10), (4, 10), (5, 10), (6, 10), (7, 10), (8, 10), (9, 10), (9, 11)] (by kernel_rfl) (by kernel_rfl) rfl ?_; simp [memA, disj, nbeq_dec, nc, ni]; done) | (show _ = _; kernel_rfl)); (case ht => simp [envOf, aG, pP, Y.cells_eq, dL, hco, nc, ni, hli, zt36, hG, hfo, fillV, int_bne, encX_len, encS_len, encD_len, c1, c2', c2'']; exact iZ))
 | apply WP.block | apply WP.skip | apply WP.exit | apply WP.ret | refine WP.condT rfl ?_ | refine WP.condF rfl ?_)
  exact ⟨.inr rfl, rfl, _, rfl, rfl⟩
 rw [if_neg (fun h => h.elim (fun h => h c1) (fun h => h c2))]
 repeat (first
 | apply WP.seq
 | (apply WP.reg; (case hR => dsimp only [prepL, prepO, List.map, gS, gZ]; exact iZ); (case hr => (repeat (first
 | (apply RT.op; simp [envOf, aG, pP, Y.cells_eq, dL, hco, nc, ni, hli, zt36, hG, hfo, fillV, int_bne, encX_len, encS_len, encD_len, c1, c2]; exact iZ; (try dsimp only [putEnv]) <;> exact rfl)
 | (apply RT.call; (iterate 2 simp; exact iZ); exact iZ; (iterate 4 simp [envOf, aG, pP, Y.cells_eq, dL, hco, nc, ni, hli, zt36, hG, hfo, fillV, int_bne, encX_len, encS_len, encD_len, c1, c2]; exact iZ); simp [Is]; (try dsimp only [putEnv]) <;> exact rfl; simp; exact iZ; simp; exact iZ)
 | (apply RT.callV; (iterate 2 simp; exact iZ); exact iZ; (iterate 3 simp [envOf, aG, pP, Y.cells_eq, dL, hco, nc, ni, hli, zt36, hG, hfo, fillV, int_bne, encX_len, encS_len, encD_len, c1, c2]; exact iZ); (try dsimp only [putEnv]) <;> exact rfl)
 | (apply RT.wr; simp [envOf, aG, pP, Y.cells_eq, dL, hco, nc, ni, hli, zt36, hG, hfo, fillV, int_bne, encX_len, encS_len, encD_len, c1, c2]; exact iZ; (try dsimp only [putEnv]) <;> exact rfl; simp [envOf, aG, pP, Y.cells_eq, dL, hco, nc, ni, hli, zt36, hG, hfo, fillV, int_bne, encX_len, encS_len, encD_len, c1, c2]; exact iZ; (iterate 2 exact iZ); simp; exact iZ))); exact RT.nil); (case hc => first | (refine checkR_un [(0, 4), (1, 4), (2, 4), (3, 4), (0, 5), (1, 5), (2, 5), (3, 5), (8, 9), (0, 10), (1, 10), (2, 10), (3, 10), (4, 10), (5, 10), (6, 10), (7, 10), (8, 10), (9, 10), (9, 11)] (by kernel_rfl) (by kernel_rfl) rfl ?_; simp [memA, disj, nbeq_dec, nc, ni]; done) | (show _ = _; kernel_rfl)); (case ht => simp [envOf, aG, pP, Y.cells_eq, dL, hco, nc, ni, hli, zt36, hG, hfo, fillV, int_bne, encX_len, encS_len, encD_len, c1, c2]; exact iZ))
 | apply WP.block | apply WP.skip | apply WP.exit | apply WP.ret | refine WP.condT rfl ?_ | refine WP.condF rfl ?_)
 apply WP.loop' (I := fun D s => ∃ (j c' : Nat) (hp' : Hp), j + D = y.args.length ∧ argsW w (y.args.drop j) (g.inn.drop j) = argsW w y.args g.inn ∧ Ag n hp hp' ∧ hp'.get n = some ⟨cc, false, y.cells.map .d⟩ ∧ hp'.get (n + 1) = some ⟨cc + 1, false, [V.d (.slice (encP cx)), V.d (.slice (encB bl))]⟩ ∧ hp'.get (n + 2) = some ⟨cc + 2, false, g.cells.map .d⟩ ∧
  s = ⟨[(0, .ptr ic gc 0), (4, .ptr n cc 0), (5, .ptr (n + 1) (cc + 1) 0), (7, .ptr (n + 2) (cc + 2) 0), (45, dL (encX y.args)), (46, dI y.args.length), (47, dI j)], hp', n + 3, c', n, []⟩) (d := y.args.length)
 ·exact ⟨0, _, _, by simp, by simp, by simp, by simp [Y.cells_eq], by simp, by simp [Cl.cells], st_eq (by simp [dI, dL, c1]) rfl⟩
 rintro D _ ⟨j, c', hp', hj, hv, hag, hy0, hx1, hx2, rfl⟩
 have hagt := eq_true hag
 rw [Y.cells_eq] at hy0
 simp only [Cl.cells, List.map_cons, List.map_nil] at hy0 hx2
 refine wkv (jn @dI.eq_1 @dL.eq_1) ?_
 show WP _ _ _ _ _ _
 refine WP.cond _ rfl (fun hb => ?_) (fun hb => ?_)
 ·simp at hb
  have hb' : j < y.args.length := by omega
  have hb2 : j < g.inn.length := by omega
  obtain ⟨x, hx, hxm, hix⟩ := at_lt hb'
  obtain ⟨d, hd, hdm, hid⟩ := at_lt hb2
  have hx' := encX_at hx
  have hd' := encD_at hd
  have hwj := w_succ hb' (by omega)
  have hxok := (okX_iff _).1 hok x hxm
  obtain ⟨F, G, hr⟩ := (expr153 (ic := ic) (gc := gc) (iv := iv) (gv := gv) (ip := ip) (gp := gp) (im := im) (gm := gm) (ii := ii) (gi := gi) (ea := ea) hW cx bl hB x (by have := mem_szX hxm; unfold MX; omega) hxok).fn hK
  rw [hw] at hr
  simp only [aG, pP, X.cells_eq, List.map_cons, List.map_nil, dI] at hr
  rw [drop_at hx, drop_at hd, argsW] at hv
  by_cases hz : (exprW w x).2 = 0
  case neg =>
   have hz' := eq_false hz
   have ha : argE w x d = (exprW w x).2 := by unfold argE; rw [if_pos hz]
   rw [ha, if_pos hz] at hv
   rw [← hv, if_pos hz]
   refine wkcv (jn @dI.eq_1 (jn @dL.eq_1 (jn @hy0 (jn @hx1 (jn @hx2 (jn @hagt (jn @hix (jn @hx' (jn @X.cells_eq (jn @hr (jn @int_bne (jn @hz' (jn @fillV.eq_1 @fillV.eq_2))))))))))))) ?_
   exact ⟨.inr rfl, rfl, _, rfl, rfl⟩
  rw [hz, exprT_ok hz] at hr
  by_cases ht : (exprW w x).1 = d.t
  case neg =>
   have ht' := eq_false ht
   have ha : argE w x d = 10 := by unfold argE; rw [if_neg (by simp [hz]), if_pos ht]
   rw [ha, if_pos (by decide)] at hv
   rw [← hv, if_pos (by decide)]
   refine wkcv (jn @dI.eq_1 (jn @dL.eq_1 (jn @hy0 (jn @hx1 (jn @hx2 (jn @hagt (jn @encX_len (jn @encD_len (jn @hix (jn @hid (jn @hx' (jn @hd' (jn @X.cells_eq (jn @Dc.cells.eq_1 (jn @hr (jn @int_bne (jn @ht' (jn @fillV.eq_1 @fillV.eq_2)))))))))))))))))) ?_
   exact ⟨.inr rfl, rfl, _, rfl, rfl⟩
  have ha : argE w x d = 0 := by unfold argE; rw [if_neg (by simp [hz]), if_neg (by simp [ht])]
  rw [ha, if_neg (by decide)] at hv
  have ht' := eq_true ht
  refine wkcv (jn @dI.eq_1 (jn @dL.eq_1 (jn @hy0 (jn @hx1 (jn @hx2 (jn @hagt (jn @encX_len (jn @encD_len (jn @hix (jn @hid (jn @hx' (jn @hd' (jn @X.cells_eq (jn @Dc.cells.eq_1 (jn @hr (jn @int_bne (jn @ht' (jn @fillV.eq_1 @fillV.eq_2)))))))))))))))))) ?_
  refine loop_next (by simp [hwj]; exact Is.rfl) ?_
  exact ⟨D - 1, by omega, j + 1, _, _, by omega, hv, by simp [hag], by simp [hy0, Y.cells_eq], by simp [hx1], by simp [hx2, Cl.cells], st_eq (by simp [dI, dL, hwj]) rfl⟩
 ·simp at hb
  have hje : j = y.args.length := by omega
  rw [hje, List.drop_length, argsW_nil] at hv
  rw [← hv, if_neg (by decide)]
  refine wkcv (jn @dI.eq_1 (jn @dL.eq_1 (jn @hy0 (jn @hx1 (jn @hx2 @hagt))))) ?_
  apply WP.loop' (I := fun D s => ∃ (j c' : Nat) (hp' : Hp), j + D = y.outs.length ∧ outsW w (y.outs.take j) (y.outs.drop j) (g.out.drop j) = outsW w [] y.outs g.out ∧ Ag n hp hp' ∧ hp'.get n = some ⟨cc, false, y.cells.map .d⟩ ∧ hp'.get (n + 1) = some ⟨cc + 1, false, [V.d (.slice (encP cx)), V.d (.slice (encB bl))]⟩ ∧ hp'.get (n + 2) = some ⟨cc + 2, false, g.cells.map .d⟩ ∧
   s = ⟨[(0, .ptr ic gc 0), (4, .ptr n cc 0), (5, .ptr (n + 1) (cc + 1) 0), (7, .ptr (n + 2) (cc + 2) 0), (72, dL (encS y.outs)), (73, dI y.outs.length), (74, dI j)], hp', n + 3, c', n, []⟩) (d := y.outs.length)
  ·exact ⟨0, _, _, by simp, by simp, hag, by simp [hy0, Y.cells_eq], hx1, by simp [hx2, Cl.cells], st_eq (by simp [dI, dL]) rfl⟩
  clear hv hj hje hb hy0 hx1 hx2 hagt hag hp'
  rintro D2 _ ⟨j, c2, hp', hj, hv, hag, hy0, hx1, hx2, rfl⟩
  have hagt := eq_true hag
  rw [Y.cells_eq] at hy0
  simp only [Cl.cells, List.map_cons, List.map_nil] at hy0 hx2
  refine wkv (jn @dI.eq_1 @dL.eq_1) ?_
  show WP _ _ _ _ _ _
  refine WP.cond _ rfl (fun hb => ?_) (fun hb => ?_)
  ·simp at hb
   have hb' : j < y.outs.length := by omega
   have hb2 : j < g.out.length := by omega
   obtain ⟨x, hx, hxm, hix⟩ := at_lt hb'
   obtain ⟨d, hd, hdm, hid⟩ := at_lt hb2
   have hx' := encS_at hx
   have hd' := encD_at hd
   have hwj := w_succ hb' (by omega)
   have h75 := contains155 (y.outs.take j) x (by unfold MX; rw [List.length_take]; omega)
   obtain ⟨F, G, ht⟩ := (target154 (ic := ic) (gc := gc) (iv := iv) (gv := gv) (ip := ip) (gp := gp) (im := im) (gm := gm) (ii := ii) (gi := gi) (ea := ea) hW cx bl hB x (decide (x ∈ y.outs.take j)) d.t).fn hK
   rw [hw, tgtP_out] at ht
   simp only [dL, dS, dB, dI, pP] at h75 ht
   rw [drop_at hx, drop_at hd, outsW] at hv
   have htk := take_snoc hx
   rw [← htk] at hv
   have hsl := fun look e b z => slice_rows look e b z (encS_row y.outs) (j := j) (by rw [encS_len]; omega)
   have etk := encS_take y.outs j
   by_cases hz : outE w (y.outs.take j) x d = 0
   case neg =>
    have hz' := eq_false hz
    rw [if_pos hz] at hv
    rw [← hv]
    refine wkcv (jn @dI.eq_1 (jn @dL.eq_1 (jn @hy0 (jn @hx1 (jn @hx2 (jn @hagt (jn @encS_len (jn @encD_len (jn @hix (jn @hid (jn @hx' (jn @hd' (jn @Dc.cells.eq_1 (jn @hsl (jn @etk (jn @h75 (jn @ht (jn @int_bne @hz')))))))))))))))))) ?_
    exact ⟨.inr rfl, rfl, _, rfl, rfl⟩
   rw [if_neg (by simp [hz])] at hv
   rw [hz] at ht
   refine wkcv (jn @dI.eq_1 (jn @dL.eq_1 (jn @hy0 (jn @hx1 (jn @hx2 (jn @hagt (jn @encS_len (jn @encD_len (jn @hix (jn @hid (jn @hx' (jn @hd' (jn @Dc.cells.eq_1 (jn @hsl (jn @etk (jn @h75 (jn @ht @int_bne))))))))))))))))) ?_
   refine loop_next (by simp [hwj]; exact Is.rfl) ?_
   exact ⟨D2 - 1, by omega, j + 1, _, _, by omega, hv, by simp [hag], by simp [hy0, Y.cells_eq], by simp [hx1], by simp [hx2, Cl.cells], st_eq (by simp [dI, dL, hwj]) rfl⟩
  ·simp at hb
   have hje : j = y.outs.length := by omega
   rw [hje, List.drop_length, outsW_nil] at hv
   rw [← hv]
   refine wkcv (jn @dI.eq_1 @dL.eq_1) ?_
   exact ⟨.inr rfl, rfl, _, rfl, rfl⟩
end
end Go.Ac
end

section
namespace Go.Ac
theorem wknv {L : Prop} (hl : L) {G G' : Prop} (k : G') (h : Wk L G G' := by
 intro hl hk
 repeat (first
 | apply WP.seq
 | (apply WP.reg; (case hR => dsimp only [prepL, prepO, List.map, gS, gZ]; exact iZ); (case hr => (repeat (first
 | (apply RT.op; simp [hl]; exact iZ; (try dsimp only [putEnv]) <;> exact rfl)
 | (apply RT.call; (iterate 2 simp; exact iZ); exact iZ; (iterate 4 simp [hl]; exact iZ); simp [Is]; (try dsimp only [putEnv]) <;> exact rfl; simp; exact iZ; simp; exact iZ)
 | (apply RT.clone; (iterate 2 simp; exact iZ); exact iZ; (iterate 2 simp [hl]; exact iZ); (first | assumption | (simp [fitsB]; omega)); (try dsimp only [putEnv]) <;> exact rfl; simp [hl]; exact iZ; simp; exact iZ)
 | (apply RT.callV; (iterate 2 simp; exact iZ); exact iZ; (iterate 3 simp [hl]; exact iZ); (try dsimp only [putEnv]) <;> exact rfl)
 | (apply RT.wr; simp [hl]; exact iZ; (try dsimp only [putEnv]) <;> exact rfl; simp [hl]; exact iZ; (iterate 2 exact iZ); simp; exact iZ))); exact RT.nil); (case hc => (show _ = _; kernel_rfl)); (case ht => simp [hl]; exact iZ))
 | apply WP.block | apply WP.skip | apply WP.exit | apply WP.ret)
 exact hk.out) : G := h hl ⟨k⟩
theorem wkiv {L : Prop} (hl : L) {G G' : Prop} (k : G') (h : Wk L G G' := by
 intro hl hk
 repeat (first
 | apply WP.seq
 | (apply WP.reg; (case hR => dsimp only [prepL, prepO, List.map, gS, gZ]; exact iZ); (case hr => (repeat (first
 | (apply RT.op; simp [hl]; exact iZ; (try dsimp only [putEnv]) <;> exact rfl)
 | (apply RT.call; (iterate 2 simp; exact iZ); exact iZ; (iterate 4 simp [hl]; exact iZ); simp [Is]; (try dsimp only [putEnv]) <;> exact rfl; simp; exact iZ; simp; exact iZ)
 | (apply RT.callV; (iterate 2 simp; exact iZ); exact iZ; (iterate 3 simp [hl]; exact iZ); (try dsimp only [putEnv]) <;> exact rfl)
 | (apply RT.callI (hd := hI1) (hne := hI2) (hw := hI3) (hwr := hI4); (iterate 2 simp; exact iZ); exact iZ; (iterate 2 simp [hl]; exact iZ); (try dsimp only [putEnv]) <;> exact rfl; (first | omega | simp))
 | (apply RT.wr; simp [hl]; exact iZ; (try dsimp only [putEnv]) <;> exact rfl; simp [hl]; exact iZ; (iterate 2 exact iZ); simp; exact iZ))); exact RT.nil); (case hc => (show _ = _; kernel_rfl)); (case ht => simp [hl]; exact iZ))
 | apply WP.block | apply WP.skip | apply WP.exit | apply WP.ret)
 exact hk.out) : G := h hl ⟨k⟩
theorem wkitv {L : Prop} (hl : L) {G G' : Prop} (k : G') (h : Wk L G G' := by
 intro hl hk
 repeat (first
 | apply WP.seq
 | (apply WP.reg; (case hR => dsimp only [prepL, prepO, List.map, gS, gZ]; exact iZ); (case hr => (repeat (first
 | (apply RT.op; simp [hl]; exact iZ; (try dsimp only [putEnv]) <;> exact rfl)
 | (apply RT.call; (iterate 2 simp; exact iZ); exact iZ; (iterate 4 simp [hl]; exact iZ); simp [Is]; (try dsimp only [putEnv]) <;> exact rfl; simp; exact iZ; simp; exact iZ)
 | (apply RT.callV; (iterate 2 simp; exact iZ); exact iZ; (iterate 3 simp [hl]; exact iZ); (try dsimp only [putEnv]) <;> exact rfl)
 | (apply RT.callI (hd := hI1) (hne := hI2) (hw := hI3) (hwr := hI4); (iterate 2 simp; exact iZ); exact iZ; (iterate 2 simp [hl]; exact iZ); (try dsimp only [putEnv]) <;> exact rfl; (first | omega | simp))
 | (apply RT.callT (hd := hT1) (hk := hT2); (iterate 2 simp; exact iZ); exact iZ; (iterate 2 simp [hl]; exact iZ); (try dsimp only [putEnv]) <;> exact rfl)
 | (apply RT.wr; simp [hl]; exact iZ; (try dsimp only [putEnv]) <;> exact rfl; simp [hl]; exact iZ; (iterate 2 exact iZ); simp; exact iZ))); exact RT.nil); (case hc => (show _ = _; kernel_rfl)); (case ht => simp [hl]; exact iZ))
 | apply WP.block | apply WP.skip | apply WP.exit | apply WP.ret)
 exact hk.out) : G := h hl ⟨k⟩
theorem wkcnv {L : Prop} (hl : L) {G G' : Prop} (k : G') (h : Wk L G G' := by
 intro hl hk
 repeat (first
 | apply WP.seq
 | (apply WP.reg; (case hR => dsimp only [prepL, prepO, List.map, gS, gZ]; exact iZ); (case hr => (repeat (first
 | (apply RT.op; simp [hl]; exact iZ; (try dsimp only [putEnv]) <;> exact rfl)
 | (apply RT.call; (iterate 2 simp; exact iZ); exact iZ; (iterate 4 simp [hl]; exact iZ); simp [Is]; (try dsimp only [putEnv]) <;> exact rfl; simp; exact iZ; simp; exact iZ)
 | (apply RT.clone; (iterate 2 simp; exact iZ); exact iZ; (iterate 2 simp [hl]; exact iZ); (first | assumption | (simp [fitsB]; omega)); (try dsimp only [putEnv]) <;> exact rfl; simp [hl]; exact iZ; simp; exact iZ)
 | (apply RT.callV; (iterate 2 simp; exact iZ); exact iZ; (iterate 3 simp [hl]; exact iZ); (try dsimp only [putEnv]) <;> exact rfl)
 | (apply RT.wr; simp [hl]; exact iZ; (try dsimp only [putEnv]) <;> exact rfl; simp [hl]; exact iZ; (iterate 2 exact iZ); simp; exact iZ))); exact RT.nil); (case hc => (show _ = _; kernel_rfl)); (case ht => simp [hl]; exact iZ))
 | apply WP.block | apply WP.skip | apply WP.exit | apply WP.ret | refine WP.condT rfl ?_ | refine WP.condF rfl ?_)
 exact hk.out) : G := h hl ⟨k⟩
theorem wkciv {L : Prop} (hl : L) {G G' : Prop} (k : G') (h : Wk L G G' := by
 intro hl hk
 repeat (first
 | apply WP.seq
 | (apply WP.reg; (case hR => dsimp only [prepL, prepO, List.map, gS, gZ]; exact iZ); (case hr => (repeat (first
 | (apply RT.op; simp [hl]; exact iZ; (try dsimp only [putEnv]) <;> exact rfl)
 | (apply RT.call; (iterate 2 simp; exact iZ); exact iZ; (iterate 4 simp [hl]; exact iZ); simp [Is]; (try dsimp only [putEnv]) <;> exact rfl; simp; exact iZ; simp; exact iZ)
 | (apply RT.callV; (iterate 2 simp; exact iZ); exact iZ; (iterate 3 simp [hl]; exact iZ); (try dsimp only [putEnv]) <;> exact rfl)
 | (apply RT.callI (hd := hI1) (hne := hI2) (hw := hI3) (hwr := hI4); (iterate 2 simp; exact iZ); exact iZ; (iterate 2 simp [hl]; exact iZ); (try dsimp only [putEnv]) <;> exact rfl; (first | omega | simp))
 | (apply RT.wr; simp [hl]; exact iZ; (try dsimp only [putEnv]) <;> exact rfl; simp [hl]; exact iZ; (iterate 2 exact iZ); simp; exact iZ))); exact RT.nil); (case hc => (show _ = _; kernel_rfl)); (case ht => simp [hl]; exact iZ))
 | apply WP.block | apply WP.skip | apply WP.exit | apply WP.ret | refine WP.condT rfl ?_ | refine WP.condF rfl ?_)
 exact hk.out) : G := h hl ⟨k⟩
theorem wkcitv {L : Prop} (hl : L) {G G' : Prop} (k : G') (h : Wk L G G' := by
 intro hl hk
 repeat (first
 | apply WP.seq
 | (apply WP.reg; (case hR => dsimp only [prepL, prepO, List.map, gS, gZ]; exact iZ); (case hr => (repeat (first
 | (apply RT.op; simp [hl]; exact iZ; (try dsimp only [putEnv]) <;> exact rfl)
 | (apply RT.call; (iterate 2 simp; exact iZ); exact iZ; (iterate 4 simp [hl]; exact iZ); simp [Is]; (try dsimp only [putEnv]) <;> exact rfl; simp; exact iZ; simp; exact iZ)
 | (apply RT.callV; (iterate 2 simp; exact iZ); exact iZ; (iterate 3 simp [hl]; exact iZ); (try dsimp only [putEnv]) <;> exact rfl)
 | (apply RT.callI (hd := hI1) (hne := hI2) (hw := hI3) (hwr := hI4); (iterate 2 simp; exact iZ); exact iZ; (iterate 2 simp [hl]; exact iZ); (try dsimp only [putEnv]) <;> exact rfl; (first | omega | simp))
 | (apply RT.callT (hd := hT1) (hk := hT2); (iterate 2 simp; exact iZ); exact iZ; (iterate 2 simp [hl]; exact iZ); (try dsimp only [putEnv]) <;> exact rfl)
 | (apply RT.wr; simp [hl]; exact iZ; (try dsimp only [putEnv]) <;> exact rfl; simp [hl]; exact iZ; (iterate 2 exact iZ); simp; exact iZ))); exact RT.nil); (case hc => (show _ = _; kernel_rfl)); (case ht => simp [hl]; exact iZ))
 | apply WP.block | apply WP.skip | apply WP.exit | apply WP.ret | refine WP.condT rfl ?_ | refine WP.condF rfl ?_)
 exact hk.out) : G := h hl ⟨k⟩
theorem wkekv {L : Prop} (hl : L) {G G' : Prop} (k : G') (h : Wk L G G' := by
 intro hl hk
 repeat (first
 | apply WP.seq
 | (apply WP.reg; (case hR => dsimp only [prepL, prepO, List.map, gS, gZ]; exact iZ); (case hr => (repeat (first
 | (apply RT.op; simp [hl, -addNew]; exact iZ; (try dsimp only [putEnv]) <;> exact rfl)
 | (apply RT.call; (iterate 2 simp; exact iZ); exact iZ; (iterate 4 simp [hl, -addNew]; exact iZ); simp [Is]; (try dsimp only [putEnv]) <;> exact rfl; simp; exact iZ; exact iZ)
 | (apply RT.callV; (iterate 2 simp; exact iZ); exact iZ; (iterate 3 simp [hl, -addNew]; exact iZ); (try dsimp only [putEnv]) <;> exact rfl)
 | (apply RT.wr; simp [hl, -addNew]; exact iZ; (try dsimp only [putEnv]) <;> exact rfl; simp [hl, -addNew]; exact iZ; (iterate 2 exact iZ); exact iZ))); exact RT.nil); (case hc => (show _ = _; kernel_rfl)); (case ht => simp [hl, -addNew]; exact iZ))
 | apply WP.block | apply WP.skip | apply WP.exit | apply WP.ret)
 exact hk.out) : G := h hl ⟨k⟩
theorem wkektv {L : Prop} (hl : L) {G G' : Prop} (k : G') (h : Wk L G G' := by
 intro hl hk
 repeat (first
 | apply WP.seq
 | (apply WP.reg; (case hR => dsimp only [prepL, prepO, List.map, gS, gZ]; exact iZ); (case hr => (repeat (first
 | (apply RT.op; simp [hl, -addNew]; exact iZ; (try dsimp only [putEnv]) <;> exact rfl)
 | (apply RT.call; (iterate 2 simp; exact iZ); exact iZ; (iterate 4 simp [hl, -addNew]; exact iZ); simp [Is]; (try dsimp only [putEnv]) <;> exact rfl; simp; exact iZ; exact iZ)
 | (apply RT.callV; (iterate 2 simp; exact iZ); exact iZ; (iterate 3 simp [hl, -addNew]; exact iZ); (try dsimp only [putEnv]) <;> exact rfl)
 | (apply RT.callT (hd := hT1) (hk := hT2); (iterate 2 simp; exact iZ); exact iZ; (iterate 2 simp [hl, -addNew]; exact iZ); (try dsimp only [putEnv]) <;> exact rfl)
 | (apply RT.wr; simp [hl, -addNew]; exact iZ; (try dsimp only [putEnv]) <;> exact rfl; simp [hl, -addNew]; exact iZ; (iterate 2 exact iZ); exact iZ))); exact RT.nil); (case hc => (show _ = _; kernel_rfl)); (case ht => simp [hl, -addNew]; exact iZ))
 | apply WP.block | apply WP.skip | apply WP.exit | apply WP.ret)
 exact hk.out) : G := h hl ⟨k⟩
theorem wkcekv {L : Prop} (hl : L) {G G' : Prop} (k : G') (h : Wk L G G' := by
 intro hl hk
 repeat (first
 | apply WP.seq
 | (apply WP.reg; (case hR => dsimp only [prepL, prepO, List.map, gS, gZ]; exact iZ); (case hr => (repeat (first
 | (apply RT.op; simp [hl, -addNew]; exact iZ; (try dsimp only [putEnv]) <;> exact rfl)
 | (apply RT.call; (iterate 2 simp; exact iZ); exact iZ; (iterate 4 simp [hl, -addNew]; exact iZ); simp [Is]; (try dsimp only [putEnv]) <;> exact rfl; simp; exact iZ; exact iZ)
 | (apply RT.callV; (iterate 2 simp; exact iZ); exact iZ; (iterate 3 simp [hl, -addNew]; exact iZ); (try dsimp only [putEnv]) <;> exact rfl)
 | (apply RT.wr; simp [hl, -addNew]; exact iZ; (try dsimp only [putEnv]) <;> exact rfl; simp [hl, -addNew]; exact iZ; (iterate 2 exact iZ); exact iZ))); exact RT.nil); (case hc => (show _ = _; kernel_rfl)); (case ht => simp [hl, -addNew]; exact iZ))
 | apply WP.block | apply WP.skip | apply WP.exit | apply WP.ret | refine WP.condT rfl ?_ | refine WP.condF rfl ?_)
 exact hk.out) : G := h hl ⟨k⟩
theorem wkcektv {L : Prop} (hl : L) {G G' : Prop} (k : G') (h : Wk L G G' := by
 intro hl hk
 repeat (first
 | apply WP.seq
 | (apply WP.reg; (case hR => dsimp only [prepL, prepO, List.map, gS, gZ]; exact iZ); (case hr => (repeat (first
 | (apply RT.op; simp [hl, -addNew]; exact iZ; (try dsimp only [putEnv]) <;> exact rfl)
 | (apply RT.call; (iterate 2 simp; exact iZ); exact iZ; (iterate 4 simp [hl, -addNew]; exact iZ); simp [Is]; (try dsimp only [putEnv]) <;> exact rfl; simp; exact iZ; exact iZ)
 | (apply RT.callV; (iterate 2 simp; exact iZ); exact iZ; (iterate 3 simp [hl, -addNew]; exact iZ); (try dsimp only [putEnv]) <;> exact rfl)
 | (apply RT.callT (hd := hT1) (hk := hT2); (iterate 2 simp; exact iZ); exact iZ; (iterate 2 simp [hl, -addNew]; exact iZ); (try dsimp only [putEnv]) <;> exact rfl)
 | (apply RT.wr; simp [hl, -addNew]; exact iZ; (try dsimp only [putEnv]) <;> exact rfl; simp [hl, -addNew]; exact iZ; (iterate 2 exact iZ); exact iZ))); exact RT.nil); (case hc => (show _ = _; kernel_rfl)); (case ht => simp [hl, -addNew]; exact iZ))
 | apply WP.block | apply WP.skip | apply WP.exit | apply WP.ret | refine WP.condT rfl ?_ | refine WP.condF rfl ?_)
 exact hk.out) : G := h hl ⟨k⟩
end Go.Ac
end
