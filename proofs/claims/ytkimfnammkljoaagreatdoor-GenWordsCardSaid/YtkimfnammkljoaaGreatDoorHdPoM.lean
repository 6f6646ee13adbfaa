/- The names of the program's class. -/
import Derived.Test.YtkimfnammkljoaaGreatDoorHdPgM
set_option linter.unusedVariables false
set_option linter.unusedSimpArgs false
section
set_option maxRecDepth 4000
set_option linter.unusedSectionVars false
namespace Go.Ac
open Go.Proofs
variable [GwR]
attribute [simp] of_1_1 of_1_2 of_1_3 of_2_1 of_2_2 of_2_3 of_3_1 of_3_2 of_3_3 of_4_1 of_4_2 of_4_3 of_5_1 of_5_2 of_5_3 of_6_1 of_6_2 of_6_3 of_7_1 of_7_2 of_7_3 of_8_1 of_8_2 of_8_3 of_9_1 of_9_2 of_9_3 of_lt1 of_lt2 of_lt3 of_lt4 of_lt5 of_lt6 of_lt7 of_lt8 of_lt9
theorem findV_mp {α : Type} (x : Tx) : ∀ (l : List (Tx × α)) (j : Nat), findV (.str x) (l.map fun p => D.str p.1) j = some ((l.findIdx? (fun p => decide (p.1 = x))).map (j + ·))
 | [], j => rfl
 | p :: r, j => by
  have ih := findV_mp x r (j + 1)
  simp only [List.map_cons, findV, keyEq, List.findIdx?_cons]
  by_cases h : p.1 = x
  ·have : (x == p.1) = true := by simp [h]
   rw [this, if_pos (by simp [h])]; rfl
  ·have : (x == p.1) = false := by simp; exact fun e => h e.symm
   rw [this, if_neg (by simp [h])]
   simp only [ih, Option.map_map]
   congr 2
   funext i; simp; omega
theorem mget_idx {α : Type} (x : Tx) : ∀ (l : List (Tx × α)), (match l.findIdx? (fun p => decide (p.1 = x)) with | some i => (l[i]?).map (·.2) | none => none) = mget l x
 | [] => rfl
 | p :: r => by
  have ih := mget_idx x r
  unfold mget at *
  simp only [List.findIdx?_cons, List.find?_cons]
  by_cases h : p.1 = x
  ·simp [h]
  ·simp only [h, decide_false, if_false, Bool.false_eq_true]
   rw [← ih]
   cases List.findIdx? (fun p => decide (p.1 = x)) r with
   | none => rfl
   | some i => simp
theorem lookup_mp {α : Type} (e : α → V) (l : List (Tx × α)) {id g : Nat} {ro ok : Bool} {z : V} {sz by_ : Nat} {zr : Option (List V)} {look : Look} {x : Tx} (h : look id = some ⟨g, ro, [mpC e l]⟩) :
  lookupV look ⟨.str, sz, by_, zr⟩ (some z) (.mp id g) (.d (.str x)) ok = some ⟨lookRes ok (match mget l x with | some v => e v | none => z) (mget l x).isSome, [], [id], 0, 0, false⟩ := by
 unfold lookupV
 have hl : live look id g = some ⟨g, ro, [mpC e l]⟩ := by unfold live; rw [h]; simp
 simp only [keyOK, hl, mpC, findV_mp]
 rw [← mget_idx]
 cases hf : List.findIdx? (fun p => decide (p.1 = x)) l with
 | none => rfl
 | some i =>
  have hi : i < l.length := (List.findIdx?_eq_some_iff_getElem.1 hf).1
  simp only [Option.map_some, Nat.zero_add, List.getElem?_map, List.getElem?_eq_getElem hi, Option.map_some]
  rfl
theorem zt3 : zeroT Tryz.prog 3 = some (.d (.int .i64 0)) := by kernel_rfl
/-! ### Calls for all memories that agree with one -/
theorem lim_fn {P : Program} {cfg : Cfg} {f : FuncId} {vs : List V} {v : V} {C : Hp → Nat → Prop} (h : ∀ hp n c, C hp n → QuietV P cfg f vs hp n c v) :
  ∃ (F : Hp → Nat → Nat → Hp) (G : Hp → Nat → Nat → Nat), ∀ hp n c, C hp n → lim P cfg f vs hp n c = some ⟨v, F hp n c, n, G hp n c, []⟩ := by
 classical
 refine ⟨fun hp n c => if hc : C hp n then Classical.choose (h hp n c hc) else [], fun hp n c => if hc : C hp n then Classical.choose (Classical.choose_spec (h hp n c hc)) else 0, fun hp n c hc => ?_⟩
 simp only [dif_pos hc]
 exact Classical.choose_spec (Classical.choose_spec (h hp n c hc))
/-- New names are none of the old. -/
theorem nf {n id : Nat} (h : id < n) : (n = id) = False ∧ (n + 1 = id) = False ∧ (n + 2 = id) = False ∧ (n + 3 = id) = False ∧ (n + 4 = id) = False ∧ (n + 5 = id) = False ∧ (n + 6 = id) = False ∧ (n + 7 = id) = False := by
 refine ⟨?_, ?_, ?_, ?_, ?_, ?_, ?_, ?_⟩ <;> exact eq_false (by omega)
theorem KAt.ag {ic gc iv gv ip gp im gm ii gi : Nat} {o : Oc} {ea : List Cl} {c : Cl} {hp hp' : Hp} {n n' : Nat} (h : KAt ic gc iv gv ip gp im gm ii gi o ea c hp n) (ha : Ag n hp hp') (hn : n ≤ n') : KAt ic gc iv gv ip gp im gm ii gi o ea c hp' n' := by
 obtain ⟨h1, h2, h3, h4, h5, l1, l2, l3, l4, l5⟩ := h
 rw [← ha _ l1] at h1
 rw [← ha _ l2] at h2
 rw [← ha _ l3] at h3
 rw [← ha _ l4] at h4
 rw [← ha _ l5] at h5
 exact ⟨h1, h2, h3, h4, h5, by omega, by omega, by omega, by omega, by omega⟩
/-- A call that is quiet wherever the class object lies. -/
def QK (ic gc iv gv ip gp im gm ii gi : Nat) (o : Oc) (ea : List Cl) (c : Cl) (f : FuncId) (vs : List V) (v : V) : Prop := ∀ hp n cc, KAt ic gc iv gv ip gp im gm ii gi o ea c hp n → QuietV Tryz.prog Ob.cfg f vs hp n cc v
section
variable {ic gc iv gv ip gp im gm ii gi : Nat} {o : Oc} {ea : List Cl} {c : Cl} {hp : Hp} {n : Nat}
theorem QK.fn {f : FuncId} {vs : List V} {v : V} (h : QK ic gc iv gv ip gp im gm ii gi o ea c f vs v) (hK : KAt ic gc iv gv ip gp im gm ii gi o ea c hp n) :
  ∃ (F : Hp → Nat → Nat → Hp) (G : Hp → Nat → Nat → Nat), ∀ hp' n' cc, Ag n hp hp' → n ≤ n' → lim Tryz.prog Ob.cfg f vs hp' n' cc = some ⟨v, F hp' n' cc, n', G hp' n' cc, []⟩ := by
 obtain ⟨F, G, h1⟩ := lim_fn (C := fun hp' n' => Ag n hp hp' ∧ n ≤ n') (P := Tryz.prog) (cfg := Ob.cfg) (f := f) (vs := vs) (v := v) (fun hp' n' cc ha => h hp' n' cc (hK.ag ha.1 ha.2))
 exact ⟨F, G, fun hp' n' cc a b => h1 hp' n' cc ⟨a, b⟩⟩
theorem KAt.look_vars (hK : KAt ic gc iv gv ip gp im gm ii gi o ea c hp n) {look : Look} {sz by_ : Nat} {zr : Option (List V)} {x : Tx} (h : look iv = hp.get iv) :
  lookupV look ⟨.str, sz, by_, zr⟩ (some (.d (.int .i64 0))) (.mp iv gv) (.d (.str x)) true = some ⟨.tuple [.d (.int .i64 (getT c x)), .d (.bool (decide (getT c x ≠ 0)))], [], [iv], 0, 0, false⟩ := by
 obtain ⟨l, h1, h2⟩ := hK.vars
 rw [lookup_mp _ l (h.trans h1), h2]
 by_cases q : getT c x = 0
 ·simp [q, lookRes]
 ·simp [q, lookRes]
theorem KAt.look_mems (hK : KAt ic gc iv gv ip gp im gm ii gi o ea c hp n) {look : Look} {sz by_ : Nat} {zr : Option (List V)} {x : Tx} (h : look im = hp.get im) :
  lookupV look ⟨.str, sz, by_, zr⟩ (some (.d (.int .i64 0))) (.mp im gm) (.d (.str x)) true = some ⟨.tuple [.d (.int .i64 (findM c.mems x)), .d (.bool (decide (findM c.mems x ≠ 0)))], [], [im], 0, 0, false⟩ := by
 obtain ⟨l, h1, h2⟩ := hK.mems
 rw [lookup_mp _ l (h.trans h1), h2]
 by_cases q : findM c.mems x = 0
 ·simp [q, lookRes]
 ·simp [q, lookRes]
end

theorem kf58 (r : Nat) : Ob.keep 58 r = Ob.k58 r := by kernel_rfl
theorem kf311 (r : Nat) : Ob.keep 311 r = Ob.k311 r := by kernel_rfl
attribute [local simp] kf58 Ob.k58 kf311 Ob.k311
theorem index190 {i1 g1 : Nat} {p : Dc → Bool} (l : List (Dc)) (hl : l.length ≤ MX) (hp : Hp) (n : Nat) (hq : ∀ v, v ∈ l → ∀ hp' c, Ag n hp hp' → Quiet Tryz.prog Ob.cfg 417 [aG v.cells, .ptr i1 g1 0] hp' n c (.bool (p v))) (c : Nat) :
  Quiet Tryz.prog Ob.cfg 58 [dL (encD l), .fn 417 [.ptr i1 g1 0]] hp n c (.int .i64 (ixP p l)) := by
 unfold MX at hl
 refine quiet_wp Tryz.func58 rfl (by kernel_rfl) rfl ?_
 refine wkv (jn @envOf.eq_1 (jn @envOf.eq_2 (jn @dL.eq_1 @encD_len))) ?_
 apply WP.loop' (I := fun d s => ∃ i : Nat, i + d = l.length ∧ (l.take i).all (fun v => !p v) = true ∧ SQ [(0, dL (encD l)), (1, .fn 417 [.ptr i1 g1 0]), (7, dI l.length), (8, dI i)] hp n n s) (d := l.length)
 ·exact ⟨0, by simp, by simp, _, _, Ag.refl n hp, st_eq (by simp [dL, dI]) rfl⟩
 rintro d _ ⟨i, hii, hno, hp', c1, hag, rfl⟩
 refine wkv (jn @dI.eq_1 @dL.eq_1) ?_
 show WP _ _ _ _ _ _
 refine WP.cond _ rfl (fun hb => ?_) (fun hb => ?_)
 ·simp at hb
  have hb' : i < l.length := hb
  obtain ⟨v, hv, hvm, hix⟩ := at_lt hb'
  have hv' := encD_at hv
  have hw := w_succ hb' (by omega)
  have hts := all_snoc (p := fun v => !p v) hv
  obtain ⟨h5, h6, h4⟩ := Quiet.fn (fun c => hq v hvm hp' c hag)
  simp only [aG, dL, dI, Dc.cells, List.map_cons, List.map_nil] at h4
  refine wkv (jn @hix (jn @hv' (jn @dL.eq_1 (jn @dI.eq_1 (jn @Dc.cells.eq_1 @h4))))) ?_
  show WP _ _ _ _ _ _
  refine WP.cond _ rfl (fun hb => ?_) (fun hb => ?_)
  ·refine wkv True.intro ?_
   rw [ixP_some hno hv hb]
   exact ⟨.inr rfl, rfl, _, rfl, rfl⟩
  ·refine wkv True.intro ?_
   refine loop_next (by simp [hw]; exact Is.rfl) ?_
   exact ⟨d - 1, by omega, i + 1, by omega, by rw [hts, hno]; simpa using hb, _, _, hag.trunc, st_eq (by simp [dI, dL, hw]) rfl⟩
 ·simp at hb
  have hil : i = l.length := by omega
  subst hil
  rw [List.take_length] at hno
  refine wkv True.intro ?_
  rw [ixP_none hno]
  exact ⟨.inr rfl, rfl, _, rfl, rfl⟩
theorem contains171 {i1 g1 : Nat} {p : Dc → Bool} (l : List (Dc)) (hl : l.length ≤ MX) (hp : Hp) (n : Nat) (hq : ∀ v, v ∈ l → ∀ hp' c, Ag n hp hp' → Quiet Tryz.prog Ob.cfg 417 [aG v.cells, .ptr i1 g1 0] hp' n c (.bool (p v))) (c : Nat) :
  Quiet Tryz.prog Ob.cfg 311 [dL (encD l), .fn 417 [.ptr i1 g1 0]] hp n c (.bool (l.any p)) := by
 obtain ⟨h5, h6, h4⟩ := Quiet.fn (fun c => index190 (p := p) l hl hp n hq c)
 simp only [dL] at h4
 rw [← ixP_any]
 refine quiet_wp Tryz.func311 rfl (by kernel_rfl) rfl ?_
 refine wkv (jn @envOf.eq_1 (jn @envOf.eq_2 (jn @dL.eq_1 @h4))) ?_
 exact ⟨.inr rfl, rfl, _, rfl, rfl⟩

theorem kf417 (r : Nat) : Ob.keep 417 r = Ob.k417 r := by kernel_rfl
theorem kf356 (r : Nat) : Ob.keep 356 r = Ob.k356 r := by kernel_rfl
attribute [local simp] kf417 Ob.k417 kf356 Ob.k356
theorem ready172 {nm : Tx} {i1 g1 : Nat} (d : Dc) (hp : Hp) (n c : Nat) (h1 : hp.get i1 = some ⟨g1, false, [dS nm]⟩) (l1 : i1 < n) : Quiet Tryz.prog Ob.cfg 417 [aG d.cells, .ptr i1 g1 0] hp n c (.bool (decide (d.nm = nm))) := by
 have ne := nf l1
 simp only [dS] at h1
 refine quiet_wp Tryz.func417 rfl (by kernel_rfl) rfl ?_
 refine wkv (jn @envOf.eq_1 (jn @envOf.eq_2 (jn @aG.eq_1 (jn @Dc.cells.eq_1 (jn @Hp.get_set (jn @ne (jn @h1 @tx_beq))))))) ?_
 exact ⟨.inr rfl, rfl, _, rfl, rfl⟩
section
variable {ic gc iv gv ip gp im gm ii gi : Nat} {o : Oc} {ea : List Cl} {c : Cl}
set_option maxHeartbeats 1000000 in
theorem ready151 (hW : KW o c) (nm : Tx) (cx : List Pr) (bl : List (List Y)) (hl : bl.length ≤ MX) (hnb : nbB bl = true) (hb : cx.length + szY bl.flatten ≤ 8388608) :
  QK ic gc iv gv ip gp im gm ii gi o ea c 356 [.ptr ic gc 0, dS nm, pP cx bl] (dI (if readyW ⟨o, c, bl.flatten, cx⟩ nm then 0 else 22)) := by
 intro hp n cc hK
 have hco := hK.co
 have nc := nf hK.lc
 have ha := assigned71 nm false cx bl hl hnb hb
 obtain ⟨F, G, hF⟩ := lim_fn (C := fun hp' n' => hp'.get n = some ⟨cc, false, [dS nm]⟩ ∧ n < n') (P := Tryz.prog) (cfg := Ob.cfg) (f := 311) (vs := [dL (encD c.inn), .fn 417 [.ptr n cc 0]]) (v := .d (.bool (c.inn.any fun d => decide (d.nm = nm))))
  (fun hp' n' c' hC => contains171 (p := fun d => decide (d.nm = nm)) c.inn hW.linn hp' n' (fun v hv hp'' c'' hag => ready172 v hp'' n' c'' ((hag n hC.2).trans hC.1) hC.2) c')
 have hF' := fun hp' n' c' a b => hF hp' n' c' ⟨a, b⟩
 simp only [dL, dS, dB, pP, hW.inn] at ha hF'
 refine quietV_wp Tryz.func356 rfl (by kernel_rfl) rfl (fun _ => rfl) ?_
 unfold readyW
 by_cases q : findD c.inn nm = 0
 ·rw [show decide (findD c.inn nm ≠ 0) = false by simp [q], Bool.false_or]
  simp only [q, ne_eq, not_true_eq_false, decide_false] at hF'
  cases hs : asL nm true cx bl.flatten with
  | true =>
   rw [show asL nm (!false) cx bl.flatten = true from hs] at ha
   refine wkcv (jn @envOf.eq_1 (jn @envOf.eq_2 (jn @dL.eq_1 (jn @dS.eq_1 (jn @pP.eq_1 (jn @Hp.get_set (jn @nc (jn @hco (jn @hF' @ha))))))))) ?_
   exact ⟨.inr rfl, rfl, _, rfl, rfl⟩
  | false =>
   rw [show asL nm (!false) cx bl.flatten = false from hs] at ha
   refine wkcv (jn @envOf.eq_1 (jn @envOf.eq_2 (jn @dL.eq_1 (jn @dS.eq_1 (jn @pP.eq_1 (jn @Hp.get_set (jn @nc (jn @hco (jn @hF' @ha))))))))) ?_
   exact ⟨.inr rfl, rfl, _, rfl, rfl⟩
 ·rw [show decide (findD c.inn nm ≠ 0) = true by simp [q], Bool.true_or]
  simp only [q, ne_eq, not_false_eq_true, decide_true] at hF'
  refine wkcv (jn @envOf.eq_1 (jn @envOf.eq_2 (jn @dL.eq_1 (jn @dS.eq_1 (jn @pP.eq_1 (jn @Hp.get_set (jn @nc (jn @hco (jn @hF' @ha))))))))) ?_
  exact ⟨.inr rfl, rfl, _, rfl, rfl⟩
end
end Go.Ac
end

section
set_option maxRecDepth 4000
set_option linter.unusedSectionVars false
namespace Go.Ac
open Go.Proofs
variable [GwR]
attribute [local simp] Hp.get_set Ag_set Ag_refl Ag_trunc get_trunc_lt
/-- The type that the program gives, though the variable may not be ready. -/
def kindT (w : Pl) (x : X) : Int := if x.k = 2 then getT w.c x.nm else (kindW w x).1
theorem kind2_args {x : X} (hf : formE x = true) (q : x.k = 2) : x.args = [] := by
 rw [formE_eq] at hf
 simp only [formN, q] at hf
 split at hf
 ·cases hf
 ·rename_i n hn
  simp at hn hf
  have : n = 0 := hn.2.symm
  have h1 := hf.1
  rw [this] at h1
  simpa using h1
theorem kindT_ok {w : Pl} {x : X} (hf : formE x = true) (h : (kindW w x).2 = 0) : kindT w x = (kindW w x).1 := by
 unfold kindT
 split
 ·rename_i q
  rw [kindW_eq] at h ⊢
  have ha := kind2_args hf q
  rw [ha] at h ⊢
  simp only [kindsW, kindO, q] at h ⊢
  simp at h ⊢
  split
  ·rename_i hz; simp [hz]
  ·rename_i hz
   simp only [hz, if_false] at h
   split at h
   ·simp [*]
   ·simp at h
 ·rfl
theorem kf419 (r : Nat) : Ob.keep 419 r = Ob.k419 r := by kernel_rfl
attribute [local simp] kf419 Ob.k419
section
variable {ic gc iv gv ip gp im gm ii gi : Nat} {o : Oc} {ea : List Cl} {c : Cl}
set_option maxHeartbeats 4000000 in
theorem typed174 (hW : KW o c) (cx : List Pr) (bl : List (List Y)) (hB : BOK cx bl) : ∀ (N : Nat) (x : X), x.sz < N → formE x = true → x.ok →
  QK ic gc iv gv ip gp im gm ii gi o ea c 419 [.ptr ic gc 0, aG x.cells, pP cx bl] (.tuple [dI (kindT ⟨o, c, bl.flatten, cx⟩ x), dI (kindW ⟨o, c, bl.flatten, cx⟩ x).2]) := by
 intro N
 induction N with
 | zero => intro x h; omega
 | succ N ih =>
 intro x hN hf hok hp n cc hK
 obtain ⟨hf1, hf2, hf3⟩ := formE_l hf
 obtain ⟨hx1, hx2⟩ := X.ok_eq hok
 have hs0 := X.sz_eq x
 refine quietV_wp Tryz.func419 rfl (by kernel_rfl) rfl (fun _ => rfl) ?_
 generalize hw : (⟨o, c, bl.flatten, cx⟩ : Pl) = w at *
 refine wkcv (jn @envOf.eq_1 (jn @envOf.eq_2 (jn @aG.eq_1 (jn @pP.eq_1 (jn @X.cells_eq @dL.eq_1))))) ?_
 apply WP.loop' (I := fun D s => ∃ j g : Nat, j + D = x.args.length ∧ (x.args.take j).all (okK w) = true ∧ ∃ (c' : Nat) (L : List Int) (hp' : Hp), L = (x.args.take j).map (fun y => (kindW w y).1) ∧ Ag n hp hp' ∧
  hp'.get n = some ⟨cc, false, x.cells.map .d⟩ ∧ hp'.get (n + 1) = some ⟨cc + 1, false, [V.d (.slice (encP cx)), V.d (.slice (encB bl))]⟩ ∧ hp'.get (n + 2) = some ⟨g, false, fl (encI L)⟩ ∧
  s = ⟨[(0, .ptr ic gc 0), (4, .ptr n cc 0), (5, .ptr (n + 1) (cc + 1) 0), (8, .osl (n + 2) g 0 j 1 none), (18, dL (encX x.args)), (19, dI x.args.length), (20, dI j)], hp', n + 3, c', n, []⟩) (d := x.args.length)
 ·refine ⟨0, cc + 1 + 1, by simp, by simp, _, [], _, by simp, ?_, ?_, ?_, ?_, st_eq (by simp [dI, dL]) rfl⟩
  ·simp [Ag_set, Ag_refl]
  ·simp [Hp.get_set, X.cells_eq]
  ·simp [Hp.get_set]
  ·simp [Hp.get_set, fl, encI]
 rintro D _ ⟨j, g, hj, hno, c', L, hp', hL, hag, hx0, hx1', hx2', rfl⟩
 have hKp := hK.ag hag (Nat.le_refl n)
 have hco := hKp.co
 have nc := nf hK.lc
 have hagt := eq_true hag
 rw [X.cells_eq] at hx0
 simp only [List.map_cons, List.map_nil] at hx0
 refine wkv (jn @dI.eq_1 @dL.eq_1) ?_
 show WP _ _ _ _ _ _
 refine WP.cond _ rfl (fun hb => ?_) (fun hb => ?_)
 ·simp at hb
  have hb' : j < x.args.length := by omega
  obtain ⟨d, hd, hdm, hix⟩ := at_lt hb'
  have hd' := encX_at hd
  have hwj := w_succ hb' (by omega)
  have hs := all_snoc (p := okK w) hd
  obtain ⟨F, G, hr⟩ := (ih d (by have := mem_szX hdm; omega) (List.all_eq_true.1 hf1 d hdm) ((okX_iff _).1 hx2 d hdm)).fn hK
  simp only [aG, pP, X.cells_eq, List.map_cons, List.map_nil, dI] at hr
  by_cases hz : (kindW w d).2 = 0
  ·rw [hz, kindT_ok (List.all_eq_true.1 hf1 d hdm) hz] at hr
   have hsn := take_snoc hd
   have hLl : L.length = j := by rw [hL]; simp; omega
   have hLs : (x.args.take (j + 1)).map (fun y => (kindW w y).1) = L ++ [(kindW w d).1] := by rw [hsn, hL]; simp
   have r2 := fl_len (encI_row L)
   have r3 := fl_take (encI_row L)
   have r4 := fl_snoc (encI L) [.int .i64 (kindW w d).1]
   have r5 := encI_snoc L (kindW w d).1
   have f5 : fitsB (j + 1) 8 = true := by simp [fitsB]; omega
   rw [r5] at r4
   rw [encI_len, hLl, Nat.mul_one] at r2 r3
   simp only [List.map_cons, List.map_nil] at r4
   refine wkcv (jn @dI.eq_1 (jn @dL.eq_1 (jn @X.cells_eq (jn @hix (jn @hd' (jn @hr (jn @fillV.eq_1 (jn @fillV.eq_2 (jn @closeParts.eq_1 (jn @closeParts.eq_2 (jn @cl2.eq_def (jn @toD_dep (jn @toD_d (jn @nble_d (jn @f5 (jn @r2 (jn @r3 (jn @r4 (jn @Hp.get_set (jn @hx0 (jn @hx1' (jn @hx2' (jn @nc (jn @hco (jn @Ag_set @hagt))))))))))))))))))))))))) ?_
   refine loop_next (by simp [hwj]; exact Is.rfl) ?_
   exact ⟨D - 1, by omega, j + 1, _, by omega, by rw [hs, hno]; simp [okK, hz], _, _, _, hLs.symm, by simp [hag], by simp [hx0, X.cells_eq], by simp [hx1'], by simp; rfl, st_eq (by simp [dI, dL, hwj]) rfl⟩
  ·have hz' := eq_false hz
   have hkk : kindW w x = (0, (kindW w d).2) := by rw [kindW_eq, kindsW_bad w hno hd hz, if_pos hz]
   have hkt : x.k ≠ 2 := fun q => by
    have := kind2_args hf q
    rw [this] at hb'; simp at hb'
   rw [show kindT w x = 0 by unfold kindT; rw [if_neg hkt, hkk], hkk]
   refine wkcv (jn @dI.eq_1 (jn @dL.eq_1 (jn @X.cells_eq (jn @hx0 (jn @hx1' (jn @hx2' (jn @nc (jn @hco (jn @hagt (jn @hix (jn @hd' (jn @hr (jn @hz' @int_bne))))))))))))) ?_
   exact ⟨.inr rfl, rfl, _, rfl, rfl⟩
 ·simp at hb
  have hje : j = x.args.length := by omega
  rw [hje, List.take_length] at hno
  have hks := kindsW_ok w hno
  have hkk : kindW w x = kindO w x.k x.o x.t x.v x.nm (x.args.map (fun y => (kindW w y).1)) := by rw [kindW_eq, hks, if_neg (by simp)]
  have hx : (x.args.take x.args.length).map (fun y => (kindW w y).1) = x.args.map (fun y => (kindW w y).1) := by rw [List.take_length]
  rw [hje, hx] at hL
  rw [← hL] at hkk
  rw [hkk]
  have hLl : L.length = x.args.length := by rw [hL]; simp
  subst hje
  clear hL hx hks
  have hwo : w.o = o := by rw [← hw]
  have hwc : w.c = c := by rw [← hw]
  rcases formE_k hf with q | q | q | q | q
  ·have hh := has15 o.en x.t x.v hx1
   simp only [dL, dI, dB] at hh
   rw [show kindT w x = (kindO w x.k x.o x.t x.v x.nm L).1 by unfold kindT; rw [if_neg (by omega), hkk]]
   cases hz : hasE o.en x.t x.v with
   | true =>
    rw [hz] at hh
    simp only [kindO, q, hwo, hz]
    refine wkcv (jn @dI.eq_1 (jn @dL.eq_1 (jn @X.cells_eq (jn @hx0 (jn @hx1' (jn @hx2' (jn @nc (jn @hco (jn @hagt (jn @q @hh)))))))))) ?_
    exact ⟨.inr rfl, rfl, _, rfl, rfl⟩
   | false =>
    rw [hz] at hh
    simp only [kindO, q, hwo, hz]
    refine wkcv (jn @dI.eq_1 (jn @dL.eq_1 (jn @X.cells_eq (jn @hx0 (jn @hx1' (jn @hx2' (jn @nc (jn @hco (jn @hagt (jn @q @hh)))))))))) ?_
    exact ⟨.inr rfl, rfl, _, rfl, rfl⟩
  ·have hlk := fun (look : Look) (sz by_ : Nat) (zr : Option (List V)) (y : Tx) (h : look iv = hp'.get iv) => hKp.look_vars (look := look) (sz := sz) (by_ := by_) (zr := zr) (x := y) h
   have nv := nf hK.lv
   obtain ⟨F, G, hr⟩ := (ready151 (ic := ic) (gc := gc) (iv := iv) (gv := gv) (ip := ip) (gp := gp) (im := im) (gm := gm) (ii := ii) (gi := gi) (ea := ea) hW x.nm cx bl hB.len hB.nb hB.sz).fn hK
   rw [hw] at hr
   simp only [dS, pP, dI] at hr
   rw [show kindT w x = getT c x.nm by unfold kindT; rw [if_pos q, hwc]]
   by_cases hz : getT c x.nm = 0
   ·simp only [kindO, q, hwc, hz]
    refine wkcv (jn @dI.eq_1 (jn @dL.eq_1 (jn @X.cells_eq (jn @hx0 (jn @hx1' (jn @hx2' (jn @nc (jn @hco (jn @hagt (jn @q (jn @zt3 (jn @lookRes.eq_1 (jn @lookRes.eq_2 (jn @nv (jn @hlk @hz))))))))))))))) ?_
    exact ⟨.inr rfl, rfl, _, rfl, rfl⟩
   have hz' := eq_false hz
   cases hy : readyW w x.nm with
   | true =>
    rw [hy] at hr
    simp only [kindO, q, hwc, hz', hy]
    refine wkcv (jn @dI.eq_1 (jn @dL.eq_1 (jn @X.cells_eq (jn @hx0 (jn @hx1' (jn @hx2' (jn @nc (jn @hco (jn @hagt (jn @q (jn @zt3 (jn @lookRes.eq_1 (jn @lookRes.eq_2 (jn @nv (jn @hlk (jn @hz' @hr)))))))))))))))) ?_
    exact ⟨.inr rfl, rfl, _, rfl, rfl⟩
   | false =>
    rw [hy] at hr
    simp only [kindO, q, hwc, hz', hy]
    refine wkcv (jn @dI.eq_1 (jn @dL.eq_1 (jn @X.cells_eq (jn @hx0 (jn @hx1' (jn @hx2' (jn @nc (jn @hco (jn @hagt (jn @q (jn @zt3 (jn @lookRes.eq_1 (jn @lookRes.eq_2 (jn @nv (jn @hlk (jn @hz' @hr)))))))))))))))) ?_
    exact ⟨.inr rfl, rfl, _, rfl, rfl⟩
  ·have hlk := fun (look : Look) (sz by_ : Nat) (zr : Option (List V)) (y : Tx) (h : look im = hp'.get im) => hKp.look_mems (look := look) (sz := sz) (by_ := by_) (zr := zr) (x := y) h
   have nv := nf hK.lm
   rw [show kindT w x = (kindO w x.k x.o x.t x.v x.nm L).1 by unfold kindT; rw [if_neg (by omega), hkk]]
   by_cases hz : findM c.mems x.nm = 0
   ·simp only [kindO, q, hwc, hz]
    refine wkcv (jn @dI.eq_1 (jn @dL.eq_1 (jn @X.cells_eq (jn @hx0 (jn @hx1' (jn @hx2' (jn @nc (jn @hco (jn @hagt (jn @q (jn @zt3 (jn @lookRes.eq_1 (jn @lookRes.eq_2 (jn @nv (jn @hlk @hz))))))))))))))) ?_
    exact ⟨.inr rfl, rfl, _, rfl, rfl⟩
   have hz' := eq_false hz
   simp only [kindO, q, hwc, hz']
   refine wkcv (jn @dI.eq_1 (jn @dL.eq_1 (jn @X.cells_eq (jn @hx0 (jn @hx1' (jn @hx2' (jn @nc (jn @hco (jn @hagt (jn @q (jn @zt3 (jn @lookRes.eq_1 (jn @lookRes.eq_2 (jn @nv (jn @hlk @hz'))))))))))))))) ?_
   exact ⟨.inr rfl, rfl, _, rfl, rfl⟩
  ·have hg := res193 x.o L
   have r2 := fl_len (encI_row L)
   have r3 := fl_take (encI_row L)
   have r4 := chunk_flat (encI_row L)
   rw [encI_len, Nat.mul_one] at r2 r3
   rw [encI_len] at r4
   rw [hLl] at r2 r3 r4
   simp only [dL, dI] at hg
   rw [show kindT w x = (kindO w x.k x.o x.t x.v x.nm L).1 by unfold kindT; rw [if_neg (by omega), hkk]]
   simp only [kindO, q]
   refine wkcv (jn @dI.eq_1 (jn @dL.eq_1 (jn @X.cells_eq (jn @hx0 (jn @hx1' (jn @hx2' (jn @nc (jn @hco (jn @hagt (jn @q (jn @hg (jn @closeParts.eq_1 (jn @closeParts.eq_2 (jn @cl2.eq_def (jn @toD_dep (jn @toD_d (jn @toDs_fl (jn @r2 (jn @r3 (jn @r4 @nble_d)))))))))))))))))))) ?_
   exact ⟨.inr rfl, rfl, _, rfl, rfl⟩
  ·rw [show kindT w x = (kindO w x.k x.o x.t x.v x.nm L).1 by unfold kindT; rw [if_neg (by omega), hkk]]
   rw [hf2 q] at hLl ⊢
   obtain ⟨a, b, d, rfl⟩ : ∃ a b d, L = [a, b, d] := by
    match L, hLl with
    | [a, b, d], _ => exact ⟨a, b, d, rfl⟩
   have e : fl (encI [a, b, d]) = [.d (.int .i64 a), .d (.int .i64 b), .d (.int .i64 d)] := rfl
   rw [e] at hx2'
   by_cases c1 : a = 1
   case neg =>
    have c1' := eq_false c1
    simp only [kindO, q]
    rw [show (if ([a, b, d].getD 0 0 ≠ 1 ∨ [a, b, d].getD 1 0 ≠ [a, b, d].getD 2 0) then ((0 : Int), (10 : Int)) else ([a, b, d].getD 1 0, 0)) = (0, 10) by simp [c1]]
    refine wkcv (jn @dI.eq_1 (jn @dL.eq_1 (jn @X.cells_eq (jn @hx0 (jn @hx1' (jn @hx2' (jn @nc (jn @hco (jn @hagt (jn @q (jn @c1' (jn @int_bne @idx.eq_def)))))))))))) ?_
    exact ⟨.inr rfl, rfl, _, rfl, rfl⟩
   by_cases c2 : b = d
   case neg =>
    have c2' := eq_false c2
    simp only [kindO, q]
    rw [show (if ([a, b, d].getD 0 0 ≠ 1 ∨ [a, b, d].getD 1 0 ≠ [a, b, d].getD 2 0) then ((0 : Int), (10 : Int)) else ([a, b, d].getD 1 0, 0)) = (0, 10) by simp [c2]]
    refine wkcv (jn @dI.eq_1 (jn @dL.eq_1 (jn @X.cells_eq (jn @hx0 (jn @hx1' (jn @hx2' (jn @nc (jn @hco (jn @hagt (jn @q (jn @c1 (jn @c2' (jn @int_bne @idx.eq_def))))))))))))) ?_
    exact ⟨.inr rfl, rfl, _, rfl, rfl⟩
   simp only [kindO, q]
   rw [show (if ([a, b, d].getD 0 0 ≠ 1 ∨ [a, b, d].getD 1 0 ≠ [a, b, d].getD 2 0) then ((0 : Int), (10 : Int)) else ([a, b, d].getD 1 0, 0)) = (b, 0) by simp [c1, c2]]
   subst c1 c2
   refine wkcv (jn @dI.eq_1 (jn @dL.eq_1 (jn @X.cells_eq (jn @hx0 (jn @hx1' (jn @hx2' (jn @nc (jn @hco (jn @hagt (jn @q (jn @int_bne @idx.eq_def))))))))))) ?_
   exact ⟨.inr rfl, rfl, _, rfl, rfl⟩
end
end Go.Ac
end

section
set_option maxRecDepth 4000
set_option linter.unusedSectionVars false
namespace Go.Ac
open Go.Proofs
variable [GwR]
/-- A number in 16 bits. -/
def wr (n : Int) : Int := (n + 32768) % 65536 - 32768
theorem wr_i16 (n : Int) : IntKind.i16.wrap n = wr n := by simp only [IntKind.wrap, IntKind.bits, IntKind.signed, wr]; simp; omega
theorem wr_in (n : Int) : -32768 ≤ wr n ∧ wr n ≤ 32767 := by unfold wr; omega
theorem wr_i64 (n : Int) : IntKind.i64.wrap (wr n) = wr n := by have := wr_in n; rw [w_id] <;> omega
def divE (a b : Int) : Int := if wr b = 0 then 0 else wr ((wr a).tdiv (wr b))
def modE (a b : Int) : Int := if wr b = 0 then wr a else (wr a).tmod (wr b)
def cmpE (o a b : Int) : Int := if o = 2 then wr (-wr a) else if o = 6 then wr (wr a + wr b) else if o = 7 then wr (wr a - wr b) else if o = 8 then wr (wr a * wr b) else if o = 9 then divE a b else modE a b
def hldE (o a b : Int) : Bool := if o = 1 then decide (a = 0) else if o = 3 then decide (a = 1) && decide (b = 1) else if o = 4 then decide (a = 1) || decide (b = 1) else if o = 11 then decide (a = b) else if o = 5 ∨ o = 12 then !decide (a = b) else if o = 13 then decide (a < b) else if o = 14 then decide (a ≤ b) else if o = 15 then decide (b < a) else decide (b ≤ a)
/-- An operand that is out of range. -/
def ofR (K v : Int) : Bool := if K = 1 then !decide (v = 0) && !decide (v = 1) else if K = 3 then false else !inW v
def trE (b : Bool) : Int := if b then 1 else 0
def appE (o : Int) (l : List Int) : Int × Int :=
 if grpE o = 0 then (0, 2) else if (l.length : Int) ≠ arE o then (0, 9) else if l.any (ofR (grpE o)) then (0, 14)
 else if grpE o = 2 then (cmpE o (l.getD 0 0) (l.getD (l.length - 1) 0), 0) else (trE (hldE o (l.getD 0 0) (l.getD (l.length - 1) 0)), 0)
theorem kf420 (r : Nat) : Ob.keep 420 r = Ob.k420 r := by kernel_rfl
theorem kf363 (r : Nat) : Ob.keep 363 r = Ob.k363 r := by kernel_rfl
theorem kf364 (r : Nat) : Ob.keep 364 r = Ob.k364 r := by kernel_rfl
theorem kf365 (r : Nat) : Ob.keep 365 r = Ob.k365 r := by kernel_rfl
theorem kf366 (r : Nat) : Ob.keep 366 r = Ob.k366 r := by kernel_rfl
theorem kf367 (r : Nat) : Ob.keep 367 r = Ob.k367 r := by kernel_rfl
theorem kf368 (r : Nat) : Ob.keep 368 r = Ob.k368 r := by kernel_rfl
theorem kf288 (r : Nat) : Ob.keep 288 r = Ob.k288 r := by kernel_rfl
theorem kf289 (r : Nat) : Ob.keep 289 r = Ob.k289 r := by kernel_rfl
theorem kf290 (r : Nat) : Ob.keep 290 r = Ob.k290 r := by kernel_rfl
theorem kf209 (r : Nat) : Ob.keep 209 r = Ob.k209 r := by kernel_rfl
attribute [local simp] kf420 Ob.k420 kf363 Ob.k363 kf364 Ob.k364 kf365 Ob.k365 kf366 Ob.k366 kf367 Ob.k367 kf368 Ob.k368 kf288 Ob.k288 kf289 Ob.k289 kf290 Ob.k290 kf209 Ob.k209
theorem wrap194 (n : Int) : den Tryz.prog Ob.cfg 420 [dI n] = some (dI (wr n)) := by
 refine den_wp Tryz.func420 rfl (by kernel_rfl) rfl rfl ?_
 refine wkc (jn @dI.eq_1 (jn @wr_i16 @wr_i64)) ?_
 show retQ _ _ _ _ _
 exact ⟨.inr rfl, _, _, rfl, rfl⟩
theorem neg177 (a : Int) : den Tryz.prog Ob.cfg 363 [dI a] = some (dI (wr (-wr a))) := by
 have h1 := wrap194
 have h2 := wr_in a
 have h3 : IntKind.i64.wrap (-wr a) = -wr a := by rw [w_id] <;> omega
 simp only [dI] at h1
 refine den_wp Tryz.func363 rfl (by kernel_rfl) rfl rfl ?_
 refine wkc (jn @dI.eq_1 (jn @h1 @h3)) ?_
 show retQ _ _ _ _ _
 exact ⟨.inr rfl, _, _, rfl, rfl⟩
theorem add178 (a b : Int) : den Tryz.prog Ob.cfg 364 [dI a, dI b] = some (dI (wr (wr a + wr b))) := by
 have h1 := wrap194
 have h2 := wr_in a
 have h4 := wr_in b
 have h3 : IntKind.i64.wrap (wr a + wr b) = wr a + wr b := by rw [w_id] <;> omega
 simp only [dI] at h1
 refine den_wp Tryz.func364 rfl (by kernel_rfl) rfl rfl ?_
 refine wkc (jn @dI.eq_1 (jn @h1 @h3)) ?_
 show retQ _ _ _ _ _
 exact ⟨.inr rfl, _, _, rfl, rfl⟩
theorem sub179 (a b : Int) : den Tryz.prog Ob.cfg 365 [dI a, dI b] = some (dI (wr (wr a - wr b))) := by
 have h1 := wrap194
 have h2 := wr_in a
 have h4 := wr_in b
 have h3 : IntKind.i64.wrap (wr a - wr b) = wr a - wr b := by rw [w_id] <;> omega
 simp only [dI] at h1
 refine den_wp Tryz.func365 rfl (by kernel_rfl) rfl rfl ?_
 refine wkc (jn @dI.eq_1 (jn @h1 @h3)) ?_
 show retQ _ _ _ _ _
 exact ⟨.inr rfl, _, _, rfl, rfl⟩
theorem mul_in (a b : Int) : -1073741824 ≤ wr a * wr b ∧ wr a * wr b ≤ 1073741824 := by
 have h2 := wr_in a
 have h4 := wr_in b
 generalize wr a = x at *
 generalize wr b = y at *
 have h5 : x.natAbs * y.natAbs ≤ 32768 * 32768 := Nat.mul_le_mul (by omega) (by omega)
 rw [← Int.natAbs_mul] at h5
 generalize x * y = z at *
 omega
theorem mul180 (a b : Int) : den Tryz.prog Ob.cfg 366 [dI a, dI b] = some (dI (wr (wr a * wr b))) := by
 have h1 := wrap194
 have h2 := mul_in a b
 have h3 : IntKind.i64.wrap (wr a * wr b) = wr a * wr b := by rw [w_id] <;> omega
 simp only [dI] at h1
 refine den_wp Tryz.func366 rfl (by kernel_rfl) rfl rfl ?_
 refine wkc (jn @dI.eq_1 (jn @h1 @h3)) ?_
 show retQ _ _ _ _ _
 exact ⟨.inr rfl, _, _, rfl, rfl⟩
theorem tdiv_in (a b : Int) : -32768 ≤ (wr a).tdiv (wr b) ∧ (wr a).tdiv (wr b) ≤ 32768 := by
 have h2 := wr_in a
 have := Int.natAbs_tdiv (wr a) (wr b)
 have h3 : (wr a).natAbs / (wr b).natAbs ≤ (wr a).natAbs := Nat.div_le_self ..
 replace h3 : ((wr a).tdiv (wr b)).natAbs ≤ (wr a).natAbs := by rw [this]; exact h3
 clear this
 generalize (wr a).tdiv (wr b) = z at *
 omega
theorem tmod_in (a b : Int) : -32768 ≤ (wr a).tmod (wr b) ∧ (wr a).tmod (wr b) ≤ 32767 := by
 have h2 := wr_in a
 have h3 : ((wr a).tmod (wr b)).natAbs ≤ (wr a).natAbs := by rw [Int.natAbs_tmod]; exact Nat.mod_le ..
 by_cases h : 0 ≤ wr a
 ·have h4 := Int.tmod_nonneg (wr b) h
  have e1 := Int.natAbs_of_nonneg h4
  have e2 := Int.natAbs_of_nonneg h
  omega
 ·have h4 : 0 ≤ (-wr a).tmod (wr b) := Int.tmod_nonneg (wr b) (by omega)
  rw [Int.neg_tmod] at h4
  have e1 := Int.ofNat_natAbs_of_nonpos (a := (wr a).tmod (wr b)) (by omega)
  have e2 := Int.ofNat_natAbs_of_nonpos (a := wr a) (by omega)
  omega
theorem div181 (a b : Int) : den Tryz.prog Ob.cfg 367 [dI a, dI b] = some (dI (divE a b)) := by
 have h1 := wrap194
 have h2 := tdiv_in a b
 have h3 : IntKind.i64.wrap ((wr a).tdiv (wr b)) = (wr a).tdiv (wr b) := by rw [w_id] <;> omega
 simp only [dI] at h1
 refine den_wp Tryz.func367 rfl (by kernel_rfl) rfl rfl ?_
 unfold divE
 by_cases q : wr b = 0
 ·rw [if_pos q]
  refine wkc (jn @dI.eq_1 (jn @h1 (jn @int_beq @q))) ?_
  show retQ _ _ _ _ _
  exact ⟨.inr rfl, _, _, rfl, rfl⟩
 ·rw [if_neg q]
  have q' := eq_false q
  refine wkc (jn @dI.eq_1 (jn @h1 (jn @int_beq (jn @q' @h3)))) ?_
  show retQ _ _ _ _ _
  exact ⟨.inr rfl, _, _, rfl, rfl⟩
theorem mod182 (a b : Int) : den Tryz.prog Ob.cfg 368 [dI a, dI b] = some (dI (modE a b)) := by
 have h1 := wrap194
 have h2 := tmod_in a b
 have h3 : IntKind.i64.wrap ((wr a).tmod (wr b)) = (wr a).tmod (wr b) := by rw [w_id] <;> omega
 simp only [dI] at h1
 refine den_wp Tryz.func368 rfl (by kernel_rfl) rfl rfl ?_
 unfold modE
 by_cases q : wr b = 0
 ·rw [if_pos q]
  refine wkc (jn @dI.eq_1 (jn @h1 (jn @int_beq @q))) ?_
  show retQ _ _ _ _ _
  exact ⟨.inr rfl, _, _, rfl, rfl⟩
 ·rw [if_neg q]
  have q' := eq_false q
  refine wkc (jn @dI.eq_1 (jn @h1 (jn @int_beq (jn @q' @h3)))) ?_
  show retQ _ _ _ _ _
  exact ⟨.inr rfl, _, _, rfl, rfl⟩
theorem truth164 (b : Bool) : den Tryz.prog Ob.cfg 289 [dB b] = some (dI (trE b)) := by
 refine den_wp Tryz.func289 rfl (by kernel_rfl) rfl rfl ?_
 cases b
 ·rw [show trE false = 0 from rfl]
  refine wkc (jn @dI.eq_1 @dB.eq_1) ?_
  show retQ _ _ _ _ _
  exact ⟨.inr rfl, _, _, rfl, rfl⟩
 ·rw [show trE true = 1 from rfl]
  refine wkc (jn @dI.eq_1 @dB.eq_1) ?_
  show retQ _ _ _ _ _
  exact ⟨.inr rfl, _, _, rfl, rfl⟩
theorem compute163 (o a b : Int) : den Tryz.prog Ob.cfg 288 [dI o, dI a, dI b] = some (dI (cmpE o a b)) := by
 have a1 := neg177
 have a2 := add178
 have a3 := sub179
 have a4 := mul180
 have a5 := div181
 have a6 := mod182
 simp only [dI] at a1 a2 a3 a4 a5 a6
 refine den_wp Tryz.func288 rfl (by kernel_rfl) rfl rfl ?_
 by_cases q2 : o = 2
 ·subst q2; rw [show cmpE 2 a b = wr (-wr a) from rfl]
  refine wkc (jn @dI.eq_1 (jn @int_beq @a1)) ?_
  show retQ _ _ _ _ _
  exact ⟨.inr rfl, _, _, rfl, rfl⟩
 have r2 := eq_false q2
 by_cases q6 : o = 6
 ·subst q6; rw [show cmpE 6 a b = wr (wr a + wr b) from rfl]
  refine wkc (jn @dI.eq_1 (jn @int_beq @a2)) ?_
  show retQ _ _ _ _ _
  exact ⟨.inr rfl, _, _, rfl, rfl⟩
 have r6 := eq_false q6
 by_cases q7 : o = 7
 ·subst q7; rw [show cmpE 7 a b = wr (wr a - wr b) from rfl]
  refine wkc (jn @dI.eq_1 (jn @int_beq @a3)) ?_
  show retQ _ _ _ _ _
  exact ⟨.inr rfl, _, _, rfl, rfl⟩
 have r7 := eq_false q7
 by_cases q8 : o = 8
 ·subst q8; rw [show cmpE 8 a b = wr (wr a * wr b) from rfl]
  refine wkc (jn @dI.eq_1 (jn @int_beq @a4)) ?_
  show retQ _ _ _ _ _
  exact ⟨.inr rfl, _, _, rfl, rfl⟩
 have r8 := eq_false q8
 by_cases q9 : o = 9
 ·subst q9; rw [show cmpE 9 a b = divE a b from rfl]
  refine wkc (jn @dI.eq_1 (jn @int_beq @a5)) ?_
  show retQ _ _ _ _ _
  exact ⟨.inr rfl, _, _, rfl, rfl⟩
 have r9 := eq_false q9
 rw [show cmpE o a b = modE a b by unfold cmpE; rw [if_neg q2, if_neg q6, if_neg q7, if_neg q8, if_neg q9]]
 refine wkc (jn @dI.eq_1 (jn @int_beq (jn @r2 (jn @r6 (jn @r7 (jn @r8 (jn @r9 @a6))))))) ?_
 show retQ _ _ _ _ _
 exact ⟨.inr rfl, _, _, rfl, rfl⟩
theorem holds165 (o a b : Int) : den Tryz.prog Ob.cfg 290 [dI o, dI a, dI b] = some (dB (hldE o a b)) := by
 refine den_wp Tryz.func290 rfl (by kernel_rfl) rfl rfl ?_
 by_cases q1 : o = 1
 ·subst q1; rw [show hldE 1 a b = (decide (a = 0)) from rfl]
  refine wkc (jn @dI.eq_1 (jn @dB.eq_1 (jn @int_beq @int_bne))) ?_
  exact ⟨.inr rfl, _, _, rfl, by rfl⟩
 have r1 := eq_false q1
 by_cases q3 : o = 3
 ·subst q3; rw [show hldE 3 a b = ((decide (a = 1) && decide (b = 1))) from rfl]
  by_cases u : a = 1
  ·subst u
   refine wkc (jn @dI.eq_1 (jn @dB.eq_1 (jn @int_beq @int_bne))) ?_
   show retQ _ _ _ _ _
   exact ⟨.inr rfl, _, _, rfl, rfl⟩
  ·have u' := eq_false u
   rw [show (decide (a = 1) && decide (b = 1)) = false by simp [u]]
   refine wkc (jn @dI.eq_1 (jn @dB.eq_1 (jn @int_beq (jn @int_bne @u')))) ?_
   exact ⟨.inr rfl, _, _, rfl, by rfl⟩
 have r3 := eq_false q3
 by_cases q4 : o = 4
 ·subst q4; rw [show hldE 4 a b = ((decide (a = 1) || decide (b = 1))) from rfl]
  by_cases u : a = 1
  ·subst u
   refine wkc (jn @dI.eq_1 (jn @dB.eq_1 (jn @int_beq @int_bne))) ?_
   show retQ _ _ _ _ _
   exact ⟨.inr rfl, _, _, rfl, rfl⟩
  ·have u' := eq_false u
   rw [show (decide (a = 1) || decide (b = 1)) = decide (b = 1) by simp [u]]
   refine wkc (jn @dI.eq_1 (jn @dB.eq_1 (jn @int_beq (jn @int_bne @u')))) ?_
   exact ⟨.inr rfl, _, _, rfl, by rfl⟩
 have r4 := eq_false q4
 by_cases q11 : o = 11
 ·subst q11; rw [show hldE 11 a b = (decide (a = b)) from rfl]
  refine wkc (jn @dI.eq_1 (jn @dB.eq_1 (jn @int_beq @int_bne))) ?_
  exact ⟨.inr rfl, _, _, rfl, by rfl⟩
 have r11 := eq_false q11
 by_cases q5 : o = 5
 ·subst q5; rw [show hldE 5 a b = (!decide (a = b)) from rfl]
  refine wkc (jn @dI.eq_1 (jn @dB.eq_1 (jn @int_beq @int_bne))) ?_
  exact ⟨.inr rfl, _, _, rfl, by rfl⟩
 have r5 := eq_false q5
 by_cases q12 : o = 12
 ·subst q12; rw [show hldE 12 a b = (!decide (a = b)) from rfl]
  refine wkc (jn @dI.eq_1 (jn @dB.eq_1 (jn @int_beq @int_bne))) ?_
  exact ⟨.inr rfl, _, _, rfl, by rfl⟩
 have r12 := eq_false q12
 by_cases q13 : o = 13
 ·subst q13; rw [show hldE 13 a b = (decide (a < b)) from rfl]
  refine wkc (jn @dI.eq_1 (jn @dB.eq_1 (jn @int_beq @int_bne))) ?_
  exact ⟨.inr rfl, _, _, rfl, by rfl⟩
 have r13 := eq_false q13
 by_cases q14 : o = 14
 ·subst q14; rw [show hldE 14 a b = (decide (a ≤ b)) from rfl]
  refine wkc (jn @dI.eq_1 (jn @dB.eq_1 (jn @int_beq @int_bne))) ?_
  exact ⟨.inr rfl, _, _, rfl, by rfl⟩
 have r14 := eq_false q14
 by_cases q15 : o = 15
 ·subst q15; rw [show hldE 15 a b = (decide (b < a)) from rfl]
  refine wkc (jn @dI.eq_1 (jn @dB.eq_1 (jn @int_beq @int_bne))) ?_
  exact ⟨.inr rfl, _, _, rfl, by rfl⟩
 have r15 := eq_false q15
 rw [show hldE o a b = decide (b ≤ a) by unfold hldE; rw [if_neg q1, if_neg q3, if_neg q4, if_neg q11, if_neg (by omega), if_neg q13, if_neg q14, if_neg q15]]
 refine wkc (jn @dI.eq_1 (jn @dB.eq_1 (jn @int_beq (jn @int_bne (jn @r1 (jn @r3 (jn @r4 (jn @r11 (jn @r5 (jn @r12 (jn @r13 (jn @r14 @r15)))))))))))) ?_
 exact ⟨.inr rfl, _, _, rfl, by rfl⟩
set_option maxHeartbeats 2000000 in
theorem app_1 (o : Int) (l : List Int) (hl : (l.length : Int) = arE o) (hK : grpE o = 1) : den Tryz.prog Ob.cfg 209 [dI o, dL (encI l)] = some (.tuple [dI (appE o l).1, dI (appE o l).2]) := by
 have a1 := group162 o
 have a2 := in38
 have a3 := compute163
 have a4 := holds165
 have a5 := truth164
 have har := arE_le o
 have c0 : arE o ≠ 0 := by intro h; simp [grpE, h] at hK
 have hp : 0 < l.length := by have := arE_nn o; omega
 rw [hK] at a1
 have hap : appE o l = if l.any (ofR 1) then (0, 14) else if (1 : Int) = 2 then (cmpE o (l.getD 0 0) (l.getD (l.length - 1) 0), 0) else (trE (hldE o (l.getD 0 0) (l.getD (l.length - 1) 0)), 0) := by
  unfold appE; rw [hK, if_neg (by omega), if_neg (by omega)]
 rw [hap]
 simp only [dI, dB] at a1 a2 a3 a4 a5
 have c2' := eq_true hl
 have hl1 : idx 0 l.length = some 0 := by unfold idx; rw [if_pos ⟨by omega, by omega⟩]; rfl
 have e0 : (encI l)[0]? = some [.int .i64 (l.getD 0 0)] := encI_at (by rw [List.getD_eq_getElem?_getD, List.getElem?_eq_getElem hp]; rfl)
 have hw1 : IntKind.i64.wrap (arE o - 1) = arE o - 1 := by have := arE_nn o; rw [w_id] <;> omega
 have hl2 : idx (arE o - 1) l.length = some (l.length - 1) := by
  unfold idx
  rw [if_pos ⟨by omega, by omega⟩]
  congr 1; omega
 have e1 : (encI l)[l.length - 1]? = some [.int .i64 (l.getD (l.length - 1) 0)] := encI_at (by rw [List.getD_eq_getElem?_getD, List.getElem?_eq_getElem (by omega)]; rfl)
 refine den_wp Tryz.func209 rfl (by kernel_rfl) rfl rfl ?_
 refine wkc (jn @dI.eq_1 (jn @dL.eq_1 (jn @a1 (jn @c2' (jn @int_beq (jn @int_bne @encI_len)))))) ?_
 apply WP.loop' (I := fun D s => ∃ j : Nat, j + D = l.length ∧ (l.take j).all (fun d => !ofR 1 d) = true ∧ SE [(0, dI o), (1, dL (encI l)), (6, dI 1), (7, dI (arE o)), (25, dL (encI l)), (26, dI l.length), (27, dI j)] [] 0 s) (d := l.length)
 ·exact ⟨0, by simp, by simp, SE.mk (by simp [dI, dL]) rfl⟩
 rintro D _ ⟨j, hj, hno, cc, rfl⟩
 refine wk (jn @dI.eq_1 (jn @dL.eq_1 @encI_len)) ?_
 show WP _ _ _ _ _ _
 refine WP.cond _ rfl (fun hb => ?_) (fun hb => ?_)
 ·simp at hb
  have hb' : j < l.length := by omega
  obtain ⟨d, hd, hdm, hix⟩ := at_lt hb'
  have hd' := encI_at hd
  have hw := w_succ hb' (by omega)
  have hs := all_snoc (p := fun d => !ofR 1 d) hd
  by_cases u0 : d = 0
  ·have hbd : ofR 1 d = false := by simp [ofR, u0]
   refine wkc (jn @dI.eq_1 (jn @dL.eq_1 (jn @encI_len (jn @hix (jn @hd' (jn @int_beq (jn @int_bne (jn @a2 @u0)))))))) ?_
   refine loop_next (by simp [hw]; exact Is.rfl) ?_
   exact ⟨D - 1, by omega, j + 1, by omega, by rw [hs, hno, hbd]; rfl, SE.mk (by simp [dI, dL, hw]) rfl⟩
  have u0' := eq_false u0
  by_cases u1 : d = 1
  ·have hbd : ofR 1 d = false := by simp [ofR, u1]
   refine wkc (jn @dI.eq_1 (jn @dL.eq_1 (jn @encI_len (jn @hix (jn @hd' (jn @int_beq (jn @int_bne (jn @a2 @u1)))))))) ?_
   refine loop_next (by simp [hw]; exact Is.rfl) ?_
   exact ⟨D - 1, by omega, j + 1, by omega, by rw [hs, hno, hbd]; rfl, SE.mk (by simp [dI, dL, hw]) rfl⟩
  have u1' := eq_false u1
  have hbd : ofR 1 d = true := by simp [ofR, u0, u1]
  have ha : l.any (ofR 1) = true := List.any_eq_true.2 ⟨d, hdm, hbd⟩
  rw [ha]
  refine wkc (jn @dI.eq_1 (jn @dL.eq_1 (jn @encI_len (jn @hix (jn @hd' (jn @int_beq (jn @int_bne (jn @a2 (jn @u0' @u1'))))))))) ?_
  show retQ _ _ _ _ _
  exact ⟨.inr rfl, _, _, rfl, rfl⟩
 ·simp at hb
  have hje : j = l.length := by omega
  rw [hje, List.take_length] at hno
  have ha : l.any (ofR 1) = false := by
   rw [List.any_eq_false]; intro t ht; simpa using List.all_eq_true.1 hno t ht
  rw [ha]
  refine wkc (jn @dI.eq_1 (jn @dL.eq_1 (jn @encI_len (jn @hl1 (jn @e0 (jn @hw1 (jn @hl2 (jn @e1 (jn @int_beq (jn @int_bne (jn @a3 (jn @a4 @a5)))))))))))) ?_
  show retQ _ _ _ _ _
  exact ⟨.inr rfl, _, _, rfl, rfl⟩
set_option maxHeartbeats 2000000 in
theorem app_2 (o : Int) (l : List Int) (hl : (l.length : Int) = arE o) (hK : grpE o = 2) : den Tryz.prog Ob.cfg 209 [dI o, dL (encI l)] = some (.tuple [dI (appE o l).1, dI (appE o l).2]) := by
 have a1 := group162 o
 have a2 := in38
 have a3 := compute163
 have a4 := holds165
 have a5 := truth164
 have har := arE_le o
 have c0 : arE o ≠ 0 := by intro h; simp [grpE, h] at hK
 have hp : 0 < l.length := by have := arE_nn o; omega
 rw [hK] at a1
 have hap : appE o l = if l.any (ofR 2) then (0, 14) else if (2 : Int) = 2 then (cmpE o (l.getD 0 0) (l.getD (l.length - 1) 0), 0) else (trE (hldE o (l.getD 0 0) (l.getD (l.length - 1) 0)), 0) := by
  unfold appE; rw [hK, if_neg (by omega), if_neg (by omega)]
 rw [hap]
 simp only [dI, dB] at a1 a2 a3 a4 a5
 have c2' := eq_true hl
 have hl1 : idx 0 l.length = some 0 := by unfold idx; rw [if_pos ⟨by omega, by omega⟩]; rfl
 have e0 : (encI l)[0]? = some [.int .i64 (l.getD 0 0)] := encI_at (by rw [List.getD_eq_getElem?_getD, List.getElem?_eq_getElem hp]; rfl)
 have hw1 : IntKind.i64.wrap (arE o - 1) = arE o - 1 := by have := arE_nn o; rw [w_id] <;> omega
 have hl2 : idx (arE o - 1) l.length = some (l.length - 1) := by
  unfold idx
  rw [if_pos ⟨by omega, by omega⟩]
  congr 1; omega
 have e1 : (encI l)[l.length - 1]? = some [.int .i64 (l.getD (l.length - 1) 0)] := encI_at (by rw [List.getD_eq_getElem?_getD, List.getElem?_eq_getElem (by omega)]; rfl)
 refine den_wp Tryz.func209 rfl (by kernel_rfl) rfl rfl ?_
 refine wkc (jn @dI.eq_1 (jn @dL.eq_1 (jn @a1 (jn @c2' (jn @int_beq (jn @int_bne @encI_len)))))) ?_
 apply WP.loop' (I := fun D s => ∃ j : Nat, j + D = l.length ∧ (l.take j).all (fun d => !ofR 2 d) = true ∧ SE [(0, dI o), (1, dL (encI l)), (6, dI 2), (7, dI (arE o)), (25, dL (encI l)), (26, dI l.length), (27, dI j)] [] 0 s) (d := l.length)
 ·exact ⟨0, by simp, by simp, SE.mk (by simp [dI, dL]) rfl⟩
 rintro D _ ⟨j, hj, hno, cc, rfl⟩
 refine wk (jn @dI.eq_1 (jn @dL.eq_1 @encI_len)) ?_
 show WP _ _ _ _ _ _
 refine WP.cond _ rfl (fun hb => ?_) (fun hb => ?_)
 ·simp at hb
  have hb' : j < l.length := by omega
  obtain ⟨d, hd, hdm, hix⟩ := at_lt hb'
  have hd' := encI_at hd
  have hw := w_succ hb' (by omega)
  have hs := all_snoc (p := fun d => !ofR 2 d) hd
  cases u : inW d
  ·have hbd : ofR 2 d = true := by simp [ofR, u]
   have ha : l.any (ofR 2) = true := List.any_eq_true.2 ⟨d, hdm, hbd⟩
   rw [ha]
   refine wkc (jn @dI.eq_1 (jn @dL.eq_1 (jn @encI_len (jn @hix (jn @hd' (jn @int_beq (jn @int_bne (jn @a2 @u)))))))) ?_
   show retQ _ _ _ _ _
   exact ⟨.inr rfl, _, _, rfl, rfl⟩
  ·have hbd : ofR 2 d = false := by simp [ofR, u]
   refine wkc (jn @dI.eq_1 (jn @dL.eq_1 (jn @encI_len (jn @hix (jn @hd' (jn @int_beq (jn @int_bne (jn @a2 @u)))))))) ?_
   refine loop_next (by simp [hw]; exact Is.rfl) ?_
   exact ⟨D - 1, by omega, j + 1, by omega, by rw [hs, hno, hbd]; rfl, SE.mk (by simp [dI, dL, hw]) rfl⟩
 ·simp at hb
  have hje : j = l.length := by omega
  rw [hje, List.take_length] at hno
  have ha : l.any (ofR 2) = false := by
   rw [List.any_eq_false]; intro t ht; simpa using List.all_eq_true.1 hno t ht
  rw [ha]
  refine wkc (jn @dI.eq_1 (jn @dL.eq_1 (jn @encI_len (jn @hl1 (jn @e0 (jn @hw1 (jn @hl2 (jn @e1 (jn @int_beq (jn @int_bne (jn @a3 (jn @a4 @a5)))))))))))) ?_
  show retQ _ _ _ _ _
  exact ⟨.inr rfl, _, _, rfl, rfl⟩
set_option maxHeartbeats 2000000 in
theorem app_3 (o : Int) (l : List Int) (hl : (l.length : Int) = arE o) (hK : grpE o = 3) : den Tryz.prog Ob.cfg 209 [dI o, dL (encI l)] = some (.tuple [dI (appE o l).1, dI (appE o l).2]) := by
 have a1 := group162 o
 have a2 := in38
 have a3 := compute163
 have a4 := holds165
 have a5 := truth164
 have har := arE_le o
 have c0 : arE o ≠ 0 := by intro h; simp [grpE, h] at hK
 have hp : 0 < l.length := by have := arE_nn o; omega
 rw [hK] at a1
 have hap : appE o l = if l.any (ofR 3) then (0, 14) else if (3 : Int) = 2 then (cmpE o (l.getD 0 0) (l.getD (l.length - 1) 0), 0) else (trE (hldE o (l.getD 0 0) (l.getD (l.length - 1) 0)), 0) := by
  unfold appE; rw [hK, if_neg (by omega), if_neg (by omega)]
 rw [hap]
 simp only [dI, dB] at a1 a2 a3 a4 a5
 have c2' := eq_true hl
 have hl1 : idx 0 l.length = some 0 := by unfold idx; rw [if_pos ⟨by omega, by omega⟩]; rfl
 have e0 : (encI l)[0]? = some [.int .i64 (l.getD 0 0)] := encI_at (by rw [List.getD_eq_getElem?_getD, List.getElem?_eq_getElem hp]; rfl)
 have hw1 : IntKind.i64.wrap (arE o - 1) = arE o - 1 := by have := arE_nn o; rw [w_id] <;> omega
 have hl2 : idx (arE o - 1) l.length = some (l.length - 1) := by
  unfold idx
  rw [if_pos ⟨by omega, by omega⟩]
  congr 1; omega
 have e1 : (encI l)[l.length - 1]? = some [.int .i64 (l.getD (l.length - 1) 0)] := encI_at (by rw [List.getD_eq_getElem?_getD, List.getElem?_eq_getElem (by omega)]; rfl)
 refine den_wp Tryz.func209 rfl (by kernel_rfl) rfl rfl ?_
 refine wkc (jn @dI.eq_1 (jn @dL.eq_1 (jn @a1 (jn @c2' (jn @int_beq (jn @int_bne @encI_len)))))) ?_
 apply WP.loop' (I := fun D s => ∃ j : Nat, j + D = l.length ∧ (l.take j).all (fun d => !ofR 3 d) = true ∧ SE [(0, dI o), (1, dL (encI l)), (6, dI 3), (7, dI (arE o)), (25, dL (encI l)), (26, dI l.length), (27, dI j)] [] 0 s) (d := l.length)
 ·exact ⟨0, by simp, by simp, SE.mk (by simp [dI, dL]) rfl⟩
 rintro D _ ⟨j, hj, hno, cc, rfl⟩
 refine wk (jn @dI.eq_1 (jn @dL.eq_1 @encI_len)) ?_
 show WP _ _ _ _ _ _
 refine WP.cond _ rfl (fun hb => ?_) (fun hb => ?_)
 ·simp at hb
  have hb' : j < l.length := by omega
  obtain ⟨d, hd, hdm, hix⟩ := at_lt hb'
  have hd' := encI_at hd
  have hw := w_succ hb' (by omega)
  have hs := all_snoc (p := fun d => !ofR 3 d) hd
  have hbd : ofR 3 d = false := rfl
  refine wkc (jn @dI.eq_1 (jn @dL.eq_1 (jn @encI_len (jn @hix (jn @hd' (jn @int_beq (jn @int_bne @a2))))))) ?_
  refine loop_next (by simp [hw]; exact Is.rfl) ?_
  exact ⟨D - 1, by omega, j + 1, by omega, by rw [hs, hno, hbd]; rfl, SE.mk (by simp [dI, dL, hw]) rfl⟩
 ·simp at hb
  have hje : j = l.length := by omega
  rw [hje, List.take_length] at hno
  have ha : l.any (ofR 3) = false := by
   rw [List.any_eq_false]; intro t ht; simpa using List.all_eq_true.1 hno t ht
  rw [ha]
  refine wkc (jn @dI.eq_1 (jn @dL.eq_1 (jn @encI_len (jn @hl1 (jn @e0 (jn @hw1 (jn @hl2 (jn @e1 (jn @int_beq (jn @int_bne (jn @a3 (jn @a4 @a5)))))))))))) ?_
  show retQ _ _ _ _ _
  exact ⟨.inr rfl, _, _, rfl, rfl⟩
set_option maxHeartbeats 2000000 in
theorem app_4 (o : Int) (l : List Int) (hl : (l.length : Int) = arE o) (hK : grpE o = 4) : den Tryz.prog Ob.cfg 209 [dI o, dL (encI l)] = some (.tuple [dI (appE o l).1, dI (appE o l).2]) := by
 have a1 := group162 o
 have a2 := in38
 have a3 := compute163
 have a4 := holds165
 have a5 := truth164
 have har := arE_le o
 have c0 : arE o ≠ 0 := by intro h; simp [grpE, h] at hK
 have hp : 0 < l.length := by have := arE_nn o; omega
 rw [hK] at a1
 have hap : appE o l = if l.any (ofR 4) then (0, 14) else if (4 : Int) = 2 then (cmpE o (l.getD 0 0) (l.getD (l.length - 1) 0), 0) else (trE (hldE o (l.getD 0 0) (l.getD (l.length - 1) 0)), 0) := by
  unfold appE; rw [hK, if_neg (by omega), if_neg (by omega)]
 rw [hap]
 simp only [dI, dB] at a1 a2 a3 a4 a5
 have c2' := eq_true hl
 have hl1 : idx 0 l.length = some 0 := by unfold idx; rw [if_pos ⟨by omega, by omega⟩]; rfl
 have e0 : (encI l)[0]? = some [.int .i64 (l.getD 0 0)] := encI_at (by rw [List.getD_eq_getElem?_getD, List.getElem?_eq_getElem hp]; rfl)
 have hw1 : IntKind.i64.wrap (arE o - 1) = arE o - 1 := by have := arE_nn o; rw [w_id] <;> omega
 have hl2 : idx (arE o - 1) l.length = some (l.length - 1) := by
  unfold idx
  rw [if_pos ⟨by omega, by omega⟩]
  congr 1; omega
 have e1 : (encI l)[l.length - 1]? = some [.int .i64 (l.getD (l.length - 1) 0)] := encI_at (by rw [List.getD_eq_getElem?_getD, List.getElem?_eq_getElem (by omega)]; rfl)
 refine den_wp Tryz.func209 rfl (by kernel_rfl) rfl rfl ?_
 refine wkc (jn @dI.eq_1 (jn @dL.eq_1 (jn @a1 (jn @c2' (jn @int_beq (jn @int_bne @encI_len)))))) ?_
 apply WP.loop' (I := fun D s => ∃ j : Nat, j + D = l.length ∧ (l.take j).all (fun d => !ofR 4 d) = true ∧ SE [(0, dI o), (1, dL (encI l)), (6, dI 4), (7, dI (arE o)), (25, dL (encI l)), (26, dI l.length), (27, dI j)] [] 0 s) (d := l.length)
 ·exact ⟨0, by simp, by simp, SE.mk (by simp [dI, dL]) rfl⟩
 rintro D _ ⟨j, hj, hno, cc, rfl⟩
 refine wk (jn @dI.eq_1 (jn @dL.eq_1 @encI_len)) ?_
 show WP _ _ _ _ _ _
 refine WP.cond _ rfl (fun hb => ?_) (fun hb => ?_)
 ·simp at hb
  have hb' : j < l.length := by omega
  obtain ⟨d, hd, hdm, hix⟩ := at_lt hb'
  have hd' := encI_at hd
  have hw := w_succ hb' (by omega)
  have hs := all_snoc (p := fun d => !ofR 4 d) hd
  cases u : inW d
  ·have hbd : ofR 4 d = true := by simp [ofR, u]
   have ha : l.any (ofR 4) = true := List.any_eq_true.2 ⟨d, hdm, hbd⟩
   rw [ha]
   refine wkc (jn @dI.eq_1 (jn @dL.eq_1 (jn @encI_len (jn @hix (jn @hd' (jn @int_beq (jn @int_bne (jn @a2 @u)))))))) ?_
   show retQ _ _ _ _ _
   exact ⟨.inr rfl, _, _, rfl, rfl⟩
  ·have hbd : ofR 4 d = false := by simp [ofR, u]
   refine wkc (jn @dI.eq_1 (jn @dL.eq_1 (jn @encI_len (jn @hix (jn @hd' (jn @int_beq (jn @int_bne (jn @a2 @u)))))))) ?_
   refine loop_next (by simp [hw]; exact Is.rfl) ?_
   exact ⟨D - 1, by omega, j + 1, by omega, by rw [hs, hno, hbd]; rfl, SE.mk (by simp [dI, dL, hw]) rfl⟩
 ·simp at hb
  have hje : j = l.length := by omega
  rw [hje, List.take_length] at hno
  have ha : l.any (ofR 4) = false := by
   rw [List.any_eq_false]; intro t ht; simpa using List.all_eq_true.1 hno t ht
  rw [ha]
  refine wkc (jn @dI.eq_1 (jn @dL.eq_1 (jn @encI_len (jn @hl1 (jn @e0 (jn @hw1 (jn @hl2 (jn @e1 (jn @int_beq (jn @int_bne (jn @a3 (jn @a4 @a5)))))))))))) ?_
  show retQ _ _ _ _ _
  exact ⟨.inr rfl, _, _, rfl, rfl⟩
theorem apply148 (o : Int) (l : List Int) (hM : l.length ≤ MX) : den Tryz.prog Ob.cfg 209 [dI o, dL (encI l)] = some (.tuple [dI (appE o l).1, dI (appE o l).2]) := by
 by_cases hg : arE o = 0
 ·have a1 := group162 o
  have hK : grpE o = 0 := by unfold grpE; rw [if_pos hg]
  have hap : appE o l = (0, 2) := by unfold appE; rw [hK, if_pos rfl]
  rw [hK] at a1
  rw [hap]
  simp only [dI] at a1
  refine den_wp Tryz.func209 rfl (by kernel_rfl) rfl rfl ?_
  refine wkc (jn @dI.eq_1 (jn @dL.eq_1 (jn @a1 @int_beq))) ?_
  show retQ _ _ _ _ _
  exact ⟨.inr rfl, _, _, rfl, rfl⟩
 have hK : grpE o = 1 ∨ grpE o = 2 ∨ grpE o = 3 ∨ grpE o = 4 := by
  unfold grpE; rw [if_neg hg]
  cases booE o <;> cases ariE o <;> cases eqlE o <;> simp
 by_cases hl : (l.length : Int) = arE o
 ·rcases hK with h | h | h | h
  ·exact app_1 o l hl h
  ·exact app_2 o l hl h
  ·exact app_3 o l hl h
  ·exact app_4 o l hl h
 have a1 := group162 o
 have hap : appE o l = (0, 9) := by unfold appE; rw [if_neg (by omega), if_pos hl]
 rw [hap]
 have hl' := eq_false hl
 have hk' := eq_false (show ¬ grpE o = 0 by omega)
 simp only [dI] at a1
 refine den_wp Tryz.func209 rfl (by kernel_rfl) rfl rfl ?_
 refine wkc (jn @dI.eq_1 (jn @dL.eq_1 (jn @a1 (jn @int_beq (jn @int_bne (jn @hk' (jn @hl' @encI_len))))))) ?_
 show retQ _ _ _ _ _
 exact ⟨.inr rfl, _, _, rfl, rfl⟩
end Go.Ac
end

section
set_option maxRecDepth 4000
set_option linter.unusedSectionVars false
namespace Go.Ac
open Go.Proofs
variable [GwR]
attribute [local simp] Hp.get_set Ag_set Ag_refl Ag_trunc get_trunc_lt

theorem quietC_wp {f : FuncId} {fn : Func} {body : Code} {vs : List V} {v : V} {hp : Hp} {n c : Nat} (hf : Tryz.prog.funcs[f]? = some fn) (hb : fn.body = some body) (hok : (Nat.ble vs.length fn.ntmps && codeOK fn.ntmps body) = true)
  (hthr : Ob.cfg.thr f = false) (h : WP Tryz.prog Ob.cfg f body ⟨envOf 0 vs, hp, n, c, n, []⟩ (fun e t => (e = .normal ∨ e = .ret) ∧ t.wl = [] ∧ ∃ rs ids, resultsV Tryz.prog t fn.results.toList = some rs ∧ closeT t.hp.get (tup rs) = some (v, ids) ∧ (v.flat || ids.all (fun i => Nat.ble n i)) = true)) : QuietV Tryz.prog Ob.cfg f vs hp n c v := by
 obtain ⟨w, t, h1, h2⟩ := lim_wpD (Q := fun w t => w = v ∧ t.wl = []) hf hb hok hthr (h.mono fun e t ⟨he, hwl, rs, ids, a1, a2, a3⟩ => ⟨he, rs, v, ids, a1, a2, a3, rfl, hwl⟩)
 obtain ⟨rfl, hwl⟩ := h2
 rw [hwl] at h1
 exact ⟨_, _, h1⟩
theorem KG.ag {ic gc iv gv ip gp im gm ii gi : Nat} {o : Oc} {ea : List Cl} {c : Cl} {lv lm : List (Tx × Int)} {lp : List (Tx × Bool)} {li : List (Tx × Cl)} {hp hp' : Hp} {n n' : Nat} (h : KG ic gc iv gv ip gp im gm ii gi o ea c lv lp lm li hp n) (ha : Ag n hp hp') (hn : n ≤ n') : KG ic gc iv gv ip gp im gm ii gi o ea c lv lp lm li hp' n' := by
 obtain ⟨h1, h2, h3, h4, h5, l1, l2, l3, l4, l5⟩ := h
 rw [← ha _ l1] at h1
 rw [← ha _ l2] at h2
 rw [← ha _ l3] at h3
 rw [← ha _ l4] at h4
 rw [← ha _ l5] at h5
 exact ⟨h1, h2, h3, h4, h5, by omega, by omega, by omega, by omega, by omega⟩
section
variable {ic gc iv gv ip gp im gm ii gi : Nat} {o : Oc} {ea : List Cl} {c : Cl} {lv lm : List (Tx × Int)} {lp : List (Tx × Bool)} {li : List (Tx × Cl)}
end
end Go.Ac
end
