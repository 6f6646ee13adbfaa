/- Places of the program. -/
import Derived.Test.YtmjkclonkhempabGreatDoorEmMzM
set_option linter.unusedVariables false
set_option linter.unusedSimpArgs false
section
set_option maxRecDepth 4000
namespace Go.Ac
open Go.Proofs
def enBad (u : En) : Bool := decide (u.tags.length = 0) || decide (16 < u.tags.length)
def classW (o : Oc) (i : Nat) (c : Cl) : Int :=
 if headW o i c ≠ 0 then headW o i c
 else if listW o c [] [] c.step ≠ 0 then listW o c [] [] c.step
 else if c.out.any (fun d => !asL d.nm true [] c.step) = true then 22 else 0
def allW (o : Oc) : Nat → List Cl → Int
 | _, [] => 0
 | i, c :: r => if classW o i c ≠ 0 then classW o i c else allW o (i + 1) r
def checkRef (o : Oc) : Int := if 24 < o.en.length then 5 else if o.en.any enBad = true then 5 else allW o 0 o.cl
theorem I64.zero : I64 0 := by unfold I64; omega
theorem findD_i64 {l : List Dc} (h : ∀ d, d ∈ l → d.ok) (x : Tx) : I64 (findD l x) := by
 unfold findD
 split
 ·rename_i d hd; exact (h d (List.mem_of_find?_eq_some hd)).1
 ·exact I64.zero
theorem getT_i64 {c : Cl} (h : c.ok) (x : Tx) : I64 (getT c x) := by
 unfold getT setT
 split
 ·split
  ·exact findD_i64 h.loc x
  ·exact findD_i64 h.out x
 ·exact findD_i64 h.inn x
theorem kf15 (r : Nat) : Ob.keep 15 r = Ob.k15 r := by kernel_rfl
attribute [local simp] kf15 Ob.k15
set_option maxHeartbeats 8000000 in
theorem rcheck_den (o : Oc) (hsz : o.sz ≤ 2097152) (hok : o.ok) : den Tryz.prog Ob.cfg 15 [aG o.cells] = some (dI (checkRef o)) := by
 unfold Oc.sz at hsz
 have k1 := len_szE o.en
 have k2 := len_szC o.cl
 refine den_wp Tryz.func15 rfl (by kernel_rfl) rfl rfl ?_
 unfold checkRef
 by_cases c1 : 24 < o.en.length
 ·rw [if_pos c1]
  have c1' : ((24 : Int) < o.en.length) = True := eq_true (by omega)
  have c1'' := eq_true c1
  refine wkc (jn @aG.eq_1 (jn @Oc.cells.eq_1 (jn @dI.eq_1 (jn @dL.eq_1 (jn @c1' @c1''))))) ?_
  show retQ _ _ _ _ _
  exact ⟨.inr rfl, _, _, rfl, rfl⟩
 rw [if_neg c1]
 have c1' : ((24 : Int) < o.en.length) = False := eq_false (by omega)
 have c1'' := eq_false c1
 refine wkc (jn @aG.eq_1 (jn @Oc.cells.eq_1 (jn @dI.eq_1 (jn @dL.eq_1 (jn @c1' @c1''))))) ?_
 apply WP.loop' (I := fun D s => ∃ k : Nat, k + D = o.en.length ∧ (o.en.take k).all (fun u => !enBad u) = true ∧ SE [(1, .ptr 0 0 0), (3, dI k)] [(0, ⟨0, false, o.cells.map .d⟩)] 1 s) (d := o.en.length)
 ·exact ⟨0, by simp, by simp, SE.mk (by simp [dI]) (by simp [Oc.cells])⟩
 rintro D _ ⟨k, hk, hno, cc, rfl⟩
 refine wk (jn @dI.eq_1 (jn @dL.eq_1 @Oc.cells.eq_1)) ?_
 show WP _ _ _ _ _ _
 refine WP.cond _ rfl (fun hb => ?_) (fun hb => ?_)
 ·simp at hb
  have hb' : k < o.en.length := by omega
  obtain ⟨d, hd, hdm, hix⟩ := at_lt hb'
  have hd' := encE_at hd
  have hwk := w_succ hb' (by omega)
  have hs := all_snoc (p := fun u => !enBad u) hd
  by_cases e1 : d.tags = []
  ·rw [if_pos (List.any_eq_true.2 ⟨d, hdm, by simp [enBad, e1]⟩)]
   refine wkc (jn @dI.eq_1 (jn @dL.eq_1 (jn @Oc.cells.eq_1 (jn @hix (jn @hd' (jn @En.cells.eq_1 (jn @encS_len (jn @len0 @e1)))))))) ?_
   show retQ _ _ _ _ _
   exact ⟨.inr rfl, _, _, rfl, rfl⟩
  by_cases e2 : 16 < d.tags.length
  ·have e2' : ((16 : Int) < d.tags.length) = True := eq_true (by omega)
   have e2'' := eq_true e2
   rw [if_pos (List.any_eq_true.2 ⟨d, hdm, by simp [enBad, e2]⟩)]
   refine wkc (jn @dI.eq_1 (jn @dL.eq_1 (jn @Oc.cells.eq_1 (jn @hix (jn @hd' (jn @En.cells.eq_1 (jn @encS_len (jn @len0 (jn @int_beq (jn @e1 (jn @e2' @e2''))))))))))) ?_
   show retQ _ _ _ _ _
   exact ⟨.inr rfl, _, _, rfl, rfl⟩
  ·have e2' : ((16 : Int) < d.tags.length) = False := eq_false (by omega)
   have e2'' := eq_false e2
   have hbd : enBad d = false := by unfold enBad; rw [dFalse e2]; simpa using e1
   rw [hbd] at hs
   refine wkc (jn @dI.eq_1 (jn @dL.eq_1 (jn @Oc.cells.eq_1 (jn @hix (jn @hd' (jn @En.cells.eq_1 (jn @encS_len (jn @len0 (jn @int_beq (jn @e1 (jn @e2' @e2''))))))))))) ?_
   refine loop_next (by simp [hwk]; exact Is.rfl) ?_
   exact ⟨D - 1, by omega, k + 1, by omega, by rw [hs, hno]; rfl, SE.mk (by simp [dI, dL, hwk]) (by simp [Oc.cells])⟩
 simp at hb
 have hke : k = o.en.length := by omega
 rw [hke, List.take_length] at hno
 rw [if_neg (by rw [any_no (p := enBad) hno]; simp)]
 clear hno hke hb hk
 refine wkc (jn @dI.eq_1 (jn @dL.eq_1 @Oc.cells.eq_1)) ?_
 apply WP.loop' (I := fun D s => ∃ k : Nat, k + D = o.cl.length ∧ allW o k (o.cl.drop k) = allW o 0 o.cl ∧ SE [(1, .ptr 0 0 0), (4, dI k)] [(0, ⟨0, false, o.cells.map .d⟩)] 1 s) (d := o.cl.length)
 ·exact ⟨0, by simp, by simp, SE.mk (by simp [dI]) (by simp [Oc.cells])⟩
 rintro D _ ⟨k, hk, hv, cc, rfl⟩
 refine wk (jn @dI.eq_1 (jn @dL.eq_1 @Oc.cells.eq_1)) ?_
 show WP _ _ _ _ _ _
 refine WP.cond _ rfl (fun hb => ?_) (fun hb => ?_)
 ·simp at hb
  have hb' : k < o.cl.length := by omega
  obtain ⟨c, hc, hcm, hix⟩ := at_lt hb'
  have hc' := encC_at hc
  have hwk := w_succ hb' (by omega)
  have hcs := mem_szC hcm
  unfold Cl.sz at hcs
  have l1 := len_szD c.inn
  have l2 := len_szD c.out
  have l3 := len_szD c.loc
  have l4 := len_szM c.mems
  have l5 := len_szJ c.ins
  have hcok := hok c hcm
  have h31 := head31 o k c hc (by omega) ⟨by omega⟩ hcok
  have hW : WOK ⟨o, c, [], []⟩ := ⟨by simp only; unfold MX; omega, by simp only; unfold MX; omega, by simp only; unfold MX; omega, by simp only; unfold MX; omega, by simp only; unfold MX; omega, by simp only; unfold MX; omega, by simp [szY]⟩
  have h32 := list32 _ ⟨o, c, [], []⟩ c.step (Nat.lt_succ_self _) hW (fun nm => getT_i64 hcok nm) (by simp [szY]; omega) hcok.step
  have e0 : encY [] = [] := by rw [encY]
  have e1 : encP [] = [] := rfl
  simp only [aG, Oc.cells, Pl.cells, List.map_cons, List.map_nil, dI, dL, e0, e1] at h31 h32
  rw [drop_at hc, allW] at hv
  by_cases c2 : headW o k c = 0
  case neg =>
   have c2' := eq_false c2
   have hcw : classW o k c = headW o k c := by unfold classW; rw [if_pos c2]
   rw [hcw, if_pos c2] at hv
   rw [← hv]
   refine wkc (jn @dI.eq_1 (jn @dL.eq_1 (jn @Oc.cells.eq_1 (jn @h31 (jn @c2' @int_bne))))) ?_
   show retQ _ _ _ _ _
   exact ⟨.inr rfl, _, _, rfl, rfl⟩
  rw [c2] at h31
  by_cases c3 : listW o c [] [] c.step = 0
  case neg =>
   have c3' := eq_false c3
   have hcw : classW o k c = listW o c [] [] c.step := by unfold classW; rw [if_neg (by simp [c2]), if_pos c3]
   rw [hcw, if_pos c3] at hv
   rw [← hv]
   refine wkc (jn @dI.eq_1 (jn @dL.eq_1 (jn @Oc.cells.eq_1 (jn @h31 (jn @hix (jn @hc' (jn @Cl.cells.eq_1 (jn @fillV.eq_1 (jn @fillV.eq_2 (jn @closeParts.eq_1 (jn @closeParts.eq_2 (jn @toD_d (jn @toD_full (jn @h32 (jn @c3' @int_bne))))))))))))))) ?_
   show retQ _ _ _ _ _
   exact ⟨.inr rfl, _, _, rfl, rfl⟩
  rw [c3] at h32
  have hcw : classW o k c = if c.out.any (fun d => !asL d.nm true [] c.step) = true then 22 else 0 := by unfold classW; rw [if_neg (by simp [c2]), if_neg (by simp [c3])]
  refine wkc (jn @dI.eq_1 (jn @dL.eq_1 (jn @Oc.cells.eq_1 (jn @h31 (jn @hix (jn @hc' (jn @Cl.cells.eq_1 (jn @fillV.eq_1 (jn @fillV.eq_2 (jn @closeParts.eq_1 (jn @closeParts.eq_2 (jn @toD_d (jn @toD_full (jn @h32 @int_bne)))))))))))))) ?_
  apply WP.loop' (I := fun D s => ∃ q : Nat, q + D = c.out.length ∧ (c.out.take q).all (fun d => !(!asL d.nm true [] c.step)) = true ∧ SE [(1, .ptr 0 0 0), (4, dI k), (6, .ptr 1 cc 0), (8, dI q)] [(0, ⟨0, false, o.cells.map .d⟩), (1, ⟨cc, false, c.cells.map .d⟩), (2, ⟨cc + 1, false, o.cells.map .d ++ c.cells.map .d ++ [.full [], .full []]⟩)] 3 s) (d := c.out.length)
  ·exact ⟨0, by simp, by simp, SE.mk (by simp [dI]) (by simp [Oc.cells, Cl.cells])⟩
  rintro D2 _ ⟨q, hq, hno, cc2, rfl⟩
  refine wk (jn @dI.eq_1 (jn @dL.eq_1 (jn @Oc.cells.eq_1 @Cl.cells.eq_1))) ?_
  show WP _ _ _ _ _ _
  refine WP.cond _ rfl (fun hb => ?_) (fun hb => ?_)
  ·simp at hb
   have hb' : q < c.out.length := by omega
   obtain ⟨d, hd, hdm, hixd⟩ := at_lt hb'
   have hd' := encD_at hd
   have hwq := w_succ hb' (by omega)
   have hs := all_snoc (p := fun d : Dc => !(!asL d.nm true [] c.step)) hd
   have h33 := some33z d.nm true c.step (by omega)
   simp only [dI, dL, dS, dB, e1] at h33
   cases hz : asL d.nm true [] c.step with
   | false =>
    rw [hz] at h33
    rw [if_pos (List.any_eq_true.2 ⟨d, hdm, by rw [hz]; rfl⟩)] at hcw
    rw [hcw, if_pos (by decide)] at hv
    rw [← hv]
    refine wkc (jn @dI.eq_1 (jn @dL.eq_1 (jn @Oc.cells.eq_1 (jn @Cl.cells.eq_1 (jn @hixd (jn @hd' (jn @Dc.cells.eq_1 (jn @h33 (jn @fillV.eq_1 (jn @fillV.eq_2 (jn @closeParts.eq_1 (jn @closeParts.eq_2 (jn @toD_d @toD_full))))))))))))) ?_
    show retQ _ _ _ _ _
    exact ⟨.inr rfl, _, _, rfl, rfl⟩
   | true =>
    rw [hz] at h33 hs
    refine wkc (jn @dI.eq_1 (jn @dL.eq_1 (jn @Oc.cells.eq_1 (jn @Cl.cells.eq_1 (jn @hixd (jn @hd' (jn @Dc.cells.eq_1 (jn @h33 (jn @fillV.eq_1 (jn @fillV.eq_2 (jn @closeParts.eq_1 (jn @closeParts.eq_2 (jn @toD_d @toD_full))))))))))))) ?_
    refine loop_next (by simp [hwq]; exact Is.rfl) ?_
    exact ⟨D2 - 1, by omega, q + 1, by omega, by rw [hs, hno]; rfl, SE.mk (by simp [dI, dL, hwq]) (by simp [Oc.cells, Cl.cells])⟩
  simp at hb
  have hqe : q = c.out.length := by omega
  rw [hqe, List.take_length] at hno
  rw [if_neg (by rw [any_no (p := fun d : Dc => !asL d.nm true [] c.step) hno]; simp)] at hcw
  rw [hcw, if_neg (by decide)] at hv
  refine wkc (jn @dI.eq_1 (jn @dL.eq_1 (jn @Oc.cells.eq_1 @Cl.cells.eq_1))) ?_
  refine loop_next (by simp [hwk]; exact Is.rfl) ?_
  exact ⟨D - 1, by omega, k + 1, by omega, hv, SE.mk (by simp [dI, dL, hwk]) (by simp [Oc.cells])⟩
 simp at hb
 have hke : k = o.cl.length := by omega
 rw [hke, List.drop_length, allW] at hv
 rw [← hv]
 refine wkc (jn @dI.eq_1 (jn @dL.eq_1 @Oc.cells.eq_1)) ?_
 show retQ _ _ _ _ _
 exact ⟨.inr rfl, _, _, rfl, rfl⟩
end Go.Ac
end

section
set_option maxRecDepth 4000
namespace Go.Ac
open Go.Proofs
/-- Memories that agree below a bound. -/
def Ag (n : Nat) (hp hp' : Hp) : Prop := ∀ id, id < n → hp'.get id = hp.get id
theorem Ag.refl (n : Nat) (hp : Hp) : Ag n hp hp := fun _ _ => rfl
theorem Ag.trunc {n : Nat} {hp hp' : Hp} (h : Ag n hp hp') : Ag n hp (Hp.trunc n hp') := fun id hi => (Hp.get_trunc hp' n id hi).trans (h id hi)
theorem Ag.set {n : Nat} {hp hp' : Hp} {o : Ob} (h : Ag n hp hp') : Ag n hp (hp'.set n o) := fun id hi => (Hp.get_set_ne hp' n id o (by omega)).trans (h id hi)
def SQ (e : Env) (hp : Hp) (n n0 : Nat) (s : St) : Prop := ∃ hp' c, Ag n hp hp' ∧ s = ⟨e, hp', n, c, n0, []⟩
/-- Where the first is; -1: nowhere. -/
def ixP {α : Type} (p : α → Bool) (l : List α) : Int := match l.findIdx? p with | some i => (i : Int) | none => -1
theorem ixP_some {α : Type} {p : α → Bool} : ∀ {l : List α} {i : Nat} {v : α}, (l.take i).all (fun v => !p v) = true → l[i]? = some v → p v = true → ixP p l = i := by
 intro l i v h hi hv
 have : l.findIdx? p = some i := by
  obtain ⟨hil, hiv⟩ := List.getElem?_eq_some_iff.1 hi
  rw [List.findIdx?_eq_some_iff_getElem]
  refine ⟨hil, by rw [hiv]; exact hv, fun j hj => ?_⟩
  have hj' : j < l.length := by omega
  have hm : l[j] ∈ l.take i := by rw [List.mem_take_iff_getElem]; exact ⟨j, by omega, rfl⟩
  have := List.all_eq_true.1 h _ hm
  simpa using this
 unfold ixP; rw [this]
theorem ixP_none {α : Type} {p : α → Bool} {l : List α} (h : l.all (fun v => !p v) = true) : ixP p l = -1 := by
 have h' : ∀ x, x ∈ l → p x = false := fun x hx => by simpa using List.all_eq_true.1 h x hx
 unfold ixP; rw [List.findIdx?_eq_none_iff.2 h']
theorem ixP_any {α : Type} (p : α → Bool) (l : List α) : decide (0 ≤ ixP p l) = l.any p := by
 unfold ixP
 cases h : l.findIdx? p with
 | some i =>
  have : l.any p = true := by
   obtain ⟨hil, hp, _⟩ := List.findIdx?_eq_some_iff_getElem.1 h
   exact List.any_eq_true.2 ⟨l[i], List.getElem_mem hil, hp⟩
  rw [this]; simp
 | none =>
  have : l.any p = false := by
   rw [List.any_eq_false]; intro x hx; rw [List.findIdx?_eq_none_iff.1 h x hx]; simp
  rw [this]; simp
mutual
/-- No case is without branches. -/
def nbY : Y → Bool
 | .mk k _ _ _ _ _ brs => (!decide (k = 3) || decide (brs ≠ [])) && nbB brs
def nbL : List Y → Bool
 | [] => true
 | y :: r => nbY y && nbL r
def nbB : List (List Y) → Bool
 | [] => true
 | b :: r => nbL b && nbB r
end
theorem nbY_eq (y : Y) : nbY y = ((!decide (y.k = 3) || decide (y.brs ≠ [])) && nbB y.brs) := by cases y; rw [nbY]; rfl
theorem nbL_all : ∀ l : List Y, nbL l = l.all nbY
 | [] => by rw [nbL]; rfl
 | x :: r => by rw [nbL, nbL_all r]; rfl
theorem nbB_all : ∀ l : List (List Y), nbB l = l.all nbL
 | [] => by rw [nbB]; rfl
 | x :: r => by rw [nbB, nbB_all r]; rfl

theorem kf126 (r : Nat) : Ob.keep 126 r = Ob.k126 r := by kernel_rfl
theorem kf113 (r : Nat) : Ob.keep 113 r = Ob.k113 r := by kernel_rfl
attribute [local simp] kf126 Ob.k126 kf113 Ob.k113
theorem index156 {i1 g1 i2 g2 i3 g3 : Nat} {p : Y → Bool} (l : List (Y)) (hl : l.length ≤ MX) (hp : Hp) (n : Nat) (hq : ∀ v, v ∈ l → ∀ hp' c, Ag n hp hp' → Quiet Tryz.prog Ob.cfg 114 [aG v.cells, .ptr i1 g1 0, .ptr i2 g2 0, .ptr i3 g3 0] hp' n c (.bool (p v))) (c : Nat) :
  Quiet Tryz.prog Ob.cfg 126 [dL (encY l), .fn 114 [.ptr i1 g1 0, .ptr i2 g2 0, .ptr i3 g3 0]] hp n c (.int .i64 (ixP p l)) := by
 unfold MX at hl
 refine quiet_wp Tryz.func126 rfl (by kernel_rfl) rfl ?_
 refine wkqn (jn @envOf.eq_1 (jn @envOf.eq_2 (jn @dL.eq_1 @encY_len))) ?_
 apply WP.loop' (I := fun d s => ∃ i : Nat, i + d = l.length ∧ (l.take i).all (fun v => !p v) = true ∧ SQ [(0, dL (encY l)), (1, .fn 114 [.ptr i1 g1 0, .ptr i2 g2 0, .ptr i3 g3 0]), (7, dI l.length), (8, dI i)] hp n n s) (d := l.length)
 ·exact ⟨0, by simp, by simp, _, _, Ag.refl n hp, st_eq (by simp [dL, dI]) rfl⟩
 rintro d _ ⟨i, hii, hno, hp', c1, hag, rfl⟩
 refine wkqn (jn @dI.eq_1 @dL.eq_1) ?_
 show WP _ _ _ _ _ _
 refine WP.cond _ rfl (fun hb => ?_) (fun hb => ?_)
 ·simp at hb
  have hb' : i < l.length := hb
  obtain ⟨v, hv, hvm, hix⟩ := at_lt hb'
  have hv' := encY_at hv
  have hw := w_succ hb' (by omega)
  have hts := all_snoc (p := fun v => !p v) hv
  obtain ⟨h5, h6, h4⟩ := Quiet.fn (fun c => hq v hvm hp' c hag)
  simp only [aG, dL, dI, Y.cells_eq, List.map_cons, List.map_nil] at h4
  refine wkqn (jn @hix (jn @hv' (jn @dL.eq_1 (jn @dI.eq_1 (jn @Y.cells_eq @h4))))) ?_
  show WP _ _ _ _ _ _
  refine WP.cond _ rfl (fun hb => ?_) (fun hb => ?_)
  ·refine wkqn True.intro ?_
   rw [ixP_some hno hv hb]
   exact ⟨.inr rfl, rfl, _, rfl, rfl⟩
  ·refine wkqn True.intro ?_
   refine loop_next (by simp [hw]; exact Is.rfl) ?_
   exact ⟨d - 1, by omega, i + 1, by omega, by rw [hts, hno]; simpa using hb, _, _, hag.trunc, st_eq (by simp [dI, dL, hw]) rfl⟩
 ·simp at hb
  have hil : i = l.length := by omega
  subst hil
  rw [List.take_length] at hno
  refine wkqn True.intro ?_
  rw [ixP_none hno]
  exact ⟨.inr rfl, rfl, _, rfl, rfl⟩
theorem contains139 {i1 g1 i2 g2 i3 g3 : Nat} {p : Y → Bool} (l : List (Y)) (hl : l.length ≤ MX) (hp : Hp) (n : Nat) (hq : ∀ v, v ∈ l → ∀ hp' c, Ag n hp hp' → Quiet Tryz.prog Ob.cfg 114 [aG v.cells, .ptr i1 g1 0, .ptr i2 g2 0, .ptr i3 g3 0] hp' n c (.bool (p v))) (c : Nat) :
  Quiet Tryz.prog Ob.cfg 113 [dL (encY l), .fn 114 [.ptr i1 g1 0, .ptr i2 g2 0, .ptr i3 g3 0]] hp n c (.bool (l.any p)) := by
 obtain ⟨h5, h6, h4⟩ := Quiet.fn (fun c => index156 (p := p) l hl hp n hq c)
 simp only [dL] at h4
 rw [← ixP_any]
 refine quiet_wp Tryz.func113 rfl (by kernel_rfl) rfl ?_
 refine wkqn (jn @envOf.eq_1 (jn @envOf.eq_2 (jn @dL.eq_1 @h4))) ?_
 exact ⟨.inr rfl, rfl, _, rfl, rfl⟩

theorem kf112 (r : Nat) : Ob.keep 112 r = Ob.k112 r := by kernel_rfl
theorem kf86 (r : Nat) : Ob.keep 86 r = Ob.k86 r := by kernel_rfl
attribute [local simp] kf112 Ob.k112 kf86 Ob.k86
theorem index138 {i1 g1 i2 g2 i3 g3 : Nat} {p : List Y → Bool} (l : List (List Y)) (hl : l.length ≤ MX) (hp : Hp) (n : Nat) (hq : ∀ v, v ∈ l → ∀ hp' c, Ag n hp hp' → Quiet Tryz.prog Ob.cfg 87 [dL (encY v), .ptr i1 g1 0, .ptr i2 g2 0, .ptr i3 g3 0] hp' n c (.bool (p v))) (c : Nat) :
  Quiet Tryz.prog Ob.cfg 112 [dL (encB l), .fn 87 [.ptr i1 g1 0, .ptr i2 g2 0, .ptr i3 g3 0]] hp n c (.int .i64 (ixP p l)) := by
 unfold MX at hl
 refine quiet_wp Tryz.func112 rfl (by kernel_rfl) rfl ?_
 refine wkqn (jn @envOf.eq_1 (jn @envOf.eq_2 (jn @dL.eq_1 @encB_len))) ?_
 apply WP.loop' (I := fun d s => ∃ i : Nat, i + d = l.length ∧ (l.take i).all (fun v => !p v) = true ∧ SQ [(0, dL (encB l)), (1, .fn 87 [.ptr i1 g1 0, .ptr i2 g2 0, .ptr i3 g3 0]), (7, dI l.length), (8, dI i)] hp n n s) (d := l.length)
 ·exact ⟨0, by simp, by simp, _, _, Ag.refl n hp, st_eq (by simp [dL, dI]) rfl⟩
 rintro d _ ⟨i, hii, hno, hp', c1, hag, rfl⟩
 refine wkqn (jn @dI.eq_1 @dL.eq_1) ?_
 show WP _ _ _ _ _ _
 refine WP.cond _ rfl (fun hb => ?_) (fun hb => ?_)
 ·simp at hb
  have hb' : i < l.length := hb
  obtain ⟨v, hv, hvm, hix⟩ := at_lt hb'
  have hv' := encB_at hv
  have hw := w_succ hb' (by omega)
  have hts := all_snoc (p := fun v => !p v) hv
  obtain ⟨h5, h6, h4⟩ := Quiet.fn (fun c => hq v hvm hp' c hag)
  simp only [aG, dL, dI, List.map_cons, List.map_nil] at h4
  refine wkqn (jn @hix (jn @hv' (jn @dL.eq_1 (jn @dI.eq_1 @h4)))) ?_
  show WP _ _ _ _ _ _
  refine WP.cond _ rfl (fun hb => ?_) (fun hb => ?_)
  ·refine wkqn True.intro ?_
   rw [ixP_some hno hv hb]
   exact ⟨.inr rfl, rfl, _, rfl, rfl⟩
  ·refine wkqn True.intro ?_
   refine loop_next (by simp [hw]; exact Is.rfl) ?_
   exact ⟨d - 1, by omega, i + 1, by omega, by rw [hts, hno]; simpa using hb, _, _, hag.trunc, st_eq (by simp [dI, dL, hw]) rfl⟩
 ·simp at hb
  have hil : i = l.length := by omega
  subst hil
  rw [List.take_length] at hno
  refine wkqn True.intro ?_
  rw [ixP_none hno]
  exact ⟨.inr rfl, rfl, _, rfl, rfl⟩
theorem contains111 {i1 g1 i2 g2 i3 g3 : Nat} {p : List Y → Bool} (l : List (List Y)) (hl : l.length ≤ MX) (hp : Hp) (n : Nat) (hq : ∀ v, v ∈ l → ∀ hp' c, Ag n hp hp' → Quiet Tryz.prog Ob.cfg 87 [dL (encY v), .ptr i1 g1 0, .ptr i2 g2 0, .ptr i3 g3 0] hp' n c (.bool (p v))) (c : Nat) :
  Quiet Tryz.prog Ob.cfg 86 [dL (encB l), .fn 87 [.ptr i1 g1 0, .ptr i2 g2 0, .ptr i3 g3 0]] hp n c (.bool (l.any p)) := by
 obtain ⟨h5, h6, h4⟩ := Quiet.fn (fun c => index138 (p := p) l hl hp n hq c)
 simp only [dL] at h4
 rw [← ixP_any]
 refine quiet_wp Tryz.func86 rfl (by kernel_rfl) rfl ?_
 refine wkqn (jn @envOf.eq_1 (jn @envOf.eq_2 (jn @dL.eq_1 @h4))) ?_
 exact ⟨.inr rfl, rfl, _, rfl, rfl⟩

theorem kf127 (r : Nat) : Ob.keep 127 r = Ob.k127 r := by kernel_rfl
attribute [local simp] kf127 Ob.k127
theorem index157 {i1 g1 : Nat} {p : Pr → Bool} (l : List (Pr)) (hl : l.length ≤ MX) (hp : Hp) (n : Nat) (hq : ∀ v, v ∈ l → ∀ hp' c, Ag n hp hp' → Quiet Tryz.prog Ob.cfg 128 [aG v.cells, .ptr i1 g1 0] hp' n c (.bool (p v))) (c : Nat) :
  Quiet Tryz.prog Ob.cfg 127 [dL (encP l), .fn 128 [.ptr i1 g1 0]] hp n c (.int .i64 (ixP p l)) := by
 unfold MX at hl
 refine quiet_wp Tryz.func127 rfl (by kernel_rfl) rfl ?_
 refine wkqn (jn @envOf.eq_1 (jn @envOf.eq_2 (jn @dL.eq_1 @encP_len))) ?_
 apply WP.loop' (I := fun d s => ∃ i : Nat, i + d = l.length ∧ (l.take i).all (fun v => !p v) = true ∧ SQ [(0, dL (encP l)), (1, .fn 128 [.ptr i1 g1 0]), (7, dI l.length), (8, dI i)] hp n n s) (d := l.length)
 ·exact ⟨0, by simp, by simp, _, _, Ag.refl n hp, st_eq (by simp [dL, dI]) rfl⟩
 rintro d _ ⟨i, hii, hno, hp', c1, hag, rfl⟩
 refine wkqn (jn @dI.eq_1 @dL.eq_1) ?_
 show WP _ _ _ _ _ _
 refine WP.cond _ rfl (fun hb => ?_) (fun hb => ?_)
 ·simp at hb
  have hb' : i < l.length := hb
  obtain ⟨v, hv, hvm, hix⟩ := at_lt hb'
  have hv' := encP_at hv
  have hw := w_succ hb' (by omega)
  have hts := all_snoc (p := fun v => !p v) hv
  obtain ⟨h5, h6, h4⟩ := Quiet.fn (fun c => hq v hvm hp' c hag)
  simp only [aG, dL, dI, Pr.cells, List.map_cons, List.map_nil] at h4
  refine wkqn (jn @hix (jn @hv' (jn @dL.eq_1 (jn @dI.eq_1 (jn @Pr.cells.eq_1 @h4))))) ?_
  show WP _ _ _ _ _ _
  refine WP.cond _ rfl (fun hb => ?_) (fun hb => ?_)
  ·refine wkqn True.intro ?_
   rw [ixP_some hno hv hb]
   exact ⟨.inr rfl, rfl, _, rfl, rfl⟩
  ·refine wkqn True.intro ?_
   refine loop_next (by simp [hw]; exact Is.rfl) ?_
   exact ⟨d - 1, by omega, i + 1, by omega, by rw [hts, hno]; simpa using hb, _, _, hag.trunc, st_eq (by simp [dI, dL, hw]) rfl⟩
 ·simp at hb
  have hil : i = l.length := by omega
  subst hil
  rw [List.take_length] at hno
  refine wkqn True.intro ?_
  rw [ixP_none hno]
  exact ⟨.inr rfl, rfl, _, rfl, rfl⟩

end Go.Ac
end

section
set_option maxRecDepth 4000
namespace Go.Ac
open Go.Proofs
theorem kf114 (r : Nat) : Ob.keep 114 r = Ob.k114 r := by kernel_rfl
theorem kf88 (r : Nat) : Ob.keep 88 r = Ob.k88 r := by kernel_rfl
theorem kf128 (r : Nat) : Ob.keep 128 r = Ob.k128 r := by kernel_rfl
attribute [local simp] kf114 Ob.k114 kf88 Ob.k88 kf128 Ob.k128
theorem call140 {nm : Tx} {cx : List Pr} {can b : Bool} {y : Y} (h : den Tryz.prog Ob.cfg 115 [aG y.cells, dS nm, dL (encP cx), dB can] = some (dB b)) {i1 g1 i2 g2 i3 g3 : Nat} (hp : Hp) (n c : Nat)
  (h1 : hp.get i1 = some ⟨g1, false, [dS nm]⟩) (h2 : hp.get i2 = some ⟨g2, false, [dL (encP cx)]⟩) (h3 : hp.get i3 = some ⟨g3, false, [dB can]⟩) (l1 : i1 < n) (l2 : i2 < n) (l3 : i3 < n) :
  Quiet Tryz.prog Ob.cfg 114 [aG y.cells, .ptr i1 g1 0, .ptr i2 g2 0, .ptr i3 g3 0] hp n c (.bool b) := by
 have e1 : ∀ o, (hp.set n o).get i1 = some ⟨g1, false, [dS nm]⟩ := fun o => (Hp.get_set_ne hp n i1 o (by omega)).trans h1
 have e2 : ∀ o, (hp.set n o).get i2 = some ⟨g2, false, [dL (encP cx)]⟩ := fun o => (Hp.get_set_ne hp n i2 o (by omega)).trans h2
 have e3 : ∀ o, (hp.set n o).get i3 = some ⟨g3, false, [dB can]⟩ := fun o => (Hp.get_set_ne hp n i3 o (by omega)).trans h3
 have e0 : ∀ o, (hp.set n o).get n = some o := fun o => Hp.get_set_self ..
 simp only [aG, Y.cells_eq, List.map_cons, List.map_nil, dL, dS, dB] at h e1 e2 e3
 refine quiet_wp Tryz.func114 rfl (by kernel_rfl) rfl ?_
 refine wkqn (jn @envOf.eq_1 (jn @envOf.eq_2 (jn @aG.eq_1 (jn @Y.cells_eq (jn @dL.eq_1 (jn @dS.eq_1 (jn @dB.eq_1 (jn @e0 (jn @e1 (jn @e2 (jn @e3 @h))))))))))) ?_
 exact ⟨.inr rfl, rfl, _, rfl, rfl⟩
theorem call158 {nm : Tx} {rest : List V} {x : Pr} {i1 g1 : Nat} {k : V} (hp : Hp) (n c : Nat) (h1 : hp.get i1 = some ⟨g1, false, k :: dS nm :: rest⟩) (l1 : i1 < n) :
  Quiet Tryz.prog Ob.cfg 128 [aG x.cells, .ptr i1 g1 0] hp n c (.bool (decide (x.nm = nm))) := by
 have e1 : ∀ o, (hp.set n o).get i1 = some ⟨g1, false, k :: dS nm :: rest⟩ := fun o => (Hp.get_set_ne hp n i1 o (by omega)).trans h1
 have e0 : ∀ o, (hp.set n o).get n = some o := fun o => Hp.get_set_self ..
 simp only [dS] at e1
 refine quiet_wp Tryz.func128 rfl (by kernel_rfl) rfl ?_
 refine wkqn (jn @envOf.eq_1 (jn @envOf.eq_2 (jn @aG.eq_1 (jn @Pr.cells.eq_1 (jn @dS.eq_1 (jn @e0 (jn @e1 @tx_beq))))))) ?_
 exact ⟨.inr rfl, rfl, _, rfl, rfl⟩
/-- What 113 says. -/
def SomePAt (nm : Tx) (can : Bool) (N : Nat) : Prop := ∀ (l : List Y) (cx : List Pr), szY l < N → nbL l = true → cx.length + szY l ≤ 8388608 → den Tryz.prog Ob.cfg 88 [dL (encY l), dS nm, dL (encP cx), dB can] = some (dB (asL nm (!can) cx l))
theorem some113 {nm : Tx} {can : Bool} {cx : List Pr} (l : List Y) (hl : l.length ≤ MX) (h : ∀ y, y ∈ l → den Tryz.prog Ob.cfg 115 [aG y.cells, dS nm, dL (encP cx), dB can] = some (dB (asY nm (!can) cx y))) :
  den Tryz.prog Ob.cfg 88 [dL (encY l), dS nm, dL (encP cx), dB can] = some (dB (asL nm (!can) cx l)) := by
 have hQ := fun c => contains139 (i1 := 0) (g1 := 0) (i2 := 1) (g2 := 1) (i3 := 2) (g3 := 2) (p := asY nm (!can) cx) l hl [(0, ⟨0, false, [dS nm]⟩), (1, ⟨1, false, [dL (encP cx)]⟩), (2, ⟨2, false, [dB can]⟩)] 3
  (fun v hv hp' c hag => call140 (h v hv) hp' 3 c ((hag 0 (by omega)).trans rfl) ((hag 1 (by omega)).trans rfl) ((hag 2 (by omega)).trans rfl) (by omega) (by omega) (by omega)) c
 obtain ⟨h5, h6, h4⟩ := Quiet.fn hQ
 simp only [dL, dS, dB] at h4
 rw [asL_any]
 refine den_wp Tryz.func88 rfl (by kernel_rfl) rfl rfl ?_
 refine wkqn (jn @dL.eq_1 (jn @dS.eq_1 (jn @dB.eq_1 @h4))) ?_
 show retQ _ _ _ _ _
 exact ⟨.inr rfl, _, _, rfl, rfl⟩
end Go.Ac
end

section
set_option maxRecDepth 4000
namespace Go.Ac
open Go.Proofs
theorem kf125 (r : Nat) : Ob.keep 125 r = Ob.k125 r := by kernel_rfl
theorem kf138 (r : Nat) : Ob.keep 138 r = Ob.k138 r := by kernel_rfl
theorem kf115 (r : Nat) : Ob.keep 115 r = Ob.k115 r := by kernel_rfl
attribute [local simp] kf125 Ob.k125 kf138 Ob.k138 kf115 Ob.k115
theorem first_cases {α : Type} (p : α → Bool) : ∀ l : List α, (∃ (i : Nat) (v : α), l[i]? = some v ∧ (l.take i).all (fun a => !p a) = true ∧ p v = true) ∨ l.all (fun a => !p a) = true
 | [] => .inr rfl
 | a :: r => by
  cases h : p a with
  | true => exact .inl ⟨0, a, rfl, rfl, h⟩
  | false =>
   rcases first_cases p r with ⟨i, v, h1, h2, h3⟩ | h1
   ·exact .inl ⟨i + 1, v, by simpa using h1, by simp [h, h2], h3⟩
   ·exact .inr (by simp only [List.all_cons, h, h1]; rfl)
theorem asC_app (x : Tx) (all : Bool) (cx : List Pr) (nm : Tx) : ∀ (a b : List (List Y)) (k : Nat), asC x all cx nm k (a ++ b) = asC x all cx nm k a + asC x all cx nm (k + a.length) b
 | [], b, k => by simp [asC]
 | c :: r, b, k => by
  rw [List.cons_append, asC, asC, asC_app x all cx nm r b (k + 1), List.length_cons, show k + 1 + r.length = k + (r.length + 1) by omega]; omega
theorem asC_cut (x : Tx) (all : Bool) (cx : List Pr) (nm : Tx) (l : List (List Y)) (j : Nat) : asC x all cx nm 0 (l.take j) ≤ asC x all cx nm 0 l ∧ asC x all cx nm 0 l ≤ asC x all cx nm 0 (l.take j) + (l.length - j) := by
 have h := asC_app x all cx nm (l.take j) (l.drop j) 0
 rw [List.take_append_drop] at h
 have h2 := count_le x all cx nm (l.drop j) (0 + (l.take j).length)
 rw [List.length_drop] at h2
 omega
set_option maxHeartbeats 1000000 in
theorem index175 (l : List Tx) (x : Tx) (hl : l.length ≤ MX) : den Tryz.prog Ob.cfg 138 [dL (encS l), dS x] = some (dI (ixP (fun v => decide (x = v)) l)) := by
 unfold MX at hl
 refine den_wp Tryz.func138 rfl (by kernel_rfl) rfl rfl ?_
 refine wkqn (jn @dL.eq_1 (jn @dS.eq_1 @encS_len)) ?_
 apply WP.loop' (I := fun D s => ∃ j : Nat, j + D = l.length ∧ (l.take j).all (fun v => !decide (x = v)) = true ∧ SE [(0, dL (encS l)), (1, dS x), (7, dI l.length), (8, dI j)] [] 0 s) (d := l.length)
 ·exact ⟨0, by simp, by simp, SE.mk (by simp [dI, dL, dS]) rfl⟩
 rintro D _ ⟨j, hj, hno, cc, rfl⟩
 refine wkqn (jn @dI.eq_1 (jn @dL.eq_1 @dS.eq_1)) ?_
 show WP _ _ _ _ _ _
 refine WP.cond _ rfl (fun hb => ?_) (fun hb => ?_)
 ·simp at hb
  have hb' : j < l.length := by omega
  obtain ⟨d, hd, hdm, hix⟩ := at_lt hb'
  have hd' := encS_at hd
  have hw := w_succ hb' (by omega)
  have hs := all_snoc (p := fun v => !decide (x = v)) hd
  by_cases hq : x = d
  ·have hq' := eq_true hq
   rw [ixP_some hno hd (decide_eq_true hq)]
   refine wkcqn (jn @dI.eq_1 (jn @dL.eq_1 (jn @dS.eq_1 (jn @hix (jn @hd' (jn @tx_beq @hq')))))) ?_
   show retQ _ _ _ _ _
   exact ⟨.inr rfl, _, _, rfl, rfl⟩
  ·have hq' := eq_false hq
   refine wkcqn (jn @dI.eq_1 (jn @dL.eq_1 (jn @dS.eq_1 (jn @hix (jn @hd' (jn @tx_beq @hq')))))) ?_
   refine loop_next (by simp [hw]; exact Is.rfl) ?_
   exact ⟨D - 1, by omega, j + 1, by omega, by rw [hs, hno, decide_eq_false hq]; rfl, SE.mk (by simp [dI, dL, dS, hw]) rfl⟩
 ·simp at hb
  have hje : j = l.length := by omega
  rw [hje, List.take_length] at hno
  rw [ixP_none hno]
  refine wkcqn (jn @dI.eq_1 (jn @dL.eq_1 @dS.eq_1)) ?_
  show retQ _ _ _ _ _
  exact ⟨.inr rfl, _, _, rfl, rfl⟩
theorem contains155 (l : List Tx) (x : Tx) (hl : l.length ≤ MX) : den Tryz.prog Ob.cfg 125 [dL (encS l), dS x] = some (dB (decide (x ∈ l))) := by
 have h := index175 l x hl
 simp only [dL, dS, dI] at h
 have he : decide (x ∈ l) = decide (0 ≤ ixP (fun v => decide (x = v)) l) := by
  rw [ixP_any]
  by_cases hm : x ∈ l
  ·rw [dTrue hm]; exact (List.any_eq_true.2 ⟨x, hm, by simp⟩).symm
  ·rw [dFalse hm]; symm; rw [List.any_eq_false]; intro y hy; simp; intro he; subst he; exact hm hy
 rw [he]
 refine den_wp Tryz.func125 rfl (by kernel_rfl) rfl rfl ?_
 refine wkqn (jn @dL.eq_1 (jn @dS.eq_1 @h)) ?_
 show retQ _ _ _ _ _
 exact ⟨.inr rfl, _, _, rfl, rfl⟩
set_option maxHeartbeats 4000000 in
theorem assigns141 {x : Tx} {can : Bool} {N : Nat} (h : SomePAt x can N) (y : Y) (cx : List Pr) (hy : y.sz ≤ N) (hnb : nbY y = true) (hb0 : cx.length + y.sz ≤ 8388608) : den Tryz.prog Ob.cfg 115 [aG y.cells, dS x, dL (encP cx), dB can] = some (dB (asY x (!can) cx y)) := by
 rw [Y.sz_eq] at hy hb0
 have k1 := len_szS y.outs
 have k2 := len_szB y.brs
 have ho := contains155 y.outs x (by unfold MX; omega)
 simp only [dL, dS, dB] at ho
 rw [nbY_eq, Bool.and_eq_true] at hnb
 obtain ⟨hn1, hn2⟩ := hnb
 rw [asY_eq]
 refine den_wp Tryz.func115 rfl (by kernel_rfl) rfl rfl ?_
 by_cases q1 : y.k = 1
 ·rw [if_pos q1]
  refine wkcqn (jn @aG.eq_1 (jn @Y.cells_eq (jn @dL.eq_1 (jn @dS.eq_1 (jn @dB.eq_1 (jn @int_beq (jn @tx_beq @q1))))))) ?_
  show retQ _ _ _ _ _
  exact ⟨.inr rfl, _, _, rfl, rfl⟩
 rw [if_neg q1]
 by_cases q4 : y.k = 4
 ·rw [if_pos q4]
  refine wkcqn (jn @aG.eq_1 (jn @Y.cells_eq (jn @dL.eq_1 (jn @dS.eq_1 (jn @dB.eq_1 (jn @int_beq (jn @tx_beq (jn @q4 @ho)))))))) ?_
  show retQ _ _ _ _ _
  exact ⟨.inr rfl, _, _, rfl, rfl⟩
 rw [if_neg q4]
 by_cases q3 : y.k = 3
 case neg =>
  rw [if_neg q3]
  refine wkcqn (jn @aG.eq_1 (jn @Y.cells_eq (jn @dL.eq_1 (jn @dS.eq_1 (jn @dB.eq_1 (jn @int_beq (jn @q1 (jn @q4 @q3)))))))) ?_
  show retQ _ _ _ _ _
  exact ⟨.inr rfl, _, _, rfl, rfl⟩
 rw [if_pos q3]
 have hbr : y.brs ≠ [] := by simpa [q3] using hn1
 have hQ := fun c => index157 (i1 := 0) (g1 := 0) (p := fun p : Pr => decide (p.nm = y.nm)) cx (by unfold MX; omega) [(0, ⟨0, false, y.cells.map .d⟩)] 1
  (fun v hv hp' c hag => call158 (nm := y.nm) (rest := (y.cells.drop 2).map .d) (k := .d (.int .i64 y.k)) hp' 1 c ((hag 0 (by omega)).trans (by rw [Y.cells_eq]; rfl)) (by omega)) c
 obtain ⟨h5, h6, h4⟩ := Quiet.fn hQ
 simp only [dL, dS, dB, Y.cells_eq, List.map_cons, List.map_nil, q3] at h4
 rcases first_cases (fun p : Pr => decide (p.nm = y.nm)) cx with ⟨i, p, hp, hno, hpp⟩ | hno
 ·have hf := find_hit hno hp hpp
  rw [ixP_some hno hp hpp] at h4
  rw [hf]
  have hil : i < cx.length := (List.getElem?_eq_some_iff.1 hp).1
  have hix := idx_lt hil
  have hp' := encP_at hp
  by_cases hlt : p.br < y.brs.length
  ·have c1 : ((p.br : Int) < y.brs.length) = True := eq_true (by omega)
   obtain ⟨b, hb1, hbm, hib⟩ := at_lt hlt
   have hb2 := encB_at hb1
   have hr := h b cx (by have := mem_szB hbm; omega) (by rw [nbB_all] at hn2; exact List.all_eq_true.1 hn2 b hbm) (by have := mem_szB hbm; omega)
   have he := asN_at x (!can) cx y.brs p.br b hb1
   simp only [he]
   simp only [dL, dS, dB] at hr
   refine wkcqn (jn @aG.eq_1 (jn @dI.eq_1 (jn @dL.eq_1 (jn @dS.eq_1 (jn @dB.eq_1 (jn @Y.cells_eq (jn @Pr.cells.eq_1 (jn @q3 (jn @int_beq (jn @h4 (jn @hix (jn @hp' (jn @hib (jn @hb2 (jn @hr @c1))))))))))))))) ?_
   show retQ _ _ _ _ _
   exact ⟨.inr rfl, _, _, rfl, rfl⟩
  ·have c1 : ((p.br : Int) < y.brs.length) = False := eq_false (by omega)
   have c1' : (p.br < y.brs.length) = False := eq_false hlt
   have he := asN_out x (!can) cx y.brs p.br (by omega)
   simp only [he]
   refine wkcqn (jn @aG.eq_1 (jn @dI.eq_1 (jn @dL.eq_1 (jn @dS.eq_1 (jn @dB.eq_1 (jn @Y.cells_eq (jn @Pr.cells.eq_1 (jn @q3 (jn @int_beq (jn @h4 (jn @hix (jn @hp' (jn @c1 @c1'))))))))))))) ?_
   show retQ _ _ _ _ _
   exact ⟨.inr rfl, _, _, rfl, rfl⟩
 have hf := find_none hno
 rw [ixP_none hno] at h4
 rw [hf]
 have r1 := fun look => rows_fl look (encP_row cx)
 have f1 : fitsB cx.length 24 = true := by simp [fitsB]; omega
 rw [encP_len] at r1
 refine wkcqn (jn @aG.eq_1 (jn @dI.eq_1 (jn @dL.eq_1 (jn @dS.eq_1 (jn @dB.eq_1 (jn @Y.cells_eq (jn @q3 (jn @int_beq (jn @h4 @encB_len))))))))) ?_
 apply WP.loop' (I := fun D s => ∃ i : Nat, i + D = y.brs.length ∧ asC x (!can) cx y.nm 0 (y.brs.take i) = (if can = true then 0 else i) ∧ SE [(1, dS x), (2, dL (encP cx)), (3, dB can), (4, .ptr 0 0 0), (60, dL (encB y.brs)), (61, dI y.brs.length), (62, dI i)] [(0, ⟨0, false, y.cells.map .d⟩)] 1 s) (d := y.brs.length)
 ·exact ⟨0, by simp, by simp [asC], SE.mk (by simp [dI, dL, dS, dB]) (by simp [Y.cells_eq, q3])⟩
 rintro D _ ⟨i, hi, hn, cc, rfl⟩
 refine wkqn (jn @dI.eq_1 (jn @dL.eq_1 (jn @dS.eq_1 (jn @dB.eq_1 @Y.cells_eq)))) ?_
 show WP _ _ _ _ _ _
 refine WP.cond _ rfl (fun hb => ?_) (fun hb => ?_)
 ·simp at hb
  have hb' : i < y.brs.length := by omega
  obtain ⟨b, hb1, hbm, hib⟩ := at_lt hb'
  have hb2 := encB_at hb1
  have hw := w_succ hb' (by omega)
  have hr := h b (cx ++ [⟨y.nm, i⟩]) (by have := mem_szB hbm; omega) (by rw [nbB_all] at hn2; exact List.all_eq_true.1 hn2 b hbm) (by have := mem_szB hbm; simp; omega)
  have hts : y.brs.take (i + 1) = y.brs.take i ++ [b] := take_snoc hb1
  have hcn := asC_snoc x (!can) cx y.nm (y.brs.take i) 0 b
  rw [← hts, hn, List.length_take, Nat.min_eq_left (by omega), Nat.zero_add] at hcn
  have hcut := asC_cut x (!can) cx y.nm y.brs (i + 1)
  have r2 := fl_len (encP_row cx)
  have r3 := fl_take (encP_row cx)
  have r4 := fl_snoc (encP cx) (Pr.cells ⟨y.nm, i⟩)
  have r5 := encP_snoc cx ⟨y.nm, i⟩
  have r6 := fl_len (encP_row (cx ++ [⟨y.nm, i⟩]))
  have r7 := fl_take (encP_row (cx ++ [⟨y.nm, i⟩]))
  have r8 := chunk_flat (encP_row (cx ++ [⟨y.nm, i⟩]))
  have f2 : fitsB (cx.length + 1) 24 = true := by simp [fitsB]; omega
  rw [r5] at r4
  rw [encP_len] at r2 r3
  simp only [encP_len, List.length_append, List.length_cons, List.length_nil, Nat.zero_add] at r6 r7 r8
  simp only [Pr.cells, List.map_cons, List.map_nil] at r4
  simp only [dL, dS, dB, dI] at hr
  cases he : asL x (!can) (cx ++ [⟨y.nm, i⟩]) b with
  | true =>
   rw [he] at hr hcn
   cases can with
   | true =>
    rw [show (if (!true) = true then decide (asC x (!true) cx y.nm 0 y.brs = y.brs.length) else decide (0 < asC x (!true) cx y.nm 0 y.brs)) = true by simp; simp at hcn hcut; omega]
    refine wkcqn (jn @dI.eq_1 (jn @dL.eq_1 (jn @dS.eq_1 (jn @dB.eq_1 (jn @Y.cells_eq (jn @hib (jn @hb2 (jn @r1 (jn @f1 (jn @f2 (jn @r2 (jn @r3 (jn @r4 (jn @r6 (jn @r7 (jn @r8 (jn @toD_dep (jn @toD_d (jn @toDs_fl (jn @nble_d (jn @hr (jn @closeParts.eq_1 @closeParts.eq_2)))))))))))))))))))))) ?_
    show retQ _ _ _ _ _
    exact ⟨.inr rfl, _, _, rfl, rfl⟩
   | false =>
    refine wkcqn (jn @dI.eq_1 (jn @dL.eq_1 (jn @dS.eq_1 (jn @dB.eq_1 (jn @Y.cells_eq (jn @hib (jn @hb2 (jn @r1 (jn @f1 (jn @f2 (jn @r2 (jn @r3 (jn @r4 (jn @r6 (jn @r7 (jn @r8 (jn @toD_dep (jn @toD_d (jn @toDs_fl (jn @nble_d (jn @hr (jn @closeParts.eq_1 @closeParts.eq_2)))))))))))))))))))))) ?_
    refine loop_next (by simp [hw]; exact Is.rfl) ?_
    exact ⟨D - 1, by omega, i + 1, by omega, by rw [hcn]; simp, SE.mk (by simp [dI, dL, dS, dB, hw]) (by simp [Y.cells_eq])⟩
  | false =>
   rw [he] at hr hcn
   cases can with
   | false =>
    rw [show (if (!false) = true then decide (asC x (!false) cx y.nm 0 y.brs = y.brs.length) else decide (0 < asC x (!false) cx y.nm 0 y.brs)) = false by simp; simp at hcn hcut; omega]
    refine wkcqn (jn @dI.eq_1 (jn @dL.eq_1 (jn @dS.eq_1 (jn @dB.eq_1 (jn @Y.cells_eq (jn @hib (jn @hb2 (jn @r1 (jn @f1 (jn @f2 (jn @r2 (jn @r3 (jn @r4 (jn @r6 (jn @r7 (jn @r8 (jn @toD_dep (jn @toD_d (jn @toDs_fl (jn @nble_d (jn @hr (jn @closeParts.eq_1 @closeParts.eq_2)))))))))))))))))))))) ?_
    show retQ _ _ _ _ _
    exact ⟨.inr rfl, _, _, rfl, rfl⟩
   | true =>
    refine wkcqn (jn @dI.eq_1 (jn @dL.eq_1 (jn @dS.eq_1 (jn @dB.eq_1 (jn @Y.cells_eq (jn @hib (jn @hb2 (jn @r1 (jn @f1 (jn @f2 (jn @r2 (jn @r3 (jn @r4 (jn @r6 (jn @r7 (jn @r8 (jn @toD_dep (jn @toD_d (jn @toDs_fl (jn @nble_d (jn @hr (jn @closeParts.eq_1 @closeParts.eq_2)))))))))))))))))))))) ?_
    refine loop_next (by simp [hw]; exact Is.rfl) ?_
    exact ⟨D - 1, by omega, i + 1, by omega, by rw [hcn]; simp, SE.mk (by simp [dI, dL, dS, dB, hw]) (by simp [Y.cells_eq])⟩
 ·simp at hb
  have hie : i = y.brs.length := by omega
  rw [hie, List.take_length] at hn
  simp only [hn]
  cases can with
  | true =>
   refine wkcqn (jn @dI.eq_1 (jn @dL.eq_1 (jn @dS.eq_1 (jn @dB.eq_1 @Y.cells_eq)))) ?_
   exact ⟨.inr rfl, _, _, rfl, by simp; rfl⟩
  | false =>
   refine wkcqn (jn @dI.eq_1 (jn @dL.eq_1 (jn @dS.eq_1 (jn @dB.eq_1 (jn @Y.cells_eq (jn @encB_len (jn @lt0 (jn @lt0n @hbr)))))))) ?_
   exact ⟨.inr rfl, _, _, rfl, by simp; rfl⟩
theorem somep : ∀ (x : Tx) (can : Bool) (N : Nat), SomePAt x can N := by
 intro x can N
 induction N with
 | zero => intro l cx h; omega
 | succ N ih =>
 intro l cx hN hnb hb0
 have k1 := len_szY l
 rw [nbL_all] at hnb
 exact some113 l (by unfold MX; omega) fun y hy => assigns141 ih y cx (by have := mem_szY hy; omega) (List.all_eq_true.1 hnb y hy) (by have := mem_szY hy; omega)
end Go.Ac
end

section
set_option maxRecDepth 4000
namespace Go.Ac
open Go.Proofs
/-- A place: the branches that one is in, the lists before. -/
def pP (cx : List Pr) (bl : List (List Y)) : V := .agg [.d (.slice (encP cx)), .d (.slice (encB bl))]
theorem kf87 (r : Nat) : Ob.keep 87 r = Ob.k87 r := by kernel_rfl
theorem kf54 (r : Nat) : Ob.keep 54 r = Ob.k54 r := by kernel_rfl
theorem kf85 (r : Nat) : Ob.keep 85 r = Ob.k85 r := by kernel_rfl
attribute [local simp] kf87 Ob.k87 kf54 Ob.k54 kf85 Ob.k85
theorem asL_flat (x : Tx) (all : Bool) (cx : List Pr) : ∀ bl : List (List Y), bl.any (asL x all cx) = asL x all cx bl.flatten
 | [] => by rw [List.flatten_nil, asL]; rfl
 | b :: r => by rw [List.any_cons, asL_flat x all cx r, List.flatten_cons]; simp only [asL_any, List.any_append]
theorem call112 {nm : Tx} {cx : List Pr} {can b : Bool} {l : List Y} {bf : D} (h : den Tryz.prog Ob.cfg 88 [dL (encY l), dS nm, dL (encP cx), dB can] = some (dB b)) {i1 g1 i2 g2 i3 g3 : Nat} (hp : Hp) (n c : Nat)
  (h1 : hp.get i1 = some ⟨g1, false, [dS nm]⟩) (h2 : hp.get i2 = some ⟨g2, false, [dL (encP cx), .d bf]⟩) (h3 : hp.get i3 = some ⟨g3, false, [dB can]⟩) (l1 : i1 < n) (l2 : i2 < n) (l3 : i3 < n) :
  Quiet Tryz.prog Ob.cfg 87 [dL (encY l), .ptr i1 g1 0, .ptr i2 g2 0, .ptr i3 g3 0] hp n c (.bool b) := by
 simp only [dL, dS, dB] at h h1 h2 h3
 refine quiet_wp Tryz.func87 rfl (by kernel_rfl) rfl ?_
 refine wkqn (jn @envOf.eq_1 (jn @envOf.eq_2 (jn @dL.eq_1 (jn @dS.eq_1 (jn @dB.eq_1 (jn @h1 (jn @h2 (jn @h3 @h)))))))) ?_
 exact ⟨.inr rfl, rfl, _, rfl, rfl⟩
theorem assigned71 (nm : Tx) (can : Bool) (cx : List Pr) (bl : List (List Y)) (hl : bl.length ≤ MX) (hnb : nbB bl = true) (hb : cx.length + szY bl.flatten ≤ 8388608) : den Tryz.prog Ob.cfg 54 [pP cx bl, dS nm, dB can] = some (dB (asL nm (!can) cx bl.flatten)) := by
 have hsz : ∀ l, l ∈ bl → szY l ≤ szY bl.flatten := by
  intro l hl
  induction bl with
  | nil => simp at hl
  | cons b r ih =>
   rw [List.flatten_cons, szY_app]
   rcases List.mem_cons.1 hl with rfl | h
   ·omega
   ·have := ih (by rw [List.length_cons] at *; unfold MX at *; omega) (by rw [nbB, Bool.and_eq_true] at hnb; exact hnb.2) (by rw [List.flatten_cons, szY_app] at hb; omega) h; omega
 rw [nbB_all] at hnb
 have hQ := fun c => contains111 (i1 := 1) (g1 := 1) (i2 := 0) (g2 := 0) (i3 := 2) (g3 := 2) (p := asL nm (!can) cx) bl hl [(0, ⟨0, false, [dL (encP cx), dL (encB bl)]⟩), (1, ⟨1, false, [dS nm]⟩), (2, ⟨2, false, [dB can]⟩)] 3
  (fun l hl hp' c hag => call112 (bf := .slice (encB bl)) (somep nm can _ l cx (Nat.lt_succ_self _) (List.all_eq_true.1 hnb l hl) (by have := hsz l hl; omega)) hp' 3 c ((hag 1 (by omega)).trans rfl) ((hag 0 (by omega)).trans rfl) ((hag 2 (by omega)).trans rfl) (by omega) (by omega) (by omega)) c
 obtain ⟨h5, h6, h4⟩ := Quiet.fn hQ
 simp only [dL, dS, dB] at h4
 rw [← asL_flat]
 refine den_wp Tryz.func54 rfl (by kernel_rfl) rfl rfl ?_
 refine wkqn (jn @pP.eq_1 (jn @dL.eq_1 (jn @dS.eq_1 (jn @dB.eq_1 @h4)))) ?_
 show retQ _ _ _ _ _
 exact ⟨.inr rfl, _, _, rfl, rfl⟩
theorem encB_row (l : List (List Y)) : ∀ r ∈ encB l, r.length = 1 := by rw [encB_map]; intro r hr; obtain ⟨x, _, rfl⟩ := List.mem_map.1 hr; rfl
theorem encB_snoc (l : List (List Y)) (y : List Y) : encB l ++ [[.slice (encY y)]] = encB (l ++ [y]) := by simp [encB_map]
theorem encY_take (l : List Y) (j : Nat) : (encY l).take j = encY (l.take j) := by rw [encY_map, encY_map, List.map_take]
set_option maxHeartbeats 1000000 in
theorem at110 (cx : List Pr) (bl : List (List Y)) (l : List Y) (i : Nat) (hi : i ≤ l.length) (hb : bl.length ≤ 8388608) (hl : l.length ≤ 8388608) : den Tryz.prog Ob.cfg 85 [pP cx bl, dL (encY l), dI i] = some (pP cx (bl ++ [l.take i])) := by
 have hsl := fun look e b z => slice_rows look e b z (encY_row l) (j := i) (by rw [encY_len]; omega)
 have etk := encY_take l i
 have r1 := fun look => rows_fl look (encB_row bl)
 have r2 := fl_len (encB_row bl)
 have r3 := fl_take (encB_row bl)
 have r4 := fl_snoc (encB bl) [.slice (encY (l.take i))]
 have r5 := encB_snoc bl (l.take i)
 have r6 := fl_len (encB_row (bl ++ [l.take i]))
 have r7 := fl_take (encB_row (bl ++ [l.take i]))
 have r8 := chunk_flat (encB_row (bl ++ [l.take i]))
 have f1 : fitsB bl.length 24 = true := by simp [fitsB]; omega
 have f2 : fitsB (bl.length + 1) 24 = true := by simp [fitsB]; omega
 rw [r5] at r4
 rw [encB_len] at r2 r3
 simp only [encB_len] at r1
 simp only [encB_len, List.length_append, List.length_cons, List.length_nil, Nat.zero_add, Nat.mul_one] at r2 r3 r6 r7 r8
 simp only [List.map_cons, List.map_nil] at r4
 refine den_wp Tryz.func85 rfl (by kernel_rfl) rfl rfl ?_
 refine wkqn (jn @pP.eq_1 (jn @dL.eq_1 (jn @dI.eq_1 (jn @hsl (jn @etk (jn @r1 (jn @r2 (jn @r3 (jn @r4 (jn @r6 (jn @r7 (jn @r8 (jn @f1 (jn @f2 (jn @fillV.eq_1 (jn @fillV.eq_2 (jn @closeParts.eq_1 (jn @closeParts.eq_2 (jn @toD_dep (jn @toD_d (jn @toDs_fl @nble_d))))))))))))))))))))) ?_
 refine ⟨.inr rfl, _, [2], rfl, ?_⟩
 show closeT _ (.agg [V.d (D.slice (encP cx)), V.osl 2 4 0 (bl.length + 1) 1 none]) = _
 simp [closeT, pP, toD_d, toD_dep, r6, r7, r8, toDs_fl, nble_d]
end Go.Ac
end
