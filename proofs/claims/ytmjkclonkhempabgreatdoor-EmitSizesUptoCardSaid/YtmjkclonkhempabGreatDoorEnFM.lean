/- The error 3 is none of Check's (plain). -/
import Derived.Test.YtmjkclonkhempabGreatDoorEnAM
set_option linter.unusedVariables false
set_option linter.unusedSimpArgs false
section
set_option maxRecDepth 4000
namespace Go.Ac
open Go.Proofs
theorem szF_bd {S : List (Tx × Int)} (hS : ∀ x, 0 ≤ gz S x) : ∀ (l : List Ii) (m : Int), 0 ≤ m → m ≤ 1099511627776 → 0 ≤ szF 1099511627776 S m l ∧ szF 1099511627776 S m l ≤ 1099511627776
 | [], m, h, h' => ⟨h, h'⟩
 | d :: r, m, h, h' => by
  have h1 := hS d.cl
  have : szF 1099511627776 S m (d :: r) = szF 1099511627776 S (min (m + gz S d.cl) 1099511627776) r := rfl
  rw [this]
  refine szF_bd hS r _ ?_ ?_
  ·omega
  ·exact Int.min_le_right ..
theorem gz_szL (l : List Cl) (x : Tx) : 0 ≤ gz (szL 1099511627776 l) x ∧ gz (szL 1099511627776 l) x ≤ 1099511627776 := by
 have h1 := szL_cap (B := 1099511627776) (by omega) l x
 have h2 := tzL_nn l x
 rw [h1]; omega
theorem lookup_gz (l : List (Tx × Int)) {id g : Nat} {ro : Bool} {sz by_ : Nat} {zr : Option (List V)} {look : Look} {x : Tx} (h : look id = some ⟨g, ro, [mpC eI l]⟩) :
  lookupV look ⟨.str, sz, by_, zr⟩ (some (.d (.int .i64 0))) (.mp id g) (.d (.str x)) false = some ⟨.d (.int .i64 (gz l x)), [], [id], 0, 0, false⟩ := by
 rw [lookup_mp eI l h]
 unfold gz
 cases mget l x <;> rfl
theorem min_ite (a b : Int) : (if b < a then b else a) = min a b := by
 simp only [Int.min_def]; repeat' split
 all_goals omega
/-- The memory behind the sizes. -/
def sHp (o : Oc) (S : List (Tx × Int)) : Hp := [(0, ⟨0, false, o.cells.map .d⟩), (1, ⟨1, false, [mpC eI S]⟩)]
theorem kf19 (r : Nat) : Ob.keep 19 r = Ob.k19 r := by kernel_rfl
attribute [local simp] kf19 Ob.k19
set_option maxHeartbeats 4000000 in
theorem sizes19 (o : Oc) (hsz : o.sz ≤ 2097152) : ∃ q, lim Tryz.prog Ob.cfg 19 [aG o.cells] [] 0 0 = some q ∧ q.v = .mp 1 1 ∧ q.n = 2 ∧ q.hp = sHp o (szL 1099511627776 o.cl) := by
 have k2 := len_szC o.cl
 unfold Oc.sz at hsz
 have main : ∃ (v : V) (t : St), lim Tryz.prog Ob.cfg 19 [aG o.cells] [] 0 0 = some ⟨v, t.hp, t.n, t.c, t.wl⟩ ∧ v = .mp 1 1 ∧ t.n = 2 ∧ t.hp = sHp o (szL 1099511627776 o.cl) := by
  refine lim_wp (Q := fun v (t : St) => v = .mp 1 1 ∧ t.n = 2 ∧ t.hp = sHp o (szL 1099511627776 o.cl)) Tryz.func19 rfl (by kernel_rfl) ?_
  refine wkcv (jn @envOf.eq_1 (jn @envOf.eq_2 (jn @dL.eq_1 (jn @aG.eq_1 (jn @Oc.cells.eq_1 @makeMapV.eq_1))))) ?_
  apply WP.loop' (I := fun D s => ∃ i : Nat, i + D = o.cl.length ∧ SE [(3, .mp 1 1), (11, dL (encC o.cl)), (12, dI o.cl.length), (13, dI i)] (sHp o (szL 1099511627776 (o.cl.take i))) 2 s) (d := o.cl.length)
  ·exact ⟨0, by simp, SE.mk (by simp [dI, dL]) (by simp [sHp, Oc.cells, szL, mpC])⟩
  rintro D _ ⟨i, hi, cc, rfl⟩
  refine wkv (jn @dI.eq_1 @dL.eq_1) ?_
  show WP _ _ _ _ _ _
  refine WP.cond _ rfl (fun hb => ?_) (fun hb => ?_)
  ·simp at hb
   have hb' : i < o.cl.length := by omega
   obtain ⟨c, hc, hcm, hix⟩ := at_lt hb'
   have hc' := encC_at hc
   have hw := w_succ hb' (by omega)
   have hcs := mem_szC hcm
   unfold Cl.sz at hcs
   have l4 := len_szM c.mems
   have l5 := len_szJ c.ins
   have htk := take_snoc hc
   generalize hS : szL 1099511627776 (o.cl.take i) = S
   have hSb : ∀ x, 0 ≤ gz S x ∧ gz S x ≤ 1099511627776 := fun x => by rw [← hS]; exact gz_szL _ x
   refine wkcv (jn @sHp.eq_1 (jn @Oc.cells.eq_1 (jn @dL.eq_1 (jn @dI.eq_1 (jn @hix (jn @hc' (jn @Cl.cells.eq_1 (jn @fillV.eq_1 (jn @fillV.eq_2 (jn @encM_len @encJ_len)))))))))) ?_
   apply WP.loop' (I := fun D2 s => ∃ j : Nat, j + D2 = c.ins.length ∧ SE [(3, .mp 1 1), (5, .ptr 2 (cc) 0), (6, dI (szF 1099511627776 S c.mems.length (c.ins.take j))), (11, dL (encC o.cl)), (12, dI o.cl.length), (13, dI i), (21, dL (encJ c.ins)), (22, dI c.ins.length), (23, dI j)] (sHp o S ++ [(2, ⟨cc, false, c.cells.map .d⟩)]) 3 s) (d := c.ins.length)
   ·exact ⟨0, by simp, SE.mk (by simp [dI, dL, szF]) (by simp [sHp, Oc.cells, Cl.cells])⟩
   rintro D2 _ ⟨j, hj, cc2, rfl⟩
   refine wkv (jn @dI.eq_1 @dL.eq_1) ?_
   show WP _ _ _ _ _ _
   refine WP.cond _ rfl (fun hb => ?_) (fun hb => ?_)
   ·simp at hb
    have hb2 : j < c.ins.length := by omega
    obtain ⟨d, hd, hdm, hix2⟩ := at_lt hb2
    have hd' := encJ_at hd
    have hw2 := w_succ hb2 (by omega)
    have htk2 := take_snoc hd
    have hbd := szF_bd (fun x => (hSb x).1) (c.ins.take j) c.mems.length (by omega) (by omega)
    have hg := hSb d.cl
    have e1 := fun look zr h => lookup_gz S (id := 1) (g := 1) (ro := false) (sz := 1) (by_ := 16) (zr := zr) (look := look) (x := d.cl) h
    have e2 := w_id' (n := szF 1099511627776 S c.mems.length (c.ins.take j) + gz S d.cl) (by omega) (by omega)
    have e3 := szF_snoc 1099511627776 S c.mems.length (c.ins.take j) d
    rw [← htk2] at e3
    refine wkcv (jn @sHp.eq_1 (jn @Oc.cells.eq_1 (jn @dL.eq_1 (jn @dI.eq_1 (jn @hix2 (jn @hd' (jn @Ii.cells.eq_1 (jn @fillV.eq_1 (jn @fillV.eq_2 (jn @zt3 (jn @e1 (jn @e2 (jn @maxV.eq_def (jn @maxI.eq_1 (jn @maxI.eq_2 (jn @maxI.eq_3 (jn @maxI.eq_4 @min_ite))))))))))))))))) ?_
    refine loop_next (by simp [hw2]; exact Is.rfl) ?_
    exact ⟨D2 - 1, by omega, j + 1, by omega, SE.mk (by simp [dI, dL, hw2, e3]) (by simp [sHp, Oc.cells, Cl.cells])⟩
   ·simp at hb
    have hje : j = c.ins.length := by omega
    subst hje
    rw [List.take_length]
    have e1 := fun look zr h => insert_mp eI S (szK 1099511627776 S c) (id := 1) (g := 1) (sz := 1) (by_ := 16) (zr := zr) (look := look) (x := c.nm) (w := .d (.int .i64 (szK 1099511627776 S c))) rfl h
    have e3 : min (szF 1099511627776 S c.mems.length c.ins) 1099511627776 = szK 1099511627776 S c := rfl
    refine wkcv (jn @sHp.eq_1 (jn @Oc.cells.eq_1 (jn @dL.eq_1 (jn @dI.eq_1 (jn @Cl.cells.eq_1 (jn @fillV.eq_1 (jn @fillV.eq_2 (jn @e1 (jn @maxV.eq_def (jn @maxI.eq_1 (jn @maxI.eq_2 (jn @maxI.eq_3 (jn @maxI.eq_4 (jn @min_ite @e3)))))))))))))) ?_
    refine loop_next (by simp [hw]; exact Is.rfl) ?_
    exact ⟨D - 1, by omega, i + 1, by omega, SE.mk (by simp [dI, dL, hw]) (by rw [htk, szL_snoc, hS]; simp [sHp, Oc.cells])⟩
  ·simp at hb
   have hie : i = o.cl.length := by omega
   subst hie
   rw [List.take_length]
   refine wkcv (jn @sHp.eq_1 (jn @dL.eq_1 @dI.eq_1)) ?_
   exact ⟨.inr rfl, [.mp 1 1], rfl, .inr rfl, rfl, rfl, rfl⟩
 obtain ⟨v, t, h1, h2, h3, h4⟩ := main
 exact ⟨_, h1, h2, h3, h4⟩
/-! ### The place of a class -/
theorem kf41 (r : Nat) : Ob.keep 41 r = Ob.k41 r := by kernel_rfl
theorem kf27 (r : Nat) : Ob.keep 27 r = Ob.k27 r := by kernel_rfl
attribute [local simp] kf41 Ob.k41 kf27 Ob.k27
attribute [local simp] kf40 Ob.k40
theorem class41 {nm : Tx} {i1 g1 : Nat} (d : Cl) (hp : Hp) (n c : Nat) (h1 : hp.get i1 = some ⟨g1, false, [dS nm]⟩) (l1 : i1 < n) : Quiet Tryz.prog Ob.cfg 41 [aG d.cells, .ptr i1 g1 0] hp n c (.bool (decide (d.nm = nm))) := by
 have ne := nf l1
 simp only [dS] at h1
 refine quiet_wp Tryz.func41 rfl (by kernel_rfl) rfl ?_
 refine wkv (jn @envOf.eq_1 (jn @envOf.eq_2 (jn @aG.eq_1 (jn @Cl.cells.eq_1 (jn @Hp.get_set (jn @ne (jn @h1 @tx_beq))))))) ?_
 exact ⟨.inr rfl, rfl, _, rfl, rfl⟩
theorem index40 {i1 g1 : Nat} {p : Cl → Bool} (l : List Cl) (hl : l.length ≤ MX) (hp : Hp) (n : Nat) (hq : ∀ v, v ∈ l → ∀ hp' c, Ag n hp hp' → Quiet Tryz.prog Ob.cfg 41 [aG v.cells, .ptr i1 g1 0] hp' n c (.bool (p v))) (c : Nat) :
  Quiet Tryz.prog Ob.cfg 40 [dL (encC l), .fn 41 [.ptr i1 g1 0]] hp n c (.int .i64 (ixP p l)) := by
 unfold MX at hl
 refine quiet_wp Tryz.func40 rfl (by kernel_rfl) rfl ?_
 refine wkv (jn @envOf.eq_1 (jn @envOf.eq_2 (jn @dL.eq_1 @encC_len))) ?_
 apply WP.loop' (I := fun d s => ∃ i : Nat, i + d = l.length ∧ (l.take i).all (fun v => !p v) = true ∧ SQ [(0, dL (encC l)), (1, .fn 41 [.ptr i1 g1 0]), (7, dI l.length), (8, dI i)] hp n n s) (d := l.length)
 ·exact ⟨0, by simp, by simp, _, _, Ag.refl n hp, st_eq (by simp [dL, dI]) rfl⟩
 rintro d _ ⟨i, hii, hno, hp', c1, hag, rfl⟩
 refine wkv (jn @dI.eq_1 @dL.eq_1) ?_
 show WP _ _ _ _ _ _
 refine WP.cond _ rfl (fun hb => ?_) (fun hb => ?_)
 ·simp at hb
  have hb' : i < l.length := hb
  obtain ⟨v, hv, hvm, hix⟩ := at_lt hb'
  have hv' := encC_at hv
  have hw := w_succ hb' (by omega)
  have hts := all_snoc (p := fun v => !p v) hv
  obtain ⟨h5, h6, h4⟩ := Quiet.fn (fun c => hq v hvm hp' c hag)
  simp only [aG, dL, dI, Cl.cells, List.map_cons, List.map_nil] at h4
  refine wkv (jn @hix (jn @hv' (jn @dL.eq_1 (jn @dI.eq_1 (jn @Cl.cells.eq_1 @h4))))) ?_
  show WP _ _ _ _ _ _
  refine WP.cond _ rfl (fun hb => ?_) (fun hb => ?_)
  ·refine wkv True.intro ?_
   rw [ixP_some hno hv hb]
   exact ⟨.inr rfl, rfl, _, rfl, rfl⟩
  ·refine wkv True.intro ?_
   refine loop_next (by simp [hw]; exact Is.rfl) ?_
   exact ⟨d - 1, by omega, i + 1, by omega, by rw [hts, hno]; simpa using hb, _, _, hag.trunc, st_eq (by simp [dI, dL, hw]) rfl⟩
 ·simp at hb
  have hil : i = l.length := by omega
  subst hil
  rw [List.take_length] at hno
  refine wkv True.intro ?_
  rw [ixP_none hno]
  exact ⟨.inr rfl, rfl, _, rfl, rfl⟩
theorem class27 (o : Oc) (nm : Tx) (hl : o.cl.length ≤ MX) : den Tryz.prog Ob.cfg 27 [aG o.cells, dS nm] = some (dI (ixP (fun d : Cl => decide (d.nm = nm)) o.cl)) := by
 refine den_wp Tryz.func27 rfl (by kernel_rfl) rfl rfl ?_
 obtain ⟨F, G, hF⟩ := lim_fn (C := fun hp' n' => hp'.get 1 = some ⟨1, false, [dS nm]⟩ ∧ 1 < n') (P := Tryz.prog) (cfg := Ob.cfg) (f := 40) (vs := [dL (encC o.cl), .fn 41 [.ptr 1 1 0]]) (v := .d (.int .i64 (ixP (fun d : Cl => decide (d.nm = nm)) o.cl)))
  (fun hp' n' c' hC => index40 (p := fun d => decide (d.nm = nm)) o.cl hl hp' n' (fun v hv hp'' c'' hag => class41 v hp'' n' c'' ((hag 1 hC.2).trans hC.1) hC.2) c')
 have hF' := fun hp' n' c' a b => hF hp' n' c' ⟨a, b⟩
 simp only [dL, dS] at hF'
 have hF2 := fun c => hF' [(0, ⟨0, false, [V.d (.slice (encE o.en)), V.d (.slice (encC o.cl))]⟩), (1, ⟨1, false, [V.d (.str nm)]⟩)] 2 c (by simp) (by omega)
 refine wkcv (jn @envOf.eq_1 (jn @envOf.eq_2 (jn @aG.eq_1 (jn @Oc.cells.eq_1 (jn @dL.eq_1 (jn @dS.eq_1 (jn @dI.eq_1 @hF2))))))) ?_
 show retQ _ _ _ _ _
 exact ⟨.inr rfl, _, _, rfl, rfl⟩
end Go.Ac
end

section
set_option maxRecDepth 4000
namespace Go.Ac
open Go.Proofs
attribute [local simp] addNew_zero get_trunc_lt
theorem drop_cons {α : Type} {l : List α} {i : Nat} {x : α} (h : l[i]? = some x) : l.drop i = x :: l.drop (i + 1) := by
 obtain ⟨h1, h2⟩ := List.getElem?_eq_some_iff.1 h
 rw [List.drop_eq_getElem_cons h1, h2]
theorem disj_l (b : List Nat) : disj [] b = true := rfl
theorem disj_r (a : List Nat) : disj a [] = true := by unfold disj; simp
theorem disj_ge {W : List (Nat × Ob)} {n k : Nat} (h : ∀ p, p ∈ W → n ≤ p.1) (hk : k < n) : disj (W.map fun x => x.1) [k] = true := by
 unfold disj
 rw [List.all_eq_true]
 intro x hx
 obtain ⟨p, hp, rfl⟩ := List.mem_map.1 hx
 have := h p hp
 have hb : Nat.beq p.1 k = false := by
  cases hq : Nat.beq p.1 k with
  | false => rfl
  | true => have := Nat.eq_of_beq_eq_true hq; omega
 simp [hb]
theorem shiftH_ge (n c : Nat) (l : List (Nat × Ob)) : ∀ p, p ∈ shiftH n c l → n ≤ p.1 := by
 intro p hp
 rw [shiftH_eq, List.mem_map] at hp
 obtain ⟨x, _, rfl⟩ := hp
 simp only; omega
theorem kf18 (r : Nat) : Ob.keep 18 r = Ob.k18 r := by kernel_rfl
attribute [local simp] kf18 Ob.k18
set_option maxHeartbeats 4000000 in
theorem offset18 {iv gv : Nat} {S : List (Tx × Int)} (hS : ∀ x, 0 ≤ gz S x ∧ gz S x ≤ 1099511627776) (c : Cl) (nm : Tx) (hm : c.mems.length ≤ 2097152) (hl : c.ins.length ≤ 2097152) (hp : Hp) (n cc : Nat) (hv : hp.get iv = some ⟨gv, false, [mpC eI S]⟩) (lv : iv < n) :
  QuietV Tryz.prog Ob.cfg 18 [aG c.cells, .mp iv gv, dS nm] hp n cc (.tuple [dI (offF 1099511627776 S c.mems.length 0 c.ins nm).1, dI (offF 1099511627776 S c.mems.length 0 c.ins nm).2]) := by
 have nv := nf lv
 refine quietV_wp Tryz.func18 rfl (by kernel_rfl) rfl (fun _ => rfl) ?_
 refine wkcitv (jn @envOf.eq_1 (jn @envOf.eq_2 (jn @aG.eq_1 (jn @Cl.cells.eq_1 (jn @dL.eq_1 (jn @dS.eq_1 (jn @dI.eq_1 (jn @hv (jn @nv (jn @Hp.get_set (jn @encM_len @encJ_len))))))))))) ?_
 apply WP.loop' (I := fun D s => ∃ (i c' : Nat) (hp' : Hp), i + D = c.ins.length ∧ offF 1099511627776 S c.mems.length 0 c.ins nm = offF 1099511627776 S (szF 1099511627776 S c.mems.length (c.ins.take i)) i (c.ins.drop i) nm ∧ Ag n hp hp' ∧
  s = ⟨[(1, .mp iv gv), (2, dS nm), (8, dI (szF 1099511627776 S c.mems.length (c.ins.take i))), (15, dL (encJ c.ins)), (16, dI c.ins.length), (17, dI i)], hp', n + 1, c', n, []⟩) (d := c.ins.length)
 ·exact ⟨0, _, _, by simp, by simp [szF], by simp [Ag_set, Ag_refl], st_eq (by simp [dI, dL, dS, szF]) rfl⟩
 rintro D _ ⟨i, c', hp', hi, ho, hag, rfl⟩
 have hv' := (hag _ lv).trans hv
 refine wkitv (jn @dI.eq_1 (jn @dL.eq_1 @dS.eq_1)) ?_
 show WP _ _ _ _ _ _
 refine WP.cond _ rfl (fun hb => ?_) (fun hb => ?_)
 ·simp at hb
  have hb' : i < c.ins.length := by omega
  obtain ⟨d, hd, hdm, hix⟩ := at_lt hb'
  have hd' := encJ_at hd
  have hw := w_succ hb' (by omega)
  have htk := take_snoc hd
  have hbd := szF_bd (fun x => (hS x).1) (c.ins.take i) c.mems.length (by omega) (by omega)
  have hg := hS d.cl
  have e2 := w_id' (n := szF 1099511627776 S c.mems.length (c.ins.take i) + gz S d.cl) (by omega) (by omega)
  have e3 := szF_snoc 1099511627776 S c.mems.length (c.ins.take i) d
  rw [← htk] at e3
  rw [drop_cons hd, offF] at ho
  by_cases hq : d.nm = nm
  ·rw [if_pos hq] at ho
   rw [ho]
   have hq' := eq_true hq
   refine wkcitv (jn @dI.eq_1 (jn @dL.eq_1 (jn @dS.eq_1 (jn @hix (jn @hd' (jn @Ii.cells.eq_1 (jn @fillV.eq_1 (jn @fillV.eq_2 (jn @hv' (jn @nv (jn @Hp.get_set (jn @tx_beq @hq')))))))))))) ?_
   exact ⟨.inr rfl, rfl, _, rfl, rfl⟩
  ·rw [if_neg hq] at ho
   have hq' := eq_false hq
   have e1 := fun look zr h => lookup_gz S (id := iv) (g := gv) (ro := false) (sz := 1) (by_ := 16) (zr := zr) (look := look) (x := d.cl) h
   refine wkcitv (jn @dI.eq_1 (jn @dL.eq_1 (jn @dS.eq_1 (jn @hix (jn @hd' (jn @Ii.cells.eq_1 (jn @fillV.eq_1 (jn @fillV.eq_2 (jn @hv' (jn @nv (jn @Hp.get_set (jn @tx_beq (jn @hq' (jn @zt3 (jn @e1 (jn @e2 (jn @maxV.eq_def (jn @maxI.eq_1 (jn @maxI.eq_2 (jn @maxI.eq_3 (jn @maxI.eq_4 @min_ite))))))))))))))))))))) ?_
   refine loop_next (by simp [hw]; exact Is.rfl) ?_
   exact ⟨D - 1, by omega, i + 1, _, _, by omega, by rw [ho, e3], by simp [Ag_trunc, Ag_set, hag], st_eq (by simp [dI, dL, dS, hw, e3]) rfl⟩
 ·simp at hb
  have hie : i = c.ins.length := by omega
  rw [hie, List.drop_length, offF] at ho
  rw [ho]
  refine wkcitv (jn @dI.eq_1 (jn @dL.eq_1 @dS.eq_1)) ?_
  exact ⟨.inr rfl, rfl, _, rfl, rfl⟩
/-- What sized gives. -/
def szdP (o : Oc) (nm : Tx) : Int × Int × Int :=
 if checkRef o ≠ 0 then (0, 0, checkRef o) else if ixP (fun d : Cl => decide (d.nm = nm)) o.cl < 0 then (0, 0, 6) else (ixP (fun d : Cl => decide (d.nm = nm)) o.cl, gz (szL 1099511627776 o.cl) nm, 0)
theorem kf14 (r : Nat) : Ob.keep 14 r = Ob.k14 r := by kernel_rfl
attribute [local simp] kf14 Ob.k14
set_option maxHeartbeats 4000000 in
theorem sized14 (o : Oc) (nm : Tx) (hsz : o.sz ≤ 2097152) (hok : o.ok) : den Tryz.prog Ob.cfg 14 [aG o.cells, dS nm] = some (.tuple [dI (szdP o nm).1, dI (szdP o nm).2.1, dI (szdP o nm).2.2]) := by
 have hck := check_den o hsz hok
 have k2 := len_szC o.cl
 have hsz' := hsz
 unfold Oc.sz at hsz'
 have hcl := class27 o nm (by unfold MX; omega)
 simp only [aG, Oc.cells, List.map_cons, List.map_nil, dI, dS] at hck hcl
 refine den_wp Tryz.func14 rfl (by kernel_rfl) rfl rfl ?_
 unfold szdP
 by_cases c1 : checkRef o = 0
 case neg =>
  rw [if_pos c1]
  have c1' := eq_false c1
  refine wkcitv (jn @envOf.eq_1 (jn @envOf.eq_2 (jn @aG.eq_1 (jn @Oc.cells.eq_1 (jn @dL.eq_1 (jn @dS.eq_1 (jn @dI.eq_1 (jn @hck (jn @int_bne @c1'))))))))) ?_
  show retQ _ _ _ _ _
  exact ⟨.inr rfl, _, _, rfl, rfl⟩
 rw [if_neg (by simp [c1])]
 rw [c1] at hck
 by_cases c2 : ixP (fun d : Cl => decide (d.nm = nm)) o.cl < 0
 ·rw [if_pos c2]
  have c2' := eq_true c2
  refine wkcitv (jn @envOf.eq_1 (jn @envOf.eq_2 (jn @aG.eq_1 (jn @Oc.cells.eq_1 (jn @dL.eq_1 (jn @dS.eq_1 (jn @dI.eq_1 (jn @hck (jn @int_bne (jn @hcl @c2')))))))))) ?_
  show retQ _ _ _ _ _
  exact ⟨.inr rfl, _, _, rfl, rfl⟩
 rw [if_neg c2]
 have c2' := eq_false c2
 obtain ⟨q, hI1, hqv, hqn, hqh⟩ := sizes19 o hsz
 have hI2 : closeT noLook q.v = none := by rw [hqv]; rfl
 have hI3 : shiftV 1 1 q.v = .mp 2 2 := by rw [hqv]; rfl
 obtain ⟨W1, hI4⟩ : ∃ W, shiftH 1 1 (wrOf q.hp.get (List.range q.n)) = W := ⟨_, rfl⟩
 have hnew : ∀ hp : Hp, (hp.sets W1).get 2 = some ⟨2, false, [mpC eI (szL 1099511627776 o.cl)]⟩ := fun hp => by
  rw [← hI4, hqh, hqn]
  rw [show (2 : Nat) = 1 + 1 from rfl, import_new (id := 1) (by omega) (o := ⟨1, false, [mpC eI (szL 1099511627776 o.cl)]⟩) rfl, shift_mpC _ _ _ _ (fun a => rfl)]
 simp only [aG, Oc.cells, List.map_cons, List.map_nil] at hI1
 have e1 := fun (hp : Hp) zr => lookup_gz (szL 1099511627776 o.cl) (id := 2) (g := 2) (ro := false) (sz := 1) (by_ := 16) (zr := zr) (look := (hp.sets W1).get) (x := nm) (hnew hp)
 repeat (first
 | apply WP.seq
 | (apply WP.reg; (case hR => dsimp only [prepL, prepO, List.map, gS, gZ]; exact iZ); (case hr => (repeat (first
 | (apply RT.op; simp [envOf, aG, Oc.cells, dL, dS, dI, hck, int_bne, hcl, c2', zt3, e1]; exact iZ; (try dsimp only [putEnv]) <;> exact rfl)
 | (apply RT.call; (iterate 2 simp; exact iZ); exact iZ; (iterate 4 simp [envOf, aG, Oc.cells, dL, dS, dI, hck, int_bne, hcl, c2', zt3, e1]; exact iZ); simp [Is]; (try dsimp only [putEnv]) <;> exact rfl; simp; exact iZ; simp; exact iZ)
 | (apply RT.callV; (iterate 2 simp; exact iZ); exact iZ; (iterate 3 simp [envOf, aG, Oc.cells, dL, dS, dI, hck, int_bne, hcl, c2', zt3, e1]; exact iZ); (try dsimp only [putEnv]) <;> exact rfl)
 | (apply RT.callI (hd := hI1) (hne := hI2) (hw := hI3) (hwr := hI4); (iterate 2 simp; exact iZ); exact iZ; (iterate 2 simp [envOf, aG, Oc.cells, dL, dS, dI, hck, int_bne, hcl, c2', zt3, e1]; exact iZ); (try dsimp only [putEnv]) <;> exact rfl; (first | omega | simp))
 | (apply RT.callT (hd := hT1) (hk := hT2); (iterate 2 simp; exact iZ); exact iZ; (iterate 2 simp [envOf, aG, Oc.cells, dL, dS, dI, hck, int_bne, hcl, c2', zt3, e1]; exact iZ); (try dsimp only [putEnv]) <;> exact rfl)
 | (apply RT.wr; simp [envOf, aG, Oc.cells, dL, dS, dI, hck, int_bne, hcl, c2', zt3, e1]; exact iZ; (try dsimp only [putEnv]) <;> exact rfl; simp [envOf, aG, Oc.cells, dL, dS, dI, hck, int_bne, hcl, c2', zt3, e1]; exact iZ; (iterate 2 exact iZ); simp; exact iZ))); exact RT.nil); (case hc => first | (refine checkR_un [(0, 1), (0, 2), (0, 3), (1, 3), (2, 3), (0, 4), (3, 5), (4, 5)] (by kernel_rfl) (by kernel_rfl) rfl ?_; simp [memA, disj, nbeq_dec]; done) | (show _ = _; kernel_rfl)); (case ht => simp [envOf, aG, Oc.cells, dL, dS, dI, hck, int_bne, hcl, c2', zt3, e1]; exact iZ))
 | apply WP.block | apply WP.skip | apply WP.exit | apply WP.ret | refine WP.condT rfl ?_ | refine WP.condF rfl ?_)
 show retQ _ _ _ _ _
 exact ⟨.inr rfl, _, _, rfl, rfl⟩
end Go.Ac
end

section
set_option maxRecDepth 4000
namespace Go.Ac
open Go.Proofs
attribute [local simp] addNew_zero get_trunc_lt
/-- What Size gives. -/
def siS (o : Oc) (nm : Tx) : Int × Int :=
 if checkRef o ≠ 0 then (0, checkRef o) else if ixP (fun d : Cl => decide (d.nm = nm)) o.cl < 0 then (0, 6) else if 16384 < tz o nm then (0, 3) else (tz o nm, 0)
theorem gz_min (o : Oc) (nm : Tx) : gz (szL 1099511627776 o.cl) nm = min (tz o nm) 1099511627776 := szL_cap (by omega) o.cl nm
theorem kf6 (r : Nat) : Ob.keep 6 r = Ob.k6 r := by kernel_rfl
attribute [local simp] kf6 Ob.k6
set_option maxHeartbeats 4000000 in
theorem size6 (o : Oc) (nm : Tx) (hsz : o.sz ≤ 2097152) (hok : o.ok) : den Tryz.prog Ob.cfg 6 [aG o.cells, dS nm] = some (.tuple [dI (siS o nm).1, dI (siS o nm).2]) := by
 have h14 := sized14 o nm hsz hok
 refine den_wp Tryz.func6 rfl (by kernel_rfl) rfl rfl ?_
 unfold szdP at h14
 unfold siS
 by_cases c1 : checkRef o = 0
 case neg =>
  rw [if_pos c1] at h14 ⊢
  have c1' := eq_false c1
  simp only [aG, Oc.cells, List.map_cons, List.map_nil, dI, dS] at h14
  refine wkcitv (jn @envOf.eq_1 (jn @envOf.eq_2 (jn @aG.eq_1 (jn @Oc.cells.eq_1 (jn @dL.eq_1 (jn @dS.eq_1 (jn @dI.eq_1 (jn @h14 (jn @int_bne (jn @int_beq @c1')))))))))) ?_
  show retQ _ _ _ _ _
  exact ⟨.inr rfl, _, _, rfl, rfl⟩
 rw [if_neg (by simp [c1])] at h14 ⊢
 by_cases c2 : ixP (fun d : Cl => decide (d.nm = nm)) o.cl < 0
 ·rw [if_pos c2] at h14 ⊢
  simp only [aG, Oc.cells, List.map_cons, List.map_nil, dI, dS] at h14
  refine wkcitv (jn @envOf.eq_1 (jn @envOf.eq_2 (jn @aG.eq_1 (jn @Oc.cells.eq_1 (jn @dL.eq_1 (jn @dS.eq_1 (jn @dI.eq_1 (jn @h14 (jn @int_bne @int_beq))))))))) ?_
  show retQ _ _ _ _ _
  exact ⟨.inr rfl, _, _, rfl, rfl⟩
 rw [if_neg c2] at h14 ⊢
 have hg := gz_min o nm
 by_cases c3 : 16384 < tz o nm
 ·rw [if_pos c3]
  have c3' : (16384 < gz (szL 1099511627776 o.cl) nm) = True := eq_true (by omega)
  simp only [aG, Oc.cells, List.map_cons, List.map_nil, dI, dS] at h14
  refine wkcitv (jn @envOf.eq_1 (jn @envOf.eq_2 (jn @aG.eq_1 (jn @Oc.cells.eq_1 (jn @dL.eq_1 (jn @dS.eq_1 (jn @dI.eq_1 (jn @h14 (jn @int_bne (jn @int_beq @c3')))))))))) ?_
  show retQ _ _ _ _ _
  exact ⟨.inr rfl, _, _, rfl, rfl⟩
 ·rw [if_neg c3]
  have c3' : (16384 < gz (szL 1099511627776 o.cl) nm) = False := eq_false (by omega)
  have hg2 : gz (szL 1099511627776 o.cl) nm = tz o nm := by omega
  simp only [aG, Oc.cells, List.map_cons, List.map_nil, dI, dS] at h14
  refine wkcitv (jn @envOf.eq_1 (jn @envOf.eq_2 (jn @aG.eq_1 (jn @Oc.cells.eq_1 (jn @dL.eq_1 (jn @dS.eq_1 (jn @dI.eq_1 (jn @h14 (jn @int_bne (jn @int_beq @c3')))))))))) ?_
  rw [hg2]
  show retQ _ _ _ _ _
  exact ⟨.inr rfl, _, _, rfl, rfl⟩
/-- The class of a place. -/
theorem ixP_at {α : Type} {p : α → Bool} {l : List α} (h : ¬ ixP p l < 0) : ∃ (j : Nat) (c : α), ixP p l = j ∧ l[j]? = some c ∧ p c = true ∧ l.find? p = some c := by
 unfold ixP at h ⊢
 cases hf : l.findIdx? p with
 | none => rw [hf] at h; simp at h
 | some j =>
  obtain ⟨h1, h2, h3⟩ := List.findIdx?_eq_some_iff_getElem.1 hf
  refine ⟨j, l[j], rfl, List.getElem?_eq_getElem h1, h2, ?_⟩
  rw [List.find?_eq_some_iff_getElem]
  exact ⟨h2, j, h1, rfl, fun i hi => by simpa using h3 i hi⟩
theorem ixP_not {α : Type} {p : α → Bool} {l : List α} (h : ixP p l < 0) : l.find? p = none := by
 unfold ixP at h
 cases hf : l.findIdx? p with
 | none => rw [List.findIdx?_eq_none_iff] at hf; rw [List.find?_eq_none]; intro x hx; simp [hf x hx]
 | some j => rw [hf] at h; simp at h; omega
/-- What Offset gives. -/
def ofS (o : Oc) (nm inst : Tx) : Int × Int :=
 if checkRef o ≠ 0 then (0, checkRef o) else match o.cl.find? (fun d => decide (d.nm = nm)) with
  | none => (0, 6)
  | some c => if ixP (fun d : Ii => decide (d.nm = inst)) c.ins < 0 then (0, 6) else if 16384 < tz o nm then (0, 3) else (tzI o c.mems.length (c.ins.take (ixP (fun d : Ii => decide (d.nm = inst)) c.ins).toNat), 0)
theorem offF_ix {B : Int} {S : List (Tx × Int)} {nm : Tx} (l : List Ii) (m : Int) : offF B S m 0 l nm = if ixP (fun d : Ii => decide (d.nm = nm)) l < 0 then (0, -1) else (szF B S m (l.take (ixP (fun d : Ii => decide (d.nm = nm)) l).toNat), ixP (fun d : Ii => decide (d.nm = nm)) l) := by
 by_cases c : ixP (fun d : Ii => decide (d.nm = nm)) l < 0
 ·rw [if_pos c]
  have := ixP_not c
  rw [List.find?_eq_none] at this
  exact offF_none l m 0 fun d hd => by simpa using this d hd
 ·rw [if_neg c]
  have hix := c
  unfold ixP at hix ⊢
  cases hf : l.findIdx? (fun d : Ii => decide (d.nm = nm)) with
  | none => rw [hf] at hix; simp at hix
  | some j =>
   obtain ⟨h1, h2, h3⟩ := List.findIdx?_eq_some_iff_getElem.1 hf
   have e : l = l.take j ++ l[j] :: l.drop (j + 1) := by rw [← List.drop_eq_getElem_cons h1, List.take_append_drop]
   conv => lhs; rw [e]
   rw [offF_at (by simpa using h2)]
   ·simp
    omega
   ·intro d hd
    obtain ⟨i, hi, rfl⟩ := List.mem_iff_getElem.1 hd
    rw [List.getElem_take]
    have hi' : i < j := by rw [List.length_take] at hi; omega
    simpa using h3 i hi'
theorem kf8 (r : Nat) : Ob.keep 8 r = Ob.k8 r := by kernel_rfl
attribute [local simp] kf8 Ob.k8
set_option maxHeartbeats 4000000 in
theorem offset8 (o : Oc) (nm inst : Tx) (hsz : o.sz ≤ 2097152) (hok : o.ok) : den Tryz.prog Ob.cfg 8 [aG o.cells, dS nm, dS inst] = some (.tuple [dI (ofS o nm inst).1, dI (ofS o nm inst).2]) := by
 have h14 := sized14 o nm hsz hok
 refine den_wp Tryz.func8 rfl (by kernel_rfl) rfl rfl ?_
 unfold szdP at h14
 unfold ofS
 by_cases c1 : checkRef o = 0
 case neg =>
  rw [if_pos c1] at h14 ⊢
  have c1' := eq_false c1
  simp only [aG, Oc.cells, List.map_cons, List.map_nil, dI, dS] at h14
  refine wkcitv (jn @envOf.eq_1 (jn @envOf.eq_2 (jn @aG.eq_1 (jn @Oc.cells.eq_1 (jn @dL.eq_1 (jn @dS.eq_1 (jn @dI.eq_1 (jn @h14 (jn @int_bne (jn @int_beq @c1')))))))))) ?_
  show retQ _ _ _ _ _
  exact ⟨.inr rfl, _, _, rfl, rfl⟩
 rw [if_neg (by simp [c1])] at h14 ⊢
 by_cases c2 : ixP (fun d : Cl => decide (d.nm = nm)) o.cl < 0
 ·rw [if_pos c2] at h14
  rw [ixP_not c2]
  simp only [aG, Oc.cells, List.map_cons, List.map_nil, dI, dS] at h14
  refine wkcitv (jn @envOf.eq_1 (jn @envOf.eq_2 (jn @aG.eq_1 (jn @Oc.cells.eq_1 (jn @dL.eq_1 (jn @dS.eq_1 (jn @dI.eq_1 (jn @h14 (jn @int_bne @int_beq))))))))) ?_
  show retQ _ _ _ _ _
  exact ⟨.inr rfl, _, _, rfl, rfl⟩
 rw [if_neg c2] at h14
 obtain ⟨j, c, hj, hc, hcn, hfd⟩ := ixP_at c2
 rw [hfd]
 rw [hj] at h14
 have hcn : c.nm = nm := by simpa using hcn
 have hjl := (List.getElem?_eq_some_iff.1 hc).1
 obtain ⟨_, _, hcm, hix⟩ := at_lt hjl
 have hc' := encC_at hc
 have k2 := len_szC o.cl
 have hcs := mem_szC (List.mem_of_getElem? hc)
 have hsz' := hsz
 unfold Oc.sz at hsz'
 unfold Cl.sz at hcs
 have l4 := len_szM c.mems
 have l5 := len_szJ c.ins
 obtain ⟨q, hI1, hqv, hqn, hqh⟩ := sizes19 o hsz
 have hI2 : closeT noLook q.v = none := by rw [hqv]; rfl
 have hI3 : shiftV 1 1 q.v = .mp 2 2 := by rw [hqv]; rfl
 obtain ⟨W1, hI4⟩ : ∃ W, shiftH 1 1 (wrOf q.hp.get (List.range q.n)) = W := ⟨_, rfl⟩
 have hnew : ∀ hp : Hp, (hp.sets W1).get 2 = some ⟨2, false, [mpC eI (szL 1099511627776 o.cl)]⟩ := fun hp => by
  rw [← hI4, hqh, hqn]
  rw [show (2 : Nat) = 1 + 1 from rfl, import_new (id := 1) (by omega) (o := ⟨1, false, [mpC eI (szL 1099511627776 o.cl)]⟩) rfl, shift_mpC _ _ _ _ (fun a => rfl)]
 simp only [aG, Oc.cells, List.map_cons, List.map_nil] at hI1
 have hge : ∀ p, p ∈ W1 → 1 ≤ p.1 := by rw [← hI4]; exact shiftH_ge _ _ _
 have d0 := disj_ge hge (show 0 < 1 by omega)
 obtain ⟨F, G, hF⟩ := lim_fn (C := fun hp' n' => hp'.get 2 = some ⟨2, false, [mpC eI (szL 1099511627776 o.cl)]⟩ ∧ 2 < n') (P := Tryz.prog) (cfg := Ob.cfg) (f := 18) (vs := [aG c.cells, .mp 2 2, dS inst]) (v := .tuple [dI (offF 1099511627776 (szL 1099511627776 o.cl) c.mems.length 0 c.ins inst).1, dI (offF 1099511627776 (szL 1099511627776 o.cl) c.mems.length 0 c.ins inst).2])
  (fun hp' n' c' hC => offset18 (fun x => gz_szL _ x) c inst (by omega) (by omega) hp' n' c' hC.1 hC.2)
 have hF' := fun hp' c' => hF (Hp.sets hp' W1) (1 + q.n) c' ⟨hnew hp', by omega⟩
 rw [offF_ix] at hF'
 simp only [aG, Oc.cells, Cl.cells, List.map_cons, List.map_nil, dI, dS] at hF' h14
 have hg := gz_min o nm
 have htz := tz_at c1 hc
 rw [hcn] at htz
 by_cases c3 : ixP (fun d : Ii => decide (d.nm = inst)) c.ins < 0
 ·rw [if_pos c3] at hF'
  simp only [if_pos c3]
  repeat (first
 | apply WP.seq
 | (apply WP.reg; (case hR => dsimp only [prepL, prepO, List.map, gS, gZ]; exact iZ); (case hr => (repeat (first
 | (apply RT.op; simp [envOf, aG, Oc.cells, Cl.cells, dL, dS, dI, h14, int_bne, int_beq, hix, hc', hF']; exact iZ; (try dsimp only [putEnv]) <;> exact rfl)
 | (apply RT.call; (iterate 2 simp; exact iZ); exact iZ; (iterate 4 simp [envOf, aG, Oc.cells, Cl.cells, dL, dS, dI, h14, int_bne, int_beq, hix, hc', hF']; exact iZ); simp [Is]; (try dsimp only [putEnv]) <;> exact rfl; simp; exact iZ; simp; exact iZ)
 | (apply RT.callV; (iterate 2 simp; exact iZ); exact iZ; (iterate 3 simp [envOf, aG, Oc.cells, Cl.cells, dL, dS, dI, h14, int_bne, int_beq, hix, hc', hF']; exact iZ); (try dsimp only [putEnv]) <;> exact rfl)
 | (apply RT.callI (hd := hI1) (hne := hI2) (hw := hI3) (hwr := hI4); (iterate 2 simp; exact iZ); exact iZ; (iterate 2 simp [envOf, aG, Oc.cells, Cl.cells, dL, dS, dI, h14, int_bne, int_beq, hix, hc', hF']; exact iZ); (try dsimp only [putEnv]) <;> exact rfl; (first | omega | simp))
 | (apply RT.callT (hd := hT1) (hk := hT2); (iterate 2 simp; exact iZ); exact iZ; (iterate 2 simp [envOf, aG, Oc.cells, Cl.cells, dL, dS, dI, h14, int_bne, int_beq, hix, hc', hF']; exact iZ); (try dsimp only [putEnv]) <;> exact rfl)
 | (apply RT.wr; simp [envOf, aG, Oc.cells, Cl.cells, dL, dS, dI, h14, int_bne, int_beq, hix, hc', hF']; exact iZ; (try dsimp only [putEnv]) <;> exact rfl; simp [envOf, aG, Oc.cells, Cl.cells, dL, dS, dI, h14, int_bne, int_beq, hix, hc', hF']; exact iZ; (iterate 2 exact iZ); simp; exact iZ))); exact RT.nil); (case hc => first | (refine checkR_un [(0, 2), (1, 2), (0, 5), (1, 5), (2, 5), (3, 5), (4, 5), (0, 6), (1, 6), (2, 6), (3, 6), (4, 6), (0, 7), (1, 7), (2, 7), (3, 7), (4, 7), (5, 7), (6, 7), (10, 11), (11, 12)] (by kernel_rfl) (by kernel_rfl) rfl ?_; simp [memA, d0, disj_l, disj_r]; done) | (show _ = _; kernel_rfl)); (case ht => simp [envOf, aG, Oc.cells, Cl.cells, dL, dS, dI, h14, int_bne, int_beq, hix, hc', hF']; exact iZ))
 | apply WP.block | apply WP.skip | apply WP.exit | apply WP.ret | refine WP.condT rfl ?_ | refine WP.condF rfl ?_)
  show retQ _ _ _ _ _
  exact ⟨.inr rfl, _, _, rfl, rfl⟩
 rw [if_neg c3] at hF'
 simp only [if_neg c3]
 have c3' := eq_false c3
 by_cases c4 : 16384 < tz o nm
 ·rw [if_pos c4]
  have c4' : (16384 < gz (szL 1099511627776 o.cl) nm) = True := eq_true (by omega)
  repeat (first
 | apply WP.seq
 | (apply WP.reg; (case hR => dsimp only [prepL, prepO, List.map, gS, gZ]; exact iZ); (case hr => (repeat (first
 | (apply RT.op; simp [envOf, aG, Oc.cells, Cl.cells, dL, dS, dI, h14, int_bne, int_beq, hix, hc', hF', c3', c4']; exact iZ; (try dsimp only [putEnv]) <;> exact rfl)
 | (apply RT.call; (iterate 2 simp; exact iZ); exact iZ; (iterate 4 simp [envOf, aG, Oc.cells, Cl.cells, dL, dS, dI, h14, int_bne, int_beq, hix, hc', hF', c3', c4']; exact iZ); simp [Is]; (try dsimp only [putEnv]) <;> exact rfl; simp; exact iZ; simp; exact iZ)
 | (apply RT.callV; (iterate 2 simp; exact iZ); exact iZ; (iterate 3 simp [envOf, aG, Oc.cells, Cl.cells, dL, dS, dI, h14, int_bne, int_beq, hix, hc', hF', c3', c4']; exact iZ); (try dsimp only [putEnv]) <;> exact rfl)
 | (apply RT.callI (hd := hI1) (hne := hI2) (hw := hI3) (hwr := hI4); (iterate 2 simp; exact iZ); exact iZ; (iterate 2 simp [envOf, aG, Oc.cells, Cl.cells, dL, dS, dI, h14, int_bne, int_beq, hix, hc', hF', c3', c4']; exact iZ); (try dsimp only [putEnv]) <;> exact rfl; (first | omega | simp))
 | (apply RT.callT (hd := hT1) (hk := hT2); (iterate 2 simp; exact iZ); exact iZ; (iterate 2 simp [envOf, aG, Oc.cells, Cl.cells, dL, dS, dI, h14, int_bne, int_beq, hix, hc', hF', c3', c4']; exact iZ); (try dsimp only [putEnv]) <;> exact rfl)
 | (apply RT.wr; simp [envOf, aG, Oc.cells, Cl.cells, dL, dS, dI, h14, int_bne, int_beq, hix, hc', hF', c3', c4']; exact iZ; (try dsimp only [putEnv]) <;> exact rfl; simp [envOf, aG, Oc.cells, Cl.cells, dL, dS, dI, h14, int_bne, int_beq, hix, hc', hF', c3', c4']; exact iZ; (iterate 2 exact iZ); simp; exact iZ))); exact RT.nil); (case hc => first | (refine checkR_un [(0, 2), (1, 2), (0, 5), (1, 5), (2, 5), (3, 5), (4, 5), (0, 6), (1, 6), (2, 6), (3, 6), (4, 6), (0, 7), (1, 7), (2, 7), (3, 7), (4, 7), (5, 7), (6, 7), (10, 11), (11, 12)] (by kernel_rfl) (by kernel_rfl) rfl ?_; simp [memA, d0, disj_l, disj_r]; done) | (show _ = _; kernel_rfl)); (case ht => simp [envOf, aG, Oc.cells, Cl.cells, dL, dS, dI, h14, int_bne, int_beq, hix, hc', hF', c3', c4']; exact iZ))
 | apply WP.block | apply WP.skip | apply WP.exit | apply WP.ret | refine WP.condT rfl ?_ | refine WP.condF rfl ?_)
  show retQ _ _ _ _ _
  exact ⟨.inr rfl, _, _, rfl, rfl⟩
 ·rw [if_neg c4]
  have c4' : (16384 < gz (szL 1099511627776 o.cl) nm) = False := eq_false (by omega)
  have hsp := tzI_app o c.mems.length (c.ins.take (ixP (fun d : Ii => decide (d.nm = inst)) c.ins).toNat) (c.ins.drop (ixP (fun d : Ii => decide (d.nm = inst)) c.ins).toNat)
  rw [List.take_append_drop, ← htz] at hsp
  have hge := tzI_ge o (c.ins.drop (ixP (fun d : Ii => decide (d.nm = inst)) c.ins).toNat) (tzI o c.mems.length (c.ins.take (ixP (fun d : Ii => decide (d.nm = inst)) c.ins).toNat))
  rw [← hsp] at hge
  rw [szF_exact (by omega) _ _ (by omega) (by omega)] at hF'
  repeat (first
 | apply WP.seq
 | (apply WP.reg; (case hR => dsimp only [prepL, prepO, List.map, gS, gZ]; exact iZ); (case hr => (repeat (first
 | (apply RT.op; simp [envOf, aG, Oc.cells, Cl.cells, dL, dS, dI, h14, int_bne, int_beq, hix, hc', hF', c3', c4']; exact iZ; (try dsimp only [putEnv]) <;> exact rfl)
 | (apply RT.call; (iterate 2 simp; exact iZ); exact iZ; (iterate 4 simp [envOf, aG, Oc.cells, Cl.cells, dL, dS, dI, h14, int_bne, int_beq, hix, hc', hF', c3', c4']; exact iZ); simp [Is]; (try dsimp only [putEnv]) <;> exact rfl; simp; exact iZ; simp; exact iZ)
 | (apply RT.callV; (iterate 2 simp; exact iZ); exact iZ; (iterate 3 simp [envOf, aG, Oc.cells, Cl.cells, dL, dS, dI, h14, int_bne, int_beq, hix, hc', hF', c3', c4']; exact iZ); (try dsimp only [putEnv]) <;> exact rfl)
 | (apply RT.callI (hd := hI1) (hne := hI2) (hw := hI3) (hwr := hI4); (iterate 2 simp; exact iZ); exact iZ; (iterate 2 simp [envOf, aG, Oc.cells, Cl.cells, dL, dS, dI, h14, int_bne, int_beq, hix, hc', hF', c3', c4']; exact iZ); (try dsimp only [putEnv]) <;> exact rfl; (first | omega | simp))
 | (apply RT.callT (hd := hT1) (hk := hT2); (iterate 2 simp; exact iZ); exact iZ; (iterate 2 simp [envOf, aG, Oc.cells, Cl.cells, dL, dS, dI, h14, int_bne, int_beq, hix, hc', hF', c3', c4']; exact iZ); (try dsimp only [putEnv]) <;> exact rfl)
 | (apply RT.wr; simp [envOf, aG, Oc.cells, Cl.cells, dL, dS, dI, h14, int_bne, int_beq, hix, hc', hF', c3', c4']; exact iZ; (try dsimp only [putEnv]) <;> exact rfl; simp [envOf, aG, Oc.cells, Cl.cells, dL, dS, dI, h14, int_bne, int_beq, hix, hc', hF', c3', c4']; exact iZ; (iterate 2 exact iZ); simp; exact iZ))); exact RT.nil); (case hc => first | (refine checkR_un [(0, 2), (1, 2), (0, 5), (1, 5), (2, 5), (3, 5), (4, 5), (0, 6), (1, 6), (2, 6), (3, 6), (4, 6), (0, 7), (1, 7), (2, 7), (3, 7), (4, 7), (5, 7), (6, 7), (10, 11), (11, 12)] (by kernel_rfl) (by kernel_rfl) rfl ?_; simp [memA, d0, disj_l, disj_r]; done) | (show _ = _; kernel_rfl)); (case ht => simp [envOf, aG, Oc.cells, Cl.cells, dL, dS, dI, h14, int_bne, int_beq, hix, hc', hF', c3', c4']; exact iZ))
 | apply WP.block | apply WP.skip | apply WP.exit | apply WP.ret | refine WP.condT rfl ?_ | refine WP.condF rfl ?_)
  show retQ _ _ _ _ _
  exact ⟨.inr rfl, _, _, rfl, rfl⟩
end Go.Ac
end

section
set_option maxRecDepth 4000
namespace Go.Ac
open Go.Proofs
theorem resE_no3 (o : Int) (l : List Int) : (resE o l).2 ≠ 3 := by
 unfold resE
 repeat' split
 all_goals simp
theorem kindO_no3 (w : Pl) (k o t v : Int) (nm : Tx) (l : List Int) : (kindO w k o t v nm l).2 ≠ 3 := by
 unfold kindO
 repeat' split
 all_goals first | apply resE_no3 | simp
mutual
theorem kindW_no3 (w : Pl) : ∀ x : X, (kindW w x).2 ≠ 3
 | .mk k o t v nm args => by
  rw [kindW]
  split
  ·exact kindsW_no3 w args
  ·apply kindO_no3
theorem kindsW_no3 (w : Pl) : ∀ l : List X, (kindsW w l).2 ≠ 3
 | [] => by rw [kindsW]; simp
 | x :: r => by
  rw [kindsW]
  repeat' split
  ·exact kindW_no3 w x
  ·exact kindsW_no3 w r
  ·simp
end
theorem exprW_no3 (w : Pl) (x : X) : (exprW w x).2 ≠ 3 := by
 unfold exprW; split
 ·exact kindW_no3 w x
 ·simp
theorem targetW_no3 (w : Pl) (nm : Tx) (t : Int) : targetW w nm t ≠ 3 := by
 unfold targetW
 repeat' split
 all_goals simp
theorem argE_no3 (w : Pl) (x : X) (d : Dc) : argE w x d ≠ 3 := by
 unfold argE
 repeat' split
 all_goals first | apply exprW_no3 | simp
theorem outE_no3 (w : Pl) (p : List Tx) (x : Tx) (d : Dc) : outE w p x d ≠ 3 := by
 unfold outE
 repeat' split
 all_goals first | apply targetW_no3 | simp
theorem argsW_no3 (w : Pl) : ∀ (l : List X) (m : List Dc), argsW w l m ≠ 3
 | [], m => by rw [argsW_nil]; simp
 | x :: r, [] => by rw [argsW] <;> simp
 | x :: r, d :: m => by
  rw [argsW]
  repeat' split
  all_goals first | exact argsW_no3 w r m | apply argE_no3 | simp
theorem outsW_no3 (w : Pl) : ∀ (l : List Tx) (p : List Tx) (m : List Dc), outsW w p l m ≠ 3
 | [], p, m => by rw [outsW_nil]; simp
 | x :: r, p, [] => by rw [outsW] <;> simp
 | x :: r, p, d :: m => by
  rw [outsW]
  repeat' split
  all_goals first | exact outsW_no3 w r _ m | apply outE_no3 | simp
theorem callW_no3 (w : Pl) (y : Y) : callW w y ≠ 3 := by
 unfold callW
 repeat' split
 all_goals first | apply argsW_no3 | apply outsW_no3 | simp
mutual
theorem stmtW_no3 (o : Oc) (c : Cl) : ∀ (y : Y) (cx : List Pr) (bf : List Y), stmtW o c cx bf y ≠ 3
 | .mk k nm t r outs args brs, cx, bf => by
  rw [stmtW]
  repeat' split
  all_goals first | apply exprW_no3 | apply targetW_no3 | apply callW_no3 | apply brsW_no3 | simp
theorem listW_no3 (o : Oc) (c : Cl) : ∀ (l : List Y) (cx : List Pr) (bf : List Y), listW o c cx bf l ≠ 3
 | [], cx, bf => by rw [listW]; simp
 | y :: r, cx, bf => by
  rw [listW]
  split
  ·apply stmtW_no3
  ·apply listW_no3
theorem brsW_no3 (o : Oc) (c : Cl) : ∀ (l : List (List Y)) (cx : List Pr) (bf : List Y) (nm : Tx) (k : Nat), brsW o c cx bf nm k l ≠ 3
 | [], cx, bf, nm, k => by rw [brsW]; simp
 | b :: r, cx, bf, nm, k => by
  rw [brsW]
  split
  ·apply listW_no3
  ·apply brsW_no3
end
theorem declsW_no3 (en : List En) : ∀ l : List Dc, declsW en l ≠ 3
 | [] => by rw [declsW]; simp
 | d :: r => by
  rw [declsW]
  repeat' split
  all_goals first | exact declsW_no3 en r | simp
theorem headW_no3 (o : Oc) (i : Nat) (c : Cl) : headW o i c ≠ 3 := by
 unfold headW
 repeat' split
 all_goals first | apply declsW_no3 | simp
theorem classW_no3 (o : Oc) (i : Nat) (c : Cl) : classW o i c ≠ 3 := by
 unfold classW
 repeat' split
 all_goals first | apply headW_no3 | apply listW_no3 | simp
theorem allW_no3 (o : Oc) : ∀ (l : List Cl) (i : Nat), allW o i l ≠ 3
 | [], i => by rw [allW]; simp
 | c :: r, i => by
  rw [allW]
  split
  ·apply classW_no3
  ·exact allW_no3 o r _
theorem checkRef_no3 (o : Oc) : checkRef o ≠ 3 := by
 unfold checkRef
 repeat' split
 all_goals first | apply allW_no3 | simp
end Go.Ac
end
