/- Expressions, targets and stores, the program's. -/
import Derived.Test.YtmjkclonkhempabGreatDoorEmPfM
set_option linter.unusedVariables false
set_option linter.unusedSimpArgs false
section
set_option maxRecDepth 4000
namespace Go.Ac
open Go.Proofs
/-! ### Names that follow one another -/
theorem of_1_1 (n : Nat) : n + 1 + 1 = n + 2 := rfl
theorem of_1_2 (n : Nat) : n + 1 + 2 = n + 3 := rfl
theorem of_1_3 (n : Nat) : n + 1 + 3 = n + 4 := rfl
theorem of_2_1 (n : Nat) : n + 2 + 1 = n + 3 := rfl
theorem of_2_2 (n : Nat) : n + 2 + 2 = n + 4 := rfl
theorem of_2_3 (n : Nat) : n + 2 + 3 = n + 5 := rfl
theorem of_3_1 (n : Nat) : n + 3 + 1 = n + 4 := rfl
theorem of_3_2 (n : Nat) : n + 3 + 2 = n + 5 := rfl
theorem of_3_3 (n : Nat) : n + 3 + 3 = n + 6 := rfl
theorem of_4_1 (n : Nat) : n + 4 + 1 = n + 5 := rfl
theorem of_4_2 (n : Nat) : n + 4 + 2 = n + 6 := rfl
theorem of_4_3 (n : Nat) : n + 4 + 3 = n + 7 := rfl
theorem of_5_1 (n : Nat) : n + 5 + 1 = n + 6 := rfl
theorem of_5_2 (n : Nat) : n + 5 + 2 = n + 7 := rfl
theorem of_5_3 (n : Nat) : n + 5 + 3 = n + 8 := rfl
theorem of_6_1 (n : Nat) : n + 6 + 1 = n + 7 := rfl
theorem of_6_2 (n : Nat) : n + 6 + 2 = n + 8 := rfl
theorem of_6_3 (n : Nat) : n + 6 + 3 = n + 9 := rfl
theorem of_7_1 (n : Nat) : n + 7 + 1 = n + 8 := rfl
theorem of_7_2 (n : Nat) : n + 7 + 2 = n + 9 := rfl
theorem of_7_3 (n : Nat) : n + 7 + 3 = n + 10 := rfl
theorem of_8_1 (n : Nat) : n + 8 + 1 = n + 9 := rfl
theorem of_8_2 (n : Nat) : n + 8 + 2 = n + 10 := rfl
theorem of_8_3 (n : Nat) : n + 8 + 3 = n + 11 := rfl
theorem of_9_1 (n : Nat) : n + 9 + 1 = n + 10 := rfl
theorem of_9_2 (n : Nat) : n + 9 + 2 = n + 11 := rfl
theorem of_9_3 (n : Nat) : n + 9 + 3 = n + 12 := rfl
theorem of_lt1 (n : Nat) : (n + 1 < n) = False := eq_false (by omega)
theorem of_lt2 (n : Nat) : (n + 2 < n) = False := eq_false (by omega)
theorem of_lt3 (n : Nat) : (n + 3 < n) = False := eq_false (by omega)
theorem of_lt4 (n : Nat) : (n + 4 < n) = False := eq_false (by omega)
theorem of_lt5 (n : Nat) : (n + 5 < n) = False := eq_false (by omega)
theorem of_lt6 (n : Nat) : (n + 6 < n) = False := eq_false (by omega)
theorem of_lt7 (n : Nat) : (n + 7 < n) = False := eq_false (by omega)
theorem of_lt8 (n : Nat) : (n + 8 < n) = False := eq_false (by omega)
theorem of_lt9 (n : Nat) : (n + 9 < n) = False := eq_false (by omega)
attribute [simp] of_1_1 of_1_2 of_1_3 of_2_1 of_2_2 of_2_3 of_3_1 of_3_2 of_3_3 of_4_1 of_4_2 of_4_3 of_5_1 of_5_2 of_5_3 of_6_1 of_6_2 of_6_3 of_7_1 of_7_2 of_7_3 of_8_1 of_8_2 of_8_3 of_9_1 of_9_2 of_9_3 of_lt1 of_lt2 of_lt3 of_lt4 of_lt5 of_lt6 of_lt7 of_lt8 of_lt9
/-! ### Maps -/
/-- The value under a name. -/
def mget {α : Type} (l : List (Tx × α)) (x : Tx) : Option α := (l.find? (fun p => decide (p.1 = x))).map (·.2)
/-- A map, as the machine keeps it. -/
def mpC {α : Type} (e : α → V) (l : List (Tx × α)) : V := .mpc (l.map fun p => .str p.1) (l.map fun p => e p.2) (List.range l.length) l.length
theorem findV_mp {α : Type} (x : Tx) : ∀ (l : List (Tx × α)) (j : Nat), findV (.str x) (l.map fun p => D.str p.1) j = some ((l.findIdx? (fun p => decide (p.1 = x))).map (j + ·))
 | [], j => rfl
 | p :: r, j => by
  have ih := findV_mp x r (j + 1)
  simp only [List.map_cons, findV, keyEq, List.findIdx?_cons]
  by_cases h : p.1 = x
  ·have : (x == p.1) = true := by simp [h]
   rw [this, if_pos (by simp [h])]; rfl
  ·have : (x == p.1) = false := by simp; exact fun e => h e.symm
   rw [this, if_neg (by simp [h])]
   simp only [ih, Option.map_map]
   congr 2
   funext i; simp; omega
theorem mget_idx {α : Type} (x : Tx) : ∀ (l : List (Tx × α)), (match l.findIdx? (fun p => decide (p.1 = x)) with | some i => (l[i]?).map (·.2) | none => none) = mget l x
 | [] => rfl
 | p :: r => by
  have ih := mget_idx x r
  unfold mget at *
  simp only [List.findIdx?_cons, List.find?_cons]
  by_cases h : p.1 = x
  ·simp [h]
  ·simp only [h, decide_false, if_false, Bool.false_eq_true]
   rw [← ih]
   cases List.findIdx? (fun p => decide (p.1 = x)) r with
   | none => rfl
   | some i => simp
theorem lookup_mp {α : Type} (e : α → V) (l : List (Tx × α)) {id g : Nat} {ro ok : Bool} {z : V} {sz by_ : Nat} {zr : Option (List V)} {look : Look} {x : Tx} (h : look id = some ⟨g, ro, [mpC e l]⟩) :
  lookupV look ⟨.str, sz, by_, zr⟩ (some z) (.mp id g) (.d (.str x)) ok = some ⟨lookRes ok (match mget l x with | some v => e v | none => z) (mget l x).isSome, [], [id], 0, 0, false⟩ := by
 unfold lookupV
 have hl : live look id g = some ⟨g, ro, [mpC e l]⟩ := by unfold live; rw [h]; simp
 simp only [keyOK, hl, mpC, findV_mp]
 rw [← mget_idx]
 cases hf : List.findIdx? (fun p => decide (p.1 = x)) l with
 | none => rfl
 | some i =>
  have hi : i < l.length := (List.findIdx?_eq_some_iff_getElem.1 hf).1
  simp only [Option.map_some, Nat.zero_add, List.getElem?_map, List.getElem?_eq_getElem hi, Option.map_some]
  rfl
theorem zt3 : zeroT Tryz.prog 3 = some (.d (.int .i64 0)) := by kernel_rfl
theorem zt4 : zeroT Tryz.prog 4 = some (.d (.bool false)) := by kernel_rfl
theorem zt39 : zeroT Tryz.prog 39 = some (.agg [.d (.str []), .full [], .full [], .full [], .full [], .full [], .full []]) := by kernel_rfl

/-! ### Calls for all memories that agree with one -/
theorem lim_fn {P : Program} {cfg : Cfg} {f : FuncId} {vs : List V} {v : V} {C : Hp → Nat → Prop} (h : ∀ hp n c, C hp n → QuietV P cfg f vs hp n c v) :
  ∃ (F : Hp → Nat → Nat → Hp) (G : Hp → Nat → Nat → Nat), ∀ hp n c, C hp n → lim P cfg f vs hp n c = some ⟨v, F hp n c, n, G hp n c, []⟩ := by
 classical
 refine ⟨fun hp n c => if hc : C hp n then Classical.choose (h hp n c hc) else [], fun hp n c => if hc : C hp n then Classical.choose (Classical.choose_spec (h hp n c hc)) else 0, fun hp n c hc => ?_⟩
 simp only [dif_pos hc]
 exact Classical.choose_spec (Classical.choose_spec (h hp n c hc))
theorem Ag_set {n k : Nat} {hp hp' : Hp} {o : Ob} (h : n ≤ k) : Ag n hp (hp'.set k o) = Ag n hp hp' := by
 refine propext ⟨fun a id hi => ?_, fun a id hi => ?_⟩
 ·have := a id hi; rwa [Hp.get_set_ne _ _ _ _ (by omega)] at this
 ·rw [Hp.get_set_ne _ _ _ _ (by omega)]; exact a id hi
theorem Ag_trunc {n k : Nat} {hp hp' : Hp} (h : n ≤ k) : Ag n hp (Hp.trunc k hp') = Ag n hp hp' := by
 refine propext ⟨fun a id hi => ?_, fun a id hi => ?_⟩
 ·have := a id hi; rwa [Hp.get_trunc _ _ _ (by omega)] at this
 ·rw [Hp.get_trunc _ _ _ (by omega)]; exact a id hi
theorem get_trunc_lt {k id : Nat} {hp : Hp} (h : id < k) : (Hp.trunc k hp).get id = hp.get id := Hp.get_trunc _ _ _ h
theorem Ag_refl (n : Nat) (hp : Hp) : Ag n hp hp = True := eq_true (Ag.refl n hp)
theorem Hp.get_set (h : Hp) (k t : Nat) (o : Ob) : (Hp.set h k o).get t = if k = t then some o else h.get t := by
 split
 ·rename_i hk; subst hk; exact Hp.get_set_self ..
 ·rename_i hk; exact Hp.get_set_ne _ _ _ _ hk
/-- New names are none of the old. -/
theorem nf {n id : Nat} (h : id < n) : (n = id) = False ∧ (n + 1 = id) = False ∧ (n + 2 = id) = False ∧ (n + 3 = id) = False ∧ (n + 4 = id) = False ∧ (n + 5 = id) = False ∧ (n + 6 = id) = False ∧ (n + 7 = id) = False := by
 refine ⟨?_, ?_, ?_, ?_, ?_, ?_, ?_, ?_⟩ <;> exact eq_false (by omega)
/-- A memory in which a class object lies. -/
structure KAt (ic gc iv gv ip gp im gm ii gi : Nat) (o : Oc) (ea : List Cl) (c : Cl) (hp : Hp) (n : Nat) : Prop where
 co : hp.get ic = some ⟨gc, false, [V.d (.slice (encE o.en)), V.d (.slice (encC ea)), V.d (.str c.nm), V.d (.slice (encD c.inn)), V.d (.slice (encD c.out)), V.d (.slice (encD c.loc)), V.d (.slice (encM c.mems)), V.d (.slice (encJ c.ins)), V.d (.slice (encY c.step)), .mp iv gv, .mp ip gp, .mp im gm, .mp ii gi]⟩
 vars : ∃ l, hp.get iv = some ⟨gv, false, [mpC (fun t : Int => V.d (.int .i64 t)) l]⟩ ∧ ∀ x, mget l x = if getT c x = 0 then none else some (getT c x)
 ports : ∃ l, hp.get ip = some ⟨gp, false, [mpC (fun b : Bool => V.d (.bool b)) l]⟩ ∧ ∀ x, mget l x = if setT c x = 0 then none else some true
 mems : ∃ l, hp.get im = some ⟨gm, false, [mpC (fun t : Int => V.d (.int .i64 t)) l]⟩ ∧ ∀ x, mget l x = if findM c.mems x = 0 then none else some (findM c.mems x)
 ins : ∃ l, hp.get ii = some ⟨gi, false, [mpC (fun k : Cl => aG k.cells) l]⟩ ∧ ∀ x, mget l x = if (findI c.ins o.cl x).2 = true then some (findI c.ins o.cl x).1 else none
 lc : ic < n
 lv : iv < n
 lp : ip < n
 lm : im < n
 li : ii < n
theorem KAt.ag {ic gc iv gv ip gp im gm ii gi : Nat} {o : Oc} {ea : List Cl} {c : Cl} {hp hp' : Hp} {n n' : Nat} (h : KAt ic gc iv gv ip gp im gm ii gi o ea c hp n) (ha : Ag n hp hp') (hn : n ≤ n') : KAt ic gc iv gv ip gp im gm ii gi o ea c hp' n' := by
 obtain ⟨h1, h2, h3, h4, h5, l1, l2, l3, l4, l5⟩ := h
 rw [← ha _ l1] at h1
 rw [← ha _ l2] at h2
 rw [← ha _ l3] at h3
 rw [← ha _ l4] at h4
 rw [← ha _ l5] at h5
 exact ⟨h1, h2, h3, h4, h5, by omega, by omega, by omega, by omega, by omega⟩
/-- A call that is quiet wherever the class object lies. -/
def QK (ic gc iv gv ip gp im gm ii gi : Nat) (o : Oc) (ea : List Cl) (c : Cl) (f : FuncId) (vs : List V) (v : V) : Prop := ∀ hp n cc, KAt ic gc iv gv ip gp im gm ii gi o ea c hp n → QuietV Tryz.prog Ob.cfg f vs hp n cc v
section
variable {ic gc iv gv ip gp im gm ii gi : Nat} {o : Oc} {ea : List Cl} {c : Cl} {hp : Hp} {n : Nat}
theorem QK.fn {f : FuncId} {vs : List V} {v : V} (h : QK ic gc iv gv ip gp im gm ii gi o ea c f vs v) (hK : KAt ic gc iv gv ip gp im gm ii gi o ea c hp n) :
  ∃ (F : Hp → Nat → Nat → Hp) (G : Hp → Nat → Nat → Nat), ∀ hp' n' cc, Ag n hp hp' → n ≤ n' → lim Tryz.prog Ob.cfg f vs hp' n' cc = some ⟨v, F hp' n' cc, n', G hp' n' cc, []⟩ := by
 obtain ⟨F, G, h1⟩ := lim_fn (C := fun hp' n' => Ag n hp hp' ∧ n ≤ n') (P := Tryz.prog) (cfg := Ob.cfg) (f := f) (vs := vs) (v := v) (fun hp' n' cc ha => h hp' n' cc (hK.ag ha.1 ha.2))
 exact ⟨F, G, fun hp' n' cc a b => h1 hp' n' cc ⟨a, b⟩⟩
theorem KAt.look_vars (hK : KAt ic gc iv gv ip gp im gm ii gi o ea c hp n) {look : Look} {sz by_ : Nat} {zr : Option (List V)} {x : Tx} (h : look iv = hp.get iv) :
  lookupV look ⟨.str, sz, by_, zr⟩ (some (.d (.int .i64 0))) (.mp iv gv) (.d (.str x)) true = some ⟨.tuple [.d (.int .i64 (getT c x)), .d (.bool (decide (getT c x ≠ 0)))], [], [iv], 0, 0, false⟩ := by
 obtain ⟨l, h1, h2⟩ := hK.vars
 rw [lookup_mp _ l (h.trans h1), h2]
 by_cases q : getT c x = 0
 ·simp [q, lookRes]
 ·simp [q, lookRes]
theorem KAt.look_vars1 (hK : KAt ic gc iv gv ip gp im gm ii gi o ea c hp n) {look : Look} {sz by_ : Nat} {zr : Option (List V)} {x : Tx} (h : look iv = hp.get iv) :
  lookupV look ⟨.str, sz, by_, zr⟩ (some (.d (.int .i64 0))) (.mp iv gv) (.d (.str x)) false = some ⟨.d (.int .i64 (getT c x)), [], [iv], 0, 0, false⟩ := by
 obtain ⟨l, h1, h2⟩ := hK.vars
 rw [lookup_mp _ l (h.trans h1), h2]
 by_cases q : getT c x = 0
 ·simp [q, lookRes]
 ·simp [q, lookRes]
theorem KAt.look_ports (hK : KAt ic gc iv gv ip gp im gm ii gi o ea c hp n) {look : Look} {sz by_ : Nat} {zr : Option (List V)} {x : Tx} (h : look ip = hp.get ip) :
  lookupV look ⟨.str, sz, by_, zr⟩ (some (.d (.bool false))) (.mp ip gp) (.d (.str x)) false = some ⟨.d (.bool (decide (setT c x ≠ 0))), [], [ip], 0, 0, false⟩ := by
 obtain ⟨l, h1, h2⟩ := hK.ports
 rw [lookup_mp _ l (h.trans h1), h2]
 by_cases q : setT c x = 0
 ·simp [q, lookRes]
 ·simp [q, lookRes]
theorem KAt.look_mems (hK : KAt ic gc iv gv ip gp im gm ii gi o ea c hp n) {look : Look} {sz by_ : Nat} {zr : Option (List V)} {x : Tx} (h : look im = hp.get im) :
  lookupV look ⟨.str, sz, by_, zr⟩ (some (.d (.int .i64 0))) (.mp im gm) (.d (.str x)) true = some ⟨.tuple [.d (.int .i64 (findM c.mems x)), .d (.bool (decide (findM c.mems x ≠ 0)))], [], [im], 0, 0, false⟩ := by
 obtain ⟨l, h1, h2⟩ := hK.mems
 rw [lookup_mp _ l (h.trans h1), h2]
 by_cases q : findM c.mems x = 0
 ·simp [q, lookRes]
 ·simp [q, lookRes]
/-- The cells of a class that is found; else zeros. -/
def foundC (k : Cl × Bool) : V := match k with | (d, true) => aG d.cells | (_, false) => .agg [.d (.str []), .full [], .full [], .full [], .full [], .full [], .full []]
theorem KAt.look_ins (hK : KAt ic gc iv gv ip gp im gm ii gi o ea c hp n) {look : Look} {sz by_ : Nat} {zr : Option (List V)} {x : Tx} (h : look ii = hp.get ii) :
  lookupV look ⟨.str, sz, by_, zr⟩ (some (.agg [.d (.str []), .full [], .full [], .full [], .full [], .full [], .full []])) (.mp ii gi) (.d (.str x)) true = some ⟨.tuple [foundC (findI c.ins o.cl x), .d (.bool (findI c.ins o.cl x).2)], [], [ii], 0, 0, false⟩ := by
 obtain ⟨l, h1, h2⟩ := hK.ins
 rw [lookup_mp _ l (h.trans h1), h2]
 cases q : findI c.ins o.cl x with
 | mk d b => cases b <;> simp [q, lookRes, foundC]
/-- What the walks want of the types of a class. -/
structure KW (o : Oc) (c : Cl) : Prop where
 inn : ∀ x, c.inn.any (fun d => decide (d.nm = x)) = decide (findD c.inn x ≠ 0)
 set : ∀ x, setT c x ≠ 0 → getT c x = setT c x
 i64 : ∀ x, I64 (getT c x)
 linn : c.inn.length ≤ MX
end

theorem kf139 (r : Nat) : Ob.keep 139 r = Ob.k139 r := by kernel_rfl
theorem kf134 (r : Nat) : Ob.keep 134 r = Ob.k134 r := by kernel_rfl
attribute [local simp] kf139 Ob.k139 kf134 Ob.k134
theorem index190 {i1 g1 : Nat} {p : Dc → Bool} (l : List (Dc)) (hl : l.length ≤ MX) (hp : Hp) (n : Nat) (hq : ∀ v, v ∈ l → ∀ hp' c, Ag n hp hp' → Quiet Tryz.prog Ob.cfg 135 [aG v.cells, .ptr i1 g1 0] hp' n c (.bool (p v))) (c : Nat) :
  Quiet Tryz.prog Ob.cfg 139 [dL (encD l), .fn 135 [.ptr i1 g1 0]] hp n c (.int .i64 (ixP p l)) := by
 unfold MX at hl
 refine quiet_wp Tryz.func139 rfl (by kernel_rfl) rfl ?_
 refine wkv (jn @envOf.eq_1 (jn @envOf.eq_2 (jn @dL.eq_1 @encD_len))) ?_
 apply WP.loop' (I := fun d s => ∃ i : Nat, i + d = l.length ∧ (l.take i).all (fun v => !p v) = true ∧ SQ [(0, dL (encD l)), (1, .fn 135 [.ptr i1 g1 0]), (7, dI l.length), (8, dI i)] hp n n s) (d := l.length)
 ·exact ⟨0, by simp, by simp, _, _, Ag.refl n hp, st_eq (by simp [dL, dI]) rfl⟩
 rintro d _ ⟨i, hii, hno, hp', c1, hag, rfl⟩
 refine wkv (jn @dI.eq_1 @dL.eq_1) ?_
 show WP _ _ _ _ _ _
 refine WP.cond _ rfl (fun hb => ?_) (fun hb => ?_)
 ·simp at hb
  have hb' : i < l.length := hb
  obtain ⟨v, hv, hvm, hix⟩ := at_lt hb'
  have hv' := encD_at hv
  have hw := w_succ hb' (by omega)
  have hts := all_snoc (p := fun v => !p v) hv
  obtain ⟨h5, h6, h4⟩ := Quiet.fn (fun c => hq v hvm hp' c hag)
  simp only [aG, dL, dI, Dc.cells, List.map_cons, List.map_nil] at h4
  refine wkv (jn @hix (jn @hv' (jn @dL.eq_1 (jn @dI.eq_1 (jn @Dc.cells.eq_1 @h4))))) ?_
  show WP _ _ _ _ _ _
  refine WP.cond _ rfl (fun hb => ?_) (fun hb => ?_)
  ·refine wkv True.intro ?_
   rw [ixP_some hno hv hb]
   exact ⟨.inr rfl, rfl, _, rfl, rfl⟩
  ·refine wkv True.intro ?_
   refine loop_next (by simp [hw]; exact Is.rfl) ?_
   exact ⟨d - 1, by omega, i + 1, by omega, by rw [hts, hno]; simpa using hb, _, _, hag.trunc, st_eq (by simp [dI, dL, hw]) rfl⟩
 ·simp at hb
  have hil : i = l.length := by omega
  subst hil
  rw [List.take_length] at hno
  refine wkv True.intro ?_
  rw [ixP_none hno]
  exact ⟨.inr rfl, rfl, _, rfl, rfl⟩
theorem contains171 {i1 g1 : Nat} {p : Dc → Bool} (l : List (Dc)) (hl : l.length ≤ MX) (hp : Hp) (n : Nat) (hq : ∀ v, v ∈ l → ∀ hp' c, Ag n hp hp' → Quiet Tryz.prog Ob.cfg 135 [aG v.cells, .ptr i1 g1 0] hp' n c (.bool (p v))) (c : Nat) :
  Quiet Tryz.prog Ob.cfg 134 [dL (encD l), .fn 135 [.ptr i1 g1 0]] hp n c (.bool (l.any p)) := by
 obtain ⟨h5, h6, h4⟩ := Quiet.fn (fun c => index190 (p := p) l hl hp n hq c)
 simp only [dL] at h4
 rw [← ixP_any]
 refine quiet_wp Tryz.func134 rfl (by kernel_rfl) rfl ?_
 refine wkv (jn @envOf.eq_1 (jn @envOf.eq_2 (jn @dL.eq_1 @h4))) ?_
 exact ⟨.inr rfl, rfl, _, rfl, rfl⟩

theorem kf135 (r : Nat) : Ob.keep 135 r = Ob.k135 r := by kernel_rfl
theorem kf121 (r : Nat) : Ob.keep 121 r = Ob.k121 r := by kernel_rfl
attribute [local simp] kf135 Ob.k135 kf121 Ob.k121
theorem ready172 {nm : Tx} {i1 g1 : Nat} (d : Dc) (hp : Hp) (n c : Nat) (h1 : hp.get i1 = some ⟨g1, false, [dS nm]⟩) (l1 : i1 < n) : Quiet Tryz.prog Ob.cfg 135 [aG d.cells, .ptr i1 g1 0] hp n c (.bool (decide (d.nm = nm))) := by
 have ne := nf l1
 simp only [dS] at h1
 refine quiet_wp Tryz.func135 rfl (by kernel_rfl) rfl ?_
 refine wkv (jn @envOf.eq_1 (jn @envOf.eq_2 (jn @aG.eq_1 (jn @Dc.cells.eq_1 (jn @Hp.get_set (jn @ne (jn @h1 @tx_beq))))))) ?_
 exact ⟨.inr rfl, rfl, _, rfl, rfl⟩
section
variable {ic gc iv gv ip gp im gm ii gi : Nat} {o : Oc} {ea : List Cl} {c : Cl}
set_option maxHeartbeats 1000000 in
theorem ready151 (hW : KW o c) (nm : Tx) (cx : List Pr) (bl : List (List Y)) (hl : bl.length ≤ MX) (hnb : nbB bl = true) (hb : cx.length + szY bl.flatten ≤ 8388608) :
  QK ic gc iv gv ip gp im gm ii gi o ea c 121 [.ptr ic gc 0, dS nm, pP cx bl] (dI (if readyW ⟨o, c, bl.flatten, cx⟩ nm then 0 else 22)) := by
 intro hp n cc hK
 have hco := hK.co
 have nc := nf hK.lc
 have ha := assigned71 nm false cx bl hl hnb hb
 obtain ⟨F, G, hF⟩ := lim_fn (C := fun hp' n' => hp'.get n = some ⟨cc, false, [dS nm]⟩ ∧ n < n') (P := Tryz.prog) (cfg := Ob.cfg) (f := 134) (vs := [dL (encD c.inn), .fn 135 [.ptr n cc 0]]) (v := .d (.bool (c.inn.any fun d => decide (d.nm = nm))))
  (fun hp' n' c' hC => contains171 (p := fun d => decide (d.nm = nm)) c.inn hW.linn hp' n' (fun v hv hp'' c'' hag => ready172 v hp'' n' c'' ((hag n hC.2).trans hC.1) hC.2) c')
 have hF' := fun hp' n' c' a b => hF hp' n' c' ⟨a, b⟩
 simp only [dL, dS, dB, pP, hW.inn] at ha hF'
 refine quietV_wp Tryz.func121 rfl (by kernel_rfl) rfl (fun _ => rfl) ?_
 unfold readyW
 by_cases q : findD c.inn nm = 0
 ·rw [show decide (findD c.inn nm ≠ 0) = false by simp [q], Bool.false_or]
  simp only [q, ne_eq, not_true_eq_false, decide_false] at hF'
  cases hs : asL nm true cx bl.flatten with
  | true =>
   rw [show asL nm (!false) cx bl.flatten = true from hs] at ha
   refine wkcv (jn @envOf.eq_1 (jn @envOf.eq_2 (jn @dL.eq_1 (jn @dS.eq_1 (jn @pP.eq_1 (jn @Hp.get_set (jn @nc (jn @hco (jn @hF' @ha))))))))) ?_
   exact ⟨.inr rfl, rfl, _, rfl, rfl⟩
  | false =>
   rw [show asL nm (!false) cx bl.flatten = false from hs] at ha
   refine wkcv (jn @envOf.eq_1 (jn @envOf.eq_2 (jn @dL.eq_1 (jn @dS.eq_1 (jn @pP.eq_1 (jn @Hp.get_set (jn @nc (jn @hco (jn @hF' @ha))))))))) ?_
   exact ⟨.inr rfl, rfl, _, rfl, rfl⟩
 ·rw [show decide (findD c.inn nm ≠ 0) = true by simp [q], Bool.true_or]
  simp only [q, ne_eq, not_false_eq_true, decide_true] at hF'
  refine wkcv (jn @envOf.eq_1 (jn @envOf.eq_2 (jn @dL.eq_1 (jn @dS.eq_1 (jn @pP.eq_1 (jn @Hp.get_set (jn @nc (jn @hco (jn @hF' @ha))))))))) ?_
  exact ⟨.inr rfl, rfl, _, rfl, rfl⟩
end
end Go.Ac
end

section
set_option maxRecDepth 4000
namespace Go.Ac
open Go.Proofs
attribute [local simp] Hp.get_set Ag_set Ag_refl Ag_trunc get_trunc_lt
/-- The type that the program gives, though the variable may not be ready. -/
def kindT (w : Pl) (x : X) : Int := if x.k = 2 then getT w.c x.nm else (kindW w x).1
theorem kind2_args {x : X} (hf : formE x = true) (q : x.k = 2) : x.args = [] := by
 rw [formE_eq] at hf
 simp only [formN, q] at hf
 split at hf
 ·cases hf
 ·rename_i n hn
  simp at hn hf
  have : n = 0 := hn.2.symm
  have h1 := hf.1
  rw [this] at h1
  simpa using h1
theorem kindT_ok {w : Pl} {x : X} (hf : formE x = true) (h : (kindW w x).2 = 0) : kindT w x = (kindW w x).1 := by
 unfold kindT
 split
 ·rename_i q
  rw [kindW_eq] at h ⊢
  have ha := kind2_args hf q
  rw [ha] at h ⊢
  simp only [kindsW, kindO, q] at h ⊢
  simp at h ⊢
  split
  ·rename_i hz; simp [hz]
  ·rename_i hz
   simp only [hz, if_false] at h
   split at h
   ·simp [*]
   ·simp at h
 ·rfl
theorem kf137 (r : Nat) : Ob.keep 137 r = Ob.k137 r := by kernel_rfl
attribute [local simp] kf137 Ob.k137
section
variable {ic gc iv gv ip gp im gm ii gi : Nat} {o : Oc} {ea : List Cl} {c : Cl}
/-- A place's lists are not too long. -/
structure BOK (cx : List Pr) (bl : List (List Y)) : Prop where
 len : bl.length ≤ MX
 nb : nbB bl = true
 sz : cx.length + szY bl.flatten ≤ 8388608
set_option maxHeartbeats 4000000 in
theorem typed174 (hW : KW o c) (cx : List Pr) (bl : List (List Y)) (hB : BOK cx bl) : ∀ (N : Nat) (x : X), x.sz < N → formE x = true → x.ok →
  QK ic gc iv gv ip gp im gm ii gi o ea c 137 [.ptr ic gc 0, aG x.cells, pP cx bl] (.tuple [dI (kindT ⟨o, c, bl.flatten, cx⟩ x), dI (kindW ⟨o, c, bl.flatten, cx⟩ x).2]) := by
 intro N
 induction N with
 | zero => intro x h; omega
 | succ N ih =>
 intro x hN hf hok hp n cc hK
 obtain ⟨hf1, hf2, hf3⟩ := formE_l hf
 obtain ⟨hx1, hx2⟩ := X.ok_eq hok
 have hs0 := X.sz_eq x
 refine quietV_wp Tryz.func137 rfl (by kernel_rfl) rfl (fun _ => rfl) ?_
 generalize hw : (⟨o, c, bl.flatten, cx⟩ : Pl) = w at *
 refine wkcv (jn @envOf.eq_1 (jn @envOf.eq_2 (jn @aG.eq_1 (jn @pP.eq_1 (jn @X.cells_eq @dL.eq_1))))) ?_
 apply WP.loop' (I := fun D s => ∃ j g : Nat, j + D = x.args.length ∧ (x.args.take j).all (okK w) = true ∧ ∃ (c' : Nat) (L : List Int) (hp' : Hp), L = (x.args.take j).map (fun y => (kindW w y).1) ∧ Ag n hp hp' ∧
  hp'.get n = some ⟨cc, false, x.cells.map .d⟩ ∧ hp'.get (n + 1) = some ⟨cc + 1, false, [V.d (.slice (encP cx)), V.d (.slice (encB bl))]⟩ ∧ hp'.get (n + 2) = some ⟨g, false, fl (encI L)⟩ ∧
  s = ⟨[(0, .ptr ic gc 0), (4, .ptr n cc 0), (5, .ptr (n + 1) (cc + 1) 0), (8, .osl (n + 2) g 0 j 1 none), (18, dL (encX x.args)), (19, dI x.args.length), (20, dI j)], hp', n + 3, c', n, []⟩) (d := x.args.length)
 ·refine ⟨0, cc + 1 + 1, by simp, by simp, _, [], _, by simp, ?_, ?_, ?_, ?_, st_eq (by simp [dI, dL]) rfl⟩
  ·simp [Ag_set, Ag_refl]
  ·simp [Hp.get_set, X.cells_eq]
  ·simp [Hp.get_set]
  ·simp [Hp.get_set, fl, encI]
 rintro D _ ⟨j, g, hj, hno, c', L, hp', hL, hag, hx0, hx1', hx2', rfl⟩
 have hKp := hK.ag hag (Nat.le_refl n)
 have hco := hKp.co
 have nc := nf hK.lc
 have hagt := eq_true hag
 rw [X.cells_eq] at hx0
 simp only [List.map_cons, List.map_nil] at hx0
 refine wkv (jn @dI.eq_1 @dL.eq_1) ?_
 show WP _ _ _ _ _ _
 refine WP.cond _ rfl (fun hb => ?_) (fun hb => ?_)
 ·simp at hb
  have hb' : j < x.args.length := by omega
  obtain ⟨d, hd, hdm, hix⟩ := at_lt hb'
  have hd' := encX_at hd
  have hwj := w_succ hb' (by omega)
  have hs := all_snoc (p := okK w) hd
  obtain ⟨F, G, hr⟩ := (ih d (by have := mem_szX hdm; omega) (List.all_eq_true.1 hf1 d hdm) ((okX_iff _).1 hx2 d hdm)).fn hK
  simp only [aG, pP, X.cells_eq, List.map_cons, List.map_nil, dI] at hr
  by_cases hz : (kindW w d).2 = 0
  ·rw [hz, kindT_ok (List.all_eq_true.1 hf1 d hdm) hz] at hr
   have hsn := take_snoc hd
   have hLl : L.length = j := by rw [hL]; simp; omega
   have hLs : (x.args.take (j + 1)).map (fun y => (kindW w y).1) = L ++ [(kindW w d).1] := by rw [hsn, hL]; simp
   have r2 := fl_len (encI_row L)
   have r3 := fl_take (encI_row L)
   have r4 := fl_snoc (encI L) [.int .i64 (kindW w d).1]
   have r5 := encI_snoc L (kindW w d).1
   have f5 : fitsB (j + 1) 8 = true := by simp [fitsB]; omega
   rw [r5] at r4
   rw [encI_len, hLl, Nat.mul_one] at r2 r3
   simp only [List.map_cons, List.map_nil] at r4
   refine wkcv (jn @dI.eq_1 (jn @dL.eq_1 (jn @X.cells_eq (jn @hix (jn @hd' (jn @hr (jn @fillV.eq_1 (jn @fillV.eq_2 (jn @closeParts.eq_1 (jn @closeParts.eq_2 (jn @cl2.eq_def (jn @toD_dep (jn @toD_d (jn @nble_d (jn @f5 (jn @r2 (jn @r3 (jn @r4 (jn @Hp.get_set (jn @hx0 (jn @hx1' (jn @hx2' (jn @nc (jn @hco (jn @Ag_set @hagt))))))))))))))))))))))))) ?_
   refine loop_next (by simp [hwj]; exact Is.rfl) ?_
   exact ⟨D - 1, by omega, j + 1, _, by omega, by rw [hs, hno]; simp [okK, hz], _, _, _, hLs.symm, by simp [hag], by simp [hx0, X.cells_eq], by simp [hx1'], by simp; rfl, st_eq (by simp [dI, dL, hwj]) rfl⟩
  ·have hz' := eq_false hz
   have hkk : kindW w x = (0, (kindW w d).2) := by rw [kindW_eq, kindsW_bad w hno hd hz, if_pos hz]
   have hkt : x.k ≠ 2 := fun q => by
    have := kind2_args hf q
    rw [this] at hb'; simp at hb'
   rw [show kindT w x = 0 by unfold kindT; rw [if_neg hkt, hkk], hkk]
   refine wkcv (jn @dI.eq_1 (jn @dL.eq_1 (jn @X.cells_eq (jn @hx0 (jn @hx1' (jn @hx2' (jn @nc (jn @hco (jn @hagt (jn @hix (jn @hd' (jn @hr (jn @hz' @int_bne))))))))))))) ?_
   exact ⟨.inr rfl, rfl, _, rfl, rfl⟩
 ·simp at hb
  have hje : j = x.args.length := by omega
  rw [hje, List.take_length] at hno
  have hks := kindsW_ok w hno
  have hkk : kindW w x = kindO w x.k x.o x.t x.v x.nm (x.args.map (fun y => (kindW w y).1)) := by rw [kindW_eq, hks, if_neg (by simp)]
  have hx : (x.args.take x.args.length).map (fun y => (kindW w y).1) = x.args.map (fun y => (kindW w y).1) := by rw [List.take_length]
  rw [hje, hx] at hL
  rw [← hL] at hkk
  rw [hkk]
  have hLl : L.length = x.args.length := by rw [hL]; simp
  subst hje
  clear hL hx hks
  have hwo : w.o = o := by rw [← hw]
  have hwc : w.c = c := by rw [← hw]
  rcases formE_k hf with q | q | q | q | q
  ·have hh := has15 o.en x.t x.v hx1
   simp only [dL, dI, dB] at hh
   rw [show kindT w x = (kindO w x.k x.o x.t x.v x.nm L).1 by unfold kindT; rw [if_neg (by omega), hkk]]
   cases hz : hasE o.en x.t x.v with
   | true =>
    rw [hz] at hh
    simp only [kindO, q, hwo, hz]
    refine wkcv (jn @dI.eq_1 (jn @dL.eq_1 (jn @X.cells_eq (jn @hx0 (jn @hx1' (jn @hx2' (jn @nc (jn @hco (jn @hagt (jn @q @hh)))))))))) ?_
    exact ⟨.inr rfl, rfl, _, rfl, rfl⟩
   | false =>
    rw [hz] at hh
    simp only [kindO, q, hwo, hz]
    refine wkcv (jn @dI.eq_1 (jn @dL.eq_1 (jn @X.cells_eq (jn @hx0 (jn @hx1' (jn @hx2' (jn @nc (jn @hco (jn @hagt (jn @q @hh)))))))))) ?_
    exact ⟨.inr rfl, rfl, _, rfl, rfl⟩
  ·have hlk := fun (look : Look) (sz by_ : Nat) (zr : Option (List V)) (y : Tx) (h : look iv = hp'.get iv) => hKp.look_vars (look := look) (sz := sz) (by_ := by_) (zr := zr) (x := y) h
   have nv := nf hK.lv
   obtain ⟨F, G, hr⟩ := (ready151 (ic := ic) (gc := gc) (iv := iv) (gv := gv) (ip := ip) (gp := gp) (im := im) (gm := gm) (ii := ii) (gi := gi) (ea := ea) hW x.nm cx bl hB.len hB.nb hB.sz).fn hK
   rw [hw] at hr
   simp only [dS, pP, dI] at hr
   rw [show kindT w x = getT c x.nm by unfold kindT; rw [if_pos q, hwc]]
   by_cases hz : getT c x.nm = 0
   ·simp only [kindO, q, hwc, hz]
    refine wkcv (jn @dI.eq_1 (jn @dL.eq_1 (jn @X.cells_eq (jn @hx0 (jn @hx1' (jn @hx2' (jn @nc (jn @hco (jn @hagt (jn @q (jn @zt3 (jn @lookRes.eq_1 (jn @lookRes.eq_2 (jn @nv (jn @hlk @hz))))))))))))))) ?_
    exact ⟨.inr rfl, rfl, _, rfl, rfl⟩
   have hz' := eq_false hz
   cases hy : readyW w x.nm with
   | true =>
    rw [hy] at hr
    simp only [kindO, q, hwc, hz', hy]
    refine wkcv (jn @dI.eq_1 (jn @dL.eq_1 (jn @X.cells_eq (jn @hx0 (jn @hx1' (jn @hx2' (jn @nc (jn @hco (jn @hagt (jn @q (jn @zt3 (jn @lookRes.eq_1 (jn @lookRes.eq_2 (jn @nv (jn @hlk (jn @hz' @hr)))))))))))))))) ?_
    exact ⟨.inr rfl, rfl, _, rfl, rfl⟩
   | false =>
    rw [hy] at hr
    simp only [kindO, q, hwc, hz', hy]
    refine wkcv (jn @dI.eq_1 (jn @dL.eq_1 (jn @X.cells_eq (jn @hx0 (jn @hx1' (jn @hx2' (jn @nc (jn @hco (jn @hagt (jn @q (jn @zt3 (jn @lookRes.eq_1 (jn @lookRes.eq_2 (jn @nv (jn @hlk (jn @hz' @hr)))))))))))))))) ?_
    exact ⟨.inr rfl, rfl, _, rfl, rfl⟩
  ·have hlk := fun (look : Look) (sz by_ : Nat) (zr : Option (List V)) (y : Tx) (h : look im = hp'.get im) => hKp.look_mems (look := look) (sz := sz) (by_ := by_) (zr := zr) (x := y) h
   have nv := nf hK.lm
   rw [show kindT w x = (kindO w x.k x.o x.t x.v x.nm L).1 by unfold kindT; rw [if_neg (by omega), hkk]]
   by_cases hz : findM c.mems x.nm = 0
   ·simp only [kindO, q, hwc, hz]
    refine wkcv (jn @dI.eq_1 (jn @dL.eq_1 (jn @X.cells_eq (jn @hx0 (jn @hx1' (jn @hx2' (jn @nc (jn @hco (jn @hagt (jn @q (jn @zt3 (jn @lookRes.eq_1 (jn @lookRes.eq_2 (jn @nv (jn @hlk @hz))))))))))))))) ?_
    exact ⟨.inr rfl, rfl, _, rfl, rfl⟩
   have hz' := eq_false hz
   simp only [kindO, q, hwc, hz']
   refine wkcv (jn @dI.eq_1 (jn @dL.eq_1 (jn @X.cells_eq (jn @hx0 (jn @hx1' (jn @hx2' (jn @nc (jn @hco (jn @hagt (jn @q (jn @zt3 (jn @lookRes.eq_1 (jn @lookRes.eq_2 (jn @nv (jn @hlk @hz'))))))))))))))) ?_
   exact ⟨.inr rfl, rfl, _, rfl, rfl⟩
  ·have hg := res193 x.o L
   have r2 := fl_len (encI_row L)
   have r3 := fl_take (encI_row L)
   have r4 := chunk_flat (encI_row L)
   rw [encI_len, Nat.mul_one] at r2 r3
   rw [encI_len] at r4
   rw [hLl] at r2 r3 r4
   simp only [dL, dI] at hg
   rw [show kindT w x = (kindO w x.k x.o x.t x.v x.nm L).1 by unfold kindT; rw [if_neg (by omega), hkk]]
   simp only [kindO, q]
   refine wkcv (jn @dI.eq_1 (jn @dL.eq_1 (jn @X.cells_eq (jn @hx0 (jn @hx1' (jn @hx2' (jn @nc (jn @hco (jn @hagt (jn @q (jn @hg (jn @closeParts.eq_1 (jn @closeParts.eq_2 (jn @cl2.eq_def (jn @toD_dep (jn @toD_d (jn @toDs_fl (jn @r2 (jn @r3 (jn @r4 @nble_d)))))))))))))))))))) ?_
   exact ⟨.inr rfl, rfl, _, rfl, rfl⟩
  ·rw [show kindT w x = (kindO w x.k x.o x.t x.v x.nm L).1 by unfold kindT; rw [if_neg (by omega), hkk]]
   rw [hf2 q] at hLl ⊢
   obtain ⟨a, b, d, rfl⟩ : ∃ a b d, L = [a, b, d] := by
    match L, hLl with
    | [a, b, d], _ => exact ⟨a, b, d, rfl⟩
   have e : fl (encI [a, b, d]) = [.d (.int .i64 a), .d (.int .i64 b), .d (.int .i64 d)] := rfl
   rw [e] at hx2'
   by_cases c1 : a = 1
   case neg =>
    have c1' := eq_false c1
    simp only [kindO, q]
    rw [show (if ([a, b, d].getD 0 0 ≠ 1 ∨ [a, b, d].getD 1 0 ≠ [a, b, d].getD 2 0) then ((0 : Int), (10 : Int)) else ([a, b, d].getD 1 0, 0)) = (0, 10) by simp [c1]]
    refine wkcv (jn @dI.eq_1 (jn @dL.eq_1 (jn @X.cells_eq (jn @hx0 (jn @hx1' (jn @hx2' (jn @nc (jn @hco (jn @hagt (jn @q (jn @c1' (jn @int_bne @idx.eq_def)))))))))))) ?_
    exact ⟨.inr rfl, rfl, _, rfl, rfl⟩
   by_cases c2 : b = d
   case neg =>
    have c2' := eq_false c2
    simp only [kindO, q]
    rw [show (if ([a, b, d].getD 0 0 ≠ 1 ∨ [a, b, d].getD 1 0 ≠ [a, b, d].getD 2 0) then ((0 : Int), (10 : Int)) else ([a, b, d].getD 1 0, 0)) = (0, 10) by simp [c2]]
    refine wkcv (jn @dI.eq_1 (jn @dL.eq_1 (jn @X.cells_eq (jn @hx0 (jn @hx1' (jn @hx2' (jn @nc (jn @hco (jn @hagt (jn @q (jn @c1 (jn @c2' (jn @int_bne @idx.eq_def))))))))))))) ?_
    exact ⟨.inr rfl, rfl, _, rfl, rfl⟩
   simp only [kindO, q]
   rw [show (if ([a, b, d].getD 0 0 ≠ 1 ∨ [a, b, d].getD 1 0 ≠ [a, b, d].getD 2 0) then ((0 : Int), (10 : Int)) else ([a, b, d].getD 1 0, 0)) = (b, 0) by simp [c1, c2]]
   subst c1 c2
   refine wkcv (jn @dI.eq_1 (jn @dL.eq_1 (jn @X.cells_eq (jn @hx0 (jn @hx1' (jn @hx2' (jn @nc (jn @hco (jn @hagt (jn @q (jn @int_bne @idx.eq_def))))))))))) ?_
   exact ⟨.inr rfl, rfl, _, rfl, rfl⟩
end
end Go.Ac
end

section
set_option maxRecDepth 4000
namespace Go.Ac
open Go.Proofs
attribute [local simp] Hp.get_set Ag_set Ag_refl Ag_trunc get_trunc_lt
theorem kf123 (r : Nat) : Ob.keep 123 r = Ob.k123 r := by kernel_rfl
theorem kf124 (r : Nat) : Ob.keep 124 r = Ob.k124 r := by kernel_rfl
theorem kf110 (r : Nat) : Ob.keep 110 r = Ob.k110 r := by kernel_rfl
attribute [local simp] kf123 Ob.k123 kf124 Ob.k124 kf110 Ob.k110
def exprT (w : Pl) (x : X) : Int := if formE x then kindT w x else 0
theorem exprT_ok {w : Pl} {x : X} (h : (exprW w x).2 = 0) : exprT w x = (exprW w x).1 := by
 unfold exprT exprW at *
 split
 ·rename_i hf
  rw [if_pos hf] at h
  exact kindT_ok hf h
 ·rename_i hf
  rw [if_neg hf] at h
def tgtP (w : Pl) (nm : Tx) (twice : Bool) (t : Int) : Int := if setT w.c nm = 0 then 6 else if twice then 7 else targetW w nm t
def storeP (w : Pl) (y : Y) : Int := if (exprW w y.r).2 ≠ 0 then (exprW w y.r).2 else if y.k = 1 then targetW w y.nm (exprW w y.r).1 else if findM w.c.mems y.nm = 0 then 6 else if findM w.c.mems y.nm ≠ (exprW w y.r).1 then 10 else 0
section
variable {ic gc iv gv ip gp im gm ii gi : Nat} {o : Oc} {ea : List Cl} {c : Cl}
set_option maxHeartbeats 1000000 in
theorem expr153 (hW : KW o c) (cx : List Pr) (bl : List (List Y)) (hB : BOK cx bl) (x : X) (hx : x.sz ≤ MX) (hok : x.ok) :
  QK ic gc iv gv ip gp im gm ii gi o ea c 123 [.ptr ic gc 0, aG x.cells, pP cx bl] (.tuple [dI (exprT ⟨o, c, bl.flatten, cx⟩ x), dI (exprW ⟨o, c, bl.flatten, cx⟩ x).2]) := by
 intro hp n cc hK
 have ho := object173 _ x (Nat.lt_succ_self _) hx
 simp only [aG, X.cells_eq, List.map_cons, List.map_nil, dB] at ho
 refine quietV_wp Tryz.func123 rfl (by kernel_rfl) rfl (fun _ => rfl) ?_
 unfold exprT exprW
 cases hf : formE x with
 | false =>
  rw [hf] at ho
  refine wkcv (jn @envOf.eq_1 (jn @envOf.eq_2 (jn @aG.eq_1 (jn @pP.eq_1 (jn @X.cells_eq (jn @dL.eq_1 @ho)))))) ?_
  exact ⟨.inr rfl, rfl, _, rfl, rfl⟩
 | true =>
  rw [hf] at ho
  obtain ⟨F, G, hr⟩ := (typed174 hW cx bl hB _ x (Nat.lt_succ_self _) hf hok).fn hK
  simp only [aG, pP, X.cells_eq, List.map_cons, List.map_nil, dI] at hr
  simp only [if_true]
  refine wkcv (jn @envOf.eq_1 (jn @envOf.eq_2 (jn @aG.eq_1 (jn @pP.eq_1 (jn @X.cells_eq (jn @dL.eq_1 (jn @ho @hr))))))) ?_
  exact ⟨.inr rfl, rfl, _, rfl, rfl⟩
set_option maxHeartbeats 1000000 in
theorem target154 (hW : KW o c) (cx : List Pr) (bl : List (List Y)) (hB : BOK cx bl) (nm : Tx) (tw : Bool) (t : Int) :
  QK ic gc iv gv ip gp im gm ii gi o ea c 124 [.ptr ic gc 0, dS nm, pP cx bl, dB tw, dI t] (dI (tgtP ⟨o, c, bl.flatten, cx⟩ nm tw t)) := by
 intro hp n cc hK
 have ha := assigned71 nm true cx bl hB.len hB.nb hB.sz
 have hco := hK.co
 have nc := nf hK.lc
 have np := nf hK.lp
 have nv := nf hK.lv
 have hlp := fun (look : Look) (sz by_ : Nat) (zr : Option (List V)) (y : Tx) (h : look ip = hp.get ip) => hK.look_ports (look := look) (sz := sz) (by_ := by_) (zr := zr) (x := y) h
 have hlv := fun (look : Look) (sz by_ : Nat) (zr : Option (List V)) (y : Tx) (h : look iv = hp.get iv) => hK.look_vars1 (look := look) (sz := sz) (by_ := by_) (zr := zr) (x := y) h
 simp only [dL, dS, dB, pP, Bool.not_true] at ha
 refine quietV_wp Tryz.func124 rfl (by kernel_rfl) rfl (fun _ => rfl) ?_
 unfold tgtP targetW
 by_cases hz : setT c nm = 0
 ·simp only [hz]
  refine wkcv (jn @envOf.eq_1 (jn @envOf.eq_2 (jn @dS.eq_1 (jn @dB.eq_1 (jn @dI.eq_1 (jn @pP.eq_1 (jn @dL.eq_1 (jn @hco (jn @nc (jn @np (jn @hlp (jn @zt4 @hz)))))))))))) ?_
  exact ⟨.inr rfl, rfl, _, rfl, rfl⟩
 have hz' := eq_false hz
 have hg := hW.set nm hz
 cases tw with
 | true =>
  simp only [hz', if_true, if_false]
  refine wkcv (jn @envOf.eq_1 (jn @envOf.eq_2 (jn @dS.eq_1 (jn @dB.eq_1 (jn @dI.eq_1 (jn @pP.eq_1 (jn @dL.eq_1 (jn @hco (jn @nc (jn @np (jn @hlp (jn @zt4 @hz')))))))))))) ?_
  exact ⟨.inr rfl, rfl, _, rfl, rfl⟩
 | false =>
  cases has : asL nm false cx bl.flatten with
  | true =>
   rw [has] at ha
   simp only [hz', if_true, if_false]
   refine wkcv (jn @envOf.eq_1 (jn @envOf.eq_2 (jn @dS.eq_1 (jn @dB.eq_1 (jn @dI.eq_1 (jn @pP.eq_1 (jn @dL.eq_1 (jn @hco (jn @nc (jn @np (jn @hlp (jn @zt4 (jn @hz' @ha))))))))))))) ?_
   exact ⟨.inr rfl, rfl, _, rfl, rfl⟩
  | false =>
   rw [has] at ha
   by_cases ht : setT c nm = t
   ·have ht' := eq_true ht
    rw [if_neg hz, if_neg (by simp), if_neg hz, if_neg (by simp [has]), if_neg (by simp [ht])]
    refine wkcv (jn @envOf.eq_1 (jn @envOf.eq_2 (jn @dS.eq_1 (jn @dB.eq_1 (jn @dI.eq_1 (jn @pP.eq_1 (jn @dL.eq_1 (jn @hco (jn @nc (jn @np (jn @nv (jn @hlp (jn @hlv (jn @zt4 (jn @zt3 (jn @hz' (jn @ha (jn @hg (jn @int_bne @ht'))))))))))))))))))) ?_
    exact ⟨.inr rfl, rfl, _, rfl, rfl⟩
   ·have ht' := eq_false ht
    simp only [hz', if_true, if_false, ne_eq, ht', not_false_eq_true, Bool.false_eq_true]
    refine wkcv (jn @envOf.eq_1 (jn @envOf.eq_2 (jn @dS.eq_1 (jn @dB.eq_1 (jn @dI.eq_1 (jn @pP.eq_1 (jn @dL.eq_1 (jn @hco (jn @nc (jn @np (jn @nv (jn @hlp (jn @hlv (jn @zt4 (jn @zt3 (jn @hz' (jn @ha (jn @hg (jn @int_bne @ht'))))))))))))))))))) ?_
    exact ⟨.inr rfl, rfl, _, rfl, rfl⟩
set_option maxHeartbeats 2000000 in
theorem store136 (hW : KW o c) (cx : List Pr) (bl : List (List Y)) (hB : BOK cx bl) (y : Y) (hy : y.k = 1 ∨ y.k = 2) (hsz : y.sz ≤ MX) (hok : y.ok) :
  QK ic gc iv gv ip gp im gm ii gi o ea c 110 [.ptr ic gc 0, aG y.cells, pP cx bl] (dI (storeP ⟨o, c, bl.flatten, cx⟩ y)) := by
 intro hp n cc hK
 obtain ⟨hy1, hy2, hy3, hy4⟩ := Y.ok_eq hok
 rw [Y.sz_eq] at hsz
 have hco := hK.co
 have nc := nf hK.lc
 have nm := nf hK.lm
 have hlm := fun (look : Look) (sz by_ : Nat) (zr : Option (List V)) (y : Tx) (h : look im = hp.get im) => hK.look_mems (look := look) (sz := sz) (by_ := by_) (zr := zr) (x := y) h
 obtain ⟨F, G, hr⟩ := (expr153 hW cx bl hB y.r (by omega) hy2).fn hK
 simp only [aG, pP, X.cells_eq, List.map_cons, List.map_nil, dI] at hr
 refine quietV_wp Tryz.func110 rfl (by kernel_rfl) rfl (fun _ => rfl) ?_
 unfold storeP
 by_cases he : (exprW ⟨o, c, bl.flatten, cx⟩ y.r).2 = 0
 case neg =>
  have he' := eq_false he
  rw [if_pos he]
  refine wkcv (jn @envOf.eq_1 (jn @envOf.eq_2 (jn @dI.eq_1 (jn @pP.eq_1 (jn @aG.eq_1 (jn @Y.cells_eq (jn @hco (jn @nc (jn @hr (jn @int_bne @he')))))))))) ?_
  exact ⟨.inr rfl, rfl, _, rfl, rfl⟩
 rw [if_neg (by simp [he])]
 rw [he, exprT_ok he] at hr
 generalize (exprW ⟨o, c, bl.flatten, cx⟩ y.r).1 = t at hr ⊢
 rcases hy with q | q
 ·rw [if_pos q]
  obtain ⟨F', G', ht⟩ := (target154 hW cx bl hB y.nm false t).fn hK
  rw [show tgtP ⟨o, c, bl.flatten, cx⟩ y.nm false t = targetW ⟨o, c, bl.flatten, cx⟩ y.nm t by unfold tgtP targetW; split <;> simp [*]] at ht
  simp only [pP, dI, dS, dB] at ht
  refine wkcv (jn @envOf.eq_1 (jn @envOf.eq_2 (jn @dI.eq_1 (jn @pP.eq_1 (jn @aG.eq_1 (jn @Y.cells_eq (jn @hco (jn @nc (jn @hr (jn @int_bne (jn @q @ht))))))))))) ?_
  exact ⟨.inr rfl, rfl, _, rfl, rfl⟩
 rw [if_neg (by omega)]
 by_cases hz : findM c.mems y.nm = 0
 ·simp only [hz]
  refine wkcv (jn @envOf.eq_1 (jn @envOf.eq_2 (jn @dI.eq_1 (jn @pP.eq_1 (jn @aG.eq_1 (jn @Y.cells_eq (jn @hco (jn @nc (jn @nm (jn @hr (jn @int_bne (jn @q (jn @hlm (jn @zt3 @hz)))))))))))))) ?_
  exact ⟨.inr rfl, rfl, _, rfl, rfl⟩
 have hz' := eq_false hz
 by_cases ht : findM c.mems y.nm = t
 ·have ht' := eq_true ht
  rw [if_neg hz, if_neg (by simp [ht])]
  refine wkcv (jn @envOf.eq_1 (jn @envOf.eq_2 (jn @dI.eq_1 (jn @pP.eq_1 (jn @aG.eq_1 (jn @Y.cells_eq (jn @hco (jn @nc (jn @nm (jn @hr (jn @int_bne (jn @q (jn @hlm (jn @zt3 (jn @hz' @ht'))))))))))))))) ?_
  exact ⟨.inr rfl, rfl, _, rfl, rfl⟩
 ·have ht' := eq_false ht
  simp only [hz', if_false, ht', ne_eq, not_false_eq_true, if_true]
  refine wkcv (jn @envOf.eq_1 (jn @envOf.eq_2 (jn @dI.eq_1 (jn @pP.eq_1 (jn @aG.eq_1 (jn @Y.cells_eq (jn @hco (jn @nc (jn @nm (jn @hr (jn @int_bne (jn @q (jn @hlm (jn @zt3 (jn @hz' @ht'))))))))))))))) ?_
  exact ⟨.inr rfl, rfl, _, rfl, rfl⟩
end
end Go.Ac
end
