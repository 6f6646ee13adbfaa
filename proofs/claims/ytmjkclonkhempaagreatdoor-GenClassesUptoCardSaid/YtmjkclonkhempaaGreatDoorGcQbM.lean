/- Check, the program's: it gives what the reference gives. -/
import Derived.Test.YtmjkclonkhempaaGreatDoorGcLM
set_option linter.unusedVariables false
set_option linter.unusedSimpArgs false
section
set_option maxRecDepth 4000
namespace Go.Ac
open Go.Proofs

/-! ### Rows laid flat -/
def fl (l : List (List D)) : List V := l.flatten.map .d
theorem toDs_d (look : Look) (f : Nat) : ∀ l : List D, toDs (toD look f) (l.map V.d) = some (l, [])
 | [] => rfl
 | x :: r => by
  have h1 := toDs_d look f r
  simp only [List.map_cons, toDs, h1, toD_d]; rfl
theorem chunk_flat {sz : Nat} : ∀ {l : List (List D)}, (∀ r ∈ l, r.length = sz) → chunk sz l.length l.flatten = l
 | [], _ => rfl
 | r :: l, h => by
  have h1 := h r (by simp)
  have ih := chunk_flat (l := l) (fun x hx => h x (by simp [hx]))
  simp only [List.length_cons, List.flatten_cons, chunk]
  rw [List.take_append_of_le_length (by omega), List.drop_append_of_le_length (by omega), ← h1, List.take_length, List.drop_length, List.nil_append, h1, ih]
theorem flat_len {sz : Nat} : ∀ {l : List (List D)}, (∀ r ∈ l, r.length = sz) → l.flatten.length = l.length * sz
 | [], _ => by simp
 | r :: l, h => by
  have h1 := h r (by simp)
  have ih := flat_len (l := l) (fun x hx => h x (by simp [hx]))
  simp [ih, h1, Nat.add_mul]; omega
theorem fl_len {sz : Nat} {l : List (List D)} (h : ∀ r ∈ l, r.length = sz) : (fl l).length = l.length * sz := by unfold fl; rw [List.length_map, flat_len h]
theorem fl_take {sz : Nat} {l : List (List D)} (h : ∀ r ∈ l, r.length = sz) : (fl l).take (l.length * sz) = fl l := by rw [← fl_len h, List.take_length]
theorem rows_fl (look : Look) {sz : Nat} {l : List (List D)} (h : ∀ r ∈ l, r.length = sz) : rowsOf look sz (.d (.slice l)) = some (l.length, fl l, []) := by
 have : l.all (fun r => Nat.beq r.length sz) = true := by rw [List.all_eq_true]; intro r hr; rw [h r hr]; exact nbeq_self sz
 simp only [rowsOf, this, if_true]; rfl
theorem toDs_fl (look : Look) (f : Nat) (l : List (List D)) : toDs (toD look f) (fl l) = some (l.flatten, []) := toDs_d look f _
theorem fl_snoc (l : List (List D)) (r : List D) : fl l ++ r.map .d = fl (l ++ [r]) := by unfold fl; simp
theorem close_fl {look : Look} {id g sz : Nat} {ro : Bool} {l : List (List D)} {cap : Option Nat} (h : ∀ r ∈ l, r.length = sz) (hl : look id = some ⟨g, ro, fl l⟩) : closeT look (.osl id g 0 l.length sz cap) = some (dL l, [id]) := by
 show ofD (toD look depthD _) = _
 rw [toD_dep]
 have : live look id g = some ⟨g, ro, fl l⟩ := by simp [live, hl]
 rw [this]
 simp only [Nat.zero_add, List.drop_zero, fl_len h, fl_take h, toDs_fl, chunk_flat h, nble_d, Nat.le_refl, decide_true]
 rfl


end Go.Ac
end

section
set_option maxRecDepth 4000
namespace Go.Ac
open Go.Proofs
/-- A place of which the lists are not too long. -/
structure WOK (w : Pl) : Prop where
 inn : w.c.inn.length ≤ MX
 out : w.c.out.length ≤ MX
 loc : w.c.loc.length ≤ MX
 mems : w.c.mems.length ≤ MX
 ins : w.c.ins.length ≤ MX
 cl : w.o.cl.length ≤ MX
 bf : w.cx.length + szY w.bf ≤ 8388608
end Go.Ac
end

section
set_option maxRecDepth 4000
namespace Go.Ac
open Go.Proofs
theorem encS_row (l : List Tx) : ∀ r ∈ encS l, r.length = 1 := by unfold encS; intro r hr; obtain ⟨x, _, rfl⟩ := List.mem_map.1 hr; rfl
end Go.Ac
end

section
set_option maxRecDepth 4000
namespace Go.Ac
open Go.Proofs
theorem encY_row (l : List Y) : ∀ r ∈ encY l, r.length = 12 := by rw [encY_map]; intro r hr; obtain ⟨x, _, rfl⟩ := List.mem_map.1 hr; rw [Y.cells_eq]; rfl
end Go.Ac
end

section
set_option maxRecDepth 4000
namespace Go.Ac
open Go.Proofs
theorem encS_snoc (l : List Tx) (x : Tx) : encS l ++ [[.str x]] = encS (l ++ [x]) := by unfold encS; simp

end Go.Ac
end

section
set_option maxRecDepth 4000
namespace Go.Ac
open Go.Proofs
theorem any_no {α : Type} {p : α → Bool} {l : List α} (h : l.all (fun a => !p a) = true) : l.any p = false := by
 rw [List.any_eq_false]; intro x hx; simpa using List.all_eq_true.1 h x hx

end Go.Ac
end

section
set_option maxRecDepth 4000
namespace Go.Ac
open Go.Proofs
theorem I64.zero : I64 0 := by unfold I64; omega

end Go.Ac
end

section
set_option maxRecDepth 4000
namespace Go.Ac
open Go.Proofs
/-- Memories that agree below a bound. -/
def Ag (n : Nat) (hp hp' : Hp) : Prop := ∀ id, id < n → hp'.get id = hp.get id
theorem Ag.refl (n : Nat) (hp : Hp) : Ag n hp hp := fun _ _ => rfl
theorem Ag.trunc {n : Nat} {hp hp' : Hp} (h : Ag n hp hp') : Ag n hp (Hp.trunc n hp') := fun id hi => (Hp.get_trunc hp' n id hi).trans (h id hi)
theorem Ag.set {n : Nat} {hp hp' : Hp} {o : Ob} (h : Ag n hp hp') : Ag n hp (hp'.set n o) := fun id hi => (Hp.get_set_ne hp' n id o (by omega)).trans (h id hi)
/-- Where the first is; -1: nowhere. -/
def ixP {α : Type} (p : α → Bool) (l : List α) : Int := match l.findIdx? p with | some i => (i : Int) | none => -1
theorem ixP_some {α : Type} {p : α → Bool} : ∀ {l : List α} {i : Nat} {v : α}, (l.take i).all (fun v => !p v) = true → l[i]? = some v → p v = true → ixP p l = i := by
 intro l i v h hi hv
 have : l.findIdx? p = some i := by
  obtain ⟨hil, hiv⟩ := List.getElem?_eq_some_iff.1 hi
  rw [List.findIdx?_eq_some_iff_getElem]
  refine ⟨hil, by rw [hiv]; exact hv, fun j hj => ?_⟩
  have hj' : j < l.length := by omega
  have hm : l[j] ∈ l.take i := by rw [List.mem_take_iff_getElem]; exact ⟨j, by omega, rfl⟩
  have := List.all_eq_true.1 h _ hm
  simpa using this
 unfold ixP; rw [this]
theorem ixP_none {α : Type} {p : α → Bool} {l : List α} (h : l.all (fun v => !p v) = true) : ixP p l = -1 := by
 have h' : ∀ x, x ∈ l → p x = false := fun x hx => by simpa using List.all_eq_true.1 h x hx
 unfold ixP; rw [List.findIdx?_eq_none_iff.2 h']
theorem ixP_any {α : Type} (p : α → Bool) (l : List α) : decide (0 ≤ ixP p l) = l.any p := by
 unfold ixP
 cases h : l.findIdx? p with
 | some i =>
  have : l.any p = true := by
   obtain ⟨hil, hp, _⟩ := List.findIdx?_eq_some_iff_getElem.1 h
   exact List.any_eq_true.2 ⟨l[i], List.getElem_mem hil, hp⟩
  rw [this]; simp
 | none =>
  have : l.any p = false := by
   rw [List.any_eq_false]; intro x hx; rw [List.findIdx?_eq_none_iff.1 h x hx]; simp
  rw [this]; simp
mutual
/-- No case is without branches. -/
def nbY : Y → Bool
 | .mk k _ _ _ _ _ brs => (!decide (k = 3) || decide (brs ≠ [])) && nbB brs
def nbL : List Y → Bool
 | [] => true
 | y :: r => nbY y && nbL r
def nbB : List (List Y) → Bool
 | [] => true
 | b :: r => nbL b && nbB r
end



end Go.Ac
end

section
set_option maxRecDepth 4000
namespace Go.Ac
open Go.Proofs
/-! ### Names that follow one another -/
theorem of_1_1 (n : Nat) : n + 1 + 1 = n + 2 := rfl
theorem of_1_2 (n : Nat) : n + 1 + 2 = n + 3 := rfl
theorem of_1_3 (n : Nat) : n + 1 + 3 = n + 4 := rfl
theorem of_2_1 (n : Nat) : n + 2 + 1 = n + 3 := rfl
theorem of_2_2 (n : Nat) : n + 2 + 2 = n + 4 := rfl
theorem of_2_3 (n : Nat) : n + 2 + 3 = n + 5 := rfl
theorem of_3_1 (n : Nat) : n + 3 + 1 = n + 4 := rfl
theorem of_3_2 (n : Nat) : n + 3 + 2 = n + 5 := rfl
theorem of_3_3 (n : Nat) : n + 3 + 3 = n + 6 := rfl
theorem of_4_1 (n : Nat) : n + 4 + 1 = n + 5 := rfl
theorem of_4_2 (n : Nat) : n + 4 + 2 = n + 6 := rfl
theorem of_4_3 (n : Nat) : n + 4 + 3 = n + 7 := rfl
theorem of_5_1 (n : Nat) : n + 5 + 1 = n + 6 := rfl
theorem of_5_2 (n : Nat) : n + 5 + 2 = n + 7 := rfl
theorem of_5_3 (n : Nat) : n + 5 + 3 = n + 8 := rfl
theorem of_6_1 (n : Nat) : n + 6 + 1 = n + 7 := rfl
theorem of_6_2 (n : Nat) : n + 6 + 2 = n + 8 := rfl
theorem of_6_3 (n : Nat) : n + 6 + 3 = n + 9 := rfl
theorem of_7_1 (n : Nat) : n + 7 + 1 = n + 8 := rfl
theorem of_7_2 (n : Nat) : n + 7 + 2 = n + 9 := rfl
theorem of_7_3 (n : Nat) : n + 7 + 3 = n + 10 := rfl
theorem of_8_1 (n : Nat) : n + 8 + 1 = n + 9 := rfl
theorem of_8_2 (n : Nat) : n + 8 + 2 = n + 10 := rfl
theorem of_8_3 (n : Nat) : n + 8 + 3 = n + 11 := rfl
theorem of_9_1 (n : Nat) : n + 9 + 1 = n + 10 := rfl
theorem of_9_2 (n : Nat) : n + 9 + 2 = n + 11 := rfl
theorem of_9_3 (n : Nat) : n + 9 + 3 = n + 12 := rfl
theorem of_lt1 (n : Nat) : (n + 1 < n) = False := eq_false (by omega)
theorem of_lt2 (n : Nat) : (n + 2 < n) = False := eq_false (by omega)
theorem of_lt3 (n : Nat) : (n + 3 < n) = False := eq_false (by omega)
theorem of_lt4 (n : Nat) : (n + 4 < n) = False := eq_false (by omega)
theorem of_lt5 (n : Nat) : (n + 5 < n) = False := eq_false (by omega)
theorem of_lt6 (n : Nat) : (n + 6 < n) = False := eq_false (by omega)
theorem of_lt7 (n : Nat) : (n + 7 < n) = False := eq_false (by omega)
theorem of_lt8 (n : Nat) : (n + 8 < n) = False := eq_false (by omega)
theorem of_lt9 (n : Nat) : (n + 9 < n) = False := eq_false (by omega)
attribute [simp] of_1_1 of_1_2 of_1_3 of_2_1 of_2_2 of_2_3 of_3_1 of_3_2 of_3_3 of_4_1 of_4_2 of_4_3 of_5_1 of_5_2 of_5_3 of_6_1 of_6_2 of_6_3 of_7_1 of_7_2 of_7_3 of_8_1 of_8_2 of_8_3 of_9_1 of_9_2 of_9_3 of_lt1 of_lt2 of_lt3 of_lt4 of_lt5 of_lt6 of_lt7 of_lt8 of_lt9
/-! ### Maps -/
/-- The value under a name. -/
def mget {α : Type} (l : List (Tx × α)) (x : Tx) : Option α := (l.find? (fun p => decide (p.1 = x))).map (·.2)
/-- A map, as the machine keeps it. -/
def mpC {α : Type} (e : α → V) (l : List (Tx × α)) : V := .mpc (l.map fun p => .str p.1) (l.map fun p => e p.2) (List.range l.length) l.length
theorem findV_mp {α : Type} (x : Tx) : ∀ (l : List (Tx × α)) (j : Nat), findV (.str x) (l.map fun p => D.str p.1) j = some ((l.findIdx? (fun p => decide (p.1 = x))).map (j + ·))
 | [], j => rfl
 | p :: r, j => by
  have ih := findV_mp x r (j + 1)
  simp only [List.map_cons, findV, keyEq, List.findIdx?_cons]
  by_cases h : p.1 = x
  ·have : (x == p.1) = true := by simp [h]
   rw [this, if_pos (by simp [h])]; rfl
  ·have : (x == p.1) = false := by simp; exact fun e => h e.symm
   rw [this, if_neg (by simp [h])]
   simp only [ih, Option.map_map]
   congr 2
   funext i; simp; omega
theorem mget_idx {α : Type} (x : Tx) : ∀ (l : List (Tx × α)), (match l.findIdx? (fun p => decide (p.1 = x)) with | some i => (l[i]?).map (·.2) | none => none) = mget l x
 | [] => rfl
 | p :: r => by
  have ih := mget_idx x r
  unfold mget at *
  simp only [List.findIdx?_cons, List.find?_cons]
  by_cases h : p.1 = x
  ·simp [h]
  ·simp only [h, decide_false, if_false, Bool.false_eq_true]
   rw [← ih]
   cases List.findIdx? (fun p => decide (p.1 = x)) r with
   | none => rfl
   | some i => simp
theorem lookup_mp {α : Type} (e : α → V) (l : List (Tx × α)) {id g : Nat} {ro ok : Bool} {z : V} {sz by_ : Nat} {zr : Option (List V)} {look : Look} {x : Tx} (h : look id = some ⟨g, ro, [mpC e l]⟩) :
  lookupV look ⟨.str, sz, by_, zr⟩ (some z) (.mp id g) (.d (.str x)) ok = some ⟨lookRes ok (match mget l x with | some v => e v | none => z) (mget l x).isSome, [], [id], 0, 0, false⟩ := by
 unfold lookupV
 have hl : live look id g = some ⟨g, ro, [mpC e l]⟩ := by unfold live; rw [h]; simp
 simp only [keyOK, hl, mpC, findV_mp]
 rw [← mget_idx]
 cases hf : List.findIdx? (fun p => decide (p.1 = x)) l with
 | none => rfl
 | some i =>
  have hi : i < l.length := (List.findIdx?_eq_some_iff_getElem.1 hf).1
  simp only [Option.map_some, Nat.zero_add, List.getElem?_map, List.getElem?_eq_getElem hi, Option.map_some]
  rfl
theorem zt3 : zeroT Tryz.prog 3 = some (.d (.int .i64 0)) := by kernel_rfl
theorem zt4 : zeroT Tryz.prog 4 = some (.d (.bool false)) := by kernel_rfl
/-! ### Calls for all memories that agree with one -/
theorem lim_fn {P : Program} {cfg : Cfg} {f : FuncId} {vs : List V} {v : V} {C : Hp → Nat → Prop} (h : ∀ hp n c, C hp n → QuietV P cfg f vs hp n c v) :
  ∃ (F : Hp → Nat → Nat → Hp) (G : Hp → Nat → Nat → Nat), ∀ hp n c, C hp n → lim P cfg f vs hp n c = some ⟨v, F hp n c, n, G hp n c, []⟩ := by
 classical
 refine ⟨fun hp n c => if hc : C hp n then Classical.choose (h hp n c hc) else [], fun hp n c => if hc : C hp n then Classical.choose (Classical.choose_spec (h hp n c hc)) else 0, fun hp n c hc => ?_⟩
 simp only [dif_pos hc]
 exact Classical.choose_spec (Classical.choose_spec (h hp n c hc))
theorem Ag_set {n k : Nat} {hp hp' : Hp} {o : Ob} (h : n ≤ k) : Ag n hp (hp'.set k o) = Ag n hp hp' := by
 refine propext ⟨fun a id hi => ?_, fun a id hi => ?_⟩
 ·have := a id hi; rwa [Hp.get_set_ne _ _ _ _ (by omega)] at this
 ·rw [Hp.get_set_ne _ _ _ _ (by omega)]; exact a id hi
theorem Ag_trunc {n k : Nat} {hp hp' : Hp} (h : n ≤ k) : Ag n hp (Hp.trunc k hp') = Ag n hp hp' := by
 refine propext ⟨fun a id hi => ?_, fun a id hi => ?_⟩
 ·have := a id hi; rwa [Hp.get_trunc _ _ _ (by omega)] at this
 ·rw [Hp.get_trunc _ _ _ (by omega)]; exact a id hi
theorem get_trunc_lt {k id : Nat} {hp : Hp} (h : id < k) : (Hp.trunc k hp).get id = hp.get id := Hp.get_trunc _ _ _ h
theorem Ag_refl (n : Nat) (hp : Hp) : Ag n hp hp = True := eq_true (Ag.refl n hp)
theorem Hp.get_set (h : Hp) (k t : Nat) (o : Ob) : (Hp.set h k o).get t = if k = t then some o else h.get t := by
 split
 ·rename_i hk; subst hk; exact Hp.get_set_self ..
 ·rename_i hk; exact Hp.get_set_ne _ _ _ _ hk
/-- New names are none of the old. -/
theorem nf {n id : Nat} (h : id < n) : (n = id) = False ∧ (n + 1 = id) = False ∧ (n + 2 = id) = False ∧ (n + 3 = id) = False ∧ (n + 4 = id) = False ∧ (n + 5 = id) = False ∧ (n + 6 = id) = False ∧ (n + 7 = id) = False := by
 refine ⟨?_, ?_, ?_, ?_, ?_, ?_, ?_, ?_⟩ <;> exact eq_false (by omega)
/-- A memory in which a class object lies. -/
structure KAt (ic gc iv gv ip gp im gm ii gi : Nat) (o : Oc) (ea : List Cl) (c : Cl) (hp : Hp) (n : Nat) : Prop where
 co : hp.get ic = some ⟨gc, false, [V.d (.slice (encE o.en)), V.d (.slice (encC ea)), V.d (.str c.nm), V.d (.slice (encD c.inn)), V.d (.slice (encD c.out)), V.d (.slice (encD c.loc)), V.d (.slice (encM c.mems)), V.d (.slice (encJ c.ins)), V.d (.slice (encY c.step)), .mp iv gv, .mp ip gp, .mp im gm, .mp ii gi]⟩
 vars : ∃ l, hp.get iv = some ⟨gv, false, [mpC (fun t : Int => V.d (.int .i64 t)) l]⟩ ∧ ∀ x, mget l x = if getT c x = 0 then none else some (getT c x)
 ports : ∃ l, hp.get ip = some ⟨gp, false, [mpC (fun b : Bool => V.d (.bool b)) l]⟩ ∧ ∀ x, mget l x = if setT c x = 0 then none else some true
 mems : ∃ l, hp.get im = some ⟨gm, false, [mpC (fun t : Int => V.d (.int .i64 t)) l]⟩ ∧ ∀ x, mget l x = if findM c.mems x = 0 then none else some (findM c.mems x)
 ins : ∃ l, hp.get ii = some ⟨gi, false, [mpC (fun k : Cl => aG k.cells) l]⟩ ∧ ∀ x, mget l x = if (findI c.ins o.cl x).2 = true then some (findI c.ins o.cl x).1 else none
 lc : ic < n
 lv : iv < n
 lp : ip < n
 lm : im < n
 li : ii < n
theorem KAt.ag {ic gc iv gv ip gp im gm ii gi : Nat} {o : Oc} {ea : List Cl} {c : Cl} {hp hp' : Hp} {n n' : Nat} (h : KAt ic gc iv gv ip gp im gm ii gi o ea c hp n) (ha : Ag n hp hp') (hn : n ≤ n') : KAt ic gc iv gv ip gp im gm ii gi o ea c hp' n' := by
 obtain ⟨h1, h2, h3, h4, h5, l1, l2, l3, l4, l5⟩ := h
 rw [← ha _ l1] at h1
 rw [← ha _ l2] at h2
 rw [← ha _ l3] at h3
 rw [← ha _ l4] at h4
 rw [← ha _ l5] at h5
 exact ⟨h1, h2, h3, h4, h5, by omega, by omega, by omega, by omega, by omega⟩
/-- A call that is quiet wherever the class object lies. -/
def QK (ic gc iv gv ip gp im gm ii gi : Nat) (o : Oc) (ea : List Cl) (c : Cl) (f : FuncId) (vs : List V) (v : V) : Prop := ∀ hp n cc, KAt ic gc iv gv ip gp im gm ii gi o ea c hp n → QuietV Tryz.prog Ob.cfg f vs hp n cc v
section
variable {ic gc iv gv ip gp im gm ii gi : Nat} {o : Oc} {ea : List Cl} {c : Cl} {hp : Hp} {n : Nat}
theorem QK.fn {f : FuncId} {vs : List V} {v : V} (h : QK ic gc iv gv ip gp im gm ii gi o ea c f vs v) (hK : KAt ic gc iv gv ip gp im gm ii gi o ea c hp n) :
  ∃ (F : Hp → Nat → Nat → Hp) (G : Hp → Nat → Nat → Nat), ∀ hp' n' cc, Ag n hp hp' → n ≤ n' → lim Tryz.prog Ob.cfg f vs hp' n' cc = some ⟨v, F hp' n' cc, n', G hp' n' cc, []⟩ := by
 obtain ⟨F, G, h1⟩ := lim_fn (C := fun hp' n' => Ag n hp hp' ∧ n ≤ n') (P := Tryz.prog) (cfg := Ob.cfg) (f := f) (vs := vs) (v := v) (fun hp' n' cc ha => h hp' n' cc (hK.ag ha.1 ha.2))
 exact ⟨F, G, fun hp' n' cc a b => h1 hp' n' cc ⟨a, b⟩⟩
/-- What the walks want of the types of a class. -/
structure KW (o : Oc) (c : Cl) : Prop where
 inn : ∀ x, c.inn.any (fun d => decide (d.nm = x)) = decide (findD c.inn x ≠ 0)
 set : ∀ x, setT c x ≠ 0 → getT c x = setT c x
 i64 : ∀ x, I64 (getT c x)
 linn : c.inn.length ≤ MX
end



section
variable {ic gc iv gv ip gp im gm ii gi : Nat} {o : Oc} {ea : List Cl} {c : Cl}
end
end Go.Ac
end

section
set_option maxRecDepth 4000
namespace Go.Ac
open Go.Proofs
attribute [local simp] Hp.get_set Ag_set Ag_refl Ag_trunc get_trunc_lt

section
variable {ic gc iv gv ip gp im gm ii gi : Nat} {o : Oc} {ea : List Cl} {c : Cl}
/-- A place's lists are not too long. -/
structure BOK (cx : List Pr) (bl : List (List Y)) : Prop where
 len : bl.length ≤ MX
 nb : nbB bl = true
 sz : cx.length + szY bl.flatten ≤ 8388608
end
end Go.Ac
end

section
set_option maxRecDepth 4000
namespace Go.Ac
open Go.Proofs
section
variable {α : Type}
/-- A value under a name. -/
def mput (l : List (Tx × α)) (x : Tx) (v : α) : List (Tx × α) := match l.findIdx? (fun p => decide (p.1 = x)) with | some i => l.set i (x, v) | none => l ++ [(x, v)]
theorem ixm_spec {l : List (Tx × α)} {x : Tx} {i : Nat} (h : l.findIdx? (fun p => decide (p.1 = x)) = some i) : ∃ hi : i < l.length, (l[i]'hi).1 = x := by
 obtain ⟨h1, h2, _⟩ := List.findIdx?_eq_some_iff_getElem.1 h
 exact ⟨h1, by simpa using h2⟩
theorem map_set_fst (l : List (Tx × α)) (x : Tx) (v : α) (i : Nat) (hi : i < l.length) (h : (l[i]'hi).1 = x) : (l.set i (x, v)).map (fun p => D.str p.1) = l.map fun p => D.str p.1 := by
 rw [List.map_set]
 apply List.ext_getElem
 ·simp
 ·intro j h1 h2
  simp only [List.getElem_set, List.getElem_map]
  split
  ·rename_i e; subst e; rw [h]
  ·rfl
theorem insert_mp (e : α → V) (l : List (Tx × α)) (v : α) {id g : Nat} {sz by_ : Nat} {zr : Option (List V)} {look : Look} {x : Tx} {w : V} (hw : w = e v) (h : look id = some ⟨g, false, [mpC e l]⟩) :
  insertV look ⟨.str, sz, by_, zr⟩ (.mp id g) (.d (.str x)) w = some ⟨.undef, [(id, ⟨g, false, [mpC e (mput l x v)]⟩)], [id], 0, 0, false⟩ := by
 subst hw
 unfold insertV
 have hl : live look id g = some ⟨g, false, [mpC e l]⟩ := by unfold live; rw [h]; simp
 simp only [keyOK, hl, mpC, findV_mp]
 unfold mput
 cases hf : List.findIdx? (fun p => decide (p.1 = x)) l with
 | none => simp [List.range_succ]
 | some i =>
  obtain ⟨hi, hx⟩ := ixm_spec hf
  have := map_set_fst l x v i hi hx
  simp [List.map_set] at this ⊢
  exact this.symm
theorem mget_app (l r : List (Tx × α)) (y : Tx) : mget (l ++ r) y = (mget l y).or (mget r y) := by
 unfold mget; rw [List.find?_append]; cases List.find? (fun p => decide (p.1 = y)) l <;> simp
theorem mget_set : ∀ (l : List (Tx × α)) (x y : Tx) (v : α) (i : Nat), l.findIdx? (fun p => decide (p.1 = x)) = some i → mget (l.set i (x, v)) y = if y = x then some v else mget l y
 | [], x, y, v, i, h => by simp at h
 | p :: r, x, y, v, i, h => by
  simp only [List.findIdx?_cons] at h
  by_cases hp : p.1 = x
  ·simp [hp] at h; subst h
   unfold mget
   simp only [List.set_cons_zero, List.find?_cons, hp]
   by_cases hy : y = x
   ·subst hy; simp
   ·rw [if_neg hy]
    have : decide (x = y) = false := by simp; exact fun e => hy e.symm
    simp [this]
  ·simp [hp] at h
   obtain ⟨k, hk, rfl⟩ := h
   have ih := mget_set r x y v k hk
   unfold mget at ih ⊢
   simp only [List.set_cons_succ, List.find?_cons]
   by_cases hy : p.1 = y
   ·have hne : y ≠ x := fun e => hp (hy.trans e)
    simp [hy, hne]
   ·simp [hy]
    exact ih
theorem mget_put (l : List (Tx × α)) (x y : Tx) (v : α) : mget (mput l x v) y = if y = x then some v else mget l y := by
 unfold mput
 cases hf : List.findIdx? (fun p => decide (p.1 = x)) l with
 | some i => exact mget_set l x y v i hf
 | none =>
  rw [mget_app]
  have hn : mget l x = none := by rw [← mget_idx, hf]
  by_cases hy : y = x
  ·subst hy; rw [hn, if_pos rfl]; simp [mget]
  ·rw [if_neg hy]
   have hd : decide (x = y) = false := by simp; exact fun e => hy e.symm
   have : mget [(x, v)] y = none := by unfold mget; simp [List.find?_cons, hd]
   rw [this]; cases mget l y <;> rfl
end
def eI (t : Int) : V := .d (.int .i64 t)
def eBo (b : Bool) : V := .d (.bool b)
def eC (k : Cl) : V := aG k.cells


end Go.Ac
end

section
namespace Go.Ac
theorem wkektv {L : Prop} (hl : L) {G G' : Prop} (k : G') (h : Wk L G G' := by
 intro hl hk
 repeat (first
 | apply WP.seq
 | (apply WP.reg; (case hR => dsimp only [prepL, prepO, List.map, gS, gZ]; exact iZ); (case hr => (repeat (first
 | (apply RT.op; simp [hl, -addNew]; exact iZ; (try dsimp only [putEnv]) <;> exact rfl)
 | (apply RT.call; (iterate 2 simp; exact iZ); exact iZ; (iterate 4 simp [hl, -addNew]; exact iZ); simp [Is]; (try dsimp only [putEnv]) <;> exact rfl; simp; exact iZ; exact iZ)
 | (apply RT.callV; (iterate 2 simp; exact iZ); exact iZ; (iterate 3 simp [hl, -addNew]; exact iZ); (try dsimp only [putEnv]) <;> exact rfl)
 | (apply RT.callT (hd := hT1) (hk := hT2); (iterate 2 simp; exact iZ); exact iZ; (iterate 2 simp [hl, -addNew]; exact iZ); (try dsimp only [putEnv]) <;> exact rfl)
 | (apply RT.wr; simp [hl, -addNew]; exact iZ; (try dsimp only [putEnv]) <;> exact rfl; simp [hl, -addNew]; exact iZ; (iterate 2 exact iZ); exact iZ))); exact RT.nil); (case hc => (show _ = _; kernel_rfl)); (case ht => simp [hl, -addNew]; exact iZ))
 | apply WP.block | apply WP.skip | apply WP.exit | apply WP.ret)
 exact hk.out) : G := h hl ⟨k⟩
theorem wkcektv {L : Prop} (hl : L) {G G' : Prop} (k : G') (h : Wk L G G' := by
 intro hl hk
 repeat (first
 | apply WP.seq
 | (apply WP.reg; (case hR => dsimp only [prepL, prepO, List.map, gS, gZ]; exact iZ); (case hr => (repeat (first
 | (apply RT.op; simp [hl, -addNew]; exact iZ; (try dsimp only [putEnv]) <;> exact rfl)
 | (apply RT.call; (iterate 2 simp; exact iZ); exact iZ; (iterate 4 simp [hl, -addNew]; exact iZ); simp [Is]; (try dsimp only [putEnv]) <;> exact rfl; simp; exact iZ; exact iZ)
 | (apply RT.callV; (iterate 2 simp; exact iZ); exact iZ; (iterate 3 simp [hl, -addNew]; exact iZ); (try dsimp only [putEnv]) <;> exact rfl)
 | (apply RT.callT (hd := hT1) (hk := hT2); (iterate 2 simp; exact iZ); exact iZ; (iterate 2 simp [hl, -addNew]; exact iZ); (try dsimp only [putEnv]) <;> exact rfl)
 | (apply RT.wr; simp [hl, -addNew]; exact iZ; (try dsimp only [putEnv]) <;> exact rfl; simp [hl, -addNew]; exact iZ; (iterate 2 exact iZ); exact iZ))); exact RT.nil); (case hc => (show _ = _; kernel_rfl)); (case ht => simp [hl, -addNew]; exact iZ))
 | apply WP.block | apply WP.skip | apply WP.exit | apply WP.ret | refine WP.condT rfl ?_ | refine WP.condF rfl ?_)
 exact hk.out) : G := h hl ⟨k⟩
end Go.Ac
end

section
set_option maxRecDepth 4000
namespace Go.Ac
open Go.Proofs
def dS (s : Tx) : V := .d (.str s)
/-- An equation of a node in normal form. -/
structure Nq where
 k : Int
 left : List Tx
 r : X
 ini : Int
 node : Tx
 args : List X
 ev : Tx
 ck : List On
structure Nn where
 nm : Tx
 inn : List Dc
 out : List Dc
 loc : List Dc
 eqs : List Nq
def Nq.cells (q : Nq) : List D := [.int .i64 q.k, .slice (encS q.left), .int .i64 q.r.k, .int .i64 q.r.o, .int .i64 q.r.t, .int .i64 q.r.v, .str q.r.nm, .slice (encX q.r.args), .int .i64 q.ini, .str q.node, .slice (encX q.args), .str q.ev, .slice (encO q.ck)]
def encN (l : List Nq) : List (List D) := l.map Nq.cells
def Nn.cells (n : Nn) : List D := [.str n.nm, .slice (encD n.inn), .slice (encD n.out), .slice (encD n.loc), .slice (encN n.eqs)]
def Nq.sz (q : Nq) : Nat := szS q.left + q.r.sz + szT q.node + szX q.args + szT q.ev + szO q.ck + 13
def szN (l : List Nq) : Nat := (l.map fun q => q.sz).sum
def Nn.sz (n : Nn) : Nat := szT n.nm + szD n.inn + szD n.out + szD n.loc + szN n.eqs + 5
theorem encN_len (l : List Nq) : (encN l).length = l.length := by simp [encN]
theorem encN_at {l : List Nq} {i : Nat} {q : Nq} (h : l[i]? = some q) : (encN l)[i]? = some q.cells := by unfold encN; simp [h]
theorem mem_szN {l : List Nq} {q : Nq} (h : q ∈ l) : q.sz ≤ szN l := by unfold szN; exact sum_mem (f := fun q : Nq => q.sz) h
theorem len_szN (l : List Nq) : l.length ≤ szN l := by unfold szN; exact sum_len fun q => by unfold Nq.sz; omega
attribute [simp] encN_len
theorem encX_row (l : List X) : ∀ r ∈ encX l, r.length = 6 := by rw [encX_map]; intro r hr; obtain ⟨x, _, rfl⟩ := List.mem_map.1 hr; rw [X.cells_eq]; rfl
theorem encX_snoc (l : List X) (x : X) : encX l ++ [x.cells] = encX (l ++ [x]) := by simp [encX_map]
theorem encD_row (l : List Dc) : ∀ r ∈ encD l, r.length = 3 := by unfold encD; intro r hr; obtain ⟨x, _, rfl⟩ := List.mem_map.1 hr; rfl
theorem encD_snoc (l : List Dc) (x : Dc) : encD l ++ [x.cells] = encD (l ++ [x]) := by unfold encD; simp
theorem encM_snoc (l : List Mm) (x : Mm) : encM l ++ [x.cells] = encM (l ++ [x]) := by unfold encM; simp
theorem encJ_snoc (l : List Ii) (x : Ii) : encJ l ++ [x.cells] = encJ (l ++ [x]) := by unfold encJ; simp
theorem encB_row (l : List (List Y)) : ∀ r ∈ encB l, r.length = 1 := by rw [encB_map]; intro r hr; obtain ⟨x, _, rfl⟩ := List.mem_map.1 hr; rfl
theorem encB_snoc (l : List (List Y)) (x : List Y) : encB l ++ [[.slice (encY x)]] = encB (l ++ [x]) := by simp [encB_map]
/-! ### Names that an expression reads -/
def vaX (x : X) : Bool := decide (x.k = 2 ∨ x.k = 8 ∨ x.k = 9)
/-- A name once more, if it is not there. -/
def adN (l : List Tx) (b : Bool) (nm : Tx) : List Tx := if b = true ∧ nm ∉ l then l ++ [nm] else l
theorem adN_len (l : List Tx) (b : Bool) (nm : Tx) : l.length ≤ (adN l b nm).length ∧ (adN l b nm).length ≤ l.length + 1 := by
 unfold adN; split <;> simp
mutual
def nmX (l : List Tx) : X → List Tx
 | .mk k o t v nm args => nmXs (adN l (decide (k = 2 ∨ k = 8 ∨ k = 9)) nm) args
def nmXs (l : List Tx) : List X → List Tx
 | [] => l
 | x :: r => nmXs (nmX l x) r
end
theorem nmX_eq (l : List Tx) (x : X) : nmX l x = nmXs (adN l (vaX x) x.nm) x.args := by
 cases x; rw [nmX]; rfl
theorem nmXs_snoc (x : X) : ∀ (r : List X) (l : List Tx), nmXs l (r ++ [x]) = nmX (nmXs l r) x
 | [], l => by rw [List.nil_append, nmXs, nmXs, nmXs]
 | y :: r, l => by rw [List.cons_append, nmXs, nmXs, nmXs_snoc x r]
mutual
/-- Names are only added, one for each expression at most. -/
theorem nmX_len : ∀ (x : X) (l : List Tx), l.length ≤ (nmX l x).length ∧ (nmX l x).length ≤ l.length + x.sz
 | .mk k o t v nm args, l => by
  rw [nmX, X.sz]
  have h1 := adN_len l (decide (k = 2 ∨ k = 8 ∨ k = 9)) nm
  have h := nmXs_len args (adN l (decide (k = 2 ∨ k = 8 ∨ k = 9)) nm)
  omega
theorem nmXs_len : ∀ (r : List X) (l : List Tx), l.length ≤ (nmXs l r).length ∧ (nmXs l r).length ≤ l.length + szX r
 | [], l => by rw [nmXs, szX]; omega
 | x :: r, l => by
  rw [nmXs, szX]
  have h1 := nmX_len x l
  have h2 := nmXs_len r (nmX l x)
  omega
end
end Go.Ac
end

section
namespace Go.Ac
theorem wkiv {L : Prop} (hl : L) {G G' : Prop} (k : G') (h : Wk L G G' := by
 intro hl hk
 repeat (first
 | apply WP.seq
 | (apply WP.reg; (case hR => dsimp only [prepL, prepO, List.map, gS, gZ]; exact iZ); (case hr => (repeat (first
 | (apply RT.op; simp [hl]; exact iZ; (try dsimp only [putEnv]) <;> exact rfl)
 | (apply RT.call; (iterate 2 simp; exact iZ); exact iZ; (iterate 4 simp [hl]; exact iZ); simp [Is]; (try dsimp only [putEnv]) <;> exact rfl; simp; exact iZ; simp; exact iZ)
 | (apply RT.callV; (iterate 2 simp; exact iZ); exact iZ; (iterate 3 simp [hl]; exact iZ); (try dsimp only [putEnv]) <;> exact rfl)
 | (apply RT.callI (hd := hI1) (hne := hI2) (hw := hI3) (hwr := hI4); (iterate 2 simp; exact iZ); exact iZ; (iterate 2 simp [hl]; exact iZ); (try dsimp only [putEnv]) <;> exact rfl; (first | omega | simp))
 | (apply RT.wr; simp [hl]; exact iZ; (try dsimp only [putEnv]) <;> exact rfl; simp [hl]; exact iZ; (iterate 2 exact iZ); simp; exact iZ))); exact RT.nil); (case hc => (show _ = _; kernel_rfl)); (case ht => simp [hl]; exact iZ))
 | apply WP.block | apply WP.skip | apply WP.exit | apply WP.ret)
 exact hk.out) : G := h hl ⟨k⟩
theorem wkkv {L : Prop} (hl : L) {G G' : Prop} (k : G') (h : Wk L G G' := by
 intro hl hk
 repeat (first
 | apply WP.seq
 | (apply WP.reg; (case hR => dsimp only [prepL, prepO, List.map, gS, gZ]; exact iZ); (case hr => (repeat (first
 | (apply RT.op; simp [hl]; exact iZ; (try dsimp only [putEnv]) <;> exact rfl)
 | (apply RT.call; (iterate 2 simp; exact iZ); exact iZ; (iterate 4 simp [hl]; exact iZ); simp [Is]; (try dsimp only [putEnv]) <;> exact rfl; simp; exact iZ; exact iZ)
 | (apply RT.callV; (iterate 2 simp; exact iZ); exact iZ; (iterate 3 simp [hl]; exact iZ); (try dsimp only [putEnv]) <;> exact rfl)
 | (apply RT.wr; simp [hl]; exact iZ; (try dsimp only [putEnv]) <;> exact rfl; simp [hl]; exact iZ; (iterate 2 exact iZ); exact iZ))); exact RT.nil); (case hc => (show _ = _; kernel_rfl)); (case ht => simp [hl]; exact iZ))
 | apply WP.block | apply WP.skip | apply WP.exit | apply WP.ret)
 exact hk.out) : G := h hl ⟨k⟩
theorem wktv {L : Prop} (hl : L) {G G' : Prop} (k : G') (h : Wk L G G' := by
 intro hl hk
 repeat (first
 | apply WP.seq
 | (apply WP.reg; (case hR => dsimp only [prepL, prepO, List.map, gS, gZ]; exact iZ); (case hr => (repeat (first
 | (apply RT.op; simp [hl]; exact iZ; (try dsimp only [putEnv]) <;> exact rfl)
 | (apply RT.call; (iterate 2 simp; exact iZ); exact iZ; (iterate 4 simp [hl]; exact iZ); simp [Is]; (try dsimp only [putEnv]) <;> exact rfl; simp; exact iZ; simp; exact iZ)
 | (apply RT.callV; (iterate 2 simp; exact iZ); exact iZ; (iterate 3 simp [hl]; exact iZ); (try dsimp only [putEnv]) <;> exact rfl)
 | (apply RT.callT (hd := hT1) (hk := hT2); (iterate 2 simp; exact iZ); exact iZ; (iterate 2 simp [hl]; exact iZ); (try dsimp only [putEnv]) <;> exact rfl)
 | (apply RT.wr; simp [hl]; exact iZ; (try dsimp only [putEnv]) <;> exact rfl; simp [hl]; exact iZ; (iterate 2 exact iZ); simp; exact iZ))); exact RT.nil); (case hc => (show _ = _; kernel_rfl)); (case ht => simp [hl]; exact iZ))
 | apply WP.block | apply WP.skip | apply WP.exit | apply WP.ret)
 exact hk.out) : G := h hl ⟨k⟩
theorem wkciv {L : Prop} (hl : L) {G G' : Prop} (k : G') (h : Wk L G G' := by
 intro hl hk
 repeat (first
 | apply WP.seq
 | (apply WP.reg; (case hR => dsimp only [prepL, prepO, List.map, gS, gZ]; exact iZ); (case hr => (repeat (first
 | (apply RT.op; simp [hl]; exact iZ; (try dsimp only [putEnv]) <;> exact rfl)
 | (apply RT.call; (iterate 2 simp; exact iZ); exact iZ; (iterate 4 simp [hl]; exact iZ); simp [Is]; (try dsimp only [putEnv]) <;> exact rfl; simp; exact iZ; simp; exact iZ)
 | (apply RT.callV; (iterate 2 simp; exact iZ); exact iZ; (iterate 3 simp [hl]; exact iZ); (try dsimp only [putEnv]) <;> exact rfl)
 | (apply RT.callI (hd := hI1) (hne := hI2) (hw := hI3) (hwr := hI4); (iterate 2 simp; exact iZ); exact iZ; (iterate 2 simp [hl]; exact iZ); (try dsimp only [putEnv]) <;> exact rfl; (first | omega | simp))
 | (apply RT.wr; simp [hl]; exact iZ; (try dsimp only [putEnv]) <;> exact rfl; simp [hl]; exact iZ; (iterate 2 exact iZ); simp; exact iZ))); exact RT.nil); (case hc => (show _ = _; kernel_rfl)); (case ht => simp [hl]; exact iZ))
 | apply WP.block | apply WP.skip | apply WP.exit | apply WP.ret | refine WP.condT rfl ?_ | refine WP.condF rfl ?_)
 exact hk.out) : G := h hl ⟨k⟩
theorem wkckv {L : Prop} (hl : L) {G G' : Prop} (k : G') (h : Wk L G G' := by
 intro hl hk
 repeat (first
 | apply WP.seq
 | (apply WP.reg; (case hR => dsimp only [prepL, prepO, List.map, gS, gZ]; exact iZ); (case hr => (repeat (first
 | (apply RT.op; simp [hl]; exact iZ; (try dsimp only [putEnv]) <;> exact rfl)
 | (apply RT.call; (iterate 2 simp; exact iZ); exact iZ; (iterate 4 simp [hl]; exact iZ); simp [Is]; (try dsimp only [putEnv]) <;> exact rfl; simp; exact iZ; exact iZ)
 | (apply RT.callV; (iterate 2 simp; exact iZ); exact iZ; (iterate 3 simp [hl]; exact iZ); (try dsimp only [putEnv]) <;> exact rfl)
 | (apply RT.wr; simp [hl]; exact iZ; (try dsimp only [putEnv]) <;> exact rfl; simp [hl]; exact iZ; (iterate 2 exact iZ); exact iZ))); exact RT.nil); (case hc => (show _ = _; kernel_rfl)); (case ht => simp [hl]; exact iZ))
 | apply WP.block | apply WP.skip | apply WP.exit | apply WP.ret | refine WP.condT rfl ?_ | refine WP.condF rfl ?_)
 exact hk.out) : G := h hl ⟨k⟩
theorem wkctv {L : Prop} (hl : L) {G G' : Prop} (k : G') (h : Wk L G G' := by
 intro hl hk
 repeat (first
 | apply WP.seq
 | (apply WP.reg; (case hR => dsimp only [prepL, prepO, List.map, gS, gZ]; exact iZ); (case hr => (repeat (first
 | (apply RT.op; simp [hl]; exact iZ; (try dsimp only [putEnv]) <;> exact rfl)
 | (apply RT.call; (iterate 2 simp; exact iZ); exact iZ; (iterate 4 simp [hl]; exact iZ); simp [Is]; (try dsimp only [putEnv]) <;> exact rfl; simp; exact iZ; simp; exact iZ)
 | (apply RT.callV; (iterate 2 simp; exact iZ); exact iZ; (iterate 3 simp [hl]; exact iZ); (try dsimp only [putEnv]) <;> exact rfl)
 | (apply RT.callT (hd := hT1) (hk := hT2); (iterate 2 simp; exact iZ); exact iZ; (iterate 2 simp [hl]; exact iZ); (try dsimp only [putEnv]) <;> exact rfl)
 | (apply RT.wr; simp [hl]; exact iZ; (try dsimp only [putEnv]) <;> exact rfl; simp [hl]; exact iZ; (iterate 2 exact iZ); simp; exact iZ))); exact RT.nil); (case hc => (show _ = _; kernel_rfl)); (case ht => simp [hl]; exact iZ))
 | apply WP.block | apply WP.skip | apply WP.exit | apply WP.ret | refine WP.condT rfl ?_ | refine WP.condF rfl ?_)
 exact hk.out) : G := h hl ⟨k⟩
end Go.Ac
end

section
set_option maxRecDepth 4000
namespace Go.Ac
open Go.Proofs
attribute [local simp] Hp.get_set get_trunc_lt
def lfQ (q : Nq) : Tx := match q.left with | [] => [] | a :: _ => a
theorem kf20 (r : Nat) : Ob.keep 20 r = Ob.k20 r := by kernel_rfl
theorem kf52 (r : Nat) : Ob.keep 52 r = Ob.k52 r := by kernel_rfl
theorem kf21 (r : Nat) : Ob.keep 21 r = Ob.k21 r := by kernel_rfl
theorem kf55 (r : Nat) : Ob.keep 55 r = Ob.k55 r := by kernel_rfl
theorem kf66 (r : Nat) : Ob.keep 66 r = Ob.k66 r := by kernel_rfl
theorem kf78 (r : Nat) : Ob.keep 78 r = Ob.k78 r := by kernel_rfl
theorem kf65 (r : Nat) : Ob.keep 65 r = Ob.k65 r := by kernel_rfl
theorem kf77 (r : Nat) : Ob.keep 77 r = Ob.k77 r := by kernel_rfl
theorem kf76 (r : Nat) : Ob.keep 76 r = Ob.k76 r := by kernel_rfl
attribute [local simp] kf20 Ob.k20 kf52 Ob.k52 kf21 Ob.k21 kf55 Ob.k55 kf66 Ob.k66 kf78 Ob.k78 kf65 Ob.k65 kf77 Ob.k77 kf76 Ob.k76
theorem left20 (q : Nq) : den Tryz.prog Ob.cfg 20 [aG q.cells] = some (dS (lfQ q)) := by
 refine den_wp Tryz.func20 rfl (by kernel_rfl) rfl rfl ?_
 cases h : q.left with
 | nil =>
  have e : lfQ q = [] := by unfold lfQ; rw [h]
  rw [e]
  have h0 : encS ([] : List Tx) = [] := rfl
  refine wkc (jn @envOf.eq_1 (jn @envOf.eq_2 (jn @aG.eq_1 (jn @Nq.cells.eq_1 (jn @h (jn @h0 @int_beq)))))) ?_
  show retQ _ _ _ _ _
  exact ⟨.inr rfl, _, _, rfl, rfl⟩
 | cons a r =>
  have e : lfQ q = a := by unfold lfQ; rw [h]
  rw [e]
  have h0 : encS (a :: r) = [.str a] :: encS r := rfl
  have hi : idx 0 (r.length + 1) = some 0 := by unfold idx; simp
  have hne : ((r.length : Int) + 1 = 0) = False := eq_false (by omega)
  refine wkc (jn @envOf.eq_1 (jn @envOf.eq_2 (jn @aG.eq_1 (jn @Nq.cells.eq_1 (jn @h (jn @h0 (jn @int_beq (jn @hi (jn @hne @dS.eq_1))))))))) ?_
  show retQ _ _ _ _ _
  exact ⟨.inr rfl, _, _, rfl, rfl⟩
theorem left52 (q : Nq) : den Tryz.prog Ob.cfg 52 [aG q.cells] = some (dS (lfQ q)) := by
 refine den_wp Tryz.func52 rfl (by kernel_rfl) rfl rfl ?_
 cases h : q.left with
 | nil =>
  have e : lfQ q = [] := by unfold lfQ; rw [h]
  rw [e]
  have h0 : encS ([] : List Tx) = [] := rfl
  refine wkc (jn @envOf.eq_1 (jn @envOf.eq_2 (jn @aG.eq_1 (jn @Nq.cells.eq_1 (jn @h (jn @h0 @int_beq)))))) ?_
  show retQ _ _ _ _ _
  exact ⟨.inr rfl, _, _, rfl, rfl⟩
 | cons a r =>
  have e : lfQ q = a := by unfold lfQ; rw [h]
  rw [e]
  have h0 : encS (a :: r) = [.str a] :: encS r := rfl
  have hi : idx 0 (r.length + 1) = some 0 := by unfold idx; simp
  have hne : ((r.length : Int) + 1 = 0) = False := eq_false (by omega)
  refine wkc (jn @envOf.eq_1 (jn @envOf.eq_2 (jn @aG.eq_1 (jn @Nq.cells.eq_1 (jn @h (jn @h0 (jn @int_beq (jn @hi (jn @hne @dS.eq_1))))))))) ?_
  show retQ _ _ _ _ _
  exact ⟨.inr rfl, _, _, rfl, rfl⟩
/-- Expressions that are made. -/
def xSt (c : Tx) : X := .mk 12 0 0 0 c []
def xNum (v : Int) : X := .mk 1 0 2 v [] []
def xOp (o : Int) (a b : X) : X := .mk 3 o 0 0 [] [a, b]
def xIf (a b c : X) : X := .mk 4 0 0 0 [] [a, b, c]
theorem mem21 (c : Tx) : den Tryz.prog Ob.cfg 21 [dS c] = some (aG (xSt c).cells) := by
 refine den_wp Tryz.func21 rfl (by kernel_rfl) rfl rfl ?_
 refine wkc (jn @envOf.eq_1 (jn @envOf.eq_2 (jn @dS.eq_1 (jn @fillV.eq_1 @fillV.eq_2)))) ?_
 show retQ _ _ _ _ _
 exact ⟨.inr rfl, _, _, rfl, rfl⟩
theorem state55 (c : Tx) : den Tryz.prog Ob.cfg 55 [dS c] = some (aG (xSt c).cells) := by
 refine den_wp Tryz.func55 rfl (by kernel_rfl) rfl rfl ?_
 refine wkc (jn @envOf.eq_1 (jn @envOf.eq_2 (jn @dS.eq_1 (jn @fillV.eq_1 @fillV.eq_2)))) ?_
 show retQ _ _ _ _ _
 exact ⟨.inr rfl, _, _, rfl, rfl⟩
theorem num66 (v : Int) : den Tryz.prog Ob.cfg 66 [dI v] = some (aG (xNum v).cells) := by
 refine den_wp Tryz.func66 rfl (by kernel_rfl) rfl rfl ?_
 refine wkc (jn @envOf.eq_1 (jn @envOf.eq_2 (jn @dI.eq_1 (jn @fillV.eq_1 @fillV.eq_2)))) ?_
 show retQ _ _ _ _ _
 exact ⟨.inr rfl, _, _, rfl, rfl⟩
theorem num78 (v : Int) : den Tryz.prog Ob.cfg 78 [dI v] = some (aG (xNum v).cells) := by
 refine den_wp Tryz.func78 rfl (by kernel_rfl) rfl rfl ?_
 refine wkc (jn @envOf.eq_1 (jn @envOf.eq_2 (jn @dI.eq_1 (jn @fillV.eq_1 @fillV.eq_2)))) ?_
 show retQ _ _ _ _ _
 exact ⟨.inr rfl, _, _, rfl, rfl⟩
theorem xOp_eq (o : Int) (a b : X) : aG (xOp o a b).cells = .agg [.d (.int .i64 3), .d (.int .i64 o), .d (.int .i64 0), .d (.int .i64 0), .d (.str []), .d (.slice [[.int .i64 a.k, .int .i64 a.o, .int .i64 a.t, .int .i64 a.v, .str a.nm, .slice (encX a.args)], [.int .i64 b.k, .int .i64 b.o, .int .i64 b.t, .int .i64 b.v, .str b.nm, .slice (encX b.args)]]) ] := by
 rw [← X.cells_eq, ← X.cells_eq]; rfl
theorem xIf_eq (a b c : X) : aG (xIf a b c).cells = .agg [.d (.int .i64 4), .d (.int .i64 0), .d (.int .i64 0), .d (.int .i64 0), .d (.str []), .d (.slice [[.int .i64 a.k, .int .i64 a.o, .int .i64 a.t, .int .i64 a.v, .str a.nm, .slice (encX a.args)], [.int .i64 b.k, .int .i64 b.o, .int .i64 b.t, .int .i64 b.v, .str b.nm, .slice (encX b.args)], [.int .i64 c.k, .int .i64 c.o, .int .i64 c.t, .int .i64 c.v, .str c.nm, .slice (encX c.args)]]) ] := by
 rw [← X.cells_eq, ← X.cells_eq, ← X.cells_eq]; rfl
theorem op65 (o : Int) (a b : X) : den Tryz.prog Ob.cfg 65 [dI o, aG a.cells, aG b.cells] = some (aG (xOp o a b).cells) := by
 rw [xOp_eq]
 refine den_wp Tryz.func65 rfl (by kernel_rfl) rfl rfl ?_
 refine wkc (jn @envOf.eq_1 (jn @envOf.eq_2 (jn @dI.eq_1 (jn @aG.eq_1 (jn @X.cells_eq (jn @fillV.eq_1 (jn @fillV.eq_2 (jn @closeParts.eq_1 (jn @closeParts.eq_2 (jn @cl2.eq_def (jn @toD_dep (jn @toD_d (jn @toDs.eq_1 (jn @toDs.eq_2 (jn @chunk.eq_1 @chunk.eq_2))))))))))))))) ?_
 show retQ _ _ _ _ _
 exact ⟨.inr rfl, _, _, rfl, rfl⟩
theorem op77 (o : Int) (a b : X) : den Tryz.prog Ob.cfg 77 [dI o, aG a.cells, aG b.cells] = some (aG (xOp o a b).cells) := by
 rw [xOp_eq]
 refine den_wp Tryz.func77 rfl (by kernel_rfl) rfl rfl ?_
 refine wkc (jn @envOf.eq_1 (jn @envOf.eq_2 (jn @dI.eq_1 (jn @aG.eq_1 (jn @X.cells_eq (jn @fillV.eq_1 (jn @fillV.eq_2 (jn @closeParts.eq_1 (jn @closeParts.eq_2 (jn @cl2.eq_def (jn @toD_dep (jn @toD_d (jn @toDs.eq_1 (jn @toDs.eq_2 (jn @chunk.eq_1 @chunk.eq_2))))))))))))))) ?_
 show retQ _ _ _ _ _
 exact ⟨.inr rfl, _, _, rfl, rfl⟩
theorem if76 (a b c : X) : den Tryz.prog Ob.cfg 76 [aG a.cells, aG b.cells, aG c.cells] = some (aG (xIf a b c).cells) := by
 rw [xIf_eq]
 refine den_wp Tryz.func76 rfl (by kernel_rfl) rfl rfl ?_
 refine wkc (jn @envOf.eq_1 (jn @envOf.eq_2 (jn @dI.eq_1 (jn @aG.eq_1 (jn @X.cells_eq (jn @fillV.eq_1 (jn @fillV.eq_2 (jn @closeParts.eq_1 (jn @closeParts.eq_2 (jn @cl2.eq_def (jn @toD_dep (jn @toD_d (jn @toDs.eq_1 (jn @toDs.eq_2 (jn @chunk.eq_1 @chunk.eq_2))))))))))))))) ?_
 show retQ _ _ _ _ _
 exact ⟨.inr rfl, _, _, rfl, rfl⟩
end Go.Ac
end

section
set_option maxRecDepth 4000
namespace Go.Ac
open Go.Proofs
attribute [local simp] Hp.get_set get_trunc_lt
def brD (d : Dc) : Dc := ⟨d.nm, d.t, []⟩
theorem fits48 {j : Nat} (h : j ≤ 8388608) : fitsB (j + 1) 48 = true := by simp [fitsB]; omega
theorem fits72 {j : Nat} (h : j ≤ 8388608) : fitsB (j + 1) 72 = true := by simp [fitsB]; omega
/-- Cells that hold these data, as such or as lists of rows. -/
inductive VD : List V → List D → Prop
 | nil : VD [] []
 | d {x : D} {vs : List V} {ds : List D} (h : VD vs ds) : VD (.d x :: vs) (x :: ds)
 | full {r : List (List D)} {vs : List V} {ds : List D} (h : VD vs ds) : VD (.full r :: vs) (.slice r :: ds)
theorem VD.len {vs : List V} {ds : List D} (h : VD vs ds) : vs.length = ds.length := by induction h <;> simp_all
theorem VD.app {vs ws : List V} {ds es : List D} (h : VD vs ds) (k : VD ws es) : VD (vs ++ ws) (ds ++ es) := by
 induction h with
 | nil => exact k
 | d _ ih => exact ih.d
 | full _ ih => exact ih.full
theorem VD.map (l : List D) : VD (l.map V.d) l := by
 induction l with
 | nil => exact .nil
 | cons x r ih => exact ih.d
theorem VD.toDs {vs : List V} {ds : List D} (h : VD vs ds) (look : Look) (f : Nat) : toDs (toD look f) vs = some (ds, []) := by
 induction h with
 | nil => rfl
 | d _ ih => simp only [Ac.toDs, toD_d, ih]; rfl
 | full _ ih => simp only [Ac.toDs, toD_full, ih]; rfl
/-- Rows that hold these data. -/
structure RowD (cs : List V) (l : List (List D)) (sz : Nat) : Prop where
 vd : VD cs l.flatten
 row : ∀ r ∈ l, r.length = sz
theorem RowD.len {cs : List V} {l : List (List D)} {sz : Nat} (h : RowD cs l sz) : cs.length = l.length * sz := by rw [h.vd.len, flat_len h.row]
theorem RowD.take {cs : List V} {l : List (List D)} {sz : Nat} (h : RowD cs l sz) : cs.take (l.length * sz) = cs := by rw [← h.len, List.take_length]
theorem RowD.nil (sz : Nat) : RowD [] [] sz := ⟨.nil, by simp⟩
theorem RowD.snoc {cs vs : List V} {l : List (List D)} {r : List D} {sz : Nat} (h : RowD cs l sz) (hv : VD vs r) (hr : r.length = sz) : RowD (cs ++ vs) (l ++ [r]) sz :=
 ⟨by rw [List.flatten_append]; simpa using h.vd.app hv, fun x hx => by
  rcases List.mem_append.1 hx with hx | hx
  ·exact h.row x hx
  ·rw [List.mem_singleton.1 hx]; exact hr⟩
theorem RowD.app {cs vs : List V} {l k : List (List D)} {sz : Nat} (h : RowD cs l sz) (g : RowD vs k sz) : RowD (cs ++ vs) (l ++ k) sz :=
 ⟨by rw [List.flatten_append]; exact h.vd.app g.vd, fun x hx => by
  rcases List.mem_append.1 hx with hx | hx
  ·exact h.row x hx
  ·exact g.row x hx⟩
theorem RowD.toD {look : Look} {id g sz : Nat} {ro : Bool} {cs : List V} {l : List (List D)} {cap : Option Nat} (h : RowD cs l sz) (hl : look id = some ⟨g, ro, cs⟩) : toD look depthD (.osl id g 0 l.length sz cap) = some (.slice l, [id]) := by
 rw [toD_dep]
 have : live look id g = some ⟨g, ro, cs⟩ := by simp [live, hl]
 rw [this]
 simp only [Nat.zero_add, List.drop_zero, h.len, h.take, h.vd.toDs, chunk_flat h.row, nble_d, Nat.le_refl, decide_true]
theorem RowD.close {look : Look} {id g sz : Nat} {ro : Bool} {cs : List V} {l : List (List D)} {cap : Option Nat} (h : RowD cs l sz) (hl : look id = some ⟨g, ro, cs⟩) : closeT look (.osl id g 0 l.length sz cap) = some (dL l, [id]) := by
 show ofD (Ac.toD look depthD _) = _
 rw [h.toD hl]; rfl
theorem kf18 (r : Nat) : Ob.keep 18 r = Ob.k18 r := by kernel_rfl
theorem kf50 (r : Nat) : Ob.keep 50 r = Ob.k50 r := by kernel_rfl
attribute [local simp] kf18 Ob.k18 kf50 Ob.k50
set_option maxHeartbeats 4000000 in
theorem bare18 (l : List Dc) (hl : l.length ≤ 8388608) : den Tryz.prog Ob.cfg 18 [dL (encD l)] = some (dL (encD (l.map brD))) := by
 refine den_wp Tryz.func18 rfl (by kernel_rfl) rfl rfl ?_
 refine wkc (jn @envOf.eq_1 (jn @envOf.eq_2 (jn @dL.eq_1 (jn @fillV.eq_1 (jn @fillV.eq_2 @encD_len))))) ?_
 apply WP.loop' (I := fun D s => ∃ (j g c' : Nat) (hp' : Hp) (cs : List V), j + D = l.length ∧ hp'.get 0 = some ⟨g, false, cs⟩ ∧ RowD cs (encD ((l.take j).map brD)) 3 ∧
  s = ⟨[(0, dL (encD l)), (3, .osl 0 g 0 j 3 none), (4, dI j)], hp', 1, c', 0, []⟩) (d := l.length)
 ·exact ⟨0, 0, _, _, [], by simp, by simp, RowD.nil 3, st_eq (by simp [dI, dL]) rfl⟩
 rintro D _ ⟨j, g, c', hp', cs, hj, hx, hr, rfl⟩
 refine wk (jn @dI.eq_1 (jn @dL.eq_1 @encD_len)) ?_
 have hLl : (encD ((l.take j).map brD)).length = j := by simp; omega
 show WP _ _ _ _ _ _
 refine WP.cond _ rfl (fun hb => ?_) (fun hb => ?_)
 ·simp at hb
  have hb' : j < l.length := by omega
  obtain ⟨d, hd, hdm, hix⟩ := at_lt hb'
  have hd' := encD_at hd
  have hwj := w_succ hb' (by omega)
  have hsn := take_snoc hd
  have f5 := fits48 (show j ≤ 8388608 by omega)
  have r2 := hr.len
  have r3 := hr.take
  rw [hLl] at r2 r3
  refine wkc (jn @dI.eq_1 (jn @dL.eq_1 (jn @Dc.cells.eq_1 (jn @hix (jn @hd' (jn @fillV.eq_1 (jn @fillV.eq_2 (jn @closeParts.eq_1 (jn @closeParts.eq_2 (jn @cl2.eq_def (jn @toD_dep (jn @toD_d (jn @nble_d (jn @f5 (jn @r2 (jn @r3 @hx)))))))))))))))) ?_
  refine loop_next (by simp [hwj]; exact Is.rfl) ?_
  have hr2 := hr.snoc (vs := [V.d (.str d.nm), V.d (.int .i64 d.t), V.full []]) (r := (brD d).cells) (VD.d (VD.d (VD.full VD.nil))) rfl
  rw [encD_snoc, show (l.take j).map brD ++ [brD d] = (l.take (j + 1)).map brD by rw [hsn]; simp] at hr2
  exact ⟨D - 1, by omega, j + 1, _, _, _, _, by omega, by simp; rfl, hr2, st_eq (by simp [dI, dL, hwj]) rfl⟩
 ·simp at hb
  have hje : j = l.length := by omega
  rw [hje, List.take_length] at hr hLl
  have hcl := hr.close (cap := none) hx
  rw [hLl, ← hje] at hcl
  refine wkc (jn @dI.eq_1 @dL.eq_1) ?_
  exact ⟨.inr rfl, _, [0], rfl, hcl⟩
set_option maxHeartbeats 4000000 in
theorem plain50 (l : List Dc) (hl : l.length ≤ 8388608) : den Tryz.prog Ob.cfg 50 [dL (encD l)] = some (dL (encD (l.map brD))) := by
 refine den_wp Tryz.func50 rfl (by kernel_rfl) rfl rfl ?_
 refine wkc (jn @envOf.eq_1 (jn @envOf.eq_2 (jn @dL.eq_1 (jn @fillV.eq_1 (jn @fillV.eq_2 @encD_len))))) ?_
 apply WP.loop' (I := fun D s => ∃ (j g c' : Nat) (hp' : Hp) (cs : List V), j + D = l.length ∧ hp'.get 0 = some ⟨g, false, cs⟩ ∧ RowD cs (encD ((l.take j).map brD)) 3 ∧
  s = ⟨[(3, .osl 0 g 0 j 3 none), (6, dL (encD l)), (7, dI l.length), (8, dI j)], hp', 1, c', 0, []⟩) (d := l.length)
 ·exact ⟨0, 0, _, _, [], by simp, by simp, RowD.nil 3, st_eq (by simp [dI, dL]) rfl⟩
 rintro D _ ⟨j, g, c', hp', cs, hj, hx, hr, rfl⟩
 refine wk (jn @dI.eq_1 (jn @dL.eq_1 @encD_len)) ?_
 have hLl : (encD ((l.take j).map brD)).length = j := by simp; omega
 show WP _ _ _ _ _ _
 refine WP.cond _ rfl (fun hb => ?_) (fun hb => ?_)
 ·simp at hb
  have hb' : j < l.length := by omega
  obtain ⟨d, hd, hdm, hix⟩ := at_lt hb'
  have hd' := encD_at hd
  have hwj := w_succ hb' (by omega)
  have hsn := take_snoc hd
  have f5 := fits48 (show j ≤ 8388608 by omega)
  have r2 := hr.len
  have r3 := hr.take
  rw [hLl] at r2 r3
  refine wkc (jn @dI.eq_1 (jn @dL.eq_1 (jn @Dc.cells.eq_1 (jn @hix (jn @hd' (jn @fillV.eq_1 (jn @fillV.eq_2 (jn @closeParts.eq_1 (jn @closeParts.eq_2 (jn @cl2.eq_def (jn @toD_dep (jn @toD_d (jn @nble_d (jn @f5 (jn @r2 (jn @r3 @hx)))))))))))))))) ?_
  refine loop_next (by simp [hwj]; exact Is.rfl) ?_
  have hr2 := hr.snoc (vs := [V.d (.str d.nm), V.d (.int .i64 d.t), V.full []]) (r := (brD d).cells) (VD.d (VD.d (VD.full VD.nil))) rfl
  rw [encD_snoc, show (l.take j).map brD ++ [brD d] = (l.take (j + 1)).map brD by rw [hsn]; simp] at hr2
  exact ⟨D - 1, by omega, j + 1, _, _, _, _, by omega, by simp; rfl, hr2, st_eq (by simp [dI, dL, hwj]) rfl⟩
 ·simp at hb
  have hje : j = l.length := by omega
  rw [hje, List.take_length] at hr hLl
  have hcl := hr.close (cap := none) hx
  rw [hLl, ← hje] at hcl
  refine wkc (jn @dI.eq_1 @dL.eq_1) ?_
  exact ⟨.inr rfl, _, [0], rfl, hcl⟩
end Go.Ac
end

section
set_option maxRecDepth 4000
namespace Go.Ac
open Go.Proofs
attribute [local simp] Hp.get_set Ag_set Ag_refl Ag_trunc get_trunc_lt

theorem quietC_wp {f : FuncId} {fn : Func} {body : Code} {vs : List V} {v : V} {hp : Hp} {n c : Nat} (hf : Tryz.prog.funcs[f]? = some fn) (hb : fn.body = some body) (hok : (Nat.ble vs.length fn.ntmps && codeOK fn.ntmps body) = true)
  (hthr : Ob.cfg.thr f = false) (h : WP Tryz.prog Ob.cfg f body ⟨envOf 0 vs, hp, n, c, n, []⟩ (fun e t => (e = .normal ∨ e = .ret) ∧ t.wl = [] ∧ ∃ rs ids, resultsV Tryz.prog t fn.results.toList = some rs ∧ closeT t.hp.get (tup rs) = some (v, ids) ∧ (v.flat || ids.all (fun i => Nat.ble n i)) = true)) : QuietV Tryz.prog Ob.cfg f vs hp n c v := by
 obtain ⟨w, t, h1, h2⟩ := lim_wpD (Q := fun w t => w = v ∧ t.wl = []) hf hb hok hthr (h.mono fun e t ⟨he, hwl, rs, ids, a1, a2, a3⟩ => ⟨he, rs, v, ids, a1, a2, a3, rfl, hwl⟩)
 obtain ⟨rfl, hwl⟩ := h2
 rw [hwl] at h1
 exact ⟨_, _, h1⟩
/-- A memory in which a class object lies, with these maps. -/
structure KG (ic gc iv gv ip gp im gm ii gi : Nat) (o : Oc) (ea : List Cl) (c : Cl) (lv : List (Tx × Int)) (lp : List (Tx × Bool)) (lm : List (Tx × Int)) (li : List (Tx × Cl)) (hp : Hp) (n : Nat) : Prop where
 co : hp.get ic = some ⟨gc, false, [V.d (.slice (encE o.en)), V.d (.slice (encC ea)), V.d (.str c.nm), V.d (.slice (encD c.inn)), V.d (.slice (encD c.out)), V.d (.slice (encD c.loc)), V.d (.slice (encM c.mems)), V.d (.slice (encJ c.ins)), V.d (.slice (encY c.step)), .mp iv gv, .mp ip gp, .mp im gm, .mp ii gi]⟩
 vars : hp.get iv = some ⟨gv, false, [mpC eI lv]⟩
 ports : hp.get ip = some ⟨gp, false, [mpC eBo lp]⟩
 mems : hp.get im = some ⟨gm, false, [mpC eI lm]⟩
 ins : hp.get ii = some ⟨gi, false, [mpC eC li]⟩
 lc : ic < n
 lv : iv < n
 lp : ip < n
 lm : im < n
 li : ii < n
section
variable {ic gc iv gv ip gp im gm ii gi : Nat} {o : Oc} {ea : List Cl} {c : Cl} {lv lm : List (Tx × Int)} {lp : List (Tx × Bool)} {li : List (Tx × Cl)}
end
end Go.Ac
end

section
set_option maxRecDepth 4000
namespace Go.Ac
open Go.Proofs
attribute [local simp] Hp.get_set Ag_set Ag_refl Ag_trunc get_trunc_lt

/-- The insts map lies apart. -/
structure KD (ic iv ip im ii : Nat) : Prop where
 c : ic ≠ ii
 v : iv ≠ ii
 p : ip ≠ ii
 m : im ≠ ii

section
variable {ic gc iv gv ip gp im gm ii gi : Nat} {o : Oc} {ea : List Cl} {c : Cl} {lv lm : List (Tx × Int)} {lp : List (Tx × Bool)}
end
end Go.Ac
end

section
set_option maxRecDepth 4000
namespace Go.Ac
open Go.Proofs
attribute [local simp] Hp.get_set Ag_set Ag_refl Ag_trunc get_trunc_lt

/-- What the maps say of a class whose declarations are right. -/
structure KF (o : Oc) (ea : List Cl) (c : Cl) (lv : List (Tx × Int)) (lp : List (Tx × Bool)) (lm : List (Tx × Int)) (li : List (Tx × Cl)) : Prop where
 vars : ∀ x, mget lv x = if getT c x = 0 then none else some (getT c x)
 ports : ∀ x, mget lp x = if setT c x = 0 then none else some true
 mems : ∀ x, mget lm x = if findM c.mems x = 0 then none else some (findM c.mems x)
 ins : ∀ x, mget li x = if (findI c.ins o.cl x).2 = true then some (findI c.ins o.cl x).1 else none
 kw : KW o c
 pos : ∀ x, getT c x ≠ 0 → 0 < sizeE o.en (getT c x)
section
variable {ic gc iv gv ip gp im gm ii gi : Nat} {o : Oc} {ea : List Cl} {c : Cl} {lv lm : List (Tx × Int)} {lp : List (Tx × Bool)} {li : List (Tx × Cl)}
theorem KG.at {hp : Hp} {n : Nat} (h : KG ic gc iv gv ip gp im gm ii gi o ea c lv lp lm li hp n) (f : KF o ea c lv lp lm li) : KAt ic gc iv gv ip gp im gm ii gi o ea c hp n :=
 ⟨h.co, ⟨lv, h.vars, f.vars⟩, ⟨lp, h.ports, f.ports⟩, ⟨lm, h.mems, f.mems⟩, ⟨li, h.ins, f.ins⟩, h.lc, h.lv, h.lp, h.lm, h.li⟩
end
end Go.Ac
end

section
set_option maxRecDepth 4000
namespace Go.Ac
open Go.Proofs
/-! ### Memory taken over -/
def shO (n c : Nat) (o : Ob) : Ob := ⟨o.gen + c, o.ro, shiftVs n c o.cells⟩
theorem shiftH_eq (n c : Nat) (l : List (Nat × Ob)) : shiftH n c l = l.map fun p => (p.1 + n, shO n c p.2) := rfl
theorem Hp.get_sets_mem : ∀ (wr : List (Nat × Ob)) (h : Hp) (j : Nat) (o : Ob), (∀ p, p ∈ wr → p.1 = j → p.2 = o) → (∃ p, p ∈ wr ∧ p.1 = j) → (Hp.sets h wr).get j = some o
 | [], h, j, o, _, hx => by obtain ⟨p, hp, _⟩ := hx; cases hp
 | (k, x) :: r, h, j, o, ho, hx => by
  simp only [Hp.sets]
  by_cases hr : ∃ p, p ∈ r ∧ p.1 = j
  ·exact Hp.get_sets_mem r _ j o (fun p hp => ho p (List.mem_cons_of_mem _ hp)) hr
  ·rw [Hp.get_sets_ne r _ j fun p hp he => hr ⟨p, hp, he⟩]
   obtain ⟨p, hp, he⟩ := hx
   rcases List.mem_cons.1 hp with rfl | hp
   ·simp only at he
    subst he
    rw [Hp.get_set_self, ← ho _ (List.mem_cons_self ..) rfl]
   ·exact absurd ⟨p, hp, he⟩ hr
theorem import_new {hp : Hp} {look : Look} {n c m id : Nat} {o : Ob} (h : id < m) (ho : look id = some o) : (hp.sets (shiftH n c (wrOf look (List.range m)))).get (id + n) = some (shO n c o) := by
 refine Hp.get_sets_mem _ _ _ _ (fun p hp hid => ?_) ⟨(id + n, shO n c o), ?_, rfl⟩
 ·rw [shiftH_eq, List.mem_map] at hp
  obtain ⟨x, hx, rfl⟩ := hp
  have h2 := (mem_wrOf2.1 hx).2
  have h3 : x.1 = id := by simp only at hid; omega
  rw [h3, ho] at h2
  rw [Option.some.inj h2]
 ·rw [shiftH_eq, List.mem_map]
  exact ⟨(id, o), mem_wrOf2.2 ⟨List.mem_range.2 h, ho⟩, rfl⟩
theorem import_old {hp : Hp} {look : Look} {n c m id : Nat} (h : id < n) : (hp.sets (shiftH n c (wrOf look (List.range m)))).get id = hp.get id := by
 refine Hp.get_sets_ne _ _ _ (fun p hp hid => ?_)
 rw [shiftH_eq, List.mem_map] at hp
 obtain ⟨x, hx, rfl⟩ := hp
 simp only at hid; omega
theorem addNew_zero (wl : List Nat) : ∀ l : List (Nat × Ob), addNew 0 wl l = wl
 | [] => rfl
 | (k, o) :: r => by
  have : Nat.blt k 0 = false := by cases k <;> rfl
  simp only [addNew, this]; exact addNew_zero wl r
attribute [local simp] addNew_zero
end Go.Ac
end
