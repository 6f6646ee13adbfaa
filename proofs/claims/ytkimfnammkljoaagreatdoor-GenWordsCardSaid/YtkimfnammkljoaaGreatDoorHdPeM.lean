/- Forms of expressions and statements: the program's. -/
import Derived.Test.YtkimfnammkljoaaGreatDoorHdLM
set_option linter.unusedVariables false
set_option linter.unusedSimpArgs false
section
set_option maxRecDepth 4000
set_option linter.unusedSectionVars false
namespace Go.Ac
open Go.Proofs
variable [GwR]

/-! ### Rows laid flat -/
def fl (l : List (List D)) : List V := l.flatten.map .d
theorem toDs_d (look : Look) (f : Nat) : ∀ l : List D, toDs (toD look f) (l.map V.d) = some (l, [])
 | [] => rfl
 | x :: r => by
  have h1 := toDs_d look f r
  simp only [List.map_cons, toDs, h1, toD_d]; rfl
theorem fl_len {sz : Nat} {l : List (List D)} (h : ∀ r ∈ l, r.length = sz) : (fl l).length = l.length * sz := by unfold fl; rw [List.length_map, flat_len h]
theorem fl_take {sz : Nat} {l : List (List D)} (h : ∀ r ∈ l, r.length = sz) : (fl l).take (l.length * sz) = fl l := by rw [← fl_len h, List.take_length]
theorem rows_fl (look : Look) {sz : Nat} {l : List (List D)} (h : ∀ r ∈ l, r.length = sz) : rowsOf look sz (.d (.slice l)) = some (l.length, fl l, []) := by
 have : l.all (fun r => Nat.beq r.length sz) = true := by rw [List.all_eq_true]; intro r hr; rw [h r hr]; exact nbeq_self sz
 simp only [rowsOf, this, if_true]; rfl
theorem toDs_fl (look : Look) (f : Nat) (l : List (List D)) : toDs (toD look f) (fl l) = some (l.flatten, []) := toDs_d look f _
theorem fl_snoc (l : List (List D)) (r : List D) : fl l ++ r.map .d = fl (l ++ [r]) := by unfold fl; simp
theorem encP_row (l : List Pr) : ∀ r ∈ encP l, r.length = 2 := by unfold encP; intro r hr; obtain ⟨x, _, rfl⟩ := List.mem_map.1 hr; rfl
theorem encP_snoc (l : List Pr) (p : Pr) : encP l ++ [p.cells] = encP (l ++ [p]) := by unfold encP; simp

theorem close_fl {look : Look} {id g sz : Nat} {ro : Bool} {l : List (List D)} {cap : Option Nat} (h : ∀ r ∈ l, r.length = sz) (hl : look id = some ⟨g, ro, fl l⟩) : closeT look (.osl id g 0 l.length sz cap) = some (dL l, [id]) := by
 show ofD (toD look depthD _) = _
 rw [toD_dep]
 have : live look id g = some ⟨g, ro, fl l⟩ := by simp [live, hl]
 rw [this]
 simp only [Nat.zero_add, List.drop_zero, fl_len h, fl_take h, toDs_fl, chunk_flat h, nble_d, Nat.le_refl, decide_true]
 rfl


/-! ### Assignments -/
mutual
/-- Does a statement assign x (all: on each way)? -/
def asY (x : Tx) (all : Bool) : List Pr → Y → Bool
 | cx, .mk k nm _ _ outs _ brs =>
  if k = 1 then decide (nm = x) else if k = 4 then decide (x ∈ outs) else if k = 3 then
   match cx.find? (fun p => decide (p.nm = nm)) with
   | some p => asN x all cx brs p.br
   | none => if all then decide (asC x all cx nm 0 brs = brs.length) else decide (0 < asC x all cx nm 0 brs)
  else false
def asL (x : Tx) (all : Bool) : List Pr → List Y → Bool
 | _, [] => false
 | cx, y :: r => asY x all cx y || asL x all cx r
/-- The branch with a number. -/
def asN (x : Tx) (all : Bool) : List Pr → List (List Y) → Nat → Bool
 | _, [], _ => false
 | cx, b :: _, 0 => asL x all cx b
 | cx, _ :: r, n + 1 => asN x all cx r n
/-- How many branches do. -/
def asC (x : Tx) (all : Bool) : List Pr → Tx → Nat → List (List Y) → Nat
 | _, _, _, [] => 0
 | cx, nm, k, b :: r => (if asL x all (cx ++ [⟨nm, k⟩]) b then 1 else 0) + asC x all cx nm (k + 1) r
end
theorem asY_eq (x : Tx) (all : Bool) (cx : List Pr) (y : Y) : asY x all cx y = if y.k = 1 then decide (y.nm = x) else if y.k = 4 then decide (x ∈ y.outs) else if y.k = 3 then
   match cx.find? (fun p => decide (p.nm = y.nm)) with
   | some p => asN x all cx y.brs p.br
   | none => if all then decide (asC x all cx y.nm 0 y.brs = y.brs.length) else decide (0 < asC x all cx y.nm 0 y.brs)
  else false := by cases y; rw [asY]; rfl
theorem asL_any (x : Tx) (all : Bool) (cx : List Pr) : ∀ l : List Y, asL x all cx l = l.any (asY x all cx)
 | [] => by rw [asL]; rfl
 | y :: r => by rw [asL, asL_any x all cx r]; rfl
theorem asN_at (x : Tx) (all : Bool) (cx : List Pr) : ∀ (l : List (List Y)) (n : Nat) (b : List Y), l[n]? = some b → asN x all cx l n = asL x all cx b
 | [], n, b, h => by simp at h
 | c :: r, 0, b, h => by simp at h; subst h; rw [asN]
 | c :: r, n + 1, b, h => by rw [asN]; exact asN_at x all cx r n b (by simpa using h)
theorem asN_out (x : Tx) (all : Bool) (cx : List Pr) : ∀ (l : List (List Y)) (n : Nat), l.length ≤ n → asN x all cx l n = false
 | [], n, h => by rw [asN]
 | c :: r, 0, h => by simp at h
 | c :: r, n + 1, h => by rw [asN]; exact asN_out x all cx r n (by simpa using h)
theorem asC_snoc (x : Tx) (all : Bool) (cx : List Pr) (nm : Tx) : ∀ (l : List (List Y)) (k : Nat) (b : List Y), asC x all cx nm k (l ++ [b]) = asC x all cx nm k l + (if asL x all (cx ++ [⟨nm, k + l.length⟩]) b then 1 else 0)
 | [], k, b => by simp [asC]
 | c :: r, k, b => by
  rw [List.cons_append, asC, asC, asC_snoc x all cx nm r (k + 1) b]
  simp only [List.length_cons]
  rw [show k + 1 + r.length = k + (r.length + 1) by omega]
  omega

theorem count_le (x : Tx) (all : Bool) (cx : List Pr) (nm : Tx) : ∀ (l : List (List Y)) (k : Nat), asC x all cx nm k l ≤ l.length
 | [], k => by simp [asC]
 | b :: r, k => by rw [asC]; have := count_le x all cx nm r (k + 1); simp only [List.length_cons]; split <;> omega

end Go.Ac
end

section
set_option maxRecDepth 4000
set_option linter.unusedSectionVars false
namespace Go.Ac
open Go.Proofs
variable [GwR]

def zeroE (x : X) : Bool := decide (x.k = 0) && decide (x.o = 0) && decide (x.t = 0) && decide (x.v = 0) && decide (x.nm = []) && decide (x.args = [])
theorem len0 {α : Type} (l : List α) : ((l.length : Int) = 0) = (l = []) := by cases l <;> simp; omega
theorem dFalse {p : Prop} [Decidable p] (h : ¬ p) : decide p = false := decide_eq_false h
theorem dTrue {p : Prop} [Decidable p] (h : p) : decide p = true := decide_eq_true h

def booE (o : Int) : Bool := decide (o = 1 ∨ o = 3 ∨ o = 4 ∨ o = 5)
def eqlE (o : Int) : Bool := decide (o = 11 ∨ o = 12)
def ariE (o : Int) : Bool := decide (o = 2 ∨ (6 ≤ o ∧ o ≤ 10))
def wantE (o : Int) (l : List Int) : Int := if eqlE o then l.headD 0 else if booE o then 1 else 2
def resE (o : Int) (l : List Int) : Int × Int := if arE o = 0 then (0, 2) else if (l.length : Int) ≠ arE o then (0, 9) else if wantE o l < 1 then (0, 10) else if l.any (fun t => !decide (t = wantE o l)) then (0, 10) else if ariE o then (2, 0) else (1, 0)
theorem arE_le (o : Int) : arE o ≤ 2 := by unfold arE; split; omega; split <;> omega

end Go.Ac
end

section
set_option maxRecDepth 4000
set_option linter.unusedSectionVars false
namespace Go.Ac
open Go.Proofs
variable [GwR]
/-- How many arguments a form has. -/
def formN (k o t v : Int) (nm : Tx) : Option Int :=
 if k = 1 then (if nm = [] ∧ o = 0 then some 0 else none)
 else if k = 2 ∨ k = 12 then (if t = 0 ∧ v = 0 ∧ o = 0 then some 0 else none)
 else if k = 3 then (if arE o ≠ 0 ∧ t = 0 ∧ v = 0 ∧ nm = [] then some (arE o) else none)
 else if k = 4 then (if t = 0 ∧ v = 0 ∧ o = 0 ∧ nm = [] then some 3 else none) else none
mutual
def formE : X → Bool
 | .mk k o t v nm args => match formN k o t v nm with
  | none => false
  | some n => decide ((args.length : Int) = n) && formL args
def formL : List X → Bool
 | [] => true
 | x :: r => formE x && formL r
end
theorem formE_eq (x : X) : formE x = match formN x.k x.o x.t x.v x.nm with
  | none => false
  | some n => decide ((x.args.length : Int) = n) && formL x.args := by cases x; rw [formE]; rfl
theorem formL_all : ∀ l : List X, formL l = l.all formE
 | [] => by rw [formL]; rfl
 | x :: r => by rw [formL, formL_all r]; rfl
theorem formE_none {x : X} (h : formN x.k x.o x.t x.v x.nm = none) : formE x = false := by rw [formE_eq, h]
theorem arE_nn (o : Int) : 0 ≤ arE o := by unfold arE; split; omega; split <;> omega

end Go.Ac
end

section
set_option maxRecDepth 4000
set_option linter.unusedSectionVars false
namespace Go.Ac
open Go.Proofs
variable [GwR]
def readyW (w : Pl) (nm : Tx) : Bool := decide (findD w.c.inn nm ≠ 0) || asL nm true w.cx w.bf
def kindO (w : Pl) (k o t v : Int) (nm : Tx) (l : List Int) : Int × Int :=
 if k = 1 then (if hasE w.o.en t v then (t, 0) else (0, 10))
 else if k = 2 then (if getT w.c nm = 0 then (0, 6) else if readyW w nm then (getT w.c nm, 0) else (0, 22))
 else if k = 12 then (if findM w.c.mems nm = 0 then (0, 6) else (findM w.c.mems nm, 0))
 else if k = 3 then resE o l
 else if l.getD 0 0 ≠ 1 ∨ l.getD 1 0 ≠ l.getD 2 0 then (0, 10) else (l.getD 1 0, 0)
mutual
/-- The type of an expression, or its first error. -/
def kindW (w : Pl) : X → Int × Int
 | .mk k o t v nm args => if (kindsW w args).2 ≠ 0 then (0, (kindsW w args).2) else kindO w k o t v nm (kindsW w args).1
def kindsW (w : Pl) : List X → List Int × Int
 | [] => ([], 0)
 | x :: r => if (kindW w x).2 ≠ 0 then ([], (kindW w x).2) else if (kindsW w r).2 ≠ 0 then ([], (kindsW w r).2) else ((kindW w x).1 :: (kindsW w r).1, 0)
end
theorem kindW_eq (w : Pl) (x : X) : kindW w x = if (kindsW w x.args).2 ≠ 0 then (0, (kindsW w x.args).2) else kindO w x.k x.o x.t x.v x.nm (kindsW w x.args).1 := by cases x; rw [kindW]; rfl
def okK (w : Pl) (x : X) : Bool := decide ((kindW w x).2 = 0)
theorem kindsW_bad (w : Pl) : ∀ {l : List X} {j : Nat} {d : X}, (l.take j).all (okK w) = true → l[j]? = some d → (kindW w d).2 ≠ 0 → kindsW w l = ([], (kindW w d).2)
 | [], j, d, _, h, _ => by simp at h
 | x :: r, 0, d, _, h, hb => by simp at h; subst h; rw [kindsW, if_pos hb]
 | x :: r, j + 1, d, hn, h, hb => by
  simp only [List.take_succ_cons, List.all_cons, Bool.and_eq_true] at hn
  have h1 : (kindW w x).2 = 0 := by simpa [okK] using hn.1
  have h2 := kindsW_bad w hn.2 (by simpa using h) hb
  rw [kindsW, if_neg (by simp [h1]), h2, if_pos hb]
theorem kindsW_ok (w : Pl) : ∀ {l : List X}, l.all (okK w) = true → kindsW w l = (l.map (fun x => (kindW w x).1), 0)
 | [], _ => by rw [kindsW]; rfl
 | x :: r, hn => by
  simp only [List.all_cons, Bool.and_eq_true] at hn
  have h1 : (kindW w x).2 = 0 := by simpa [okK] using hn.1
  rw [kindsW, if_neg (by simp [h1]), kindsW_ok w hn.2, if_neg (by simp)]; rfl
theorem X.ok_eq {x : X} (h : x.ok) : I64 x.t ∧ okX x.args := by cases x; rw [X.ok] at h; exact ⟨h.2.2.1, h.2.2.2.2⟩
theorem formE_k {x : X} (h : formE x = true) : x.k = 1 ∨ x.k = 2 ∨ x.k = 12 ∨ x.k = 3 ∨ x.k = 4 := by
 rw [formE_eq] at h
 unfold formN at h
 by_cases q1 : x.k = 1; · exact .inl q1
 by_cases q2 : x.k = 2; · exact .inr (.inl q2)
 by_cases q3 : x.k = 12; · exact .inr (.inr (.inl q3))
 by_cases q4 : x.k = 3; · exact .inr (.inr (.inr (.inl q4)))
 by_cases q5 : x.k = 4; · exact .inr (.inr (.inr (.inr q5)))
 simp [q1, q2, q3, q4, q5] at h
theorem formE_l {x : X} (h : formE x = true) : x.args.all formE = true ∧ (x.k = 4 → x.args.length = 3) ∧ x.args.length ≤ 3 := by
 rw [formE_eq] at h
 split at h
 ·cases h
 rename_i n hn
 rw [Bool.and_eq_true, formL_all] at h
 have hl := of_decide_eq_true h.1
 have hr := arE_le x.o
 refine ⟨h.2, fun hk => ?_, ?_⟩
 ·unfold formN at hn
  rw [hk] at hn
  simp at hn
  obtain ⟨_, hn⟩ := hn
  omega
 ·unfold formN at hn
  split at hn
  ·split at hn <;> simp at hn; omega
  split at hn
  ·split at hn <;> simp at hn; omega
  split at hn
  ·split at hn <;> simp at hn; omega
  split at hn
  ·split at hn <;> simp at hn; omega
  ·cases hn
theorem encI_row (l : List Int) : ∀ r ∈ encI l, r.length = 1 := by unfold encI; intro r hr; obtain ⟨x, _, rfl⟩ := List.mem_map.1 hr; rfl
theorem encI_snoc (l : List Int) (v : Int) : encI l ++ [[.int .i64 v]] = encI (l ++ [v]) := by unfold encI; simp

end Go.Ac
end

section
set_option maxRecDepth 4000
set_option linter.unusedSectionVars false
namespace Go.Ac
open Go.Proofs
variable [GwR]
theorem lt0 {α : Type} (l : List α) : ((0 : Int) < (l.length : Int)) = (l ≠ []) := by cases l <;> simp <;> omega
theorem lt0n {α : Type} (l : List α) : (0 < l.length) = (l ≠ []) := by cases l <;> simp


end Go.Ac
end

section
set_option maxRecDepth 4000
set_option linter.unusedSectionVars false
namespace Go.Ac
open Go.Proofs
variable [GwR]
theorem szY_app (a b : List Y) : szY (a ++ b) = szY a + szY b := by simp [szY_sum]
theorem Y.ok_eq {y : Y} (h : y.ok) : I64 y.t ∧ y.r.ok ∧ okX y.args ∧ okB y.brs := by cases y; rw [Y.ok] at h; exact h.2

end Go.Ac
end

section
set_option maxRecDepth 4000
set_option linter.unusedSectionVars false
namespace Go.Ac
open Go.Proofs
variable [GwR]
theorem I64.zero : I64 0 := by unfold I64; omega

end Go.Ac
end

section
set_option maxRecDepth 4000
set_option linter.unusedSectionVars false
namespace Go.Ac
open Go.Proofs
variable [GwR]
def SQ (e : Env) (hp : Hp) (n n0 : Nat) (s : St) : Prop := ∃ hp' c, Ag n hp hp' ∧ s = ⟨e, hp', n, c, n0, []⟩
theorem nbY_eq (y : Y) : nbY y = ((!decide (y.k = 3) || decide (y.brs ≠ [])) && nbB y.brs) := by cases y; rw [nbY]; rfl
theorem nbL_all : ∀ l : List Y, nbL l = l.all nbY
 | [] => by rw [nbL]; rfl
 | x :: r => by rw [nbL, nbL_all r]; rfl
theorem nbB_all : ∀ l : List (List Y), nbB l = l.all nbL
 | [] => by rw [nbB]; rfl
 | x :: r => by rw [nbB, nbB_all r]; rfl

theorem kf360 (r : Nat) : Ob.keep 360 r = Ob.k360 r := by kernel_rfl
theorem kf284 (r : Nat) : Ob.keep 284 r = Ob.k284 r := by kernel_rfl
attribute [local simp] kf360 Ob.k360 kf284 Ob.k284
theorem index156 {i1 g1 i2 g2 i3 g3 : Nat} {p : Y → Bool} (l : List (Y)) (hl : l.length ≤ MX) (hp : Hp) (n : Nat) (hq : ∀ v, v ∈ l → ∀ hp' c, Ag n hp hp' → Quiet Tryz.prog Ob.cfg 285 [aG v.cells, .ptr i1 g1 0, .ptr i2 g2 0, .ptr i3 g3 0] hp' n c (.bool (p v))) (c : Nat) :
  Quiet Tryz.prog Ob.cfg 360 [dL (encY l), .fn 285 [.ptr i1 g1 0, .ptr i2 g2 0, .ptr i3 g3 0]] hp n c (.int .i64 (ixP p l)) := by
 unfold MX at hl
 refine quiet_wp Tryz.func360 rfl (by kernel_rfl) rfl ?_
 refine wkqn (jn @envOf.eq_1 (jn @envOf.eq_2 (jn @dL.eq_1 @encY_len))) ?_
 apply WP.loop' (I := fun d s => ∃ i : Nat, i + d = l.length ∧ (l.take i).all (fun v => !p v) = true ∧ SQ [(0, dL (encY l)), (1, .fn 285 [.ptr i1 g1 0, .ptr i2 g2 0, .ptr i3 g3 0]), (7, dI l.length), (8, dI i)] hp n n s) (d := l.length)
 ·exact ⟨0, by simp, by simp, _, _, Ag.refl n hp, st_eq (by simp [dL, dI]) rfl⟩
 rintro d _ ⟨i, hii, hno, hp', c1, hag, rfl⟩
 refine wkqn (jn @dI.eq_1 @dL.eq_1) ?_
 show WP _ _ _ _ _ _
 refine WP.cond _ rfl (fun hb => ?_) (fun hb => ?_)
 ·simp at hb
  have hb' : i < l.length := hb
  obtain ⟨v, hv, hvm, hix⟩ := at_lt hb'
  have hv' := encY_at hv
  have hw := w_succ hb' (by omega)
  have hts := all_snoc (p := fun v => !p v) hv
  obtain ⟨h5, h6, h4⟩ := Quiet.fn (fun c => hq v hvm hp' c hag)
  simp only [aG, dL, dI, Y.cells_eq, List.map_cons, List.map_nil] at h4
  refine wkqn (jn @hix (jn @hv' (jn @dL.eq_1 (jn @dI.eq_1 (jn @Y.cells_eq @h4))))) ?_
  show WP _ _ _ _ _ _
  refine WP.cond _ rfl (fun hb => ?_) (fun hb => ?_)
  ·refine wkqn True.intro ?_
   rw [ixP_some hno hv hb]
   exact ⟨.inr rfl, rfl, _, rfl, rfl⟩
  ·refine wkqn True.intro ?_
   refine loop_next (by simp [hw]; exact Is.rfl) ?_
   exact ⟨d - 1, by omega, i + 1, by omega, by rw [hts, hno]; simpa using hb, _, _, hag.trunc, st_eq (by simp [dI, dL, hw]) rfl⟩
 ·simp at hb
  have hil : i = l.length := by omega
  subst hil
  rw [List.take_length] at hno
  refine wkqn True.intro ?_
  rw [ixP_none hno]
  exact ⟨.inr rfl, rfl, _, rfl, rfl⟩
theorem contains139 {i1 g1 i2 g2 i3 g3 : Nat} {p : Y → Bool} (l : List (Y)) (hl : l.length ≤ MX) (hp : Hp) (n : Nat) (hq : ∀ v, v ∈ l → ∀ hp' c, Ag n hp hp' → Quiet Tryz.prog Ob.cfg 285 [aG v.cells, .ptr i1 g1 0, .ptr i2 g2 0, .ptr i3 g3 0] hp' n c (.bool (p v))) (c : Nat) :
  Quiet Tryz.prog Ob.cfg 284 [dL (encY l), .fn 285 [.ptr i1 g1 0, .ptr i2 g2 0, .ptr i3 g3 0]] hp n c (.bool (l.any p)) := by
 obtain ⟨h5, h6, h4⟩ := Quiet.fn (fun c => index156 (p := p) l hl hp n hq c)
 simp only [dL] at h4
 rw [← ixP_any]
 refine quiet_wp Tryz.func284 rfl (by kernel_rfl) rfl ?_
 refine wkqn (jn @envOf.eq_1 (jn @envOf.eq_2 (jn @dL.eq_1 @h4))) ?_
 exact ⟨.inr rfl, rfl, _, rfl, rfl⟩

theorem kf283 (r : Nat) : Ob.keep 283 r = Ob.k283 r := by kernel_rfl
theorem kf206 (r : Nat) : Ob.keep 206 r = Ob.k206 r := by kernel_rfl
attribute [local simp] kf283 Ob.k283 kf206 Ob.k206
theorem index138 {i1 g1 i2 g2 i3 g3 : Nat} {p : List Y → Bool} (l : List (List Y)) (hl : l.length ≤ MX) (hp : Hp) (n : Nat) (hq : ∀ v, v ∈ l → ∀ hp' c, Ag n hp hp' → Quiet Tryz.prog Ob.cfg 207 [dL (encY v), .ptr i1 g1 0, .ptr i2 g2 0, .ptr i3 g3 0] hp' n c (.bool (p v))) (c : Nat) :
  Quiet Tryz.prog Ob.cfg 283 [dL (encB l), .fn 207 [.ptr i1 g1 0, .ptr i2 g2 0, .ptr i3 g3 0]] hp n c (.int .i64 (ixP p l)) := by
 unfold MX at hl
 refine quiet_wp Tryz.func283 rfl (by kernel_rfl) rfl ?_
 refine wkqn (jn @envOf.eq_1 (jn @envOf.eq_2 (jn @dL.eq_1 @encB_len))) ?_
 apply WP.loop' (I := fun d s => ∃ i : Nat, i + d = l.length ∧ (l.take i).all (fun v => !p v) = true ∧ SQ [(0, dL (encB l)), (1, .fn 207 [.ptr i1 g1 0, .ptr i2 g2 0, .ptr i3 g3 0]), (7, dI l.length), (8, dI i)] hp n n s) (d := l.length)
 ·exact ⟨0, by simp, by simp, _, _, Ag.refl n hp, st_eq (by simp [dL, dI]) rfl⟩
 rintro d _ ⟨i, hii, hno, hp', c1, hag, rfl⟩
 refine wkqn (jn @dI.eq_1 @dL.eq_1) ?_
 show WP _ _ _ _ _ _
 refine WP.cond _ rfl (fun hb => ?_) (fun hb => ?_)
 ·simp at hb
  have hb' : i < l.length := hb
  obtain ⟨v, hv, hvm, hix⟩ := at_lt hb'
  have hv' := encB_at hv
  have hw := w_succ hb' (by omega)
  have hts := all_snoc (p := fun v => !p v) hv
  obtain ⟨h5, h6, h4⟩ := Quiet.fn (fun c => hq v hvm hp' c hag)
  simp only [aG, dL, dI, List.map_cons, List.map_nil] at h4
  refine wkqn (jn @hix (jn @hv' (jn @dL.eq_1 (jn @dI.eq_1 @h4)))) ?_
  show WP _ _ _ _ _ _
  refine WP.cond _ rfl (fun hb => ?_) (fun hb => ?_)
  ·refine wkqn True.intro ?_
   rw [ixP_some hno hv hb]
   exact ⟨.inr rfl, rfl, _, rfl, rfl⟩
  ·refine wkqn True.intro ?_
   refine loop_next (by simp [hw]; exact Is.rfl) ?_
   exact ⟨d - 1, by omega, i + 1, by omega, by rw [hts, hno]; simpa using hb, _, _, hag.trunc, st_eq (by simp [dI, dL, hw]) rfl⟩
 ·simp at hb
  have hil : i = l.length := by omega
  subst hil
  rw [List.take_length] at hno
  refine wkqn True.intro ?_
  rw [ixP_none hno]
  exact ⟨.inr rfl, rfl, _, rfl, rfl⟩
theorem contains111 {i1 g1 i2 g2 i3 g3 : Nat} {p : List Y → Bool} (l : List (List Y)) (hl : l.length ≤ MX) (hp : Hp) (n : Nat) (hq : ∀ v, v ∈ l → ∀ hp' c, Ag n hp hp' → Quiet Tryz.prog Ob.cfg 207 [dL (encY v), .ptr i1 g1 0, .ptr i2 g2 0, .ptr i3 g3 0] hp' n c (.bool (p v))) (c : Nat) :
  Quiet Tryz.prog Ob.cfg 206 [dL (encB l), .fn 207 [.ptr i1 g1 0, .ptr i2 g2 0, .ptr i3 g3 0]] hp n c (.bool (l.any p)) := by
 obtain ⟨h5, h6, h4⟩ := Quiet.fn (fun c => index138 (p := p) l hl hp n hq c)
 simp only [dL] at h4
 rw [← ixP_any]
 refine quiet_wp Tryz.func206 rfl (by kernel_rfl) rfl ?_
 refine wkqn (jn @envOf.eq_1 (jn @envOf.eq_2 (jn @dL.eq_1 @h4))) ?_
 exact ⟨.inr rfl, rfl, _, rfl, rfl⟩

theorem kf361 (r : Nat) : Ob.keep 361 r = Ob.k361 r := by kernel_rfl
attribute [local simp] kf361 Ob.k361
theorem index157 {i1 g1 : Nat} {p : Pr → Bool} (l : List (Pr)) (hl : l.length ≤ MX) (hp : Hp) (n : Nat) (hq : ∀ v, v ∈ l → ∀ hp' c, Ag n hp hp' → Quiet Tryz.prog Ob.cfg 362 [aG v.cells, .ptr i1 g1 0] hp' n c (.bool (p v))) (c : Nat) :
  Quiet Tryz.prog Ob.cfg 361 [dL (encP l), .fn 362 [.ptr i1 g1 0]] hp n c (.int .i64 (ixP p l)) := by
 unfold MX at hl
 refine quiet_wp Tryz.func361 rfl (by kernel_rfl) rfl ?_
 refine wkqn (jn @envOf.eq_1 (jn @envOf.eq_2 (jn @dL.eq_1 @encP_len))) ?_
 apply WP.loop' (I := fun d s => ∃ i : Nat, i + d = l.length ∧ (l.take i).all (fun v => !p v) = true ∧ SQ [(0, dL (encP l)), (1, .fn 362 [.ptr i1 g1 0]), (7, dI l.length), (8, dI i)] hp n n s) (d := l.length)
 ·exact ⟨0, by simp, by simp, _, _, Ag.refl n hp, st_eq (by simp [dL, dI]) rfl⟩
 rintro d _ ⟨i, hii, hno, hp', c1, hag, rfl⟩
 refine wkqn (jn @dI.eq_1 @dL.eq_1) ?_
 show WP _ _ _ _ _ _
 refine WP.cond _ rfl (fun hb => ?_) (fun hb => ?_)
 ·simp at hb
  have hb' : i < l.length := hb
  obtain ⟨v, hv, hvm, hix⟩ := at_lt hb'
  have hv' := encP_at hv
  have hw := w_succ hb' (by omega)
  have hts := all_snoc (p := fun v => !p v) hv
  obtain ⟨h5, h6, h4⟩ := Quiet.fn (fun c => hq v hvm hp' c hag)
  simp only [aG, dL, dI, Pr.cells, List.map_cons, List.map_nil] at h4
  refine wkqn (jn @hix (jn @hv' (jn @dL.eq_1 (jn @dI.eq_1 (jn @Pr.cells.eq_1 @h4))))) ?_
  show WP _ _ _ _ _ _
  refine WP.cond _ rfl (fun hb => ?_) (fun hb => ?_)
  ·refine wkqn True.intro ?_
   rw [ixP_some hno hv hb]
   exact ⟨.inr rfl, rfl, _, rfl, rfl⟩
  ·refine wkqn True.intro ?_
   refine loop_next (by simp [hw]; exact Is.rfl) ?_
   exact ⟨d - 1, by omega, i + 1, by omega, by rw [hts, hno]; simpa using hb, _, _, hag.trunc, st_eq (by simp [dI, dL, hw]) rfl⟩
 ·simp at hb
  have hil : i = l.length := by omega
  subst hil
  rw [List.take_length] at hno
  refine wkqn True.intro ?_
  rw [ixP_none hno]
  exact ⟨.inr rfl, rfl, _, rfl, rfl⟩

end Go.Ac
end

section
set_option maxRecDepth 4000
set_option linter.unusedSectionVars false
namespace Go.Ac
open Go.Proofs
variable [GwR]
theorem kf285 (r : Nat) : Ob.keep 285 r = Ob.k285 r := by kernel_rfl
theorem kf208 (r : Nat) : Ob.keep 208 r = Ob.k208 r := by kernel_rfl
theorem kf362 (r : Nat) : Ob.keep 362 r = Ob.k362 r := by kernel_rfl
attribute [local simp] kf285 Ob.k285 kf208 Ob.k208 kf362 Ob.k362
theorem call140 {nm : Tx} {cx : List Pr} {can b : Bool} {y : Y} (h : den Tryz.prog Ob.cfg 286 [aG y.cells, dS nm, dL (encP cx), dB can] = some (dB b)) {i1 g1 i2 g2 i3 g3 : Nat} (hp : Hp) (n c : Nat)
  (h1 : hp.get i1 = some ⟨g1, false, [dS nm]⟩) (h2 : hp.get i2 = some ⟨g2, false, [dL (encP cx)]⟩) (h3 : hp.get i3 = some ⟨g3, false, [dB can]⟩) (l1 : i1 < n) (l2 : i2 < n) (l3 : i3 < n) :
  Quiet Tryz.prog Ob.cfg 285 [aG y.cells, .ptr i1 g1 0, .ptr i2 g2 0, .ptr i3 g3 0] hp n c (.bool b) := by
 have e1 : ∀ o, (hp.set n o).get i1 = some ⟨g1, false, [dS nm]⟩ := fun o => (Hp.get_set_ne hp n i1 o (by omega)).trans h1
 have e2 : ∀ o, (hp.set n o).get i2 = some ⟨g2, false, [dL (encP cx)]⟩ := fun o => (Hp.get_set_ne hp n i2 o (by omega)).trans h2
 have e3 : ∀ o, (hp.set n o).get i3 = some ⟨g3, false, [dB can]⟩ := fun o => (Hp.get_set_ne hp n i3 o (by omega)).trans h3
 have e0 : ∀ o, (hp.set n o).get n = some o := fun o => Hp.get_set_self ..
 simp only [aG, Y.cells_eq, List.map_cons, List.map_nil, dL, dS, dB] at h e1 e2 e3
 refine quiet_wp Tryz.func285 rfl (by kernel_rfl) rfl ?_
 refine wkqn (jn @envOf.eq_1 (jn @envOf.eq_2 (jn @aG.eq_1 (jn @Y.cells_eq (jn @dL.eq_1 (jn @dS.eq_1 (jn @dB.eq_1 (jn @e0 (jn @e1 (jn @e2 (jn @e3 @h))))))))))) ?_
 exact ⟨.inr rfl, rfl, _, rfl, rfl⟩
theorem call158 {nm : Tx} {rest : List V} {x : Pr} {i1 g1 : Nat} {k : V} (hp : Hp) (n c : Nat) (h1 : hp.get i1 = some ⟨g1, false, k :: dS nm :: rest⟩) (l1 : i1 < n) :
  Quiet Tryz.prog Ob.cfg 362 [aG x.cells, .ptr i1 g1 0] hp n c (.bool (decide (x.nm = nm))) := by
 have e1 : ∀ o, (hp.set n o).get i1 = some ⟨g1, false, k :: dS nm :: rest⟩ := fun o => (Hp.get_set_ne hp n i1 o (by omega)).trans h1
 have e0 : ∀ o, (hp.set n o).get n = some o := fun o => Hp.get_set_self ..
 simp only [dS] at e1
 refine quiet_wp Tryz.func362 rfl (by kernel_rfl) rfl ?_
 refine wkqn (jn @envOf.eq_1 (jn @envOf.eq_2 (jn @aG.eq_1 (jn @Pr.cells.eq_1 (jn @dS.eq_1 (jn @e0 (jn @e1 @tx_beq))))))) ?_
 exact ⟨.inr rfl, rfl, _, rfl, rfl⟩
/-- What 113 says. -/
def SomePAt (nm : Tx) (can : Bool) (N : Nat) : Prop := ∀ (l : List Y) (cx : List Pr), szY l < N → nbL l = true → cx.length + szY l ≤ 8388608 → den Tryz.prog Ob.cfg 208 [dL (encY l), dS nm, dL (encP cx), dB can] = some (dB (asL nm (!can) cx l))
theorem some113 {nm : Tx} {can : Bool} {cx : List Pr} (l : List Y) (hl : l.length ≤ MX) (h : ∀ y, y ∈ l → den Tryz.prog Ob.cfg 286 [aG y.cells, dS nm, dL (encP cx), dB can] = some (dB (asY nm (!can) cx y))) :
  den Tryz.prog Ob.cfg 208 [dL (encY l), dS nm, dL (encP cx), dB can] = some (dB (asL nm (!can) cx l)) := by
 have hQ := fun c => contains139 (i1 := 0) (g1 := 0) (i2 := 1) (g2 := 1) (i3 := 2) (g3 := 2) (p := asY nm (!can) cx) l hl [(0, ⟨0, false, [dS nm]⟩), (1, ⟨1, false, [dL (encP cx)]⟩), (2, ⟨2, false, [dB can]⟩)] 3
  (fun v hv hp' c hag => call140 (h v hv) hp' 3 c ((hag 0 (by omega)).trans rfl) ((hag 1 (by omega)).trans rfl) ((hag 2 (by omega)).trans rfl) (by omega) (by omega) (by omega)) c
 obtain ⟨h5, h6, h4⟩ := Quiet.fn hQ
 simp only [dL, dS, dB] at h4
 rw [asL_any]
 refine den_wp Tryz.func208 rfl (by kernel_rfl) rfl rfl ?_
 refine wkqn (jn @dL.eq_1 (jn @dS.eq_1 (jn @dB.eq_1 @h4))) ?_
 show retQ _ _ _ _ _
 exact ⟨.inr rfl, _, _, rfl, rfl⟩
end Go.Ac
end

section
set_option maxRecDepth 4000
set_option linter.unusedSectionVars false
namespace Go.Ac
open Go.Proofs
variable [GwR]
theorem kf199 (r : Nat) : Ob.keep 199 r = Ob.k199 r := by kernel_rfl
theorem kf276 (r : Nat) : Ob.keep 276 r = Ob.k276 r := by kernel_rfl
theorem kf286 (r : Nat) : Ob.keep 286 r = Ob.k286 r := by kernel_rfl
attribute [local simp] kf199 Ob.k199 kf276 Ob.k276 kf286 Ob.k286
theorem first_cases {α : Type} (p : α → Bool) : ∀ l : List α, (∃ (i : Nat) (v : α), l[i]? = some v ∧ (l.take i).all (fun a => !p a) = true ∧ p v = true) ∨ l.all (fun a => !p a) = true
 | [] => .inr rfl
 | a :: r => by
  cases h : p a with
  | true => exact .inl ⟨0, a, rfl, rfl, h⟩
  | false =>
   rcases first_cases p r with ⟨i, v, h1, h2, h3⟩ | h1
   ·exact .inl ⟨i + 1, v, by simpa using h1, by simp [h, h2], h3⟩
   ·exact .inr (by simp only [List.all_cons, h, h1]; rfl)
theorem asC_app (x : Tx) (all : Bool) (cx : List Pr) (nm : Tx) : ∀ (a b : List (List Y)) (k : Nat), asC x all cx nm k (a ++ b) = asC x all cx nm k a + asC x all cx nm (k + a.length) b
 | [], b, k => by simp [asC]
 | c :: r, b, k => by
  rw [List.cons_append, asC, asC, asC_app x all cx nm r b (k + 1), List.length_cons, show k + 1 + r.length = k + (r.length + 1) by omega]; omega
theorem asC_cut (x : Tx) (all : Bool) (cx : List Pr) (nm : Tx) (l : List (List Y)) (j : Nat) : asC x all cx nm 0 (l.take j) ≤ asC x all cx nm 0 l ∧ asC x all cx nm 0 l ≤ asC x all cx nm 0 (l.take j) + (l.length - j) := by
 have h := asC_app x all cx nm (l.take j) (l.drop j) 0
 rw [List.take_append_drop] at h
 have h2 := count_le x all cx nm (l.drop j) (0 + (l.take j).length)
 rw [List.length_drop] at h2
 omega
set_option maxHeartbeats 1000000 in
theorem index175 (l : List Tx) (x : Tx) (hl : l.length ≤ MX) : den Tryz.prog Ob.cfg 276 [dL (encS l), dS x] = some (dI (ixP (fun v => decide (x = v)) l)) := by
 unfold MX at hl
 refine den_wp Tryz.func276 rfl (by kernel_rfl) rfl rfl ?_
 refine wkqn (jn @dL.eq_1 (jn @dS.eq_1 @encS_len)) ?_
 apply WP.loop' (I := fun D s => ∃ j : Nat, j + D = l.length ∧ (l.take j).all (fun v => !decide (x = v)) = true ∧ SE [(0, dL (encS l)), (1, dS x), (7, dI l.length), (8, dI j)] [] 0 s) (d := l.length)
 ·exact ⟨0, by simp, by simp, SE.mk (by simp [dI, dL, dS]) rfl⟩
 rintro D _ ⟨j, hj, hno, cc, rfl⟩
 refine wkqn (jn @dI.eq_1 (jn @dL.eq_1 @dS.eq_1)) ?_
 show WP _ _ _ _ _ _
 refine WP.cond _ rfl (fun hb => ?_) (fun hb => ?_)
 ·simp at hb
  have hb' : j < l.length := by omega
  obtain ⟨d, hd, hdm, hix⟩ := at_lt hb'
  have hd' := encS_at hd
  have hw := w_succ hb' (by omega)
  have hs := all_snoc (p := fun v => !decide (x = v)) hd
  by_cases hq : x = d
  ·have hq' := eq_true hq
   rw [ixP_some hno hd (decide_eq_true hq)]
   refine wkcqn (jn @dI.eq_1 (jn @dL.eq_1 (jn @dS.eq_1 (jn @hix (jn @hd' (jn @tx_beq @hq')))))) ?_
   show retQ _ _ _ _ _
   exact ⟨.inr rfl, _, _, rfl, rfl⟩
  ·have hq' := eq_false hq
   refine wkcqn (jn @dI.eq_1 (jn @dL.eq_1 (jn @dS.eq_1 (jn @hix (jn @hd' (jn @tx_beq @hq')))))) ?_
   refine loop_next (by simp [hw]; exact Is.rfl) ?_
   exact ⟨D - 1, by omega, j + 1, by omega, by rw [hs, hno, decide_eq_false hq]; rfl, SE.mk (by simp [dI, dL, dS, hw]) rfl⟩
 ·simp at hb
  have hje : j = l.length := by omega
  rw [hje, List.take_length] at hno
  rw [ixP_none hno]
  refine wkcqn (jn @dI.eq_1 (jn @dL.eq_1 @dS.eq_1)) ?_
  show retQ _ _ _ _ _
  exact ⟨.inr rfl, _, _, rfl, rfl⟩
theorem contains155 (l : List Tx) (x : Tx) (hl : l.length ≤ MX) : den Tryz.prog Ob.cfg 199 [dL (encS l), dS x] = some (dB (decide (x ∈ l))) := by
 have h := index175 l x hl
 simp only [dL, dS, dI] at h
 have he : decide (x ∈ l) = decide (0 ≤ ixP (fun v => decide (x = v)) l) := by
  rw [ixP_any]
  by_cases hm : x ∈ l
  ·rw [dTrue hm]; exact (List.any_eq_true.2 ⟨x, hm, by simp⟩).symm
  ·rw [dFalse hm]; symm; rw [List.any_eq_false]; intro y hy; simp; intro he; subst he; exact hm hy
 rw [he]
 refine den_wp Tryz.func199 rfl (by kernel_rfl) rfl rfl ?_
 refine wkqn (jn @dL.eq_1 (jn @dS.eq_1 @h)) ?_
 show retQ _ _ _ _ _
 exact ⟨.inr rfl, _, _, rfl, rfl⟩
set_option maxHeartbeats 4000000 in
theorem assigns141 {x : Tx} {can : Bool} {N : Nat} (h : SomePAt x can N) (y : Y) (cx : List Pr) (hy : y.sz ≤ N) (hnb : nbY y = true) (hb0 : cx.length + y.sz ≤ 8388608) : den Tryz.prog Ob.cfg 286 [aG y.cells, dS x, dL (encP cx), dB can] = some (dB (asY x (!can) cx y)) := by
 rw [Y.sz_eq] at hy hb0
 have k1 := len_szS y.outs
 have k2 := len_szB y.brs
 have ho := contains155 y.outs x (by unfold MX; omega)
 simp only [dL, dS, dB] at ho
 rw [nbY_eq, Bool.and_eq_true] at hnb
 obtain ⟨hn1, hn2⟩ := hnb
 rw [asY_eq]
 refine den_wp Tryz.func286 rfl (by kernel_rfl) rfl rfl ?_
 by_cases q1 : y.k = 1
 ·rw [if_pos q1]
  refine wkcqn (jn @aG.eq_1 (jn @Y.cells_eq (jn @dL.eq_1 (jn @dS.eq_1 (jn @dB.eq_1 (jn @int_beq (jn @tx_beq @q1))))))) ?_
  show retQ _ _ _ _ _
  exact ⟨.inr rfl, _, _, rfl, rfl⟩
 rw [if_neg q1]
 by_cases q4 : y.k = 4
 ·rw [if_pos q4]
  refine wkcqn (jn @aG.eq_1 (jn @Y.cells_eq (jn @dL.eq_1 (jn @dS.eq_1 (jn @dB.eq_1 (jn @int_beq (jn @tx_beq (jn @q4 @ho)))))))) ?_
  show retQ _ _ _ _ _
  exact ⟨.inr rfl, _, _, rfl, rfl⟩
 rw [if_neg q4]
 by_cases q3 : y.k = 3
 case neg =>
  rw [if_neg q3]
  refine wkcqn (jn @aG.eq_1 (jn @Y.cells_eq (jn @dL.eq_1 (jn @dS.eq_1 (jn @dB.eq_1 (jn @int_beq (jn @q1 (jn @q4 @q3)))))))) ?_
  show retQ _ _ _ _ _
  exact ⟨.inr rfl, _, _, rfl, rfl⟩
 rw [if_pos q3]
 have hbr : y.brs ≠ [] := by simpa [q3] using hn1
 have hQ := fun c => index157 (i1 := 0) (g1 := 0) (p := fun p : Pr => decide (p.nm = y.nm)) cx (by unfold MX; omega) [(0, ⟨0, false, y.cells.map .d⟩)] 1
  (fun v hv hp' c hag => call158 (nm := y.nm) (rest := (y.cells.drop 2).map .d) (k := .d (.int .i64 y.k)) hp' 1 c ((hag 0 (by omega)).trans (by rw [Y.cells_eq]; rfl)) (by omega)) c
 obtain ⟨h5, h6, h4⟩ := Quiet.fn hQ
 simp only [dL, dS, dB, Y.cells_eq, List.map_cons, List.map_nil, q3] at h4
 rcases first_cases (fun p : Pr => decide (p.nm = y.nm)) cx with ⟨i, p, hp, hno, hpp⟩ | hno
 ·have hf := find_hit hno hp hpp
  rw [ixP_some hno hp hpp] at h4
  rw [hf]
  have hil : i < cx.length := (List.getElem?_eq_some_iff.1 hp).1
  have hix := idx_lt hil
  have hp' := encP_at hp
  by_cases hlt : p.br < y.brs.length
  ·have c1 : ((p.br : Int) < y.brs.length) = True := eq_true (by omega)
   obtain ⟨b, hb1, hbm, hib⟩ := at_lt hlt
   have hb2 := encB_at hb1
   have hr := h b cx (by have := mem_szB hbm; omega) (by rw [nbB_all] at hn2; exact List.all_eq_true.1 hn2 b hbm) (by have := mem_szB hbm; omega)
   have he := asN_at x (!can) cx y.brs p.br b hb1
   simp only [he]
   simp only [dL, dS, dB] at hr
   refine wkcqn (jn @aG.eq_1 (jn @dI.eq_1 (jn @dL.eq_1 (jn @dS.eq_1 (jn @dB.eq_1 (jn @Y.cells_eq (jn @Pr.cells.eq_1 (jn @q3 (jn @int_beq (jn @h4 (jn @hix (jn @hp' (jn @hib (jn @hb2 (jn @hr @c1))))))))))))))) ?_
   show retQ _ _ _ _ _
   exact ⟨.inr rfl, _, _, rfl, rfl⟩
  ·have c1 : ((p.br : Int) < y.brs.length) = False := eq_false (by omega)
   have c1' : (p.br < y.brs.length) = False := eq_false hlt
   have he := asN_out x (!can) cx y.brs p.br (by omega)
   simp only [he]
   refine wkcqn (jn @aG.eq_1 (jn @dI.eq_1 (jn @dL.eq_1 (jn @dS.eq_1 (jn @dB.eq_1 (jn @Y.cells_eq (jn @Pr.cells.eq_1 (jn @q3 (jn @int_beq (jn @h4 (jn @hix (jn @hp' (jn @c1 @c1'))))))))))))) ?_
   show retQ _ _ _ _ _
   exact ⟨.inr rfl, _, _, rfl, rfl⟩
 have hf := find_none hno
 rw [ixP_none hno] at h4
 rw [hf]
 have r1 := fun look => rows_fl look (encP_row cx)
 have f1 : fitsB cx.length 24 = true := by simp [fitsB]; omega
 rw [encP_len] at r1
 refine wkcqn (jn @aG.eq_1 (jn @dI.eq_1 (jn @dL.eq_1 (jn @dS.eq_1 (jn @dB.eq_1 (jn @Y.cells_eq (jn @q3 (jn @int_beq (jn @h4 @encB_len))))))))) ?_
 apply WP.loop' (I := fun D s => ∃ i : Nat, i + D = y.brs.length ∧ asC x (!can) cx y.nm 0 (y.brs.take i) = (if can = true then 0 else i) ∧ SE [(1, dS x), (2, dL (encP cx)), (3, dB can), (4, .ptr 0 0 0), (60, dL (encB y.brs)), (61, dI y.brs.length), (62, dI i)] [(0, ⟨0, false, y.cells.map .d⟩)] 1 s) (d := y.brs.length)
 ·exact ⟨0, by simp, by simp [asC], SE.mk (by simp [dI, dL, dS, dB]) (by simp [Y.cells_eq, q3])⟩
 rintro D _ ⟨i, hi, hn, cc, rfl⟩
 refine wkqn (jn @dI.eq_1 (jn @dL.eq_1 (jn @dS.eq_1 (jn @dB.eq_1 @Y.cells_eq)))) ?_
 show WP _ _ _ _ _ _
 refine WP.cond _ rfl (fun hb => ?_) (fun hb => ?_)
 ·simp at hb
  have hb' : i < y.brs.length := by omega
  obtain ⟨b, hb1, hbm, hib⟩ := at_lt hb'
  have hb2 := encB_at hb1
  have hw := w_succ hb' (by omega)
  have hr := h b (cx ++ [⟨y.nm, i⟩]) (by have := mem_szB hbm; omega) (by rw [nbB_all] at hn2; exact List.all_eq_true.1 hn2 b hbm) (by have := mem_szB hbm; simp; omega)
  have hts : y.brs.take (i + 1) = y.brs.take i ++ [b] := take_snoc hb1
  have hcn := asC_snoc x (!can) cx y.nm (y.brs.take i) 0 b
  rw [← hts, hn, List.length_take, Nat.min_eq_left (by omega), Nat.zero_add] at hcn
  have hcut := asC_cut x (!can) cx y.nm y.brs (i + 1)
  have r2 := fl_len (encP_row cx)
  have r3 := fl_take (encP_row cx)
  have r4 := fl_snoc (encP cx) (Pr.cells ⟨y.nm, i⟩)
  have r5 := encP_snoc cx ⟨y.nm, i⟩
  have r6 := fl_len (encP_row (cx ++ [⟨y.nm, i⟩]))
  have r7 := fl_take (encP_row (cx ++ [⟨y.nm, i⟩]))
  have r8 := chunk_flat (encP_row (cx ++ [⟨y.nm, i⟩]))
  have f2 : fitsB (cx.length + 1) 24 = true := by simp [fitsB]; omega
  rw [r5] at r4
  rw [encP_len] at r2 r3
  simp only [encP_len, List.length_append, List.length_cons, List.length_nil, Nat.zero_add] at r6 r7 r8
  simp only [Pr.cells, List.map_cons, List.map_nil] at r4
  simp only [dL, dS, dB, dI] at hr
  cases he : asL x (!can) (cx ++ [⟨y.nm, i⟩]) b with
  | true =>
   rw [he] at hr hcn
   cases can with
   | true =>
    rw [show (if (!true) = true then decide (asC x (!true) cx y.nm 0 y.brs = y.brs.length) else decide (0 < asC x (!true) cx y.nm 0 y.brs)) = true by simp; simp at hcn hcut; omega]
    refine wkcqn (jn @dI.eq_1 (jn @dL.eq_1 (jn @dS.eq_1 (jn @dB.eq_1 (jn @Y.cells_eq (jn @hib (jn @hb2 (jn @r1 (jn @f1 (jn @f2 (jn @r2 (jn @r3 (jn @r4 (jn @r6 (jn @r7 (jn @r8 (jn @toD_dep (jn @toD_d (jn @toDs_fl (jn @nble_d (jn @hr (jn @closeParts.eq_1 @closeParts.eq_2)))))))))))))))))))))) ?_
    show retQ _ _ _ _ _
    exact ⟨.inr rfl, _, _, rfl, rfl⟩
   | false =>
    refine wkcqn (jn @dI.eq_1 (jn @dL.eq_1 (jn @dS.eq_1 (jn @dB.eq_1 (jn @Y.cells_eq (jn @hib (jn @hb2 (jn @r1 (jn @f1 (jn @f2 (jn @r2 (jn @r3 (jn @r4 (jn @r6 (jn @r7 (jn @r8 (jn @toD_dep (jn @toD_d (jn @toDs_fl (jn @nble_d (jn @hr (jn @closeParts.eq_1 @closeParts.eq_2)))))))))))))))))))))) ?_
    refine loop_next (by simp [hw]; exact Is.rfl) ?_
    exact ⟨D - 1, by omega, i + 1, by omega, by rw [hcn]; simp, SE.mk (by simp [dI, dL, dS, dB, hw]) (by simp [Y.cells_eq])⟩
  | false =>
   rw [he] at hr hcn
   cases can with
   | false =>
    rw [show (if (!false) = true then decide (asC x (!false) cx y.nm 0 y.brs = y.brs.length) else decide (0 < asC x (!false) cx y.nm 0 y.brs)) = false by simp; simp at hcn hcut; omega]
    refine wkcqn (jn @dI.eq_1 (jn @dL.eq_1 (jn @dS.eq_1 (jn @dB.eq_1 (jn @Y.cells_eq (jn @hib (jn @hb2 (jn @r1 (jn @f1 (jn @f2 (jn @r2 (jn @r3 (jn @r4 (jn @r6 (jn @r7 (jn @r8 (jn @toD_dep (jn @toD_d (jn @toDs_fl (jn @nble_d (jn @hr (jn @closeParts.eq_1 @closeParts.eq_2)))))))))))))))))))))) ?_
    show retQ _ _ _ _ _
    exact ⟨.inr rfl, _, _, rfl, rfl⟩
   | true =>
    refine wkcqn (jn @dI.eq_1 (jn @dL.eq_1 (jn @dS.eq_1 (jn @dB.eq_1 (jn @Y.cells_eq (jn @hib (jn @hb2 (jn @r1 (jn @f1 (jn @f2 (jn @r2 (jn @r3 (jn @r4 (jn @r6 (jn @r7 (jn @r8 (jn @toD_dep (jn @toD_d (jn @toDs_fl (jn @nble_d (jn @hr (jn @closeParts.eq_1 @closeParts.eq_2)))))))))))))))))))))) ?_
    refine loop_next (by simp [hw]; exact Is.rfl) ?_
    exact ⟨D - 1, by omega, i + 1, by omega, by rw [hcn]; simp, SE.mk (by simp [dI, dL, dS, dB, hw]) (by simp [Y.cells_eq])⟩
 ·simp at hb
  have hie : i = y.brs.length := by omega
  rw [hie, List.take_length] at hn
  simp only [hn]
  cases can with
  | true =>
   refine wkcqn (jn @dI.eq_1 (jn @dL.eq_1 (jn @dS.eq_1 (jn @dB.eq_1 @Y.cells_eq)))) ?_
   exact ⟨.inr rfl, _, _, rfl, by simp; rfl⟩
  | false =>
   refine wkcqn (jn @dI.eq_1 (jn @dL.eq_1 (jn @dS.eq_1 (jn @dB.eq_1 (jn @Y.cells_eq (jn @encB_len (jn @lt0 (jn @lt0n @hbr)))))))) ?_
   exact ⟨.inr rfl, _, _, rfl, by simp; rfl⟩
theorem somep : ∀ (x : Tx) (can : Bool) (N : Nat), SomePAt x can N := by
 intro x can N
 induction N with
 | zero => intro l cx h; omega
 | succ N ih =>
 intro l cx hN hnb hb0
 have k1 := len_szY l
 rw [nbL_all] at hnb
 exact some113 l (by unfold MX; omega) fun y hy => assigns141 ih y cx (by have := mem_szY hy; omega) (List.all_eq_true.1 hnb y hy) (by have := mem_szY hy; omega)
end Go.Ac
end

section
set_option maxRecDepth 4000
set_option linter.unusedSectionVars false
namespace Go.Ac
open Go.Proofs
variable [GwR]
/-- A place: the branches that one is in, the lists before. -/
def pP (cx : List Pr) (bl : List (List Y)) : V := .agg [.d (.slice (encP cx)), .d (.slice (encB bl))]
theorem kf207 (r : Nat) : Ob.keep 207 r = Ob.k207 r := by kernel_rfl
theorem kf129 (r : Nat) : Ob.keep 129 r = Ob.k129 r := by kernel_rfl
attribute [local simp] kf207 Ob.k207 kf129 Ob.k129
theorem asL_flat (x : Tx) (all : Bool) (cx : List Pr) : ∀ bl : List (List Y), bl.any (asL x all cx) = asL x all cx bl.flatten
 | [] => by rw [List.flatten_nil, asL]; rfl
 | b :: r => by rw [List.any_cons, asL_flat x all cx r, List.flatten_cons]; simp only [asL_any, List.any_append]
theorem call112 {nm : Tx} {cx : List Pr} {can b : Bool} {l : List Y} {bf : D} (h : den Tryz.prog Ob.cfg 208 [dL (encY l), dS nm, dL (encP cx), dB can] = some (dB b)) {i1 g1 i2 g2 i3 g3 : Nat} (hp : Hp) (n c : Nat)
  (h1 : hp.get i1 = some ⟨g1, false, [dS nm]⟩) (h2 : hp.get i2 = some ⟨g2, false, [dL (encP cx), .d bf]⟩) (h3 : hp.get i3 = some ⟨g3, false, [dB can]⟩) (l1 : i1 < n) (l2 : i2 < n) (l3 : i3 < n) :
  Quiet Tryz.prog Ob.cfg 207 [dL (encY l), .ptr i1 g1 0, .ptr i2 g2 0, .ptr i3 g3 0] hp n c (.bool b) := by
 simp only [dL, dS, dB] at h h1 h2 h3
 refine quiet_wp Tryz.func207 rfl (by kernel_rfl) rfl ?_
 refine wkqn (jn @envOf.eq_1 (jn @envOf.eq_2 (jn @dL.eq_1 (jn @dS.eq_1 (jn @dB.eq_1 (jn @h1 (jn @h2 (jn @h3 @h)))))))) ?_
 exact ⟨.inr rfl, rfl, _, rfl, rfl⟩
theorem assigned71 (nm : Tx) (can : Bool) (cx : List Pr) (bl : List (List Y)) (hl : bl.length ≤ MX) (hnb : nbB bl = true) (hb : cx.length + szY bl.flatten ≤ 8388608) : den Tryz.prog Ob.cfg 129 [pP cx bl, dS nm, dB can] = some (dB (asL nm (!can) cx bl.flatten)) := by
 have hsz : ∀ l, l ∈ bl → szY l ≤ szY bl.flatten := by
  intro l hl
  induction bl with
  | nil => simp at hl
  | cons b r ih =>
   rw [List.flatten_cons, szY_app]
   rcases List.mem_cons.1 hl with rfl | h
   ·omega
   ·have := ih (by rw [List.length_cons] at *; unfold MX at *; omega) (by rw [nbB, Bool.and_eq_true] at hnb; exact hnb.2) (by rw [List.flatten_cons, szY_app] at hb; omega) h; omega
 rw [nbB_all] at hnb
 have hQ := fun c => contains111 (i1 := 1) (g1 := 1) (i2 := 0) (g2 := 0) (i3 := 2) (g3 := 2) (p := asL nm (!can) cx) bl hl [(0, ⟨0, false, [dL (encP cx), dL (encB bl)]⟩), (1, ⟨1, false, [dS nm]⟩), (2, ⟨2, false, [dB can]⟩)] 3
  (fun l hl hp' c hag => call112 (bf := .slice (encB bl)) (somep nm can _ l cx (Nat.lt_succ_self _) (List.all_eq_true.1 hnb l hl) (by have := hsz l hl; omega)) hp' 3 c ((hag 1 (by omega)).trans rfl) ((hag 0 (by omega)).trans rfl) ((hag 2 (by omega)).trans rfl) (by omega) (by omega) (by omega)) c
 obtain ⟨h5, h6, h4⟩ := Quiet.fn hQ
 simp only [dL, dS, dB] at h4
 rw [← asL_flat]
 refine den_wp Tryz.func129 rfl (by kernel_rfl) rfl rfl ?_
 refine wkqn (jn @pP.eq_1 (jn @dL.eq_1 (jn @dS.eq_1 (jn @dB.eq_1 @h4)))) ?_
 show retQ _ _ _ _ _
 exact ⟨.inr rfl, _, _, rfl, rfl⟩
end Go.Ac
end

section
set_option maxRecDepth 4000
set_option linter.unusedSectionVars false
namespace Go.Ac
open Go.Proofs
variable [GwR]
theorem kf355 (r : Nat) : Ob.keep 355 r = Ob.k355 r := by kernel_rfl
attribute [local simp] kf355 Ob.k355
set_option maxHeartbeats 1000000 in
theorem empty150 (x : X) : den Tryz.prog Ob.cfg 355 [aG x.cells] = some (dB (zeroE x)) := by
 refine den_wp Tryz.func355 rfl (by kernel_rfl) rfl rfl ?_
 unfold zeroE
 rw [X.cells_eq]
 by_cases c0 : x.k = 0
 ·have c0_ := eq_true c0
  by_cases c1 : x.o = 0
  ·have c1_ := eq_true c1
   by_cases c2 : x.t = 0
   ·have c2_ := eq_true c2
    by_cases c3 : x.v = 0
    ·have c3_ := eq_true c3
     by_cases c4 : x.nm = []
     ·have c4_ := eq_true c4
      by_cases c5 : x.args = []
      ·have c5_ := eq_true c5
       refine wkc (jn @aG.eq_1 (jn @int_beq (jn @tx_beq (jn @len0 (jn @c0_ (jn @c1_ (jn @c2_ (jn @c3_ (jn @c4_ @c5_))))))))) ?_
       exact ⟨.inr rfl, _, _, rfl, by simp [c0, c1, c2, c3, c4, c5]; rfl⟩
      ·have c5_ := eq_false c5
       refine wkc (jn @aG.eq_1 (jn @int_beq (jn @tx_beq (jn @len0 (jn @c0_ (jn @c1_ (jn @c2_ (jn @c3_ (jn @c4_ @c5_))))))))) ?_
       exact ⟨.inr rfl, _, _, rfl, by simp [c0, c1, c2, c3, c4, c5]; rfl⟩
     ·have c4_ := eq_false c4
      refine wkc (jn @aG.eq_1 (jn @int_beq (jn @tx_beq (jn @len0 (jn @c0_ (jn @c1_ (jn @c2_ (jn @c3_ @c4_)))))))) ?_
      exact ⟨.inr rfl, _, _, rfl, by simp [c0, c1, c2, c3, c4]; rfl⟩
    ·have c3_ := eq_false c3
     refine wkc (jn @aG.eq_1 (jn @int_beq (jn @tx_beq (jn @len0 (jn @c0_ (jn @c1_ (jn @c2_ @c3_))))))) ?_
     exact ⟨.inr rfl, _, _, rfl, by simp [c0, c1, c2, c3]; rfl⟩
   ·have c2_ := eq_false c2
    refine wkc (jn @aG.eq_1 (jn @int_beq (jn @tx_beq (jn @len0 (jn @c0_ (jn @c1_ @c2_)))))) ?_
    exact ⟨.inr rfl, _, _, rfl, by simp [c0, c1, c2]; rfl⟩
  ·have c1_ := eq_false c1
   refine wkc (jn @aG.eq_1 (jn @int_beq (jn @tx_beq (jn @len0 (jn @c0_ @c1_))))) ?_
   exact ⟨.inr rfl, _, _, rfl, by simp [c0, c1]; rfl⟩
 ·have c0_ := eq_false c0
  refine wkc (jn @aG.eq_1 (jn @int_beq (jn @tx_beq (jn @len0 @c0_)))) ?_
  exact ⟨.inr rfl, _, _, rfl, by simp [c0]; rfl⟩

end Go.Ac
end
