/- What a statement assigns: the reference's. -/
import Derived.Test.YtkgekafdhehleaaGreatAcA
import Derived.Test.YtkgekafdhehleaaGreatAcB
import Derived.Test.YtkgekafdhehleaaGreatAcDM
import Derived.Test.YtkgekafdhehleaaGreatAcGM
import Derived.Test.YtkgekafdhehleaaGreatAcJM
import Derived.Test.YtkgekafdhehleaaGreatAcNM
import Derived.Test.YtkgekafdhehleaaGreatAcQM
import Derived.Test.YtkgekafdhehleaaGreatAcUM
import Derived.Test.YtkgekafdhehleaaGreatAcUcM
import Derived.Test.YtkgekafdhehleaaGreatObHn
import Derived.Test.YtkgekafdhehleaaGreatObCM
import Derived.Test.YtkgekafdhehleaaGreatObD
import Derived.Test.YtkgekafdhehleaaGreatObE
import Derived.Test.YtkgekafdhehleaaGreatObRM
import Derived.Calls
import Derived.Orders
import Derived.Laws.World
import Derived.Laws.Sem
import Derived.Laws.Cells
import Derived.Laws.Append
import GoSem.ClaimData
import Derived.Laws.Tables
import Derived.Laws.Slices
import Derived.Laws.Strings
import Derived.Laws.Small
import Derived.KernelRfl
import Derived.Test.YtkgekafdhehleaaGreatChecked
import Derived.Test.YtkgekafdhehleaaGreatRows
import Derived.Deep.Slices
import Derived.ChangeArms
import Derived.RowKit3
import Derived.ReadAgain
import Derived.ChangeStays
set_option linter.unusedVariables false
set_option linter.unusedSimpArgs false
section
set_option maxRecDepth 4000
set_option linter.unusedSimpArgs false
set_option linter.unusedVariables false
namespace Go.Ac
open Go.Proofs

def inE (en : List En) (t : Int) : Bool := decide (3 ≤ t) && decide (t - 3 < en.length)
def eAt (en : List En) (t : Int) : En := if inE en t then en.getD (t - 3).toNat ⟨[], []⟩ else ⟨[], []⟩
def sizeE (en : List En) (t : Int) : Int := if t = 1 then 2 else if t = 2 then 65536 else (eAt en t).tags.length
def inW (v : Int) : Bool := decide (-32768 ≤ v) && decide (v ≤ 32767)
def hasE (en : List En) (t v : Int) : Bool := if t = 2 then inW v else decide (0 ≤ v) && decide (v < sizeE en t)
def knownE (en : List En) (t : Int) : Bool := decide (t = 1) || decide (t = 2) || inE en t
theorem I64.sub3 {t : Int} (h : I64 t) (h3 : 3 ≤ t) : IntKind.i64.wrap (t - 3) = t - 3 := by unfold I64 at h; rw [w_id'] <;> omega

theorem kf38 (r : Nat) : Ob.keep 38 r = Ob.k38 r := by kernel_rfl
theorem kf86 (r : Nat) : Ob.keep 86 r = Ob.k86 r := by kernel_rfl
theorem kf39 (r : Nat) : Ob.keep 39 r = Ob.k39 r := by kernel_rfl
theorem kf101 (r : Nat) : Ob.keep 101 r = Ob.k101 r := by kernel_rfl
theorem kf15 (r : Nat) : Ob.keep 15 r = Ob.k15 r := by kernel_rfl
theorem kf53 (r : Nat) : Ob.keep 53 r = Ob.k53 r := by kernel_rfl
theorem kf73 (r : Nat) : Ob.keep 73 r = Ob.k73 r := by kernel_rfl
theorem kf106 (r : Nat) : Ob.keep 106 r = Ob.k106 r := by kernel_rfl
theorem kf166 (r : Nat) : Ob.keep 166 r = Ob.k166 r := by kernel_rfl
theorem kf159 (r : Nat) : Ob.keep 159 r = Ob.k159 r := by kernel_rfl
attribute [local simp] kf38 Ob.k38 kf86 Ob.k86 kf39 Ob.k39 kf101 Ob.k101 kf15 Ob.k15 kf53 Ob.k53 kf73 Ob.k73 kf106 Ob.k106 kf166 Ob.k166 kf159 Ob.k159
theorem in38 (v : Int) : den Tryz.prog Ob.cfg 38 [dI v] = some (dB (inW v)) := by
  refine den_wp Tryz.func38 rfl (by kernel_rfl) rfl rfl ?_
  unfold inW
  by_cases h1 : -32768 ≤ v
  · have h1' := eq_true h1
    refine wkc (And.intro @dI.eq_1 @h1') ?_
    exact ⟨.inr rfl, _, _, rfl, by simp [h1]; rfl⟩
  · have h1' := eq_false h1
    refine wkc (And.intro @dI.eq_1 @h1') ?_
    exact ⟨.inr rfl, _, _, rfl, by simp [h1]; rfl⟩

set_option maxHeartbeats 1000000 in
theorem enum86 (en : List En) (t : Int) (ht : I64 t) : den Tryz.prog Ob.cfg 86 [dL (encE en), dI t] = some (.tuple [aG (eAt en t).cells, dB (inE en t)]) := by
  refine den_wp Tryz.func86 rfl (by kernel_rfl) rfl rfl ?_
  by_cases h1 : t < 3
  · have h1' := eq_true h1
    have hi : inE en t = false := by unfold inE; rw [decide_eq_false (by omega)]; rfl
    unfold eAt
    rw [hi]
    refine wkc (And.intro @dI.eq_1 (And.intro @dL.eq_1 (And.intro @h1' (And.intro @fillV.eq_1 @fillV.eq_2)))) ?_
    exact ⟨.inr rfl, _, _, rfl, rfl⟩
  have h1' := eq_false h1
  have hw := ht.sub3 (by omega)
  by_cases h2 : t - 3 ≥ en.length
  · have h2' : ((en.length : Int) ≤ t - 3) = True := eq_true h2
    have hi : inE en t = false := by unfold inE; rw [decide_eq_false (p := t - 3 < en.length) (by omega)]; simp
    unfold eAt
    rw [hi]
    refine wkc (And.intro @dI.eq_1 (And.intro @dL.eq_1 (And.intro @h1' (And.intro @h2' (And.intro @hw (And.intro @fillV.eq_1 @fillV.eq_2)))))) ?_
    exact ⟨.inr rfl, _, _, rfl, rfl⟩
  have h2' : ((en.length : Int) ≤ t - 3) = False := eq_false h2
  have hi : inE en t = true := by unfold inE; rw [decide_eq_true (p := 3 ≤ t) (by omega), decide_eq_true (by omega)]; rfl
  obtain ⟨k, hk⟩ : ∃ k : Nat, t - 3 = k := ⟨(t - 3).toNat, by omega⟩
  have hkl : k < en.length := by omega
  obtain ⟨y, hy, hym, hix⟩ := at_lt hkl
  have hy' := encE_at hy
  have he : eAt en t = y := by unfold eAt; rw [hi, hk]; simp [List.getD, hy]
  rw [hi, he]
  rw [hk] at h2'
  have hw := hw.trans hk
  refine wkc (And.intro @dI.eq_1 (And.intro @dL.eq_1 (And.intro @h1' (And.intro @h2' (And.intro @hw (And.intro @hix (And.intro @hy' @En.cells.eq_1))))))) ?_
  exact ⟨.inr rfl, _, _, rfl, rfl⟩

set_option maxHeartbeats 1000000 in
theorem size39 (en : List En) (t : Int) (ht : I64 t) : den Tryz.prog Ob.cfg 39 [dL (encE en), dI t] = some (dI (sizeE en t)) := by
  have h := enum86 en t ht
  simp only [aG, En.cells, List.map_cons, List.map_nil, dL, dI, dB] at h
  refine den_wp Tryz.func39 rfl (by kernel_rfl) rfl rfl ?_
  unfold sizeE
  by_cases h1 : t = 1
  · subst h1
    refine wkc (And.intro @dI.eq_1 @dL.eq_1) ?_
    show retQ _ _ _ _ _
    exact ⟨.inr rfl, _, _, rfl, rfl⟩
  by_cases h2 : t = 2
  · subst h2
    refine wkc (And.intro @dI.eq_1 @dL.eq_1) ?_
    show retQ _ _ _ _ _
    exact ⟨.inr rfl, _, _, rfl, rfl⟩
  rw [if_neg h1, if_neg h2]
  refine wkc (And.intro @dI.eq_1 (And.intro @dL.eq_1 (And.intro @h1 (And.intro @h2 (And.intro @int_beq @h))))) ?_
  show retQ _ _ _ _ _
  exact ⟨.inr rfl, _, _, rfl, rfl⟩

set_option maxHeartbeats 1000000 in
theorem size101 (en : List En) (t : Int) (ht : I64 t) : den Tryz.prog Ob.cfg 101 [dL (encE en), dI t] = some (dI (sizeE en t)) := by
  refine den_wp Tryz.func101 rfl (by kernel_rfl) rfl rfl ?_
  unfold sizeE
  by_cases h1 : t = 1
  · subst h1
    refine wkc (And.intro @dI.eq_1 @dL.eq_1) ?_
    show retQ _ _ _ _ _
    exact ⟨.inr rfl, _, _, rfl, rfl⟩
  by_cases h2 : t = 2
  · subst h2
    refine wkc (And.intro @dI.eq_1 @dL.eq_1) ?_
    show retQ _ _ _ _ _
    exact ⟨.inr rfl, _, _, rfl, rfl⟩
  rw [if_neg h1, if_neg h2]
  by_cases h3 : t < 3
  · have h3' := eq_true h3
    have hi : inE en t = false := by unfold inE; rw [decide_eq_false (by omega)]; rfl
    unfold eAt
    rw [hi]
    refine wkc (And.intro @dI.eq_1 (And.intro @dL.eq_1 (And.intro @h1 (And.intro @h2 (And.intro @int_beq @h3'))))) ?_
    show retQ _ _ _ _ _
    exact ⟨.inr rfl, _, _, rfl, rfl⟩
  have h3' := eq_false h3
  have hw := ht.sub3 (by omega)
  by_cases h4 : t - 3 ≥ en.length
  · have h4' : ((en.length : Int) ≤ t - 3) = True := eq_true h4
    have hi : inE en t = false := by unfold inE; rw [decide_eq_false (p := t - 3 < en.length) (by omega)]; simp
    unfold eAt
    rw [hi]
    refine wkc (And.intro @dI.eq_1 (And.intro @dL.eq_1 (And.intro @h1 (And.intro @h2 (And.intro @int_beq (And.intro @h3' (And.intro @h4' @hw))))))) ?_
    show retQ _ _ _ _ _
    exact ⟨.inr rfl, _, _, rfl, rfl⟩
  have h4' : ((en.length : Int) ≤ t - 3) = False := eq_false h4
  have hi : inE en t = true := by unfold inE; rw [decide_eq_true (p := 3 ≤ t) (by omega), decide_eq_true (by omega)]; rfl
  obtain ⟨k, hk⟩ : ∃ k : Nat, t - 3 = k := ⟨(t - 3).toNat, by omega⟩
  have hkl : k < en.length := by omega
  obtain ⟨y, hy, hym, hix⟩ := at_lt hkl
  have hy' := encE_at hy
  have he : eAt en t = y := by unfold eAt; rw [hi, hk]; simp [List.getD, hy]
  rw [he]
  rw [hk] at h4'
  have hw := hw.trans hk
  refine wkc (And.intro @dI.eq_1 (And.intro @dL.eq_1 (And.intro @h1 (And.intro @h2 (And.intro @int_beq (And.intro @h3' (And.intro @h4' (And.intro @hw (And.intro @hix (And.intro @hy' @En.cells.eq_1)))))))))) ?_
  show retQ _ _ _ _ _
  exact ⟨.inr rfl, _, _, rfl, rfl⟩

set_option maxHeartbeats 1000000 in
theorem has15 (en : List En) (t v : Int) (ht : I64 t) : den Tryz.prog Ob.cfg 15 [dL (encE en), dI t, dI v] = some (dB (hasE en t v)) := by
  have h := size39 en t ht
  have hw := in38 v
  simp only [dL, dI, dB] at h hw
  refine den_wp Tryz.func15 rfl (by kernel_rfl) rfl rfl ?_
  unfold hasE
  by_cases h1 : t = 2
  · subst h1
    refine wkc (And.intro @dI.eq_1 (And.intro @dL.eq_1 @hw)) ?_
    show retQ _ _ _ _ _
    exact ⟨.inr rfl, _, _, rfl, rfl⟩
  rw [if_neg h1]
  by_cases h2 : 0 ≤ v
  · have h2' := eq_true h2
    refine wkc (And.intro @dI.eq_1 (And.intro @dL.eq_1 (And.intro @h1 (And.intro @int_beq (And.intro @h2' @h))))) ?_
    exact ⟨.inr rfl, _, _, rfl, by simp [h2]; rfl⟩
  · have h2' := eq_false h2
    refine wkc (And.intro @dI.eq_1 (And.intro @dL.eq_1 (And.intro @h1 (And.intro @int_beq (And.intro @h2' @h))))) ?_
    exact ⟨.inr rfl, _, _, rfl, by simp [h2]; rfl⟩
set_option maxHeartbeats 1000000 in
theorem has53 (en : List En) (t v : Int) (ht : I64 t) : den Tryz.prog Ob.cfg 53 [dL (encE en), dI t, dI v] = some (dB (hasE en t v)) := by
  have h := size101 en t ht
  simp only [dL, dI, dB] at h
  refine den_wp Tryz.func53 rfl (by kernel_rfl) rfl rfl ?_
  unfold hasE
  by_cases h1 : t = 2
  · subst h1
    unfold inW
    by_cases h2 : -32768 ≤ v
    · have h2' := eq_true h2
      refine wkc (And.intro @dI.eq_1 (And.intro @dL.eq_1 @h2')) ?_
      exact ⟨.inr rfl, _, _, rfl, by simp [h2]; rfl⟩
    · have h2' := eq_false h2
      refine wkc (And.intro @dI.eq_1 (And.intro @dL.eq_1 @h2')) ?_
      exact ⟨.inr rfl, _, _, rfl, by simp [h2]; rfl⟩
  rw [if_neg h1]
  by_cases h2 : 0 ≤ v
  · have h2' := eq_true h2
    refine wkc (And.intro @dI.eq_1 (And.intro @dL.eq_1 (And.intro @h1 (And.intro @int_beq (And.intro @h2' @h))))) ?_
    exact ⟨.inr rfl, _, _, rfl, by simp [h2]; rfl⟩
  · have h2' := eq_false h2
    refine wkc (And.intro @dI.eq_1 (And.intro @dL.eq_1 (And.intro @h1 (And.intro @int_beq (And.intro @h2' @h))))) ?_
    exact ⟨.inr rfl, _, _, rfl, by simp [h2]; rfl⟩
theorem known73 (en : List En) (t : Int) (ht : I64 t) : den Tryz.prog Ob.cfg 73 [dL (encE en), dI t] = some (dB (decide (0 < sizeE en t))) := by
  have h := size101 en t ht
  simp only [dL, dI, dB] at h
  refine den_wp Tryz.func73 rfl (by kernel_rfl) rfl rfl ?_
  refine wkc (And.intro @dI.eq_1 (And.intro @dL.eq_1 @h)) ?_
  show retQ _ _ _ _ _
  exact ⟨.inr rfl, _, _, rfl, rfl⟩
set_option maxHeartbeats 1000000 in
theorem name106 (en : List En) (t : Int) (ht : I64 t) : ∃ s : Tx, den Tryz.prog Ob.cfg 106 [dL (encE en), dI t] = some (.tuple [dS s, dB (knownE en t)]) := by
  have h := enum86 en t ht
  simp only [aG, En.cells, List.map_cons, List.map_nil, dL, dI, dB] at h
  refine den_ex (F := fun s => .tuple [dS s, dB (knownE en t)]) Tryz.func106 rfl (by kernel_rfl) rfl (fun _ => rfl) ?_
  by_cases h1 : t = 1
  · subst h1
    rw [show knownE en 1 = true by simp [knownE]]
    refine wkc (And.intro @dI.eq_1 @dL.eq_1) ?_
    exact ⟨_, .inr rfl, _, _, rfl, rfl⟩
  by_cases h2 : t = 2
  · subst h2
    rw [show knownE en 2 = true by simp [knownE]]
    refine wkc (And.intro @dI.eq_1 @dL.eq_1) ?_
    exact ⟨_, .inr rfl, _, _, rfl, rfl⟩
  rw [show knownE en t = inE en t by simp [knownE, h1, h2]]
  refine wkc (And.intro @dI.eq_1 (And.intro @dL.eq_1 (And.intro @h1 (And.intro @h2 (And.intro @int_beq @h))))) ?_
  exact ⟨(eAt en t).nm, .inr rfl, _, _, rfl, rfl⟩
def arE (o : Int) : Int := if o = 1 ∨ o = 2 then 1 else if 2 < o ∧ o ≤ 16 then 2 else 0
theorem ar166 (o : Int) : den Tryz.prog Ob.cfg 166 [dI o] = some (dI (arE o)) := by
  refine den_wp Tryz.func166 rfl (by kernel_rfl) rfl rfl ?_
  unfold arE
  by_cases h1 : o = 1
  · subst h1
    refine wkc (@dI.eq_1) ?_
    show retQ _ _ _ _ _
    exact ⟨.inr rfl, _, _, rfl, rfl⟩
  by_cases h2 : o = 2
  · subst h2
    refine wkc (@dI.eq_1) ?_
    show retQ _ _ _ _ _
    exact ⟨.inr rfl, _, _, rfl, rfl⟩
  rw [if_neg (by omega)]
  by_cases h3 : 2 < o
  · have h3' := eq_true h3
    by_cases h4 : o ≤ 16
    · have h4' := eq_true h4
      rw [if_pos ⟨h3, h4⟩]
      refine wkc (And.intro @dI.eq_1 (And.intro @h1 (And.intro @h2 (And.intro @int_beq (And.intro @h3' @h4'))))) ?_
      show retQ _ _ _ _ _
      exact ⟨.inr rfl, _, _, rfl, rfl⟩
    · have h4' := eq_false h4
      rw [if_neg (fun h => h4 h.2)]
      refine wkc (And.intro @dI.eq_1 (And.intro @h1 (And.intro @h2 (And.intro @int_beq (And.intro @h3' @h4'))))) ?_
      show retQ _ _ _ _ _
      exact ⟨.inr rfl, _, _, rfl, rfl⟩
  · have h3' := eq_false h3
    rw [if_neg (fun h => h3 h.1)]
    refine wkc (And.intro @dI.eq_1 (And.intro @h1 (And.intro @h2 (And.intro @int_beq @h3')))) ?_
    show retQ _ _ _ _ _
    exact ⟨.inr rfl, _, _, rfl, rfl⟩
theorem ar159 (o : Int) : den Tryz.prog Ob.cfg 159 [dI o] = some (dI (arE o)) := by
  have h := ar166 o
  simp only [dI] at h
  refine den_wp Tryz.func159 rfl (by kernel_rfl) rfl rfl ?_
  refine wkc (And.intro @dI.eq_1 @h) ?_
  show retQ _ _ _ _ _
  exact ⟨.inr rfl, _, _, rfl, rfl⟩
end Go.Ac
end

section
set_option maxRecDepth 4000
set_option linter.unusedSimpArgs false
set_option linter.unusedVariables false
namespace Go.Ac
open Go.Proofs

theorem find_hit {α : Type} {p : α → Bool} : ∀ {l : List α} {j : Nat} {d : α}, (l.take j).all (fun a => !p a) = true → l[j]? = some d → p d = true → l.find? p = some d
  | a :: l, 0, d, _, h, hp => by simp at h; subst h; simp [hp]
  | a :: l, j + 1, d, hn, h, hp => by
    simp only [List.take_succ_cons, List.all_cons, Bool.and_eq_true] at hn
    have ha : p a = false := by simpa using hn.1
    simp only [List.find?_cons, ha]
    exact find_hit hn.2 (by simpa using h) hp
  | [], j, d, _, h, _ => by simp at h
theorem find_none {α : Type} {p : α → Bool} : ∀ {l : List α}, l.all (fun a => !p a) = true → l.find? p = none
  | [], _ => rfl
  | a :: l, h => by
    simp only [List.all_cons, Bool.and_eq_true] at h
    have ha : p a = false := by simpa using h.1
    simp only [List.find?_cons, ha]
    exact find_none h.2
theorem all_snoc {α : Type} {p : α → Bool} {l : List α} {j : Nat} {x : α} (h : l[j]? = some x) : (l.take (j + 1)).all p = ((l.take j).all p && p x) := by
  rw [List.take_add_one, h]; simp
/-- Where one is in a class. -/
structure Pr where
  nm : Tx
  br : Nat
def Pr.cells (x : Pr) : List D := [.str x.nm, .int .i64 x.br]
def encP (l : List Pr) : List (List D) := l.map Pr.cells
theorem encP_len (l : List Pr) : (encP l).length = l.length := by simp [encP]
theorem encP_at {l : List Pr} {i : Nat} {y : Pr} (h : l[i]? = some y) : (encP l)[i]? = some y.cells := by unfold encP; simp [h]
attribute [simp] encP_len
structure Pl where
  o : Oc
  c : Cl
  bf : List Y
  cx : List Pr
def Pl.cells (x : Pl) : List D := [.slice (encE x.o.en), .slice (encC x.o.cl), .str x.c.nm, .slice (encD x.c.inn), .slice (encD x.c.out), .slice (encD x.c.loc), .slice (encM x.c.mems), .slice (encJ x.c.ins), .slice (encY x.c.step), .slice (encY x.bf), .slice (encP x.cx)]
def findD (l : List Dc) (x : Tx) : Int := match l.find? (fun d => decide (d.nm = x)) with | some d => d.t | none => 0
def findM (l : List Mm) (x : Tx) : Int := match l.find? (fun d => decide (d.nm = x)) with | some d => d.t | none => 0
def clZ : Cl := ⟨[], [], [], [], [], [], []⟩
def findC (l : List Cl) (x : Tx) : Cl × Bool := match l.find? (fun d => decide (d.nm = x)) with | some d => (d, true) | none => (clZ, false)
def findI (l : List Ii) (cs : List Cl) (x : Tx) : Cl × Bool := match l.find? (fun d => decide (d.nm = x)) with | some d => findC cs d.cl | none => (clZ, false)

theorem kf75 (r : Nat) : Ob.keep 75 r = Ob.k75 r := by kernel_rfl
attribute [local simp] kf75 Ob.k75
set_option maxHeartbeats 1000000 in
theorem has75 (l : List Tx) (x : Tx) (hl : l.length ≤ MX) : den Tryz.prog Ob.cfg 75 [dL (encS l), dS x] = some (dB (decide (x ∈ l))) := by
  unfold MX at hl
  refine den_wp Tryz.func75 rfl (by kernel_rfl) rfl rfl ?_
  refine wkc (And.intro @dL.eq_1 @dS.eq_1) ?_
  apply WP.loop' (I := fun D s => ∃ j : Nat, j + D = l.length ∧ (l.take j).all (fun d : Tx => !decide (d = x)) = true ∧ SE [(0, dL (encS l)), (1, dS x), (5, dI j)] [] 0 s) (d := l.length)
  · exact ⟨0, by simp, by simp, SE.mk (by simp [dI, dL, dS]) (by simp)⟩
  rintro D _ ⟨j, hj, hno, cc, rfl⟩
  refine wk (And.intro @dI.eq_1 (And.intro @dL.eq_1 @dS.eq_1)) ?_
  show WP _ _ _ _ _ _
  refine WP.cond _ rfl (fun hb => ?_) (fun hb => ?_)
  · simp at hb
    have hb' : j < l.length := by omega
    obtain ⟨d, hd, hdm, hix⟩ := at_lt hb'
    have hd' := encS_at hd
    have hw := w_succ hb' (by omega)
    have hs := all_snoc (p := fun d : Tx => !decide (d = x)) hd
    by_cases hq : d = x
    · have hq' := eq_true hq
      have hf := find_hit (p := fun d : Tx => decide (d = x)) hno hd (decide_eq_true hq)
      have hm : decide (x ∈ l) = true := decide_eq_true (by rw [← hq]; exact hdm)
      rw [hm]
      refine wkc (And.intro @dI.eq_1 (And.intro @dL.eq_1 (And.intro @dS.eq_1 (And.intro @hix (And.intro @hd' (And.intro @tx_beq @hq')))))) ?_
      show retQ _ _ _ _ _
      exact ⟨.inr rfl, _, _, rfl, rfl⟩
    · have hq' := eq_false hq
      refine wkc (And.intro @dI.eq_1 (And.intro @dL.eq_1 (And.intro @dS.eq_1 (And.intro @hix (And.intro @hd' (And.intro @tx_beq @hq')))))) ?_
      refine loop_next (by simp [hw]; exact Is.rfl) ?_
      exact ⟨D - 1, by omega, j + 1, by omega, by rw [hs, hno, decide_eq_false hq]; rfl, SE.mk (by simp [dI, dL, dS, hw]) (by simp)⟩
  · simp at hb
    have hje : j = l.length := by omega
    rw [hje, List.take_length] at hno
    have hf := find_none (p := fun d : Tx => decide (d = x)) hno
    have hm : decide (x ∈ l) = false := decide_eq_false (fun h => by have := List.all_eq_true.1 hno x h; simp at this)
    rw [hm]
    refine wkc (And.intro @dI.eq_1 (And.intro @dL.eq_1 (And.intro @dS.eq_1 (And.intro @fillV.eq_1 @fillV.eq_2)))) ?_
    show retQ _ _ _ _ _
    exact ⟨.inr rfl, _, _, rfl, rfl⟩

theorem kf161 (r : Nat) : Ob.keep 161 r = Ob.k161 r := by kernel_rfl
attribute [local simp] kf161 Ob.k161
set_option maxHeartbeats 1000000 in
theorem find161 (l : List Dc) (x : Tx) (hl : l.length ≤ MX) : den Tryz.prog Ob.cfg 161 [dL (encD l), dS x] = some (dI (findD l x)) := by
  unfold MX at hl
  refine den_wp Tryz.func161 rfl (by kernel_rfl) rfl rfl ?_
  refine wkc (And.intro @dL.eq_1 @dS.eq_1) ?_
  apply WP.loop' (I := fun D s => ∃ j : Nat, j + D = l.length ∧ (l.take j).all (fun d : Dc => !decide (d.nm = x)) = true ∧ SE [(0, dL (encD l)), (1, dS x), (5, dI j)] [] 0 s) (d := l.length)
  · exact ⟨0, by simp, by simp, SE.mk (by simp [dI, dL, dS]) (by simp)⟩
  rintro D _ ⟨j, hj, hno, cc, rfl⟩
  refine wk (And.intro @dI.eq_1 (And.intro @dL.eq_1 @dS.eq_1)) ?_
  show WP _ _ _ _ _ _
  refine WP.cond _ rfl (fun hb => ?_) (fun hb => ?_)
  · simp at hb
    have hb' : j < l.length := by omega
    obtain ⟨d, hd, hdm, hix⟩ := at_lt hb'
    have hd' := encD_at hd
    have hw := w_succ hb' (by omega)
    have hs := all_snoc (p := fun d : Dc => !decide (d.nm = x)) hd
    by_cases hq : d.nm = x
    · have hq' := eq_true hq
      have hf := find_hit (p := fun d : Dc => decide (d.nm = x)) hno hd (decide_eq_true hq)
      have hm : findD l x = d.t := by unfold findD; rw [hf]
      rw [hm]
      refine wkc (And.intro @dI.eq_1 (And.intro @dL.eq_1 (And.intro @dS.eq_1 (And.intro @hix (And.intro @hd' (And.intro @tx_beq (And.intro @hq' @Dc.cells.eq_1))))))) ?_
      show retQ _ _ _ _ _
      exact ⟨.inr rfl, _, _, rfl, rfl⟩
    · have hq' := eq_false hq
      refine wkc (And.intro @dI.eq_1 (And.intro @dL.eq_1 (And.intro @dS.eq_1 (And.intro @hix (And.intro @hd' (And.intro @tx_beq (And.intro @hq' @Dc.cells.eq_1))))))) ?_
      refine loop_next (by simp [hw]; exact Is.rfl) ?_
      exact ⟨D - 1, by omega, j + 1, by omega, by rw [hs, hno, decide_eq_false hq]; rfl, SE.mk (by simp [dI, dL, dS, hw]) (by simp)⟩
  · simp at hb
    have hje : j = l.length := by omega
    rw [hje, List.take_length] at hno
    have hf := find_none (p := fun d : Dc => decide (d.nm = x)) hno
    have hm : findD l x = 0 := by unfold findD; rw [hf]
    rw [hm]
    refine wkc (And.intro @dI.eq_1 (And.intro @dL.eq_1 (And.intro @dS.eq_1 (And.intro @fillV.eq_1 @fillV.eq_2)))) ?_
    show retQ _ _ _ _ _
    exact ⟨.inr rfl, _, _, rfl, rfl⟩

theorem kf117 (r : Nat) : Ob.keep 117 r = Ob.k117 r := by kernel_rfl
attribute [local simp] kf117 Ob.k117
set_option maxHeartbeats 1000000 in
theorem mem117 (w : Pl) (x : Tx) (hl : w.c.mems.length ≤ MX) : den Tryz.prog Ob.cfg 117 [aG w.cells, dS x] = some (dI (findM w.c.mems x)) := by
  unfold MX at hl
  refine den_wp Tryz.func117 rfl (by kernel_rfl) rfl rfl ?_
  refine wkc (And.intro @aG.eq_1 (And.intro @Pl.cells.eq_1 (And.intro @dL.eq_1 @dS.eq_1))) ?_
  apply WP.loop' (I := fun D s => ∃ j : Nat, j + D = w.c.mems.length ∧ (w.c.mems.take j).all (fun d : Mm => !decide (d.nm = x)) = true ∧ SE [(1, dS x), (2, .ptr 0 0 0), (5, dI j)] [(0, ⟨0, false, w.cells.map .d⟩)] 1 s) (d := w.c.mems.length)
  · exact ⟨0, by simp, by simp, SE.mk (by simp [dI, dL, dS]) (by simp [Pl.cells])⟩
  rintro D _ ⟨j, hj, hno, cc, rfl⟩
  refine wk (And.intro @dI.eq_1 (And.intro @dL.eq_1 (And.intro @dS.eq_1 @Pl.cells.eq_1))) ?_
  show WP _ _ _ _ _ _
  refine WP.cond _ rfl (fun hb => ?_) (fun hb => ?_)
  · simp at hb
    have hb' : j < w.c.mems.length := by omega
    obtain ⟨d, hd, hdm, hix⟩ := at_lt hb'
    have hd' := encM_at hd
    have hw := w_succ hb' (by omega)
    have hs := all_snoc (p := fun d : Mm => !decide (d.nm = x)) hd
    by_cases hq : d.nm = x
    · have hq' := eq_true hq
      have hf := find_hit (p := fun d : Mm => decide (d.nm = x)) hno hd (decide_eq_true hq)
      have hm : findM w.c.mems x = d.t := by unfold findM; rw [hf]
      rw [hm]
      refine wkc (And.intro @dI.eq_1 (And.intro @dL.eq_1 (And.intro @dS.eq_1 (And.intro @hix (And.intro @hd' (And.intro @tx_beq (And.intro @hq' (And.intro @Mm.cells.eq_1 @Pl.cells.eq_1)))))))) ?_
      show retQ _ _ _ _ _
      exact ⟨.inr rfl, _, _, rfl, rfl⟩
    · have hq' := eq_false hq
      refine wkc (And.intro @dI.eq_1 (And.intro @dL.eq_1 (And.intro @dS.eq_1 (And.intro @hix (And.intro @hd' (And.intro @tx_beq (And.intro @hq' (And.intro @Mm.cells.eq_1 @Pl.cells.eq_1)))))))) ?_
      refine loop_next (by simp [hw]; exact Is.rfl) ?_
      exact ⟨D - 1, by omega, j + 1, by omega, by rw [hs, hno, decide_eq_false hq]; rfl, SE.mk (by simp [dI, dL, dS, hw]) (by simp [Pl.cells])⟩
  · simp at hb
    have hje : j = w.c.mems.length := by omega
    rw [hje, List.take_length] at hno
    have hf := find_none (p := fun d : Mm => decide (d.nm = x)) hno
    have hm : findM w.c.mems x = 0 := by unfold findM; rw [hf]
    rw [hm]
    refine wkc (And.intro @dI.eq_1 (And.intro @dL.eq_1 (And.intro @dS.eq_1 (And.intro @Pl.cells.eq_1 (And.intro @fillV.eq_1 @fillV.eq_2))))) ?_
    show retQ _ _ _ _ _
    exact ⟨.inr rfl, _, _, rfl, rfl⟩

theorem kf51 (r : Nat) : Ob.keep 51 r = Ob.k51 r := by kernel_rfl
attribute [local simp] kf51 Ob.k51
set_option maxHeartbeats 1000000 in
theorem class51 (o : Oc) (x : Tx) (hl : o.cl.length ≤ MX) : den Tryz.prog Ob.cfg 51 [aG o.cells, dS x] = some (.tuple [aG (findC o.cl x).1.cells, dB (findC o.cl x).2]) := by
  unfold MX at hl
  refine den_wp Tryz.func51 rfl (by kernel_rfl) rfl rfl ?_
  refine wkc (And.intro @aG.eq_1 (And.intro @Oc.cells.eq_1 (And.intro @dL.eq_1 @dS.eq_1))) ?_
  apply WP.loop' (I := fun D s => ∃ j : Nat, j + D = o.cl.length ∧ (o.cl.take j).all (fun d : Cl => !decide (d.nm = x)) = true ∧ SE [(1, dS x), (2, .ptr 0 0 0), (4, .ptr 1 1 0), (6, dI j)] [(0, ⟨0, false, o.cells.map .d⟩), (1, ⟨1, false, [.d (.str []), .full [], .full [], .full [], .full [], .full [], .full []]⟩)] 2 s) (d := o.cl.length)
  · exact ⟨0, by simp, by simp, SE.mk (by simp [dI, dL, dS]) (by simp [Oc.cells])⟩
  rintro D _ ⟨j, hj, hno, cc, rfl⟩
  refine wk (And.intro @dI.eq_1 (And.intro @dL.eq_1 (And.intro @dS.eq_1 @Oc.cells.eq_1))) ?_
  show WP _ _ _ _ _ _
  refine WP.cond _ rfl (fun hb => ?_) (fun hb => ?_)
  · simp at hb
    have hb' : j < o.cl.length := by omega
    obtain ⟨d, hd, hdm, hix⟩ := at_lt hb'
    have hd' := encC_at hd
    have hw := w_succ hb' (by omega)
    have hs := all_snoc (p := fun d : Cl => !decide (d.nm = x)) hd
    by_cases hq : d.nm = x
    · have hq' := eq_true hq
      have hf := find_hit (p := fun d : Cl => decide (d.nm = x)) hno hd (decide_eq_true hq)
      have hm : findC o.cl x = (d, true) := by unfold findC; rw [hf]
      rw [hm]
      refine wkc (And.intro @dI.eq_1 (And.intro @dL.eq_1 (And.intro @dS.eq_1 (And.intro @hix (And.intro @hd' (And.intro @tx_beq (And.intro @hq' (And.intro @Cl.cells.eq_1 @Oc.cells.eq_1)))))))) ?_
      exact ⟨.inr rfl, _, _, rfl, rfl⟩
    · have hq' := eq_false hq
      refine wkc (And.intro @dI.eq_1 (And.intro @dL.eq_1 (And.intro @dS.eq_1 (And.intro @hix (And.intro @hd' (And.intro @tx_beq (And.intro @hq' (And.intro @Cl.cells.eq_1 @Oc.cells.eq_1)))))))) ?_
      refine loop_next (by simp [hw]; exact Is.rfl) ?_
      exact ⟨D - 1, by omega, j + 1, by omega, by rw [hs, hno, decide_eq_false hq]; rfl, SE.mk (by simp [dI, dL, dS, hw]) (by simp [Oc.cells])⟩
  · simp at hb
    have hje : j = o.cl.length := by omega
    rw [hje, List.take_length] at hno
    have hf := find_none (p := fun d : Cl => decide (d.nm = x)) hno
    have hm : findC o.cl x = (clZ, false) := by unfold findC; rw [hf]
    rw [hm]
    refine wkc (And.intro @dI.eq_1 (And.intro @dL.eq_1 (And.intro @dS.eq_1 (And.intro @Oc.cells.eq_1 (And.intro @fillV.eq_1 @fillV.eq_2))))) ?_
    exact ⟨.inr rfl, _, _, rfl, rfl⟩

theorem kf120 (r : Nat) : Ob.keep 120 r = Ob.k120 r := by kernel_rfl
attribute [local simp] kf120 Ob.k120
set_option maxHeartbeats 1000000 in
theorem callee120 (w : Pl) (x : Tx) (hl : w.c.ins.length ≤ MX) (hl2 : w.o.cl.length ≤ MX) : den Tryz.prog Ob.cfg 120 [aG w.cells, dS x] = some (.tuple [aG (findI w.c.ins w.o.cl x).1.cells, dB (findI w.c.ins w.o.cl x).2]) := by
  have hc := fun y => class51 w.o y hl2
  simp only [aG, Oc.cells, Cl.cells, List.map_cons, List.map_nil, dS, dB] at hc
  unfold MX at hl
  refine den_wp Tryz.func120 rfl (by kernel_rfl) rfl rfl ?_
  refine wkc (And.intro @aG.eq_1 (And.intro @Pl.cells.eq_1 (And.intro @dL.eq_1 @dS.eq_1))) ?_
  apply WP.loop' (I := fun D s => ∃ j : Nat, j + D = w.c.ins.length ∧ (w.c.ins.take j).all (fun d : Ii => !decide (d.nm = x)) = true ∧ SE [(1, dS x), (2, .ptr 0 0 0), (4, .ptr 1 1 0), (6, dI j)] [(0, ⟨0, false, w.cells.map .d⟩), (1, ⟨1, false, [.d (.str []), .full [], .full [], .full [], .full [], .full [], .full []]⟩)] 2 s) (d := w.c.ins.length)
  · exact ⟨0, by simp, by simp, SE.mk (by simp [dI, dL, dS]) (by simp [Pl.cells])⟩
  rintro D _ ⟨j, hj, hno, cc, rfl⟩
  refine wk (And.intro @dI.eq_1 (And.intro @dL.eq_1 (And.intro @dS.eq_1 @Pl.cells.eq_1))) ?_
  show WP _ _ _ _ _ _
  refine WP.cond _ rfl (fun hb => ?_) (fun hb => ?_)
  · simp at hb
    have hb' : j < w.c.ins.length := by omega
    obtain ⟨d, hd, hdm, hix⟩ := at_lt hb'
    have hd' := encJ_at hd
    have hw := w_succ hb' (by omega)
    have hs := all_snoc (p := fun d : Ii => !decide (d.nm = x)) hd
    by_cases hq : d.nm = x
    · have hq' := eq_true hq
      have hf := find_hit (p := fun d : Ii => decide (d.nm = x)) hno hd (decide_eq_true hq)
      have hm : findI w.c.ins w.o.cl x = findC w.o.cl d.cl := by unfold findI; rw [hf]
      rw [hm]
      refine wkc (And.intro @dI.eq_1 (And.intro @dL.eq_1 (And.intro @dS.eq_1 (And.intro @hix (And.intro @hd' (And.intro @tx_beq (And.intro @hq' (And.intro @Ii.cells.eq_1 (And.intro @Pl.cells.eq_1 @hc))))))))) ?_
      exact ⟨.inr rfl, _, _, rfl, rfl⟩
    · have hq' := eq_false hq
      refine wkc (And.intro @dI.eq_1 (And.intro @dL.eq_1 (And.intro @dS.eq_1 (And.intro @hix (And.intro @hd' (And.intro @tx_beq (And.intro @hq' (And.intro @Ii.cells.eq_1 @Pl.cells.eq_1)))))))) ?_
      refine loop_next (by simp [hw]; exact Is.rfl) ?_
      exact ⟨D - 1, by omega, j + 1, by omega, by rw [hs, hno, decide_eq_false hq]; rfl, SE.mk (by simp [dI, dL, dS, hw]) (by simp [Pl.cells])⟩
  · simp at hb
    have hje : j = w.c.ins.length := by omega
    rw [hje, List.take_length] at hno
    have hf := find_none (p := fun d : Ii => decide (d.nm = x)) hno
    have hm : findI w.c.ins w.o.cl x = (clZ, false) := by unfold findI; rw [hf]
    rw [hm]
    refine wkc (And.intro @dI.eq_1 (And.intro @dL.eq_1 (And.intro @dS.eq_1 (And.intro @Pl.cells.eq_1 (And.intro @fillV.eq_1 @fillV.eq_2))))) ?_
    exact ⟨.inr rfl, _, _, rfl, rfl⟩

def setT (c : Cl) (x : Tx) : Int := if findD c.out x = 0 then findD c.loc x else findD c.out x
def getT (c : Cl) (x : Tx) : Int := if findD c.inn x = 0 then setT c x else findD c.inn x
theorem kf145 (r : Nat) : Ob.keep 145 r = Ob.k145 r := by kernel_rfl
theorem kf146 (r : Nat) : Ob.keep 146 r = Ob.k146 r := by kernel_rfl
attribute [local simp] kf145 Ob.k145 kf146 Ob.k146
set_option maxHeartbeats 1000000 in
theorem set145 (w : Pl) (x : Tx) (h1 : w.c.out.length ≤ MX) (h2 : w.c.loc.length ≤ MX) : den Tryz.prog Ob.cfg 145 [aG w.cells, dS x] = some (dI (setT w.c x)) := by
  have a1 := find161 w.c.out x h1
  have a2 := find161 w.c.loc x h2
  simp only [dL, dS, dI] at a1 a2
  refine den_wp Tryz.func145 rfl (by kernel_rfl) rfl rfl ?_
  unfold setT
  by_cases h : findD w.c.out x = 0
  · rw [if_pos h]
    rw [h] at a1
    refine wkc (And.intro @aG.eq_1 (And.intro @Pl.cells.eq_1 (And.intro @dL.eq_1 (And.intro @dS.eq_1 (And.intro @a1 @a2))))) ?_
    show retQ _ _ _ _ _
    exact ⟨.inr rfl, _, _, rfl, rfl⟩
  · rw [if_neg h]
    refine wkc (And.intro @aG.eq_1 (And.intro @Pl.cells.eq_1 (And.intro @dL.eq_1 (And.intro @dS.eq_1 (And.intro @a1 (And.intro @h @int_beq)))))) ?_
    show retQ _ _ _ _ _
    exact ⟨.inr rfl, _, _, rfl, rfl⟩
set_option maxHeartbeats 1000000 in
theorem get146 (w : Pl) (x : Tx) (h1 : w.c.out.length ≤ MX) (h2 : w.c.loc.length ≤ MX) (h3 : w.c.inn.length ≤ MX) : den Tryz.prog Ob.cfg 146 [aG w.cells, dS x] = some (dI (getT w.c x)) := by
  have a1 := find161 w.c.inn x h3
  have a2 := set145 w x h1 h2
  simp only [aG, Pl.cells, List.map_cons, List.map_nil, dL, dS, dI] at a1 a2
  refine den_wp Tryz.func146 rfl (by kernel_rfl) rfl rfl ?_
  unfold getT
  by_cases h : findD w.c.inn x = 0
  · rw [if_pos h]
    rw [h] at a1
    refine wkc (And.intro @aG.eq_1 (And.intro @Pl.cells.eq_1 (And.intro @dL.eq_1 (And.intro @dS.eq_1 (And.intro @a1 @a2))))) ?_
    show retQ _ _ _ _ _
    exact ⟨.inr rfl, _, _, rfl, rfl⟩
  · rw [if_neg h]
    refine wkc (And.intro @aG.eq_1 (And.intro @Pl.cells.eq_1 (And.intro @dL.eq_1 (And.intro @dS.eq_1 (And.intro @a1 (And.intro @h @int_beq)))))) ?_
    show retQ _ _ _ _ _
    exact ⟨.inr rfl, _, _, rfl, rfl⟩
end Go.Ac
end

section
set_option maxRecDepth 4000
set_option linter.unusedSimpArgs false
set_option linter.unusedVariables false
namespace Go.Ac
open Go.Proofs

/-! ### Rows laid flat -/
def fl (l : List (List D)) : List V := l.flatten.map .d
theorem toDs_d (look : Look) (f : Nat) : ∀ l : List D, toDs (toD look f) (l.map V.d) = some (l, [])
  | [] => rfl
  | x :: r => by
    have h1 := toDs_d look f r
    simp only [List.map_cons, toDs, h1, toD_d]; rfl
theorem chunk_flat {sz : Nat} : ∀ {l : List (List D)}, (∀ r ∈ l, r.length = sz) → chunk sz l.length l.flatten = l
  | [], _ => rfl
  | r :: l, h => by
    have h1 := h r (by simp)
    have ih := chunk_flat (l := l) (fun x hx => h x (by simp [hx]))
    simp only [List.length_cons, List.flatten_cons, chunk]
    rw [List.take_append_of_le_length (by omega), List.drop_append_of_le_length (by omega), ← h1, List.take_length, List.drop_length, List.nil_append, h1, ih]
theorem flat_len {sz : Nat} : ∀ {l : List (List D)}, (∀ r ∈ l, r.length = sz) → l.flatten.length = l.length * sz
  | [], _ => by simp
  | r :: l, h => by
    have h1 := h r (by simp)
    have ih := flat_len (l := l) (fun x hx => h x (by simp [hx]))
    simp [ih, h1, Nat.add_mul]; omega
theorem fl_len {sz : Nat} {l : List (List D)} (h : ∀ r ∈ l, r.length = sz) : (fl l).length = l.length * sz := by unfold fl; rw [List.length_map, flat_len h]
theorem fl_take {sz : Nat} {l : List (List D)} (h : ∀ r ∈ l, r.length = sz) : (fl l).take (l.length * sz) = fl l := by rw [← fl_len h, List.take_length]
theorem rows_fl (look : Look) {sz : Nat} {l : List (List D)} (h : ∀ r ∈ l, r.length = sz) : rowsOf look sz (.d (.slice l)) = some (l.length, fl l, []) := by
  have : l.all (fun r => Nat.beq r.length sz) = true := by rw [List.all_eq_true]; intro r hr; rw [h r hr]; exact nbeq_self sz
  simp only [rowsOf, this, if_true]; rfl
theorem toDs_fl (look : Look) (f : Nat) (l : List (List D)) : toDs (toD look f) (fl l) = some (l.flatten, []) := toDs_d look f _
theorem fl_snoc (l : List (List D)) (r : List D) : fl l ++ r.map .d = fl (l ++ [r]) := by unfold fl; simp
theorem encP_row (l : List Pr) : ∀ r ∈ encP l, r.length = 2 := by unfold encP; intro r hr; obtain ⟨x, _, rfl⟩ := List.mem_map.1 hr; rfl
theorem encP_snoc (l : List Pr) (p : Pr) : encP l ++ [p.cells] = encP (l ++ [p]) := by unfold encP; simp

theorem close_fl {look : Look} {id g sz : Nat} {ro : Bool} {l : List (List D)} {cap : Option Nat} (h : ∀ r ∈ l, r.length = sz) (hl : look id = some ⟨g, ro, fl l⟩) : closeT look (.osl id g 0 l.length sz cap) = some (dL l, [id]) := by
  show ofD (toD look depthD _) = _
  rw [toD_dep]
  have : live look id g = some ⟨g, ro, fl l⟩ := by simp [live, hl]
  rw [this]
  simp only [Nat.zero_add, List.drop_zero, fl_len h, fl_take h, toDs_fl, chunk_flat h, nble_d, Nat.le_refl, decide_true]
  rfl

theorem kf121 (r : Nat) : Ob.keep 121 r = Ob.k121 r := by kernel_rfl
theorem kf33 (r : Nat) : Ob.keep 33 r = Ob.k33 r := by kernel_rfl
theorem kf77 (r : Nat) : Ob.keep 77 r = Ob.k77 r := by kernel_rfl
attribute [local simp] kf121 Ob.k121 kf33 Ob.k33 kf77 Ob.k77
set_option maxHeartbeats 1000000 in
theorem inside121 (cx : List Pr) (nm : Tx) (k : Nat) (hl : cx.length ≤ 16777216) : den Tryz.prog Ob.cfg 121 [dL (encP cx), dS nm, dI k] = some (dL (encP (cx ++ [⟨nm, k⟩]))) := by
  have r1 := fun look => rows_fl look (encP_row cx)
  have r2 := fl_len (encP_row cx)
  have r3 := fl_take (encP_row cx)
  have r4 := fl_snoc (encP cx) (Pr.cells ⟨nm, k⟩)
  have r5 := encP_snoc cx ⟨nm, k⟩
  have f1 : fitsB cx.length 24 = true := by simp [fitsB]; omega
  have f2 : fitsB (cx.length + 1) 24 = true := by simp [fitsB]; omega
  rw [r5] at r4
  rw [encP_len] at r2 r3
  simp only [Pr.cells, List.map_cons, List.map_nil] at r4
  refine den_wp Tryz.func121 rfl (by kernel_rfl) rfl rfl ?_
  refine wkc (And.intro @dL.eq_1 (And.intro @dS.eq_1 (And.intro @dI.eq_1 (And.intro @r1 (And.intro @r2 (And.intro @r3 (And.intro @r4 (And.intro @f1 (And.intro @f2 (And.intro @fillV.eq_1 (And.intro @fillV.eq_2 (And.intro @closeParts.eq_1 (And.intro @closeParts.eq_2 @nble_d))))))))))))) ?_
  have hc := fun look hl => close_fl (look := look) (id := 0) (g := 3) (ro := false) (cap := none) (encP_row (cx ++ [⟨nm, k⟩])) hl
  simp only [encP_len, List.length_append, List.length_cons, List.length_nil] at hc
  exact ⟨.inr rfl, _, [0], rfl, hc _ rfl⟩

/-! ### Assignments -/
mutual
/-- Does a statement assign x (all: on each way)? -/
def asY (x : Tx) (all : Bool) : List Pr → Y → Bool
  | cx, .mk k nm _ _ outs _ brs =>
    if k = 1 then decide (nm = x) else if k = 4 then decide (x ∈ outs) else if k = 3 then
      match cx.find? (fun p => decide (p.nm = nm)) with
      | some p => asN x all cx brs p.br
      | none => if all then decide (asC x all cx nm 0 brs = brs.length) else decide (0 < asC x all cx nm 0 brs)
    else false
def asL (x : Tx) (all : Bool) : List Pr → List Y → Bool
  | _, [] => false
  | cx, y :: r => asY x all cx y || asL x all cx r
/-- The branch with a number. -/
def asN (x : Tx) (all : Bool) : List Pr → List (List Y) → Nat → Bool
  | _, [], _ => false
  | cx, b :: _, 0 => asL x all cx b
  | cx, _ :: r, n + 1 => asN x all cx r n
/-- How many branches do. -/
def asC (x : Tx) (all : Bool) : List Pr → Tx → Nat → List (List Y) → Nat
  | _, _, _, [] => 0
  | cx, nm, k, b :: r => (if asL x all (cx ++ [⟨nm, k⟩]) b then 1 else 0) + asC x all cx nm (k + 1) r
end
theorem asY_eq (x : Tx) (all : Bool) (cx : List Pr) (y : Y) : asY x all cx y = if y.k = 1 then decide (y.nm = x) else if y.k = 4 then decide (x ∈ y.outs) else if y.k = 3 then
      match cx.find? (fun p => decide (p.nm = y.nm)) with
      | some p => asN x all cx y.brs p.br
      | none => if all then decide (asC x all cx y.nm 0 y.brs = y.brs.length) else decide (0 < asC x all cx y.nm 0 y.brs)
    else false := by cases y; rw [asY]; rfl
theorem asL_any (x : Tx) (all : Bool) (cx : List Pr) : ∀ l : List Y, asL x all cx l = l.any (asY x all cx)
  | [] => by rw [asL]; rfl
  | y :: r => by rw [asL, asL_any x all cx r]; rfl
theorem asN_at (x : Tx) (all : Bool) (cx : List Pr) : ∀ (l : List (List Y)) (n : Nat) (b : List Y), l[n]? = some b → asN x all cx l n = asL x all cx b
  | [], n, b, h => by simp at h
  | c :: r, 0, b, h => by simp at h; subst h; rw [asN]
  | c :: r, n + 1, b, h => by rw [asN]; exact asN_at x all cx r n b (by simpa using h)
theorem asN_out (x : Tx) (all : Bool) (cx : List Pr) : ∀ (l : List (List Y)) (n : Nat), l.length ≤ n → asN x all cx l n = false
  | [], n, h => by rw [asN]
  | c :: r, 0, h => by simp at h
  | c :: r, n + 1, h => by rw [asN]; exact asN_out x all cx r n (by simpa using h)
theorem asC_snoc (x : Tx) (all : Bool) (cx : List Pr) (nm : Tx) : ∀ (l : List (List Y)) (k : Nat) (b : List Y), asC x all cx nm k (l ++ [b]) = asC x all cx nm k l + (if asL x all (cx ++ [⟨nm, k + l.length⟩]) b then 1 else 0)
  | [], k, b => by simp [asC]
  | c :: r, k, b => by
    rw [List.cons_append, asC, asC, asC_snoc x all cx nm r (k + 1) b]
    simp only [List.length_cons]
    rw [show k + 1 + r.length = k + (r.length + 1) by omega]
    omega

/-- What some33 says. -/
def SomeAt (x : Tx) (all : Bool) (N : Nat) : Prop := ∀ (l : List Y) (cx : List Pr), szY l < N → cx.length + szY l ≤ 8388608 → den Tryz.prog Ob.cfg 33 [dL (encY l), dS x, dL (encP cx), dB all] = some (dB (asL x all cx l))
theorem count_le (x : Tx) (all : Bool) (cx : List Pr) (nm : Tx) : ∀ (l : List (List Y)) (k : Nat), asC x all cx nm k l ≤ l.length
  | [], k => by simp [asC]
  | b :: r, k => by rw [asC]; have := count_le x all cx nm r (k + 1); simp only [List.length_cons]; split <;> omega

set_option maxHeartbeats 4000000 in
theorem assigns77 {x : Tx} {all : Bool} {N : Nat} (h : SomeAt x all N) (y : Y) (cx : List Pr) (hy : y.sz ≤ N) (hb0 : cx.length + y.sz ≤ 8388608) : den Tryz.prog Ob.cfg 77 [aG y.cells, dS x, dL (encP cx), dB all] = some (dB (asY x all cx y)) := by
  rw [Y.sz_eq] at hy hb0
  have k1 := len_szS y.outs
  have k2 := len_szB y.brs
  have ho := has75 y.outs x (by unfold MX; omega)
  simp only [dL, dS, dB] at ho
  rw [asY_eq]
  refine den_wp Tryz.func77 rfl (by kernel_rfl) rfl rfl ?_
  by_cases q1 : y.k = 1
  · rw [if_pos q1]
    refine wkc (And.intro @aG.eq_1 (And.intro @Y.cells_eq (And.intro @dL.eq_1 (And.intro @dS.eq_1 (And.intro @dB.eq_1 (And.intro @int_beq (And.intro @tx_beq @q1))))))) ?_
    show retQ _ _ _ _ _
    exact ⟨.inr rfl, _, _, rfl, rfl⟩
  rw [if_neg q1]
  by_cases q4 : y.k = 4
  · rw [if_pos q4]
    refine wkc (And.intro @aG.eq_1 (And.intro @Y.cells_eq (And.intro @dL.eq_1 (And.intro @dS.eq_1 (And.intro @dB.eq_1 (And.intro @int_beq (And.intro @tx_beq (And.intro @q4 @ho)))))))) ?_
    show retQ _ _ _ _ _
    exact ⟨.inr rfl, _, _, rfl, rfl⟩
  rw [if_neg q4]
  by_cases q3 : y.k = 3
  case neg =>
    rw [if_neg q3]
    refine wkc (And.intro @aG.eq_1 (And.intro @Y.cells_eq (And.intro @dL.eq_1 (And.intro @dS.eq_1 (And.intro @dB.eq_1 (And.intro @int_beq (And.intro @q1 (And.intro @q4 @q3)))))))) ?_
    show retQ _ _ _ _ _
    exact ⟨.inr rfl, _, _, rfl, rfl⟩
  rw [if_pos q3]
  refine wkc (And.intro @aG.eq_1 (And.intro @Y.cells_eq (And.intro @dL.eq_1 (And.intro @dS.eq_1 (And.intro @dB.eq_1 (And.intro @int_beq @q3)))))) ?_
  apply WP.loop' (I := fun D s => ∃ j : Nat, j + D = cx.length ∧ (cx.take j).all (fun p : Pr => !decide (p.nm = y.nm)) = true ∧ SE [(1, dS x), (2, dL (encP cx)), (3, dB all), (4, .ptr 0 0 0), (9, dI j)] [(0, ⟨0, false, y.cells.map .d⟩)] 1 s) (d := cx.length)
  · exact ⟨0, by simp, by simp, SE.mk (by simp [dI, dL, dS, dB]) (by simp [Y.cells_eq, q3])⟩
  rintro D _ ⟨j, hj, hno, cc, rfl⟩
  refine wk (And.intro @dI.eq_1 (And.intro @dL.eq_1 (And.intro @dS.eq_1 (And.intro @dB.eq_1 @Y.cells_eq)))) ?_
  show WP _ _ _ _ _ _
  refine WP.cond _ rfl (fun hb => ?_) (fun hb => ?_)
  · simp at hb
    have hb' : j < cx.length := by omega
    obtain ⟨p, hp, hpm, hix⟩ := at_lt hb'
    have hp' := encP_at hp
    have hw := w_succ hb' (by omega)
    have hs := all_snoc (p := fun p : Pr => !decide (p.nm = y.nm)) hp
    by_cases hq : p.nm = y.nm
    case neg =>
      have hq' := eq_false hq
      refine wkc (And.intro @dI.eq_1 (And.intro @dL.eq_1 (And.intro @dS.eq_1 (And.intro @dB.eq_1 (And.intro @Y.cells_eq (And.intro @Pr.cells.eq_1 (And.intro @hix (And.intro @hp' (And.intro @tx_beq @hq'))))))))) ?_
      refine loop_next (by simp [hw]; exact Is.rfl) ?_
      exact ⟨D - 1, by omega, j + 1, by omega, by rw [hs, hno, decide_eq_false hq]; rfl, SE.mk (by simp [dI, dL, dS, dB, hw]) (by simp [Y.cells_eq])⟩
    have hq' := eq_true hq
    have hf := find_hit (p := fun p : Pr => decide (p.nm = y.nm)) hno hp (decide_eq_true hq)
    rw [hf]
    by_cases hlt : p.br < y.brs.length
    · have c1 : ((p.br : Int) < y.brs.length) = True := eq_true (by omega)
      have c1' : (p.br < y.brs.length) = True := eq_true hlt
      obtain ⟨b, hb1, hbm, hib⟩ := at_lt hlt
      have hb2 := encB_at hb1
      have hr := h b cx (by have := mem_szB hbm; omega) (by have := mem_szB hbm; omega)
      have he := asN_at x all cx y.brs p.br b hb1
      simp only [he]
      simp only [dL, dS, dB] at hr
      refine wkc (And.intro @dI.eq_1 (And.intro @dL.eq_1 (And.intro @dS.eq_1 (And.intro @dB.eq_1 (And.intro @Y.cells_eq (And.intro @Pr.cells.eq_1 (And.intro @hix (And.intro @hp' (And.intro @tx_beq (And.intro @hq' (And.intro @hib (And.intro @hb2 (And.intro @hr @c1))))))))))))) ?_
      show retQ _ _ _ _ _
      exact ⟨.inr rfl, _, _, rfl, rfl⟩
    · have c1 : ((p.br : Int) < y.brs.length) = False := eq_false (by omega)
      have c1' : (p.br < y.brs.length) = False := eq_false hlt
      have he := asN_out x all cx y.brs p.br (by omega)
      simp only [he]
      refine wkc (And.intro @dI.eq_1 (And.intro @dL.eq_1 (And.intro @dS.eq_1 (And.intro @dB.eq_1 (And.intro @Y.cells_eq (And.intro @Pr.cells.eq_1 (And.intro @hix (And.intro @hp' (And.intro @tx_beq (And.intro @hq' (And.intro @c1 @c1'))))))))))) ?_
      show retQ _ _ _ _ _
      exact ⟨.inr rfl, _, _, rfl, rfl⟩
  · simp at hb
    have hje : j = cx.length := by omega
    rw [hje, List.take_length] at hno
    have hf := find_none (p := fun p : Pr => decide (p.nm = y.nm)) hno
    rw [hf]
    refine wkc (And.intro @dI.eq_1 (And.intro @dL.eq_1 (And.intro @dS.eq_1 (And.intro @dB.eq_1 @Y.cells_eq)))) ?_
    apply WP.loop' (I := fun D s => ∃ i n : Nat, i + D = y.brs.length ∧ n = asC x all cx y.nm 0 (y.brs.take i) ∧ SE [(1, dS x), (2, dL (encP cx)), (3, dB all), (4, .ptr 0 0 0), (10, dI n), (11, dI i)] [(0, ⟨0, false, y.cells.map .d⟩)] 1 s) (d := y.brs.length)
    · exact ⟨0, 0, by simp, by simp [asC], SE.mk (by simp [dI, dL, dS, dB]) (by simp [Y.cells_eq])⟩
    rintro D2 _ ⟨i, n, hi, hn, cc2, rfl⟩
    refine wk (And.intro @dI.eq_1 (And.intro @dL.eq_1 (And.intro @dS.eq_1 (And.intro @dB.eq_1 @Y.cells_eq)))) ?_
    show WP _ _ _ _ _ _
    refine WP.cond _ rfl (fun hb => ?_) (fun hb => ?_)
    · simp at hb
      have hc' : i < y.brs.length := by omega
      obtain ⟨b, hb1, hbm, hib⟩ := at_lt hc'
      have hb2 := encB_at hb1
      have hw2 := w_succ hc' (by omega)
      have hin := inside121 cx y.nm i (by omega)
      have hr := h b (cx ++ [⟨y.nm, i⟩]) (by have := mem_szB hbm; omega) (by have := mem_szB hbm; simp; omega)
      have hts : y.brs.take (i + 1) = y.brs.take i ++ [b] := take_snoc hb1
      have hcn := asC_snoc x all cx y.nm (y.brs.take i) 0 b
      rw [← hts, ← hn, List.length_take, Nat.min_eq_left (by omega), Nat.zero_add] at hcn
      have hnl := count_le x all cx y.nm (y.brs.take i) 0
      rw [← hn] at hnl
      have hnl2 : n ≤ y.brs.length := by rw [List.length_take] at hnl; omega
      have hwn : IntKind.i64.wrap ((n : Int) + 1) = ((n + 1 : Nat) : Int) := by rw [w_id'] <;> omega
      simp only [dL, dS, dB, dI] at hin hr
      cases he : asL x all (cx ++ [⟨y.nm, i⟩]) b with
      | true =>
        rw [he] at hr hcn
        refine wkc (And.intro @dI.eq_1 (And.intro @dL.eq_1 (And.intro @dS.eq_1 (And.intro @dB.eq_1 (And.intro @Y.cells_eq (And.intro @hib (And.intro @hb2 (And.intro @hin @hr)))))))) ?_
        refine loop_next (by simp [hw2, hwn]; exact Is.rfl) ?_
        exact ⟨D2 - 1, by omega, i + 1, n + 1, by omega, by rw [hcn]; simp, SE.mk (by simp [dI, dL, dS, dB, hw2, hwn]) (by simp [Y.cells_eq])⟩
      | false =>
        rw [he] at hr hcn
        refine wkc (And.intro @dI.eq_1 (And.intro @dL.eq_1 (And.intro @dS.eq_1 (And.intro @dB.eq_1 (And.intro @Y.cells_eq (And.intro @hib (And.intro @hb2 (And.intro @hin @hr)))))))) ?_
        refine loop_next (by simp [hw2]; exact Is.rfl) ?_
        exact ⟨D2 - 1, by omega, i + 1, n, by omega, by rw [hcn]; simp, SE.mk (by simp [dI, dL, dS, dB, hw2]) (by simp [Y.cells_eq])⟩
    · simp at hb
      have hie : i = y.brs.length := by omega
      rw [hie, List.take_length] at hn
      simp only [← hn]
      cases all with
      | true =>
        by_cases hnn : n = y.brs.length
        · have e1 : ((n : Int) = y.brs.length) = True := eq_true (by omega)
          refine wkc (And.intro @dI.eq_1 (And.intro @dL.eq_1 (And.intro @dS.eq_1 (And.intro @dB.eq_1 (And.intro @Y.cells_eq (And.intro @int_beq (And.intro @e1 @hnn))))))) ?_
          exact ⟨.inr rfl, _, _, rfl, by simp [hnn]; rfl⟩
        · have e1 : ((n : Int) = y.brs.length) = False := eq_false (by omega)
          refine wkc (And.intro @dI.eq_1 (And.intro @dL.eq_1 (And.intro @dS.eq_1 (And.intro @dB.eq_1 (And.intro @Y.cells_eq (And.intro @int_beq (And.intro @e1 @hnn))))))) ?_
          exact ⟨.inr rfl, _, _, rfl, by simp [hnn]; rfl⟩
      | false =>
        refine wkc (And.intro @dI.eq_1 (And.intro @dL.eq_1 (And.intro @dS.eq_1 (And.intro @dB.eq_1 (And.intro @Y.cells_eq @int_beq))))) ?_
        exact ⟨.inr rfl, _, _, rfl, by simp; rfl⟩

set_option maxHeartbeats 1000000 in
theorem some33 (x : Tx) (all : Bool) : ∀ N, SomeAt x all N := by
  intro N
  induction N with
  | zero => intro l cx h; omega
  | succ N ih =>
  intro l cx hN hb0
  have k1 := len_szY l
  refine den_wp Tryz.func33 rfl (by kernel_rfl) rfl rfl ?_
  rw [asL_any]
  refine wkc (And.intro @dL.eq_1 (And.intro @dS.eq_1 @dB.eq_1)) ?_
  apply WP.loop' (I := fun D s => ∃ j : Nat, j + D = l.length ∧ (l.take j).all (fun y => !asY x all cx y) = true ∧ SE [(0, dL (encY l)), (1, dS x), (2, dL (encP cx)), (3, dB all), (9, dI j)] [] 0 s) (d := l.length)
  · exact ⟨0, by simp, by simp, SE.mk (by simp [dI, dL, dS, dB]) rfl⟩
  rintro D _ ⟨j, hj, hno, cc, rfl⟩
  refine wk (And.intro @dI.eq_1 (And.intro @dL.eq_1 (And.intro @dS.eq_1 @dB.eq_1))) ?_
  show WP _ _ _ _ _ _
  refine WP.cond _ rfl (fun hb => ?_) (fun hb => ?_)
  · simp at hb
    have hb' : j < l.length := by omega
    obtain ⟨y, hy, hym, hix⟩ := at_lt hb'
    have hy' := encY_at hy
    have hw := w_succ hb' (by omega)
    have hs := all_snoc (p := fun y => !asY x all cx y) hy
    have hr := assigns77 ih y cx (by have := mem_szY hym; omega) (by have := mem_szY hym; omega)
    simp only [aG, Y.cells_eq, List.map_cons, List.map_nil, dL, dS, dB] at hr
    cases he : asY x all cx y with
    | true =>
      rw [he] at hr
      have ha : l.any (asY x all cx) = true := List.any_eq_true.2 ⟨y, hym, he⟩
      rw [ha]
      refine wkc (And.intro @dI.eq_1 (And.intro @dL.eq_1 (And.intro @dS.eq_1 (And.intro @dB.eq_1 (And.intro @Y.cells_eq (And.intro @hix (And.intro @hy' @hr))))))) ?_
      show retQ _ _ _ _ _
      exact ⟨.inr rfl, _, _, rfl, rfl⟩
    | false =>
      rw [he] at hr hs
      refine wkc (And.intro @dI.eq_1 (And.intro @dL.eq_1 (And.intro @dS.eq_1 (And.intro @dB.eq_1 (And.intro @Y.cells_eq (And.intro @hix (And.intro @hy' @hr))))))) ?_
      refine loop_next (by simp [hw]; exact Is.rfl) ?_
      exact ⟨D - 1, by omega, j + 1, by omega, by rw [hs, hno]; rfl, SE.mk (by simp [dI, dL, dS, dB, hw]) rfl⟩
  · simp at hb
    have hje : j = l.length := by omega
    rw [hje, List.take_length] at hno
    have ha : l.any (asY x all cx) = false := by
      cases hany : l.any (asY x all cx) with
      | false => rfl
      | true =>
        obtain ⟨y, hy, hye⟩ := List.any_eq_true.1 hany
        have := List.all_eq_true.1 hno y hy
        rw [hye] at this; cases this
    rw [ha]
    refine wkc (And.intro @dI.eq_1 (And.intro @dL.eq_1 (And.intro @dS.eq_1 @dB.eq_1))) ?_
    show retQ _ _ _ _ _
    exact ⟨.inr rfl, _, _, rfl, rfl⟩
end Go.Ac
end
