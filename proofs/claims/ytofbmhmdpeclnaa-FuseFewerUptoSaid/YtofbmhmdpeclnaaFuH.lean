/- Plain facts on statements: sizes, cases, empty cases, assignments, joining. No program in sight. -/
import Derived.Test.YtofbmhmdpeclnaaFuG
set_option linter.unusedVariables false
set_option linter.unusedSimpArgs false
set_option linter.unusedSimpArgs false
set_option linter.unusedVariables false
namespace Go.Ab

def Y.with (y : Y) (b : List (List Y)) : Y := .mk y.k y.nm y.t y.r y.outs y.args b

theorem szY_take : ∀ (l : List Y) (i : Nat), szY (l.take i) ≤ szY l
  | [], i => by simp
  | y :: r, 0 => by simp [szY]
  | y :: r, i + 1 => by have := szY_take r i; simp [szY, this]
theorem szB_take : ∀ (l : List (List Y)) (i : Nat), szB (l.take i) ≤ szB l
  | [], i => by simp
  | y :: r, 0 => by simp [szB]
  | y :: r, i + 1 => by have := szB_take r i; simp [szB, this]
theorem szY_takeS {l : List Y} {i : Nat} {y : Y} (h : l[i]? = some y) : szY (l.take i) + y.sz ≤ szY l := by
  induction l generalizing i with
  | nil => simp at h
  | cons a r ih =>
    cases i with
    | zero => simp at h; subst h; simp [szY]
    | succ i => simp at h; have := ih h; simp [szY]; omega
theorem szY_app : ∀ (l r : List Y), szY (l ++ r) = szY l + szY r
  | [], r => by simp [szY]
  | y :: l, r => by simp [szY, szY_app l r]; omega
theorem szY_one (y : Y) : szY [y] = y.sz := by simp [szY]
theorem Y.with_sz (y : Y) (b : List (List Y)) : (y.with b).sz + szB y.brs = y.sz + szB b := by
  rw [Y.sz_eq, Y.sz_eq y]; simp [Y.with, Y.nm, Y.r, Y.outs, Y.args, Y.brs]; omega

/-! ### Cases -/
mutual
def Y.cs : Y → Int
  | .mk k _ _ _ _ _ brs => if k = 3 then 1 + csB brs else 0
def csY : List Y → Int
  | [] => 0
  | y :: r => y.cs + csY r
def csB : List (List Y) → Int
  | [] => 0
  | b :: r => csY b + csB r
end
theorem csY_take {l : List Y} {i : Nat} {y : Y} (h : l[i]? = some y) : csY (l.take (i + 1)) = csY (l.take i) + y.cs := by
  induction l generalizing i with
  | nil => simp at h
  | cons a r ih =>
    cases i with
    | zero => simp at h; subst h; simp [csY]
    | succ i => simp at h; have := ih h; simp [csY, this]; omega
theorem csB_take {l : List (List Y)} {i : Nat} {y : List Y} (h : l[i]? = some y) : csB (l.take (i + 1)) = csB (l.take i) + csY y := by
  induction l generalizing i with
  | nil => simp at h
  | cons a r ih =>
    cases i with
    | zero => simp at h; subst h; simp [csB]
    | succ i => simp at h; have := ih h; simp [csB, this]; omega
theorem Y.cs_eq (y : Y) : y.cs = if y.k = 3 then 1 + csB y.brs else 0 := by cases y; simp only [Y.cs]; rfl
mutual
theorem Y.cs_le : ∀ y : Y, 0 ≤ y.cs ∧ y.cs ≤ y.sz
  | .mk k nm t r outs args brs => by
    have := csB_le brs
    simp only [Y.cs, Y.sz]
    split <;> omega
theorem csY_le : ∀ l : List Y, 0 ≤ csY l ∧ csY l ≤ szY l
  | [] => by simp [csY]
  | y :: r => by
    have := Y.cs_le y
    have := csY_le r
    simp only [csY, szY]
    omega
theorem csB_le : ∀ l : List (List Y), 0 ≤ csB l ∧ csB l ≤ szB l
  | [] => by simp [csB]
  | y :: r => by
    have := csY_le y
    have := csB_le r
    simp only [csB, szB]
    omega
end

/-! ### Empty cases -/
def empB (b : List (List Y)) : Bool := b.all List.isEmpty
mutual
def Y.hol : Y → Bool
  | .mk k _ _ _ _ _ brs => (k == 3) && (holB brs || empB brs)
def holY : List Y → Bool
  | [] => false
  | y :: r => y.hol || holY r
def holB : List (List Y) → Bool
  | [] => false
  | b :: r => holY b || holB r
end
theorem holY_any : ∀ l : List Y, holY l = l.any Y.hol
  | [] => by simp [holY]
  | y :: r => by simp [holY, holY_any r]
theorem holB_any : ∀ l : List (List Y), holB l = l.any holY
  | [] => by simp [holB]
  | y :: r => by simp [holB, holB_any r]
theorem Y.hol_eq (y : Y) : y.hol = ((y.k == 3) && (holB y.brs || empB y.brs)) := by cases y; simp only [Y.hol]; rfl

/-! ### Assignments -/
mutual
def Y.asg (nm : List UInt8) : Y → Bool
  | .mk k n _ _ outs _ brs => ((k == 1) && (n == nm)) || ((k == 4) && outs.any (· == nm)) || ((k == 3) && asgB nm brs)
def asgY (nm : List UInt8) : List Y → Bool
  | [] => false
  | y :: r => y.asg nm || asgY nm r
def asgB (nm : List UInt8) : List (List Y) → Bool
  | [] => false
  | b :: r => asgY nm b || asgB nm r
end
theorem asgY_any (nm : List UInt8) : ∀ l : List Y, asgY nm l = l.any (Y.asg nm)
  | [] => by simp [asgY]
  | y :: r => by simp [asgY, asgY_any nm r]
theorem asgB_any (nm : List UInt8) : ∀ l : List (List Y), asgB nm l = l.any (asgY nm)
  | [] => by simp [asgB]
  | y :: r => by simp [asgB, asgB_any nm r]
theorem Y.asg_eq (nm : List UInt8) (y : Y) : y.asg nm = (((y.k == 1) && (y.nm == nm)) || ((y.k == 4) && y.outs.any (· == nm)) || ((y.k == 3) && asgB nm y.brs)) := by cases y; simp only [Y.asg]; rfl

/-- Nothing in the first ones, and what then. -/
theorem any_takeS {α : Type} {p : α → Bool} {l : List α} {i : Nat} {y : α} (h : l[i]? = some y) : (l.take (i + 1)).any p = ((l.take i).any p || p y) := by
  induction l generalizing i with
  | nil => simp at h
  | cons a r ih =>
    cases i with
    | zero => simp at h; subst h; simp
    | succ i => simp at h; have := ih h; simp [this, Bool.or_assoc]
theorem all_takeS {α : Type} {p : α → Bool} {l : List α} {i : Nat} {y : α} (h : l[i]? = some y) : (l.take (i + 1)).all p = ((l.take i).all p && p y) := by
  induction l generalizing i with
  | nil => simp at h
  | cons a r ih =>
    cases i with
    | zero => simp at h; subst h; simp
    | succ i => simp at h; have := ih h; simp [this, Bool.and_assoc]
theorem any_hit {α : Type} {p : α → Bool} {l : List α} {y : α} (h : y ∈ l) (hp : p y = true) : l.any p = true := List.any_eq_true.2 ⟨y, h, hp⟩
theorem all_hit {α : Type} {p : α → Bool} {l : List α} {y : α} (h : y ∈ l) (hp : p y = false) : l.all p = false := by
  cases ha : l.all p with
  | false => rfl
  | true => rw [List.all_eq_true] at ha; have := ha y h; rw [hp] at this; cases this
theorem take_S {α : Type} {l : List α} {i : Nat} {y : α} (h : l[i]? = some y) : l.take (i + 1) = l.take i ++ [y] := by
  rw [List.take_add_one, h]; rfl

/-! ### Joining -/
def fitY (a b : Y) : Bool := (a.k == 3) && (a.nm == b.nm) && (a.t == b.t) && (a.brs.length == b.brs.length) && !a.asg b.nm

def jstep (rec : List Y → List Y) (out : List Y) (s : Y) : List Y :=
  if s.k = 3 then
    if empB (s.brs.map rec) then out else
      match out.getLast? with
      | some a => if fitY a (s.with (s.brs.map rec)) then out.dropLast ++ [a.with (List.zipWith (fun x y => rec (x ++ y)) a.brs (s.brs.map rec))] else out ++ [s.with (s.brs.map rec)]
      | none => out ++ [s.with (s.brs.map rec)]
  else out ++ [s]

def Jf : Nat → List Y → List Y
  | 0, _ => []
  | n + 1, l => l.foldl (jstep (Jf n)) []

theorem szB_map {rec : List Y → List Y} (h : ∀ l, szY (rec l) ≤ szY l) : ∀ b : List (List Y), szB (b.map rec) ≤ szB b
  | [] => by simp
  | x :: r => by have := h x; have := szB_map h r; simp only [List.map, szB]; omega
theorem szB_zip {rec : List Y → List Y} (h : ∀ l, szY (rec l) ≤ szY l) : ∀ a b : List (List Y), szB (List.zipWith (fun x y => rec (x ++ y)) a b) ≤ szB a + szB b
  | [], b => by simp [szB]
  | x :: r, [] => by simp [szB]
  | x :: r, y :: l => by
    have h1 := h (x ++ y)
    rw [szY_app] at h1
    have := szB_zip h r l
    simp only [List.zipWith, szB]; omega

theorem getLast_split {α : Type} {l : List α} {a : α} (h : l.getLast? = some a) : l = l.dropLast ++ [a] := by
  have hne : l ≠ [] := by intro h0; rw [h0] at h; simp at h
  rw [List.getLast?_eq_some_getLast hne] at h
  simp only [Option.some.injEq] at h
  rw [← h]
  exact (List.dropLast_concat_getLast hne).symm

theorem jstep_sz {rec : List Y → List Y} (h : ∀ l, szY (rec l) ≤ szY l) (out : List Y) (s : Y) : szY (jstep rec out s) ≤ szY out + s.sz := by
  have hb := szB_map h s.brs
  have hw := Y.with_sz s (s.brs.map rec)
  unfold jstep
  split
  · split
    · omega
    · split
      · rename_i a ha
        have hout := getLast_split ha
        have hso : szY out = szY out.dropLast + a.sz := by conv => lhs; rw [hout]
                                                           rw [szY_app, szY_one]
        split
        · have hz := szB_zip h a.brs (s.brs.map rec)
          have hw2 := Y.with_sz a (List.zipWith (fun x y => rec (x ++ y)) a.brs (s.brs.map rec))
          have hs := Y.sz_eq s
          rw [szY_app, szY_one]; omega
        · rw [szY_app, szY_one]; omega
      · rw [szY_app, szY_one]; omega
  · rw [szY_app, szY_one]; omega

theorem Jf_sz : ∀ (n : Nat) (l : List Y), szY (Jf n l) ≤ szY l
  | 0, l => by simp [Jf, szY]
  | n + 1, l => by
    have : ∀ (r out : List Y), szY (r.foldl (jstep (Jf n)) out) ≤ szY out + szY r := by
      intro r
      induction r with
      | nil => intro out; simp [szY]
      | cons y r ih =>
        intro out
        have h1 := jstep_sz (Jf_sz n) out y
        have h2 := ih (jstep (Jf n) out y)
        simp only [List.foldl, szY]; omega
    have := this l []
    simp only [Jf, szY] at this ⊢
    omega

/-- How far the list has been joined. -/
def Jp (n : Nat) (l : List Y) (i : Nat) : List Y := (l.take i).foldl (jstep (Jf n)) []
theorem Jp_zero (n : Nat) (l : List Y) : Jp n l 0 = [] := by simp [Jp]
theorem Jp_succ {n : Nat} {l : List Y} {i : Nat} {y : Y} (h : l[i]? = some y) : Jp n l (i + 1) = jstep (Jf n) (Jp n l i) y := by
  unfold Jp; rw [take_S h, List.foldl_append]; rfl
theorem Jp_len (n : Nat) (l : List Y) (i : Nat) (h : l.length ≤ i) : Jp n l i = Jf (n + 1) l := by
  unfold Jp; rw [List.take_of_length_le h]; rfl
theorem Jp_sz (n : Nat) (l : List Y) (i : Nat) : szY (Jp n l i) ≤ szY (l.take i) := Jf_sz (n + 1) (l.take i)

end Go.Ab
