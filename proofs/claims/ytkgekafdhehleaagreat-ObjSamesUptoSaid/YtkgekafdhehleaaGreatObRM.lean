/- From the given reading of the arguments to object code as data. -/
import Derived.Test.YtkgekafdhehleaaGreatAcA
import Derived.Test.YtkgekafdhehleaaGreatAcB
import Derived.Test.YtkgekafdhehleaaGreatAcDM
import Derived.Test.YtkgekafdhehleaaGreatAcGM
import Derived.Test.YtkgekafdhehleaaGreatAcJM
import Derived.Test.YtkgekafdhehleaaGreatAcNM
import Derived.Test.YtkgekafdhehleaaGreatAcQM
import Derived.Test.YtkgekafdhehleaaGreatAcUM
import Derived.Test.YtkgekafdhehleaaGreatAcThM
import Derived.Test.YtkgekafdhehleaaGreatObHn
import Derived.KernelRfl
import Derived.Calls
import Derived.Orders
import Derived.Laws.World
import Derived.Laws.Sem
import Derived.Laws.Cells
import Derived.Laws.Append
import GoSem.ClaimData
import Derived.Laws.Tables
import Derived.Laws.Slices
import Derived.Laws.Strings
import Derived.Laws.Small
import Derived.Test.YtkgekafdhehleaaGreatChecked
import Derived.Test.YtkgekafdhehleaaGreatRows
import Derived.Deep.Slices
import Derived.ChangeArms
import Derived.RowKit3
import Derived.ReadAgain
import Derived.ChangeStays
set_option linter.unusedVariables false
set_option linter.unusedSimpArgs false
section
set_option linter.unusedVariables false
set_option linter.unusedSimpArgs false
namespace Go.Ac
theorem iZ {α : Sort _} {x : α} : Is x x := Is.rfl
theorem gS {α : Type _} {x : α} {i : Nat} {l : List α} : (x :: l)[i + 1]? = l[i]? := rfl
theorem gZ {α : Type _} {x : α} {l : List α} : (x :: l)[0]? = some x := rfl

/-- One walk leads from a goal to another. -/
structure Hd (G : Prop) : Prop where
  out : G
def Wk (L G G' : Prop) : Prop := L → Hd G' → G

theorem wk {L : Prop} (hl : L) {G G' : Prop} (k : G') (h : Wk L G G' := by
  intro hl hk
  repeat (first
 | apply WP.seq
 | (apply WP.reg; (case hR => dsimp only [prepL, prepO, List.map, gS, gZ]; exact iZ); (case hr => (repeat (first
 | (apply RT.op; simp [hl]; exact iZ; (try dsimp only [putEnv]) <;> exact rfl)
 | (apply RT.call; (iterate 2 simp; exact iZ); exact iZ; (iterate 4 simp [hl]; exact iZ); simp [Is]; (try dsimp only [putEnv]) <;> exact rfl; simp; exact iZ; simp; exact iZ)
 | (apply RT.wr; simp [hl]; exact iZ; (try dsimp only [putEnv]) <;> exact rfl; simp [hl]; exact iZ; (iterate 2 exact iZ); simp; exact iZ))); exact RT.nil); (case hc => (show _ = _; kernel_rfl)); (case ht => simp [hl]; exact iZ))
 | apply WP.block | apply WP.skip | apply WP.exit | apply WP.ret)
  exact hk.out) : G := h hl ⟨k⟩
theorem wkc {L : Prop} (hl : L) {G G' : Prop} (k : G') (h : Wk L G G' := by
  intro hl hk
  repeat (first
 | apply WP.seq
 | (apply WP.reg; (case hR => dsimp only [prepL, prepO, List.map, gS, gZ]; exact iZ); (case hr => (repeat (first
 | (apply RT.op; simp [hl]; exact iZ; (try dsimp only [putEnv]) <;> exact rfl)
 | (apply RT.call; (iterate 2 simp; exact iZ); exact iZ; (iterate 4 simp [hl]; exact iZ); simp [Is]; (try dsimp only [putEnv]) <;> exact rfl; simp; exact iZ; simp; exact iZ)
 | (apply RT.wr; simp [hl]; exact iZ; (try dsimp only [putEnv]) <;> exact rfl; simp [hl]; exact iZ; (iterate 2 exact iZ); simp; exact iZ))); exact RT.nil); (case hc => (show _ = _; kernel_rfl)); (case ht => simp [hl]; exact iZ))
 | apply WP.block | apply WP.skip | apply WP.exit | apply WP.ret | refine WP.condT rfl ?_ | refine WP.condF rfl ?_)
  exact hk.out) : G := h hl ⟨k⟩
end Go.Ac
end

section
set_option linter.unusedVariables false
namespace Go.Ac
open Go.Proofs

/-- A text. -/
abbrev Tx := List UInt8
/-- An expression. -/
inductive X where
  | mk (k o t v : Int) (nm : Tx) (args : List X)
/-- A statement. -/
inductive Y where
  | mk (k : Int) (nm : Tx) (t : Int) (r : X) (outs : List Tx) (args : List X) (brs : List (List Y))
structure On where
  nm : Tx
  t : Int
  tag : Int
structure Dc where
  nm : Tx
  t : Int
  ck : List On
structure En where
  nm : Tx
  tags : List Tx
structure Mm where
  nm : Tx
  t : Int
  ini : Int
structure Ii where
  nm : Tx
  cl : Tx
/-- A class. -/
structure Cl where
  nm : Tx
  inn : List Dc
  out : List Dc
  loc : List Dc
  mems : List Mm
  ins : List Ii
  step : List Y
/-- Object code. -/
structure Oc where
  en : List En
  cl : List Cl

def dI (n : Int) : V := .d (.int .i64 n)
def dB (b : Bool) : V := .d (.bool b)
def encI (l : List Int) : List (List D) := l.map fun n => [.int .i64 n]
def encS (l : List Tx) : List (List D) := l.map fun s => [.str s]
mutual
def X.cells : X → List D
  | .mk k o t v nm args => [.int .i64 k, .int .i64 o, .int .i64 t, .int .i64 v, .str nm, .slice (encX args)]
def encX : List X → List (List D)
  | [] => []
  | x :: r => x.cells :: encX r
end
mutual
def Y.cells : Y → List D
  | .mk k nm t r outs args brs => [.int .i64 k, .str nm, .int .i64 t] ++ r.cells ++ [.slice (encS outs), .slice (encX args), .slice (encB brs)]
def encY : List Y → List (List D)
  | [] => []
  | y :: r => y.cells :: encY r
def encB : List (List Y) → List (List D)
  | [] => []
  | b :: r => [.slice (encY b)] :: encB r
end
def On.cells (x : On) : List D := [.str x.nm, .int .i64 x.t, .int .i64 x.tag]
def encO (l : List On) : List (List D) := l.map On.cells
def Dc.cells (x : Dc) : List D := [.str x.nm, .int .i64 x.t, .slice (encO x.ck)]
def encD (l : List Dc) : List (List D) := l.map Dc.cells
def En.cells (x : En) : List D := [.str x.nm, .slice (encS x.tags)]
def encE (l : List En) : List (List D) := l.map En.cells
def Mm.cells (x : Mm) : List D := [.str x.nm, .int .i64 x.t, .int .i64 x.ini]
def encM (l : List Mm) : List (List D) := l.map Mm.cells
def Ii.cells (x : Ii) : List D := [.str x.nm, .str x.cl]
def encJ (l : List Ii) : List (List D) := l.map Ii.cells
def Cl.cells (x : Cl) : List D := [.str x.nm, .slice (encD x.inn), .slice (encD x.out), .slice (encD x.loc), .slice (encM x.mems), .slice (encJ x.ins), .slice (encY x.step)]
def encC (l : List Cl) : List (List D) := l.map Cl.cells
def Oc.cells (x : Oc) : List D := [.slice (encE x.en), .slice (encC x.cl)]
/-- A struct as an argument. -/
def aG (l : List D) : V := .agg (l.map .d)
def dL (l : List (List D)) : V := .d (.slice l)

def X.k : X → Int | .mk k _ _ _ _ _ => k
def X.o : X → Int | .mk _ o _ _ _ _ => o
def X.t : X → Int | .mk _ _ t _ _ _ => t
def X.v : X → Int | .mk _ _ _ v _ _ => v
def X.nm : X → Tx | .mk _ _ _ _ n _ => n
def X.args : X → List X | .mk _ _ _ _ _ l => l
def Y.k : Y → Int | .mk k _ _ _ _ _ _ => k
def Y.nm : Y → Tx | .mk _ n _ _ _ _ _ => n
def Y.t : Y → Int | .mk _ _ t _ _ _ _ => t
def Y.r : Y → X | .mk _ _ _ r _ _ _ => r
def Y.outs : Y → List Tx | .mk _ _ _ _ o _ _ => o
def Y.args : Y → List X | .mk _ _ _ _ _ a _ => a
def Y.brs : Y → List (List Y) | .mk _ _ _ _ _ _ b => b
theorem X.cells_eq (x : X) : x.cells = [.int .i64 x.k, .int .i64 x.o, .int .i64 x.t, .int .i64 x.v, .str x.nm, .slice (encX x.args)] := by cases x; simp [X.cells, X.k, X.o, X.t, X.v, X.nm, X.args]
theorem Y.cells_eq (y : Y) : y.cells = [.int .i64 y.k, .str y.nm, .int .i64 y.t, .int .i64 y.r.k, .int .i64 y.r.o, .int .i64 y.r.t, .int .i64 y.r.v, .str y.r.nm, .slice (encX y.r.args), .slice (encS y.outs), .slice (encX y.args), .slice (encB y.brs)] := by
  cases y; simp [Y.cells, X.cells_eq, Y.k, Y.nm, Y.t, Y.r, Y.outs, Y.args, Y.brs]
theorem encX_map : ∀ l : List X, encX l = l.map X.cells
  | [] => by simp [encX]
  | x :: r => by simp [encX, encX_map r]
theorem encY_map : ∀ l : List Y, encY l = l.map Y.cells
  | [] => by simp [encY]
  | x :: r => by simp [encY, encY_map r]
theorem encB_map : ∀ l : List (List Y), encB l = l.map fun b => [.slice (encY b)]
  | [] => by simp [encB]
  | x :: r => by simp [encB, encB_map r]

theorem encI_len (l : List Int) : (encI l).length = l.length := by simp [encI]
theorem encS_len (l : List Tx) : (encS l).length = l.length := by simp [encS]
theorem encS_at {l : List Tx} {i : Nat} {y : Tx} (h : l[i]? = some y) : (encS l)[i]? = some [.str y] := by unfold encS; simp [h]
theorem encX_len (l : List X) : (encX l).length = l.length := by simp [encX_map]
theorem encX_at {l : List X} {i : Nat} {y : X} (h : l[i]? = some y) : (encX l)[i]? = some y.cells := by rw [encX_map]; simp [h]
theorem encY_len (l : List Y) : (encY l).length = l.length := by simp [encY_map]
theorem encY_at {l : List Y} {i : Nat} {y : Y} (h : l[i]? = some y) : (encY l)[i]? = some y.cells := by rw [encY_map]; simp [h]
theorem encB_len (l : List (List Y)) : (encB l).length = l.length := by simp [encB_map]
theorem encB_at {l : List (List Y)} {i : Nat} {y : (List Y)} (h : l[i]? = some y) : (encB l)[i]? = some [.slice (encY y)] := by rw [encB_map]; simp [h]
theorem encO_len (l : List On) : (encO l).length = l.length := by simp [encO]
theorem encO_at {l : List On} {i : Nat} {y : On} (h : l[i]? = some y) : (encO l)[i]? = some y.cells := by unfold encO; simp [h]
theorem encD_len (l : List Dc) : (encD l).length = l.length := by simp [encD]
theorem encD_at {l : List Dc} {i : Nat} {y : Dc} (h : l[i]? = some y) : (encD l)[i]? = some y.cells := by unfold encD; simp [h]
theorem encE_len (l : List En) : (encE l).length = l.length := by simp [encE]
theorem encE_at {l : List En} {i : Nat} {y : En} (h : l[i]? = some y) : (encE l)[i]? = some y.cells := by unfold encE; simp [h]
theorem encM_len (l : List Mm) : (encM l).length = l.length := by simp [encM]
theorem encM_at {l : List Mm} {i : Nat} {y : Mm} (h : l[i]? = some y) : (encM l)[i]? = some y.cells := by unfold encM; simp [h]
theorem encJ_len (l : List Ii) : (encJ l).length = l.length := by simp [encJ]
theorem encJ_at {l : List Ii} {i : Nat} {y : Ii} (h : l[i]? = some y) : (encJ l)[i]? = some y.cells := by unfold encJ; simp [h]
theorem encC_len (l : List Cl) : (encC l).length = l.length := by simp [encC]
theorem encC_at {l : List Cl} {i : Nat} {y : Cl} (h : l[i]? = some y) : (encC l)[i]? = some y.cells := by unfold encC; simp [h]

/-! ### Sizes -/
def MX : Nat := 1152921504606846976
def szT (s : Tx) : Nat := s.length + 1
def szS (l : List Tx) : Nat := (l.map szT).sum
mutual
def X.sz : X → Nat
  | .mk _ _ _ _ nm args => szT nm + szX args + 6
def szX : List X → Nat
  | [] => 0
  | x :: r => x.sz + szX r
end
mutual
def Y.sz : Y → Nat
  | .mk _ nm _ r outs args brs => szT nm + r.sz + szS outs + szX args + szB brs + 12
def szY : List Y → Nat
  | [] => 0
  | y :: r => y.sz + szY r
def szB : List (List Y) → Nat
  | [] => 0
  | b :: r => szY b + 1 + szB r
end
def On.sz (x : On) : Nat := szT x.nm + 3
def szO (l : List On) : Nat := (l.map On.sz).sum
def Dc.sz (x : Dc) : Nat := szT x.nm + szO x.ck + 3
def szD (l : List Dc) : Nat := (l.map Dc.sz).sum
def En.sz (x : En) : Nat := szT x.nm + szS x.tags + 2
def szE (l : List En) : Nat := (l.map En.sz).sum
def Mm.sz (x : Mm) : Nat := szT x.nm + 3
def szM (l : List Mm) : Nat := (l.map Mm.sz).sum
def Ii.sz (x : Ii) : Nat := szT x.nm + szT x.cl + 2
def szJ (l : List Ii) : Nat := (l.map Ii.sz).sum
def Cl.sz (x : Cl) : Nat := szT x.nm + szD x.inn + szD x.out + szD x.loc + szM x.mems + szJ x.ins + szY x.step + 7
def szC (l : List Cl) : Nat := (l.map Cl.sz).sum
def Oc.sz (x : Oc) : Nat := szE x.en + szC x.cl + 2
theorem X.sz_eq (x : X) : x.sz = szT x.nm + szX x.args + 6 := by cases x; simp [X.sz, X.nm, X.args]
theorem Y.sz_eq (y : Y) : y.sz = szT y.nm + y.r.sz + szS y.outs + szX y.args + szB y.brs + 12 := by cases y; simp [Y.sz, Y.nm, Y.r, Y.outs, Y.args, Y.brs]
theorem sum_mem {α : Type} {f : α → Nat} : ∀ {l : List α} {x : α}, x ∈ l → f x ≤ (l.map f).sum
  | y :: r, x, h => by
    simp only [List.mem_cons] at h
    simp only [List.map_cons, List.sum_cons]
    rcases h with rfl | h
    · omega
    · have := sum_mem (f := f) h; omega
theorem sum_len {α : Type} {f : α → Nat} (hf : ∀ x, 1 ≤ f x) : ∀ {l : List α}, l.length ≤ (l.map f).sum
  | [] => by simp
  | y :: r => by have := sum_len hf (l := r); have := hf y; simp; omega
theorem szX_sum : ∀ l : List X, szX l = (l.map X.sz).sum
  | [] => by simp [szX]
  | x :: r => by simp [szX, szX_sum r]
theorem szY_sum : ∀ l : List Y, szY l = (l.map Y.sz).sum
  | [] => by simp [szY]
  | x :: r => by simp [szY, szY_sum r]
theorem szB_sum : ∀ l : List (List Y), szB l = (l.map fun b => szY b + 1).sum
  | [] => by simp [szB]
  | x :: r => by simp [szB, szB_sum r]
theorem mem_szX {l : List X} {x : X} (h : x ∈ l) : x.sz ≤ szX l := by rw [szX_sum]; exact sum_mem h
theorem mem_szY {l : List Y} {x : Y} (h : x ∈ l) : x.sz ≤ szY l := by rw [szY_sum]; exact sum_mem h
theorem mem_szB {l : List (List Y)} {x : List Y} (h : x ∈ l) : szY x < szB l := by rw [szB_sum]; have h1 := sum_mem (f := fun b => szY b + 1) h; omega
theorem len_szX (l : List X) : l.length ≤ szX l := by rw [szX_sum]; exact sum_len fun x => by rw [X.sz_eq]; omega
theorem len_szY (l : List Y) : l.length ≤ szY l := by rw [szY_sum]; exact sum_len fun x => by rw [Y.sz_eq]; omega
theorem len_szB (l : List (List Y)) : l.length ≤ szB l := by rw [szB_sum]; exact sum_len fun x => by omega
theorem len_szS (l : List Tx) : l.length ≤ szS l := sum_len fun x => by unfold szT; omega
theorem len_szO (l : List On) : l.length ≤ szO l := sum_len fun x => by unfold On.sz; omega
theorem mem_szD {l : List Dc} {x : Dc} (h : x ∈ l) : Dc.sz x ≤ szD l := sum_mem h
theorem len_szD (l : List Dc) : l.length ≤ szD l := sum_len fun x => by unfold Dc.sz; omega
theorem mem_szE {l : List En} {x : En} (h : x ∈ l) : En.sz x ≤ szE l := sum_mem h
theorem len_szE (l : List En) : l.length ≤ szE l := sum_len fun x => by unfold En.sz; omega
theorem len_szM (l : List Mm) : l.length ≤ szM l := sum_len fun x => by unfold Mm.sz; omega
theorem len_szJ (l : List Ii) : l.length ≤ szJ l := sum_len fun x => by unfold Ii.sz; omega
theorem mem_szC {l : List Cl} {x : Cl} (h : x ∈ l) : Cl.sz x ≤ szC l := sum_mem h
theorem len_szC (l : List Cl) : l.length ≤ szC l := sum_len fun x => by unfold Cl.sz; omega

theorem idx_lt {i n : Nat} (h : i < n) : idx (i : Int) n = some i := by
  unfold idx
  rw [if_pos ⟨by omega, by omega⟩]
  simp
theorem nbeq_self (n : Nat) : Nat.beq n n = true := Nat.beq_refl n

/-! ### Types -/
noncomputable def zOf (t : TypeId) : Option (List V) := match mkTI Tryz.prog t with | some i => i.zero | none => none
theorem ti3 : mkTI Tryz.prog 3 = some ⟨.int .i64, 1, 8, zOf 3⟩ := by kernel_rfl
theorem ti4 : mkTI Tryz.prog 4 = some ⟨.bool, 1, 1, zOf 4⟩ := by kernel_rfl
theorem ti9 : mkTI Tryz.prog 9 = some ⟨.str, 1, 16, zOf 9⟩ := by kernel_rfl
theorem ti22 : mkTI Tryz.prog 22 = some ⟨.slice 76 2 40, 1, 24, zOf 22⟩ := by kernel_rfl
theorem ti23 : mkTI Tryz.prog 23 = some ⟨.slice 36 7 160, 1, 24, zOf 23⟩ := by kernel_rfl
theorem ti25 : mkTI Tryz.prog 25 = some ⟨.struct [(0, 1, false), (1, 1, false)], 2, 48, zOf 25⟩ := by kernel_rfl
theorem ti28 : mkTI Tryz.prog 28 = some ⟨.int .i64, 1, 8, zOf 28⟩ := by kernel_rfl
theorem ti30 : mkTI Tryz.prog 30 = some ⟨.slice 40 1 24, 1, 24, zOf 30⟩ := by kernel_rfl
theorem ti31 : mkTI Tryz.prog 31 = some ⟨.slice 46 3 48, 1, 24, zOf 31⟩ := by kernel_rfl
theorem ti32 : mkTI Tryz.prog 32 = some ⟨.slice 103 3 32, 1, 24, zOf 32⟩ := by kernel_rfl
theorem ti33 : mkTI Tryz.prog 33 = some ⟨.slice 106 2 32, 1, 24, zOf 33⟩ := by kernel_rfl
theorem ti34 : mkTI Tryz.prog 34 = some ⟨.slice 74 12 176, 1, 24, zOf 34⟩ := by kernel_rfl
theorem ti36 : mkTI Tryz.prog 36 = some ⟨.struct [(0, 1, false), (1, 1, false), (2, 1, false), (3, 1, false), (4, 1, false), (5, 1, false), (6, 1, false)], 7, 160, zOf 36⟩ := by kernel_rfl
theorem ti37 : mkTI Tryz.prog 37 = some ⟨.ptr, 1, 8, zOf 37⟩ := by kernel_rfl
theorem ti40 : mkTI Tryz.prog 40 = some ⟨.slice 3 1 8, 1, 24, zOf 40⟩ := by kernel_rfl
theorem ti44 : mkTI Tryz.prog 44 = some ⟨.slice 156 3 32, 1, 24, zOf 44⟩ := by kernel_rfl
theorem ti46 : mkTI Tryz.prog 46 = some ⟨.struct [(0, 1, false), (1, 1, false), (2, 1, false)], 3, 48, zOf 46⟩ := by kernel_rfl
theorem ti49 : mkTI Tryz.prog 49 = some ⟨.ptr, 1, 8, zOf 49⟩ := by kernel_rfl
theorem ti59 : mkTI Tryz.prog 59 = some ⟨.slice 66 8 184, 1, 24, zOf 59⟩ := by kernel_rfl
theorem ti61 : mkTI Tryz.prog 61 = some ⟨.struct [(0, 1, false), (1, 1, false)], 2, 48, zOf 61⟩ := by kernel_rfl
theorem ti62 : mkTI Tryz.prog 62 = some ⟨.slice 172 7 96, 1, 24, zOf 62⟩ := by kernel_rfl
theorem ti63 : mkTI Tryz.prog 63 = some ⟨.slice 175 1 24, 1, 24, zOf 63⟩ := by kernel_rfl
theorem ti64 : mkTI Tryz.prog 64 = some ⟨.slice 70 6 72, 1, 24, zOf 64⟩ := by kernel_rfl
theorem ti66 : mkTI Tryz.prog 66 = some ⟨.struct [(0, 1, false), (1, 1, false), (2, 1, false), (3, 1, false), (4, 1, false), (5, 1, false), (6, 1, false), (7, 1, false)], 8, 184, zOf 66⟩ := by kernel_rfl
theorem ti70 : mkTI Tryz.prog 70 = some ⟨.struct [(0, 1, false), (1, 1, false), (2, 1, false), (3, 1, false), (4, 1, false), (5, 1, false)], 6, 72, zOf 70⟩ := by kernel_rfl
theorem ti71 : mkTI Tryz.prog 71 = some ⟨.slice 9 1 16, 1, 24, zOf 71⟩ := by kernel_rfl
theorem ti72 : mkTI Tryz.prog 72 = some ⟨.slice 34 1 24, 1, 24, zOf 72⟩ := by kernel_rfl
theorem ti74 : mkTI Tryz.prog 74 = some ⟨.struct [(0, 1, false), (1, 1, false), (2, 1, false), (3, 6, true), (9, 1, false), (10, 1, false), (11, 1, false)], 12, 176, zOf 74⟩ := by kernel_rfl
theorem ti76 : mkTI Tryz.prog 76 = some ⟨.struct [(0, 1, false), (1, 1, false)], 2, 40, zOf 76⟩ := by kernel_rfl
theorem ti77 : mkTI Tryz.prog 77 = some ⟨.ptr, 1, 8, zOf 77⟩ := by kernel_rfl
theorem ti81 : mkTI Tryz.prog 81 = some ⟨.slice 195 2 24, 1, 24, zOf 81⟩ := by kernel_rfl
theorem ti83 : mkTI Tryz.prog 83 = some ⟨.struct [(0, 2, true), (2, 7, true), (9, 1, false), (10, 1, false)], 11, 256, zOf 83⟩ := by kernel_rfl
theorem ti89 : mkTI Tryz.prog 89 = some ⟨.map 9 3, 1, 8, zOf 89⟩ := by kernel_rfl
theorem ti90 : mkTI Tryz.prog 90 = some ⟨.map 9 37, 1, 8, zOf 90⟩ := by kernel_rfl
theorem ti92 : mkTI Tryz.prog 92 = some ⟨.struct [(0, 1, false), (1, 7, true), (8, 1, false), (9, 1, false)], 10, 200, zOf 92⟩ := by kernel_rfl
theorem ti103 : mkTI Tryz.prog 103 = some ⟨.struct [(0, 1, false), (1, 1, false), (2, 1, false)], 3, 32, zOf 103⟩ := by kernel_rfl
theorem ti106 : mkTI Tryz.prog 106 = some ⟨.struct [(0, 1, false), (1, 1, false)], 2, 32, zOf 106⟩ := by kernel_rfl
theorem ti113 : mkTI Tryz.prog 113 = some ⟨.slice 49 1 8, 1, 24, zOf 113⟩ := by kernel_rfl
theorem ti115 : mkTI Tryz.prog 115 = some ⟨.struct [(0, 2, true), (2, 7, true), (9, 1, false), (10, 1, false)], 11, 256, zOf 115⟩ := by kernel_rfl
theorem ti124 : mkTI Tryz.prog 124 = some ⟨.map 9 4, 1, 8, zOf 124⟩ := by kernel_rfl
theorem ti125 : mkTI Tryz.prog 125 = some ⟨.map 9 36, 1, 8, zOf 125⟩ := by kernel_rfl
theorem ti127 : mkTI Tryz.prog 127 = some ⟨.struct [(0, 1, false), (1, 1, false), (2, 7, true), (9, 1, false), (10, 1, false), (11, 1, false), (12, 1, false)], 13, 240, zOf 127⟩ := by kernel_rfl
theorem ti128 : mkTI Tryz.prog 128 = some ⟨.array 2 31 1 false, 2, 48, zOf 128⟩ := by kernel_rfl
theorem ti132 : mkTI Tryz.prog 132 = some ⟨.slice 214 2 24, 1, 24, zOf 132⟩ := by kernel_rfl
theorem ti134 : mkTI Tryz.prog 134 = some ⟨.struct [(0, 1, false), (1, 1, false)], 2, 48, zOf 134⟩ := by kernel_rfl
theorem ti149 : mkTI Tryz.prog 149 = some ⟨.struct [(0, 1, false), (1, 1, false)], 2, 16, zOf 149⟩ := by kernel_rfl
theorem ti156 : mkTI Tryz.prog 156 = some ⟨.struct [(0, 1, false), (1, 1, false), (2, 1, false)], 3, 32, zOf 156⟩ := by kernel_rfl
theorem ti166 : mkTI Tryz.prog 166 = some ⟨.ptr, 1, 8, zOf 166⟩ := by kernel_rfl
theorem ti168 : mkTI Tryz.prog 168 = some ⟨.struct [(0, 1, false), (1, 1, false), (2, 1, false)], 3, 56, zOf 168⟩ := by kernel_rfl
theorem ti172 : mkTI Tryz.prog 172 = some ⟨.struct [(0, 1, false), (1, 6, true)], 7, 96, zOf 172⟩ := by kernel_rfl
theorem ti173 : mkTI Tryz.prog 173 = some ⟨.slice 178 6 136, 1, 24, zOf 173⟩ := by kernel_rfl
theorem ti175 : mkTI Tryz.prog 175 = some ⟨.struct [(0, 1, false)], 1, 24, zOf 175⟩ := by kernel_rfl
theorem ti176 : mkTI Tryz.prog 176 = some ⟨.slice 202 8 88, 1, 24, zOf 176⟩ := by kernel_rfl
theorem ti178 : mkTI Tryz.prog 178 = some ⟨.struct [(0, 1, false), (1, 1, false), (2, 1, false), (3, 1, false), (4, 1, false), (5, 1, false)], 6, 136, zOf 178⟩ := by kernel_rfl
theorem ti180 : mkTI Tryz.prog 180 = some ⟨.array 3 31 1 false, 3, 72, zOf 180⟩ := by kernel_rfl
theorem ti195 : mkTI Tryz.prog 195 = some ⟨.struct [(0, 1, false), (1, 1, false)], 2, 24, zOf 195⟩ := by kernel_rfl
theorem ti202 : mkTI Tryz.prog 202 = some ⟨.struct [(0, 6, true), (6, 1, false), (7, 1, false)], 8, 88, zOf 202⟩ := by kernel_rfl
theorem ti214 : mkTI Tryz.prog 214 = some ⟨.struct [(0, 1, false), (1, 1, false)], 2, 24, zOf 214⟩ := by kernel_rfl
theorem ti234 : mkTI Tryz.prog 234 = some ⟨.int .i16, 1, 2, zOf 234⟩ := by kernel_rfl
theorem zz3 : zOf 3 = some [.d (.int .i64 0)] := by kernel_rfl
theorem zz4 : zOf 4 = some [.d (.bool false)] := by kernel_rfl
theorem zz9 : zOf 9 = some [.d (.str [])] := by kernel_rfl
theorem zz22 : zOf 22 = some [.full []] := by kernel_rfl
theorem zz23 : zOf 23 = some [.full []] := by kernel_rfl
theorem zz25 : zOf 25 = some [.full [], .full []] := by kernel_rfl
theorem zz28 : zOf 28 = some [.d (.int .i64 0)] := by kernel_rfl
theorem zz30 : zOf 30 = some [.full []] := by kernel_rfl
theorem zz31 : zOf 31 = some [.full []] := by kernel_rfl
theorem zz32 : zOf 32 = some [.full []] := by kernel_rfl
theorem zz33 : zOf 33 = some [.full []] := by kernel_rfl
theorem zz34 : zOf 34 = some [.full []] := by kernel_rfl
theorem zz36 : zOf 36 = some [.d (.str []), .full [], .full [], .full [], .full [], .full [], .full []] := by kernel_rfl
theorem zz37 : zOf 37 = some [.con (.pointer none)] := by kernel_rfl
theorem zz40 : zOf 40 = some [.full []] := by kernel_rfl
theorem zz44 : zOf 44 = some [.full []] := by kernel_rfl
theorem zz46 : zOf 46 = some [.d (.str []), .d (.int .i64 0), .full []] := by kernel_rfl
theorem zz49 : zOf 49 = some [.con (.pointer none)] := by kernel_rfl
theorem zz59 : zOf 59 = some [.full []] := by kernel_rfl
theorem zz61 : zOf 61 = some [.full [], .full []] := by kernel_rfl
theorem zz62 : zOf 62 = some [.full []] := by kernel_rfl
theorem zz63 : zOf 63 = some [.full []] := by kernel_rfl
theorem zz64 : zOf 64 = some [.full []] := by kernel_rfl
theorem zz66 : zOf 66 = some [.d (.str []), .full [], .full [], .full [], .full [], .full [], .full [], .full []] := by kernel_rfl
theorem zz70 : zOf 70 = some [.d (.int .i64 0), .d (.int .i64 0), .d (.int .i64 0), .d (.int .i64 0), .d (.str []), .full []] := by kernel_rfl
theorem zz71 : zOf 71 = some [.full []] := by kernel_rfl
theorem zz72 : zOf 72 = some [.full []] := by kernel_rfl
theorem zz74 : zOf 74 = some [.d (.int .i64 0), .d (.str []), .d (.int .i64 0), .d (.int .i64 0), .d (.int .i64 0), .d (.int .i64 0), .d (.int .i64 0), .d (.str []), .full [], .full [], .full [], .full []] := by kernel_rfl
theorem zz76 : zOf 76 = some [.d (.str []), .full []] := by kernel_rfl
theorem zz77 : zOf 77 = some [.con (.pointer none)] := by kernel_rfl
theorem zz81 : zOf 81 = some [.full []] := by kernel_rfl
theorem zz83 : zOf 83 = some [.full [], .full [], .d (.str []), .full [], .full [], .full [], .full [], .full [], .full [], .full [], .full []] := by kernel_rfl
theorem zz89 : zOf 89 = some [.con (.map none)] := by kernel_rfl
theorem zz90 : zOf 90 = some [.con (.map none)] := by kernel_rfl
theorem zz92 : zOf 92 = some [.full [], .d (.str []), .full [], .full [], .full [], .full [], .full [], .full [], .con (.map none), .con (.map none)] := by kernel_rfl
theorem zz103 : zOf 103 = some [.d (.str []), .d (.int .i64 0), .d (.int .i64 0)] := by kernel_rfl
theorem zz106 : zOf 106 = some [.d (.str []), .d (.str [])] := by kernel_rfl
theorem zz113 : zOf 113 = some [.full []] := by kernel_rfl
theorem zz115 : zOf 115 = some [.full [], .full [], .d (.str []), .full [], .full [], .full [], .full [], .full [], .full [], .full [], .full []] := by kernel_rfl
theorem zz124 : zOf 124 = some [.con (.map none)] := by kernel_rfl
theorem zz125 : zOf 125 = some [.con (.map none)] := by kernel_rfl
theorem zz127 : zOf 127 = some [.full [], .full [], .d (.str []), .full [], .full [], .full [], .full [], .full [], .full [], .con (.map none), .con (.map none), .con (.map none), .con (.map none)] := by kernel_rfl
theorem zz128 : zOf 128 = some [.full [], .full []] := by kernel_rfl
theorem zz132 : zOf 132 = some [.full []] := by kernel_rfl
theorem zz134 : zOf 134 = some [.full [], .full []] := by kernel_rfl
theorem zz149 : zOf 149 = some [.con (.pointer none), .con (.map none)] := by kernel_rfl
theorem zz156 : zOf 156 = some [.d (.str []), .d (.int .i64 0), .d (.int .i64 0)] := by kernel_rfl
theorem zz166 : zOf 166 = some [.con (.pointer none)] := by kernel_rfl
theorem zz168 : zOf 168 = some [.con (.pointer none), .full [], .full []] := by kernel_rfl
theorem zz172 : zOf 172 = some [.full [], .d (.int .i64 0), .d (.int .i64 0), .d (.int .i64 0), .d (.int .i64 0), .d (.str []), .full []] := by kernel_rfl
theorem zz173 : zOf 173 = some [.full []] := by kernel_rfl
theorem zz175 : zOf 175 = some [.full []] := by kernel_rfl
theorem zz176 : zOf 176 = some [.full []] := by kernel_rfl
theorem zz178 : zOf 178 = some [.d (.str []), .full [], .full [], .full [], .full [], .full []] := by kernel_rfl
theorem zz180 : zOf 180 = some [.full [], .full [], .full []] := by kernel_rfl
theorem zz195 : zOf 195 = some [.d (.str []), .d (.int .i64 0)] := by kernel_rfl
theorem zz202 : zOf 202 = some [.d (.int .i64 0), .d (.int .i64 0), .d (.int .i64 0), .d (.int .i64 0), .d (.str []), .full [], .d (.int .i64 0), .d (.bool false)] := by kernel_rfl
theorem zz214 : zOf 214 = some [.d (.str []), .d (.int .i64 0)] := by kernel_rfl
theorem zz234 : zOf 234 = some [.d (.int .i16 0)] := by kernel_rfl
attribute [simp] ti3 ti4 ti9 ti22 ti23 ti25 ti28 ti30 ti31 ti32 ti33 ti34 ti36 ti37 ti40 ti44 ti46 ti49 ti59 ti61 ti62 ti63 ti64 ti66 ti70 ti71 ti72 ti74 ti76 ti77 ti81 ti83 ti89 ti90 ti92 ti103 ti106 ti113 ti115 ti124 ti125 ti127 ti128 ti132 ti134 ti149 ti156 ti166 ti168 ti172 ti173 ti175 ti176 ti178 ti180 ti195 ti202 ti214 ti234
attribute [simp] zz3 zz4 zz9 zz22 zz23 zz25 zz28 zz30 zz31 zz32 zz33 zz34 zz36 zz37 zz40 zz44 zz46 zz49 zz59 zz61 zz62 zz63 zz64 zz66 zz70 zz71 zz72 zz74 zz76 zz77 zz81 zz83 zz89 zz90 zz92 zz103 zz106 zz113 zz115 zz124 zz125 zz127 zz128 zz132 zz134 zz149 zz156 zz166 zz168 zz172 zz173 zz175 zz176 zz178 zz180 zz195 zz202 zz214 zz234

theorem so156 : structOffs Tryz.prog 156 = some [(0, .str), (1, .int), (2, .int)] := by kernel_rfl
theorem so103 : structOffs Tryz.prog 103 = some [(0, .str), (1, .int), (2, .int)] := by kernel_rfl
theorem so106 : structOffs Tryz.prog 106 = some [(0, .str), (1, .str)] := by kernel_rfl
theorem prim_Ob (f : Nat) : Ob.cfg.prim f = Ob.prim f := rfl
theorem thr_Ob (f : Nat) : Ob.cfg.thr f = Ob.thr f := rfl
theorem fz_Ob (f r : Nat) : Ob.cfg.fz f r = Ob.fz f r := rfl
theorem own_Ob (f : Nat) : Ob.cfg.own f = Ob.own f := rfl
theorem keep_Ob (f r : Nat) : Ob.cfg.keep f r = Ob.keep f r := rfl
theorem mat_Ob (f r : Nat) : Ob.cfg.mat f r = Ob.mat f r := rfl
theorem rowsOf_osl (look : Look) (sz id g off len sz' : Nat) (cap : Option Nat) : rowsOf look sz (.osl id g off len sz' cap) = match live look id g, Nat.beq sz sz' with
    | some o, true => match Nat.ble (off + len * sz) o.cells.length with
      | true => some (len, (o.cells.drop off).take (len * sz), [id])
      | false => none
    | _, _ => none := rfl

attribute [simp] so156 so103 so106 eqRow eqCell prim_Ob Ob.prim thr_Ob Ob.thr closeArgs closeA closeVs close close1 ofD toD V.flat V.flat2 V.flat1 D.flat evalV Env.get constV constV1 putEnv binV intBin strBin boolBin unV
  indexAddrV indexV indexRows ret fieldAddrV fieldV partV loadV readV TI.agg lenV Env.keep nilOpd nilV nilR isEq checkNil
attribute [simp] opP opP0 wantedP step retR live nbeq_self newV cellsV V.one storeV cl1 roOf fz_Ob Ob.fz Hp.get Hp.set Hp.sets addNew idx_lt builtinV
attribute [simp] Hp.trunc_zero nblt_eq Hp.get_set_self Hp.trunc cut own_Ob Ob.own convV envOf
attribute [simp] endR keepSt mats matOne keep_Ob mat_Ob Ob.mat callD rowsOf_osl appendV encI_len encS_len encX_len encY_len encB_len encO_len encD_len encE_len encM_len encJ_len encC_len

/-- Are two things equal? -/
noncomputable def eqB {α : Sort _} (a b : α) : Bool := @decide (a = b) (Classical.propDecidable _)
theorem eqB_self {α : Sort _} (a : α) : eqB a a = true := by unfold eqB; simp
theorem eqB_true {α : Sort _} {a b : α} (h : a = b) : eqB a b = true := by subst h; exact eqB_self a
theorem eqB_false {α : Sort _} {a b : α} (h : a ≠ b) : eqB a b = false := by unfold eqB; simp [h]
theorem eqB_comm {α : Sort _} (a b : α) : eqB a b = eqB b a := by
  by_cases h : a = b
  · subst h; rfl
  · rw [eqB_false h, eqB_false (Ne.symm h)]
end Go.Ac
end

section
set_option maxRecDepth 4000
set_option linter.unusedSimpArgs false
set_option linter.unusedVariables false
namespace Go.Ac
open Go.Proofs Go.ChangeShapes Go.WideShapes Go.RowKit
open Go.Proofs.YtkgekafdhehleaaGreat.Rows (uptoBulk uptoBulkAll)

abbrev noB : Nat → Prop := fun _ => False

def RDs (w : World) (ds : List D) (cs : List Value) : Prop := ds.length = cs.length ∧ ∀ (j : Nat) d v, ds[j]? = some d → cs[j]? = some v → RD w noB d v

theorem bulk_pos {H : Type} (d : DataW H) : 1 ≤ uptoBulk d := by
  cases d with
  | lit l => cases l <;> simp [uptoBulk]
  | nil => simp [uptoBulk]
  | ptr d => simp [uptoBulk]
  | slice elems spare => simp [uptoBulk]
  | agg parts => simp [uptoBulk]
  | iface t d => simp [uptoBulk]
  | map entries => simp [uptoBulk]
  | held h => simp [uptoBulk]

section
variable {H : Type} {enc : TypeId × Value → H} {w : World}

theorem choose_list {α : Type} [Inhabited α] (p : Nat → α → Prop) (n : Nat) (h : ∀ i, i < n → ∃ x, p i x) : ∃ l : List α, l.length = n ∧ ∀ i x, l[i]? = some x → p i x := by
  have : ∀ i, ∃ x, i < n → p i x := fun i => by
    by_cases hi : i < n
    · obtain ⟨x, hx⟩ := h i hi; exact ⟨x, fun _ => hx⟩
    · exact ⟨default, fun h => absurd h hi⟩
  obtain ⟨f, hf⟩ := Classical.axiomOfChoice this
  refine ⟨(List.range n).map f, by simp, fun i x hi => ?_⟩
  rw [List.getElem?_map] at hi
  by_cases hin : i < n
  · rw [List.getElem?_range hin] at hi
    simp at hi
    subst hi
    exact hf i hin
  · rw [List.getElem?_eq_none (by simp; omega)] at hi
    simp at hi

theorem sum_le {α : Type} (sz : α → Nat) (K : Nat) : ∀ (l : List α) (es : List (DataW H × List MemPlace)), l.length = es.length → (∀ (i : Nat) x e, l[i]? = some x → es[i]? = some e → sz x ≤ K * uptoBulk e.1) → (l.map sz).sum ≤ K * uptoBulkAll (es.map (·.1))
  | [], es, h, _ => by simp
  | x :: l, [], h, _ => by simp at h
  | x :: l, e :: es, h, hi => by
    have h1 := hi 0 x e rfl rfl
    have h2 := sum_le sz K l es (by simpa using h) (fun i x e hx he => hi (i + 1) x e (by simpa using hx) (by simpa using he))
    simp only [List.map_cons, List.sum_cons, uptoBulkAll, Nat.mul_add]
    omega

theorem open_list {α : Type} [Inhabited α] (en : α → List D) (sz : α → Nat) (Pr : α → Prop) (K n : Nat) {t e fuel : Nat} {cs : List Value} {x : DataW H × List MemPlace} (ht : Tryz.prog.underlying t = some (.slice e)) (hc : Tryz.prog.cellsOf e = n) (hn : 0 < n) (hlen : ∀ y, (en y).length = n)
    (hel : ∀ fuel', fuel' < fuel → ∀ cs x, DataW.trod enc Tryz.prog w 0 (fun _ => true) true fuel' e cs = some x → ∃ y, RDs w (en y) cs ∧ sz y ≤ K * uptoBulk x.1 ∧ Pr y)
    (h : DataW.trod enc Tryz.prog w 0 (fun _ => true) true fuel t cs = some x) : ∃ (l : List α) (v : Value), cs = [v] ∧ RD w noB (.slice (l.map en)) v ∧ (l.map sz).sum ≤ K * (uptoBulk x.1 - 1) ∧ (∀ y, y ∈ l → Pr y) ∧ l.length ≤ uptoBulk x.1 - 1 := by
  rcases DataW.trod_slice ht h with ⟨rfl, rfl⟩ | ⟨a, len, cap, elems, rest, m, rfl, rfl, rfl, hb, hl, hm, hlen2, hel2, _, _⟩
  · exact ⟨[], _, rfl, .empty none 0 (Nat.zero_le _), by simp, fun y hy => (by cases hy), Nat.zero_le _⟩
  · rw [hc] at hel2
    have key : ∀ i, i < len → ∃ y : α, ∃ cs e, w.cells? 0 (a.add (i * n)) n = some cs ∧ elems[i]? = some e ∧ RDs w (en y) cs ∧ sz y ≤ K * uptoBulk e.1 ∧ Pr y := fun i hi => by
      have h1 := hel2 i hi
      rw [List.getElem?_eq_getElem (by omega)] at h1
      obtain ⟨cs, h2, h3⟩ := Option.bind_eq_some_iff.1 h1
      obtain ⟨y, h4, h5, h6⟩ := hel m (by omega) _ _ h3
      exact ⟨y, cs, _, h2, List.getElem?_eq_getElem (by omega), h4, h5, h6⟩
    obtain ⟨l, hll, hl2⟩ := choose_list _ len key
    refine ⟨l, _, rfl, ?_, ?_, ?_, ?_⟩
    · by_cases h0 : len = 0
      · subst h0
        have : l = [] := List.length_eq_zero_iff.1 hll
        subst this
        exact .empty _ _ hm
      · have hspot : a.spot = none := by
          obtain ⟨y, cs, e, h1, _⟩ := key 0 (by omega)
          obtain ⟨_, h2, h3⟩ := World.cells?_some h1
          have h4 := h3 0 hn
          rw [List.getElem?_eq_getElem (by omega)] at h4
          simp only [Nat.zero_mul, Addr.add, if_pos] at h4
          unfold World.cell? at h4
          split at h4
          · split at h4
            · cases h4
            · rename_i hs; simpa using hs
          · cases h4
        obtain ⟨b, off, sp⟩ := a
        simp only at hspot
        subst hspot
        have hadd : ∀ o k, (Addr.mk b o none).add k = ⟨b, o + k, none⟩ := fun o k => by
          unfold Addr.add
          split
          · rename_i hk; subst hk; rfl
          · rfl
        have hcell : ∀ (i j : Nat) (r : List D) (d : D), (l.map en)[i]? = some r → r[j]? = some d → ∃ v, w.cell? ⟨b, off + (i * n + j), none⟩ = some v ∧ RD w noB d v := fun i j r d hr hd => by
          rw [List.getElem?_map, Option.map_eq_some_iff] at hr
          obtain ⟨y, hy, rfl⟩ := hr
          obtain ⟨cs, e, h1, _, h3, _, _⟩ := hl2 i y hy
          obtain ⟨_, h4, h5⟩ := World.cells?_some h1
          have hj : j < n := by
            have := (List.getElem?_eq_some_iff.1 hd).1
            rwa [hlen] at this
          have h6 := h5 j hj
          rw [hadd, hadd, List.getElem?_eq_getElem (by omega)] at h6
          rw [Nat.add_assoc] at h6
          have h7 : j < cs.length := by omega
          exact ⟨cs[j], h6, h3.2 j d _ hd (List.getElem?_eq_getElem h7)⟩
        rw [show len = (l.map en).length by simp [hll]]
        have hx : ∀ q : Nat × Nat, ∃ v, ∀ r d, (l.map en)[q.1]? = some r → r[q.2]? = some d → w.cell? ⟨b, off + (q.1 * n + q.2), none⟩ = some v ∧ RD w noB d v := fun q => by
          by_cases hq : ∃ r d, (l.map en)[q.1]? = some r ∧ r[q.2]? = some d
          · obtain ⟨r, d, h1, h2⟩ := hq
            obtain ⟨v, h3, h4⟩ := hcell _ _ r d h1 h2
            refine ⟨v, fun r' d' h1' h2' => ?_⟩
            rw [h1] at h1'
            obtain rfl := Option.some.inj h1'
            rw [h2] at h2'
            obtain rfl := Option.some.inj h2'
            exact ⟨h3, h4⟩
          · exact ⟨default, fun r d h1 h2 => absurd ⟨r, d, h1, h2⟩ hq⟩
        obtain ⟨f, hf⟩ := Classical.axiomOfChoice hx
        refine .slice (l.map en) b off cap n (by simp [hll]; exact hl) hm (fun i r hr => ?_) (fun i j => f (i, j)) (fun i j r d hr hd => ⟨fun h => h, (hf (i, j) r d hr hd).1⟩) (fun i j r d hr hd => (hf (i, j) r d hr hd).2)
        rw [List.getElem?_map, Option.map_eq_some_iff] at hr
        obtain ⟨y, _, rfl⟩ := hr
        exact hlen y
    · have := sum_le sz K l elems (by omega) (fun i x e hx he => by
        obtain ⟨cs, e', h1, h2, h3, h4, _⟩ := hl2 i x hx
        rw [h2] at he
        obtain rfl := Option.some.inj he
        exact h4)
      refine Nat.le_trans this (Nat.mul_le_mul_left K ?_)
      simp only [uptoBulk]
      omega
    · intro y hy
      obtain ⟨i, hi⟩ := List.mem_iff_getElem?.1 hy
      obtain ⟨_, _, _, _, _, _, h⟩ := hl2 i y hi
      exact h
    · have h1 : ∀ es : List (DataW H × List MemPlace), es.length ≤ uptoBulkAll (es.map (·.1)) := fun es => by
        induction es with
        | nil => simp [uptoBulkAll]
        | cons a r ih => have := bulk_pos a.1; simp only [List.map_cons, uptoBulkAll, List.length_cons]; omega
      have := h1 elems
      simp only [uptoBulk]
      omega


theorem cz3 : Tryz.prog.cellsOf 3 = 1 := by kernel_rfl
theorem cz9 : Tryz.prog.cellsOf 9 = 1 := by kernel_rfl
theorem cz22 : Tryz.prog.cellsOf 22 = 1 := by kernel_rfl
theorem cz23 : Tryz.prog.cellsOf 23 = 1 := by kernel_rfl
theorem cz25 : Tryz.prog.cellsOf 25 = 2 := by kernel_rfl
theorem cz31 : Tryz.prog.cellsOf 31 = 1 := by kernel_rfl
theorem cz32 : Tryz.prog.cellsOf 32 = 1 := by kernel_rfl
theorem cz33 : Tryz.prog.cellsOf 33 = 1 := by kernel_rfl
theorem cz34 : Tryz.prog.cellsOf 34 = 1 := by kernel_rfl
theorem cz36 : Tryz.prog.cellsOf 36 = 7 := by kernel_rfl
theorem cz44 : Tryz.prog.cellsOf 44 = 1 := by kernel_rfl
theorem cz46 : Tryz.prog.cellsOf 46 = 3 := by kernel_rfl
theorem cz64 : Tryz.prog.cellsOf 64 = 1 := by kernel_rfl
theorem cz70 : Tryz.prog.cellsOf 70 = 6 := by kernel_rfl
theorem cz71 : Tryz.prog.cellsOf 71 = 1 := by kernel_rfl
theorem cz72 : Tryz.prog.cellsOf 72 = 1 := by kernel_rfl
theorem cz74 : Tryz.prog.cellsOf 74 = 12 := by kernel_rfl
theorem cz76 : Tryz.prog.cellsOf 76 = 2 := by kernel_rfl
theorem cz103 : Tryz.prog.cellsOf 103 = 3 := by kernel_rfl
theorem cz106 : Tryz.prog.cellsOf 106 = 2 := by kernel_rfl
theorem cz156 : Tryz.prog.cellsOf 156 = 3 := by kernel_rfl
instance : Inhabited X := ⟨.mk 0 0 0 0 [] []⟩
instance : Inhabited Y := ⟨.mk 0 [] 0 (.mk 0 0 0 0 [] []) [] [] []⟩
instance : Inhabited On := ⟨⟨[], 0, 0⟩⟩
instance : Inhabited Dc := ⟨⟨[], 0, []⟩⟩
instance : Inhabited En := ⟨⟨[], []⟩⟩
instance : Inhabited Mm := ⟨⟨[], 0, 0⟩⟩
instance : Inhabited Ii := ⟨⟨[], []⟩⟩
instance : Inhabited Cl := ⟨⟨[], [], [], [], [], [], []⟩⟩
theorem X.cells_len (x : X) : x.cells.length = 6 := by rw [X.cells_eq]; rfl
theorem Y.cells_len (y : Y) : y.cells.length = 12 := by rw [Y.cells_eq]; rfl
theorem RDs.one {d : D} {v : Value} (h : RD w noB d v) : RDs w [d] [v] := ⟨rfl, fun j d' v' h1 h2 => by
  cases j with
  | zero => simp at h1 h2; subst h1; subst h2; exact h
  | succ j => simp at h1⟩
theorem RDs.app {d1 d2 : List D} {v1 v2 : List Value} (h1 : RDs w d1 v1) (h2 : RDs w d2 v2) : RDs w (d1 ++ d2) (v1 ++ v2) := by
  refine ⟨by simp [h1.1, h2.1], fun j d v hd hv => ?_⟩
  by_cases hj : j < d1.length
  · rw [List.getElem?_append_left hj] at hd
    rw [List.getElem?_append_left (by rw [← h1.1]; exact hj)] at hv
    exact h1.2 j d v hd hv
  · rw [List.getElem?_append_right (by omega)] at hd
    rw [List.getElem?_append_right (by rw [← h1.1]; omega), ← h1.1] at hv
    exact h2.2 _ d v hd hv


def I64 (n : Int) : Prop := -9223372036854775808 ≤ n ∧ n ≤ 9223372036854775807
theorem i64_of {n : Int} (h : (Lit.int .i64 n).wf = true) : I64 n := by
  simp [Lit.wf, IntKind.min, IntKind.max, IntKind.signed, IntKind.bits] at h
  unfold I64; omega

/-! Numbers are of sixty-four bits. -/
mutual
def X.ok : X → Prop
  | .mk k o t v _ args => I64 k ∧ I64 o ∧ I64 t ∧ I64 v ∧ okX args
def okX : List X → Prop
  | [] => True
  | x :: r => x.ok ∧ okX r
end
mutual
def Y.ok : Y → Prop
  | .mk k _ t r _ args brs => I64 k ∧ I64 t ∧ r.ok ∧ okX args ∧ okB brs
def okY : List Y → Prop
  | [] => True
  | x :: r => x.ok ∧ okY r
def okB : List (List Y) → Prop
  | [] => True
  | x :: r => okY x ∧ okB r
end
theorem okX_iff : ∀ l : List X, okX l ↔ ∀ x, x ∈ l → x.ok
  | [] => by simp [okX]
  | x :: r => by simp [okX, okX_iff r]
theorem okY_iff : ∀ l : List Y, okY l ↔ ∀ x, x ∈ l → x.ok
  | [] => by simp [okY]
  | x :: r => by simp [okY, okY_iff r]
theorem okB_iff : ∀ l : List (List Y), okB l ↔ ∀ x, x ∈ l → okY x
  | [] => by simp [okB]
  | x :: r => by simp [okB, okB_iff r]
def On.ok (x : On) : Prop := I64 x.t ∧ I64 x.tag
def Dc.ok (x : Dc) : Prop := I64 x.t ∧ ∀ c, c ∈ x.ck → c.ok
def Mm.ok (x : Mm) : Prop := I64 x.t ∧ I64 x.ini
structure Cl.ok (x : Cl) : Prop where
  inn : ∀ d, d ∈ x.inn → d.ok
  out : ∀ d, d ∈ x.out → d.ok
  loc : ∀ d, d ∈ x.loc → d.ok
  mems : ∀ d, d ∈ x.mems → d.ok
  step : okY x.step
def Oc.ok (x : Oc) : Prop := ∀ c, c ∈ x.cl → c.ok

theorem openS {f : Nat} {cs : List Value} {x : DataW H × List MemPlace} (h : DataW.trod enc Tryz.prog w 0 (fun _ => true) true f 71 cs = some x) : ∃ (l : List Tx) (v : Value), cs = [v] ∧ RD w noB (.slice (encS l)) v ∧ szS l ≤ 2 * (uptoBulk x.1 - 1) := by
  obtain ⟨l, v, h1, h2, h3, _, _⟩ := open_list (fun s : Tx => [D.str s]) szT (fun _ => True) 2 1 Tryz.underlying71 cz9 (by omega) (fun _ => rfl) (fun f' hf cs x hx => by
    obtain ⟨s, rfl, rfl, _⟩ := DataW.trod_string Tryz.underlying9 hx
    exact ⟨s.data.toList, .one (.str _ _ rfl), by simp [szT, uptoBulk]; omega, trivial⟩) h
  exact ⟨l, v, h1, h2, h3⟩

theorem openOn {f : Nat} {cs : List Value} {x : DataW H × List MemPlace} (h : DataW.trod enc Tryz.prog w 0 (fun _ => true) true f 156 cs = some x) : ∃ y : On, RDs w y.cells cs ∧ y.sz ≤ 2 * uptoBulk x.1 ∧ y.ok := by
  obtain ⟨xs, n, rfl, rfl, hl, hxl, hx⟩ := DataW.trod_struct Tryz.underlying156 h
  rw [cz156] at hl
  match cs, hl with
  | [v0, v1, v2], _ =>
  have hxn : xs.length = 3 := hxl
  match xs, hxn with
  | [x0, x1, x2], _ =>
  have h0 := hx 0 _ rfl
  have h1 := hx 1 _ rfl
  have h2 := hx 2 _ rfl
  simp [cz3, cz9] at h0 h1 h2
  obtain ⟨n0, e0, rfl, g0⟩ := DataW.trod_string Tryz.underlying9 h0
  obtain ⟨n1, e1, rfl, g1⟩ := DataW.trod_int Tryz.underlying3 h1
  obtain ⟨n2, e2, rfl, g2⟩ := DataW.trod_int Tryz.underlying3 h2
  simp only [List.cons.injEq, and_true] at e0 e1 e2
  subst e0 e1 e2
  refine ⟨⟨n0.data.toList, n1, n2⟩, ?_, ?_, ⟨i64_of g1, i64_of g2⟩⟩
  · simp only [On.cells]
    exact (RDs.app (v1 := [_]) (.one (.str _ _ rfl)) (RDs.app (v1 := [_]) (.one (.int _ _)) (.one (.int _ _))))
  · simp only [On.sz, szT, uptoBulk, uptoBulkAll, List.map_cons, List.map_nil]
    omega

theorem openO {f : Nat} {cs : List Value} {x : DataW H × List MemPlace} (h : DataW.trod enc Tryz.prog w 0 (fun _ => true) true f 44 cs = some x) : ∃ (l : List On) (v : Value), cs = [v] ∧ RD w noB (.slice (encO l)) v ∧ szO l ≤ 2 * (uptoBulk x.1 - 1) ∧ ∀ y, y ∈ l → y.ok := by
  obtain ⟨l, v, h1, h2, h3, h4, _⟩ := open_list On.cells On.sz (fun y => y.ok) 2 3 Tryz.underlying44 cz156 (by omega) (fun _ => rfl) (fun f' hf cs x hx => openOn hx) h
  exact ⟨l, v, h1, h2, h3, h4⟩

theorem openDc {f : Nat} {cs : List Value} {x : DataW H × List MemPlace} (h : DataW.trod enc Tryz.prog w 0 (fun _ => true) true f 46 cs = some x) : ∃ y : Dc, RDs w y.cells cs ∧ y.sz ≤ 2 * uptoBulk x.1 ∧ y.ok := by
  obtain ⟨xs, n, rfl, rfl, hl, hxl, hx⟩ := DataW.trod_struct Tryz.underlying46 h
  rw [cz46] at hl
  match cs, hl with
  | [v0, v1, v2], _ =>
  have hxn : xs.length = 3 := hxl
  match xs, hxn with
  | [x0, x1, x2], _ =>
  have h0 := hx 0 _ rfl
  have h1 := hx 1 _ rfl
  have h2 := hx 2 _ rfl
  simp [cz3, cz9, cz44] at h0 h1 h2
  obtain ⟨n0, e0, rfl, g0⟩ := DataW.trod_string Tryz.underlying9 h0
  obtain ⟨n1, e1, rfl, g1⟩ := DataW.trod_int Tryz.underlying3 h1
  obtain ⟨n2, w2, e2, r2, s2, g2⟩ := openO h2
  simp only [List.cons.injEq, and_true] at e0 e1 e2
  subst e0 e1 e2
  refine ⟨⟨n0.data.toList, n1, n2⟩, ?_, ?_, ⟨i64_of g1, g2⟩⟩
  · simp only [Dc.cells]
    exact (RDs.app (v1 := [_]) (.one (.str _ _ rfl)) (RDs.app (v1 := [_]) (.one (.int _ _)) (.one r2)))
  · have b2 := bulk_pos x2.1
    simp only [Dc.sz, szT, uptoBulk, uptoBulkAll, List.map_cons, List.map_nil]
    omega

theorem openD {f : Nat} {cs : List Value} {x : DataW H × List MemPlace} (h : DataW.trod enc Tryz.prog w 0 (fun _ => true) true f 31 cs = some x) : ∃ (l : List Dc) (v : Value), cs = [v] ∧ RD w noB (.slice (encD l)) v ∧ szD l ≤ 2 * (uptoBulk x.1 - 1) ∧ ∀ y, y ∈ l → y.ok := by
  obtain ⟨l, v, h1, h2, h3, h4, _⟩ := open_list Dc.cells Dc.sz (fun y => y.ok) 2 3 Tryz.underlying31 cz46 (by omega) (fun _ => rfl) (fun f' hf cs x hx => openDc hx) h
  exact ⟨l, v, h1, h2, h3, h4⟩

theorem openEn {f : Nat} {cs : List Value} {x : DataW H × List MemPlace} (h : DataW.trod enc Tryz.prog w 0 (fun _ => true) true f 76 cs = some x) : ∃ y : En, RDs w y.cells cs ∧ y.sz ≤ 2 * uptoBulk x.1 ∧ True := by
  obtain ⟨xs, n, rfl, rfl, hl, hxl, hx⟩ := DataW.trod_struct Tryz.underlying76 h
  rw [cz76] at hl
  match cs, hl with
  | [v0, v1], _ =>
  have hxn : xs.length = 2 := hxl
  match xs, hxn with
  | [x0, x1], _ =>
  have h0 := hx 0 _ rfl
  have h1 := hx 1 _ rfl
  simp [cz9, cz71] at h0 h1
  obtain ⟨n0, e0, rfl, g0⟩ := DataW.trod_string Tryz.underlying9 h0
  obtain ⟨n1, w1, e1, r1, s1⟩ := openS h1
  simp only [List.cons.injEq, and_true] at e0 e1
  subst e0 e1
  refine ⟨⟨n0.data.toList, n1⟩, ?_, ?_, trivial⟩
  · simp only [En.cells]
    exact (RDs.app (v1 := [_]) (.one (.str _ _ rfl)) (.one r1))
  · have b1 := bulk_pos x1.1
    simp only [En.sz, szT, uptoBulk, uptoBulkAll, List.map_cons, List.map_nil]
    omega

theorem openE {f : Nat} {cs : List Value} {x : DataW H × List MemPlace} (h : DataW.trod enc Tryz.prog w 0 (fun _ => true) true f 22 cs = some x) : ∃ (l : List En) (v : Value), cs = [v] ∧ RD w noB (.slice (encE l)) v ∧ szE l ≤ 2 * (uptoBulk x.1 - 1) ∧ ∀ y, y ∈ l → True := by
  obtain ⟨l, v, h1, h2, h3, h4, _⟩ := open_list En.cells En.sz (fun y => True) 2 2 Tryz.underlying22 cz76 (by omega) (fun _ => rfl) (fun f' hf cs x hx => openEn hx) h
  exact ⟨l, v, h1, h2, h3, h4⟩

theorem openMm {f : Nat} {cs : List Value} {x : DataW H × List MemPlace} (h : DataW.trod enc Tryz.prog w 0 (fun _ => true) true f 103 cs = some x) : ∃ y : Mm, RDs w y.cells cs ∧ y.sz ≤ 2 * uptoBulk x.1 ∧ y.ok := by
  obtain ⟨xs, n, rfl, rfl, hl, hxl, hx⟩ := DataW.trod_struct Tryz.underlying103 h
  rw [cz103] at hl
  match cs, hl with
  | [v0, v1, v2], _ =>
  have hxn : xs.length = 3 := hxl
  match xs, hxn with
  | [x0, x1, x2], _ =>
  have h0 := hx 0 _ rfl
  have h1 := hx 1 _ rfl
  have h2 := hx 2 _ rfl
  simp [cz3, cz9] at h0 h1 h2
  obtain ⟨n0, e0, rfl, g0⟩ := DataW.trod_string Tryz.underlying9 h0
  obtain ⟨n1, e1, rfl, g1⟩ := DataW.trod_int Tryz.underlying3 h1
  obtain ⟨n2, e2, rfl, g2⟩ := DataW.trod_int Tryz.underlying3 h2
  simp only [List.cons.injEq, and_true] at e0 e1 e2
  subst e0 e1 e2
  refine ⟨⟨n0.data.toList, n1, n2⟩, ?_, ?_, ⟨i64_of g1, i64_of g2⟩⟩
  · simp only [Mm.cells]
    exact (RDs.app (v1 := [_]) (.one (.str _ _ rfl)) (RDs.app (v1 := [_]) (.one (.int _ _)) (.one (.int _ _))))
  · simp only [Mm.sz, szT, uptoBulk, uptoBulkAll, List.map_cons, List.map_nil]
    omega

theorem openM {f : Nat} {cs : List Value} {x : DataW H × List MemPlace} (h : DataW.trod enc Tryz.prog w 0 (fun _ => true) true f 32 cs = some x) : ∃ (l : List Mm) (v : Value), cs = [v] ∧ RD w noB (.slice (encM l)) v ∧ szM l ≤ 2 * (uptoBulk x.1 - 1) ∧ ∀ y, y ∈ l → y.ok := by
  obtain ⟨l, v, h1, h2, h3, h4, _⟩ := open_list Mm.cells Mm.sz (fun y => y.ok) 2 3 Tryz.underlying32 cz103 (by omega) (fun _ => rfl) (fun f' hf cs x hx => openMm hx) h
  exact ⟨l, v, h1, h2, h3, h4⟩

theorem openIi {f : Nat} {cs : List Value} {x : DataW H × List MemPlace} (h : DataW.trod enc Tryz.prog w 0 (fun _ => true) true f 106 cs = some x) : ∃ y : Ii, RDs w y.cells cs ∧ y.sz ≤ 2 * uptoBulk x.1 ∧ True := by
  obtain ⟨xs, n, rfl, rfl, hl, hxl, hx⟩ := DataW.trod_struct Tryz.underlying106 h
  rw [cz106] at hl
  match cs, hl with
  | [v0, v1], _ =>
  have hxn : xs.length = 2 := hxl
  match xs, hxn with
  | [x0, x1], _ =>
  have h0 := hx 0 _ rfl
  have h1 := hx 1 _ rfl
  simp [cz9] at h0 h1
  obtain ⟨n0, e0, rfl, g0⟩ := DataW.trod_string Tryz.underlying9 h0
  obtain ⟨n1, e1, rfl, g1⟩ := DataW.trod_string Tryz.underlying9 h1
  simp only [List.cons.injEq, and_true] at e0 e1
  subst e0 e1
  refine ⟨⟨n0.data.toList, n1.data.toList⟩, ?_, ?_, trivial⟩
  · simp only [Ii.cells]
    exact (RDs.app (v1 := [_]) (.one (.str _ _ rfl)) (.one (.str _ _ rfl)))
  · simp only [Ii.sz, szT, uptoBulk, uptoBulkAll, List.map_cons, List.map_nil]
    omega

theorem openJ {f : Nat} {cs : List Value} {x : DataW H × List MemPlace} (h : DataW.trod enc Tryz.prog w 0 (fun _ => true) true f 33 cs = some x) : ∃ (l : List Ii) (v : Value), cs = [v] ∧ RD w noB (.slice (encJ l)) v ∧ szJ l ≤ 2 * (uptoBulk x.1 - 1) ∧ ∀ y, y ∈ l → True := by
  obtain ⟨l, v, h1, h2, h3, h4, _⟩ := open_list Ii.cells Ii.sz (fun y => True) 2 2 Tryz.underlying33 cz106 (by omega) (fun _ => rfl) (fun f' hf cs x hx => openIi hx) h
  exact ⟨l, v, h1, h2, h3, h4⟩

/-- Expressions and their lists. -/
def OX (w : World) (enc : TypeId × Value → H) (f : Nat) : Prop :=
  (∀ cs x, DataW.trod enc Tryz.prog w 0 (fun _ => true) true f 70 cs = some x → ∃ y : X, RDs w y.cells cs ∧ y.sz ≤ 2 * uptoBulk x.1 ∧ y.ok) ∧
  (∀ cs x, DataW.trod enc Tryz.prog w 0 (fun _ => true) true f 64 cs = some x → ∃ (l : List X) (v : Value), cs = [v] ∧ RD w noB (.slice (encX l)) v ∧ szX l ≤ 2 * (uptoBulk x.1 - 1) ∧ okX l)
theorem openX : ∀ f, OX w enc f := by
  intro f
  induction f using Nat.strongRecOn with
  | ind f ih =>
    constructor
    · intro cs x h
      obtain ⟨xs, n, rfl, rfl, hl, hxl, hx⟩ := DataW.trod_struct Tryz.underlying70 h
      rw [cz70] at hl
      match cs, hl with
      | [v0, v1, v2, v3, v4, v5], _ =>
      have hx6 : xs.length = 6 := hxl
      match xs, hx6 with
      | [x0, x1, x2, x3, x4, x5], _ =>
      have h0 := hx 0 _ rfl
      have h1 := hx 1 _ rfl
      have h2 := hx 2 _ rfl
      have h3 := hx 3 _ rfl
      have h4 := hx 4 _ rfl
      have h5 := hx 5 _ rfl
      simp [cz3, cz9, cz64] at h0 h1 h2 h3 h4 h5
      obtain ⟨n0, e0, rfl, g0⟩ := DataW.trod_int Tryz.underlying3 h0
      obtain ⟨n1, e1, rfl, g1⟩ := DataW.trod_int Tryz.underlying3 h1
      obtain ⟨n2, e2, rfl, g2⟩ := DataW.trod_int Tryz.underlying3 h2
      obtain ⟨n3, e3, rfl, g3⟩ := DataW.trod_int Tryz.underlying3 h3
      obtain ⟨s4, e4, rfl, _⟩ := DataW.trod_string Tryz.underlying9 h4
      obtain ⟨l5, w5, e5, hr5, hs5, ho5⟩ := (ih n (by omega)).2 _ _ h5
      simp only [List.cons.injEq, and_true] at e0 e1 e2 e3 e4 e5
      subst e0 e1 e2 e3 e4 e5
      refine ⟨.mk n0 n1 n2 n3 s4.data.toList l5, ?_, ?_, ?_⟩
      · simp only [X.cells]
        exact RDs.app (.one (.int _ _)) (RDs.app (.one (.int _ _)) (RDs.app (.one (.int _ _)) (RDs.app (.one (.int _ _)) (RDs.app (.one (.str _ _ rfl)) (.one hr5)))))
      · have hb := bulk_pos x5.1
        simp only [X.sz, szT, uptoBulk, uptoBulkAll, List.map_cons, List.map_nil]
        omega
      · simp only [X.ok]
        exact ⟨i64_of g0, i64_of g1, i64_of g2, i64_of g3, ho5⟩
    · intro cs x h
      obtain ⟨l, v, h1, h2, h3, h4, _⟩ := open_list X.cells X.sz X.ok 2 6 Tryz.underlying64 cz70 (by omega) X.cells_len (fun f' hf cs x hx => (ih f' hf).1 cs x hx) h
      exact ⟨l, v, h1, by rw [encX_map]; exact h2, by rw [szX_sum]; exact h3, (okX_iff l).2 h4⟩

/-- Statements, their lists, and the lists of these. -/
def OY (w : World) (enc : TypeId × Value → H) (f : Nat) : Prop :=
  (∀ cs x, DataW.trod enc Tryz.prog w 0 (fun _ => true) true f 74 cs = some x → ∃ y : Y, RDs w y.cells cs ∧ y.sz ≤ 2 * uptoBulk x.1 ∧ y.ok) ∧
  (∀ cs x, DataW.trod enc Tryz.prog w 0 (fun _ => true) true f 34 cs = some x → ∃ (l : List Y) (v : Value), cs = [v] ∧ RD w noB (.slice (encY l)) v ∧ szY l ≤ 2 * (uptoBulk x.1 - 1) ∧ okY l) ∧
  (∀ cs x, DataW.trod enc Tryz.prog w 0 (fun _ => true) true f 72 cs = some x → ∃ (l : List (List Y)) (v : Value), cs = [v] ∧ RD w noB (.slice (encB l)) v ∧ szB l ≤ 2 * (uptoBulk x.1 - 1) ∧ okB l)

theorem openY : ∀ f, OY w enc f := by
  intro f
  induction f using Nat.strongRecOn with
  | ind f ih =>
    refine ⟨?_, ?_, ?_⟩
    · intro cs x h
      obtain ⟨xs, n, rfl, rfl, hl, hxl, hx⟩ := DataW.trod_struct Tryz.underlying74 h
      rw [cz74] at hl
      match cs, hl with
      | [v0, v1, v2, v3, v4, v5, v6, v7, v8, v9, v10, v11], _ =>
      have hx6 : xs.length = 7 := hxl
      match xs, hx6 with
      | [x0, x1, x2, x3, x4, x5, x6], _ =>
      have h0 := hx 0 _ rfl
      have h1 := hx 1 _ rfl
      have h2 := hx 2 _ rfl
      have h3 := hx 3 _ rfl
      have h4 := hx 4 _ rfl
      have h5 := hx 5 _ rfl
      have h6 := hx 6 _ rfl
      simp [cz3, cz9, cz64, cz70, cz71, cz72] at h0 h1 h2 h3 h4 h5 h6
      obtain ⟨n0, e0, rfl, g0⟩ := DataW.trod_int Tryz.underlying3 h0
      obtain ⟨s1, e1, rfl, _⟩ := DataW.trod_string Tryz.underlying9 h1
      obtain ⟨n2, e2, rfl, g2⟩ := DataW.trod_int Tryz.underlying3 h2
      obtain ⟨r3, hr3, hs3, g3⟩ := (openX n).1 _ _ h3
      obtain ⟨l4, w4, e4, hr4, hs4⟩ := openS h4
      obtain ⟨l5, w5, e5, hr5, hs5, g5⟩ := (openX n).2 _ _ h5
      obtain ⟨l6, w6, e6, hr6, hs6, g6⟩ := (ih n (by omega)).2.2 _ _ h6
      simp only [List.cons.injEq, and_true] at e0 e1 e2 e4 e5 e6
      subst e0 e1 e2 e4 e5 e6
      refine ⟨.mk n0 s1.data.toList n2 r3 l4 l5 l6, ?_, ?_, ?_⟩
      · simp only [Y.cells]
        exact RDs.app (v1 := [_, _, _, _, _, _, _, _, _]) (RDs.app (v1 := [_, _, _]) (RDs.app (v1 := [_]) (.one (.int _ _)) (RDs.app (v1 := [_]) (.one (.str _ _ rfl)) (.one (.int _ _)))) hr3) (RDs.app (v1 := [_]) (.one hr4) (RDs.app (v1 := [_]) (.one hr5) (.one hr6)))
      · have b4 := bulk_pos x4.1
        have b5 := bulk_pos x5.1
        have b6 := bulk_pos x6.1
        simp only [Y.sz, szT, uptoBulk, uptoBulkAll, List.map_cons, List.map_nil]
        omega
      · simp only [Y.ok]
        exact ⟨i64_of g0, i64_of g2, g3, g5, g6⟩
    · intro cs x h
      obtain ⟨l, v, h1, h2, h3, h4, _⟩ := open_list Y.cells Y.sz Y.ok 2 12 Tryz.underlying34 cz74 (by omega) Y.cells_len (fun f' hf cs x hx => (ih f' hf).1 cs x hx) h
      exact ⟨l, v, h1, by rw [encY_map]; exact h2, by rw [szY_sum]; exact h3, (okY_iff l).2 h4⟩
    · intro cs x h
      obtain ⟨l, v, h1, h2, h3, h4, _⟩ := open_list (fun b : List Y => [D.slice (encY b)]) (fun b => szY b + 1) okY 2 1 Tryz.underlying72 cz34 (by omega) (fun _ => rfl) (fun f' hf cs x hx => by
        obtain ⟨b, v, rfl, hr, hs, ho⟩ := (ih f' hf).2.1 cs x hx
        have := bulk_pos x.1
        exact ⟨b, .one hr, by omega, ho⟩) h
      exact ⟨l, v, h1, by rw [encB_map]; exact h2, by rw [szB_sum]; exact h3, (okB_iff l).2 h4⟩
theorem openYs {f : Nat} {cs : List Value} {x : DataW H × List MemPlace} (h : DataW.trod enc Tryz.prog w 0 (fun _ => true) true f 34 cs = some x) : ∃ (l : List Y) (v : Value), cs = [v] ∧ RD w noB (.slice (encY l)) v ∧ szY l ≤ 2 * (uptoBulk x.1 - 1) ∧ okY l := (openY f).2.1 _ _ h

theorem openCl {f : Nat} {cs : List Value} {x : DataW H × List MemPlace} (h : DataW.trod enc Tryz.prog w 0 (fun _ => true) true f 36 cs = some x) : ∃ y : Cl, RDs w y.cells cs ∧ y.sz ≤ 2 * uptoBulk x.1 ∧ y.ok := by
  obtain ⟨xs, n, rfl, rfl, hl, hxl, hx⟩ := DataW.trod_struct Tryz.underlying36 h
  rw [cz36] at hl
  match cs, hl with
  | [v0, v1, v2, v3, v4, v5, v6], _ =>
  have hxn : xs.length = 7 := hxl
  match xs, hxn with
  | [x0, x1, x2, x3, x4, x5, x6], _ =>
  have h0 := hx 0 _ rfl
  have h1 := hx 1 _ rfl
  have h2 := hx 2 _ rfl
  have h3 := hx 3 _ rfl
  have h4 := hx 4 _ rfl
  have h5 := hx 5 _ rfl
  have h6 := hx 6 _ rfl
  simp [cz9, cz31, cz32, cz33, cz34] at h0 h1 h2 h3 h4 h5 h6
  obtain ⟨n0, e0, rfl, g0⟩ := DataW.trod_string Tryz.underlying9 h0
  obtain ⟨n1, w1, e1, r1, s1, g1⟩ := openD h1
  obtain ⟨n2, w2, e2, r2, s2, g2⟩ := openD h2
  obtain ⟨n3, w3, e3, r3, s3, g3⟩ := openD h3
  obtain ⟨n4, w4, e4, r4, s4, g4⟩ := openM h4
  obtain ⟨n5, w5, e5, r5, s5, g5⟩ := openJ h5
  obtain ⟨n6, w6, e6, r6, s6, g6⟩ := openYs h6
  simp only [List.cons.injEq, and_true] at e0 e1 e2 e3 e4 e5 e6
  subst e0 e1 e2 e3 e4 e5 e6
  refine ⟨⟨n0.data.toList, n1, n2, n3, n4, n5, n6⟩, ?_, ?_, ⟨g1, g2, g3, g4, g6⟩⟩
  · simp only [Cl.cells]
    exact (RDs.app (v1 := [_]) (.one (.str _ _ rfl)) (RDs.app (v1 := [_]) (.one r1) (RDs.app (v1 := [_]) (.one r2) (RDs.app (v1 := [_]) (.one r3) (RDs.app (v1 := [_]) (.one r4) (RDs.app (v1 := [_]) (.one r5) (.one r6)))))))
  · have b1 := bulk_pos x1.1
    have b2 := bulk_pos x2.1
    have b3 := bulk_pos x3.1
    have b4 := bulk_pos x4.1
    have b5 := bulk_pos x5.1
    have b6 := bulk_pos x6.1
    simp only [Cl.sz, szT, uptoBulk, uptoBulkAll, List.map_cons, List.map_nil]
    omega

theorem openC {f : Nat} {cs : List Value} {x : DataW H × List MemPlace} (h : DataW.trod enc Tryz.prog w 0 (fun _ => true) true f 23 cs = some x) : ∃ (l : List Cl) (v : Value), cs = [v] ∧ RD w noB (.slice (encC l)) v ∧ szC l ≤ 2 * (uptoBulk x.1 - 1) ∧ ∀ y, y ∈ l → y.ok := by
  obtain ⟨l, v, h1, h2, h3, h4, _⟩ := open_list Cl.cells Cl.sz (fun y => y.ok) 2 7 Tryz.underlying23 cz36 (by omega) (fun _ => rfl) (fun f' hf cs x hx => openCl hx) h
  exact ⟨l, v, h1, h2, h3, h4⟩

theorem openOc {f : Nat} {cs : List Value} {x : DataW H × List MemPlace} (h : DataW.trod enc Tryz.prog w 0 (fun _ => true) true f 25 cs = some x) : ∃ y : Oc, RDs w y.cells cs ∧ y.sz ≤ 2 * uptoBulk x.1 ∧ y.ok := by
  obtain ⟨xs, n, rfl, rfl, hl, hxl, hx⟩ := DataW.trod_struct Tryz.underlying25 h
  rw [cz25] at hl
  match cs, hl with
  | [v0, v1], _ =>
  have hxn : xs.length = 2 := hxl
  match xs, hxn with
  | [x0, x1], _ =>
  have h0 := hx 0 _ rfl
  have h1 := hx 1 _ rfl
  simp [cz22, cz23] at h0 h1
  obtain ⟨n0, w0, e0, r0, s0, g0⟩ := openE h0
  obtain ⟨n1, w1, e1, r1, s1, g1⟩ := openC h1
  simp only [List.cons.injEq, and_true] at e0 e1
  subst e0 e1
  refine ⟨⟨n0, n1⟩, ?_, ?_, g1⟩
  · simp only [Oc.cells]
    exact (RDs.app (v1 := [_]) (.one r0) (.one r1))
  · have b0 := bulk_pos x0.1
    have b1 := bulk_pos x1.1
    simp only [Oc.sz, szT, uptoBulk, uptoBulkAll, List.map_cons, List.map_nil]
    omega

end
end Go.Ac
end
