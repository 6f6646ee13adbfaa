/- Letters of a word, of both. -/
import Derived.Test.YtkimfnammkljoaaGreatDoorHaHnM
import Derived.Test.YtkimfnammkljoaaGreatDoorChecked
import Derived.Test.YtkimfnammkljoaaGreatDoorRows
import Derived.Deep.Slices
import Derived.ChangeArms
import Derived.RowKit3
import Derived.ReadAgain
import Derived.ChangeStays
set_option linter.unusedVariables false
set_option linter.unusedSimpArgs false
section
namespace Go.Ac
theorem iZ {α : Sort _} {x : α} : Is x x := Is.rfl
theorem gS {α : Type _} {x : α} {i : Nat} {l : List α} : (x :: l)[i + 1]? = l[i]? := rfl
theorem gZ {α : Type _} {x : α} {l : List α} : (x :: l)[0]? = some x := rfl

/-- One walk leads from a goal to another. -/
structure Hd (G : Prop) : Prop where
 out : G
def Wk (L G G' : Prop) : Prop := L → Hd G' → G

theorem wk {L : Prop} (hl : L) {G G' : Prop} (k : G') (h : Wk L G G' := by
 intro hl hk
 repeat (first
 | apply WP.seq
 | (apply WP.reg; (case hR => dsimp only [prepL, prepO, List.map, gS, gZ]; exact iZ); (case hr => (repeat (first
 | (apply RT.op; simp [hl]; exact iZ; (try dsimp only [putEnv]) <;> exact rfl)
 | (apply RT.call; (iterate 2 simp; exact iZ); exact iZ; (iterate 4 simp [hl]; exact iZ); simp [Is]; (try dsimp only [putEnv]) <;> exact rfl; simp; exact iZ; simp; exact iZ)
 | (apply RT.wr; simp [hl]; exact iZ; (try dsimp only [putEnv]) <;> exact rfl; simp [hl]; exact iZ; (iterate 2 exact iZ); simp; exact iZ))); exact RT.nil); (case hc => (show _ = _; kernel_rfl)); (case ht => simp [hl]; exact iZ))
 | apply WP.block | apply WP.skip | apply WP.exit | apply WP.ret)
 exact hk.out) : G := h hl ⟨k⟩
theorem wkc {L : Prop} (hl : L) {G G' : Prop} (k : G') (h : Wk L G G' := by
 intro hl hk
 repeat (first
 | apply WP.seq
 | (apply WP.reg; (case hR => dsimp only [prepL, prepO, List.map, gS, gZ]; exact iZ); (case hr => (repeat (first
 | (apply RT.op; simp [hl]; exact iZ; (try dsimp only [putEnv]) <;> exact rfl)
 | (apply RT.call; (iterate 2 simp; exact iZ); exact iZ; (iterate 4 simp [hl]; exact iZ); simp [Is]; (try dsimp only [putEnv]) <;> exact rfl; simp; exact iZ; simp; exact iZ)
 | (apply RT.wr; simp [hl]; exact iZ; (try dsimp only [putEnv]) <;> exact rfl; simp [hl]; exact iZ; (iterate 2 exact iZ); simp; exact iZ))); exact RT.nil); (case hc => (show _ = _; kernel_rfl)); (case ht => simp [hl]; exact iZ))
 | apply WP.block | apply WP.skip | apply WP.exit | apply WP.ret | refine WP.condT rfl ?_ | refine WP.condF rfl ?_)
 exact hk.out) : G := h hl ⟨k⟩
end Go.Ac
end

section
set_option linter.unusedSectionVars false
namespace Go.Ac
open Go.Proofs
variable [GwR]

/-- A text. -/
abbrev Tx := List UInt8
/-- An expression. -/
inductive X where
 | mk (k o t v : Int) (nm : Tx) (args : List X)
/-- A statement. -/
inductive Y where
 | mk (k : Int) (nm : Tx) (t : Int) (r : X) (outs : List Tx) (args : List X) (brs : List (List Y))
structure On where
 nm : Tx
 t : Int
 tag : Int
structure Dc where
 nm : Tx
 t : Int
 ck : List On
structure En where
 nm : Tx
 tags : List Tx
structure Mm where
 nm : Tx
 t : Int
 ini : Int
structure Ii where
 nm : Tx
 cl : Tx
/-- A class. -/
structure Cl where
 nm : Tx
 inn : List Dc
 out : List Dc
 loc : List Dc
 mems : List Mm
 ins : List Ii
 step : List Y
/-- Object code. -/
structure Oc where
 en : List En
 cl : List Cl

def dI (n : Int) : V := .d (.int .i64 n)
def dB (b : Bool) : V := .d (.bool b)
def encI (l : List Int) : List (List D) := l.map fun n => [.int .i64 n]
def encS (l : List Tx) : List (List D) := l.map fun s => [.str s]
mutual
def X.cells : X → List D
 | .mk k o t v nm args => [.int .i64 k, .int .i64 o, .int .i64 t, .int .i64 v, .str nm, .slice (encX args)]
def encX : List X → List (List D)
 | [] => []
 | x :: r => x.cells :: encX r
end
mutual
def Y.cells : Y → List D
 | .mk k nm t r outs args brs => [.int .i64 k, .str nm, .int .i64 t] ++ r.cells ++ [.slice (encS outs), .slice (encX args), .slice (encB brs)]
def encY : List Y → List (List D)
 | [] => []
 | y :: r => y.cells :: encY r
def encB : List (List Y) → List (List D)
 | [] => []
 | b :: r => [.slice (encY b)] :: encB r
end
def On.cells (x : On) : List D := [.str x.nm, .int .i64 x.t, .int .i64 x.tag]
def encO (l : List On) : List (List D) := l.map On.cells
def Dc.cells (x : Dc) : List D := [.str x.nm, .int .i64 x.t, .slice (encO x.ck)]
def encD (l : List Dc) : List (List D) := l.map Dc.cells
def En.cells (x : En) : List D := [.str x.nm, .slice (encS x.tags)]
def encE (l : List En) : List (List D) := l.map En.cells
def Mm.cells (x : Mm) : List D := [.str x.nm, .int .i64 x.t, .int .i64 x.ini]
def encM (l : List Mm) : List (List D) := l.map Mm.cells
def Ii.cells (x : Ii) : List D := [.str x.nm, .str x.cl]
def encJ (l : List Ii) : List (List D) := l.map Ii.cells
def Cl.cells (x : Cl) : List D := [.str x.nm, .slice (encD x.inn), .slice (encD x.out), .slice (encD x.loc), .slice (encM x.mems), .slice (encJ x.ins), .slice (encY x.step)]
def encC (l : List Cl) : List (List D) := l.map Cl.cells
def Oc.cells (x : Oc) : List D := [.slice (encE x.en), .slice (encC x.cl)]
/-- A struct as an argument. -/
def aG (l : List D) : V := .agg (l.map .d)
def dL (l : List (List D)) : V := .d (.slice l)

def X.k : X → Int | .mk k _ _ _ _ _ => k
def X.o : X → Int | .mk _ o _ _ _ _ => o
def X.t : X → Int | .mk _ _ t _ _ _ => t
def X.v : X → Int | .mk _ _ _ v _ _ => v
def X.nm : X → Tx | .mk _ _ _ _ n _ => n
def X.args : X → List X | .mk _ _ _ _ _ l => l
def Y.k : Y → Int | .mk k _ _ _ _ _ _ => k
def Y.nm : Y → Tx | .mk _ n _ _ _ _ _ => n
def Y.t : Y → Int | .mk _ _ t _ _ _ _ => t
def Y.r : Y → X | .mk _ _ _ r _ _ _ => r
def Y.outs : Y → List Tx | .mk _ _ _ _ o _ _ => o
def Y.args : Y → List X | .mk _ _ _ _ _ a _ => a
def Y.brs : Y → List (List Y) | .mk _ _ _ _ _ _ b => b
theorem X.cells_eq (x : X) : x.cells = [.int .i64 x.k, .int .i64 x.o, .int .i64 x.t, .int .i64 x.v, .str x.nm, .slice (encX x.args)] := by cases x; simp [X.cells, X.k, X.o, X.t, X.v, X.nm, X.args]
theorem Y.cells_eq (y : Y) : y.cells = [.int .i64 y.k, .str y.nm, .int .i64 y.t, .int .i64 y.r.k, .int .i64 y.r.o, .int .i64 y.r.t, .int .i64 y.r.v, .str y.r.nm, .slice (encX y.r.args), .slice (encS y.outs), .slice (encX y.args), .slice (encB y.brs)] := by
 cases y; simp [Y.cells, X.cells_eq, Y.k, Y.nm, Y.t, Y.r, Y.outs, Y.args, Y.brs]
theorem encX_map : ∀ l : List X, encX l = l.map X.cells
 | [] => by simp [encX]
 | x :: r => by simp [encX, encX_map r]
theorem encY_map : ∀ l : List Y, encY l = l.map Y.cells
 | [] => by simp [encY]
 | x :: r => by simp [encY, encY_map r]
theorem encB_map : ∀ l : List (List Y), encB l = l.map fun b => [.slice (encY b)]
 | [] => by simp [encB]
 | x :: r => by simp [encB, encB_map r]

theorem encI_len (l : List Int) : (encI l).length = l.length := by simp [encI]
theorem encS_len (l : List Tx) : (encS l).length = l.length := by simp [encS]
theorem encS_at {l : List Tx} {i : Nat} {y : Tx} (h : l[i]? = some y) : (encS l)[i]? = some [.str y] := by unfold encS; simp [h]
theorem encX_len (l : List X) : (encX l).length = l.length := by simp [encX_map]
theorem encX_at {l : List X} {i : Nat} {y : X} (h : l[i]? = some y) : (encX l)[i]? = some y.cells := by rw [encX_map]; simp [h]
theorem encY_len (l : List Y) : (encY l).length = l.length := by simp [encY_map]
theorem encY_at {l : List Y} {i : Nat} {y : Y} (h : l[i]? = some y) : (encY l)[i]? = some y.cells := by rw [encY_map]; simp [h]
theorem encB_len (l : List (List Y)) : (encB l).length = l.length := by simp [encB_map]
theorem encB_at {l : List (List Y)} {i : Nat} {y : (List Y)} (h : l[i]? = some y) : (encB l)[i]? = some [.slice (encY y)] := by rw [encB_map]; simp [h]
theorem encO_len (l : List On) : (encO l).length = l.length := by simp [encO]
theorem encD_len (l : List Dc) : (encD l).length = l.length := by simp [encD]
theorem encD_at {l : List Dc} {i : Nat} {y : Dc} (h : l[i]? = some y) : (encD l)[i]? = some y.cells := by unfold encD; simp [h]
theorem encE_len (l : List En) : (encE l).length = l.length := by simp [encE]
theorem encM_len (l : List Mm) : (encM l).length = l.length := by simp [encM]
theorem encJ_len (l : List Ii) : (encJ l).length = l.length := by simp [encJ]
theorem encC_len (l : List Cl) : (encC l).length = l.length := by simp [encC]
/-! ### Sizes -/
def MX : Nat := 1152921504606846976
def szT (s : Tx) : Nat := s.length + 1
def szS (l : List Tx) : Nat := (l.map szT).sum
mutual
def X.sz : X → Nat
 | .mk _ _ _ _ nm args => szT nm + szX args + 6
def szX : List X → Nat
 | [] => 0
 | x :: r => x.sz + szX r
end
mutual
def Y.sz : Y → Nat
 | .mk _ nm _ r outs args brs => szT nm + r.sz + szS outs + szX args + szB brs + 12
def szY : List Y → Nat
 | [] => 0
 | y :: r => y.sz + szY r
def szB : List (List Y) → Nat
 | [] => 0
 | b :: r => szY b + 1 + szB r
end
def On.sz (x : On) : Nat := szT x.nm + 3
def szO (l : List On) : Nat := (l.map On.sz).sum
def Dc.sz (x : Dc) : Nat := szT x.nm + szO x.ck + 3
def szD (l : List Dc) : Nat := (l.map Dc.sz).sum
def En.sz (x : En) : Nat := szT x.nm + szS x.tags + 2
def szE (l : List En) : Nat := (l.map En.sz).sum
def Mm.sz (x : Mm) : Nat := szT x.nm + 3
def szM (l : List Mm) : Nat := (l.map Mm.sz).sum
def Ii.sz (x : Ii) : Nat := szT x.nm + szT x.cl + 2
def szJ (l : List Ii) : Nat := (l.map Ii.sz).sum
def Cl.sz (x : Cl) : Nat := szT x.nm + szD x.inn + szD x.out + szD x.loc + szM x.mems + szJ x.ins + szY x.step + 7
def szC (l : List Cl) : Nat := (l.map Cl.sz).sum
def Oc.sz (x : Oc) : Nat := szE x.en + szC x.cl + 2
theorem X.sz_eq (x : X) : x.sz = szT x.nm + szX x.args + 6 := by cases x; simp [X.sz, X.nm, X.args]
theorem Y.sz_eq (y : Y) : y.sz = szT y.nm + y.r.sz + szS y.outs + szX y.args + szB y.brs + 12 := by cases y; simp [Y.sz, Y.nm, Y.r, Y.outs, Y.args, Y.brs]
theorem sum_mem {α : Type} {f : α → Nat} : ∀ {l : List α} {x : α}, x ∈ l → f x ≤ (l.map f).sum
 | y :: r, x, h => by
  simp only [List.mem_cons] at h
  simp only [List.map_cons, List.sum_cons]
  rcases h with rfl | h
  ·omega
  ·have := sum_mem (f := f) h; omega
theorem sum_len {α : Type} {f : α → Nat} (hf : ∀ x, 1 ≤ f x) : ∀ {l : List α}, l.length ≤ (l.map f).sum
 | [] => by simp
 | y :: r => by have := sum_len hf (l := r); have := hf y; simp; omega
theorem szX_sum : ∀ l : List X, szX l = (l.map X.sz).sum
 | [] => by simp [szX]
 | x :: r => by simp [szX, szX_sum r]
theorem szY_sum : ∀ l : List Y, szY l = (l.map Y.sz).sum
 | [] => by simp [szY]
 | x :: r => by simp [szY, szY_sum r]
theorem szB_sum : ∀ l : List (List Y), szB l = (l.map fun b => szY b + 1).sum
 | [] => by simp [szB]
 | x :: r => by simp [szB, szB_sum r]
theorem mem_szX {l : List X} {x : X} (h : x ∈ l) : x.sz ≤ szX l := by rw [szX_sum]; exact sum_mem h
theorem mem_szY {l : List Y} {x : Y} (h : x ∈ l) : x.sz ≤ szY l := by rw [szY_sum]; exact sum_mem h
theorem mem_szB {l : List (List Y)} {x : List Y} (h : x ∈ l) : szY x < szB l := by rw [szB_sum]; have h1 := sum_mem (f := fun b => szY b + 1) h; omega
theorem len_szX (l : List X) : l.length ≤ szX l := by rw [szX_sum]; exact sum_len fun x => by rw [X.sz_eq]; omega
theorem len_szY (l : List Y) : l.length ≤ szY l := by rw [szY_sum]; exact sum_len fun x => by rw [Y.sz_eq]; omega
theorem len_szB (l : List (List Y)) : l.length ≤ szB l := by rw [szB_sum]; exact sum_len fun x => by omega
theorem len_szS (l : List Tx) : l.length ≤ szS l := sum_len fun x => by unfold szT; omega
theorem idx_lt {i n : Nat} (h : i < n) : idx (i : Int) n = some i := by
 unfold idx
 rw [if_pos ⟨by omega, by omega⟩]
 simp
theorem nbeq_self (n : Nat) : Nat.beq n n = true := Nat.beq_refl n

/-! ### Types -/
noncomputable def zOf (t : TypeId) : Option (List V) := match mkTI Tryz.prog t with | some i => i.zero | none => none
theorem ti3 : mkTI Tryz.prog 3 = some ⟨.int .i64, 1, 8, zOf 3⟩ := by kernel_rfl
theorem ti4 : mkTI Tryz.prog 4 = some ⟨.bool, 1, 1, zOf 4⟩ := by kernel_rfl
theorem ti5 : mkTI Tryz.prog 5 = some ⟨.int .u8, 1, 1, zOf 5⟩ := by kernel_rfl
theorem ti9 : mkTI Tryz.prog 9 = some ⟨.str, 1, 16, zOf 9⟩ := by kernel_rfl
theorem ti25 : mkTI Tryz.prog 25 = some ⟨.struct [(0, 1, false), (1, 1, false), (2, 1, false)], 3, 48, zOf 25⟩ := by kernel_rfl
theorem ti26 : mkTI Tryz.prog 26 = some ⟨.slice 25 3 48, 1, 24, zOf 26⟩ := by kernel_rfl
theorem ti27 : mkTI Tryz.prog 27 = some ⟨.slice 9 1 16, 1, 24, zOf 27⟩ := by kernel_rfl
theorem ti28 : mkTI Tryz.prog 28 = some ⟨.slice 30 6 72, 1, 24, zOf 28⟩ := by kernel_rfl
theorem ti30 : mkTI Tryz.prog 30 = some ⟨.struct [(0, 1, false), (1, 1, false), (2, 1, false), (3, 1, false), (4, 1, false), (5, 1, false)], 6, 72, zOf 30⟩ := by kernel_rfl
theorem ti37 : mkTI Tryz.prog 37 = some ⟨.slice 84 2 40, 1, 24, zOf 37⟩ := by kernel_rfl
theorem ti42 : mkTI Tryz.prog 42 = some ⟨.slice 76 12 176, 1, 24, zOf 42⟩ := by kernel_rfl
theorem ti44 : mkTI Tryz.prog 44 = some ⟨.struct [(0, 1, false), (1, 1, false), (2, 1, false), (3, 1, false), (4, 1, false), (5, 1, false), (6, 1, false)], 7, 160, zOf 44⟩ := by kernel_rfl
theorem ti45 : mkTI Tryz.prog 45 = some ⟨.int .i64, 1, 8, zOf 45⟩ := by kernel_rfl
theorem ti61 : mkTI Tryz.prog 61 = some ⟨.ptr, 1, 8, zOf 61⟩ := by kernel_rfl
theorem ti64 : mkTI Tryz.prog 64 = some ⟨.slice 3 1 8, 1, 24, zOf 64⟩ := by kernel_rfl
theorem ti69 : mkTI Tryz.prog 69 = some ⟨.struct [(0, 1, false), (1, 1, false)], 2, 16, zOf 69⟩ := by kernel_rfl
theorem ti74 : mkTI Tryz.prog 74 = some ⟨.slice 42 1 24, 1, 24, zOf 74⟩ := by kernel_rfl
theorem ti76 : mkTI Tryz.prog 76 = some ⟨.struct [(0, 1, false), (1, 1, false), (2, 1, false), (3, 6, true), (9, 1, false), (10, 1, false), (11, 1, false)], 12, 176, zOf 76⟩ := by kernel_rfl
theorem ti84 : mkTI Tryz.prog 84 = some ⟨.struct [(0, 1, false), (1, 1, false)], 2, 40, zOf 84⟩ := by kernel_rfl
theorem ti105 : mkTI Tryz.prog 105 = some ⟨.map 9 3, 1, 8, zOf 105⟩ := by kernel_rfl
theorem ti108 : mkTI Tryz.prog 108 = some ⟨.struct [(0, 1, false), (1, 7, true), (8, 1, false), (9, 1, false)], 10, 200, zOf 108⟩ := by kernel_rfl
theorem ti118 : mkTI Tryz.prog 118 = some ⟨.slice 4 1 1, 1, 24, zOf 118⟩ := by kernel_rfl
theorem ti123 : mkTI Tryz.prog 123 = some ⟨.struct [(0, 1, false), (1, 1, false)], 2, 48, zOf 123⟩ := by kernel_rfl
theorem ti172 : mkTI Tryz.prog 172 = some ⟨.ptr, 1, 8, zOf 172⟩ := by kernel_rfl
theorem ti185 : mkTI Tryz.prog 185 = some ⟨.struct [(0, 1, false), (1, 1, false)], 2, 16, zOf 185⟩ := by kernel_rfl
theorem ti251 : mkTI Tryz.prog 251 = some ⟨.struct [(0, 6, true), (6, 1, false), (7, 1, false), (8, 1, false), (9, 2, true), (11, 2, true), (13, 1, false), (14, 1, false)], 15, 192, zOf 251⟩ := by kernel_rfl
theorem ti260 : mkTI Tryz.prog 260 = some ⟨.struct [(0, 1, false), (1, 1, false), (2, 7, true), (9, 1, false), (10, 1, false), (11, 1, false), (12, 1, false)], 13, 240, zOf 260⟩ := by kernel_rfl
theorem ti264 : mkTI Tryz.prog 264 = some ⟨.slice 487 2 24, 1, 24, zOf 264⟩ := by kernel_rfl
theorem ti266 : mkTI Tryz.prog 266 = some ⟨.struct [(0, 1, false), (1, 1, false)], 2, 48, zOf 266⟩ := by kernel_rfl
theorem ti358 : mkTI Tryz.prog 358 = some ⟨.slice 118 1 24, 1, 24, zOf 358⟩ := by kernel_rfl
theorem ti487 : mkTI Tryz.prog 487 = some ⟨.struct [(0, 1, false), (1, 1, false)], 2, 24, zOf 487⟩ := by kernel_rfl
theorem ti493 : mkTI Tryz.prog 493 = some ⟨.int .u32, 1, 4, zOf 493⟩ := by kernel_rfl
theorem ti547 : mkTI Tryz.prog 547 = some ⟨.int .i16, 1, 2, zOf 547⟩ := by kernel_rfl
theorem zz3 : zOf 3 = some [.d (.int .i64 0)] := by kernel_rfl
theorem zz4 : zOf 4 = some [.d (.bool false)] := by kernel_rfl
theorem zz5 : zOf 5 = some [.d (.int .u8 0)] := by kernel_rfl
theorem zz9 : zOf 9 = some [.d (.str [])] := by kernel_rfl
theorem zz25 : zOf 25 = some [.d (.str []), .d (.int .i64 0), .full []] := by kernel_rfl
theorem zz26 : zOf 26 = some [.full []] := by kernel_rfl
theorem zz27 : zOf 27 = some [.full []] := by kernel_rfl
theorem zz28 : zOf 28 = some [.full []] := by kernel_rfl
theorem zz30 : zOf 30 = some [.d (.int .i64 0), .d (.int .i64 0), .d (.int .i64 0), .d (.int .i64 0), .d (.str []), .full []] := by kernel_rfl
theorem zz37 : zOf 37 = some [.full []] := by kernel_rfl
theorem zz42 : zOf 42 = some [.full []] := by kernel_rfl
theorem zz44 : zOf 44 = some [.d (.str []), .full [], .full [], .full [], .full [], .full [], .full []] := by kernel_rfl
theorem zz45 : zOf 45 = some [.d (.int .i64 0)] := by kernel_rfl
theorem zz61 : zOf 61 = some [.con (.pointer none)] := by kernel_rfl
theorem zz64 : zOf 64 = some [.full []] := by kernel_rfl
theorem zz69 : zOf 69 = some [.d (.int .i64 0), .d (.int .i64 0)] := by kernel_rfl
theorem zz74 : zOf 74 = some [.full []] := by kernel_rfl
theorem zz76 : zOf 76 = some [.d (.int .i64 0), .d (.str []), .d (.int .i64 0), .d (.int .i64 0), .d (.int .i64 0), .d (.int .i64 0), .d (.int .i64 0), .d (.str []), .full [], .full [], .full [], .full []] := by kernel_rfl
theorem zz84 : zOf 84 = some [.d (.str []), .full []] := by kernel_rfl
theorem zz105 : zOf 105 = some [.con (.map none)] := by kernel_rfl
theorem zz108 : zOf 108 = some [.full [], .d (.str []), .full [], .full [], .full [], .full [], .full [], .full [], .con (.map none), .con (.map none)] := by kernel_rfl
theorem zz118 : zOf 118 = some [.full []] := by kernel_rfl
theorem zz123 : zOf 123 = some [.full [], .full []] := by kernel_rfl
theorem zz172 : zOf 172 = some [.con (.pointer none)] := by kernel_rfl
theorem zz185 : zOf 185 = some [.con (.pointer none), .con (.map none)] := by kernel_rfl
theorem zz251 : zOf 251 = some [.d (.int .i64 0), .d (.int .i64 0), .d (.int .i64 0), .d (.int .i64 0), .d (.str []), .full [], .full [], .con .nilFunc, .d (.bool false), .d (.int .i64 0), .d (.int .i64 0), .full [], .full [], .d (.int .i64 0), .con (.pointer none)] := by kernel_rfl
theorem zz260 : zOf 260 = some [.full [], .full [], .d (.str []), .full [], .full [], .full [], .full [], .full [], .full [], .con (.map none), .con (.map none), .con (.map none), .con (.map none)] := by kernel_rfl
theorem zz264 : zOf 264 = some [.full []] := by kernel_rfl
theorem zz266 : zOf 266 = some [.full [], .full []] := by kernel_rfl
theorem zz358 : zOf 358 = some [.full []] := by kernel_rfl
theorem zz487 : zOf 487 = some [.d (.str []), .d (.int .i64 0)] := by kernel_rfl
theorem zz493 : zOf 493 = some [.d (.int .u32 0)] := by kernel_rfl
theorem zz547 : zOf 547 = some [.d (.int .i16 0)] := by kernel_rfl
attribute [simp] ti3 ti4 ti5 ti9 ti25 ti26 ti27 ti28 ti30 ti37 ti42 ti44 ti45 ti61 ti64 ti69 ti74 ti76 ti84 ti105 ti108 ti118 ti123 ti172 ti185 ti251 ti260 ti264 ti266 ti358 ti487 ti493 ti547
attribute [simp] zz3 zz4 zz5 zz9 zz25 zz26 zz27 zz28 zz30 zz37 zz42 zz44 zz45 zz61 zz64 zz69 zz74 zz76 zz84 zz105 zz108 zz118 zz123 zz172 zz185 zz251 zz260 zz264 zz266 zz358 zz487 zz493 zz547


theorem so127 : structOffs Tryz.prog 127 = some [(0, .str), (1, .int), (2, .int)] := by kernel_rfl
theorem so73 : structOffs Tryz.prog 73 = some [(0, .str), (1, .int), (2, .int)] := by kernel_rfl
theorem so178 : structOffs Tryz.prog 178 = some [(0, .str), (1, .str)] := by kernel_rfl
theorem prim_Ob (f : Nat) : Ob.cfg.prim f = Ob.prim f := rfl
theorem thr_Ob (f : Nat) : Ob.cfg.thr f = Ob.thr f := rfl
theorem fz_Ob (f r : Nat) : Ob.cfg.fz f r = Ob.fz f r := rfl
theorem own_Ob (f : Nat) : Ob.cfg.own f = Ob.own f := rfl
theorem keep_Ob (f r : Nat) : Ob.cfg.keep f r = Ob.keep f r := rfl
theorem mat_Ob (f r : Nat) : Ob.cfg.mat f r = Ob.mat f r := rfl
theorem rowsOf_osl (look : Look) (sz id g off len sz' : Nat) (cap : Option Nat) : rowsOf look sz (.osl id g off len sz' cap) = match live look id g, Nat.beq sz sz' with
  | some o, true => match Nat.ble (off + len * sz) o.cells.length with
   | true => some (len, (o.cells.drop off).take (len * sz), [id])
   | false => none
  | _, _ => none := rfl

attribute [simp] so127 so73 so178 eqRow eqCell prim_Ob Ob.prim thr_Ob Ob.thr closeArgs closeA closeVs close close1 ofD toD V.flat V.flat2 V.flat1 D.flat evalV Env.get constV constV1 putEnv binV intBin strBin boolBin unV
 indexAddrV indexV indexRows ret fieldAddrV fieldV partV loadV readV TI.agg lenV Env.keep nilOpd nilV nilR isEq checkNil
attribute [simp] opP opP0 wantedP step retR live nbeq_self newV cellsV V.one storeV cl1 roOf fz_Ob Ob.fz Hp.get Hp.set Hp.sets addNew idx_lt builtinV
attribute [simp] Hp.trunc_zero nblt_eq Hp.get_set_self Hp.trunc cut own_Ob Ob.own convV envOf
attribute [simp] endR keepSt mats matOne keep_Ob mat_Ob Ob.mat callD rowsOf_osl appendV encI_len encS_len encX_len encY_len encB_len encO_len encD_len encE_len encM_len encJ_len encC_len

end Go.Ac
end

section
set_option maxRecDepth 4000
set_option linter.unusedSectionVars false
namespace Go.Ac
open Go.Proofs
variable [GwR]

theorem int_beq (a b : Int) : (a == b) = decide (a = b) := by by_cases h : a = b <;> simp [h]
theorem int_bne (a b : Int) : (a != b) = !decide (a = b) := by by_cases h : a = b <;> simp [h]
theorem tx_beq (a b : Tx) : (a == b) = decide (a = b) := by by_cases h : a = b <;> simp [h]
theorem take_snoc {α : Type} {l : List α} {j : Nat} {x : α} (h : l[j]? = some x) : l.take (j + 1) = l.take j ++ [x] := by rw [List.take_add_one, h]; rfl




end Go.Ac
end

section
set_option maxRecDepth 4000
set_option linter.unusedSectionVars false
namespace Go.Ac
open Go.Proofs
variable [GwR]






structure Wl where
 en : List En


end Go.Ac
end

section
set_option maxRecDepth 4000
set_option linter.unusedSectionVars false
namespace Go.Ac
open Go.Proofs
variable [GwR]

theorem nble_d (a b : Nat) : Nat.ble a b = decide (a ≤ b) := by
 by_cases h : a ≤ b
 ·rw [Nat.ble_eq_true_of_le h]; simp [h]
 ·cases hb : Nat.ble a b with
  | false => simp [h]
  | true => exact absurd (Nat.le_of_ble_eq_true hb) h
theorem toD_dep (look : Look) (id g off len sz : Nat) (cap : Option Nat) : toD look depthD (.osl id g off len sz cap) = match live look id g with
  | some o => match Nat.ble (off + len * sz) o.cells.length, toDs (toD look 4611686018427387903) ((o.cells.drop off).take (len * sz)) with
   | true, some (ds, r) => some (.slice (chunk sz len ds), id :: r)
   | _, _ => none
  | none => none := Eq.trans rfl rfl
theorem toD_d (look : Look) (f : Nat) (x : D) : toD look f (.d x) = some (x, []) := by cases f <;> rfl
theorem toD_full (look : Look) (f : Nat) (x : List (List D)) : toD look f (.full x) = some (.slice x, []) := by cases f <;> rfl

end Go.Ac
end

section
set_option maxRecDepth 4000
set_option linter.unusedSectionVars false
namespace Go.Ac
open Go.Proofs Go.ChangeShapes Go.WideShapes Go.RowKit
open Go.Proofs.YtkimfnammkljoaaGreatDoor.Rows (uptoBulk uptoBulkAll)
variable [GwR]

abbrev noB : Nat → Prop := fun _ => False

def RDs (w : World) (ds : List D) (cs : List Value) : Prop := ds.length = cs.length ∧ ∀ (j : Nat) d v, ds[j]? = some d → cs[j]? = some v → RD w noB d v

section
variable {H : Type} {enc : TypeId × Value → H} {w : World}

instance : Inhabited X := ⟨.mk 0 0 0 0 [] []⟩
instance : Inhabited Y := ⟨.mk 0 [] 0 (.mk 0 0 0 0 [] []) [] [] []⟩
instance : Inhabited On := ⟨⟨[], 0, 0⟩⟩
instance : Inhabited Dc := ⟨⟨[], 0, []⟩⟩
instance : Inhabited En := ⟨⟨[], []⟩⟩
instance : Inhabited Mm := ⟨⟨[], 0, 0⟩⟩
instance : Inhabited Ii := ⟨⟨[], []⟩⟩
instance : Inhabited Cl := ⟨⟨[], [], [], [], [], [], []⟩⟩
theorem RDs.one {d : D} {v : Value} (h : RD w noB d v) : RDs w [d] [v] := ⟨rfl, fun j d' v' h1 h2 => by
 cases j with
 | zero => simp at h1 h2; subst h1; subst h2; exact h
 | succ j => simp at h1⟩
theorem RDs.app {d1 d2 : List D} {v1 v2 : List Value} (h1 : RDs w d1 v1) (h2 : RDs w d2 v2) : RDs w (d1 ++ d2) (v1 ++ v2) := by
 refine ⟨by simp [h1.1, h2.1], fun j d v hd hv => ?_⟩
 by_cases hj : j < d1.length
 ·rw [List.getElem?_append_left hj] at hd
  rw [List.getElem?_append_left (by rw [← h1.1]; exact hj)] at hv
  exact h1.2 j d v hd hv
 ·rw [List.getElem?_append_right (by omega)] at hd
  rw [List.getElem?_append_right (by rw [← h1.1]; omega), ← h1.1] at hv
  exact h2.2 _ d v hd hv


def I64 (n : Int) : Prop := -9223372036854775808 ≤ n ∧ n ≤ 9223372036854775807
/-! Numbers are of sixty-four bits. -/
mutual
def X.ok : X → Prop
 | .mk k o t v _ args => I64 k ∧ I64 o ∧ I64 t ∧ I64 v ∧ okX args
def okX : List X → Prop
 | [] => True
 | x :: r => x.ok ∧ okX r
end
mutual
def Y.ok : Y → Prop
 | .mk k _ t r _ args brs => I64 k ∧ I64 t ∧ r.ok ∧ okX args ∧ okB brs
def okY : List Y → Prop
 | [] => True
 | x :: r => x.ok ∧ okY r
def okB : List (List Y) → Prop
 | [] => True
 | x :: r => okY x ∧ okB r
end
def On.ok (x : On) : Prop := I64 x.t ∧ I64 x.tag
def Dc.ok (x : Dc) : Prop := I64 x.t ∧ ∀ c, c ∈ x.ck → c.ok
def Mm.ok (x : Mm) : Prop := I64 x.t ∧ I64 x.ini
structure Cl.ok (x : Cl) : Prop where
 inn : ∀ d, d ∈ x.inn → d.ok
 out : ∀ d, d ∈ x.out → d.ok
 loc : ∀ d, d ∈ x.loc → d.ok
 mems : ∀ d, d ∈ x.mems → d.ok
 step : okY x.step
def Oc.ok (x : Oc) : Prop := ∀ c, c ∈ x.cl → c.ok

end
end Go.Ac
end

section
set_option maxRecDepth 4000
set_option linter.unusedSectionVars false
namespace Go.Ac
open Go.Proofs
variable [GwR]

def inE (en : List En) (t : Int) : Bool := decide (3 ≤ t) && decide (t - 3 < en.length)
def eAt (en : List En) (t : Int) : En := if inE en t then en.getD (t - 3).toNat ⟨[], []⟩ else ⟨[], []⟩
def sizeE (en : List En) (t : Int) : Int := if t = 1 then 2 else if t = 2 then 65536 else (eAt en t).tags.length
end Go.Ac
end

section
set_option maxRecDepth 4000
set_option linter.unusedSectionVars false
namespace Go.Ac
open Go.Proofs
variable [GwR]

theorem all_snoc {α : Type} {p : α → Bool} {l : List α} {j : Nat} {x : α} (h : l[j]? = some x) : (l.take (j + 1)).all p = ((l.take j).all p && p x) := by
 rw [List.take_add_one, h]; simp
/-- Where one is in a class. -/
structure Pr where
 nm : Tx
 br : Nat
def Pr.cells (x : Pr) : List D := [.str x.nm, .int .i64 x.br]
def encP (l : List Pr) : List (List D) := l.map Pr.cells
theorem encP_len (l : List Pr) : (encP l).length = l.length := by simp [encP]
attribute [simp] encP_len
structure Pl where
 o : Oc
 c : Cl
 bf : List Y
 cx : List Pr
def Pl.cells (x : Pl) : List D := [.slice (encE x.o.en), .slice (encC x.o.cl), .str x.c.nm, .slice (encD x.c.inn), .slice (encD x.c.out), .slice (encD x.c.loc), .slice (encM x.c.mems), .slice (encJ x.c.ins), .slice (encY x.c.step), .slice (encY x.bf), .slice (encP x.cx)]
def findD (l : List Dc) (x : Tx) : Int := match l.find? (fun d => decide (d.nm = x)) with | some d => d.t | none => 0
def findM (l : List Mm) (x : Tx) : Int := match l.find? (fun d => decide (d.nm = x)) with | some d => d.t | none => 0
def clZ : Cl := ⟨[], [], [], [], [], [], []⟩
def findC (l : List Cl) (x : Tx) : Cl × Bool := match l.find? (fun d => decide (d.nm = x)) with | some d => (d, true) | none => (clZ, false)
def findI (l : List Ii) (cs : List Cl) (x : Tx) : Cl × Bool := match l.find? (fun d => decide (d.nm = x)) with | some d => findC cs d.cl | none => (clZ, false)






def setT (c : Cl) (x : Tx) : Int := if findD c.out x = 0 then findD c.loc x else findD c.out x
def getT (c : Cl) (x : Tx) : Int := if findD c.inn x = 0 then setT c x else findD c.inn x

end Go.Ac
end

section
set_option maxRecDepth 4000
set_option linter.unusedSectionVars false
namespace Go.Ac
open Go.Proofs
variable [GwR]

theorem chunk_flat {sz : Nat} : ∀ {l : List (List D)}, (∀ r ∈ l, r.length = sz) → chunk sz l.length l.flatten = l
 | [], _ => rfl
 | r :: l, h => by
  have h1 := h r (by simp)
  have ih := chunk_flat (l := l) (fun x hx => h x (by simp [hx]))
  simp only [List.length_cons, List.flatten_cons, chunk]
  rw [List.take_append_of_le_length (by omega), List.drop_append_of_le_length (by omega), ← h1, List.take_length, List.drop_length, List.nil_append, h1, ih]
theorem flat_len {sz : Nat} : ∀ {l : List (List D)}, (∀ r ∈ l, r.length = sz) → l.flatten.length = l.length * sz
 | [], _ => by simp
 | r :: l, h => by
  have h1 := h r (by simp)
  have ih := flat_len (l := l) (fun x hx => h x (by simp [hx]))
  simp [ih, h1, Nat.add_mul]; omega
end Go.Ac
end

section
set_option maxRecDepth 4000
set_option linter.unusedSectionVars false
namespace Go.Ac
open Go.Proofs
variable [GwR]
/-- A place of which the lists are not too long. -/
structure WOK (w : Pl) : Prop where
 inn : w.c.inn.length ≤ MX
 out : w.c.out.length ≤ MX
 loc : w.c.loc.length ≤ MX
 mems : w.c.mems.length ≤ MX
 ins : w.c.ins.length ≤ MX
 cl : w.o.cl.length ≤ MX
 bf : w.cx.length + szY w.bf ≤ 8388608
end Go.Ac
end

section
set_option maxRecDepth 4000
set_option linter.unusedSectionVars false
namespace Go.Ac
open Go.Proofs
variable [GwR]
/-- Memories that agree below a bound. -/
def Ag (n : Nat) (hp hp' : Hp) : Prop := ∀ id, id < n → hp'.get id = hp.get id
theorem Ag.refl (n : Nat) (hp : Hp) : Ag n hp hp := fun _ _ => rfl
theorem Ag.trunc {n : Nat} {hp hp' : Hp} (h : Ag n hp hp') : Ag n hp (Hp.trunc n hp') := fun id hi => (Hp.get_trunc hp' n id hi).trans (h id hi)
theorem Ag.set {n : Nat} {hp hp' : Hp} {o : Ob} (h : Ag n hp hp') : Ag n hp (hp'.set n o) := fun id hi => (Hp.get_set_ne hp' n id o (by omega)).trans (h id hi)
/-- Where the first is; -1: nowhere. -/
def ixP {α : Type} (p : α → Bool) (l : List α) : Int := match l.findIdx? p with | some i => (i : Int) | none => -1
theorem ixP_some {α : Type} {p : α → Bool} : ∀ {l : List α} {i : Nat} {v : α}, (l.take i).all (fun v => !p v) = true → l[i]? = some v → p v = true → ixP p l = i := by
 intro l i v h hi hv
 have : l.findIdx? p = some i := by
  obtain ⟨hil, hiv⟩ := List.getElem?_eq_some_iff.1 hi
  rw [List.findIdx?_eq_some_iff_getElem]
  refine ⟨hil, by rw [hiv]; exact hv, fun j hj => ?_⟩
  have hj' : j < l.length := by omega
  have hm : l[j] ∈ l.take i := by rw [List.mem_take_iff_getElem]; exact ⟨j, by omega, rfl⟩
  have := List.all_eq_true.1 h _ hm
  simpa using this
 unfold ixP; rw [this]
theorem ixP_none {α : Type} {p : α → Bool} {l : List α} (h : l.all (fun v => !p v) = true) : ixP p l = -1 := by
 have h' : ∀ x, x ∈ l → p x = false := fun x hx => by simpa using List.all_eq_true.1 h x hx
 unfold ixP; rw [List.findIdx?_eq_none_iff.2 h']
theorem ixP_any {α : Type} (p : α → Bool) (l : List α) : decide (0 ≤ ixP p l) = l.any p := by
 unfold ixP
 cases h : l.findIdx? p with
 | some i =>
  have : l.any p = true := by
   obtain ⟨hil, hp, _⟩ := List.findIdx?_eq_some_iff_getElem.1 h
   exact List.any_eq_true.2 ⟨l[i], List.getElem_mem hil, hp⟩
  rw [this]; simp
 | none =>
  have : l.any p = false := by
   rw [List.any_eq_false]; intro x hx; rw [List.findIdx?_eq_none_iff.1 h x hx]; simp
  rw [this]; simp
mutual
/-- No case is without branches. -/
def nbY : Y → Bool
 | .mk k _ _ _ _ _ brs => (!decide (k = 3) || decide (brs ≠ [])) && nbB brs
def nbL : List Y → Bool
 | [] => true
 | y :: r => nbY y && nbL r
def nbB : List (List Y) → Bool
 | [] => true
 | b :: r => nbL b && nbB r
end



end Go.Ac
end

section
set_option maxRecDepth 4000
set_option linter.unusedSectionVars false
namespace Go.Ac
open Go.Proofs
variable [GwR]
/-! ### Names that follow one another -/
theorem of_1_1 (n : Nat) : n + 1 + 1 = n + 2 := rfl
theorem of_1_2 (n : Nat) : n + 1 + 2 = n + 3 := rfl
theorem of_1_3 (n : Nat) : n + 1 + 3 = n + 4 := rfl
theorem of_2_1 (n : Nat) : n + 2 + 1 = n + 3 := rfl
theorem of_2_2 (n : Nat) : n + 2 + 2 = n + 4 := rfl
theorem of_2_3 (n : Nat) : n + 2 + 3 = n + 5 := rfl
theorem of_3_1 (n : Nat) : n + 3 + 1 = n + 4 := rfl
theorem of_3_2 (n : Nat) : n + 3 + 2 = n + 5 := rfl
theorem of_3_3 (n : Nat) : n + 3 + 3 = n + 6 := rfl
theorem of_4_1 (n : Nat) : n + 4 + 1 = n + 5 := rfl
theorem of_4_2 (n : Nat) : n + 4 + 2 = n + 6 := rfl
theorem of_4_3 (n : Nat) : n + 4 + 3 = n + 7 := rfl
theorem of_5_1 (n : Nat) : n + 5 + 1 = n + 6 := rfl
theorem of_5_2 (n : Nat) : n + 5 + 2 = n + 7 := rfl
theorem of_5_3 (n : Nat) : n + 5 + 3 = n + 8 := rfl
theorem of_6_1 (n : Nat) : n + 6 + 1 = n + 7 := rfl
theorem of_6_2 (n : Nat) : n + 6 + 2 = n + 8 := rfl
theorem of_6_3 (n : Nat) : n + 6 + 3 = n + 9 := rfl
theorem of_7_1 (n : Nat) : n + 7 + 1 = n + 8 := rfl
theorem of_7_2 (n : Nat) : n + 7 + 2 = n + 9 := rfl
theorem of_7_3 (n : Nat) : n + 7 + 3 = n + 10 := rfl
theorem of_8_1 (n : Nat) : n + 8 + 1 = n + 9 := rfl
theorem of_8_2 (n : Nat) : n + 8 + 2 = n + 10 := rfl
theorem of_8_3 (n : Nat) : n + 8 + 3 = n + 11 := rfl
theorem of_9_1 (n : Nat) : n + 9 + 1 = n + 10 := rfl
theorem of_9_2 (n : Nat) : n + 9 + 2 = n + 11 := rfl
theorem of_9_3 (n : Nat) : n + 9 + 3 = n + 12 := rfl
theorem of_lt1 (n : Nat) : (n + 1 < n) = False := eq_false (by omega)
theorem of_lt2 (n : Nat) : (n + 2 < n) = False := eq_false (by omega)
theorem of_lt3 (n : Nat) : (n + 3 < n) = False := eq_false (by omega)
theorem of_lt4 (n : Nat) : (n + 4 < n) = False := eq_false (by omega)
theorem of_lt5 (n : Nat) : (n + 5 < n) = False := eq_false (by omega)
theorem of_lt6 (n : Nat) : (n + 6 < n) = False := eq_false (by omega)
theorem of_lt7 (n : Nat) : (n + 7 < n) = False := eq_false (by omega)
theorem of_lt8 (n : Nat) : (n + 8 < n) = False := eq_false (by omega)
theorem of_lt9 (n : Nat) : (n + 9 < n) = False := eq_false (by omega)
attribute [simp] of_1_1 of_1_2 of_1_3 of_2_1 of_2_2 of_2_3 of_3_1 of_3_2 of_3_3 of_4_1 of_4_2 of_4_3 of_5_1 of_5_2 of_5_3 of_6_1 of_6_2 of_6_3 of_7_1 of_7_2 of_7_3 of_8_1 of_8_2 of_8_3 of_9_1 of_9_2 of_9_3 of_lt1 of_lt2 of_lt3 of_lt4 of_lt5 of_lt6 of_lt7 of_lt8 of_lt9
/-! ### Maps -/
/-- The value under a name. -/
def mget {α : Type} (l : List (Tx × α)) (x : Tx) : Option α := (l.find? (fun p => decide (p.1 = x))).map (·.2)
/-- A map, as the machine keeps it. -/
def mpC {α : Type} (e : α → V) (l : List (Tx × α)) : V := .mpc (l.map fun p => .str p.1) (l.map fun p => e p.2) (List.range l.length) l.length
theorem Ag_set {n k : Nat} {hp hp' : Hp} {o : Ob} (h : n ≤ k) : Ag n hp (hp'.set k o) = Ag n hp hp' := by
 refine propext ⟨fun a id hi => ?_, fun a id hi => ?_⟩
 ·have := a id hi; rwa [Hp.get_set_ne _ _ _ _ (by omega)] at this
 ·rw [Hp.get_set_ne _ _ _ _ (by omega)]; exact a id hi
theorem Ag_trunc {n k : Nat} {hp hp' : Hp} (h : n ≤ k) : Ag n hp (Hp.trunc k hp') = Ag n hp hp' := by
 refine propext ⟨fun a id hi => ?_, fun a id hi => ?_⟩
 ·have := a id hi; rwa [Hp.get_trunc _ _ _ (by omega)] at this
 ·rw [Hp.get_trunc _ _ _ (by omega)]; exact a id hi
theorem get_trunc_lt {k id : Nat} {hp : Hp} (h : id < k) : (Hp.trunc k hp).get id = hp.get id := Hp.get_trunc _ _ _ h
theorem Ag_refl (n : Nat) (hp : Hp) : Ag n hp hp = True := eq_true (Ag.refl n hp)
theorem Hp.get_set (h : Hp) (k t : Nat) (o : Ob) : (Hp.set h k o).get t = if k = t then some o else h.get t := by
 split
 ·rename_i hk; subst hk; exact Hp.get_set_self ..
 ·rename_i hk; exact Hp.get_set_ne _ _ _ _ hk
/-- A memory in which a class object lies. -/
structure KAt (ic gc iv gv ip gp im gm ii gi : Nat) (o : Oc) (ea : List Cl) (c : Cl) (hp : Hp) (n : Nat) : Prop where
 co : hp.get ic = some ⟨gc, false, [V.d (.slice (encE o.en)), V.d (.slice (encC ea)), V.d (.str c.nm), V.d (.slice (encD c.inn)), V.d (.slice (encD c.out)), V.d (.slice (encD c.loc)), V.d (.slice (encM c.mems)), V.d (.slice (encJ c.ins)), V.d (.slice (encY c.step)), .mp iv gv, .mp ip gp, .mp im gm, .mp ii gi]⟩
 vars : ∃ l, hp.get iv = some ⟨gv, false, [mpC (fun t : Int => V.d (.int .i64 t)) l]⟩ ∧ ∀ x, mget l x = if getT c x = 0 then none else some (getT c x)
 ports : ∃ l, hp.get ip = some ⟨gp, false, [mpC (fun b : Bool => V.d (.bool b)) l]⟩ ∧ ∀ x, mget l x = if setT c x = 0 then none else some true
 mems : ∃ l, hp.get im = some ⟨gm, false, [mpC (fun t : Int => V.d (.int .i64 t)) l]⟩ ∧ ∀ x, mget l x = if findM c.mems x = 0 then none else some (findM c.mems x)
 ins : ∃ l, hp.get ii = some ⟨gi, false, [mpC (fun k : Cl => aG k.cells) l]⟩ ∧ ∀ x, mget l x = if (findI c.ins o.cl x).2 = true then some (findI c.ins o.cl x).1 else none
 lc : ic < n
 lv : iv < n
 lp : ip < n
 lm : im < n
 li : ii < n
section
variable {ic gc iv gv ip gp im gm ii gi : Nat} {o : Oc} {ea : List Cl} {c : Cl} {hp : Hp} {n : Nat}
/-- What the walks want of the types of a class. -/
structure KW (o : Oc) (c : Cl) : Prop where
 inn : ∀ x, c.inn.any (fun d => decide (d.nm = x)) = decide (findD c.inn x ≠ 0)
 set : ∀ x, setT c x ≠ 0 → getT c x = setT c x
 i64 : ∀ x, I64 (getT c x)
 linn : c.inn.length ≤ MX
end



section
variable {ic gc iv gv ip gp im gm ii gi : Nat} {o : Oc} {ea : List Cl} {c : Cl}
end
end Go.Ac
end

section
set_option maxRecDepth 4000
set_option linter.unusedSectionVars false
namespace Go.Ac
open Go.Proofs
variable [GwR]
attribute [local simp] Hp.get_set Ag_set Ag_refl Ag_trunc get_trunc_lt

section
variable {ic gc iv gv ip gp im gm ii gi : Nat} {o : Oc} {ea : List Cl} {c : Cl}
/-- A place's lists are not too long. -/
structure BOK (cx : List Pr) (bl : List (List Y)) : Prop where
 len : bl.length ≤ MX
 nb : nbB bl = true
 sz : cx.length + szY bl.flatten ≤ 8388608
end
end Go.Ac
end

section
set_option maxRecDepth 4000
set_option linter.unusedSectionVars false
namespace Go.Ac
open Go.Proofs
variable [GwR]
section
variable {α : Type}
end
def eI (t : Int) : V := .d (.int .i64 t)
def eBo (b : Bool) : V := .d (.bool b)
def eC (k : Cl) : V := aG k.cells


end Go.Ac
end

section
set_option maxRecDepth 4000
set_option linter.unusedSectionVars false
namespace Go.Ac
open Go.Proofs
variable [GwR]
def dS (s : Tx) : V := .d (.str s)
/-- An equation of a node in normal form. -/
structure Nqu where
 k : Int
 left : List Tx
 r : X
 ini : Int
 node : Tx
 args : List X
 ev : Tx
 ck : List On
structure Nn where
 nm : Tx
 inn : List Dc
 out : List Dc
 loc : List Dc
 eqs : List Nqu
def Nqu.cells (q : Nqu) : List D := [.int .i64 q.k, .slice (encS q.left), .int .i64 q.r.k, .int .i64 q.r.o, .int .i64 q.r.t, .int .i64 q.r.v, .str q.r.nm, .slice (encX q.r.args), .int .i64 q.ini, .str q.node, .slice (encX q.args), .str q.ev, .slice (encO q.ck)]
def encN (l : List Nqu) : List (List D) := l.map Nqu.cells
def Nn.cells (n : Nn) : List D := [.str n.nm, .slice (encD n.inn), .slice (encD n.out), .slice (encD n.loc), .slice (encN n.eqs)]
def Nqu.sz (q : Nqu) : Nat := szS q.left + q.r.sz + szT q.node + szX q.args + szT q.ev + szO q.ck + 13
def szN (l : List Nqu) : Nat := (l.map fun q => q.sz).sum
def Nn.sz (n : Nn) : Nat := szT n.nm + szD n.inn + szD n.out + szD n.loc + szN n.eqs + 5
theorem encN_len (l : List Nqu) : (encN l).length = l.length := by simp [encN]
attribute [simp] encN_len
end Go.Ac
end

section
namespace Go.Ac
theorem wkiv {L : Prop} (hl : L) {G G' : Prop} (k : G') (h : Wk L G G' := by
 intro hl hk
 repeat (first
 | apply WP.seq
 | (apply WP.reg; (case hR => dsimp only [prepL, prepO, List.map, gS, gZ]; exact iZ); (case hr => (repeat (first
 | (apply RT.op; simp [hl]; exact iZ; (try dsimp only [putEnv]) <;> exact rfl)
 | (apply RT.call; (iterate 2 simp; exact iZ); exact iZ; (iterate 4 simp [hl]; exact iZ); simp [Is]; (try dsimp only [putEnv]) <;> exact rfl; simp; exact iZ; simp; exact iZ)
 | (apply RT.callV; (iterate 2 simp; exact iZ); exact iZ; (iterate 3 simp [hl]; exact iZ); (try dsimp only [putEnv]) <;> exact rfl)
 | (apply RT.callI (hd := hI1) (hne := hI2) (hw := hI3) (hwr := hI4); (iterate 2 simp; exact iZ); exact iZ; (iterate 2 simp [hl]; exact iZ); (try dsimp only [putEnv]) <;> exact rfl; (first | omega | simp))
 | (apply RT.wr; simp [hl]; exact iZ; (try dsimp only [putEnv]) <;> exact rfl; simp [hl]; exact iZ; (iterate 2 exact iZ); simp; exact iZ))); exact RT.nil); (case hc => (show _ = _; kernel_rfl)); (case ht => simp [hl]; exact iZ))
 | apply WP.block | apply WP.skip | apply WP.exit | apply WP.ret)
 exact hk.out) : G := h hl ⟨k⟩
theorem wkciv {L : Prop} (hl : L) {G G' : Prop} (k : G') (h : Wk L G G' := by
 intro hl hk
 repeat (first
 | apply WP.seq
 | (apply WP.reg; (case hR => dsimp only [prepL, prepO, List.map, gS, gZ]; exact iZ); (case hr => (repeat (first
 | (apply RT.op; simp [hl]; exact iZ; (try dsimp only [putEnv]) <;> exact rfl)
 | (apply RT.call; (iterate 2 simp; exact iZ); exact iZ; (iterate 4 simp [hl]; exact iZ); simp [Is]; (try dsimp only [putEnv]) <;> exact rfl; simp; exact iZ; simp; exact iZ)
 | (apply RT.callV; (iterate 2 simp; exact iZ); exact iZ; (iterate 3 simp [hl]; exact iZ); (try dsimp only [putEnv]) <;> exact rfl)
 | (apply RT.callI (hd := hI1) (hne := hI2) (hw := hI3) (hwr := hI4); (iterate 2 simp; exact iZ); exact iZ; (iterate 2 simp [hl]; exact iZ); (try dsimp only [putEnv]) <;> exact rfl; (first | omega | simp))
 | (apply RT.wr; simp [hl]; exact iZ; (try dsimp only [putEnv]) <;> exact rfl; simp [hl]; exact iZ; (iterate 2 exact iZ); simp; exact iZ))); exact RT.nil); (case hc => (show _ = _; kernel_rfl)); (case ht => simp [hl]; exact iZ))
 | apply WP.block | apply WP.skip | apply WP.exit | apply WP.ret | refine WP.condT rfl ?_ | refine WP.condF rfl ?_)
 exact hk.out) : G := h hl ⟨k⟩
end Go.Ac
end

section
set_option maxRecDepth 4000
set_option linter.unusedSectionVars false
namespace Go.Ac
open Go.Proofs
variable [GwR]
attribute [local simp] Hp.get_set get_trunc_lt
theorem kf83 (r : Nat) : Ob.keep 83 r = Ob.k83 r := by kernel_rfl
theorem kf144 (r : Nat) : Ob.keep 144 r = Ob.k144 r := by kernel_rfl
theorem kf143 (r : Nat) : Ob.keep 143 r = Ob.k143 r := by kernel_rfl
theorem kf142 (r : Nat) : Ob.keep 142 r = Ob.k142 r := by kernel_rfl
attribute [local simp] kf83 Ob.k83 kf144 Ob.k144 kf143 Ob.k143 kf142 Ob.k142
/-- Expressions that are made. -/
def xSt (c : Tx) : X := .mk 12 0 0 0 c []
def xNum (v : Int) : X := .mk 1 0 2 v [] []
def xOp (o : Int) (a b : X) : X := .mk 3 o 0 0 [] [a, b]
def xIf (a b c : X) : X := .mk 4 0 0 0 [] [a, b, c]
theorem state55 (c : Tx) : den Tryz.prog Ob.cfg 83 [dS c] = some (aG (xSt c).cells) := by
 refine den_wp Tryz.func83 rfl (by kernel_rfl) rfl rfl ?_
 refine wkc (jn @envOf.eq_1 (jn @envOf.eq_2 (jn @dS.eq_1 (jn @fillV.eq_1 @fillV.eq_2)))) ?_
 show retQ _ _ _ _ _
 exact ⟨.inr rfl, _, _, rfl, rfl⟩
theorem num78 (v : Int) : den Tryz.prog Ob.cfg 144 [dI v] = some (aG (xNum v).cells) := by
 refine den_wp Tryz.func144 rfl (by kernel_rfl) rfl rfl ?_
 refine wkc (jn @envOf.eq_1 (jn @envOf.eq_2 (jn @dI.eq_1 (jn @fillV.eq_1 @fillV.eq_2)))) ?_
 show retQ _ _ _ _ _
 exact ⟨.inr rfl, _, _, rfl, rfl⟩
theorem xOp_eq (o : Int) (a b : X) : aG (xOp o a b).cells = .agg [.d (.int .i64 3), .d (.int .i64 o), .d (.int .i64 0), .d (.int .i64 0), .d (.str []), .d (.slice [[.int .i64 a.k, .int .i64 a.o, .int .i64 a.t, .int .i64 a.v, .str a.nm, .slice (encX a.args)], [.int .i64 b.k, .int .i64 b.o, .int .i64 b.t, .int .i64 b.v, .str b.nm, .slice (encX b.args)]]) ] := by
 rw [← X.cells_eq, ← X.cells_eq]; rfl
theorem xIf_eq (a b c : X) : aG (xIf a b c).cells = .agg [.d (.int .i64 4), .d (.int .i64 0), .d (.int .i64 0), .d (.int .i64 0), .d (.str []), .d (.slice [[.int .i64 a.k, .int .i64 a.o, .int .i64 a.t, .int .i64 a.v, .str a.nm, .slice (encX a.args)], [.int .i64 b.k, .int .i64 b.o, .int .i64 b.t, .int .i64 b.v, .str b.nm, .slice (encX b.args)], [.int .i64 c.k, .int .i64 c.o, .int .i64 c.t, .int .i64 c.v, .str c.nm, .slice (encX c.args)]]) ] := by
 rw [← X.cells_eq, ← X.cells_eq, ← X.cells_eq]; rfl
theorem op77 (o : Int) (a b : X) : den Tryz.prog Ob.cfg 143 [dI o, aG a.cells, aG b.cells] = some (aG (xOp o a b).cells) := by
 rw [xOp_eq]
 refine den_wp Tryz.func143 rfl (by kernel_rfl) rfl rfl ?_
 refine wkc (jn @envOf.eq_1 (jn @envOf.eq_2 (jn @dI.eq_1 (jn @aG.eq_1 (jn @X.cells_eq (jn @fillV.eq_1 (jn @fillV.eq_2 (jn @closeParts.eq_1 (jn @closeParts.eq_2 (jn @cl2.eq_def (jn @toD_dep (jn @toD_d (jn @toDs.eq_1 (jn @toDs.eq_2 (jn @chunk.eq_1 @chunk.eq_2))))))))))))))) ?_
 show retQ _ _ _ _ _
 exact ⟨.inr rfl, _, _, rfl, rfl⟩
theorem if76 (a b c : X) : den Tryz.prog Ob.cfg 142 [aG a.cells, aG b.cells, aG c.cells] = some (aG (xIf a b c).cells) := by
 rw [xIf_eq]
 refine den_wp Tryz.func142 rfl (by kernel_rfl) rfl rfl ?_
 refine wkc (jn @envOf.eq_1 (jn @envOf.eq_2 (jn @dI.eq_1 (jn @aG.eq_1 (jn @X.cells_eq (jn @fillV.eq_1 (jn @fillV.eq_2 (jn @closeParts.eq_1 (jn @closeParts.eq_2 (jn @cl2.eq_def (jn @toD_dep (jn @toD_d (jn @toDs.eq_1 (jn @toDs.eq_2 (jn @chunk.eq_1 @chunk.eq_2))))))))))))))) ?_
 show retQ _ _ _ _ _
 exact ⟨.inr rfl, _, _, rfl, rfl⟩
end Go.Ac
end

section
set_option maxRecDepth 4000
set_option linter.unusedSectionVars false
namespace Go.Ac
open Go.Proofs
variable [GwR]
attribute [local simp] Hp.get_set get_trunc_lt
/-- Cells that hold these data, as such or as lists of rows. -/
inductive VD : List V → List D → Prop
 | nil : VD [] []
 | d {x : D} {vs : List V} {ds : List D} (h : VD vs ds) : VD (.d x :: vs) (x :: ds)
 | full {r : List (List D)} {vs : List V} {ds : List D} (h : VD vs ds) : VD (.full r :: vs) (.slice r :: ds)
theorem VD.len {vs : List V} {ds : List D} (h : VD vs ds) : vs.length = ds.length := by induction h <;> simp_all
theorem VD.app {vs ws : List V} {ds es : List D} (h : VD vs ds) (k : VD ws es) : VD (vs ++ ws) (ds ++ es) := by
 induction h with
 | nil => exact k
 | d _ ih => exact ih.d
 | full _ ih => exact ih.full
theorem VD.map (l : List D) : VD (l.map V.d) l := by
 induction l with
 | nil => exact .nil
 | cons x r ih => exact ih.d
theorem VD.toDs {vs : List V} {ds : List D} (h : VD vs ds) (look : Look) (f : Nat) : toDs (toD look f) vs = some (ds, []) := by
 induction h with
 | nil => rfl
 | d _ ih => simp only [Ac.toDs, toD_d, ih]; rfl
 | full _ ih => simp only [Ac.toDs, toD_full, ih]; rfl
/-- Rows that hold these data. -/
structure RowD (cs : List V) (l : List (List D)) (sz : Nat) : Prop where
 vd : VD cs l.flatten
 row : ∀ r ∈ l, r.length = sz
theorem RowD.len {cs : List V} {l : List (List D)} {sz : Nat} (h : RowD cs l sz) : cs.length = l.length * sz := by rw [h.vd.len, flat_len h.row]
theorem RowD.take {cs : List V} {l : List (List D)} {sz : Nat} (h : RowD cs l sz) : cs.take (l.length * sz) = cs := by rw [← h.len, List.take_length]
theorem RowD.nil (sz : Nat) : RowD [] [] sz := ⟨.nil, by simp⟩
theorem RowD.snoc {cs vs : List V} {l : List (List D)} {r : List D} {sz : Nat} (h : RowD cs l sz) (hv : VD vs r) (hr : r.length = sz) : RowD (cs ++ vs) (l ++ [r]) sz :=
 ⟨by rw [List.flatten_append]; simpa using h.vd.app hv, fun x hx => by
  rcases List.mem_append.1 hx with hx | hx
  ·exact h.row x hx
  ·rw [List.mem_singleton.1 hx]; exact hr⟩
theorem RowD.app {cs vs : List V} {l k : List (List D)} {sz : Nat} (h : RowD cs l sz) (g : RowD vs k sz) : RowD (cs ++ vs) (l ++ k) sz :=
 ⟨by rw [List.flatten_append]; exact h.vd.app g.vd, fun x hx => by
  rcases List.mem_append.1 hx with hx | hx
  ·exact h.row x hx
  ·exact g.row x hx⟩
theorem RowD.toD {look : Look} {id g sz : Nat} {ro : Bool} {cs : List V} {l : List (List D)} {cap : Option Nat} (h : RowD cs l sz) (hl : look id = some ⟨g, ro, cs⟩) : toD look depthD (.osl id g 0 l.length sz cap) = some (.slice l, [id]) := by
 rw [toD_dep]
 have : live look id g = some ⟨g, ro, cs⟩ := by simp [live, hl]
 rw [this]
 simp only [Nat.zero_add, List.drop_zero, h.len, h.take, h.vd.toDs, chunk_flat h.row, nble_d, Nat.le_refl, decide_true]
theorem RowD.close {look : Look} {id g sz : Nat} {ro : Bool} {cs : List V} {l : List (List D)} {cap : Option Nat} (h : RowD cs l sz) (hl : look id = some ⟨g, ro, cs⟩) : closeT look (.osl id g 0 l.length sz cap) = some (dL l, [id]) := by
 show ofD (Ac.toD look depthD _) = _
 rw [h.toD hl]; rfl

end Go.Ac
end

section
set_option maxRecDepth 4000
set_option linter.unusedSectionVars false
namespace Go.Ac
open Go.Proofs
variable [GwR]
attribute [local simp] Hp.get_set Ag_set Ag_refl Ag_trunc get_trunc_lt

/-- A memory in which a class object lies, with these maps. -/
structure KG (ic gc iv gv ip gp im gm ii gi : Nat) (o : Oc) (ea : List Cl) (c : Cl) (lv : List (Tx × Int)) (lp : List (Tx × Bool)) (lm : List (Tx × Int)) (li : List (Tx × Cl)) (hp : Hp) (n : Nat) : Prop where
 co : hp.get ic = some ⟨gc, false, [V.d (.slice (encE o.en)), V.d (.slice (encC ea)), V.d (.str c.nm), V.d (.slice (encD c.inn)), V.d (.slice (encD c.out)), V.d (.slice (encD c.loc)), V.d (.slice (encM c.mems)), V.d (.slice (encJ c.ins)), V.d (.slice (encY c.step)), .mp iv gv, .mp ip gp, .mp im gm, .mp ii gi]⟩
 vars : hp.get iv = some ⟨gv, false, [mpC eI lv]⟩
 ports : hp.get ip = some ⟨gp, false, [mpC eBo lp]⟩
 mems : hp.get im = some ⟨gm, false, [mpC eI lm]⟩
 ins : hp.get ii = some ⟨gi, false, [mpC eC li]⟩
 lc : ic < n
 lv : iv < n
 lp : ip < n
 lm : im < n
 li : ii < n
section
variable {ic gc iv gv ip gp im gm ii gi : Nat} {o : Oc} {ea : List Cl} {c : Cl} {lv lm : List (Tx × Int)} {lp : List (Tx × Bool)} {li : List (Tx × Cl)}
end
end Go.Ac
end

section
set_option maxRecDepth 4000
set_option linter.unusedSectionVars false
namespace Go.Ac
open Go.Proofs
variable [GwR]
attribute [local simp] Hp.get_set Ag_set Ag_refl Ag_trunc get_trunc_lt

/-- The insts map lies apart. -/
structure KD (ic iv ip im ii : Nat) : Prop where
 c : ic ≠ ii
 v : iv ≠ ii
 p : ip ≠ ii
 m : im ≠ ii

section
variable {ic gc iv gv ip gp im gm ii gi : Nat} {o : Oc} {ea : List Cl} {c : Cl} {lv lm : List (Tx × Int)} {lp : List (Tx × Bool)}
end
end Go.Ac
end

section
set_option maxRecDepth 4000
set_option linter.unusedSectionVars false
namespace Go.Ac
open Go.Proofs
variable [GwR]
attribute [local simp] Hp.get_set Ag_set Ag_refl Ag_trunc get_trunc_lt

/-- What the maps say of a class whose declarations are right. -/
structure KF (o : Oc) (ea : List Cl) (c : Cl) (lv : List (Tx × Int)) (lp : List (Tx × Bool)) (lm : List (Tx × Int)) (li : List (Tx × Cl)) : Prop where
 vars : ∀ x, mget lv x = if getT c x = 0 then none else some (getT c x)
 ports : ∀ x, mget lp x = if setT c x = 0 then none else some true
 mems : ∀ x, mget lm x = if findM c.mems x = 0 then none else some (findM c.mems x)
 ins : ∀ x, mget li x = if (findI c.ins o.cl x).2 = true then some (findI c.ins o.cl x).1 else none
 kw : KW o c
 pos : ∀ x, getT c x ≠ 0 → 0 < sizeE o.en (getT c x)
section
variable {ic gc iv gv ip gp im gm ii gi : Nat} {o : Oc} {ea : List Cl} {c : Cl} {lv lm : List (Tx × Int)} {lp : List (Tx × Bool)} {li : List (Tx × Cl)}
theorem KG.at {hp : Hp} {n : Nat} (h : KG ic gc iv gv ip gp im gm ii gi o ea c lv lp lm li hp n) (f : KF o ea c lv lp lm li) : KAt ic gc iv gv ip gp im gm ii gi o ea c hp n :=
 ⟨h.co, ⟨lv, h.vars, f.vars⟩, ⟨lp, h.ports, f.ports⟩, ⟨lm, h.mems, f.mems⟩, ⟨li, h.ins, f.ins⟩, h.lc, h.lv, h.lp, h.lm, h.li⟩
end
end Go.Ac
end

section
set_option maxRecDepth 4000
set_option linter.unusedSectionVars false
namespace Go.Ac
open Go.Proofs
variable [GwR]
attribute [local simp] Hp.get_set get_trunc_lt
def encT (l : List Bool) : List (List D) := l.map fun b => [.bool b]
theorem encT_len (l : List Bool) : (encT l).length = l.length := by simp [encT]
theorem encT_at {l : List Bool} {i : Nat} {b : Bool} (h : l[i]? = some b) : (encT l)[i]? = some [.bool b] := by unfold encT; simp [h]
theorem encT_row (l : List Bool) : ∀ r ∈ encT l, r.length = 1 := by unfold encT; intro r hr; obtain ⟨x, _, rfl⟩ := List.mem_map.1 hr; rfl
attribute [simp] encT_len
def hdB (s : List Bool) : Bool := match s with | [] => false | b :: _ => b
def xBl (b : Bool) : X := .mk 1 0 1 (if b = true then 1 else 0) [] []
/-- The expression of some letters. -/
def ltX (c : Tx) : Nat → Nat → List Bool → X
 | 0, _, _ => .mk 0 0 0 0 [] []
 | N + 1, lo, s => if s.all (fun b => decide (b = hdB s)) = true then xBl (hdB s)
  else xIf (xOp 13 (xSt c) (xNum ((lo + s.length / 2 : Nat) : Int))) (ltX c N lo (s.take (s.length / 2))) (ltX c N (lo + s.length / 2) (s.drop (s.length / 2)))
theorem bool_beq (a b : Bool) : (a == b) = decide (a = b) := by cases a <;> cases b <;> rfl

theorem kf296 (r : Nat) : Ob.keep 296 r = Ob.k296 r := by kernel_rfl
theorem kf215 (r : Nat) : Ob.keep 215 r = Ob.k215 r := by kernel_rfl
attribute [local simp] kf296 Ob.k296 kf215 Ob.k215
theorem index96 (l : List Bool) (x : Bool) (hl : l.length ≤ MX) : den Tryz.prog Ob.cfg 296 [dL (encT l), dB x] = some (dI (ixP (fun y => decide (y = x)) l)) := by
 unfold MX at hl
 refine den_wp Tryz.func296 rfl (by kernel_rfl) rfl rfl ?_
 refine wkc (jn @envOf.eq_1 (jn @envOf.eq_2 (jn @dL.eq_1 @dB.eq_1))) ?_
 apply WP.loop' (I := fun D s => ∃ i : Nat, i + D = l.length ∧ (l.take i).all (fun y => !decide (y = x)) = true ∧ SE [(0, dL (encT l)), (1, dB x), (7, dI l.length), (8, dI i)] [] 0 s) (d := l.length)
 ·exact ⟨0, by simp, by simp, SE.mk (by simp [dL, dI, dB]) rfl⟩
 rintro D _ ⟨i, hi, hno, cc, rfl⟩
 refine wk (jn @dI.eq_1 (jn @dL.eq_1 @dB.eq_1)) ?_
 show WP _ _ _ _ _ _
 refine WP.cond _ rfl (fun hb => ?_) (fun hb => ?_)
 ·simp at hb
  have hb' : i < l.length := by omega
  obtain ⟨y, hy, hym, hix⟩ := at_lt hb'
  have hy' := encT_at hy
  have hw := w_succ hb' (by omega)
  have hs := all_snoc (p := fun y => !decide (y = x)) hy
  by_cases hq : y = x
  ·have hq' := eq_true hq.symm
   rw [ixP_some hno hy (decide_eq_true hq)]
   refine wkc (jn @dI.eq_1 (jn @dL.eq_1 (jn @dB.eq_1 (jn @hix (jn @hy' (jn @bool_beq @hq')))))) ?_
   show retQ _ _ _ _ _
   exact ⟨.inr rfl, _, _, rfl, rfl⟩
  ·have hq' := eq_false (fun e => hq (Eq.symm e))
   refine wkc (jn @dI.eq_1 (jn @dL.eq_1 (jn @dB.eq_1 (jn @hix (jn @hy' (jn @bool_beq @hq')))))) ?_
   refine loop_next (by simp [hw]; exact Is.rfl) ?_
   exact ⟨D - 1, by omega, i + 1, by omega, by rw [hs, hno, decide_eq_false hq]; rfl, SE.mk (by simp [dI, dL, dB, hw]) rfl⟩
 ·simp at hb
  have hie : i = l.length := by omega
  rw [hie, List.take_length] at hno
  rw [ixP_none hno]
  refine wkc (jn @dI.eq_1 (jn @dL.eq_1 @dB.eq_1)) ?_
  show retQ _ _ _ _ _
  exact ⟨.inr rfl, _, _, rfl, rfl⟩
theorem contains88 (l : List Bool) (x : Bool) (hl : l.length ≤ MX) : den Tryz.prog Ob.cfg 215 [dL (encT l), dB x] = some (dB (l.any fun y => decide (y = x))) := by
 have h := index96 l x hl
 simp only [dL, dB, dI] at h
 rw [← ixP_any]
 refine den_wp Tryz.func215 rfl (by kernel_rfl) rfl rfl ?_
 refine wkc (jn @envOf.eq_1 (jn @envOf.eq_2 (jn @dL.eq_1 (jn @dB.eq_1 @h)))) ?_
 show retQ _ _ _ _ _
 exact ⟨.inr rfl, _, _, rfl, rfl⟩
theorem slice_mid (look : Look) (e b : Nat) (z : Option (List V)) {sz : Nat} {rows : List (List D)} (hr : ∀ r ∈ rows, r.length = sz) {lo hi : Nat} (h1 : lo ≤ hi) (h2 : hi ≤ rows.length) :
  sliceV look ⟨.slice e sz b, 1, 24, z⟩ (.d (.slice rows)) (some (.d (.int .i64 lo))) (some (.d (.int .i64 hi))) none = ret (.d (.slice ((rows.take hi).drop lo))) := by
 have ha : rows.all (fun r => Nat.beq r.length sz) = true := by rw [List.all_eq_true]; intro r hm; rw [hr r hm]; exact nbeq_self sz
 have e1 : bnd (some (V.d (.int .i64 (lo : Int)))) 0 = some lo := by unfold bnd; simp
 have e2 : bnd (some (V.d (.int .i64 (hi : Int)))) rows.length = some hi := by unfold bnd; simp
 unfold sliceV
 simp only [e1, e2, ha]
 rw [if_pos ⟨h1, h2, trivial⟩]
end Go.Ac
end
