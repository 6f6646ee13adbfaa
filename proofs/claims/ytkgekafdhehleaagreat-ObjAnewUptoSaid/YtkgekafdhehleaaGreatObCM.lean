/- Lists compared. -/
import Derived.Test.YtkgekafdhehleaaGreatAcQvM
import Derived.Test.YtkgekafdhehleaaGreatChecked
set_option linter.unusedVariables false
set_option linter.unusedSimpArgs false
section
namespace Go.Ac
theorem iZ {α : Sort _} {x : α} : Is x x := Is.rfl
theorem gS {α : Type _} {x : α} {i : Nat} {l : List α} : (x :: l)[i + 1]? = l[i]? := rfl
theorem gZ {α : Type _} {x : α} {l : List α} : (x :: l)[0]? = some x := rfl

/-- One walk leads from a goal to another. -/
structure Hd (G : Prop) : Prop where
 out : G
def Wk (L G G' : Prop) : Prop := L → Hd G' → G

theorem wk {L : Prop} (hl : L) {G G' : Prop} (k : G') (h : Wk L G G' := by
 intro hl hk
 repeat (first
 | apply WP.seq
 | (apply WP.reg; (case hR => dsimp only [prepL, prepO, List.map, gS, gZ]; exact iZ); (case hr => (repeat (first
 | (apply RT.op; simp [hl]; exact iZ; (try dsimp only [putEnv]) <;> exact rfl)
 | (apply RT.call; (iterate 2 simp; exact iZ); exact iZ; (iterate 4 simp [hl]; exact iZ); simp [Is]; (try dsimp only [putEnv]) <;> exact rfl; simp; exact iZ; simp; exact iZ)
 | (apply RT.wr; simp [hl]; exact iZ; (try dsimp only [putEnv]) <;> exact rfl; simp [hl]; exact iZ; (iterate 2 exact iZ); simp; exact iZ))); exact RT.nil); (case hc => (show _ = _; kernel_rfl)); (case ht => simp [hl]; exact iZ))
 | apply WP.block | apply WP.skip | apply WP.exit | apply WP.ret)
 exact hk.out) : G := h hl ⟨k⟩
theorem wkqn {L : Prop} (hl : L) {G G' : Prop} (k : G') (h : Wk L G G' := by
 intro hl hk
 repeat (first
 | apply WP.seq
 | (apply WP.reg; (case hR => dsimp only [prepL, prepO, List.map, gS, gZ]; exact iZ); (case hr => (repeat (first
 | (apply RT.op; simp [hl]; exact iZ; (try dsimp only [putEnv]) <;> exact rfl)
 | (apply RT.call; (iterate 2 simp; exact iZ); exact iZ; (iterate 4 simp [hl]; exact iZ); simp [Is]; (try dsimp only [putEnv]) <;> exact rfl; simp; exact iZ; simp; exact iZ)
 | (apply RT.clone; (iterate 2 simp; exact iZ); exact iZ; (iterate 2 simp [hl]; exact iZ); (first | assumption | (simp [fitsB]; omega)); (try dsimp only [putEnv]) <;> exact rfl; simp [hl]; exact iZ; simp; exact iZ)
 | (apply RT.callQ; (iterate 2 simp; exact iZ); exact iZ; (iterate 3 simp [hl]; exact iZ); (try dsimp only [putEnv]) <;> exact rfl)
 | (apply RT.wr; simp [hl]; exact iZ; (try dsimp only [putEnv]) <;> exact rfl; simp [hl]; exact iZ; (iterate 2 exact iZ); simp; exact iZ))); exact RT.nil); (case hc => (show _ = _; kernel_rfl)); (case ht => simp [hl]; exact iZ))
 | apply WP.block | apply WP.skip | apply WP.exit | apply WP.ret)
 exact hk.out) : G := h hl ⟨k⟩
theorem wkv {L : Prop} (hl : L) {G G' : Prop} (k : G') (h : Wk L G G' := by
 intro hl hk
 repeat (first
 | apply WP.seq
 | (apply WP.reg; (case hR => dsimp only [prepL, prepO, List.map, gS, gZ]; exact iZ); (case hr => (repeat (first
 | (apply RT.op; simp [hl]; exact iZ; (try dsimp only [putEnv]) <;> exact rfl)
 | (apply RT.call; (iterate 2 simp; exact iZ); exact iZ; (iterate 4 simp [hl]; exact iZ); simp [Is]; (try dsimp only [putEnv]) <;> exact rfl; simp; exact iZ; simp; exact iZ)
 | (apply RT.callV; (iterate 2 simp; exact iZ); exact iZ; (iterate 3 simp [hl]; exact iZ); (try dsimp only [putEnv]) <;> exact rfl)
 | (apply RT.wr; simp [hl]; exact iZ; (try dsimp only [putEnv]) <;> exact rfl; simp [hl]; exact iZ; (iterate 2 exact iZ); simp; exact iZ))); exact RT.nil); (case hc => (show _ = _; kernel_rfl)); (case ht => simp [hl]; exact iZ))
 | apply WP.block | apply WP.skip | apply WP.exit | apply WP.ret)
 exact hk.out) : G := h hl ⟨k⟩
theorem wkc {L : Prop} (hl : L) {G G' : Prop} (k : G') (h : Wk L G G' := by
 intro hl hk
 repeat (first
 | apply WP.seq
 | (apply WP.reg; (case hR => dsimp only [prepL, prepO, List.map, gS, gZ]; exact iZ); (case hr => (repeat (first
 | (apply RT.op; simp [hl]; exact iZ; (try dsimp only [putEnv]) <;> exact rfl)
 | (apply RT.call; (iterate 2 simp; exact iZ); exact iZ; (iterate 4 simp [hl]; exact iZ); simp [Is]; (try dsimp only [putEnv]) <;> exact rfl; simp; exact iZ; simp; exact iZ)
 | (apply RT.wr; simp [hl]; exact iZ; (try dsimp only [putEnv]) <;> exact rfl; simp [hl]; exact iZ; (iterate 2 exact iZ); simp; exact iZ))); exact RT.nil); (case hc => (show _ = _; kernel_rfl)); (case ht => simp [hl]; exact iZ))
 | apply WP.block | apply WP.skip | apply WP.exit | apply WP.ret | refine WP.condT rfl ?_ | refine WP.condF rfl ?_)
 exact hk.out) : G := h hl ⟨k⟩
theorem wkcqn {L : Prop} (hl : L) {G G' : Prop} (k : G') (h : Wk L G G' := by
 intro hl hk
 repeat (first
 | apply WP.seq
 | (apply WP.reg; (case hR => dsimp only [prepL, prepO, List.map, gS, gZ]; exact iZ); (case hr => (repeat (first
 | (apply RT.op; simp [hl]; exact iZ; (try dsimp only [putEnv]) <;> exact rfl)
 | (apply RT.call; (iterate 2 simp; exact iZ); exact iZ; (iterate 4 simp [hl]; exact iZ); simp [Is]; (try dsimp only [putEnv]) <;> exact rfl; simp; exact iZ; simp; exact iZ)
 | (apply RT.clone; (iterate 2 simp; exact iZ); exact iZ; (iterate 2 simp [hl]; exact iZ); (first | assumption | (simp [fitsB]; omega)); (try dsimp only [putEnv]) <;> exact rfl; simp [hl]; exact iZ; simp; exact iZ)
 | (apply RT.callQ; (iterate 2 simp; exact iZ); exact iZ; (iterate 3 simp [hl]; exact iZ); (try dsimp only [putEnv]) <;> exact rfl)
 | (apply RT.wr; simp [hl]; exact iZ; (try dsimp only [putEnv]) <;> exact rfl; simp [hl]; exact iZ; (iterate 2 exact iZ); simp; exact iZ))); exact RT.nil); (case hc => (show _ = _; kernel_rfl)); (case ht => simp [hl]; exact iZ))
 | apply WP.block | apply WP.skip | apply WP.exit | apply WP.ret | refine WP.condT rfl ?_ | refine WP.condF rfl ?_)
 exact hk.out) : G := h hl ⟨k⟩
theorem wkcv {L : Prop} (hl : L) {G G' : Prop} (k : G') (h : Wk L G G' := by
 intro hl hk
 repeat (first
 | apply WP.seq
 | (apply WP.reg; (case hR => dsimp only [prepL, prepO, List.map, gS, gZ]; exact iZ); (case hr => (repeat (first
 | (apply RT.op; simp [hl]; exact iZ; (try dsimp only [putEnv]) <;> exact rfl)
 | (apply RT.call; (iterate 2 simp; exact iZ); exact iZ; (iterate 4 simp [hl]; exact iZ); simp [Is]; (try dsimp only [putEnv]) <;> exact rfl; simp; exact iZ; simp; exact iZ)
 | (apply RT.callV; (iterate 2 simp; exact iZ); exact iZ; (iterate 3 simp [hl]; exact iZ); (try dsimp only [putEnv]) <;> exact rfl)
 | (apply RT.wr; simp [hl]; exact iZ; (try dsimp only [putEnv]) <;> exact rfl; simp [hl]; exact iZ; (iterate 2 exact iZ); simp; exact iZ))); exact RT.nil); (case hc => (show _ = _; kernel_rfl)); (case ht => simp [hl]; exact iZ))
 | apply WP.block | apply WP.skip | apply WP.exit | apply WP.ret | refine WP.condT rfl ?_ | refine WP.condF rfl ?_)
 exact hk.out) : G := h hl ⟨k⟩
end Go.Ac
end

section
namespace Go.Ac
open Go.Proofs

/-- A text. -/
abbrev Tx := List UInt8
/-- An expression. -/
inductive X where
 | mk (k o t v : Int) (nm : Tx) (args : List X)
/-- A statement. -/
inductive Y where
 | mk (k : Int) (nm : Tx) (t : Int) (r : X) (outs : List Tx) (args : List X) (brs : List (List Y))
structure On where
 nm : Tx
 t : Int
 tag : Int
structure Dc where
 nm : Tx
 t : Int
 ck : List On
structure En where
 nm : Tx
 tags : List Tx
structure Mm where
 nm : Tx
 t : Int
 ini : Int
structure Ii where
 nm : Tx
 cl : Tx
/-- A class. -/
structure Cl where
 nm : Tx
 inn : List Dc
 out : List Dc
 loc : List Dc
 mems : List Mm
 ins : List Ii
 step : List Y
/-- Object code. -/
structure Oc where
 en : List En
 cl : List Cl

def ni (n : Int) : D := .int .i64 n
def dI (n : Int) : V := .d (.int .i64 n)
def dB (b : Bool) : V := .d (.bool b)
def dS (s : Tx) : V := .d (.str s)
def encI (l : List Int) : List (List D) := l.map fun n => [.int .i64 n]
def encS (l : List Tx) : List (List D) := l.map fun s => [.str s]
mutual
def X.cells : X → List D
 | .mk k o t v nm args => [.int .i64 k, .int .i64 o, .int .i64 t, .int .i64 v, .str nm, .slice (encX args)]
def encX : List X → List (List D)
 | [] => []
 | x :: r => x.cells :: encX r
end
mutual
def Y.cells : Y → List D
 | .mk k nm t r outs args brs => [.int .i64 k, .str nm, .int .i64 t] ++ r.cells ++ [.slice (encS outs), .slice (encX args), .slice (encB brs)]
def encY : List Y → List (List D)
 | [] => []
 | y :: r => y.cells :: encY r
def encB : List (List Y) → List (List D)
 | [] => []
 | b :: r => [.slice (encY b)] :: encB r
end
def On.cells (x : On) : List D := [.str x.nm, .int .i64 x.t, .int .i64 x.tag]
def encO (l : List On) : List (List D) := l.map On.cells
def Dc.cells (x : Dc) : List D := [.str x.nm, .int .i64 x.t, .slice (encO x.ck)]
def encD (l : List Dc) : List (List D) := l.map Dc.cells
def En.cells (x : En) : List D := [.str x.nm, .slice (encS x.tags)]
def encE (l : List En) : List (List D) := l.map En.cells
def Mm.cells (x : Mm) : List D := [.str x.nm, .int .i64 x.t, .int .i64 x.ini]
def encM (l : List Mm) : List (List D) := l.map Mm.cells
def Ii.cells (x : Ii) : List D := [.str x.nm, .str x.cl]
def encJ (l : List Ii) : List (List D) := l.map Ii.cells
def Cl.cells (x : Cl) : List D := [.str x.nm, .slice (encD x.inn), .slice (encD x.out), .slice (encD x.loc), .slice (encM x.mems), .slice (encJ x.ins), .slice (encY x.step)]
def encC (l : List Cl) : List (List D) := l.map Cl.cells
def Oc.cells (x : Oc) : List D := [.slice (encE x.en), .slice (encC x.cl)]
/-- A struct as an argument. -/
def aG (l : List D) : V := .agg (l.map .d)
def dL (l : List (List D)) : V := .d (.slice l)

def X.k : X → Int | .mk k _ _ _ _ _ => k
def X.o : X → Int | .mk _ o _ _ _ _ => o
def X.t : X → Int | .mk _ _ t _ _ _ => t
def X.v : X → Int | .mk _ _ _ v _ _ => v
def X.nm : X → Tx | .mk _ _ _ _ n _ => n
def X.args : X → List X | .mk _ _ _ _ _ l => l
def Y.k : Y → Int | .mk k _ _ _ _ _ _ => k
def Y.nm : Y → Tx | .mk _ n _ _ _ _ _ => n
def Y.t : Y → Int | .mk _ _ t _ _ _ _ => t
def Y.r : Y → X | .mk _ _ _ r _ _ _ => r
def Y.outs : Y → List Tx | .mk _ _ _ _ o _ _ => o
def Y.args : Y → List X | .mk _ _ _ _ _ a _ => a
def Y.brs : Y → List (List Y) | .mk _ _ _ _ _ _ b => b
theorem X.cells_eq (x : X) : x.cells = [.int .i64 x.k, .int .i64 x.o, .int .i64 x.t, .int .i64 x.v, .str x.nm, .slice (encX x.args)] := by cases x; simp [X.cells, X.k, X.o, X.t, X.v, X.nm, X.args]
theorem Y.cells_eq (y : Y) : y.cells = [.int .i64 y.k, .str y.nm, .int .i64 y.t, .int .i64 y.r.k, .int .i64 y.r.o, .int .i64 y.r.t, .int .i64 y.r.v, .str y.r.nm, .slice (encX y.r.args), .slice (encS y.outs), .slice (encX y.args), .slice (encB y.brs)] := by
 cases y; simp [Y.cells, X.cells_eq, Y.k, Y.nm, Y.t, Y.r, Y.outs, Y.args, Y.brs]
theorem encX_map : ∀ l : List X, encX l = l.map X.cells
 | [] => by simp [encX]
 | x :: r => by simp [encX, encX_map r]
theorem encY_map : ∀ l : List Y, encY l = l.map Y.cells
 | [] => by simp [encY]
 | x :: r => by simp [encY, encY_map r]
theorem encB_map : ∀ l : List (List Y), encB l = l.map fun b => [.slice (encY b)]
 | [] => by simp [encB]
 | x :: r => by simp [encB, encB_map r]

theorem encI_len (l : List Int) : (encI l).length = l.length := by simp [encI]
theorem encI_at {l : List Int} {i : Nat} {y : Int} (h : l[i]? = some y) : (encI l)[i]? = some [.int .i64 y] := by unfold encI; simp [h]
theorem encS_len (l : List Tx) : (encS l).length = l.length := by simp [encS]
theorem encS_at {l : List Tx} {i : Nat} {y : Tx} (h : l[i]? = some y) : (encS l)[i]? = some [.str y] := by unfold encS; simp [h]
theorem encX_len (l : List X) : (encX l).length = l.length := by simp [encX_map]
theorem encX_at {l : List X} {i : Nat} {y : X} (h : l[i]? = some y) : (encX l)[i]? = some y.cells := by rw [encX_map]; simp [h]
theorem encY_len (l : List Y) : (encY l).length = l.length := by simp [encY_map]
theorem encY_at {l : List Y} {i : Nat} {y : Y} (h : l[i]? = some y) : (encY l)[i]? = some y.cells := by rw [encY_map]; simp [h]
theorem encB_len (l : List (List Y)) : (encB l).length = l.length := by simp [encB_map]
theorem encB_at {l : List (List Y)} {i : Nat} {y : (List Y)} (h : l[i]? = some y) : (encB l)[i]? = some [.slice (encY y)] := by rw [encB_map]; simp [h]
theorem encO_len (l : List On) : (encO l).length = l.length := by simp [encO]
theorem encD_len (l : List Dc) : (encD l).length = l.length := by simp [encD]
theorem encD_at {l : List Dc} {i : Nat} {y : Dc} (h : l[i]? = some y) : (encD l)[i]? = some y.cells := by unfold encD; simp [h]
theorem encE_len (l : List En) : (encE l).length = l.length := by simp [encE]
theorem encE_at {l : List En} {i : Nat} {y : En} (h : l[i]? = some y) : (encE l)[i]? = some y.cells := by unfold encE; simp [h]
theorem encM_len (l : List Mm) : (encM l).length = l.length := by simp [encM]
theorem encM_at {l : List Mm} {i : Nat} {y : Mm} (h : l[i]? = some y) : (encM l)[i]? = some y.cells := by unfold encM; simp [h]
theorem encJ_len (l : List Ii) : (encJ l).length = l.length := by simp [encJ]
theorem encJ_at {l : List Ii} {i : Nat} {y : Ii} (h : l[i]? = some y) : (encJ l)[i]? = some y.cells := by unfold encJ; simp [h]
theorem encC_len (l : List Cl) : (encC l).length = l.length := by simp [encC]
theorem encC_at {l : List Cl} {i : Nat} {y : Cl} (h : l[i]? = some y) : (encC l)[i]? = some y.cells := by unfold encC; simp [h]

/-! ### Sizes -/
def MX : Nat := 1152921504606846976
def szT (s : Tx) : Nat := s.length + 1
def szS (l : List Tx) : Nat := (l.map szT).sum
mutual
def X.sz : X → Nat
 | .mk _ _ _ _ nm args => szT nm + szX args + 6
def szX : List X → Nat
 | [] => 0
 | x :: r => x.sz + szX r
end
mutual
def Y.sz : Y → Nat
 | .mk _ nm _ r outs args brs => szT nm + r.sz + szS outs + szX args + szB brs + 12
def szY : List Y → Nat
 | [] => 0
 | y :: r => y.sz + szY r
def szB : List (List Y) → Nat
 | [] => 0
 | b :: r => szY b + 1 + szB r
end
def On.sz (x : On) : Nat := szT x.nm + 3
def szO (l : List On) : Nat := (l.map On.sz).sum
def Dc.sz (x : Dc) : Nat := szT x.nm + szO x.ck + 3
def szD (l : List Dc) : Nat := (l.map Dc.sz).sum
def En.sz (x : En) : Nat := szT x.nm + szS x.tags + 2
def szE (l : List En) : Nat := (l.map En.sz).sum
def Mm.sz (x : Mm) : Nat := szT x.nm + 3
def szM (l : List Mm) : Nat := (l.map Mm.sz).sum
def Ii.sz (x : Ii) : Nat := szT x.nm + szT x.cl + 2
def szJ (l : List Ii) : Nat := (l.map Ii.sz).sum
def Cl.sz (x : Cl) : Nat := szT x.nm + szD x.inn + szD x.out + szD x.loc + szM x.mems + szJ x.ins + szY x.step + 7
def szC (l : List Cl) : Nat := (l.map Cl.sz).sum
def Oc.sz (x : Oc) : Nat := szE x.en + szC x.cl + 2
theorem X.sz_eq (x : X) : x.sz = szT x.nm + szX x.args + 6 := by cases x; simp [X.sz, X.nm, X.args]
theorem Y.sz_eq (y : Y) : y.sz = szT y.nm + y.r.sz + szS y.outs + szX y.args + szB y.brs + 12 := by cases y; simp [Y.sz, Y.nm, Y.r, Y.outs, Y.args, Y.brs]
theorem sum_mem {α : Type} {f : α → Nat} : ∀ {l : List α} {x : α}, x ∈ l → f x ≤ (l.map f).sum
 | y :: r, x, h => by
  simp only [List.mem_cons] at h
  simp only [List.map_cons, List.sum_cons]
  rcases h with rfl | h
  ·omega
  ·have := sum_mem (f := f) h; omega
theorem sum_len {α : Type} {f : α → Nat} (hf : ∀ x, 1 ≤ f x) : ∀ {l : List α}, l.length ≤ (l.map f).sum
 | [] => by simp
 | y :: r => by have := sum_len hf (l := r); have := hf y; simp; omega
theorem szX_sum : ∀ l : List X, szX l = (l.map X.sz).sum
 | [] => by simp [szX]
 | x :: r => by simp [szX, szX_sum r]
theorem szY_sum : ∀ l : List Y, szY l = (l.map Y.sz).sum
 | [] => by simp [szY]
 | x :: r => by simp [szY, szY_sum r]
theorem szB_sum : ∀ l : List (List Y), szB l = (l.map fun b => szY b + 1).sum
 | [] => by simp [szB]
 | x :: r => by simp [szB, szB_sum r]
theorem mem_szX {l : List X} {x : X} (h : x ∈ l) : x.sz ≤ szX l := by rw [szX_sum]; exact sum_mem h
theorem mem_szY {l : List Y} {x : Y} (h : x ∈ l) : x.sz ≤ szY l := by rw [szY_sum]; exact sum_mem h
theorem mem_szB {l : List (List Y)} {x : List Y} (h : x ∈ l) : szY x < szB l := by rw [szB_sum]; have h1 := sum_mem (f := fun b => szY b + 1) h; omega
theorem len_szX (l : List X) : l.length ≤ szX l := by rw [szX_sum]; exact sum_len fun x => by rw [X.sz_eq]; omega
theorem len_szY (l : List Y) : l.length ≤ szY l := by rw [szY_sum]; exact sum_len fun x => by rw [Y.sz_eq]; omega
theorem len_szB (l : List (List Y)) : l.length ≤ szB l := by rw [szB_sum]; exact sum_len fun x => by omega
theorem len_szS (l : List Tx) : l.length ≤ szS l := sum_len fun x => by unfold szT; omega
theorem len_szD (l : List Dc) : l.length ≤ szD l := sum_len fun x => by unfold Dc.sz; omega
theorem mem_szE {l : List En} {x : En} (h : x ∈ l) : En.sz x ≤ szE l := sum_mem h
theorem len_szE (l : List En) : l.length ≤ szE l := sum_len fun x => by unfold En.sz; omega
theorem len_szM (l : List Mm) : l.length ≤ szM l := sum_len fun x => by unfold Mm.sz; omega
theorem len_szJ (l : List Ii) : l.length ≤ szJ l := sum_len fun x => by unfold Ii.sz; omega
theorem mem_szC {l : List Cl} {x : Cl} (h : x ∈ l) : Cl.sz x ≤ szC l := sum_mem h
theorem len_szC (l : List Cl) : l.length ≤ szC l := sum_len fun x => by unfold Cl.sz; omega

theorem idx_lt {i n : Nat} (h : i < n) : idx (i : Int) n = some i := by
 unfold idx
 rw [if_pos ⟨by omega, by omega⟩]
 simp
theorem nbeq_self (n : Nat) : Nat.beq n n = true := Nat.beq_refl n

/-! ### Types -/
noncomputable def zOf (t : TypeId) : Option (List V) := match mkTI Tryz.prog t with | some i => i.zero | none => none
theorem ti3 : mkTI Tryz.prog 3 = some ⟨.int .i64, 1, 8, zOf 3⟩ := by kernel_rfl
theorem ti4 : mkTI Tryz.prog 4 = some ⟨.bool, 1, 1, zOf 4⟩ := by kernel_rfl
theorem ti9 : mkTI Tryz.prog 9 = some ⟨.str, 1, 16, zOf 9⟩ := by kernel_rfl
theorem ti22 : mkTI Tryz.prog 22 = some ⟨.slice 76 2 40, 1, 24, zOf 22⟩ := by kernel_rfl
theorem ti23 : mkTI Tryz.prog 23 = some ⟨.slice 36 7 160, 1, 24, zOf 23⟩ := by kernel_rfl
theorem ti25 : mkTI Tryz.prog 25 = some ⟨.struct [(0, 1, false), (1, 1, false)], 2, 48, zOf 25⟩ := by kernel_rfl
theorem ti28 : mkTI Tryz.prog 28 = some ⟨.int .i64, 1, 8, zOf 28⟩ := by kernel_rfl
theorem ti30 : mkTI Tryz.prog 30 = some ⟨.slice 40 1 24, 1, 24, zOf 30⟩ := by kernel_rfl
theorem ti31 : mkTI Tryz.prog 31 = some ⟨.slice 46 3 48, 1, 24, zOf 31⟩ := by kernel_rfl
theorem ti32 : mkTI Tryz.prog 32 = some ⟨.slice 103 3 32, 1, 24, zOf 32⟩ := by kernel_rfl
theorem ti33 : mkTI Tryz.prog 33 = some ⟨.slice 106 2 32, 1, 24, zOf 33⟩ := by kernel_rfl
theorem ti34 : mkTI Tryz.prog 34 = some ⟨.slice 74 12 176, 1, 24, zOf 34⟩ := by kernel_rfl
theorem ti36 : mkTI Tryz.prog 36 = some ⟨.struct [(0, 1, false), (1, 1, false), (2, 1, false), (3, 1, false), (4, 1, false), (5, 1, false), (6, 1, false)], 7, 160, zOf 36⟩ := by kernel_rfl
theorem ti37 : mkTI Tryz.prog 37 = some ⟨.ptr, 1, 8, zOf 37⟩ := by kernel_rfl
theorem ti40 : mkTI Tryz.prog 40 = some ⟨.slice 3 1 8, 1, 24, zOf 40⟩ := by kernel_rfl
theorem ti44 : mkTI Tryz.prog 44 = some ⟨.slice 156 3 32, 1, 24, zOf 44⟩ := by kernel_rfl
theorem ti46 : mkTI Tryz.prog 46 = some ⟨.struct [(0, 1, false), (1, 1, false), (2, 1, false)], 3, 48, zOf 46⟩ := by kernel_rfl
theorem ti49 : mkTI Tryz.prog 49 = some ⟨.ptr, 1, 8, zOf 49⟩ := by kernel_rfl
theorem ti59 : mkTI Tryz.prog 59 = some ⟨.slice 66 8 184, 1, 24, zOf 59⟩ := by kernel_rfl
theorem ti61 : mkTI Tryz.prog 61 = some ⟨.struct [(0, 1, false), (1, 1, false)], 2, 48, zOf 61⟩ := by kernel_rfl
theorem ti62 : mkTI Tryz.prog 62 = some ⟨.slice 172 7 96, 1, 24, zOf 62⟩ := by kernel_rfl
theorem ti63 : mkTI Tryz.prog 63 = some ⟨.slice 175 1 24, 1, 24, zOf 63⟩ := by kernel_rfl
theorem ti64 : mkTI Tryz.prog 64 = some ⟨.slice 70 6 72, 1, 24, zOf 64⟩ := by kernel_rfl
theorem ti66 : mkTI Tryz.prog 66 = some ⟨.struct [(0, 1, false), (1, 1, false), (2, 1, false), (3, 1, false), (4, 1, false), (5, 1, false), (6, 1, false), (7, 1, false)], 8, 184, zOf 66⟩ := by kernel_rfl
theorem ti70 : mkTI Tryz.prog 70 = some ⟨.struct [(0, 1, false), (1, 1, false), (2, 1, false), (3, 1, false), (4, 1, false), (5, 1, false)], 6, 72, zOf 70⟩ := by kernel_rfl
theorem ti71 : mkTI Tryz.prog 71 = some ⟨.slice 9 1 16, 1, 24, zOf 71⟩ := by kernel_rfl
theorem ti72 : mkTI Tryz.prog 72 = some ⟨.slice 34 1 24, 1, 24, zOf 72⟩ := by kernel_rfl
theorem ti74 : mkTI Tryz.prog 74 = some ⟨.struct [(0, 1, false), (1, 1, false), (2, 1, false), (3, 6, true), (9, 1, false), (10, 1, false), (11, 1, false)], 12, 176, zOf 74⟩ := by kernel_rfl
theorem ti76 : mkTI Tryz.prog 76 = some ⟨.struct [(0, 1, false), (1, 1, false)], 2, 40, zOf 76⟩ := by kernel_rfl
theorem ti77 : mkTI Tryz.prog 77 = some ⟨.ptr, 1, 8, zOf 77⟩ := by kernel_rfl
theorem ti81 : mkTI Tryz.prog 81 = some ⟨.slice 195 2 24, 1, 24, zOf 81⟩ := by kernel_rfl
theorem ti83 : mkTI Tryz.prog 83 = some ⟨.struct [(0, 2, true), (2, 7, true), (9, 1, false), (10, 1, false)], 11, 256, zOf 83⟩ := by kernel_rfl
theorem ti89 : mkTI Tryz.prog 89 = some ⟨.map 9 3, 1, 8, zOf 89⟩ := by kernel_rfl
theorem ti90 : mkTI Tryz.prog 90 = some ⟨.map 9 37, 1, 8, zOf 90⟩ := by kernel_rfl
theorem ti92 : mkTI Tryz.prog 92 = some ⟨.struct [(0, 1, false), (1, 7, true), (8, 1, false), (9, 1, false)], 10, 200, zOf 92⟩ := by kernel_rfl
theorem ti103 : mkTI Tryz.prog 103 = some ⟨.struct [(0, 1, false), (1, 1, false), (2, 1, false)], 3, 32, zOf 103⟩ := by kernel_rfl
theorem ti106 : mkTI Tryz.prog 106 = some ⟨.struct [(0, 1, false), (1, 1, false)], 2, 32, zOf 106⟩ := by kernel_rfl
theorem ti113 : mkTI Tryz.prog 113 = some ⟨.slice 49 1 8, 1, 24, zOf 113⟩ := by kernel_rfl
theorem ti115 : mkTI Tryz.prog 115 = some ⟨.struct [(0, 2, true), (2, 7, true), (9, 1, false), (10, 1, false)], 11, 256, zOf 115⟩ := by kernel_rfl
theorem ti124 : mkTI Tryz.prog 124 = some ⟨.map 9 4, 1, 8, zOf 124⟩ := by kernel_rfl
theorem ti125 : mkTI Tryz.prog 125 = some ⟨.map 9 36, 1, 8, zOf 125⟩ := by kernel_rfl
theorem ti127 : mkTI Tryz.prog 127 = some ⟨.struct [(0, 1, false), (1, 1, false), (2, 7, true), (9, 1, false), (10, 1, false), (11, 1, false), (12, 1, false)], 13, 240, zOf 127⟩ := by kernel_rfl
theorem ti128 : mkTI Tryz.prog 128 = some ⟨.array 2 31 1 false, 2, 48, zOf 128⟩ := by kernel_rfl
theorem ti132 : mkTI Tryz.prog 132 = some ⟨.slice 214 2 24, 1, 24, zOf 132⟩ := by kernel_rfl
theorem ti134 : mkTI Tryz.prog 134 = some ⟨.struct [(0, 1, false), (1, 1, false)], 2, 48, zOf 134⟩ := by kernel_rfl
theorem ti149 : mkTI Tryz.prog 149 = some ⟨.struct [(0, 1, false), (1, 1, false)], 2, 16, zOf 149⟩ := by kernel_rfl
theorem ti156 : mkTI Tryz.prog 156 = some ⟨.struct [(0, 1, false), (1, 1, false), (2, 1, false)], 3, 32, zOf 156⟩ := by kernel_rfl
theorem ti166 : mkTI Tryz.prog 166 = some ⟨.ptr, 1, 8, zOf 166⟩ := by kernel_rfl
theorem ti168 : mkTI Tryz.prog 168 = some ⟨.struct [(0, 1, false), (1, 1, false), (2, 1, false)], 3, 56, zOf 168⟩ := by kernel_rfl
theorem ti172 : mkTI Tryz.prog 172 = some ⟨.struct [(0, 1, false), (1, 6, true)], 7, 96, zOf 172⟩ := by kernel_rfl
theorem ti173 : mkTI Tryz.prog 173 = some ⟨.slice 178 6 136, 1, 24, zOf 173⟩ := by kernel_rfl
theorem ti175 : mkTI Tryz.prog 175 = some ⟨.struct [(0, 1, false)], 1, 24, zOf 175⟩ := by kernel_rfl
theorem ti176 : mkTI Tryz.prog 176 = some ⟨.slice 202 8 88, 1, 24, zOf 176⟩ := by kernel_rfl
theorem ti178 : mkTI Tryz.prog 178 = some ⟨.struct [(0, 1, false), (1, 1, false), (2, 1, false), (3, 1, false), (4, 1, false), (5, 1, false)], 6, 136, zOf 178⟩ := by kernel_rfl
theorem ti180 : mkTI Tryz.prog 180 = some ⟨.array 3 31 1 false, 3, 72, zOf 180⟩ := by kernel_rfl
theorem ti195 : mkTI Tryz.prog 195 = some ⟨.struct [(0, 1, false), (1, 1, false)], 2, 24, zOf 195⟩ := by kernel_rfl
theorem ti202 : mkTI Tryz.prog 202 = some ⟨.struct [(0, 6, true), (6, 1, false), (7, 1, false)], 8, 88, zOf 202⟩ := by kernel_rfl
theorem ti214 : mkTI Tryz.prog 214 = some ⟨.struct [(0, 1, false), (1, 1, false)], 2, 24, zOf 214⟩ := by kernel_rfl
theorem ti234 : mkTI Tryz.prog 234 = some ⟨.int .i16, 1, 2, zOf 234⟩ := by kernel_rfl
theorem zz3 : zOf 3 = some [.d (.int .i64 0)] := by kernel_rfl
theorem zz4 : zOf 4 = some [.d (.bool false)] := by kernel_rfl
theorem zz9 : zOf 9 = some [.d (.str [])] := by kernel_rfl
theorem zz22 : zOf 22 = some [.full []] := by kernel_rfl
theorem zz23 : zOf 23 = some [.full []] := by kernel_rfl
theorem zz25 : zOf 25 = some [.full [], .full []] := by kernel_rfl
theorem zz28 : zOf 28 = some [.d (.int .i64 0)] := by kernel_rfl
theorem zz30 : zOf 30 = some [.full []] := by kernel_rfl
theorem zz31 : zOf 31 = some [.full []] := by kernel_rfl
theorem zz32 : zOf 32 = some [.full []] := by kernel_rfl
theorem zz33 : zOf 33 = some [.full []] := by kernel_rfl
theorem zz34 : zOf 34 = some [.full []] := by kernel_rfl
theorem zz36 : zOf 36 = some [.d (.str []), .full [], .full [], .full [], .full [], .full [], .full []] := by kernel_rfl
theorem zz37 : zOf 37 = some [.con (.pointer none)] := by kernel_rfl
theorem zz40 : zOf 40 = some [.full []] := by kernel_rfl
theorem zz44 : zOf 44 = some [.full []] := by kernel_rfl
theorem zz46 : zOf 46 = some [.d (.str []), .d (.int .i64 0), .full []] := by kernel_rfl
theorem zz49 : zOf 49 = some [.con (.pointer none)] := by kernel_rfl
theorem zz59 : zOf 59 = some [.full []] := by kernel_rfl
theorem zz61 : zOf 61 = some [.full [], .full []] := by kernel_rfl
theorem zz62 : zOf 62 = some [.full []] := by kernel_rfl
theorem zz63 : zOf 63 = some [.full []] := by kernel_rfl
theorem zz64 : zOf 64 = some [.full []] := by kernel_rfl
theorem zz66 : zOf 66 = some [.d (.str []), .full [], .full [], .full [], .full [], .full [], .full [], .full []] := by kernel_rfl
theorem zz70 : zOf 70 = some [.d (.int .i64 0), .d (.int .i64 0), .d (.int .i64 0), .d (.int .i64 0), .d (.str []), .full []] := by kernel_rfl
theorem zz71 : zOf 71 = some [.full []] := by kernel_rfl
theorem zz72 : zOf 72 = some [.full []] := by kernel_rfl
theorem zz74 : zOf 74 = some [.d (.int .i64 0), .d (.str []), .d (.int .i64 0), .d (.int .i64 0), .d (.int .i64 0), .d (.int .i64 0), .d (.int .i64 0), .d (.str []), .full [], .full [], .full [], .full []] := by kernel_rfl
theorem zz76 : zOf 76 = some [.d (.str []), .full []] := by kernel_rfl
theorem zz77 : zOf 77 = some [.con (.pointer none)] := by kernel_rfl
theorem zz81 : zOf 81 = some [.full []] := by kernel_rfl
theorem zz83 : zOf 83 = some [.full [], .full [], .d (.str []), .full [], .full [], .full [], .full [], .full [], .full [], .full [], .full []] := by kernel_rfl
theorem zz89 : zOf 89 = some [.con (.map none)] := by kernel_rfl
theorem zz90 : zOf 90 = some [.con (.map none)] := by kernel_rfl
theorem zz92 : zOf 92 = some [.full [], .d (.str []), .full [], .full [], .full [], .full [], .full [], .full [], .con (.map none), .con (.map none)] := by kernel_rfl
theorem zz103 : zOf 103 = some [.d (.str []), .d (.int .i64 0), .d (.int .i64 0)] := by kernel_rfl
theorem zz106 : zOf 106 = some [.d (.str []), .d (.str [])] := by kernel_rfl
theorem zz113 : zOf 113 = some [.full []] := by kernel_rfl
theorem zz115 : zOf 115 = some [.full [], .full [], .d (.str []), .full [], .full [], .full [], .full [], .full [], .full [], .full [], .full []] := by kernel_rfl
theorem zz124 : zOf 124 = some [.con (.map none)] := by kernel_rfl
theorem zz125 : zOf 125 = some [.con (.map none)] := by kernel_rfl
theorem zz127 : zOf 127 = some [.full [], .full [], .d (.str []), .full [], .full [], .full [], .full [], .full [], .full [], .con (.map none), .con (.map none), .con (.map none), .con (.map none)] := by kernel_rfl
theorem zz128 : zOf 128 = some [.full [], .full []] := by kernel_rfl
theorem zz132 : zOf 132 = some [.full []] := by kernel_rfl
theorem zz134 : zOf 134 = some [.full [], .full []] := by kernel_rfl
theorem zz149 : zOf 149 = some [.con (.pointer none), .con (.map none)] := by kernel_rfl
theorem zz156 : zOf 156 = some [.d (.str []), .d (.int .i64 0), .d (.int .i64 0)] := by kernel_rfl
theorem zz166 : zOf 166 = some [.con (.pointer none)] := by kernel_rfl
theorem zz168 : zOf 168 = some [.con (.pointer none), .full [], .full []] := by kernel_rfl
theorem zz172 : zOf 172 = some [.full [], .d (.int .i64 0), .d (.int .i64 0), .d (.int .i64 0), .d (.int .i64 0), .d (.str []), .full []] := by kernel_rfl
theorem zz173 : zOf 173 = some [.full []] := by kernel_rfl
theorem zz175 : zOf 175 = some [.full []] := by kernel_rfl
theorem zz176 : zOf 176 = some [.full []] := by kernel_rfl
theorem zz178 : zOf 178 = some [.d (.str []), .full [], .full [], .full [], .full [], .full []] := by kernel_rfl
theorem zz180 : zOf 180 = some [.full [], .full [], .full []] := by kernel_rfl
theorem zz195 : zOf 195 = some [.d (.str []), .d (.int .i64 0)] := by kernel_rfl
theorem zz202 : zOf 202 = some [.d (.int .i64 0), .d (.int .i64 0), .d (.int .i64 0), .d (.int .i64 0), .d (.str []), .full [], .d (.int .i64 0), .d (.bool false)] := by kernel_rfl
theorem zz214 : zOf 214 = some [.d (.str []), .d (.int .i64 0)] := by kernel_rfl
theorem zz234 : zOf 234 = some [.d (.int .i16 0)] := by kernel_rfl
attribute [simp] ti3 ti4 ti9 ti22 ti23 ti25 ti28 ti30 ti31 ti32 ti33 ti34 ti36 ti37 ti40 ti44 ti46 ti49 ti59 ti61 ti62 ti63 ti64 ti66 ti70 ti71 ti72 ti74 ti76 ti77 ti81 ti83 ti89 ti90 ti92 ti103 ti106 ti113 ti115 ti124 ti125 ti127 ti128 ti132 ti134 ti149 ti156 ti166 ti168 ti172 ti173 ti175 ti176 ti178 ti180 ti195 ti202 ti214 ti234
attribute [simp] zz3 zz4 zz9 zz22 zz23 zz25 zz28 zz30 zz31 zz32 zz33 zz34 zz36 zz37 zz40 zz44 zz46 zz49 zz59 zz61 zz62 zz63 zz64 zz66 zz70 zz71 zz72 zz74 zz76 zz77 zz81 zz83 zz89 zz90 zz92 zz103 zz106 zz113 zz115 zz124 zz125 zz127 zz128 zz132 zz134 zz149 zz156 zz166 zz168 zz172 zz173 zz175 zz176 zz178 zz180 zz195 zz202 zz214 zz234

theorem so156 : structOffs Tryz.prog 156 = some [(0, .str), (1, .int), (2, .int)] := by kernel_rfl
theorem so103 : structOffs Tryz.prog 103 = some [(0, .str), (1, .int), (2, .int)] := by kernel_rfl
theorem so106 : structOffs Tryz.prog 106 = some [(0, .str), (1, .str)] := by kernel_rfl
theorem prim_Ob (f : Nat) : Ob.cfg.prim f = Ob.prim f := rfl
theorem thr_Ob (f : Nat) : Ob.cfg.thr f = Ob.thr f := rfl
theorem fz_Ob (f r : Nat) : Ob.cfg.fz f r = Ob.fz f r := rfl
theorem own_Ob (f : Nat) : Ob.cfg.own f = Ob.own f := rfl
theorem keep_Ob (f r : Nat) : Ob.cfg.keep f r = Ob.keep f r := rfl
theorem mat_Ob (f r : Nat) : Ob.cfg.mat f r = Ob.mat f r := rfl
theorem rowsOf_osl (look : Look) (sz id g off len sz' : Nat) (cap : Option Nat) : rowsOf look sz (.osl id g off len sz' cap) = match live look id g, Nat.beq sz sz' with
  | some o, true => match Nat.ble (off + len * sz) o.cells.length with
   | true => some (len, (o.cells.drop off).take (len * sz), [id])
   | false => none
  | _, _ => none := rfl

attribute [simp] so156 so103 so106 eqRow eqCell prim_Ob Ob.prim thr_Ob Ob.thr closeArgs closeA closeVs close close1 ofD toD V.flat V.flat2 V.flat1 D.flat evalV Env.get constV constV1 putEnv binV intBin strBin boolBin unV
 indexAddrV indexV indexRows ret fieldAddrV fieldV partV loadV readV TI.agg lenV Env.keep nilOpd nilV nilR isEq checkNil
attribute [simp] opP opP0 wantedP step retR live nbeq_self newV cellsV V.one storeV cl1 roOf fz_Ob Ob.fz Hp.get Hp.set Hp.sets addNew idx_lt builtinV
attribute [simp] Hp.trunc_zero nblt_eq Hp.get_set_self Hp.trunc cut own_Ob Ob.own convV envOf
attribute [simp] endR keepSt mats matOne keep_Ob mat_Ob Ob.mat callD rowsOf_osl appendV encI_len encS_len encX_len encY_len encB_len encO_len encD_len encE_len encM_len encJ_len encC_len

theorem w_id' {n : Int} (h : -9223372036854775808 ≤ n) (h' : n ≤ 9223372036854775807) : IntKind.i64.wrap n = n := w_id h h'
end Go.Ac
end

section
set_option maxRecDepth 4000
namespace Go.Ac
open Go.Proofs

theorem int_beq (a b : Int) : (a == b) = decide (a = b) := by by_cases h : a = b <;> simp [h]
theorem int_bne (a b : Int) : (a != b) = !decide (a = b) := by by_cases h : a = b <;> simp [h]
theorem tx_beq (a b : Tx) : (a == b) = decide (a = b) := by by_cases h : a = b <;> simp [h]
theorem take_snoc {α : Type} {l : List α} {j : Nat} {x : α} (h : l[j]? = some x) : l.take (j + 1) = l.take j ++ [x] := by rw [List.take_add_one, h]; rfl
end Go.Ac
end
