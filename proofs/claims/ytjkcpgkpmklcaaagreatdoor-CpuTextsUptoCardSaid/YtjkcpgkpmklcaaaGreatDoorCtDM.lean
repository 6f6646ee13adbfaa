/- Sixteen-bit words; the operators of the language, on either side. -/
import Derived.Test.YtjkcpgkpmklcaaaGreatDoorCtHn
import Derived.Test.YtjkcpgkpmklcaaaGreatDoorAcUcM
import Derived.KernelRfl
import Derived.Test.YtjkcpgkpmklcaaaGreatDoorChecked
import Derived.Test.YtjkcpgkpmklcaaaGreatDoorRows
import Derived.Deep.Slices
import Derived.ChangeArms
import Derived.RowKit3
import Derived.ReadAgain
import Derived.ChangeStays
import Derived.WalkKit
import Derived.ProofKit
import Derived.OpenShut
import Derived.JoinedCond
import Derived.Below
import Derived.Deep.DeepHandedRow
import Derived.Lib.LaidTab
import Derived.Lib.Walk
import Derived.Lib.Strings
import Derived.Lib.Bytealg
import Derived.BigCall
import Derived.BigGuard
import Derived.Laws.Strings3
set_option linter.unusedVariables false
set_option linter.unusedSimpArgs false
section
namespace Go.Ac
theorem iZ {α : Sort _} {x : α} : Is x x := Is.rfl
theorem gS {α : Type _} {x : α} {i : Nat} {l : List α} : (x :: l)[i + 1]? = l[i]? := rfl
theorem gZ {α : Type _} {x : α} {l : List α} : (x :: l)[0]? = some x := rfl

/-- One walk leads from a goal to another. -/
structure Hd (G : Prop) : Prop where
 out : G
def Wk (L G G' : Prop) : Prop := L → Hd G' → G

theorem wk {L : Prop} (hl : L) {G G' : Prop} (k : G') (h : Wk L G G' := by
 intro hl hk
 repeat (first
 | apply WP.seq
 | (apply WP.reg; (case hR => dsimp only [prepL, prepO, List.map, gS, gZ]; exact iZ); (case hr => (repeat (first
 | (apply RT.op; simp [hl]; exact iZ; (try dsimp only [putEnv]) <;> exact rfl)
 | (apply RT.call; (iterate 2 simp; exact iZ); exact iZ; (iterate 4 simp [hl]; exact iZ); simp [Is]; (try dsimp only [putEnv]) <;> exact rfl; simp; exact iZ; simp; exact iZ)
 | (apply RT.wr; simp [hl]; exact iZ; (try dsimp only [putEnv]) <;> exact rfl; simp [hl]; exact iZ; (iterate 2 exact iZ); simp; exact iZ))); exact RT.nil); (case hc => (show _ = _; kernel_rfl)); (case ht => simp [hl]; exact iZ))
 | apply WP.block | apply WP.skip | apply WP.exit | apply WP.ret)
 exact hk.out) : G := h hl ⟨k⟩
theorem wki {L : Prop} (hl : L) {G G' : Prop} (k : G') (h : Wk L G G' := by
 intro hl hk
 repeat (first
 | apply WP.seq
 | (apply WP.reg; (case hR => dsimp only [prepL, prepO, List.map, gS, gZ]; exact iZ); (case hr => (repeat (first
 | (apply RT.op; simp [hl]; exact iZ; (try dsimp only [putEnv]) <;> exact rfl)
 | (apply RT.call; (iterate 2 simp; exact iZ); exact iZ; (iterate 4 simp [hl]; exact iZ); simp [Is]; (try dsimp only [putEnv]) <;> exact rfl; simp; exact iZ; simp; exact iZ)
 | (apply RT.callI (hd := hI1) (hne := hI2) (hw := hI3) (hwr := hI4); (iterate 2 simp; exact iZ); exact iZ; (iterate 2 simp [hl]; exact iZ); (try dsimp only [putEnv]) <;> exact rfl; (first | omega | simp))
 | (apply RT.wr; simp [hl]; exact iZ; (try dsimp only [putEnv]) <;> exact rfl; simp [hl]; exact iZ; (iterate 2 exact iZ); simp; exact iZ))); exact RT.nil); (case hc => (show _ = _; kernel_rfl)); (case ht => simp [hl]; exact iZ))
 | apply WP.block | apply WP.skip | apply WP.exit | apply WP.ret)
 exact hk.out) : G := h hl ⟨k⟩
theorem wkn {L : Prop} (hl : L) {G G' : Prop} (k : G') (h : Wk L G G' := by
 intro hl hk
 repeat (first
 | apply WP.seq
 | (apply WP.reg; (case hR => dsimp only [prepL, prepO, List.map, gS, gZ]; exact iZ); (case hr => (repeat (first
 | (apply RT.op; simp [hl]; exact iZ; (try dsimp only [putEnv]) <;> exact rfl)
 | (apply RT.call; (iterate 2 simp; exact iZ); exact iZ; (iterate 4 simp [hl]; exact iZ); simp [Is]; (try dsimp only [putEnv]) <;> exact rfl; simp; exact iZ; simp; exact iZ)
 | (apply RT.clone; (iterate 2 simp; exact iZ); exact iZ; (iterate 2 simp [hl]; exact iZ); (first | assumption | (simp [fitsB]; omega)); (try dsimp only [putEnv]) <;> exact rfl; simp [hl]; exact iZ; simp; exact iZ)
 | (apply RT.wr; simp [hl]; exact iZ; (try dsimp only [putEnv]) <;> exact rfl; simp [hl]; exact iZ; (iterate 2 exact iZ); simp; exact iZ))); exact RT.nil); (case hc => (show _ = _; kernel_rfl)); (case ht => simp [hl]; exact iZ))
 | apply WP.block | apply WP.skip | apply WP.exit | apply WP.ret)
 exact hk.out) : G := h hl ⟨k⟩
theorem wkq {L : Prop} (hl : L) {G G' : Prop} (k : G') (h : Wk L G G' := by
 intro hl hk
 repeat (first
 | apply WP.seq
 | (apply WP.reg; (case hR => dsimp only [prepL, prepO, List.map, gS, gZ]; exact iZ); (case hr => (repeat (first
 | (apply RT.op; simp [hl]; exact iZ; (try dsimp only [putEnv]) <;> exact rfl)
 | (apply RT.call; (iterate 2 simp; exact iZ); exact iZ; (iterate 4 simp [hl]; exact iZ); simp [Is]; (try dsimp only [putEnv]) <;> exact rfl; simp; exact iZ; simp; exact iZ)
 | (apply RT.callQ; (iterate 2 simp; exact iZ); exact iZ; (iterate 3 simp [hl]; exact iZ); (try dsimp only [putEnv]) <;> exact rfl)
 | (apply RT.wr; simp [hl]; exact iZ; (try dsimp only [putEnv]) <;> exact rfl; simp [hl]; exact iZ; (iterate 2 exact iZ); simp; exact iZ))); exact RT.nil); (case hc => (show _ = _; kernel_rfl)); (case ht => simp [hl]; exact iZ))
 | apply WP.block | apply WP.skip | apply WP.exit | apply WP.ret)
 exact hk.out) : G := h hl ⟨k⟩
theorem wkekt {L : Prop} (hl : L) {G G' : Prop} (k : G') (h : Wk L G G' := by
 intro hl hk
 repeat (first
 | apply WP.seq
 | (apply WP.reg; (case hR => dsimp only [prepL, prepO, List.map, gS, gZ]; exact iZ); (case hr => (repeat (first
 | (apply RT.op; simp [hl, -addNew]; exact iZ; (try dsimp only [putEnv]) <;> exact rfl)
 | (apply RT.call; (iterate 2 simp; exact iZ); exact iZ; (iterate 4 simp [hl, -addNew]; exact iZ); simp [Is]; (try dsimp only [putEnv]) <;> exact rfl; simp; exact iZ; exact iZ)
 | (apply RT.callT (hd := hT1) (hk := hT2); (iterate 2 simp; exact iZ); exact iZ; (iterate 2 simp [hl, -addNew]; exact iZ); (try dsimp only [putEnv]) <;> exact rfl)
 | (apply RT.wr; simp [hl, -addNew]; exact iZ; (try dsimp only [putEnv]) <;> exact rfl; simp [hl, -addNew]; exact iZ; (iterate 2 exact iZ); exact iZ))); exact RT.nil); (case hc => (show _ = _; kernel_rfl)); (case ht => simp [hl, -addNew]; exact iZ))
 | apply WP.block | apply WP.skip | apply WP.exit | apply WP.ret)
 exact hk.out) : G := h hl ⟨k⟩
theorem wkenkt {L : Prop} (hl : L) {G G' : Prop} (k : G') (h : Wk L G G' := by
 intro hl hk
 repeat (first
 | apply WP.seq
 | (apply WP.reg; (case hR => dsimp only [prepL, prepO, List.map, gS, gZ]; exact iZ); (case hr => (repeat (first
 | (apply RT.op; simp [hl, -addNew]; exact iZ; (try dsimp only [putEnv]) <;> exact rfl)
 | (apply RT.call; (iterate 2 simp; exact iZ); exact iZ; (iterate 4 simp [hl, -addNew]; exact iZ); simp [Is]; (try dsimp only [putEnv]) <;> exact rfl; simp; exact iZ; exact iZ)
 | (apply RT.clone; (iterate 2 simp; exact iZ); exact iZ; (iterate 2 simp [hl, -addNew]; exact iZ); (first | assumption | (simp [fitsB]; omega)); (try dsimp only [putEnv]) <;> exact rfl; simp [hl, -addNew]; exact iZ; exact iZ)
 | (apply RT.callT (hd := hT1) (hk := hT2); (iterate 2 simp; exact iZ); exact iZ; (iterate 2 simp [hl, -addNew]; exact iZ); (try dsimp only [putEnv]) <;> exact rfl)
 | (apply RT.wr; simp [hl, -addNew]; exact iZ; (try dsimp only [putEnv]) <;> exact rfl; simp [hl, -addNew]; exact iZ; (iterate 2 exact iZ); exact iZ))); exact RT.nil); (case hc => (show _ = _; kernel_rfl)); (case ht => simp [hl, -addNew]; exact iZ))
 | apply WP.block | apply WP.skip | apply WP.exit | apply WP.ret)
 exact hk.out) : G := h hl ⟨k⟩
theorem wkc {L : Prop} (hl : L) {G G' : Prop} (k : G') (h : Wk L G G' := by
 intro hl hk
 repeat (first
 | apply WP.seq
 | (apply WP.reg; (case hR => dsimp only [prepL, prepO, List.map, gS, gZ]; exact iZ); (case hr => (repeat (first
 | (apply RT.op; simp [hl]; exact iZ; (try dsimp only [putEnv]) <;> exact rfl)
 | (apply RT.call; (iterate 2 simp; exact iZ); exact iZ; (iterate 4 simp [hl]; exact iZ); simp [Is]; (try dsimp only [putEnv]) <;> exact rfl; simp; exact iZ; simp; exact iZ)
 | (apply RT.wr; simp [hl]; exact iZ; (try dsimp only [putEnv]) <;> exact rfl; simp [hl]; exact iZ; (iterate 2 exact iZ); simp; exact iZ))); exact RT.nil); (case hc => (show _ = _; kernel_rfl)); (case ht => simp [hl]; exact iZ))
 | apply WP.block | apply WP.skip | apply WP.exit | apply WP.ret | refine WP.condT rfl ?_ | refine WP.condF rfl ?_)
 exact hk.out) : G := h hl ⟨k⟩
theorem wkci {L : Prop} (hl : L) {G G' : Prop} (k : G') (h : Wk L G G' := by
 intro hl hk
 repeat (first
 | apply WP.seq
 | (apply WP.reg; (case hR => dsimp only [prepL, prepO, List.map, gS, gZ]; exact iZ); (case hr => (repeat (first
 | (apply RT.op; simp [hl]; exact iZ; (try dsimp only [putEnv]) <;> exact rfl)
 | (apply RT.call; (iterate 2 simp; exact iZ); exact iZ; (iterate 4 simp [hl]; exact iZ); simp [Is]; (try dsimp only [putEnv]) <;> exact rfl; simp; exact iZ; simp; exact iZ)
 | (apply RT.callI (hd := hI1) (hne := hI2) (hw := hI3) (hwr := hI4); (iterate 2 simp; exact iZ); exact iZ; (iterate 2 simp [hl]; exact iZ); (try dsimp only [putEnv]) <;> exact rfl; (first | omega | simp))
 | (apply RT.wr; simp [hl]; exact iZ; (try dsimp only [putEnv]) <;> exact rfl; simp [hl]; exact iZ; (iterate 2 exact iZ); simp; exact iZ))); exact RT.nil); (case hc => (show _ = _; kernel_rfl)); (case ht => simp [hl]; exact iZ))
 | apply WP.block | apply WP.skip | apply WP.exit | apply WP.ret | refine WP.condT rfl ?_ | refine WP.condF rfl ?_)
 exact hk.out) : G := h hl ⟨k⟩
theorem wkckt {L : Prop} (hl : L) {G G' : Prop} (k : G') (h : Wk L G G' := by
 intro hl hk
 repeat (first
 | apply WP.seq
 | (apply WP.reg; (case hR => dsimp only [prepL, prepO, List.map, gS, gZ]; exact iZ); (case hr => (repeat (first
 | (apply RT.op; simp [hl]; exact iZ; (try dsimp only [putEnv]) <;> exact rfl)
 | (apply RT.call; (iterate 2 simp; exact iZ); exact iZ; (iterate 4 simp [hl]; exact iZ); simp [Is]; (try dsimp only [putEnv]) <;> exact rfl; simp; exact iZ; exact iZ)
 | (apply RT.callT (hd := hT1) (hk := hT2); (iterate 2 simp; exact iZ); exact iZ; (iterate 2 simp [hl]; exact iZ); (try dsimp only [putEnv]) <;> exact rfl)
 | (apply RT.wr; simp [hl]; exact iZ; (try dsimp only [putEnv]) <;> exact rfl; simp [hl]; exact iZ; (iterate 2 exact iZ); exact iZ))); exact RT.nil); (case hc => (show _ = _; kernel_rfl)); (case ht => simp [hl]; exact iZ))
 | apply WP.block | apply WP.skip | apply WP.exit | apply WP.ret | refine WP.condT rfl ?_ | refine WP.condF rfl ?_)
 exact hk.out) : G := h hl ⟨k⟩
theorem wkcn {L : Prop} (hl : L) {G G' : Prop} (k : G') (h : Wk L G G' := by
 intro hl hk
 repeat (first
 | apply WP.seq
 | (apply WP.reg; (case hR => dsimp only [prepL, prepO, List.map, gS, gZ]; exact iZ); (case hr => (repeat (first
 | (apply RT.op; simp [hl]; exact iZ; (try dsimp only [putEnv]) <;> exact rfl)
 | (apply RT.call; (iterate 2 simp; exact iZ); exact iZ; (iterate 4 simp [hl]; exact iZ); simp [Is]; (try dsimp only [putEnv]) <;> exact rfl; simp; exact iZ; simp; exact iZ)
 | (apply RT.clone; (iterate 2 simp; exact iZ); exact iZ; (iterate 2 simp [hl]; exact iZ); (first | assumption | (simp [fitsB]; omega)); (try dsimp only [putEnv]) <;> exact rfl; simp [hl]; exact iZ; simp; exact iZ)
 | (apply RT.wr; simp [hl]; exact iZ; (try dsimp only [putEnv]) <;> exact rfl; simp [hl]; exact iZ; (iterate 2 exact iZ); simp; exact iZ))); exact RT.nil); (case hc => (show _ = _; kernel_rfl)); (case ht => simp [hl]; exact iZ))
 | apply WP.block | apply WP.skip | apply WP.exit | apply WP.ret | refine WP.condT rfl ?_ | refine WP.condF rfl ?_)
 exact hk.out) : G := h hl ⟨k⟩
theorem wkcq {L : Prop} (hl : L) {G G' : Prop} (k : G') (h : Wk L G G' := by
 intro hl hk
 repeat (first
 | apply WP.seq
 | (apply WP.reg; (case hR => dsimp only [prepL, prepO, List.map, gS, gZ]; exact iZ); (case hr => (repeat (first
 | (apply RT.op; simp [hl]; exact iZ; (try dsimp only [putEnv]) <;> exact rfl)
 | (apply RT.call; (iterate 2 simp; exact iZ); exact iZ; (iterate 4 simp [hl]; exact iZ); simp [Is]; (try dsimp only [putEnv]) <;> exact rfl; simp; exact iZ; simp; exact iZ)
 | (apply RT.callQ; (iterate 2 simp; exact iZ); exact iZ; (iterate 3 simp [hl]; exact iZ); (try dsimp only [putEnv]) <;> exact rfl)
 | (apply RT.wr; simp [hl]; exact iZ; (try dsimp only [putEnv]) <;> exact rfl; simp [hl]; exact iZ; (iterate 2 exact iZ); simp; exact iZ))); exact RT.nil); (case hc => (show _ = _; kernel_rfl)); (case ht => simp [hl]; exact iZ))
 | apply WP.block | apply WP.skip | apply WP.exit | apply WP.ret | refine WP.condT rfl ?_ | refine WP.condF rfl ?_)
 exact hk.out) : G := h hl ⟨k⟩
theorem wkcek {L : Prop} (hl : L) {G G' : Prop} (k : G') (h : Wk L G G' := by
 intro hl hk
 repeat (first
 | apply WP.seq
 | (apply WP.reg; (case hR => dsimp only [prepL, prepO, List.map, gS, gZ]; exact iZ); (case hr => (repeat (first
 | (apply RT.op; simp [hl, -addNew]; exact iZ; (try dsimp only [putEnv]) <;> exact rfl)
 | (apply RT.call; (iterate 2 simp; exact iZ); exact iZ; (iterate 4 simp [hl, -addNew]; exact iZ); simp [Is]; (try dsimp only [putEnv]) <;> exact rfl; simp; exact iZ; exact iZ)
 | (apply RT.wr; simp [hl, -addNew]; exact iZ; (try dsimp only [putEnv]) <;> exact rfl; simp [hl, -addNew]; exact iZ; (iterate 2 exact iZ); exact iZ))); exact RT.nil); (case hc => (show _ = _; kernel_rfl)); (case ht => simp [hl, -addNew]; exact iZ))
 | apply WP.block | apply WP.skip | apply WP.exit | apply WP.ret | refine WP.condT rfl ?_ | refine WP.condF rfl ?_)
 exact hk.out) : G := h hl ⟨k⟩
theorem wkcekt {L : Prop} (hl : L) {G G' : Prop} (k : G') (h : Wk L G G' := by
 intro hl hk
 repeat (first
 | apply WP.seq
 | (apply WP.reg; (case hR => dsimp only [prepL, prepO, List.map, gS, gZ]; exact iZ); (case hr => (repeat (first
 | (apply RT.op; simp [hl, -addNew]; exact iZ; (try dsimp only [putEnv]) <;> exact rfl)
 | (apply RT.call; (iterate 2 simp; exact iZ); exact iZ; (iterate 4 simp [hl, -addNew]; exact iZ); simp [Is]; (try dsimp only [putEnv]) <;> exact rfl; simp; exact iZ; exact iZ)
 | (apply RT.callT (hd := hT1) (hk := hT2); (iterate 2 simp; exact iZ); exact iZ; (iterate 2 simp [hl, -addNew]; exact iZ); (try dsimp only [putEnv]) <;> exact rfl)
 | (apply RT.wr; simp [hl, -addNew]; exact iZ; (try dsimp only [putEnv]) <;> exact rfl; simp [hl, -addNew]; exact iZ; (iterate 2 exact iZ); exact iZ))); exact RT.nil); (case hc => (show _ = _; kernel_rfl)); (case ht => simp [hl, -addNew]; exact iZ))
 | apply WP.block | apply WP.skip | apply WP.exit | apply WP.ret | refine WP.condT rfl ?_ | refine WP.condF rfl ?_)
 exact hk.out) : G := h hl ⟨k⟩
theorem wkcenkt {L : Prop} (hl : L) {G G' : Prop} (k : G') (h : Wk L G G' := by
 intro hl hk
 repeat (first
 | apply WP.seq
 | (apply WP.reg; (case hR => dsimp only [prepL, prepO, List.map, gS, gZ]; exact iZ); (case hr => (repeat (first
 | (apply RT.op; simp [hl, -addNew]; exact iZ; (try dsimp only [putEnv]) <;> exact rfl)
 | (apply RT.call; (iterate 2 simp; exact iZ); exact iZ; (iterate 4 simp [hl, -addNew]; exact iZ); simp [Is]; (try dsimp only [putEnv]) <;> exact rfl; simp; exact iZ; exact iZ)
 | (apply RT.clone; (iterate 2 simp; exact iZ); exact iZ; (iterate 2 simp [hl, -addNew]; exact iZ); (first | assumption | (simp [fitsB]; omega)); (try dsimp only [putEnv]) <;> exact rfl; simp [hl, -addNew]; exact iZ; exact iZ)
 | (apply RT.callT (hd := hT1) (hk := hT2); (iterate 2 simp; exact iZ); exact iZ; (iterate 2 simp [hl, -addNew]; exact iZ); (try dsimp only [putEnv]) <;> exact rfl)
 | (apply RT.wr; simp [hl, -addNew]; exact iZ; (try dsimp only [putEnv]) <;> exact rfl; simp [hl, -addNew]; exact iZ; (iterate 2 exact iZ); exact iZ))); exact RT.nil); (case hc => (show _ = _; kernel_rfl)); (case ht => simp [hl, -addNew]; exact iZ))
 | apply WP.block | apply WP.skip | apply WP.exit | apply WP.ret | refine WP.condT rfl ?_ | refine WP.condF rfl ?_)
 exact hk.out) : G := h hl ⟨k⟩
end Go.Ac
end

section
namespace Go.Ac
open Go.Proofs
/-- An instruction. -/
structure I where
 op : Int
 a : Int
 b : Int
 c : Int
 d : Int
 deriving Inhabited, DecidableEq

/-- A routine. -/
structure Rt where
 nm : List UInt8
 inn : List Int
 out : List Int
 regs : Int
 ini : List Int
 code : List I
 deriving Inhabited

/-- An image. -/
structure Im where
 enums : List Int
 rs : List Rt
 deriving Inhabited

def ni (n : Int) : D := .int .i64 n
def dI (n : Int) : V := .d (.int .i64 n)
def dB (b : Bool) : V := .d (.bool b)
def dS (s : List UInt8) : V := .d (.str s)
def encI (l : List Int) : List (List D) := l.map fun n => [ni n]
def I.cells (i : I) : List D := [.int .i64 i.op, .int .i64 i.a, .int .i64 i.b, .int .i64 i.c, .int .i64 i.d]
def encC (l : List I) : List (List D) := l.map I.cells
def Rt.cells (r : Rt) : List D := [.str r.nm, .slice (encI r.inn), .slice (encI r.out), .int .i64 r.regs, .slice (encI r.ini), .slice (encC r.code)]
def encR (l : List Rt) : List (List D) := l.map Rt.cells
def encL (l : List (List Int)) : List (List D) := l.map fun r => [.slice (encI r)]
def Im.cells (im : Im) : List D := [.slice (encI im.enums), .slice (encR im.rs)]
def dL (l : List Int) : V := .d (.slice (encI l))
def aI (i : I) : V := .agg (i.cells.map .d)
def aR (r : Rt) : V := .agg (r.cells.map .d)
def aM (im : Im) : V := .agg (im.cells.map .d)

/-! ### Sizes -/
def MX : Nat := 4611686018427387904
def MB : Nat := 4194304
def Rt.sz (r : Rt) : Nat := r.nm.length + r.inn.length + r.out.length + r.ini.length + r.code.length * 6 + 6
def Im.sz (im : Im) : Nat := im.enums.length + (im.rs.map Rt.sz).sum + 2

theorem encI_len (l : List Int) : (encI l).length = l.length := by simp [encI]
theorem encC_len (l : List I) : (encC l).length = l.length := by simp [encC]
theorem encR_len (l : List Rt) : (encR l).length = l.length := by simp [encR]
theorem encL_len (l : List (List Int)) : (encL l).length = l.length := by simp [encL]
theorem encI_at {l : List Int} {i : Nat} {y : Int} (h : l[i]? = some y) : (encI l)[i]? = some [.int .i64 y] := by unfold encI; simp [h, ni]
theorem encC_at {l : List I} {i : Nat} {y : I} (h : l[i]? = some y) : (encC l)[i]? = some y.cells := by unfold encC; simp [h]
theorem encR_at {l : List Rt} {i : Nat} {y : Rt} (h : l[i]? = some y) : (encR l)[i]? = some y.cells := by unfold encR; simp [h]
theorem encL_at {l : List (List Int)} {i : Nat} {y : List Int} (h : l[i]? = some y) : (encL l)[i]? = some [.slice (encI y)] := by unfold encL; simp [h]
theorem sum_mem {α : Type} {f : α → Nat} : ∀ {l : List α} {x : α}, x ∈ l → f x ≤ (l.map f).sum
 | y :: r, x, h => by
  simp only [List.mem_cons] at h
  simp only [List.map_cons, List.sum_cons]
  rcases h with rfl | h
  ·omega
  ·have := sum_mem (f := f) h; omega
theorem sum_len {α : Type} {f : α → Nat} (hf : ∀ x, 1 ≤ f x) : ∀ {l : List α}, l.length ≤ (l.map f).sum
 | [] => by simp
 | y :: r => by have := sum_len hf (l := r); have := hf y; simp; omega
theorem Im.len_rs (im : Im) : im.rs.length ≤ im.sz := by
 have := sum_len (f := Rt.sz) (fun r => by unfold Rt.sz; omega) (l := im.rs)
 unfold Im.sz; omega
theorem Im.mem_rs {im : Im} {r : Rt} (h : r ∈ im.rs) : r.sz ≤ im.sz := by
 have := sum_mem (f := Rt.sz) h
 unfold Im.sz; omega

theorem idx_lt {i n : Nat} (h : i < n) : idx (i : Int) n = some i := by
 unfold idx
 rw [if_pos ⟨by omega, by omega⟩]
 simp
theorem nbeq_self (n : Nat) : Nat.beq n n = true := Nat.beq_refl n

/-! ### Types -/
noncomputable def zOf (t : TypeId) : Option (List V) := match mkTI Tryz.prog t with | some i => i.zero | none => none
theorem ti3 : mkTI Tryz.prog 3 = some ⟨.int .i64, 1, 8, zOf 3⟩ := by kernel_rfl
theorem ti4 : mkTI Tryz.prog 4 = some ⟨.bool, 1, 1, zOf 4⟩ := by kernel_rfl
theorem ti5 : mkTI Tryz.prog 5 = some ⟨.int .u8, 1, 1, zOf 5⟩ := by kernel_rfl
theorem ti9 : mkTI Tryz.prog 9 = some ⟨.str, 1, 16, zOf 9⟩ := by kernel_rfl
theorem ti21 : mkTI Tryz.prog 21 = some ⟨.int .i32, 1, 4, zOf 21⟩ := by kernel_rfl
theorem ti22 : mkTI Tryz.prog 22 = some ⟨.slice 3 1 8, 1, 24, zOf 22⟩ := by kernel_rfl
theorem ti23 : mkTI Tryz.prog 23 = some ⟨.slice 43 6 120, 1, 24, zOf 23⟩ := by kernel_rfl
theorem ti25 : mkTI Tryz.prog 25 = some ⟨.struct [(0, 1, false), (1, 1, false)], 2, 48, zOf 25⟩ := by kernel_rfl
theorem ti26 : mkTI Tryz.prog 26 = some ⟨.slice 22 1 24, 1, 24, zOf 26⟩ := by kernel_rfl
theorem ti34 : mkTI Tryz.prog 34 = some ⟨.ptr, 1, 8, zOf 34⟩ := by kernel_rfl
theorem ti29 : mkTI Tryz.prog 29 = some ⟨.int .i64, 1, 8, zOf 29⟩ := by kernel_rfl
theorem ti41 : mkTI Tryz.prog 41 = some ⟨.slice 45 5 40, 1, 24, zOf 41⟩ := by kernel_rfl
theorem ti43 : mkTI Tryz.prog 43 = some ⟨.struct [(0, 1, false), (1, 1, false), (2, 1, false), (3, 1, false), (4, 1, false), (5, 1, false)], 6, 120, zOf 43⟩ := by kernel_rfl
theorem ti45 : mkTI Tryz.prog 45 = some ⟨.struct [(0, 1, false), (1, 1, false), (2, 1, false), (3, 1, false), (4, 1, false)], 5, 40, zOf 45⟩ := by kernel_rfl
theorem ti67 : mkTI Tryz.prog 67 = some ⟨.struct [(0, 2, true), (2, 1, false), (3, 1, false)], 4, 80, zOf 67⟩ := by kernel_rfl
theorem ti70 : mkTI Tryz.prog 70 = some ⟨.ptr, 1, 8, zOf 70⟩ := by kernel_rfl
theorem ti85 : mkTI Tryz.prog 85 = some ⟨.struct [(0, 1, false), (1, 1, false), (2, 1, false)], 3, 56, zOf 85⟩ := by kernel_rfl
theorem ti52 : mkTI Tryz.prog 52 = some ⟨.array 4 3 1 false, 4, 32, zOf 52⟩ := by kernel_rfl
theorem ti54 : mkTI Tryz.prog 54 = some ⟨.struct [(0, 1, false), (1, 4, true), (5, 1, false)], 6, 56, zOf 54⟩ := by kernel_rfl
theorem ti76 : mkTI Tryz.prog 76 = some ⟨.array 11 54 6 true, 66, 616, zOf 76⟩ := by kernel_rfl
theorem ti59 : mkTI Tryz.prog 59 = some ⟨.slice 9 1 16, 1, 24, zOf 59⟩ := by kernel_rfl
theorem ti2 : mkTI Tryz.prog 2 = some ⟨.int .i64, 1, 8, zOf 2⟩ := by kernel_rfl
theorem ti50 : mkTI Tryz.prog 50 = some ⟨.slice 5 1 1, 1, 24, zOf 50⟩ := by kernel_rfl
theorem ti58 : mkTI Tryz.prog 58 = some ⟨.ptr, 1, 8, zOf 58⟩ := by kernel_rfl
theorem ti62 : mkTI Tryz.prog 62 = some ⟨.struct [(0, 1, false), (1, 1, false), (2, 1, false)], 3, 40, zOf 62⟩ := by kernel_rfl
theorem ti101 : mkTI Tryz.prog 101 = some ⟨.slice 54 6 56, 1, 24, zOf 101⟩ := by kernel_rfl
theorem ti111 : mkTI Tryz.prog 111 = some ⟨.int .u64, 1, 8, zOf 111⟩ := by kernel_rfl
theorem ti122 : mkTI Tryz.prog 122 = some ⟨.array 24 5 1 false, 24, 24, zOf 122⟩ := by kernel_rfl
theorem ti127 : mkTI Tryz.prog 127 = some ⟨.int .u64, 1, 8, zOf 127⟩ := by kernel_rfl
theorem ti140 : mkTI Tryz.prog 140 = some ⟨.array 20 111 1 false, 20, 160, zOf 140⟩ := by kernel_rfl
theorem ti141 : mkTI Tryz.prog 141 = some ⟨.int .u32, 1, 4, zOf 141⟩ := by kernel_rfl
def z0 : V := .d (.int .i64 0)
theorem z3_eq : zOf 3 = some [z0] := by kernel_rfl
theorem z9_eq : zOf 9 = some [.d (.str [])] := by kernel_rfl
theorem z22_eq : zOf 22 = some [.full []] := by kernel_rfl
theorem z25_eq : zOf 25 = some [.full [], .full []] := by kernel_rfl
theorem z50_eq : zOf 43 = some [.d (.str []), .full [], .full [], z0, .full [], .full []] := by kernel_rfl
theorem z52_eq : zOf 45 = some [z0, z0, z0, z0, z0] := by kernel_rfl
theorem z56_eq : zOf 67 = some [.full [], .full [], .full [], z0] := by kernel_rfl
theorem z72_eq : zOf 85 = some [.full [], .full [], .con (.pointer none)] := by kernel_rfl
theorem z86_eq : zOf 52 = some [z0, z0, z0, z0] := by kernel_rfl
theorem z88_eq : zOf 54 = some [.d (.str []), z0, z0, z0, z0, z0] := by kernel_rfl
theorem gv2 : Gl.gv 2 = .vref pow10Tab := rfl
theorem gv0 : Gl.gv 0 = .vref opsTab := rfl

theorem prim_Cp (f : Nat) : Cp.cfg.prim f = Cp.prim f := rfl
theorem thr_Cp (f : Nat) : Cp.cfg.thr f = Cp.thr f := rfl
theorem fz_Cp (f r : Nat) : Cp.cfg.fz f r = Cp.fz f r := rfl
theorem own_Cp (f : Nat) : Cp.cfg.own f = Cp.own f := rfl
theorem keep_Cp (f r : Nat) : Cp.cfg.keep f r = Cp.keep f r := rfl
theorem mat_Cp (f r : Nat) : Cp.cfg.mat f r = Cp.mat f r := rfl
theorem rowsOf_osl (look : Look) (sz id g off len sz' : Nat) (cap : Option Nat) : rowsOf look sz (.osl id g off len sz' cap) = match live look id g, Nat.beq sz sz' with
  | some o, true => match Nat.ble (off + len * sz) o.cells.length with
   | true => some (len, (o.cells.drop off).take (len * sz), [id])
   | false => none
  | _, _ => none := rfl

attribute [simp] prim_Cp Cp.prim thr_Cp Cp.thr closeArgs closeA closeVs close close1 ofD toD V.flat V.flat2 V.flat1 D.flat evalV Env.get constV constV1 putEnv binV intBin strBin boolBin unV ti3 ti4 ti5 ti9 ti21 ti22 ti23 ti25 ti26 ti34 ti29 ti41 ti43 ti45 ti67 ti70 ti85 ti52 ti54 ti76 ti59
 indexAddrV indexV indexRows ret fieldAddrV fieldV partV loadV readV TI.agg lenV Env.keep
 z3_eq z9_eq z22_eq z25_eq z50_eq z52_eq z56_eq z72_eq z86_eq z88_eq z0 gv0 nilOpd nilV nilR isEq checkNil
attribute [simp] opP opP0 wantedP step retR live nbeq_self newV cellsV V.one storeV cl1 roOf fz_Cp Cp.fz Hp.get Hp.set Hp.sets addNew idx_lt builtinV
attribute [simp] Hp.trunc_zero nblt_eq Hp.get_set_self Hp.trunc cut own_Cp Cp.own
attribute [simp] endR keepSt mats matOne keep_Cp mat_Cp Cp.keep Cp.mat callD rowsOf_osl appendV encI_len encC_len encR_len encL_len

theorem w_id' {n : Int} (h : -9223372036854775808 ≤ n) (h' : n ≤ 9223372036854775807) : IntKind.i64.wrap n = n := w_id h h'
attribute [simp] gv2 strRow appendSV ti2 ti50 ti58 ti62 ti101 ti111 ti122 ti127 ti140 ti141
attribute [simp] Cp.k3 Cp.k4 Cp.k5 Cp.k6 Cp.k7 Cp.k8 Cp.k9 Cp.k10 Cp.k11 Cp.k12 Cp.k13 Cp.k14 Cp.k15 Cp.k16 Cp.k17 Cp.k18 Cp.k19 Cp.k20 Cp.k21 Cp.k22 Cp.k23 Cp.k24 Cp.k25 Cp.k26 Cp.k27 Cp.k28 Cp.k29 Cp.k30 Cp.k31 Cp.k32 Cp.k33 Cp.k34 Cp.k35 Cp.k36 Cp.k37 Cp.k38 Cp.k39 Cp.k40 Cp.k41 Cp.k42 Cp.k43 Cp.k44 Cp.k45 Cp.k46 Cp.k47 Cp.k48 Cp.k49 Cp.k50 Cp.k51 Cp.k52 Cp.k53 Cp.k54 Cp.k55 Cp.k56 Cp.k57 Cp.k58 Cp.k59 Cp.k60 Cp.k61 Cp.k62 Cp.k63 Cp.k64 Cp.k65 Cp.k66 Cp.k67 Cp.k68 Cp.k70 Cp.k71 Cp.k72 Cp.k73 Cp.k74 Cp.k75 Cp.k76 Cp.k77 Cp.k78 Cp.k79 Cp.k80 Cp.k81 Cp.k82 Cp.k84 Cp.k85 Cp.k86 Cp.k87 Cp.k88 Cp.k89 Cp.k90 Cp.k91 Cp.k92 Cp.k93 Cp.k94 Cp.k95 Cp.k96 Cp.k97 Cp.k98 Cp.k99 Cp.k100 Cp.k101 Cp.k103 Cp.k104 Cp.k105 Cp.k106 Cp.k107 Cp.k108 Cp.k109 Cp.k110 Cp.k111 Cp.k112 Cp.k113 Cp.k114 Cp.k115 Cp.k116 Cp.k117 Cp.k149
end Go.Ac
end

section
set_option maxRecDepth 4000
namespace Go.Ac
open Go.Proofs Go.ChangeShapes Go.WideShapes Go.RowKit
open Go.Proofs.YtjkcpgkpmklcaaaGreatDoor.Rows (uptoBulk uptoBulkAll)

abbrev noB : Nat → Prop := fun _ => False

def RDs (w : World) (ds : List D) (cs : List Value) : Prop := ds.length = cs.length ∧ ∀ (j : Nat) d v, ds[j]? = some d → cs[j]? = some v → RD w noB d v

theorem bulk_pos {H : Type} (d : DataW H) : 1 ≤ uptoBulk d := by
 cases d with
 | lit l => cases l <;> simp [uptoBulk]
 | nil => simp [uptoBulk]
 | ptr d => simp [uptoBulk]
 | slice elems spare => simp [uptoBulk]
 | agg parts => simp [uptoBulk]
 | iface t d => simp [uptoBulk]
 | map entries => simp [uptoBulk]
 | held h => simp [uptoBulk]

section
variable {H : Type} {enc : TypeId × Value → H} {w : World}

theorem choose_list {α : Type} [Inhabited α] (p : Nat → α → Prop) (n : Nat) (h : ∀ i, i < n → ∃ x, p i x) : ∃ l : List α, l.length = n ∧ ∀ i x, l[i]? = some x → p i x := by
 have : ∀ i, ∃ x, i < n → p i x := fun i => by
  by_cases hi : i < n
  ·obtain ⟨x, hx⟩ := h i hi; exact ⟨x, fun _ => hx⟩
  ·exact ⟨default, fun h => absurd h hi⟩
 obtain ⟨f, hf⟩ := Classical.axiomOfChoice this
 refine ⟨(List.range n).map f, by simp, fun i x hi => ?_⟩
 rw [List.getElem?_map] at hi
 by_cases hin : i < n
 ·rw [List.getElem?_range hin] at hi
  simp at hi
  subst hi
  exact hf i hin
 ·rw [List.getElem?_eq_none (by simp; omega)] at hi
  simp at hi

theorem sum_le {α : Type} (sz : α → Nat) (K : Nat) : ∀ (l : List α) (es : List (DataW H × List MemPlace)), l.length = es.length → (∀ (i : Nat) x e, l[i]? = some x → es[i]? = some e → sz x ≤ K * uptoBulk e.1) → (l.map sz).sum ≤ K * uptoBulkAll (es.map (·.1))
 | [], es, h, _ => by simp
 | x :: l, [], h, _ => by simp at h
 | x :: l, e :: es, h, hi => by
  have h1 := hi 0 x e rfl rfl
  have h2 := sum_le sz K l es (by simpa using h) (fun i x e hx he => hi (i + 1) x e (by simpa using hx) (by simpa using he))
  simp only [List.map_cons, List.sum_cons, uptoBulkAll, Nat.mul_add]
  omega

theorem open_list {α : Type} [Inhabited α] (en : α → List D) (sz : α → Nat) (Pr : α → Prop) (K n : Nat) {t e fuel : Nat} {cs : List Value} {x : DataW H × List MemPlace} (ht : Tryz.prog.underlying t = some (.slice e)) (hc : Tryz.prog.cellsOf e = n) (hn : 0 < n) (hlen : ∀ y, (en y).length = n)
  (hel : ∀ fuel', fuel' < fuel → ∀ cs x, DataW.trod enc Tryz.prog w 0 (fun _ => true) true fuel' e cs = some x → ∃ y, RDs w (en y) cs ∧ sz y ≤ K * uptoBulk x.1 ∧ Pr y)
  (h : DataW.trod enc Tryz.prog w 0 (fun _ => true) true fuel t cs = some x) : ∃ (l : List α) (v : Value), cs = [v] ∧ RD w noB (.slice (l.map en)) v ∧ (l.map sz).sum ≤ K * (uptoBulk x.1 - 1) ∧ (∀ y, y ∈ l → Pr y) ∧ l.length ≤ uptoBulk x.1 - 1 := by
 rcases DataW.trod_slice ht h with ⟨rfl, rfl⟩ | ⟨a, len, cap, elems, rest, m, rfl, rfl, rfl, hb, hl, hm, hlen2, hel2, _, _⟩
 ·exact ⟨[], _, rfl, .empty none 0 (Nat.zero_le _), by simp, fun y hy => (by cases hy), Nat.zero_le _⟩
 ·rw [hc] at hel2
  have key : ∀ i, i < len → ∃ y : α, ∃ cs e, w.cells? 0 (a.add (i * n)) n = some cs ∧ elems[i]? = some e ∧ RDs w (en y) cs ∧ sz y ≤ K * uptoBulk e.1 ∧ Pr y := fun i hi => by
   have h1 := hel2 i hi
   rw [List.getElem?_eq_getElem (by omega)] at h1
   obtain ⟨cs, h2, h3⟩ := Option.bind_eq_some_iff.1 h1
   obtain ⟨y, h4, h5, h6⟩ := hel m (by omega) _ _ h3
   exact ⟨y, cs, _, h2, List.getElem?_eq_getElem (by omega), h4, h5, h6⟩
  obtain ⟨l, hll, hl2⟩ := choose_list _ len key
  refine ⟨l, _, rfl, ?_, ?_, ?_, ?_⟩
  ·by_cases h0 : len = 0
   ·subst h0
    have : l = [] := List.length_eq_zero_iff.1 hll
    subst this
    exact .empty _ _ hm
   ·have hspot : a.spot = none := by
     obtain ⟨y, cs, e, h1, _⟩ := key 0 (by omega)
     obtain ⟨_, h2, h3⟩ := World.cells?_some h1
     have h4 := h3 0 hn
     rw [List.getElem?_eq_getElem (by omega)] at h4
     simp only [Nat.zero_mul, Addr.add, if_pos] at h4
     unfold World.cell? at h4
     split at h4
     ·split at h4
      ·cases h4
      ·rename_i hs; simpa using hs
     ·cases h4
    obtain ⟨b, off, sp⟩ := a
    simp only at hspot
    subst hspot
    have hadd : ∀ o k, (Addr.mk b o none).add k = ⟨b, o + k, none⟩ := fun o k => by
     unfold Addr.add
     split
     ·rename_i hk; subst hk; rfl
     ·rfl
    have hcell : ∀ (i j : Nat) (r : List D) (d : D), (l.map en)[i]? = some r → r[j]? = some d → ∃ v, w.cell? ⟨b, off + (i * n + j), none⟩ = some v ∧ RD w noB d v := fun i j r d hr hd => by
     rw [List.getElem?_map, Option.map_eq_some_iff] at hr
     obtain ⟨y, hy, rfl⟩ := hr
     obtain ⟨cs, e, h1, _, h3, _, _⟩ := hl2 i y hy
     obtain ⟨_, h4, h5⟩ := World.cells?_some h1
     have hj : j < n := by
      have := (List.getElem?_eq_some_iff.1 hd).1
      rwa [hlen] at this
     have h6 := h5 j hj
     rw [hadd, hadd, List.getElem?_eq_getElem (by omega)] at h6
     rw [Nat.add_assoc] at h6
     have h7 : j < cs.length := by omega
     exact ⟨cs[j], h6, h3.2 j d _ hd (List.getElem?_eq_getElem h7)⟩
    rw [show len = (l.map en).length by simp [hll]]
    have hx : ∀ q : Nat × Nat, ∃ v, ∀ r d, (l.map en)[q.1]? = some r → r[q.2]? = some d → w.cell? ⟨b, off + (q.1 * n + q.2), none⟩ = some v ∧ RD w noB d v := fun q => by
     by_cases hq : ∃ r d, (l.map en)[q.1]? = some r ∧ r[q.2]? = some d
     ·obtain ⟨r, d, h1, h2⟩ := hq
      obtain ⟨v, h3, h4⟩ := hcell _ _ r d h1 h2
      refine ⟨v, fun r' d' h1' h2' => ?_⟩
      rw [h1] at h1'
      obtain rfl := Option.some.inj h1'
      rw [h2] at h2'
      obtain rfl := Option.some.inj h2'
      exact ⟨h3, h4⟩
     ·exact ⟨default, fun r d h1 h2 => absurd ⟨r, d, h1, h2⟩ hq⟩
    obtain ⟨f, hf⟩ := Classical.axiomOfChoice hx
    refine .slice (l.map en) b off cap n (by simp [hll]; exact hl) hm (fun i r hr => ?_) (fun i j => f (i, j)) (fun i j r d hr hd => ⟨fun h => h, (hf (i, j) r d hr hd).1⟩) (fun i j r d hr hd => (hf (i, j) r d hr hd).2)
    rw [List.getElem?_map, Option.map_eq_some_iff] at hr
    obtain ⟨y, _, rfl⟩ := hr
    exact hlen y
  ·have := sum_le sz K l elems (by omega) (fun i x e hx he => by
    obtain ⟨cs, e', h1, h2, h3, h4, _⟩ := hl2 i x hx
    rw [h2] at he
    obtain rfl := Option.some.inj he
    exact h4)
   refine Nat.le_trans this (Nat.mul_le_mul_left K ?_)
   simp only [uptoBulk]
   omega
  ·intro y hy
   obtain ⟨i, hi⟩ := List.mem_iff_getElem?.1 hy
   obtain ⟨_, _, _, _, _, _, h⟩ := hl2 i y hi
   exact h
  ·have h1 : ∀ es : List (DataW H × List MemPlace), es.length ≤ uptoBulkAll (es.map (·.1)) := fun es => by
    induction es with
    | nil => simp [uptoBulkAll]
    | cons a r ih => have := bulk_pos a.1; simp only [List.map_cons, uptoBulkAll, List.length_cons]; omega
   have := h1 elems
   simp only [uptoBulk]
   omega

theorem cz3 : Tryz.prog.cellsOf 3 = 1 := by kernel_rfl
theorem c9 : Tryz.prog.cellsOf 9 = 1 := by kernel_rfl
theorem c22 : Tryz.prog.cellsOf 22 = 1 := by kernel_rfl
theorem c23 : Tryz.prog.cellsOf 23 = 1 := by kernel_rfl
theorem c25 : Tryz.prog.cellsOf 25 = 2 := by kernel_rfl
theorem c48 : Tryz.prog.cellsOf 41 = 1 := by kernel_rfl
theorem c50 : Tryz.prog.cellsOf 43 = 6 := by kernel_rfl
theorem c52 : Tryz.prog.cellsOf 45 = 5 := by kernel_rfl
instance : Inhabited I := ⟨⟨0, 0, 0, 0, 0⟩⟩
theorem RDs.one {d : D} {v : Value} (h : RD w noB d v) : RDs w [d] [v] := ⟨rfl, fun j d' v' h1 h2 => by
 cases j with
 | zero => simp at h1 h2; subst h1; subst h2; exact h
 | succ j => simp at h1⟩
theorem RDs.app {d1 d2 : List D} {v1 v2 : List Value} (h1 : RDs w d1 v1) (h2 : RDs w d2 v2) : RDs w (d1 ++ d2) (v1 ++ v2) := by
 refine ⟨by simp [h1.1, h2.1], fun j d v hd hv => ?_⟩
 by_cases hj : j < d1.length
 ·rw [List.getElem?_append_left hj] at hd
  rw [List.getElem?_append_left (by rw [← h1.1]; exact hj)] at hv
  exact h1.2 j d v hd hv
 ·rw [List.getElem?_append_right (by omega)] at hd
  rw [List.getElem?_append_right (by rw [← h1.1]; omega), ← h1.1] at hv
  exact h2.2 _ d v hd hv


def I64 (n : Int) : Prop := -9223372036854775808 ≤ n ∧ n ≤ 9223372036854775807
theorem i64_of {n : Int} (h : (Lit.int .i64 n).wf = true) : I64 n := by
 simp [Lit.wf, IntKind.min, IntKind.max, IntKind.signed, IntKind.bits] at h
 unfold I64; omega
theorem open1 {f : Nat} {cs : List Value} {x : DataW H × List MemPlace} (h : DataW.trod enc Tryz.prog w 0 (fun _ => true) true f 22 cs = some x) : ∃ (l : List Int) (v : Value), cs = [v] ∧ RD w noB (.slice (encI l)) v ∧ l.length ≤ uptoBulk x.1 - 1 ∧ ∀ y ∈ l, I64 y := by
 obtain ⟨l, v, h1, h2, h3, h4, h5⟩ := open_list (fun n : Int => [ni n]) (fun _ => 0) I64 0 1 Tryz.underlying22 cz3 (by omega) (fun _ => rfl) (fun f' hf cs x hx => by
  obtain ⟨n, rfl, rfl, hw⟩ := DataW.trod_int Tryz.underlying3 hx
  exact ⟨n, .one (.int _ _), Nat.zero_le _, i64_of hw⟩) h
 exact ⟨l, v, h1, h2, h5, h4⟩
theorem openRow {f : Nat} {cs : List Value} {x : DataW H × List MemPlace} (h : DataW.trod enc Tryz.prog w 0 (fun _ => true) true f 26 cs = some x) : ∃ (l : List (List Int)) (v : Value), cs = [v] ∧ RD w noB (.slice (encL l)) v ∧ l.length ≤ uptoBulk x.1 ∧ ∀ r ∈ l, r.length ≤ uptoBulk x.1 := by
 obtain ⟨l, v, h1, h2, h3, h4, h5⟩ := open_list (fun r : List Int => [D.slice (encI r)]) (fun r => r.length) (fun _ => True) 1 1 Tryz.underlying26 c22 (by omega) (fun _ => rfl) (fun f' hf cs x hx => by
  obtain ⟨b, v, rfl, hr, hs, _⟩ := open1 hx
  exact ⟨b, .one hr, by omega, trivial⟩) h
 refine ⟨l, v, h1, h2, by omega, fun r hr => ?_⟩
 have := sum_mem (f := fun r : List Int => r.length) hr
 omega
theorem openInstr {f : Nat} {cs : List Value} {x : DataW H × List MemPlace} (h : DataW.trod enc Tryz.prog w 0 (fun _ => true) true f 45 cs = some x) : ∃ i : I, RDs w i.cells cs ∧ 6 ≤ 1 * uptoBulk x.1 ∧ True := by
 obtain ⟨xs, n, rfl, rfl, hl, hxl, hx⟩ := DataW.trod_struct Tryz.underlying45 h
 rw [c52] at hl
 match cs, hl with
 | [v0, v1, v2, v3, v4], _ =>
 have hx6 : xs.length = 5 := hxl
 match xs, hx6 with
 | [x0, x1, x2, x3, x4], _ =>
 have h0 := hx 0 _ rfl
 have h1 := hx 1 _ rfl
 have h2 := hx 2 _ rfl
 have h3 := hx 3 _ rfl
 have h4 := hx 4 _ rfl
 simp [cz3] at h0 h1 h2 h3 h4
 obtain ⟨n0, e0, rfl, _⟩ := DataW.trod_int Tryz.underlying3 h0
 obtain ⟨n1, e1, rfl, _⟩ := DataW.trod_int Tryz.underlying3 h1
 obtain ⟨n2, e2, rfl, _⟩ := DataW.trod_int Tryz.underlying3 h2
 obtain ⟨n3, e3, rfl, _⟩ := DataW.trod_int Tryz.underlying3 h3
 obtain ⟨n4, e4, rfl, _⟩ := DataW.trod_int Tryz.underlying3 h4
 simp only [List.cons.injEq, and_true] at e0 e1 e2 e3 e4
 subst e0 e1 e2 e3 e4
 refine ⟨⟨n0, n1, n2, n3, n4⟩, ?_, ?_, trivial⟩
 ·simp only [I.cells]
  exact RDs.app (d1 := [_]) (v1 := [_]) (.one (.int _ _)) (RDs.app (d1 := [_]) (v1 := [_]) (.one (.int _ _)) (RDs.app (d1 := [_]) (v1 := [_]) (.one (.int _ _)) (RDs.app (d1 := [_]) (v1 := [_]) (.one (.int _ _)) (.one (.int _ _)))))
 ·simp [uptoBulk, uptoBulkAll]
theorem openCode {f : Nat} {cs : List Value} {x : DataW H × List MemPlace} (h : DataW.trod enc Tryz.prog w 0 (fun _ => true) true f 41 cs = some x) : ∃ (l : List I) (v : Value), cs = [v] ∧ RD w noB (.slice (encC l)) v ∧ l.length * 6 ≤ uptoBulk x.1 - 1 := by
 obtain ⟨l, v, h1, h2, h3, h4, h5⟩ := open_list I.cells (fun _ => 6) (fun _ => True) 1 5 Tryz.underlying41 c52 (by omega) (fun _ => rfl) (fun f' hf cs x hx => openInstr hx) h
 refine ⟨l, v, h1, h2, ?_⟩
 have : (l.map fun _ => 6).sum = l.length * 6 := by
  clear h1 h2 h3 h4 h5
  induction l with
  | nil => rfl
  | cons a r ih => simp only [List.map_cons, List.sum_cons, ih, List.length_cons]; omega
 omega
def RtB (r : Rt) : Prop := (∀ t ∈ r.inn, t ≤ 9223372036854775807) ∧ (∀ t ∈ r.out, t ≤ 9223372036854775807) ∧ r.regs ≤ 9223372036854775807
theorem openRt {f : Nat} {cs : List Value} {x : DataW H × List MemPlace} (h : DataW.trod enc Tryz.prog w 0 (fun _ => true) true f 43 cs = some x) : ∃ r : Rt, RDs w r.cells cs ∧ r.sz ≤ 1 * uptoBulk x.1 ∧ RtB r := by
 obtain ⟨xs, n, rfl, rfl, hl, hxl, hx⟩ := DataW.trod_struct Tryz.underlying43 h
 rw [c50] at hl
 match cs, hl with
 | [v0, v1, v2, v3, v4, v5], _ =>
 have hx6 : xs.length = 6 := hxl
 match xs, hx6 with
 | [x0, x1, x2, x3, x4, x5], _ =>
 have h0 := hx 0 _ rfl
 have h1 := hx 1 _ rfl
 have h2 := hx 2 _ rfl
 have h3 := hx 3 _ rfl
 have h4 := hx 4 _ rfl
 have h5 := hx 5 _ rfl
 simp [cz3, c9, c22, c48] at h0 h1 h2 h3 h4 h5
 obtain ⟨s0, e0, rfl, _⟩ := DataW.trod_string Tryz.underlying9 h0
 obtain ⟨l1, w1, e1, hr1, hs1, hb1⟩ := open1 h1
 obtain ⟨l2, w2, e2, hr2, hs2, hb2⟩ := open1 h2
 obtain ⟨n3, e3, rfl, hw3⟩ := DataW.trod_int Tryz.underlying3 h3
 obtain ⟨l4, w4, e4, hr4, hs4, hb4⟩ := open1 h4
 obtain ⟨l5, w5, e5, hr5, hs5⟩ := openCode h5
 simp only [List.cons.injEq, and_true] at e0 e1 e2 e3 e4 e5
 subst e0 e1 e2 e3 e4 e5
 refine ⟨⟨s0.data.toList, l1, l2, n3, l4, l5⟩, ?_, ?_, fun t ht => (hb1 t ht).2, fun t ht => (hb2 t ht).2, (i64_of hw3).2⟩
 ·simp only [Rt.cells]
  exact RDs.app (d1 := [_]) (v1 := [_]) (.one (.str _ _ rfl)) (RDs.app (d1 := [_]) (v1 := [_]) (.one hr1) (RDs.app (d1 := [_]) (v1 := [_]) (.one hr2) (RDs.app (d1 := [_]) (v1 := [_]) (.one (.int _ _)) (RDs.app (d1 := [_]) (v1 := [_]) (.one hr4) (.one hr5)))))
 ·have b1 := bulk_pos x1.1
  have b2 := bulk_pos x2.1
  have b4 := bulk_pos x4.1
  have b5 := bulk_pos x5.1
  simp only [Rt.sz, uptoBulk, uptoBulkAll, List.map_cons, List.map_nil]
  omega
theorem openRts {f : Nat} {cs : List Value} {x : DataW H × List MemPlace} (h : DataW.trod enc Tryz.prog w 0 (fun _ => true) true f 23 cs = some x) : ∃ (l : List Rt) (v : Value), cs = [v] ∧ RD w noB (.slice (encR l)) v ∧ (l.map Rt.sz).sum ≤ uptoBulk x.1 - 1 ∧ ∀ r ∈ l, RtB r := by
 obtain ⟨l, v, h1, h2, h3, h4, h5⟩ := open_list Rt.cells Rt.sz RtB 1 6 Tryz.underlying23 c50 (by omega) (fun _ => rfl) (fun f' hf cs x hx => openRt hx) h
 exact ⟨l, v, h1, h2, by omega, h4⟩
theorem openIm {f : Nat} {cs : List Value} {x : DataW H × List MemPlace} (h : DataW.trod enc Tryz.prog w 0 (fun _ => true) true f 25 cs = some x) : ∃ im : Im, RDs w im.cells cs ∧ im.sz ≤ uptoBulk x.1 ∧ ∀ r ∈ im.rs, RtB r := by
 obtain ⟨xs, n, rfl, rfl, hl, hxl, hx⟩ := DataW.trod_struct Tryz.underlying25 h
 rw [c25] at hl
 match cs, hl with
 | [v0, v1], _ =>
 have hx6 : xs.length = 2 := hxl
 match xs, hx6 with
 | [x0, x1], _ =>
 have h0 := hx 0 _ rfl
 have h1 := hx 1 _ rfl
 simp [c22, c23] at h0 h1
 obtain ⟨l0, w0, e0, hr0, hs0, hb0⟩ := open1 h0
 obtain ⟨l1, w1, e1, hr1, hs1, hb1⟩ := openRts h1
 simp only [List.cons.injEq, and_true] at e0 e1
 subst e0 e1
 refine ⟨⟨l0, l1⟩, ?_, ?_, hb1⟩
 ·simp only [Im.cells]
  exact RDs.app (d1 := [_]) (v1 := [_]) (.one hr0) (.one hr1)
 ·have b0 := bulk_pos x0.1
  have b1 := bulk_pos x1.1
  simp only [Im.sz, uptoBulk, uptoBulkAll, List.map_cons, List.map_nil]
  omega
end
end Go.Ac
end

section
set_option maxRecDepth 4000
namespace Go.Ac
open Go.Proofs Go.ChangeShapes Go.WideShapes Go.RowKit

section
variable {H : Type} {enc : TypeId × Value → H} {w : World} {sp : Nat → Bool} {held : Bool}
theorem c86 : Tryz.prog.cellsOf 52 = 4 := by kernel_rfl
theorem c88 : Tryz.prog.cellsOf 54 = 6 := by kernel_rfl
theorem c100 : Tryz.prog.cellsOf 76 = 66 := by kernel_rfl
theorem RDs.chunks (sz : Nat) : ∀ (rows : List (List D)) (cs : List Value), cs.length = rows.length * sz → (∀ (i : Nat) r, rows[i]? = some r → RDs w r ((cs.drop (i * sz)).take sz)) → RDs w rows.flatten cs
 | [], cs, hl, _ => by
  have : cs = [] := List.eq_nil_of_length_eq_zero (by simpa using hl)
  subst this
  exact ⟨rfl, fun j d v h _ => by simp at h⟩
 | r :: rows, cs, hl, h => by
  have h0 := h 0 r rfl
  rw [Nat.zero_mul, List.drop_zero] at h0
  have hlen : cs.length = rows.length * sz + sz := by rw [hl, List.length_cons, Nat.add_mul, Nat.one_mul]
  have ih := RDs.chunks sz rows (cs.drop sz) (by rw [List.length_drop]; omega) fun i q hq => by
   have := h (i + 1) q (by simpa using hq)
   rw [List.drop_drop]
   rwa [Nat.add_mul, Nat.one_mul, Nat.add_comm] at this
  have := RDs.app h0 ih
  rwa [List.take_append_drop] at this
/-- One operation's row. -/
theorem row88 {f : Nat} {cs : List Value} {x : DataW H × List MemPlace} (h : DataW.trod enc Tryz.prog w 0 sp held f 54 cs = some x) {s : List UInt8} {a b c d n : Int} (hx : x.1 = .agg [.lit (.string s), .agg [.lit (.int .i64 a), .lit (.int .i64 b), .lit (.int .i64 c), .lit (.int .i64 d)], .lit (.int .i64 n)]) :
  RDs w [.str s, .int .i64 a, .int .i64 b, .int .i64 c, .int .i64 d, .int .i64 n] cs := by
 obtain ⟨ys, m, rfl, rfl, hl, hyl, hy⟩ := DataW.trod_struct Tryz.underlying54 h
 rw [c88] at hl
 match cs, hl with
 | [v0, v1, v2, v3, v4, v5], _ =>
 have hy3 : ys.length = 3 := hyl
 match ys, hy3 with
 | [y0, y1, y2], _ =>
 have h0 := hy 0 _ rfl
 have h1 := hy 1 _ rfl
 have h2 := hy 2 _ rfl
 simp [cz3, c9, c86] at h0 h1 h2
 obtain ⟨s0, e0, rfl, _⟩ := DataW.trod_string Tryz.underlying9 h0
 obtain ⟨n2, e2, rfl, _⟩ := DataW.trod_int Tryz.underlying3 h2
 obtain ⟨xs, m1, rfl, rfl, hl1, hxl, hx1⟩ := DataW.trod_array Tryz.underlying52 h1
 match xs, hxl with
 | [x0, x1, x2, x3], _ =>
 have g0 := hx1 0 (by omega)
 have g1 := hx1 1 (by omega)
 have g2 := hx1 2 (by omega)
 have g3 := hx1 3 (by omega)
 simp [cz3] at g0 g1 g2 g3
 obtain ⟨m0, q0, rfl, _⟩ := DataW.trod_int Tryz.underlying3 g0
 obtain ⟨m1', q1, rfl, _⟩ := DataW.trod_int Tryz.underlying3 g1
 obtain ⟨m2, q2, rfl, _⟩ := DataW.trod_int Tryz.underlying3 g2
 obtain ⟨m3, q3, rfl, _⟩ := DataW.trod_int Tryz.underlying3 g3
 simp only [List.cons.injEq, and_true] at e0 e2 q0 q1 q2 q3
 subst e0 e2 q0 q1 q2 q3
 simp at hx
 obtain ⟨rfl, ⟨rfl, rfl, rfl, rfl⟩, rfl⟩ := hx
 exact RDs.app (d1 := [_]) (v1 := [_]) (.one (.str _ _ (by simp))) (RDs.app (d1 := [_]) (v1 := [_]) (.one (.int _ _)) (RDs.app (d1 := [_]) (v1 := [_]) (.one (.int _ _)) (RDs.app (d1 := [_]) (v1 := [_]) (.one (.int _ _)) (RDs.app (d1 := [_]) (v1 := [_]) (.one (.int _ _)) (.one (.int _ _))))))
def rowD (p : List UInt8 × Int × Int × Int × Int × Int) : List D := [.str p.1, .int .i64 p.2.1, .int .i64 p.2.2.1, .int .i64 p.2.2.2.1, .int .i64 p.2.2.2.2.1, .int .i64 p.2.2.2.2.2]
def rowW (p : List UInt8 × Int × Int × Int × Int × Int) : DataW H := .agg [.lit (.string p.1), .agg [.lit (.int .i64 p.2.1), .lit (.int .i64 p.2.2.1), .lit (.int .i64 p.2.2.2.1), .lit (.int .i64 p.2.2.2.2.1)], .lit (.int .i64 p.2.2.2.2.2)]
def opsL : List (List UInt8 × Int × Int × Int × Int × Int) := [([], 0, 0, 0, 0, 0), ([108, 111, 97, 100], 1, 3, 0, 0, 0), ([109, 111, 118, 101], 1, 1, 0, 0, 0), ([114, 101, 97, 100], 1, 2, 0, 0, 0), ([119, 114, 105, 116, 101], 2, 1, 0, 0, 0), ([117, 110, 97, 114, 121], 1, 1, 5, 0, 1), ([97, 112, 112, 108, 121], 1, 1, 1, 5, 2), ([106, 117, 109, 112], 0, 4, 0, 0, 0), ([122, 101, 114, 111], 1, 4, 0, 0, 0), ([99, 97, 108, 108], 6, 7, 8, 9, 0), ([114, 101, 115, 101, 116], 6, 7, 0, 0, 0)]
theorem ops_rows : opsTab = (opsL.map rowD).flatten := by rfl
theorem laid_rows : (Go.Proofs.YtjkcpgkpmklcaaaGreatDoor.Rows.laid_synchrony_asm_operations : DataW H) = .agg (opsL.map rowW) := by rfl
theorem tab_cells {f : Nat} {cs : List Value} {p : List MemPlace} (h : DataW.trod enc Tryz.prog w 0 sp held f 76 cs = some (Go.Proofs.YtjkcpgkpmklcaaaGreatDoor.Rows.laid_synchrony_asm_operations, p)) : RDs w opsTab cs := by
 obtain ⟨xs, m, rfl, hx, hl, hxl, hi⟩ := DataW.trod_array Tryz.underlying76 h
 rw [laid_rows] at hx
 have hx1 : opsL.map rowW = xs.map (·.1) := by
  have := congrArg Prod.fst hx
  simpa using this
 rw [ops_rows]
 refine RDs.chunks 6 _ cs (by rw [hl, c100]; rfl) fun i r hr => ?_
 rw [List.getElem?_map, Option.map_eq_some_iff] at hr
 obtain ⟨q, hq, rfl⟩ := hr
 have hi11 : i < 11 := (List.getElem?_eq_some_iff.1 hq).1
 have h1 := hi i hi11
 rw [c88] at h1
 have h2 : (xs.map (·.1))[i]? = some (rowW q) := by rw [← hx1, List.getElem?_map, hq]; rfl
 rw [List.getElem?_map, Option.map_eq_some_iff] at h2
 obtain ⟨y, hy, hy2⟩ := h2
 rw [hy] at h1
 exact row88 h1 hy2
end
abbrev laidL : List (String × DataW Unit) := Go.Proofs.YtjkcpgkpmklcaaaGreatDoor.Rows.cpuTextsUptoRow.laid
def powLZ : List Int := [1, 10, 100, 1000, 10000, 100000, 1000000, 10000000, 100000000, 1000000000, 10000000000, 100000000000, 1000000000000, 10000000000000, 100000000000000, 1000000000000000, 10000000000000000, 100000000000000000, 1000000000000000000, 10000000000000000000]
theorem powL_tab : pow10Tab = powLZ.map fun z => D.int .u64 z := rfl
theorem RDs.ints {w : World} : ∀ zs : List Int, RDs w (zs.map fun z => D.int .u64 z) (zs.map fun z => Value.int .u64 z)
 | [] => ⟨rfl, fun j d v h _ => by simp at h⟩
 | z :: r => RDs.app (d1 := [_]) (v1 := [_]) (.one (.int _ _)) (RDs.ints r)
theorem gTab : Tryz.prog.globalNamed "synchrony/asm.operations" = some 0 := by kernel_rfl
theorem gTabType : (Tryz.prog.globals[0]?).map (·.type) = some 76 := by kernel_rfl
theorem gPow : Tryz.prog.globalNamed "internal/strconv.uint64pow10" = some 2 := by kernel_rfl
theorem gPowType : (Tryz.prog.globals[2]?).map (·.type) = some 140 := by kernel_rfl
theorem cPow : Tryz.prog.cellsOf 140 = 20 := by kernel_rfl
theorem cPow1 : Tryz.prog.cellsOf 111 = 1 := by kernel_rfl
/-- What the row's list gives. -/
theorem table {W : World} (h : laidMet Tryz.prog laidL W) : ∃ cs : List Value, RDs W opsTab cs ∧ ∀ i, W.cell? ⟨0, i, none⟩ = cs[i]? := by
 obtain ⟨ps, ⟨_, _, _, _, _, _, _, _, _, _, ⟨_, _, _, _, _, _, _, _, _, _, ⟨_, _, _, _, _, _, _, _, _, _, ⟨_, _, _, _, _, _, _, _, _, _, ⟨_, _, _, _, _, _, _, _, _, _, ⟨_, _, _, _, _, _, _, _, _, _, ⟨g', t', cs, fuel, p, q, hg', ht', hvar, hd, _, _⟩, _⟩, _⟩, _⟩, _⟩, _⟩, _⟩, _⟩ := h
 obtain rfl := Option.some.inj (gTab.symm.trans hg')
 obtain rfl := Option.some.inj (gTabType.symm.trans ht')
 refine ⟨cs.toList, tab_cells hd, fun i => ?_⟩
 rw [World.var?_cell hg' hvar i]
 simp
theorem tableP {W : World} (h : laidMet Tryz.prog laidL W) : ∃ cs : List Value, RDs W pow10Tab cs ∧ ∀ i, W.cell? ⟨2, i, none⟩ = cs[i]? := by
 obtain ⟨ps, ⟨_, _, _, _, _, _, _, _, _, _, ⟨_, _, _, _, _, _, _, _, _, _, ⟨g', t', cs, fuel, p, q, hg', ht', hvar, hd, _, _⟩, _⟩, _⟩, _⟩ := h
 obtain rfl := Option.some.inj (gPow.symm.trans hg')
 obtain rfl := Option.some.inj (gPowType.symm.trans ht')
 have hc := Go.Lib.cells_of_tab (k := .u64) (zs := powLZ) Tryz.underlying140 Tryz.underlying111 cPow1 cPow hd
 refine ⟨cs.toList, by rw [hc, powL_tab]; exact RDs.ints powLZ, fun i => ?_⟩
 rw [World.var?_cell hg' hvar i]
 simp
end Go.Ac
end

section
set_option maxRecDepth 100000
namespace Go.Ac
open Go.Proofs Go.RowKit Go.Lib
theorem idx_eq : ∀ (l : List UInt8) (b : UInt8), indexByte l b = (match l.findIdx? (fun x => x == b) with | some i => (i : Int) | none => -1)
 | [], b => rfl
 | x :: r, b => by
  have ih := idx_eq r b
  unfold indexByte
  rw [List.findIdx?_cons]
  by_cases h : (x == b) = true
  ·rw [if_pos h, if_pos h]; rfl
  ·rw [if_neg h, if_neg h, ih]
   cases r.findIdx? (fun x => x == b) with
   | none => rfl
   | some i =>
    simp only [Option.map_some]
    have : ((i : Int) == -1) = false := by rw [beq_eq_false_iff_ne]; omega
    rw [this]; simp
set_option maxHeartbeats 1000000 in
theorem byte82 (s : ByteArray) (c : Int) (w : World) : Calls Tryz.prog 82 #[.string s, .int .u8 c] w fun e w' => e = .returned (.int .i64 (indexByte s.data.toList c.toNat.toUInt8)) ∧ w' = w := by
 go_enter Tryz.func82, Tryz.ntmps82
 go_wp2
 rw [run_callFunc_extern Tryz.func102 (by kernel_rfl) (by kernel_rfl) (by kernel_rfl) (e := Extern.BytealgIndexByte.indexByte) (by kernel_rfl), Lib.run_indexByteString]
 simp only [Result.andThen]
 rw [Oper.upon_value]
 go_wp2
 go_ret
 exact ⟨rfl, rfl⟩
theorem index82 : IndexAt Tryz.prog 82 := ⟨⟨_, Tryz.func82, rfl⟩, fun s b w => by
 refine (byte82 s b w).mono fun e w' ⟨h1, h2⟩ => ⟨?_, h2⟩
 rw [h1, idx_eq]; rfl⟩
set_option maxHeartbeats 1000000 in
theorem count51 : CountAt Tryz.prog 51 := ⟨⟨_, Tryz.func51, rfl⟩, fun s b w hs => by
 have hb : (⟨#[b]⟩ : ByteArray).size = 1 := rfl
 go_enter Tryz.func51, Tryz.ntmps51
 go_wp2
 rw [run_callFunc_extern Tryz.func69 (by kernel_rfl) (by kernel_rfl) (by kernel_rfl) (e := Extern.BytealgCount.count) (by kernel_rfl), Lib.run_countString]
 simp only [Result.andThen]
 rw [Oper.upon_value]
 go_wp2
 go_ret
 refine ⟨?_, rfl⟩
 rfl⟩
theorem primCt : ∀ f p, Cp.cfg.prim f = some p → (CloneAt Tryz.prog f p.1 p.2 ∧ 0 < p.2) ∨ (p = (0, 0) ∧ IndexAt Tryz.prog f) ∨ (p = (1, 0) ∧ CountAt Tryz.prog f) := by
 intro f p h
 have h : Cp.prim f = some p := h
 unfold Cp.prim at h
 split at h
 ·simp at h; subst h
  exact .inl ⟨CloneAt.of (t := 22) (e := 3) Tryz.func27 rfl rfl rfl (by kernel_rfl) (by kernel_rfl) ⟨rfl, rfl, rfl⟩ ⟨rfl, rfl, rfl⟩ ⟨rfl, rfl, rfl⟩ ⟨rfl, rfl, rfl⟩ ⟨rfl, rfl, rfl⟩ ⟨rfl, rfl, rfl⟩ ⟨rfl, rfl, rfl⟩ ⟨rfl, rfl, rfl⟩, by decide⟩
 ·simp at h; subst h
  exact .inl ⟨CloneAt.of (t := 41) (e := 45) Tryz.func38 rfl rfl rfl (by kernel_rfl) (by kernel_rfl) ⟨rfl, rfl, rfl⟩ ⟨rfl, rfl, rfl⟩ ⟨rfl, rfl, rfl⟩ ⟨rfl, rfl, rfl⟩ ⟨rfl, rfl, rfl⟩ ⟨rfl, rfl, rfl⟩ ⟨rfl, rfl, rfl⟩ ⟨rfl, rfl, rfl⟩, by decide⟩
 ·simp at h; subst h
  exact .inr (.inr ⟨rfl, count51⟩)
 ·simp at h; subst h
  exact .inr (.inl ⟨rfl, index82⟩)
 ·cases h
end Go.Ac
end

section
set_option maxRecDepth 4000
namespace Go.Ac
open Go.Proofs

theorem ti165 : mkTI Tryz.prog 165 = some ⟨.int .i16, 1, 2, zOf 165⟩ := by kernel_rfl
attribute [simp] ti165 convV envOf

theorem den_k [Gl] {P : Program} {cfg : Cfg} {f : FuncId} {vs : List V} (K : Nat) {v : V} (h : ∀ k, callF P cfg (k + K) f vs [] 0 0 = some ⟨v, [], 0, ((callF P cfg K f vs [] 0 0).map (·.c)).getD 0, []⟩) (hv : (closeT noLook v).isSome = true) : den P cfg f vs = some v := by
 refine den_of (r := ⟨v, [], 0, ((callF P cfg K f vs [] 0 0).map (·.c)).getD 0, []⟩) ⟨K, fun k hk => ?_⟩ hv
 obtain ⟨j, rfl⟩ : ∃ j, k = j + K := ⟨k - K, by omega⟩
 exact h j

def w16 (n : Int) : Int := IntKind.i16.wrap n
theorem w16_def (n : Int) : w16 n = (n + 32768) % 65536 - 32768 := by
 simp [w16, IntKind.wrap, IntKind.signed, IntKind.bits]
 omega
theorem w16_lo (n : Int) : -32768 ≤ w16 n := by rw [w16_def]; omega
theorem w16_hi (n : Int) : w16 n ≤ 32767 := by rw [w16_def]; omega
theorem i64_w16 (n : Int) : IntKind.i64.wrap (w16 n) = w16 n := by have := w16_lo n; have := w16_hi n; rw [w_id'] <;> omega

/-! ### The program's words -/
theorem wrap_den (n : Int) : den Tryz.prog Cp.cfg 117 [dI n] = some (dI (w16 n)) := by
 rw [← i64_w16]
 exact den_k 40 (fun k => by kernel_rfl) rfl
theorem neg_den (a : Int) : den Tryz.prog Cp.cfg 107 [dI a] = some (dI (w16 (-(w16 a)))) := by
 refine den_wp Tryz.func107 rfl (by kernel_rfl) rfl rfl ?_
 have h := wrap_den a
 simp only [dI] at h
 have h1 := w16_lo a
 have h2 := w16_hi a
 have h3 := wrap_den (-(w16 a))
 simp only [dI] at h3
 have h4 : IntKind.i64.wrap (-(w16 a)) = -(w16 a) := by rw [w_id'] <;> omega
 refine wk (jn @dI.eq_1 (jn @h (jn @h3 @h4))) ?_
 exact ⟨.inr rfl, _, _, rfl, rfl⟩
theorem w16_add (a b : Int) : IntKind.i64.wrap (w16 a + w16 b) = w16 a + w16 b := by
 have := w16_lo a; have := w16_hi a; have := w16_lo b; have := w16_hi b
 rw [w_id'] <;> omega
theorem w16_sub (a b : Int) : IntKind.i64.wrap (w16 a - w16 b) = w16 a - w16 b := by
 have := w16_lo a; have := w16_hi a; have := w16_lo b; have := w16_hi b
 rw [w_id'] <;> omega
theorem mul_bd {x y : Int} (h1 : -32768 ≤ x) (h2 : x ≤ 32768) (h3 : -32768 ≤ y) (h4 : y ≤ 32768) : -1073741824 ≤ x * y ∧ x * y ≤ 1073741824 := by
 have a1 : x * y = (x + 32768) * (y + 32768) - 32768 * x - 32768 * y - 1073741824 := by
  rw [Int.add_mul, Int.mul_add, Int.mul_add]; omega
 have p1 : 0 ≤ (x + 32768) * (y + 32768) := Int.mul_nonneg (by omega) (by omega)
 have p2 : 0 ≤ (32768 - x) * (32768 - y) := Int.mul_nonneg (by omega) (by omega)
 have p3 : 0 ≤ (x + 32768) * (32768 - y) := Int.mul_nonneg (by omega) (by omega)
 have p4 : 0 ≤ (32768 - x) * (y + 32768) := Int.mul_nonneg (by omega) (by omega)
 rw [Int.add_mul, Int.mul_add, Int.mul_add] at p1
 rw [Int.sub_mul, Int.mul_sub, Int.mul_sub] at p2
 rw [Int.add_mul, Int.mul_sub, Int.mul_sub] at p3
 rw [Int.sub_mul, Int.mul_add, Int.mul_add] at p4
 constructor <;> omega
theorem w16_mul (a b : Int) : IntKind.i64.wrap (w16 a * w16 b) = w16 a * w16 b := by
 have h1 := w16_lo a; have h2 := w16_hi a; have h3 := w16_lo b; have h4 := w16_hi b
 have := mul_bd h1 (by omega) h3 (by omega)
 rw [w_id'] <;> omega
theorem add_den (a b : Int) : den Tryz.prog Cp.cfg 108 [dI a, dI b] = some (dI (w16 (w16 a + w16 b))) := by
 refine den_wp Tryz.func108 rfl (by kernel_rfl) rfl rfl ?_
 have h := wrap_den a
 have h' := wrap_den b
 have h3 := wrap_den (w16 a + w16 b)
 simp only [dI] at h h' h3
 have h4 : IntKind.i64.wrap (w16 a + w16 b) = w16 a + w16 b := w16_add a b
 refine wk (jn @dI.eq_1 (jn @h (jn @h' (jn @h3 @h4)))) ?_
 exact ⟨.inr rfl, _, _, rfl, rfl⟩
theorem sub_den (a b : Int) : den Tryz.prog Cp.cfg 109 [dI a, dI b] = some (dI (w16 (w16 a - w16 b))) := by
 refine den_wp Tryz.func109 rfl (by kernel_rfl) rfl rfl ?_
 have h := wrap_den a
 have h' := wrap_den b
 have h3 := wrap_den (w16 a - w16 b)
 simp only [dI] at h h' h3
 have h4 : IntKind.i64.wrap (w16 a - w16 b) = w16 a - w16 b := w16_sub a b
 refine wk (jn @dI.eq_1 (jn @h (jn @h' (jn @h3 @h4)))) ?_
 exact ⟨.inr rfl, _, _, rfl, rfl⟩
theorem mul_den (a b : Int) : den Tryz.prog Cp.cfg 110 [dI a, dI b] = some (dI (w16 (w16 a * w16 b))) := by
 refine den_wp Tryz.func110 rfl (by kernel_rfl) rfl rfl ?_
 have h := wrap_den a
 have h' := wrap_den b
 have h3 := wrap_den (w16 a * w16 b)
 simp only [dI] at h h' h3
 have h4 : IntKind.i64.wrap (w16 a * w16 b) = w16 a * w16 b := w16_mul a b
 refine wk (jn @dI.eq_1 (jn @h (jn @h' (jn @h3 @h4)))) ?_
 exact ⟨.inr rfl, _, _, rfl, rfl⟩


def divI (a b : Int) : Int := if b = 0 then 0 else w16 (a.tdiv b)
def modI (a b : Int) : Int := if b = 0 then a else a.tmod b
theorem tdiv_bd {a b : Int} (h1 : -32768 ≤ a) (h2 : a ≤ 32767) : -32768 ≤ a.tdiv b ∧ a.tdiv b ≤ 32768 := by
 have h : (a.tdiv b).natAbs ≤ a.natAbs := by rw [Int.natAbs_tdiv]; exact Nat.div_le_self _ _
 omega
theorem div_den (a b : Int) : den Tryz.prog Cp.cfg 111 [dI a, dI b] = some (dI (divI (w16 a) (w16 b))) := by
 refine den_wp Tryz.func111 rfl (by kernel_rfl) rfl rfl ?_
 have h := wrap_den a
 have h' := wrap_den b
 have h3 := wrap_den ((w16 a).tdiv (w16 b))
 simp only [dI] at h h' h3
 have hb := tdiv_bd (b := w16 b) (w16_lo a) (w16_hi a)
 have h4 : IntKind.i64.wrap ((w16 a).tdiv (w16 b)) = (w16 a).tdiv (w16 b) := by rw [w_id'] <;> omega
 refine wk (jn @dI.eq_1 (jn @h (jn @h' (jn @h3 @h4)))) ?_
 show WP _ _ _ _ _ _
 refine WP.cond _ rfl (fun hb => ?_) (fun hb => ?_)
 ·simp at hb
  refine wk True.intro ?_
  exact ⟨.inr rfl, _, _, rfl, by simp only [divI, hb]; rfl⟩
 ·simp at hb
  refine wk (jn @hb (jn @h3 @h4)) ?_
  exact ⟨.inr rfl, _, _, rfl, by simp only [divI, if_neg hb]; rfl⟩
theorem mod_den (a b : Int) : den Tryz.prog Cp.cfg 112 [dI a, dI b] = some (dI (modI (w16 a) (w16 b))) := by
 refine den_wp Tryz.func112 rfl (by kernel_rfl) rfl rfl ?_
 have h := wrap_den a
 have h' := wrap_den b
 simp only [dI] at h h'
 refine wk (jn @dI.eq_1 (jn @h @h')) ?_
 show WP _ _ _ _ _ _
 refine WP.cond _ rfl (fun hb => ?_) (fun hb => ?_)
 ·simp at hb
  refine wk True.intro ?_
  exact ⟨.inr rfl, _, _, rfl, by simp only [modI, hb]; rfl⟩
 ·simp at hb
  refine wk (@hb) ?_
  exact ⟨.inr rfl, _, _, rfl, by simp only [modI, if_neg hb]; rfl⟩
theorem in_den (n : Int) : den Tryz.prog Cp.cfg 39 [dI n] = some (dB (decide (-32768 ≤ n) && decide (n ≤ 32767))) := by
 refine den_wp Tryz.func39 rfl (by kernel_rfl) rfl rfl ?_
 by_cases h : -32768 ≤ n
 ·have e : (decide (-32768 ≤ n) && decide (n ≤ 32767)) = decide (n ≤ 32767) := by simp [h]
  rw [e]
  refine wk (jn @dI.eq_1 @h) ?_
  exact ⟨.inr rfl, _, _, rfl, rfl⟩
 ·have e : (decide (-32768 ≤ n) && decide (n ≤ 32767)) = false := by simp [h]
  rw [e]
  refine wk (jn @dI.eq_1 @h) ?_
  exact ⟨.inr rfl, _, _, rfl, rfl⟩
theorem truth_den (b : Bool) : den Tryz.prog Cp.cfg 94 [dB b] = some (dI (if b then 1 else 0)) := by
 cases b
 ·exact den_k 40 (fun k => by kernel_rfl) rfl
 ·exact den_k 40 (fun k => by kernel_rfl) rfl

end Go.Ac
end
