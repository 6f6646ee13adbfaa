/- Images as data; the simp set of the walks. -/
import Derived.Test.YtofhhkkncaoneaaDoorAcBM
import Derived.Test.YtofhhkkncaoneaaDoorAcDM
import Derived.Test.YtofhhkkncaoneaaDoorAcGM
import Derived.Test.YtofhhkkncaoneaaDoorAcJM
import Derived.Test.YtofhhkkncaoneaaDoorAcMM
import Derived.Test.YtofhhkkncaoneaaDoorAcOM
import Derived.Test.YtofhhkkncaoneaaDoorAcSM
import Derived.Test.YtofhhkkncaoneaaDoorAcXM
import Derived.Test.YtofhhkkncaoneaaDoorAcUcM
import Derived.Test.YtofhhkkncaoneaaDoorAcThM
import Derived.KernelRfl
import Derived.Calls
import Derived.Orders
import Derived.Laws.World
import Derived.Laws.Sem
import Derived.Laws.Cells
import Derived.Laws.Append
import GoSem.ClaimData
import Derived.Laws.Tables
import Derived.Laws.Slices
import Derived.Laws.Strings
import Derived.Laws.Small
import Derived.Test.YtofhhkkncaoneaaDoorChecked
set_option linter.unusedVariables false
set_option linter.unusedSimpArgs false
section
set_option linter.unusedVariables false
set_option linter.unusedSimpArgs false
namespace Go.Ac
theorem iZ {α : Sort _} {x : α} : Is x x := Is.rfl
theorem gS {α : Type _} {x : α} {i : Nat} {l : List α} : (x :: l)[i + 1]? = l[i]? := rfl
theorem gZ {α : Type _} {x : α} {l : List α} : (x :: l)[0]? = some x := rfl

/-- One walk leads from a goal to another. -/
structure Hd (G : Prop) : Prop where
  out : G
def Wk (L G G' : Prop) : Prop := L → Hd G' → G

theorem wk {L : Prop} (hl : L) {G G' : Prop} (k : G') (h : Wk L G G' := by
  intro hl hk
  repeat (first
 | apply WP.seq
 | (apply WP.reg; (case hR => dsimp only [prepL, prepO, List.map, gS, gZ]; exact iZ); (case hr => (repeat (first
 | (apply RT.op; simp [hl]; exact iZ; (try dsimp only [putEnv]) <;> exact rfl)
 | (apply RT.call; (iterate 2 simp; exact iZ); exact iZ; (iterate 4 simp [hl]; exact iZ); simp [Is]; (try dsimp only [putEnv]) <;> exact rfl; simp; exact iZ; simp; exact iZ)
 | (apply RT.wr; simp [hl]; exact iZ; (try dsimp only [putEnv]) <;> exact rfl; simp [hl]; exact iZ; (iterate 2 exact iZ); simp; exact iZ))); exact RT.nil); (case hc => (show _ = _; kernel_rfl)); (case ht => simp [hl]; exact iZ))
 | apply WP.block | apply WP.skip | apply WP.exit | apply WP.ret)
  exact hk.out) : G := h hl ⟨k⟩
theorem wki {L : Prop} (hl : L) {G G' : Prop} (k : G') (h : Wk L G G' := by
  intro hl hk
  repeat (first
 | apply WP.seq
 | (apply WP.reg; (case hR => dsimp only [prepL, prepO, List.map, gS, gZ]; exact iZ); (case hr => (repeat (first
 | (apply RT.op; simp [hl]; exact iZ; (try dsimp only [putEnv]) <;> exact rfl)
 | (apply RT.call; (iterate 2 simp; exact iZ); exact iZ; (iterate 4 simp [hl]; exact iZ); simp [Is]; (try dsimp only [putEnv]) <;> exact rfl; simp; exact iZ; simp; exact iZ)
 | (apply RT.callI (hd := hI1) (hne := hI2) (hw := hI3) (hwr := hI4); (iterate 2 simp; exact iZ); exact iZ; (iterate 2 simp [hl]; exact iZ); (try dsimp only [putEnv]) <;> exact rfl; (first | omega | simp))
 | (apply RT.wr; simp [hl]; exact iZ; (try dsimp only [putEnv]) <;> exact rfl; simp [hl]; exact iZ; (iterate 2 exact iZ); simp; exact iZ))); exact RT.nil); (case hc => (show _ = _; kernel_rfl)); (case ht => simp [hl]; exact iZ))
 | apply WP.block | apply WP.skip | apply WP.exit | apply WP.ret)
  exact hk.out) : G := h hl ⟨k⟩
theorem wkn {L : Prop} (hl : L) {G G' : Prop} (k : G') (h : Wk L G G' := by
  intro hl hk
  repeat (first
 | apply WP.seq
 | (apply WP.reg; (case hR => dsimp only [prepL, prepO, List.map, gS, gZ]; exact iZ); (case hr => (repeat (first
 | (apply RT.op; simp [hl]; exact iZ; (try dsimp only [putEnv]) <;> exact rfl)
 | (apply RT.call; (iterate 2 simp; exact iZ); exact iZ; (iterate 4 simp [hl]; exact iZ); simp [Is]; (try dsimp only [putEnv]) <;> exact rfl; simp; exact iZ; simp; exact iZ)
 | (apply RT.clone; (iterate 2 simp; exact iZ); exact iZ; (iterate 2 simp [hl]; exact iZ); (first | assumption | (simp [fitsB]; omega)); (try dsimp only [putEnv]) <;> exact rfl; simp [hl]; exact iZ; simp; exact iZ)
 | (apply RT.wr; simp [hl]; exact iZ; (try dsimp only [putEnv]) <;> exact rfl; simp [hl]; exact iZ; (iterate 2 exact iZ); simp; exact iZ))); exact RT.nil); (case hc => (show _ = _; kernel_rfl)); (case ht => simp [hl]; exact iZ))
 | apply WP.block | apply WP.skip | apply WP.exit | apply WP.ret)
  exact hk.out) : G := h hl ⟨k⟩
theorem wkq {L : Prop} (hl : L) {G G' : Prop} (k : G') (h : Wk L G G' := by
  intro hl hk
  repeat (first
 | apply WP.seq
 | (apply WP.reg; (case hR => dsimp only [prepL, prepO, List.map, gS, gZ]; exact iZ); (case hr => (repeat (first
 | (apply RT.op; simp [hl]; exact iZ; (try dsimp only [putEnv]) <;> exact rfl)
 | (apply RT.call; (iterate 2 simp; exact iZ); exact iZ; (iterate 4 simp [hl]; exact iZ); simp [Is]; (try dsimp only [putEnv]) <;> exact rfl; simp; exact iZ; simp; exact iZ)
 | (apply RT.callQ; (iterate 2 simp; exact iZ); exact iZ; (iterate 3 simp [hl]; exact iZ); (try dsimp only [putEnv]) <;> exact rfl)
 | (apply RT.wr; simp [hl]; exact iZ; (try dsimp only [putEnv]) <;> exact rfl; simp [hl]; exact iZ; (iterate 2 exact iZ); simp; exact iZ))); exact RT.nil); (case hc => (show _ = _; kernel_rfl)); (case ht => simp [hl]; exact iZ))
 | apply WP.block | apply WP.skip | apply WP.exit | apply WP.ret)
  exact hk.out) : G := h hl ⟨k⟩
theorem wkeiktu {L : Prop} (hl : L) {G G' : Prop} (k : G') (h : Wk L G G' := by
  intro hl hk
  repeat (first
 | apply WP.seq
 | (apply WP.reg; (case hR => dsimp only [prepL, prepO, List.map, gS, gZ]; exact iZ); (case hr => (repeat (first
 | (apply RT.op; simp [hl, -addNew]; exact iZ; (try dsimp only [putEnv]) <;> exact rfl)
 | (apply RT.call; (iterate 2 simp; exact iZ); exact iZ; (iterate 4 simp [hl, -addNew]; exact iZ); simp [Is]; (try dsimp only [putEnv]) <;> exact rfl; simp; exact iZ; exact iZ)
 | (apply RT.callI (hd := hI1) (hne := hI2) (hw := hI3) (hwr := hI4); (iterate 2 simp; exact iZ); exact iZ; (iterate 2 simp [hl, -addNew]; exact iZ); (try dsimp only [putEnv]) <;> exact rfl; (first | omega | simp))
 | (apply RT.callT (hd := hT1) (hk := hT2); (iterate 2 simp; exact iZ); exact iZ; (iterate 2 simp [hl, -addNew]; exact iZ); (try dsimp only [putEnv]) <;> exact rfl)
 | (apply RT.callT (hd := hU1) (hk := hU2); (iterate 2 simp; exact iZ); exact iZ; (iterate 2 simp [hl, -addNew]; exact iZ); (try dsimp only [putEnv]) <;> exact rfl)
 | (apply RT.wr; simp [hl, -addNew]; exact iZ; (try dsimp only [putEnv]) <;> exact rfl; simp [hl, -addNew]; exact iZ; (iterate 2 exact iZ); exact iZ))); exact RT.nil); (case hc => (show _ = _; kernel_rfl)); (case ht => simp [hl, -addNew]; exact iZ))
 | apply WP.block | apply WP.skip | apply WP.exit | apply WP.ret)
  exact hk.out) : G := h hl ⟨k⟩
theorem wkeiktux {L : Prop} (hl : L) {G G' : Prop} (k : G') (h : Wk L G G' := by
  intro hl hk
  repeat (first
 | apply WP.seq
 | (apply WP.reg; (case hR => dsimp only [prepL, prepO, List.map, gS, gZ]; exact iZ); (case hr => (repeat (first
 | (apply RT.op; simp [hl, -addNew]; exact iZ; (try dsimp only [putEnv]) <;> exact rfl)
 | (apply RT.call; (iterate 2 simp; exact iZ); exact iZ; (iterate 4 simp [hl, -addNew]; exact iZ); simp [Is]; (try dsimp only [putEnv]) <;> exact rfl; simp; exact iZ; exact iZ)
 | (apply RT.callI (hd := hI1) (hne := hI2) (hw := hI3) (hwr := hI4); (iterate 2 simp; exact iZ); exact iZ; (iterate 2 simp [hl, -addNew]; exact iZ); (try dsimp only [putEnv]) <;> exact rfl; (first | omega | simp))
 | (apply RT.callT (hd := hT1) (hk := hT2); (iterate 2 simp; exact iZ); exact iZ; (iterate 2 simp [hl, -addNew]; exact iZ); (try dsimp only [putEnv]) <;> exact rfl)
 | (apply RT.callT (hd := hU1) (hk := hU2); (iterate 2 simp; exact iZ); exact iZ; (iterate 2 simp [hl, -addNew]; exact iZ); (try dsimp only [putEnv]) <;> exact rfl)
 | (apply RT.callT (hd := hX1) (hk := hX2); (iterate 2 simp; exact iZ); exact iZ; (iterate 2 simp [hl, -addNew]; exact iZ); (try dsimp only [putEnv]) <;> exact rfl)
 | (apply RT.callT (hd := hY1) (hk := hY2); (iterate 2 simp; exact iZ); exact iZ; (iterate 2 simp [hl, -addNew]; exact iZ); (try dsimp only [putEnv]) <;> exact rfl)
 | (apply RT.wr; simp [hl, -addNew]; exact iZ; (try dsimp only [putEnv]) <;> exact rfl; simp [hl, -addNew]; exact iZ; (iterate 2 exact iZ); exact iZ))); exact RT.nil); (case hc => (show _ = _; kernel_rfl)); (case ht => simp [hl, -addNew]; exact iZ))
 | apply WP.block | apply WP.skip | apply WP.exit | apply WP.ret)
  exact hk.out) : G := h hl ⟨k⟩
theorem wkek {L : Prop} (hl : L) {G G' : Prop} (k : G') (h : Wk L G G' := by
  intro hl hk
  repeat (first
 | apply WP.seq
 | (apply WP.reg; (case hR => dsimp only [prepL, prepO, List.map, gS, gZ]; exact iZ); (case hr => (repeat (first
 | (apply RT.op; simp [hl, -addNew]; exact iZ; (try dsimp only [putEnv]) <;> exact rfl)
 | (apply RT.call; (iterate 2 simp; exact iZ); exact iZ; (iterate 4 simp [hl, -addNew]; exact iZ); simp [Is]; (try dsimp only [putEnv]) <;> exact rfl; simp; exact iZ; exact iZ)
 | (apply RT.wr; simp [hl, -addNew]; exact iZ; (try dsimp only [putEnv]) <;> exact rfl; simp [hl, -addNew]; exact iZ; (iterate 2 exact iZ); exact iZ))); exact RT.nil); (case hc => (show _ = _; kernel_rfl)); (case ht => simp [hl, -addNew]; exact iZ))
 | apply WP.block | apply WP.skip | apply WP.exit | apply WP.ret)
  exact hk.out) : G := h hl ⟨k⟩
theorem wkekt {L : Prop} (hl : L) {G G' : Prop} (k : G') (h : Wk L G G' := by
  intro hl hk
  repeat (first
 | apply WP.seq
 | (apply WP.reg; (case hR => dsimp only [prepL, prepO, List.map, gS, gZ]; exact iZ); (case hr => (repeat (first
 | (apply RT.op; simp [hl, -addNew]; exact iZ; (try dsimp only [putEnv]) <;> exact rfl)
 | (apply RT.call; (iterate 2 simp; exact iZ); exact iZ; (iterate 4 simp [hl, -addNew]; exact iZ); simp [Is]; (try dsimp only [putEnv]) <;> exact rfl; simp; exact iZ; exact iZ)
 | (apply RT.callT (hd := hT1) (hk := hT2); (iterate 2 simp; exact iZ); exact iZ; (iterate 2 simp [hl, -addNew]; exact iZ); (try dsimp only [putEnv]) <;> exact rfl)
 | (apply RT.wr; simp [hl, -addNew]; exact iZ; (try dsimp only [putEnv]) <;> exact rfl; simp [hl, -addNew]; exact iZ; (iterate 2 exact iZ); exact iZ))); exact RT.nil); (case hc => (show _ = _; kernel_rfl)); (case ht => simp [hl, -addNew]; exact iZ))
 | apply WP.block | apply WP.skip | apply WP.exit | apply WP.ret)
  exact hk.out) : G := h hl ⟨k⟩
theorem wkenkt {L : Prop} (hl : L) {G G' : Prop} (k : G') (h : Wk L G G' := by
  intro hl hk
  repeat (first
 | apply WP.seq
 | (apply WP.reg; (case hR => dsimp only [prepL, prepO, List.map, gS, gZ]; exact iZ); (case hr => (repeat (first
 | (apply RT.op; simp [hl, -addNew]; exact iZ; (try dsimp only [putEnv]) <;> exact rfl)
 | (apply RT.call; (iterate 2 simp; exact iZ); exact iZ; (iterate 4 simp [hl, -addNew]; exact iZ); simp [Is]; (try dsimp only [putEnv]) <;> exact rfl; simp; exact iZ; exact iZ)
 | (apply RT.clone; (iterate 2 simp; exact iZ); exact iZ; (iterate 2 simp [hl, -addNew]; exact iZ); (first | assumption | (simp [fitsB]; omega)); (try dsimp only [putEnv]) <;> exact rfl; simp [hl, -addNew]; exact iZ; exact iZ)
 | (apply RT.callT (hd := hT1) (hk := hT2); (iterate 2 simp; exact iZ); exact iZ; (iterate 2 simp [hl, -addNew]; exact iZ); (try dsimp only [putEnv]) <;> exact rfl)
 | (apply RT.wr; simp [hl, -addNew]; exact iZ; (try dsimp only [putEnv]) <;> exact rfl; simp [hl, -addNew]; exact iZ; (iterate 2 exact iZ); exact iZ))); exact RT.nil); (case hc => (show _ = _; kernel_rfl)); (case ht => simp [hl, -addNew]; exact iZ))
 | apply WP.block | apply WP.skip | apply WP.exit | apply WP.ret)
  exact hk.out) : G := h hl ⟨k⟩
theorem wkc {L : Prop} (hl : L) {G G' : Prop} (k : G') (h : Wk L G G' := by
  intro hl hk
  repeat (first
 | apply WP.seq
 | (apply WP.reg; (case hR => dsimp only [prepL, prepO, List.map, gS, gZ]; exact iZ); (case hr => (repeat (first
 | (apply RT.op; simp [hl]; exact iZ; (try dsimp only [putEnv]) <;> exact rfl)
 | (apply RT.call; (iterate 2 simp; exact iZ); exact iZ; (iterate 4 simp [hl]; exact iZ); simp [Is]; (try dsimp only [putEnv]) <;> exact rfl; simp; exact iZ; simp; exact iZ)
 | (apply RT.wr; simp [hl]; exact iZ; (try dsimp only [putEnv]) <;> exact rfl; simp [hl]; exact iZ; (iterate 2 exact iZ); simp; exact iZ))); exact RT.nil); (case hc => (show _ = _; kernel_rfl)); (case ht => simp [hl]; exact iZ))
 | apply WP.block | apply WP.skip | apply WP.exit | apply WP.ret | refine WP.condT rfl ?_ | refine WP.condF rfl ?_)
  exact hk.out) : G := h hl ⟨k⟩
theorem wkci {L : Prop} (hl : L) {G G' : Prop} (k : G') (h : Wk L G G' := by
  intro hl hk
  repeat (first
 | apply WP.seq
 | (apply WP.reg; (case hR => dsimp only [prepL, prepO, List.map, gS, gZ]; exact iZ); (case hr => (repeat (first
 | (apply RT.op; simp [hl]; exact iZ; (try dsimp only [putEnv]) <;> exact rfl)
 | (apply RT.call; (iterate 2 simp; exact iZ); exact iZ; (iterate 4 simp [hl]; exact iZ); simp [Is]; (try dsimp only [putEnv]) <;> exact rfl; simp; exact iZ; simp; exact iZ)
 | (apply RT.callI (hd := hI1) (hne := hI2) (hw := hI3) (hwr := hI4); (iterate 2 simp; exact iZ); exact iZ; (iterate 2 simp [hl]; exact iZ); (try dsimp only [putEnv]) <;> exact rfl; (first | omega | simp))
 | (apply RT.wr; simp [hl]; exact iZ; (try dsimp only [putEnv]) <;> exact rfl; simp [hl]; exact iZ; (iterate 2 exact iZ); simp; exact iZ))); exact RT.nil); (case hc => (show _ = _; kernel_rfl)); (case ht => simp [hl]; exact iZ))
 | apply WP.block | apply WP.skip | apply WP.exit | apply WP.ret | refine WP.condT rfl ?_ | refine WP.condF rfl ?_)
  exact hk.out) : G := h hl ⟨k⟩
theorem wkckt {L : Prop} (hl : L) {G G' : Prop} (k : G') (h : Wk L G G' := by
  intro hl hk
  repeat (first
 | apply WP.seq
 | (apply WP.reg; (case hR => dsimp only [prepL, prepO, List.map, gS, gZ]; exact iZ); (case hr => (repeat (first
 | (apply RT.op; simp [hl]; exact iZ; (try dsimp only [putEnv]) <;> exact rfl)
 | (apply RT.call; (iterate 2 simp; exact iZ); exact iZ; (iterate 4 simp [hl]; exact iZ); simp [Is]; (try dsimp only [putEnv]) <;> exact rfl; simp; exact iZ; exact iZ)
 | (apply RT.callT (hd := hT1) (hk := hT2); (iterate 2 simp; exact iZ); exact iZ; (iterate 2 simp [hl]; exact iZ); (try dsimp only [putEnv]) <;> exact rfl)
 | (apply RT.wr; simp [hl]; exact iZ; (try dsimp only [putEnv]) <;> exact rfl; simp [hl]; exact iZ; (iterate 2 exact iZ); exact iZ))); exact RT.nil); (case hc => (show _ = _; kernel_rfl)); (case ht => simp [hl]; exact iZ))
 | apply WP.block | apply WP.skip | apply WP.exit | apply WP.ret | refine WP.condT rfl ?_ | refine WP.condF rfl ?_)
  exact hk.out) : G := h hl ⟨k⟩
theorem wkcn {L : Prop} (hl : L) {G G' : Prop} (k : G') (h : Wk L G G' := by
  intro hl hk
  repeat (first
 | apply WP.seq
 | (apply WP.reg; (case hR => dsimp only [prepL, prepO, List.map, gS, gZ]; exact iZ); (case hr => (repeat (first
 | (apply RT.op; simp [hl]; exact iZ; (try dsimp only [putEnv]) <;> exact rfl)
 | (apply RT.call; (iterate 2 simp; exact iZ); exact iZ; (iterate 4 simp [hl]; exact iZ); simp [Is]; (try dsimp only [putEnv]) <;> exact rfl; simp; exact iZ; simp; exact iZ)
 | (apply RT.clone; (iterate 2 simp; exact iZ); exact iZ; (iterate 2 simp [hl]; exact iZ); (first | assumption | (simp [fitsB]; omega)); (try dsimp only [putEnv]) <;> exact rfl; simp [hl]; exact iZ; simp; exact iZ)
 | (apply RT.wr; simp [hl]; exact iZ; (try dsimp only [putEnv]) <;> exact rfl; simp [hl]; exact iZ; (iterate 2 exact iZ); simp; exact iZ))); exact RT.nil); (case hc => (show _ = _; kernel_rfl)); (case ht => simp [hl]; exact iZ))
 | apply WP.block | apply WP.skip | apply WP.exit | apply WP.ret | refine WP.condT rfl ?_ | refine WP.condF rfl ?_)
  exact hk.out) : G := h hl ⟨k⟩
theorem wkcq {L : Prop} (hl : L) {G G' : Prop} (k : G') (h : Wk L G G' := by
  intro hl hk
  repeat (first
 | apply WP.seq
 | (apply WP.reg; (case hR => dsimp only [prepL, prepO, List.map, gS, gZ]; exact iZ); (case hr => (repeat (first
 | (apply RT.op; simp [hl]; exact iZ; (try dsimp only [putEnv]) <;> exact rfl)
 | (apply RT.call; (iterate 2 simp; exact iZ); exact iZ; (iterate 4 simp [hl]; exact iZ); simp [Is]; (try dsimp only [putEnv]) <;> exact rfl; simp; exact iZ; simp; exact iZ)
 | (apply RT.callQ; (iterate 2 simp; exact iZ); exact iZ; (iterate 3 simp [hl]; exact iZ); (try dsimp only [putEnv]) <;> exact rfl)
 | (apply RT.wr; simp [hl]; exact iZ; (try dsimp only [putEnv]) <;> exact rfl; simp [hl]; exact iZ; (iterate 2 exact iZ); simp; exact iZ))); exact RT.nil); (case hc => (show _ = _; kernel_rfl)); (case ht => simp [hl]; exact iZ))
 | apply WP.block | apply WP.skip | apply WP.exit | apply WP.ret | refine WP.condT rfl ?_ | refine WP.condF rfl ?_)
  exact hk.out) : G := h hl ⟨k⟩
theorem wkceiktu {L : Prop} (hl : L) {G G' : Prop} (k : G') (h : Wk L G G' := by
  intro hl hk
  repeat (first
 | apply WP.seq
 | (apply WP.reg; (case hR => dsimp only [prepL, prepO, List.map, gS, gZ]; exact iZ); (case hr => (repeat (first
 | (apply RT.op; simp [hl, -addNew]; exact iZ; (try dsimp only [putEnv]) <;> exact rfl)
 | (apply RT.call; (iterate 2 simp; exact iZ); exact iZ; (iterate 4 simp [hl, -addNew]; exact iZ); simp [Is]; (try dsimp only [putEnv]) <;> exact rfl; simp; exact iZ; exact iZ)
 | (apply RT.callI (hd := hI1) (hne := hI2) (hw := hI3) (hwr := hI4); (iterate 2 simp; exact iZ); exact iZ; (iterate 2 simp [hl, -addNew]; exact iZ); (try dsimp only [putEnv]) <;> exact rfl; (first | omega | simp))
 | (apply RT.callT (hd := hT1) (hk := hT2); (iterate 2 simp; exact iZ); exact iZ; (iterate 2 simp [hl, -addNew]; exact iZ); (try dsimp only [putEnv]) <;> exact rfl)
 | (apply RT.callT (hd := hU1) (hk := hU2); (iterate 2 simp; exact iZ); exact iZ; (iterate 2 simp [hl, -addNew]; exact iZ); (try dsimp only [putEnv]) <;> exact rfl)
 | (apply RT.wr; simp [hl, -addNew]; exact iZ; (try dsimp only [putEnv]) <;> exact rfl; simp [hl, -addNew]; exact iZ; (iterate 2 exact iZ); exact iZ))); exact RT.nil); (case hc => (show _ = _; kernel_rfl)); (case ht => simp [hl, -addNew]; exact iZ))
 | apply WP.block | apply WP.skip | apply WP.exit | apply WP.ret | refine WP.condT rfl ?_ | refine WP.condF rfl ?_)
  exact hk.out) : G := h hl ⟨k⟩
theorem wkceiktux {L : Prop} (hl : L) {G G' : Prop} (k : G') (h : Wk L G G' := by
  intro hl hk
  repeat (first
 | apply WP.seq
 | (apply WP.reg; (case hR => dsimp only [prepL, prepO, List.map, gS, gZ]; exact iZ); (case hr => (repeat (first
 | (apply RT.op; simp [hl, -addNew]; exact iZ; (try dsimp only [putEnv]) <;> exact rfl)
 | (apply RT.call; (iterate 2 simp; exact iZ); exact iZ; (iterate 4 simp [hl, -addNew]; exact iZ); simp [Is]; (try dsimp only [putEnv]) <;> exact rfl; simp; exact iZ; exact iZ)
 | (apply RT.callI (hd := hI1) (hne := hI2) (hw := hI3) (hwr := hI4); (iterate 2 simp; exact iZ); exact iZ; (iterate 2 simp [hl, -addNew]; exact iZ); (try dsimp only [putEnv]) <;> exact rfl; (first | omega | simp))
 | (apply RT.callT (hd := hT1) (hk := hT2); (iterate 2 simp; exact iZ); exact iZ; (iterate 2 simp [hl, -addNew]; exact iZ); (try dsimp only [putEnv]) <;> exact rfl)
 | (apply RT.callT (hd := hU1) (hk := hU2); (iterate 2 simp; exact iZ); exact iZ; (iterate 2 simp [hl, -addNew]; exact iZ); (try dsimp only [putEnv]) <;> exact rfl)
 | (apply RT.callT (hd := hX1) (hk := hX2); (iterate 2 simp; exact iZ); exact iZ; (iterate 2 simp [hl, -addNew]; exact iZ); (try dsimp only [putEnv]) <;> exact rfl)
 | (apply RT.callT (hd := hY1) (hk := hY2); (iterate 2 simp; exact iZ); exact iZ; (iterate 2 simp [hl, -addNew]; exact iZ); (try dsimp only [putEnv]) <;> exact rfl)
 | (apply RT.wr; simp [hl, -addNew]; exact iZ; (try dsimp only [putEnv]) <;> exact rfl; simp [hl, -addNew]; exact iZ; (iterate 2 exact iZ); exact iZ))); exact RT.nil); (case hc => (show _ = _; kernel_rfl)); (case ht => simp [hl, -addNew]; exact iZ))
 | apply WP.block | apply WP.skip | apply WP.exit | apply WP.ret | refine WP.condT rfl ?_ | refine WP.condF rfl ?_)
  exact hk.out) : G := h hl ⟨k⟩
theorem wkcek {L : Prop} (hl : L) {G G' : Prop} (k : G') (h : Wk L G G' := by
  intro hl hk
  repeat (first
 | apply WP.seq
 | (apply WP.reg; (case hR => dsimp only [prepL, prepO, List.map, gS, gZ]; exact iZ); (case hr => (repeat (first
 | (apply RT.op; simp [hl, -addNew]; exact iZ; (try dsimp only [putEnv]) <;> exact rfl)
 | (apply RT.call; (iterate 2 simp; exact iZ); exact iZ; (iterate 4 simp [hl, -addNew]; exact iZ); simp [Is]; (try dsimp only [putEnv]) <;> exact rfl; simp; exact iZ; exact iZ)
 | (apply RT.wr; simp [hl, -addNew]; exact iZ; (try dsimp only [putEnv]) <;> exact rfl; simp [hl, -addNew]; exact iZ; (iterate 2 exact iZ); exact iZ))); exact RT.nil); (case hc => (show _ = _; kernel_rfl)); (case ht => simp [hl, -addNew]; exact iZ))
 | apply WP.block | apply WP.skip | apply WP.exit | apply WP.ret | refine WP.condT rfl ?_ | refine WP.condF rfl ?_)
  exact hk.out) : G := h hl ⟨k⟩
theorem wkcekt {L : Prop} (hl : L) {G G' : Prop} (k : G') (h : Wk L G G' := by
  intro hl hk
  repeat (first
 | apply WP.seq
 | (apply WP.reg; (case hR => dsimp only [prepL, prepO, List.map, gS, gZ]; exact iZ); (case hr => (repeat (first
 | (apply RT.op; simp [hl, -addNew]; exact iZ; (try dsimp only [putEnv]) <;> exact rfl)
 | (apply RT.call; (iterate 2 simp; exact iZ); exact iZ; (iterate 4 simp [hl, -addNew]; exact iZ); simp [Is]; (try dsimp only [putEnv]) <;> exact rfl; simp; exact iZ; exact iZ)
 | (apply RT.callT (hd := hT1) (hk := hT2); (iterate 2 simp; exact iZ); exact iZ; (iterate 2 simp [hl, -addNew]; exact iZ); (try dsimp only [putEnv]) <;> exact rfl)
 | (apply RT.wr; simp [hl, -addNew]; exact iZ; (try dsimp only [putEnv]) <;> exact rfl; simp [hl, -addNew]; exact iZ; (iterate 2 exact iZ); exact iZ))); exact RT.nil); (case hc => (show _ = _; kernel_rfl)); (case ht => simp [hl, -addNew]; exact iZ))
 | apply WP.block | apply WP.skip | apply WP.exit | apply WP.ret | refine WP.condT rfl ?_ | refine WP.condF rfl ?_)
  exact hk.out) : G := h hl ⟨k⟩
theorem wkcenkt {L : Prop} (hl : L) {G G' : Prop} (k : G') (h : Wk L G G' := by
  intro hl hk
  repeat (first
 | apply WP.seq
 | (apply WP.reg; (case hR => dsimp only [prepL, prepO, List.map, gS, gZ]; exact iZ); (case hr => (repeat (first
 | (apply RT.op; simp [hl, -addNew]; exact iZ; (try dsimp only [putEnv]) <;> exact rfl)
 | (apply RT.call; (iterate 2 simp; exact iZ); exact iZ; (iterate 4 simp [hl, -addNew]; exact iZ); simp [Is]; (try dsimp only [putEnv]) <;> exact rfl; simp; exact iZ; exact iZ)
 | (apply RT.clone; (iterate 2 simp; exact iZ); exact iZ; (iterate 2 simp [hl, -addNew]; exact iZ); (first | assumption | (simp [fitsB]; omega)); (try dsimp only [putEnv]) <;> exact rfl; simp [hl, -addNew]; exact iZ; exact iZ)
 | (apply RT.callT (hd := hT1) (hk := hT2); (iterate 2 simp; exact iZ); exact iZ; (iterate 2 simp [hl, -addNew]; exact iZ); (try dsimp only [putEnv]) <;> exact rfl)
 | (apply RT.wr; simp [hl, -addNew]; exact iZ; (try dsimp only [putEnv]) <;> exact rfl; simp [hl, -addNew]; exact iZ; (iterate 2 exact iZ); exact iZ))); exact RT.nil); (case hc => (show _ = _; kernel_rfl)); (case ht => simp [hl, -addNew]; exact iZ))
 | apply WP.block | apply WP.skip | apply WP.exit | apply WP.ret | refine WP.condT rfl ?_ | refine WP.condF rfl ?_)
  exact hk.out) : G := h hl ⟨k⟩
end Go.Ac
end

section
set_option linter.unusedVariables false
namespace Go.Ac
open Go.Proofs

/-- An instruction. -/
structure I where
  op : Int
  a : Int
  b : Int
  c : Int
  d : Int
  deriving Inhabited, DecidableEq

/-- A routine. -/
structure Rt where
  nm : List UInt8
  inn : List Int
  out : List Int
  regs : Int
  ini : List Int
  code : List I
  deriving Inhabited

/-- An image. -/
structure Im where
  enums : List Int
  rs : List Rt
  deriving Inhabited

def ni (n : Int) : D := .int .i64 n
def dI (n : Int) : V := .d (.int .i64 n)
def dB (b : Bool) : V := .d (.bool b)
def dS (s : List UInt8) : V := .d (.str s)
def encI (l : List Int) : List (List D) := l.map fun n => [ni n]
def I.cells (i : I) : List D := [.int .i64 i.op, .int .i64 i.a, .int .i64 i.b, .int .i64 i.c, .int .i64 i.d]
def encC (l : List I) : List (List D) := l.map I.cells
def Rt.cells (r : Rt) : List D := [.str r.nm, .slice (encI r.inn), .slice (encI r.out), .int .i64 r.regs, .slice (encI r.ini), .slice (encC r.code)]
def encR (l : List Rt) : List (List D) := l.map Rt.cells
def encL (l : List (List Int)) : List (List D) := l.map fun r => [.slice (encI r)]
def Im.cells (im : Im) : List D := [.slice (encI im.enums), .slice (encR im.rs)]
def dL (l : List Int) : V := .d (.slice (encI l))
def aI (i : I) : V := .agg (i.cells.map .d)
def aR (r : Rt) : V := .agg (r.cells.map .d)
def aM (im : Im) : V := .agg (im.cells.map .d)

/-! ### Sizes -/
def MX : Nat := 4611686018427387904
def MB : Nat := 4194304
def Rt.sz (r : Rt) : Nat := r.nm.length + r.inn.length + r.out.length + r.ini.length + r.code.length * 6 + 6
def Im.sz (im : Im) : Nat := im.enums.length + (im.rs.map Rt.sz).sum + 2

theorem encI_len (l : List Int) : (encI l).length = l.length := by simp [encI]
theorem encC_len (l : List I) : (encC l).length = l.length := by simp [encC]
theorem encR_len (l : List Rt) : (encR l).length = l.length := by simp [encR]
theorem encL_len (l : List (List Int)) : (encL l).length = l.length := by simp [encL]
theorem encI_at {l : List Int} {i : Nat} {y : Int} (h : l[i]? = some y) : (encI l)[i]? = some [.int .i64 y] := by unfold encI; simp [h, ni]
theorem encC_at {l : List I} {i : Nat} {y : I} (h : l[i]? = some y) : (encC l)[i]? = some y.cells := by unfold encC; simp [h]
theorem encR_at {l : List Rt} {i : Nat} {y : Rt} (h : l[i]? = some y) : (encR l)[i]? = some y.cells := by unfold encR; simp [h]
theorem encL_at {l : List (List Int)} {i : Nat} {y : List Int} (h : l[i]? = some y) : (encL l)[i]? = some [.slice (encI y)] := by unfold encL; simp [h]
theorem sum_mem {α : Type} {f : α → Nat} : ∀ {l : List α} {x : α}, x ∈ l → f x ≤ (l.map f).sum
  | y :: r, x, h => by
    simp only [List.mem_cons] at h
    simp only [List.map_cons, List.sum_cons]
    rcases h with rfl | h
    · omega
    · have := sum_mem (f := f) h; omega
theorem sum_len {α : Type} {f : α → Nat} (hf : ∀ x, 1 ≤ f x) : ∀ {l : List α}, l.length ≤ (l.map f).sum
  | [] => by simp
  | y :: r => by have := sum_len hf (l := r); have := hf y; simp; omega
theorem Im.len_rs (im : Im) : im.rs.length ≤ im.sz := by
  have := sum_len (f := Rt.sz) (fun r => by unfold Rt.sz; omega) (l := im.rs)
  unfold Im.sz; omega
theorem Im.mem_rs {im : Im} {r : Rt} (h : r ∈ im.rs) : r.sz ≤ im.sz := by
  have := sum_mem (f := Rt.sz) h
  unfold Im.sz; omega

theorem idx_lt {i n : Nat} (h : i < n) : idx (i : Int) n = some i := by
  unfold idx
  rw [if_pos ⟨by omega, by omega⟩]
  simp
theorem nbeq_self (n : Nat) : Nat.beq n n = true := Nat.beq_refl n

/-! ### Types -/
noncomputable def zOf (t : TypeId) : Option (List V) := match mkTI Tryd.prog t with | some i => i.zero | none => none
theorem ti3 : mkTI Tryd.prog 3 = some ⟨.int .i64, 1, 8, zOf 3⟩ := by kernel_rfl
theorem ti4 : mkTI Tryd.prog 4 = some ⟨.bool, 1, 1, zOf 4⟩ := by kernel_rfl
theorem ti5 : mkTI Tryd.prog 5 = some ⟨.int .u8, 1, 1, zOf 5⟩ := by kernel_rfl
theorem ti9 : mkTI Tryd.prog 9 = some ⟨.str, 1, 16, zOf 9⟩ := by kernel_rfl
theorem ti21 : mkTI Tryd.prog 21 = some ⟨.int .i32, 1, 4, zOf 21⟩ := by kernel_rfl
theorem ti22 : mkTI Tryd.prog 22 = some ⟨.slice 3 1 8, 1, 24, zOf 22⟩ := by kernel_rfl
theorem ti23 : mkTI Tryd.prog 23 = some ⟨.slice 50 6 120, 1, 24, zOf 23⟩ := by kernel_rfl
theorem ti25 : mkTI Tryd.prog 25 = some ⟨.struct [(0, 1, false), (1, 1, false)], 2, 48, zOf 25⟩ := by kernel_rfl
theorem ti26 : mkTI Tryd.prog 26 = some ⟨.slice 22 1 24, 1, 24, zOf 26⟩ := by kernel_rfl
theorem ti29 : mkTI Tryd.prog 29 = some ⟨.ptr, 1, 8, zOf 29⟩ := by kernel_rfl
theorem ti30 : mkTI Tryd.prog 30 = some ⟨.int .i64, 1, 8, zOf 30⟩ := by kernel_rfl
theorem ti33 : mkTI Tryd.prog 33 = some ⟨.ptr, 1, 8, zOf 33⟩ := by kernel_rfl
theorem ti48 : mkTI Tryd.prog 48 = some ⟨.slice 52 5 40, 1, 24, zOf 48⟩ := by kernel_rfl
theorem ti50 : mkTI Tryd.prog 50 = some ⟨.struct [(0, 1, false), (1, 1, false), (2, 1, false), (3, 1, false), (4, 1, false), (5, 1, false)], 6, 120, zOf 50⟩ := by kernel_rfl
theorem ti52 : mkTI Tryd.prog 52 = some ⟨.struct [(0, 1, false), (1, 1, false), (2, 1, false), (3, 1, false), (4, 1, false)], 5, 40, zOf 52⟩ := by kernel_rfl
theorem ti56 : mkTI Tryd.prog 56 = some ⟨.struct [(0, 2, true), (2, 1, false), (3, 1, false)], 4, 80, zOf 56⟩ := by kernel_rfl
theorem ti58 : mkTI Tryd.prog 58 = some ⟨.struct [(0, 2, true), (2, 1, false), (3, 1, false)], 4, 80, zOf 58⟩ := by kernel_rfl
theorem ti62 : mkTI Tryd.prog 62 = some ⟨.ptr, 1, 8, zOf 62⟩ := by kernel_rfl
theorem ti72 : mkTI Tryd.prog 72 = some ⟨.struct [(0, 1, false), (1, 1, false), (2, 1, false)], 3, 56, zOf 72⟩ := by kernel_rfl
theorem ti86 : mkTI Tryd.prog 86 = some ⟨.array 4 3 1 false, 4, 32, zOf 86⟩ := by kernel_rfl
theorem ti88 : mkTI Tryd.prog 88 = some ⟨.struct [(0, 1, false), (1, 4, true), (5, 1, false)], 6, 56, zOf 88⟩ := by kernel_rfl
theorem ti100 : mkTI Tryd.prog 100 = some ⟨.array 11 88 6 true, 66, 616, zOf 100⟩ := by kernel_rfl
theorem ti101 : mkTI Tryd.prog 101 = some ⟨.slice 9 1 16, 1, 24, zOf 101⟩ := by kernel_rfl
def z0 : V := .d (.int .i64 0)
theorem z3_eq : zOf 3 = some [z0] := by kernel_rfl
theorem z9_eq : zOf 9 = some [.d (.str [])] := by kernel_rfl
theorem z22_eq : zOf 22 = some [.full []] := by kernel_rfl
theorem z25_eq : zOf 25 = some [.full [], .full []] := by kernel_rfl
theorem z50_eq : zOf 50 = some [.d (.str []), .full [], .full [], z0, .full [], .full []] := by kernel_rfl
theorem z52_eq : zOf 52 = some [z0, z0, z0, z0, z0] := by kernel_rfl
theorem z56_eq : zOf 56 = some [.full [], .full [], .full [], z0] := by kernel_rfl
theorem z58_eq : zOf 58 = some [.full [], .full [], .full [], z0] := by kernel_rfl
theorem z72_eq : zOf 72 = some [.full [], .full [], .con (.pointer none)] := by kernel_rfl
theorem z86_eq : zOf 86 = some [z0, z0, z0, z0] := by kernel_rfl
theorem z88_eq : zOf 88 = some [.d (.str []), z0, z0, z0, z0, z0] := by kernel_rfl
theorem gv0 : Gl.gv 0 = .vref opsTab := rfl

theorem prim_Cp (f : Nat) : Cp.cfg.prim f = Cp.prim f := rfl
theorem thr_Cp (f : Nat) : Cp.cfg.thr f = Cp.thr f := rfl
theorem fz_Cp (f r : Nat) : Cp.cfg.fz f r = Cp.fz f r := rfl
theorem own_Cp (f : Nat) : Cp.cfg.own f = Cp.own f := rfl
theorem keep_Cp (f r : Nat) : Cp.cfg.keep f r = Cp.keep f r := rfl
theorem mat_Cp (f r : Nat) : Cp.cfg.mat f r = Cp.mat f r := rfl
theorem rowsOf_osl (look : Look) (sz id g off len sz' : Nat) (cap : Option Nat) : rowsOf look sz (.osl id g off len sz' cap) = match live look id g, Nat.beq sz sz' with
    | some o, true => match Nat.ble (off + len * sz) o.cells.length with
      | true => some (len, (o.cells.drop off).take (len * sz), [id])
      | false => none
    | _, _ => none := rfl

attribute [simp] prim_Cp Cp.prim thr_Cp Cp.thr closeArgs closeA closeVs close close1 ofD toD V.flat V.flat2 V.flat1 D.flat evalV Env.get constV constV1 putEnv binV intBin strBin boolBin unV ti3 ti4 ti5 ti9 ti21 ti22 ti23 ti25 ti26 ti29 ti30 ti33 ti48 ti50 ti52 ti56 ti58 ti62 ti72 ti86 ti88 ti100 ti101
  indexAddrV indexV indexRows ret fieldAddrV fieldV partV loadV readV TI.agg lenV Env.keep
  z3_eq z9_eq z22_eq z25_eq z50_eq z52_eq z56_eq z58_eq z72_eq z86_eq z88_eq z0 gv0 nilOpd nilV nilR isEq checkNil
attribute [simp] opP opP0 wantedP step retR live nbeq_self newV cellsV V.one storeV cl1 roOf fz_Cp Cp.fz Hp.get Hp.set Hp.sets addNew idx_lt builtinV
attribute [simp] Hp.trunc_zero nblt_eq Hp.get_set_self Hp.trunc cut own_Cp Cp.own
attribute [simp] endR keepSt mats matOne keep_Cp mat_Cp Cp.keep Cp.mat callD rowsOf_osl appendV encI_len encC_len encR_len encL_len

theorem w_id' {n : Int} (h : -9223372036854775808 ≤ n) (h' : n ≤ 9223372036854775807) : IntKind.i64.wrap n = n := w_id h h'
theorem cloneOK : ∀ f p, Cp.cfg.prim f = some p → CloneAt Tryd.prog f p.1 p.2 := by
  intro f p h
  simp only [prim_Cp, Cp.prim] at h
  split at h
  · simp at h; subst h
    exact CloneAt.of (t := 22) (e := 3) Tryd.func33 rfl rfl rfl (by kernel_rfl) (by kernel_rfl) ⟨rfl, rfl, rfl⟩ ⟨rfl, rfl, rfl⟩ ⟨rfl, rfl, rfl⟩ ⟨rfl, rfl, rfl⟩ ⟨rfl, rfl, rfl⟩ ⟨rfl, rfl, rfl⟩ ⟨rfl, rfl, rfl⟩ ⟨rfl, rfl, rfl⟩
  · simp at h; subst h
    exact CloneAt.of (t := 48) (e := 52) Tryd.func39 rfl rfl rfl (by kernel_rfl) (by kernel_rfl) ⟨rfl, rfl, rfl⟩ ⟨rfl, rfl, rfl⟩ ⟨rfl, rfl, rfl⟩ ⟨rfl, rfl, rfl⟩ ⟨rfl, rfl, rfl⟩ ⟨rfl, rfl, rfl⟩ ⟨rfl, rfl, rfl⟩ ⟨rfl, rfl, rfl⟩
  · simp at h
end Go.Ac
end
