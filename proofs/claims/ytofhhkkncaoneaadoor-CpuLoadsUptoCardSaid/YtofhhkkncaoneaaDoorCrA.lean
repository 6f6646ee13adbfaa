/- CpuAnew by data. -/
import Derived.Test.YtofhhkkncaoneaaDoorAcBM
import Derived.Test.YtofhhkkncaoneaaDoorAcDM
import Derived.Test.YtofhhkkncaoneaaDoorAcGM
import Derived.Test.YtofhhkkncaoneaaDoorAcJM
import Derived.Test.YtofhhkkncaoneaaDoorAcLM
import Derived.Test.YtofhhkkncaoneaaDoorAcOM
import Derived.Test.YtofhhkkncaoneaaDoorAcSM
import Derived.Test.YtofhhkkncaoneaaDoorAcXM
import Derived.Test.YtofhhkkncaoneaaDoorAcUcM
import Derived.Test.YtofhhkkncaoneaaDoorAcThM
import Derived.Test.YtofhhkkncaoneaaDoorCpBM
import Derived.Test.YtofhhkkncaoneaaDoorCpD
import Derived.Test.YtofhhkkncaoneaaDoorCrTM
import Derived.Test.YtofhhkkncaoneaaDoorCqFM
import Derived.Test.YtofhhkkncaoneaaDoorCqIM
import Derived.Test.YtofhhkkncaoneaaDoorCqNM
import Derived.Test.YtofhhkkncaoneaaDoorCpWM
import Derived.Test.YtofhhkkncaoneaaDoorCqWM
import Derived.Calls
import Derived.Orders
import Derived.Laws.World
import Derived.Laws.Sem
import Derived.Laws.Cells
import Derived.Laws.Append
import GoSem.ClaimData
import Derived.Laws.Tables
import Derived.Laws.Slices
import Derived.Laws.Strings
import Derived.Laws.Small
import Derived.KernelRfl
import Derived.Test.YtofhhkkncaoneaaDoorChecked
import Derived.Lib.RuneCount
import Derived.Lib.DecodeN
set_option linter.unusedVariables false
set_option linter.unusedSimpArgs false
set_option maxRecDepth 4000
set_option linter.unusedSimpArgs false
set_option linter.unusedVariables false
namespace Go.Ac
open Go.Proofs

theorem addNew_zero (wl : List Nat) : ∀ l : List (Nat × Ob), addNew 0 wl l = wl
  | [] => rfl
  | (k, o) :: r => by
    have : Nat.blt k 0 = false := by cases k <;> rfl
    simp only [addNew, this]; exact addNew_zero wl r
def dLL (l : List (List Int)) : V := .d (.slice (encL l))
theorem Mc.some1 {im : Im} {hp : Hp} {idc gc mid mg : Nat} {mem : List Int} {cnt : Int} (h : Mc im hp idc gc mid mg mem cnt) : (hp.get idc).isSome = true := by
  obtain ⟨⟨cap, _, h1⟩, _, _⟩ := h; rw [h1]; rfl
theorem Mc.some2 {im : Im} {hp : Hp} {idc gc mid mg : Nat} {mem : List Int} {cnt : Int} (h : Mc im hp idc gc mid mg mem cnt) : (hp.get mid).isSome = true := by rw [h.m]; rfl
theorem Mc.after {im : Im} {hp hp' : Hp} {n idc gc mid mg : Nat} {mem : List Int} {cnt : Int} (h : Mc im hp idc gc mid mg mem cnt) (h1 : idc < n) (h2 : mid < n) (hs : ∀ j, j < n → (hp.get j).isSome = true → hp'.get j = hp.get j) : Mc im hp' idc gc mid mg mem cnt :=
  h.same (hs _ h1 h.some1) (hs _ h2 h.some2)
/-- Two machines that lie apart. -/
structure Two (im : Im) (hp : Hp) (n : Nat) (ic gc mc mgc : Nat) (memc : List Int) (cntc : Int) (id gd md mgd : Nat) (memd : List Int) (cntd : Int) : Prop where
  c : Mc im hp ic gc mc mgc memc cntc
  d : Mc im hp id gd md mgd memd cntd
  lic : ic < n
  lmc : mc < n
  lid : id < n
  lmd : md < n
  a1 : ic ≠ id
  a2 : ic ≠ md
  a3 : mc ≠ id
  a4 : mc ≠ md
theorem Two.same {im : Im} {hp hp' : Hp} {n n' ic gc mc mgc : Nat} {memc : List Int} {cntc : Int} {id gd md mgd : Nat} {memd : List Int} {cntd : Int} (h : Two im hp n ic gc mc mgc memc cntc id gd md mgd memd cntd) (hn : n ≤ n') (hs : ∀ j, j < n → hp'.get j = hp.get j) : Two im hp' n' ic gc mc mgc memc cntc id gd md mgd memd cntd :=
  ⟨h.c.same (hs _ h.lic) (hs _ h.lmc), h.d.same (hs _ h.lid) (hs _ h.lmd), by have := h.lic; omega, by have := h.lmc; omega, by have := h.lid; omega, by have := h.lmd; omega, h.a1, h.a2, h.a3, h.a4⟩
theorem Two.stepc {im : Im} {hp hp' hpz : Hp} {n ic gc mc mgc : Nat} {memc memc' : List Int} {cntc cntc' : Int} {id gd md mgd : Nat} {memd : List Int} {cntd : Int} (h : Two im hp n ic gc mc mgc memc cntc id gd md mgd memd cntd) (hf : ∀ j, j < n → j ∉ [ic, mc] → hp'.get j = hp.get j) (hM : Mc im hpz ic gc mc mgc memc' cntc') (hs : ∀ j, j < n → (hpz.get j).isSome = true → hp'.get j = hpz.get j) : Two im hp' n ic gc mc mgc memc' cntc' id gd md mgd memd cntd :=
  ⟨hM.after h.lic h.lmc hs, h.d.same (hf _ h.lid (by have := h.a1; have := h.a3; simp; omega)) (hf _ h.lmd (by have := h.a2; have := h.a4; simp; omega)), h.lic, h.lmc, h.lid, h.lmd, h.a1, h.a2, h.a3, h.a4⟩
theorem Two.stepd {im : Im} {hp hp' hpz : Hp} {n ic gc mc mgc : Nat} {memc : List Int} {cntc : Int} {id gd md mgd : Nat} {memd memd' : List Int} {cntd cntd' : Int} (h : Two im hp n ic gc mc mgc memc cntc id gd md mgd memd cntd) (hf : ∀ j, j < n → j ∉ [id, md] → hp'.get j = hp.get j) (hM : Mc im hpz id gd md mgd memd' cntd') (hs : ∀ j, j < n → (hpz.get j).isSome = true → hp'.get j = hpz.get j) : Two im hp' n ic gc mc mgc memc cntc id gd md mgd memd' cntd' :=
  ⟨h.c.same (hf _ h.lic (by have := h.a1; have := h.a2; simp; omega)) (hf _ h.lmc (by have := h.a3; have := h.a4; simp; omega)), hM.after h.lid h.lmd hs, h.lic, h.lmc, h.lid, h.lmd, h.a1, h.a2, h.a3, h.a4⟩
theorem encL_row {l : List (List Int)} {j : Nat} (h : j < l.length) : (encL l)[j]? = some [.slice (encI (l.getD j []))] := by
  rw [encL_at (y := l.getD j []) (by simp [List.getD, h])]
theorem stepR_out {im : Im} (hG : GoodIm im) {mem row : List Int} {cnt : Int} (hl : mem.length = (lastR im).ini.length) : (stepR im mem cnt row).1.length ≤ MX := by
  unfold stepR
  split
  · simp
  · rename_i h1
    split
    · simp
    · have hne := hG.ne
      have h1' : row.length = (lastR im).inn.length := by omega
      have h3 := (callM_ok hG.ok im.rs.length (im.rs.length - 1) (lastR im) 0 row mem (by omega) hG.last h1' (by omega)).1
      have h4 := hG.ok _ _ hG.last
      have h5 := h4.io
      have h6 := h4.hi
      show (callM im.rs im.rs.length (im.rs.length - 1) 0 row mem).1.length ≤ MX
      rw [h3]; unfold MX; omega
theorem ints_same (a : List Int) (h : a.length ≤ MX) : den Tryd.prog Cp.cfg 13 [dL a, dL a] = some (dB true) := by
  have := ints_den a a h h
  rwa [decide_eq_true rfl] at this
end Go.Ac
