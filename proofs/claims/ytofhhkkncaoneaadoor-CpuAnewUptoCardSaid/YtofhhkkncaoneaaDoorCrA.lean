/- CpuAnew by data. -/
import Derived.Test.YtofhhkkncaoneaaDoorAcBM
import Derived.Test.YtofhhkkncaoneaaDoorAcDM
import Derived.Test.YtofhhkkncaoneaaDoorAcGM
import Derived.Test.YtofhhkkncaoneaaDoorAcJM
import Derived.Test.YtofhhkkncaoneaaDoorAcLM
import Derived.Test.YtofhhkkncaoneaaDoorAcMM
import Derived.Test.YtofhhkkncaoneaaDoorAcOM
import Derived.Test.YtofhhkkncaoneaaDoorAcSM
import Derived.Test.YtofhhkkncaoneaaDoorAcXM
import Derived.Test.YtofhhkkncaoneaaDoorAcUcM
import Derived.Test.YtofhhkkncaoneaaDoorCpBM
import Derived.Test.YtofhhkkncaoneaaDoorCpDM
import Derived.Test.YtofhhkkncaoneaaDoorCpIM
import Derived.Test.YtofhhkkncaoneaaDoorCpL
import Derived.Test.YtofhhkkncaoneaaDoorCpLB
import Derived.Test.YtofhhkkncaoneaaDoorCqAM
import Derived.Test.YtofhhkkncaoneaaDoorCqDM
import Derived.Test.YtofhhkkncaoneaaDoorCqIM
import Derived.Test.YtofhhkkncaoneaaDoorCqOM
import Derived.Test.YtofhhkkncaoneaaDoorCqBM
import Derived.Test.YtofhhkkncaoneaaDoorCpQ
import Derived.Test.YtofhhkkncaoneaaDoorCqWM
import Derived.Calls
import Derived.Orders
import Derived.Laws.World
import Derived.Laws.Sem
import Derived.Laws.Cells
import Derived.Laws.Append
import GoSem.ClaimData
import Derived.Laws.Tables
import Derived.Laws.Slices
import Derived.Laws.Strings
import Derived.Laws.Small
import Derived.Test.YtofhhkkncaoneaaDoorChecked
import Derived.KernelRfl
import Derived.Lib.RuneCount
import Derived.Lib.DecodeN
set_option linter.unusedVariables false
set_option linter.unusedSimpArgs false
set_option maxRecDepth 4000
set_option linter.unusedSimpArgs false
set_option linter.unusedVariables false
namespace Go.Ac
open Go.Proofs

theorem addNew_zero (wl : List Nat) : ∀ l : List (Nat × Ob), addNew 0 wl l = wl
  | [] => rfl
  | (k, o) :: r => by
    have : Nat.blt k 0 = false := by cases k <;> rfl
    simp only [addNew, this]; exact addNew_zero wl r
def dLL (l : List (List Int)) : V := .d (.slice (encL l))
theorem Mc.some1 {im : Im} {hp : Hp} {idc gc mid mg : Nat} {mem : List Int} {cnt : Int} (h : Mc im hp idc gc mid mg mem cnt) : (hp.get idc).isSome = true := by
  obtain ⟨⟨cap, _, h1⟩, _, _⟩ := h; rw [h1]; rfl
theorem Mc.some2 {im : Im} {hp : Hp} {idc gc mid mg : Nat} {mem : List Int} {cnt : Int} (h : Mc im hp idc gc mid mg mem cnt) : (hp.get mid).isSome = true := by rw [h.m]; rfl
theorem Mc.after {im : Im} {hp hp' : Hp} {n idc gc mid mg : Nat} {mem : List Int} {cnt : Int} (h : Mc im hp idc gc mid mg mem cnt) (h1 : idc < n) (h2 : mid < n) (hs : ∀ j, j < n → (hp.get j).isSome = true → hp'.get j = hp.get j) : Mc im hp' idc gc mid mg mem cnt :=
  h.same (hs _ h1 h.some1) (hs _ h2 h.some2)
/-- Two machines that lie apart. -/
structure Two (im : Im) (hp : Hp) (n : Nat) (ic gc mc mgc : Nat) (memc : List Int) (cntc : Int) (id gd md mgd : Nat) (memd : List Int) (cntd : Int) : Prop where
  c : Mc im hp ic gc mc mgc memc cntc
  d : Mc im hp id gd md mgd memd cntd
  lic : ic < n
  lmc : mc < n
  lid : id < n
  lmd : md < n
  a1 : ic ≠ id
  a2 : ic ≠ md
  a3 : mc ≠ id
  a4 : mc ≠ md
theorem Two.same {im : Im} {hp hp' : Hp} {n n' ic gc mc mgc : Nat} {memc : List Int} {cntc : Int} {id gd md mgd : Nat} {memd : List Int} {cntd : Int} (h : Two im hp n ic gc mc mgc memc cntc id gd md mgd memd cntd) (hn : n ≤ n') (hs : ∀ j, j < n → hp'.get j = hp.get j) : Two im hp' n' ic gc mc mgc memc cntc id gd md mgd memd cntd :=
  ⟨h.c.same (hs _ h.lic) (hs _ h.lmc), h.d.same (hs _ h.lid) (hs _ h.lmd), by have := h.lic; omega, by have := h.lmc; omega, by have := h.lid; omega, by have := h.lmd; omega, h.a1, h.a2, h.a3, h.a4⟩
theorem Two.stepc {im : Im} {hp hp' hpz : Hp} {n ic gc mc mgc : Nat} {memc memc' : List Int} {cntc cntc' : Int} {id gd md mgd : Nat} {memd : List Int} {cntd : Int} (h : Two im hp n ic gc mc mgc memc cntc id gd md mgd memd cntd) (hf : ∀ j, j < n → j ∉ [ic, mc] → hp'.get j = hp.get j) (hM : Mc im hpz ic gc mc mgc memc' cntc') (hs : ∀ j, j < n → (hpz.get j).isSome = true → hp'.get j = hpz.get j) : Two im hp' n ic gc mc mgc memc' cntc' id gd md mgd memd cntd :=
  ⟨hM.after h.lic h.lmc hs, h.d.same (hf _ h.lid (by have := h.a1; have := h.a3; simp; omega)) (hf _ h.lmd (by have := h.a2; have := h.a4; simp; omega)), h.lic, h.lmc, h.lid, h.lmd, h.a1, h.a2, h.a3, h.a4⟩
theorem Two.stepd {im : Im} {hp hp' hpz : Hp} {n ic gc mc mgc : Nat} {memc : List Int} {cntc : Int} {id gd md mgd : Nat} {memd memd' : List Int} {cntd cntd' : Int} (h : Two im hp n ic gc mc mgc memc cntc id gd md mgd memd cntd) (hf : ∀ j, j < n → j ∉ [id, md] → hp'.get j = hp.get j) (hM : Mc im hpz id gd md mgd memd' cntd') (hs : ∀ j, j < n → (hpz.get j).isSome = true → hp'.get j = hpz.get j) : Two im hp' n ic gc mc mgc memc cntc id gd md mgd memd' cntd' :=
  ⟨h.c.same (hf _ h.lic (by have := h.a1; have := h.a2; simp; omega)) (hf _ h.lmc (by have := h.a3; have := h.a4; simp; omega)), hM.after h.lid h.lmd hs, h.lic, h.lmc, h.lid, h.lmd, h.a1, h.a2, h.a3, h.a4⟩
theorem encL_row {l : List (List Int)} {j : Nat} (h : j < l.length) : (encL l)[j]? = some [.slice (encI (l.getD j []))] := by
  rw [encL_at (y := l.getD j []) (by simp [List.getD, h])]
theorem stepR_out {im : Im} (hG : GoodIm im) {mem row : List Int} {cnt : Int} (hl : mem.length = (lastR im).ini.length) : (stepR im mem cnt row).1.length ≤ MX := by
  unfold stepR
  split
  · simp
  · rename_i h1
    split
    · simp
    · have hne := hG.ne
      have h1' : row.length = (lastR im).inn.length := by omega
      have h3 := (callM_ok hG.ok im.rs.length (im.rs.length - 1) (lastR im) 0 row mem (by omega) hG.last h1' (by omega)).1
      have h4 := hG.ok _ _ hG.last
      have h5 := h4.io
      have h6 := h4.hi
      show (callM im.rs im.rs.length (im.rs.length - 1) 0 row mem).1.length ≤ MX
      rw [h3]; unfold MX; omega
theorem ints_same (a : List Int) (h : a.length ≤ MX) : den Tryd.prog Cp.cfg 13 [dL a, dL a] = some (dB true) := by
  have := ints_den a a h h
  rwa [decide_eq_true rfl] at this
set_option maxHeartbeats 8000000 in
theorem anew_den (im : Im) (rows more : List (List Int)) (hs : im.sz ≤ MB) (hok : ∀ r, r ∈ im.rs → RtOK r) (hr1 : rows.length ≤ MB) (hr2 : more.length ≤ MB) (hr3 : ∀ r ∈ rows, r.length ≤ 4194304) (hr4 : ∀ r ∈ more, r.length ≤ 4194304) : den Tryd.prog Cp.cfg 5 [aM im, dLL rows, dLL more] = some (dB true) := by
  have haw := awake_den
  simp only [dB] at haw
  obtain ⟨bh, hh⟩ := heavy_den im hs ((rows.length : Int) + more.length)
  simp only [aM, Im.cells, List.map_cons, List.map_nil, dI, dB] at hh
  unfold MB at hr1 hr2
  have hwl : IntKind.i64.wrap ((rows.length : Int) + more.length) = (rows.length : Int) + more.length := by rw [w_id'] <;> omega
  refine den_wp Tryd.func5 rfl (by kernel_rfl) rfl rfl ?_
  cases bh with
  | true =>
    repeat (first
      | apply WP.seq
      | (apply WP.reg
         case hR => dsimp only [prepL, prepO, List.map, List.getElem?_cons_succ, List.getElem?_cons_zero]; exact Is.rfl
         case hr =>
           repeat (first
             | (apply RT.op (h := by simp [dI, dLL, aM, Im.cells, hwl, hh, haw, addNew_zero, -addNew]; exact Is.rfl) (he := by (try dsimp only [putEnv]) <;> exact rfl))
             | (apply RT.call (hg := by simp; exact Is.rfl) (hfo := by simp; exact Is.rfl) (hpr := by exact Is.rfl) (hvs := by simp [dI, dLL, aM, Im.cells, hwl, hh, haw, addNew_zero, -addNew]; exact Is.rfl) (hcl := by simp [dI, dLL, aM, Im.cells, hwl, hh, haw, addNew_zero, -addNew]; exact Is.rfl) (hd := by simp [dI, dLL, aM, Im.cells, hwl, hh, haw, addNew_zero, -addNew]; exact Is.rfl) (hwr := by simp [dI, dLL, aM, Im.cells, hwl, hh, haw, addNew_zero, -addNew]; exact Is.rfl) (hlt := by simp [Is]) (he := by (try dsimp only [putEnv]) <;> exact rfl) (hh := by simp; exact Is.rfl) (hw := by exact Is.rfl))
             | (apply RT.callI (hg := by simp; exact Is.rfl) (hfo := by simp; exact Is.rfl) (hpr := by exact Is.rfl) (hvs := by simp [dI, dLL, aM, Im.cells, hwl, hh, haw, addNew_zero, -addNew]; exact Is.rfl) (hcl := by simp [dI, dLL, aM, Im.cells, hwl, hh, haw, addNew_zero, -addNew]; exact Is.rfl) (hd := hI1) (hne := hI2) (hw := hI3) (hwr := hI4) (he := by (try dsimp only [putEnv]) <;> exact rfl) (hn0 := by first | omega | simp))
             | (apply RT.callT (hg := by simp; exact Is.rfl) (hfo := by simp; exact Is.rfl) (hpr := by exact Is.rfl) (hvs := by simp [dI, dLL, aM, Im.cells, hwl, hh, haw, addNew_zero, -addNew]; exact Is.rfl) (hcl := by simp [dI, dLL, aM, Im.cells, hwl, hh, haw, addNew_zero, -addNew]; exact Is.rfl) (hd := hT1) (hk := hT2) (he := by (try dsimp only [putEnv]) <;> exact rfl))
             | (apply RT.callT (hg := by simp; exact Is.rfl) (hfo := by simp; exact Is.rfl) (hpr := by exact Is.rfl) (hvs := by simp [dI, dLL, aM, Im.cells, hwl, hh, haw, addNew_zero, -addNew]; exact Is.rfl) (hcl := by simp [dI, dLL, aM, Im.cells, hwl, hh, haw, addNew_zero, -addNew]; exact Is.rfl) (hd := hU1) (hk := hU2) (he := by (try dsimp only [putEnv]) <;> exact rfl))
             | (apply RT.wr (h := by simp [dI, dLL, aM, Im.cells, hwl, hh, haw, addNew_zero, -addNew]; exact Is.rfl) (he := by (try dsimp only [putEnv]) <;> exact rfl) (hh := by simp [dI, dLL, aM, Im.cells, hwl, hh, haw, addNew_zero, -addNew]; exact Is.rfl) (hn := by exact Is.rfl) (hc := by exact Is.rfl) (hw := by exact Is.rfl)))
           exact RT.nil
         case hc => (show _ = _; kernel_rfl)
         case ht => simp [dI, dLL, aM, Im.cells, hwl, hh, haw, addNew_zero, -addNew]; exact Is.rfl)
      | apply WP.block
      | apply WP.skip
      | apply WP.exit
      | apply WP.ret
      | refine WP.condT rfl ?_
      | refine WP.condF rfl ?_)
    show retQ _ _ _ _ _
    exact ⟨.inr rfl, _, _, rfl, rfl⟩
  | false =>
  by_cases hc : chkE im = 0
  case neg =>
    have hb := new_bad hs hok hc
    simp only [aM, Im.cells, List.map_cons, List.map_nil, dI] at hb
    repeat (first
      | apply WP.seq
      | (apply WP.reg
         case hR => dsimp only [prepL, prepO, List.map, List.getElem?_cons_succ, List.getElem?_cons_zero]; exact Is.rfl
         case hr =>
           repeat (first
             | (apply RT.op (h := by simp [dI, dLL, aM, Im.cells, hwl, hh, haw, addNew_zero, -addNew, hb, hc, int_bne]; exact Is.rfl) (he := by (try dsimp only [putEnv]) <;> exact rfl))
             | (apply RT.call (hg := by simp; exact Is.rfl) (hfo := by simp; exact Is.rfl) (hpr := by exact Is.rfl) (hvs := by simp [dI, dLL, aM, Im.cells, hwl, hh, haw, addNew_zero, -addNew, hb, hc, int_bne]; exact Is.rfl) (hcl := by simp [dI, dLL, aM, Im.cells, hwl, hh, haw, addNew_zero, -addNew, hb, hc, int_bne]; exact Is.rfl) (hd := by simp [dI, dLL, aM, Im.cells, hwl, hh, haw, addNew_zero, -addNew, hb, hc, int_bne]; exact Is.rfl) (hwr := by simp [dI, dLL, aM, Im.cells, hwl, hh, haw, addNew_zero, -addNew, hb, hc, int_bne]; exact Is.rfl) (hlt := by simp [Is]) (he := by (try dsimp only [putEnv]) <;> exact rfl) (hh := by simp; exact Is.rfl) (hw := by exact Is.rfl))
             | (apply RT.callI (hg := by simp; exact Is.rfl) (hfo := by simp; exact Is.rfl) (hpr := by exact Is.rfl) (hvs := by simp [dI, dLL, aM, Im.cells, hwl, hh, haw, addNew_zero, -addNew, hb, hc, int_bne]; exact Is.rfl) (hcl := by simp [dI, dLL, aM, Im.cells, hwl, hh, haw, addNew_zero, -addNew, hb, hc, int_bne]; exact Is.rfl) (hd := hI1) (hne := hI2) (hw := hI3) (hwr := hI4) (he := by (try dsimp only [putEnv]) <;> exact rfl) (hn0 := by first | omega | simp))
             | (apply RT.callT (hg := by simp; exact Is.rfl) (hfo := by simp; exact Is.rfl) (hpr := by exact Is.rfl) (hvs := by simp [dI, dLL, aM, Im.cells, hwl, hh, haw, addNew_zero, -addNew, hb, hc, int_bne]; exact Is.rfl) (hcl := by simp [dI, dLL, aM, Im.cells, hwl, hh, haw, addNew_zero, -addNew, hb, hc, int_bne]; exact Is.rfl) (hd := hT1) (hk := hT2) (he := by (try dsimp only [putEnv]) <;> exact rfl))
             | (apply RT.callT (hg := by simp; exact Is.rfl) (hfo := by simp; exact Is.rfl) (hpr := by exact Is.rfl) (hvs := by simp [dI, dLL, aM, Im.cells, hwl, hh, haw, addNew_zero, -addNew, hb, hc, int_bne]; exact Is.rfl) (hcl := by simp [dI, dLL, aM, Im.cells, hwl, hh, haw, addNew_zero, -addNew, hb, hc, int_bne]; exact Is.rfl) (hd := hU1) (hk := hU2) (he := by (try dsimp only [putEnv]) <;> exact rfl))
             | (apply RT.wr (h := by simp [dI, dLL, aM, Im.cells, hwl, hh, haw, addNew_zero, -addNew, hb, hc, int_bne]; exact Is.rfl) (he := by (try dsimp only [putEnv]) <;> exact rfl) (hh := by simp [dI, dLL, aM, Im.cells, hwl, hh, haw, addNew_zero, -addNew, hb, hc, int_bne]; exact Is.rfl) (hn := by exact Is.rfl) (hc := by exact Is.rfl) (hw := by exact Is.rfl)))
           exact RT.nil
         case hc => (show _ = _; kernel_rfl)
         case ht => simp [dI, dLL, aM, Im.cells, hwl, hh, haw, addNew_zero, -addNew, hb, hc, int_bne]; exact Is.rfl)
      | apply WP.block
      | apply WP.skip
      | apply WP.exit
      | apply WP.ret
      | refine WP.condT rfl ?_
      | refine WP.condF rfl ?_)
    show retQ _ _ _ _ _
    exact ⟨.inr rfl, _, _, rfl, rfl⟩
  have hG := good_of hc
  obtain ⟨q, hI1, hqv, mid, mg, hMq, hmlt, hn1⟩ := new_ok hs hok hc
  have hI2 : closeT noLook q.v = none := by rw [hqv]; rfl
  have hI3 : shiftV 1 1 q.v = .tuple [.ptr 2 2 0, dI 0] := by rw [hqv]; rfl
  obtain ⟨W1, hI4⟩ : ∃ W, shiftH 1 1 (wrOf q.hp.get (List.range q.n)) = W := ⟨_, rfl⟩
  simp only [aM, Im.cells, List.map_cons, List.map_nil] at hI1
  repeat (first
    | apply WP.seq
    | (apply WP.reg
       case hR => dsimp only [prepL, prepO, List.map, List.getElem?_cons_succ, List.getElem?_cons_zero]; exact Is.rfl
       case hr =>
         repeat (first
           | (apply RT.op (h := by simp [dI, dLL, aM, Im.cells, hwl, hh, haw, addNew_zero, -addNew]; exact Is.rfl) (he := by (try dsimp only [putEnv]) <;> exact rfl))
           | (apply RT.call (hg := by simp; exact Is.rfl) (hfo := by simp; exact Is.rfl) (hpr := by exact Is.rfl) (hvs := by simp [dI, dLL, aM, Im.cells, hwl, hh, haw, addNew_zero, -addNew]; exact Is.rfl) (hcl := by simp [dI, dLL, aM, Im.cells, hwl, hh, haw, addNew_zero, -addNew]; exact Is.rfl) (hd := by simp [dI, dLL, aM, Im.cells, hwl, hh, haw, addNew_zero, -addNew]; exact Is.rfl) (hwr := by simp [dI, dLL, aM, Im.cells, hwl, hh, haw, addNew_zero, -addNew]; exact Is.rfl) (hlt := by simp [Is]) (he := by (try dsimp only [putEnv]) <;> exact rfl) (hh := by simp; exact Is.rfl) (hw := by exact Is.rfl))
           | (apply RT.callI (hg := by simp; exact Is.rfl) (hfo := by simp; exact Is.rfl) (hpr := by exact Is.rfl) (hvs := by simp [dI, dLL, aM, Im.cells, hwl, hh, haw, addNew_zero, -addNew]; exact Is.rfl) (hcl := by simp [dI, dLL, aM, Im.cells, hwl, hh, haw, addNew_zero, -addNew]; exact Is.rfl) (hd := hI1) (hne := hI2) (hw := hI3) (hwr := hI4) (he := by (try dsimp only [putEnv]) <;> exact rfl) (hn0 := by first | omega | simp))
           | (apply RT.callT (hg := by simp; exact Is.rfl) (hfo := by simp; exact Is.rfl) (hpr := by exact Is.rfl) (hvs := by simp [dI, dLL, aM, Im.cells, hwl, hh, haw, addNew_zero, -addNew]; exact Is.rfl) (hcl := by simp [dI, dLL, aM, Im.cells, hwl, hh, haw, addNew_zero, -addNew]; exact Is.rfl) (hd := hT1) (hk := hT2) (he := by (try dsimp only [putEnv]) <;> exact rfl))
           | (apply RT.callT (hg := by simp; exact Is.rfl) (hfo := by simp; exact Is.rfl) (hpr := by exact Is.rfl) (hvs := by simp [dI, dLL, aM, Im.cells, hwl, hh, haw, addNew_zero, -addNew]; exact Is.rfl) (hcl := by simp [dI, dLL, aM, Im.cells, hwl, hh, haw, addNew_zero, -addNew]; exact Is.rfl) (hd := hU1) (hk := hU2) (he := by (try dsimp only [putEnv]) <;> exact rfl))
           | (apply RT.wr (h := by simp [dI, dLL, aM, Im.cells, hwl, hh, haw, addNew_zero, -addNew]; exact Is.rfl) (he := by (try dsimp only [putEnv]) <;> exact rfl) (hh := by simp [dI, dLL, aM, Im.cells, hwl, hh, haw, addNew_zero, -addNew]; exact Is.rfl) (hn := by exact Is.rfl) (hc := by exact Is.rfl) (hw := by exact Is.rfl)))
         exact RT.nil
       case hc => (show _ = _; kernel_rfl)
       case ht => simp [dI, dLL, aM, Im.cells, hwl, hh, haw, addNew_zero, -addNew]; exact Is.rfl)
    | apply WP.block
    | apply WP.skip
    | apply WP.exit
    | apply WP.ret
    | refine WP.condT rfl ?_
    | refine WP.condF rfl ?_)
  apply WP.gen
  intro hp1 wl1 hhp hwl
  have hb1 : hp1.get 0 = some ⟨0, false, [.d (.slice (encI im.enums)), .d (.slice (encR im.rs))]⟩ := by rw [hhp, ← hI4, import_old (by omega)]; rfl
  have hM1 : Mc im hp1 2 2 (mid + 1) (mg + 1) (lastR im).ini 0 := by rw [hhp, ← hI4]; exact hMq.shift hn1 hmlt
  clear hhp hwl hI3 hI4
  obtain ⟨n1, hn1e⟩ : ∃ n1, n1 = 1 + q.n := ⟨_, rfl⟩
  obtain ⟨c1, hc1e⟩ : ∃ c1, c1 = 1 + q.c := ⟨_, rfl⟩
  rw [← hn1e, ← hc1e]
  have hI3 : shiftV n1 c1 q.v = .tuple [.ptr (1 + n1) (1 + c1) 0, dI 0] := by rw [hqv]; simp [shiftV, shiftVs, dI]
  obtain ⟨W2, hI4⟩ : ∃ W, shiftH n1 c1 (wrOf q.hp.get (List.range q.n)) = W := ⟨_, rfl⟩
  repeat (first
    | apply WP.seq
    | (apply WP.reg
       case hR => dsimp only [prepL, prepO, List.map, List.getElem?_cons_succ, List.getElem?_cons_zero]; exact Is.rfl
       case hr =>
         repeat (first
           | (apply RT.op (h := by simp [dI, addNew_zero, -addNew, hb1]; exact Is.rfl) (he := by (try dsimp only [putEnv]) <;> exact rfl))
           | (apply RT.call (hg := by simp; exact Is.rfl) (hfo := by simp; exact Is.rfl) (hpr := by exact Is.rfl) (hvs := by simp [dI, addNew_zero, -addNew, hb1]; exact Is.rfl) (hcl := by simp [dI, addNew_zero, -addNew, hb1]; exact Is.rfl) (hd := by simp [dI, addNew_zero, -addNew, hb1]; exact Is.rfl) (hwr := by simp [dI, addNew_zero, -addNew, hb1]; exact Is.rfl) (hlt := by simp [Is]) (he := by (try dsimp only [putEnv]) <;> exact rfl) (hh := by simp; exact Is.rfl) (hw := by exact Is.rfl))
           | (apply RT.callI (hg := by simp; exact Is.rfl) (hfo := by simp; exact Is.rfl) (hpr := by exact Is.rfl) (hvs := by simp [dI, addNew_zero, -addNew, hb1]; exact Is.rfl) (hcl := by simp [dI, addNew_zero, -addNew, hb1]; exact Is.rfl) (hd := hI1) (hne := hI2) (hw := hI3) (hwr := hI4) (he := by (try dsimp only [putEnv]) <;> exact rfl) (hn0 := by first | omega | simp))
           | (apply RT.callT (hg := by simp; exact Is.rfl) (hfo := by simp; exact Is.rfl) (hpr := by exact Is.rfl) (hvs := by simp [dI, addNew_zero, -addNew, hb1]; exact Is.rfl) (hcl := by simp [dI, addNew_zero, -addNew, hb1]; exact Is.rfl) (hd := hT1) (hk := hT2) (he := by (try dsimp only [putEnv]) <;> exact rfl))
           | (apply RT.callT (hg := by simp; exact Is.rfl) (hfo := by simp; exact Is.rfl) (hpr := by exact Is.rfl) (hvs := by simp [dI, addNew_zero, -addNew, hb1]; exact Is.rfl) (hcl := by simp [dI, addNew_zero, -addNew, hb1]; exact Is.rfl) (hd := hU1) (hk := hU2) (he := by (try dsimp only [putEnv]) <;> exact rfl))
           | (apply RT.wr (h := by simp [dI, addNew_zero, -addNew, hb1]; exact Is.rfl) (he := by (try dsimp only [putEnv]) <;> exact rfl) (hh := by simp [dI, addNew_zero, -addNew, hb1]; exact Is.rfl) (hn := by exact Is.rfl) (hc := by exact Is.rfl) (hw := by exact Is.rfl)))
         exact RT.nil
       case hc => (show _ = _; kernel_rfl)
       case ht => simp [dI, addNew_zero, -addNew, hb1]; exact Is.rfl)
    | apply WP.block
    | apply WP.skip
    | apply WP.exit
    | apply WP.ret
    | refine WP.condT rfl ?_
    | refine WP.condF rfl ?_)
  apply WP.gen
  intro hp2 wl2 hhp hwl
  have hT0 : Two im hp2 (n1 + q.n) 2 2 (mid + 1) (mg + 1) (lastR im).ini 0 (1 + n1) (1 + c1) (mid + n1) (mg + c1) (lastR im).ini 0 := by
    have hold : ∀ j, j < n1 → hp2.get j = hp1.get j := fun j hj => by rw [hhp, ← hI4, import_old hj]
    have hd : Mc im hp2 (1 + n1) (1 + c1) (mid + n1) (mg + c1) (lastR im).ini 0 := by rw [hhp, ← hI4]; exact hMq.shift hn1 hmlt
    exact ⟨hM1.same (hold _ (by omega)) (hold _ (by omega)), hd, by omega, by omega, by omega, by omega, by omega, by omega, by omega, by omega⟩
  clear hhp hwl hI3 hI4 hM1 hb1
  obtain ⟨N, hNe⟩ : ∃ N, N = n1 + q.n := ⟨_, rfl⟩
  obtain ⟨mc, hmce⟩ : ∃ m, m = mid + 1 := ⟨_, rfl⟩
  obtain ⟨mgc, hmgce⟩ : ∃ m, m = mg + 1 := ⟨_, rfl⟩
  obtain ⟨id, hide⟩ : ∃ m, m = 1 + n1 := ⟨_, rfl⟩
  obtain ⟨gd, hgde⟩ : ∃ m, m = 1 + c1 := ⟨_, rfl⟩
  obtain ⟨md, hmde⟩ : ∃ m, m = mid + n1 := ⟨_, rfl⟩
  obtain ⟨mgd, hmgde⟩ : ∃ m, m = mg + c1 := ⟨_, rfl⟩
  rw [← hNe, ← hide, ← hgde] at ⊢
  rw [← hNe, ← hmce, ← hmgce, ← hide, ← hgde, ← hmde, ← hmgde] at hT0
  clear hNe hmce hmgce hide hgde hmde hmgde
  obtain ⟨capc, _, hCc⟩ := hT0.c.c
  obtain ⟨capd, _, hCd⟩ := hT0.d.c
  have hlm : (lastR im).ini.length ≤ 1000000 := by have := hG.il _ hG.mem; omega
  have hrgi : Rg (lastR im).ini := hG.ini _ hG.mem
  obtain ⟨r0, hT1, hv, hn, hT2, hki, hfr, _⟩ := (memory_ok (n := N) (c := c1 + q.c) hT0.c hT0.lic hT0.lmc hlm).caller (by intro j hj; cases hj)
  simp only [dL] at hv
  repeat (first
    | apply WP.seq
    | (apply WP.reg
       case hR => dsimp only [prepL, prepO, List.map, List.getElem?_cons_succ, List.getElem?_cons_zero]; exact Is.rfl
       case hr =>
         repeat (first
           | (apply RT.op (h := by simp [dI, addNew_zero, -addNew, hCc, hCd, hv, hn]; exact Is.rfl) (he := by (try dsimp only [putEnv]) <;> exact rfl))
           | (apply RT.call (hg := by simp; exact Is.rfl) (hfo := by simp; exact Is.rfl) (hpr := by exact Is.rfl) (hvs := by simp [dI, addNew_zero, -addNew, hCc, hCd, hv, hn]; exact Is.rfl) (hcl := by simp [dI, addNew_zero, -addNew, hCc, hCd, hv, hn]; exact Is.rfl) (hd := by simp [dI, addNew_zero, -addNew, hCc, hCd, hv, hn]; exact Is.rfl) (hwr := by simp [dI, addNew_zero, -addNew, hCc, hCd, hv, hn]; exact Is.rfl) (hlt := by simp [Is]) (he := by (try dsimp only [putEnv]) <;> exact rfl) (hh := by simp; exact Is.rfl) (hw := by exact Is.rfl))
           | (apply RT.callI (hg := by simp; exact Is.rfl) (hfo := by simp; exact Is.rfl) (hpr := by exact Is.rfl) (hvs := by simp [dI, addNew_zero, -addNew, hCc, hCd, hv, hn]; exact Is.rfl) (hcl := by simp [dI, addNew_zero, -addNew, hCc, hCd, hv, hn]; exact Is.rfl) (hd := hI1) (hne := hI2) (hw := hI3) (hwr := hI4) (he := by (try dsimp only [putEnv]) <;> exact rfl) (hn0 := by first | omega | simp))
           | (apply RT.callT (hg := by simp; exact Is.rfl) (hfo := by simp; exact Is.rfl) (hpr := by exact Is.rfl) (hvs := by simp [dI, addNew_zero, -addNew, hCc, hCd, hv, hn]; exact Is.rfl) (hcl := by simp [dI, addNew_zero, -addNew, hCc, hCd, hv, hn]; exact Is.rfl) (hd := hT1) (hk := hT2) (he := by (try dsimp only [putEnv]) <;> exact rfl))
           | (apply RT.callT (hg := by simp; exact Is.rfl) (hfo := by simp; exact Is.rfl) (hpr := by exact Is.rfl) (hvs := by simp [dI, addNew_zero, -addNew, hCc, hCd, hv, hn]; exact Is.rfl) (hcl := by simp [dI, addNew_zero, -addNew, hCc, hCd, hv, hn]; exact Is.rfl) (hd := hU1) (hk := hU2) (he := by (try dsimp only [putEnv]) <;> exact rfl))
           | (apply RT.wr (h := by simp [dI, addNew_zero, -addNew, hCc, hCd, hv, hn]; exact Is.rfl) (he := by (try dsimp only [putEnv]) <;> exact rfl) (hh := by simp [dI, addNew_zero, -addNew, hCc, hCd, hv, hn]; exact Is.rfl) (hn := by exact Is.rfl) (hc := by exact Is.rfl) (hw := by exact Is.rfl)))
         exact RT.nil
       case hc => (show _ = _; kernel_rfl)
       case ht => simp [dI, addNew_zero, -addNew, hCc, hCd, hv, hn]; exact Is.rfl)
    | apply WP.block
    | apply WP.skip
    | apply WP.exit
    | apply WP.ret
    | refine WP.condT rfl ?_
    | refine WP.condF rfl ?_)
  have hT1' : Two im (hp2.sets (tWr r0 N)) N 2 2 mc mgc (lastR im).ini 0 id gd md mgd (lastR im).ini 0 := hT0.same (Nat.le_refl _) fun j hj => hfr j hj (by simp)
  clear hT1 hT2 hki hfr hv hn hCc hCd hT0
  apply WP.loop' (I := fun D s => ∃ (j : Nat) (hp' : Hp) (c' : Nat) (mem : List Int) (cnt : Int), j + D = rows.length ∧ mem.length = (lastR im).ini.length ∧ Rg mem ∧ Two im hp' N 2 2 mc mgc mem cnt id gd md mgd (lastR im).ini 0 ∧
    s = ⟨[(1, dLL rows), (2, dLL more), (7, .ptr 2 2 0), (9, .ptr id gd 0), (11, dL (lastR im).ini), (12, dI j)], hp', N, c', 0, wl2⟩) (d := rows.length)
  · exact ⟨0, _, _, _, 0, by simp, rfl, hrgi, hT1', by rfl⟩
  clear hT1'
  rintro D _ ⟨j, hp', c', mem, cnt, hj, hml, hmr, hTw, rfl⟩
  repeat (first
    | apply WP.seq
    | (apply WP.reg
       case hR => dsimp only [prepL, prepO, List.map, List.getElem?_cons_succ, List.getElem?_cons_zero]; exact Is.rfl
       case hr =>
         repeat (first
           | (apply RT.op (h := by simp [dI, dLL, dL, addNew_zero, -addNew]; exact Is.rfl) (he := by (try dsimp only [putEnv]) <;> exact rfl))
           | (apply RT.call (hg := by simp; exact Is.rfl) (hfo := by simp; exact Is.rfl) (hpr := by exact Is.rfl) (hvs := by simp [dI, dLL, dL, addNew_zero, -addNew]; exact Is.rfl) (hcl := by simp [dI, dLL, dL, addNew_zero, -addNew]; exact Is.rfl) (hd := by simp [dI, dLL, dL, addNew_zero, -addNew]; exact Is.rfl) (hwr := by simp [dI, dLL, dL, addNew_zero, -addNew]; exact Is.rfl) (hlt := by simp [Is]) (he := by (try dsimp only [putEnv]) <;> exact rfl) (hh := by simp; exact Is.rfl) (hw := by exact Is.rfl))
           | (apply RT.callI (hg := by simp; exact Is.rfl) (hfo := by simp; exact Is.rfl) (hpr := by exact Is.rfl) (hvs := by simp [dI, dLL, dL, addNew_zero, -addNew]; exact Is.rfl) (hcl := by simp [dI, dLL, dL, addNew_zero, -addNew]; exact Is.rfl) (hd := hI1) (hne := hI2) (hw := hI3) (hwr := hI4) (he := by (try dsimp only [putEnv]) <;> exact rfl) (hn0 := by first | omega | simp))
           | (apply RT.callT (hg := by simp; exact Is.rfl) (hfo := by simp; exact Is.rfl) (hpr := by exact Is.rfl) (hvs := by simp [dI, dLL, dL, addNew_zero, -addNew]; exact Is.rfl) (hcl := by simp [dI, dLL, dL, addNew_zero, -addNew]; exact Is.rfl) (hd := hT1) (hk := hT2) (he := by (try dsimp only [putEnv]) <;> exact rfl))
           | (apply RT.callT (hg := by simp; exact Is.rfl) (hfo := by simp; exact Is.rfl) (hpr := by exact Is.rfl) (hvs := by simp [dI, dLL, dL, addNew_zero, -addNew]; exact Is.rfl) (hcl := by simp [dI, dLL, dL, addNew_zero, -addNew]; exact Is.rfl) (hd := hU1) (hk := hU2) (he := by (try dsimp only [putEnv]) <;> exact rfl))
           | (apply RT.wr (h := by simp [dI, dLL, dL, addNew_zero, -addNew]; exact Is.rfl) (he := by (try dsimp only [putEnv]) <;> exact rfl) (hh := by simp [dI, dLL, dL, addNew_zero, -addNew]; exact Is.rfl) (hn := by exact Is.rfl) (hc := by exact Is.rfl) (hw := by exact Is.rfl)))
         exact RT.nil
       case hc => (show _ = _; kernel_rfl)
       case ht => simp [dI, dLL, dL, addNew_zero, -addNew]; exact Is.rfl)
    | apply WP.block
    | apply WP.skip
    | apply WP.exit
    | apply WP.ret)
  show WP _ _ _ _ _ _
  refine WP.cond _ rfl (fun hb => ?_) (fun hb => ?_)
  · simp at hb
    have hb' : j < rows.length := hb
    have hrow := encL_row hb'
    have hix := idx_lt hb'
    have hw := w_succ hb' (by omega)
    obtain ⟨row, hrowe⟩ : ∃ r, r = rows.getD j [] := ⟨_, rfl⟩
    have hrl : row.length ≤ 4194304 := by rw [hrowe]; exact hr3 _ (by rw [List.getD_eq_getElem?_getD, List.getElem?_eq_getElem hb']; exact List.getElem_mem hb')
    rw [← hrowe] at hrow
    obtain ⟨r0, hT1, hv, hn, hT2, hki, hfr, hpz, hMz, hsame⟩ := (step_den (n := N) (c := c') hG hTw.c hTw.lic hTw.lmc hml hrl).caller (by intro j hj; have := hTw.lic; have := hTw.lmc; simp at hj; omega)
    have hmem := stepR_mem (cnt := cnt) (row := row) hG hml hmr
    have hTw2 := hTw.stepc hfr hMz hsame
    repeat (first
      | apply WP.seq
      | (apply WP.reg
         case hR => dsimp only [prepL, prepO, List.map, List.getElem?_cons_succ, List.getElem?_cons_zero]; exact Is.rfl
         case hr =>
           repeat (first
             | (apply RT.op (h := by simp [dI, dLL, dL, addNew_zero, -addNew, hix, hrow, hv, hn]; exact Is.rfl) (he := by (try dsimp only [putEnv]) <;> exact rfl))
             | (apply RT.call (hg := by simp; exact Is.rfl) (hfo := by simp; exact Is.rfl) (hpr := by exact Is.rfl) (hvs := by simp [dI, dLL, dL, addNew_zero, -addNew, hix, hrow, hv, hn]; exact Is.rfl) (hcl := by simp [dI, dLL, dL, addNew_zero, -addNew, hix, hrow, hv, hn]; exact Is.rfl) (hd := by simp [dI, dLL, dL, addNew_zero, -addNew, hix, hrow, hv, hn]; exact Is.rfl) (hwr := by simp [dI, dLL, dL, addNew_zero, -addNew, hix, hrow, hv, hn]; exact Is.rfl) (hlt := by simp [Is]) (he := by (try dsimp only [putEnv]) <;> exact rfl) (hh := by simp; exact Is.rfl) (hw := by exact Is.rfl))
             | (apply RT.callI (hg := by simp; exact Is.rfl) (hfo := by simp; exact Is.rfl) (hpr := by exact Is.rfl) (hvs := by simp [dI, dLL, dL, addNew_zero, -addNew, hix, hrow, hv, hn]; exact Is.rfl) (hcl := by simp [dI, dLL, dL, addNew_zero, -addNew, hix, hrow, hv, hn]; exact Is.rfl) (hd := hI1) (hne := hI2) (hw := hI3) (hwr := hI4) (he := by (try dsimp only [putEnv]) <;> exact rfl) (hn0 := by first | omega | simp))
             | (apply RT.callT (hg := by simp; exact Is.rfl) (hfo := by simp; exact Is.rfl) (hpr := by exact Is.rfl) (hvs := by simp [dI, dLL, dL, addNew_zero, -addNew, hix, hrow, hv, hn]; exact Is.rfl) (hcl := by simp [dI, dLL, dL, addNew_zero, -addNew, hix, hrow, hv, hn]; exact Is.rfl) (hd := hT1) (hk := hT2) (he := by (try dsimp only [putEnv]) <;> exact rfl))
             | (apply RT.callT (hg := by simp; exact Is.rfl) (hfo := by simp; exact Is.rfl) (hpr := by exact Is.rfl) (hvs := by simp [dI, dLL, dL, addNew_zero, -addNew, hix, hrow, hv, hn]; exact Is.rfl) (hcl := by simp [dI, dLL, dL, addNew_zero, -addNew, hix, hrow, hv, hn]; exact Is.rfl) (hd := hU1) (hk := hU2) (he := by (try dsimp only [putEnv]) <;> exact rfl))
             | (apply RT.wr (h := by simp [dI, dLL, dL, addNew_zero, -addNew, hix, hrow, hv, hn]; exact Is.rfl) (he := by (try dsimp only [putEnv]) <;> exact rfl) (hh := by simp [dI, dLL, dL, addNew_zero, -addNew, hix, hrow, hv, hn]; exact Is.rfl) (hn := by exact Is.rfl) (hc := by exact Is.rfl) (hw := by exact Is.rfl)))
           exact RT.nil
         case hc => (show _ = _; kernel_rfl)
         case ht => simp [dI, dLL, dL, addNew_zero, -addNew, hix, hrow, hv, hn]; exact Is.rfl)
      | apply WP.block
      | apply WP.skip
      | apply WP.exit
      | apply WP.ret
      | refine WP.condT rfl ?_
      | refine WP.condF rfl ?_)
    refine loop_next (by simp [addNew_zero, -addNew, hw]; exact Is.rfl) ?_
    exact ⟨D - 1, by omega, j + 1, _, _, _, _, by omega, hmem.1, hmem.2, hTw2.same (Nat.le_refl _) (fun t ht => Hp.get_trunc _ _ _ ht), by rfl⟩
  · clear hb hj
    obtain ⟨capc, _, hCc⟩ := hTw.c.c
    obtain ⟨capd, _, hCd⟩ := hTw.d.c
    obtain ⟨r0, hT1, hv, hn, hT2, hki, hfr, _⟩ := (memory_ok (n := N) (c := c') hTw.c hTw.lic hTw.lmc (by omega)).caller (by intro j hj; cases hj)
    simp only [dL] at hv
    have hTw2 : Two im (hp'.sets (tWr r0 N)) (N + (r0.n - N)) 2 2 mc mgc mem cnt id gd md mgd (lastR im).ini 0 := hTw.same (by omega) fun j hj => hfr j hj (by simp)
    obtain ⟨r1, hU1, hv1, hn1', hU2, hki1, hfr1, hpz, ⟨md', mgd', hMz, hlt, hor⟩, hsame⟩ := (load_ok (n := N + (r0.n - N)) (c := c' + (r0.c - c')) (m := mem) hTw2.d hTw2.lid hTw2.lmd (by omega)).caller (by intro j hj; have := hTw2.lid; simp at hj; omega)
    have hle : loadE (lastR im).ini mem = 0 := loadE_ok hml hmr
    rw [hle, if_pos rfl] at hMz
    rw [hle] at hv1
    simp only [dI] at hv1
    repeat (first
      | apply WP.seq
      | (apply WP.reg
         case hR => dsimp only [prepL, prepO, List.map, List.getElem?_cons_succ, List.getElem?_cons_zero]; exact Is.rfl
         case hr =>
           repeat (first
             | (apply RT.op (h := by simp [dI, dLL, dL, addNew_zero, -addNew, hv, hv1]; exact Is.rfl) (he := by (try dsimp only [putEnv]) <;> exact rfl))
             | (apply RT.call (hg := by simp; exact Is.rfl) (hfo := by simp; exact Is.rfl) (hpr := by exact Is.rfl) (hvs := by simp [dI, dLL, dL, addNew_zero, -addNew, hv, hv1]; exact Is.rfl) (hcl := by simp [dI, dLL, dL, addNew_zero, -addNew, hv, hv1]; exact Is.rfl) (hd := by simp [dI, dLL, dL, addNew_zero, -addNew, hv, hv1]; exact Is.rfl) (hwr := by simp [dI, dLL, dL, addNew_zero, -addNew, hv, hv1]; exact Is.rfl) (hlt := by simp [Is]) (he := by (try dsimp only [putEnv]) <;> exact rfl) (hh := by simp; exact Is.rfl) (hw := by exact Is.rfl))
             | (apply RT.callI (hg := by simp; exact Is.rfl) (hfo := by simp; exact Is.rfl) (hpr := by exact Is.rfl) (hvs := by simp [dI, dLL, dL, addNew_zero, -addNew, hv, hv1]; exact Is.rfl) (hcl := by simp [dI, dLL, dL, addNew_zero, -addNew, hv, hv1]; exact Is.rfl) (hd := hI1) (hne := hI2) (hw := hI3) (hwr := hI4) (he := by (try dsimp only [putEnv]) <;> exact rfl) (hn0 := by first | omega | simp))
             | (apply RT.callT (hg := by simp; exact Is.rfl) (hfo := by simp; exact Is.rfl) (hpr := by exact Is.rfl) (hvs := by simp [dI, dLL, dL, addNew_zero, -addNew, hv, hv1]; exact Is.rfl) (hcl := by simp [dI, dLL, dL, addNew_zero, -addNew, hv, hv1]; exact Is.rfl) (hd := hT1) (hk := hT2) (he := by (try dsimp only [putEnv]) <;> exact rfl))
             | (apply RT.callT (hg := by simp; exact Is.rfl) (hfo := by simp; exact Is.rfl) (hpr := by exact Is.rfl) (hvs := by simp [dI, dLL, dL, addNew_zero, -addNew, hv, hv1]; exact Is.rfl) (hcl := by simp [dI, dLL, dL, addNew_zero, -addNew, hv, hv1]; exact Is.rfl) (hd := hU1) (hk := hU2) (he := by (try dsimp only [putEnv]) <;> exact rfl))
             | (apply RT.wr (h := by simp [dI, dLL, dL, addNew_zero, -addNew, hv, hv1]; exact Is.rfl) (he := by (try dsimp only [putEnv]) <;> exact rfl) (hh := by simp [dI, dLL, dL, addNew_zero, -addNew, hv, hv1]; exact Is.rfl) (hn := by exact Is.rfl) (hc := by exact Is.rfl) (hw := by exact Is.rfl)))
           exact RT.nil
         case hc => (show _ = _; kernel_rfl)
         case ht => simp [dI, dLL, dL, addNew_zero, -addNew, hv, hv1]; exact Is.rfl)
      | apply WP.block
      | apply WP.skip
      | apply WP.exit
      | apply WP.ret
      | refine WP.condT rfl ?_
      | refine WP.condF rfl ?_)
    obtain ⟨N2, hN2⟩ : ∃ N2, N2 = N + (r0.n - N) + (r1.n - (N + (r0.n - N))) := ⟨_, rfl⟩
    have hN2r : N2 = r1.n := by omega
    rw [← hN2]
    have hT2 : Two im ((hp'.sets (tWr r0 N)).sets (tWr r1 (N + (r0.n - N)))) N2 2 2 mc mgc mem cnt id gd md' mgd' mem 0 := by
      have b1 := hTw2.lic
      have b2 := hTw2.lmc
      have b3 := hTw2.lid
      have b4 := hTw2.lmd
      have b5 := hTw2.a1
      have b6 := hTw2.a2
      have b7 := hTw2.a3
      have b8 := hTw2.a4
      refine ⟨hTw2.c.same (hfr1 _ b1 (by simp; omega)) (hfr1 _ b2 (by simp; omega)), hMz.after (n := r1.n) (by omega) hlt hsame, by omega, by omega, by omega, by omega, b5, ?_, b7, ?_⟩
      · rcases hor with h | h <;> omega
      · rcases hor with h | h <;> omega
    clear hN2 hN2r hTw hTw2 hT1 hU1 hU2 hki hki1 hfr hfr1 hMz hsame hv hv1 hn hn1' hlt hor hCc hCd
    apply WP.loop' (I := fun D s => ∃ (j : Nat) (hp' : Hp) (c' : Nat) (mem : List Int) (cntc cntd : Int), j + D = more.length ∧ mem.length = (lastR im).ini.length ∧ Rg mem ∧ Two im hp' N2 2 2 mc mgc mem cntc id gd md' mgd' mem cntd ∧
      s = ⟨[(2, dLL more), (7, .ptr 2 2 0), (9, .ptr id gd 0), (11, dL (lastR im).ini), (13, dI j)], hp', N2, c', 0, wl2⟩) (d := more.length)
    · exact ⟨0, _, _, mem, cnt, 0, by simp, hml, hmr, hT2, by rfl⟩
    clear hT2 hml hmr hle
    rintro D _ ⟨j, hp', c', mem, cntc, cntd, hj, hml, hmr, hTw, rfl⟩
    repeat (first
      | apply WP.seq
      | (apply WP.reg
         case hR => dsimp only [prepL, prepO, List.map, List.getElem?_cons_succ, List.getElem?_cons_zero]; exact Is.rfl
         case hr =>
           repeat (first
             | (apply RT.op (h := by simp [dI, dLL, dL, addNew_zero, -addNew]; exact Is.rfl) (he := by (try dsimp only [putEnv]) <;> exact rfl))
             | (apply RT.call (hg := by simp; exact Is.rfl) (hfo := by simp; exact Is.rfl) (hpr := by exact Is.rfl) (hvs := by simp [dI, dLL, dL, addNew_zero, -addNew]; exact Is.rfl) (hcl := by simp [dI, dLL, dL, addNew_zero, -addNew]; exact Is.rfl) (hd := by simp [dI, dLL, dL, addNew_zero, -addNew]; exact Is.rfl) (hwr := by simp [dI, dLL, dL, addNew_zero, -addNew]; exact Is.rfl) (hlt := by simp [Is]) (he := by (try dsimp only [putEnv]) <;> exact rfl) (hh := by simp; exact Is.rfl) (hw := by exact Is.rfl))
             | (apply RT.callI (hg := by simp; exact Is.rfl) (hfo := by simp; exact Is.rfl) (hpr := by exact Is.rfl) (hvs := by simp [dI, dLL, dL, addNew_zero, -addNew]; exact Is.rfl) (hcl := by simp [dI, dLL, dL, addNew_zero, -addNew]; exact Is.rfl) (hd := hI1) (hne := hI2) (hw := hI3) (hwr := hI4) (he := by (try dsimp only [putEnv]) <;> exact rfl) (hn0 := by first | omega | simp))
             | (apply RT.callT (hg := by simp; exact Is.rfl) (hfo := by simp; exact Is.rfl) (hpr := by exact Is.rfl) (hvs := by simp [dI, dLL, dL, addNew_zero, -addNew]; exact Is.rfl) (hcl := by simp [dI, dLL, dL, addNew_zero, -addNew]; exact Is.rfl) (hd := hT1) (hk := hT2) (he := by (try dsimp only [putEnv]) <;> exact rfl))
             | (apply RT.callT (hg := by simp; exact Is.rfl) (hfo := by simp; exact Is.rfl) (hpr := by exact Is.rfl) (hvs := by simp [dI, dLL, dL, addNew_zero, -addNew]; exact Is.rfl) (hcl := by simp [dI, dLL, dL, addNew_zero, -addNew]; exact Is.rfl) (hd := hU1) (hk := hU2) (he := by (try dsimp only [putEnv]) <;> exact rfl))
             | (apply RT.wr (h := by simp [dI, dLL, dL, addNew_zero, -addNew]; exact Is.rfl) (he := by (try dsimp only [putEnv]) <;> exact rfl) (hh := by simp [dI, dLL, dL, addNew_zero, -addNew]; exact Is.rfl) (hn := by exact Is.rfl) (hc := by exact Is.rfl) (hw := by exact Is.rfl)))
           exact RT.nil
         case hc => (show _ = _; kernel_rfl)
         case ht => simp [dI, dLL, dL, addNew_zero, -addNew]; exact Is.rfl)
      | apply WP.block
      | apply WP.skip
      | apply WP.exit
      | apply WP.ret)
    show WP _ _ _ _ _ _
    refine WP.cond _ rfl (fun hb => ?_) (fun hb => ?_)
    · simp at hb
      have hb' : j < more.length := hb
      have hrow := encL_row hb'
      have hix := idx_lt hb'
      have hw := w_succ hb' (by omega)
      obtain ⟨row, hrowe⟩ : ∃ r, r = more.getD j [] := ⟨_, rfl⟩
      have hrl : row.length ≤ 4194304 := by rw [hrowe]; exact hr4 _ (by rw [List.getD_eq_getElem?_getD, List.getElem?_eq_getElem hb']; exact List.getElem_mem hb')
      rw [← hrowe] at hrow
      obtain ⟨r0, hT1, hv, hn, hT2, hki, hfr, hpz, hMz, hsame⟩ := (step_den (n := N2) (c := c') hG hTw.c hTw.lic hTw.lmc hml hrl).caller (by intro j hj; have := hTw.lic; have := hTw.lmc; simp at hj; omega)
      have hTw2 := hTw.stepc hfr hMz hsame
      obtain ⟨r1, hU1, hv1, hn1', hU2, hki1, hfr1, hpz1, hMz1, hsame1⟩ := (step_den (n := N2) (c := c' + (r0.c - c')) hG hTw2.d hTw2.lid hTw2.lmd hml hrl).caller (by intro j hj; have := hTw2.lid; have := hTw2.lmd; simp at hj; omega)
      have hTw3 := hTw2.stepd hfr1 hMz1 hsame1
      have hmem := stepR_mem (cnt := cntc) (row := row) hG hml hmr
      obtain ⟨e1, e2, e3⟩ := stepR_cnt im mem row cntd cntc
      rw [e3] at hTw3
      rw [e1, e2] at hv1
      obtain ⟨st, hst⟩ : ∃ st, st = stepR im mem cntc row := ⟨_, rfl⟩
      rw [← hst] at hv hv1 hTw3 hmem
      simp only [dL, dI] at hv hv1
      repeat (first
        | apply WP.seq
        | (apply WP.reg
           case hR => dsimp only [prepL, prepO, List.map, List.getElem?_cons_succ, List.getElem?_cons_zero]; exact Is.rfl
           case hr =>
             repeat (first
               | (apply RT.op (h := by simp [dI, dLL, dL, addNew_zero, -addNew, hix, hrow, hv, hn, hv1, hn1']; exact Is.rfl) (he := by (try dsimp only [putEnv]) <;> exact rfl))
               | (apply RT.call (hg := by simp; exact Is.rfl) (hfo := by simp; exact Is.rfl) (hpr := by exact Is.rfl) (hvs := by simp [dI, dLL, dL, addNew_zero, -addNew, hix, hrow, hv, hn, hv1, hn1']; exact Is.rfl) (hcl := by simp [dI, dLL, dL, addNew_zero, -addNew, hix, hrow, hv, hn, hv1, hn1']; exact Is.rfl) (hd := by simp [dI, dLL, dL, addNew_zero, -addNew, hix, hrow, hv, hn, hv1, hn1']; exact Is.rfl) (hwr := by simp [dI, dLL, dL, addNew_zero, -addNew, hix, hrow, hv, hn, hv1, hn1']; exact Is.rfl) (hlt := by simp [Is]) (he := by (try dsimp only [putEnv]) <;> exact rfl) (hh := by simp; exact Is.rfl) (hw := by exact Is.rfl))
               | (apply RT.callI (hg := by simp; exact Is.rfl) (hfo := by simp; exact Is.rfl) (hpr := by exact Is.rfl) (hvs := by simp [dI, dLL, dL, addNew_zero, -addNew, hix, hrow, hv, hn, hv1, hn1']; exact Is.rfl) (hcl := by simp [dI, dLL, dL, addNew_zero, -addNew, hix, hrow, hv, hn, hv1, hn1']; exact Is.rfl) (hd := hI1) (hne := hI2) (hw := hI3) (hwr := hI4) (he := by (try dsimp only [putEnv]) <;> exact rfl) (hn0 := by first | omega | simp))
               | (apply RT.callT (hg := by simp; exact Is.rfl) (hfo := by simp; exact Is.rfl) (hpr := by exact Is.rfl) (hvs := by simp [dI, dLL, dL, addNew_zero, -addNew, hix, hrow, hv, hn, hv1, hn1']; exact Is.rfl) (hcl := by simp [dI, dLL, dL, addNew_zero, -addNew, hix, hrow, hv, hn, hv1, hn1']; exact Is.rfl) (hd := hT1) (hk := hT2) (he := by (try dsimp only [putEnv]) <;> exact rfl))
               | (apply RT.callT (hg := by simp; exact Is.rfl) (hfo := by simp; exact Is.rfl) (hpr := by exact Is.rfl) (hvs := by simp [dI, dLL, dL, addNew_zero, -addNew, hix, hrow, hv, hn, hv1, hn1']; exact Is.rfl) (hcl := by simp [dI, dLL, dL, addNew_zero, -addNew, hix, hrow, hv, hn, hv1, hn1']; exact Is.rfl) (hd := hU1) (hk := hU2) (he := by (try dsimp only [putEnv]) <;> exact rfl))
               | (apply RT.wr (h := by simp [dI, dLL, dL, addNew_zero, -addNew, hix, hrow, hv, hn, hv1, hn1']; exact Is.rfl) (he := by (try dsimp only [putEnv]) <;> exact rfl) (hh := by simp [dI, dLL, dL, addNew_zero, -addNew, hix, hrow, hv, hn, hv1, hn1']; exact Is.rfl) (hn := by exact Is.rfl) (hc := by exact Is.rfl) (hw := by exact Is.rfl)))
             exact RT.nil
           case hc => (show _ = _; kernel_rfl)
           case ht => simp [dI, dLL, dL, addNew_zero, -addNew, hix, hrow, hv, hn, hv1, hn1']; exact Is.rfl)
        | apply WP.block
        | apply WP.skip
        | apply WP.exit
        | apply WP.ret
        | refine WP.condT rfl ?_
        | refine WP.condF rfl ?_)
      have ho := stepR_out (cnt := cntc) (row := row) hG hml
      rw [← hst] at ho
      have i1 := ints_same _ ho
      have i2 := ints_same st.2.2.1 (by rw [hmem.1]; unfold MX; omega)
      simp only [dL, dB] at i1 i2
      apply WP.gen
      intro hp4 wl4 hhp hwl
      rw [← hhp] at hTw3
      subst hwl
      clear hhp hT1 hU1 hT2 hU2 hki hki1 hfr hfr1 hMz hMz1 hsame hsame1 hv hv1 hn hn1' hTw hTw2 hpz hpz1
      obtain ⟨c4, hc4⟩ : ∃ c4, c4 = c' + (r0.c - c') + (r1.c - (c' + (r0.c - c'))) := ⟨_, rfl⟩
      rw [← hc4]
      obtain ⟨s0, hT1, hv, hn, hT2, hki, hfr, _⟩ := (memory_ok (n := N2) (c := c4) hTw3.c hTw3.lic hTw3.lmc (by rw [hmem.1]; exact hlm)).caller (by intro j hj; cases hj)
      have hTw4 : Two im (hp4.sets (tWr s0 N2)) (N2 + (s0.n - N2)) 2 2 mc mgc st.2.2.1 st.2.2.2 id gd md' mgd' st.2.2.1 (stepR im mem cntd row).2.2.2 := hTw3.same (by omega) fun j hj => hfr j hj (by simp)
      obtain ⟨s1, hU1, hv1, hn1', hU2, hki1, hfr1, _⟩ := (memory_ok (n := N2 + (s0.n - N2)) (c := c4 + (s0.c - c4)) hTw4.d hTw4.lid hTw4.lmd (by rw [hmem.1]; exact hlm)).caller (by intro j hj; cases hj)
      simp only [dL] at hv hv1
      have hTw5 : Two im ((hp4.sets (tWr s0 N2)).sets (tWr s1 (N2 + (s0.n - N2)))) (N2 + (s0.n - N2) + (s1.n - (N2 + (s0.n - N2)))) 2 2 mc mgc st.2.2.1 st.2.2.2 id gd md' mgd' st.2.2.1 (stepR im mem cntd row).2.2.2 := hTw4.same (by omega) fun j hj => hfr1 j hj (by simp)
      have hnn : N2 + (s0.n - N2) + (s1.n - (N2 + (s0.n - N2))) = N2 := by omega
      rw [hnn] at hTw5
      repeat (first
        | apply WP.seq
        | (apply WP.reg
           case hR => dsimp only [prepL, prepO, List.map, List.getElem?_cons_succ, List.getElem?_cons_zero]; exact Is.rfl
           case hr =>
             repeat (first
               | (apply RT.op (h := by simp [dI, dLL, dL, addNew_zero, -addNew, hv, hv1, int_bne, i1, i2]; exact Is.rfl) (he := by (try dsimp only [putEnv]) <;> exact rfl))
               | (apply RT.call (hg := by simp; exact Is.rfl) (hfo := by simp; exact Is.rfl) (hpr := by exact Is.rfl) (hvs := by simp [dI, dLL, dL, addNew_zero, -addNew, hv, hv1, int_bne, i1, i2]; exact Is.rfl) (hcl := by simp [dI, dLL, dL, addNew_zero, -addNew, hv, hv1, int_bne, i1, i2]; exact Is.rfl) (hd := by simp [dI, dLL, dL, addNew_zero, -addNew, hv, hv1, int_bne, i1, i2]; exact Is.rfl) (hwr := by simp [dI, dLL, dL, addNew_zero, -addNew, hv, hv1, int_bne, i1, i2]; exact Is.rfl) (hlt := by simp [Is]) (he := by (try dsimp only [putEnv]) <;> exact rfl) (hh := by simp; exact Is.rfl) (hw := by exact Is.rfl))
               | (apply RT.callI (hg := by simp; exact Is.rfl) (hfo := by simp; exact Is.rfl) (hpr := by exact Is.rfl) (hvs := by simp [dI, dLL, dL, addNew_zero, -addNew, hv, hv1, int_bne, i1, i2]; exact Is.rfl) (hcl := by simp [dI, dLL, dL, addNew_zero, -addNew, hv, hv1, int_bne, i1, i2]; exact Is.rfl) (hd := hI1) (hne := hI2) (hw := hI3) (hwr := hI4) (he := by (try dsimp only [putEnv]) <;> exact rfl) (hn0 := by first | omega | simp))
               | (apply RT.callT (hg := by simp; exact Is.rfl) (hfo := by simp; exact Is.rfl) (hpr := by exact Is.rfl) (hvs := by simp [dI, dLL, dL, addNew_zero, -addNew, hv, hv1, int_bne, i1, i2]; exact Is.rfl) (hcl := by simp [dI, dLL, dL, addNew_zero, -addNew, hv, hv1, int_bne, i1, i2]; exact Is.rfl) (hd := hT1) (hk := hT2) (he := by (try dsimp only [putEnv]) <;> exact rfl))
               | (apply RT.callT (hg := by simp; exact Is.rfl) (hfo := by simp; exact Is.rfl) (hpr := by exact Is.rfl) (hvs := by simp [dI, dLL, dL, addNew_zero, -addNew, hv, hv1, int_bne, i1, i2]; exact Is.rfl) (hcl := by simp [dI, dLL, dL, addNew_zero, -addNew, hv, hv1, int_bne, i1, i2]; exact Is.rfl) (hd := hU1) (hk := hU2) (he := by (try dsimp only [putEnv]) <;> exact rfl))
               | (apply RT.wr (h := by simp [dI, dLL, dL, addNew_zero, -addNew, hv, hv1, int_bne, i1, i2]; exact Is.rfl) (he := by (try dsimp only [putEnv]) <;> exact rfl) (hh := by simp [dI, dLL, dL, addNew_zero, -addNew, hv, hv1, int_bne, i1, i2]; exact Is.rfl) (hn := by exact Is.rfl) (hc := by exact Is.rfl) (hw := by exact Is.rfl)))
             exact RT.nil
           case hc => (show _ = _; kernel_rfl)
           case ht => simp [dI, dLL, dL, addNew_zero, -addNew, hv, hv1, int_bne, i1, i2]; exact Is.rfl)
        | apply WP.block
        | apply WP.skip
        | apply WP.exit
        | apply WP.ret
        | refine WP.condT rfl ?_
        | refine WP.condF rfl ?_)
      refine loop_next (by simp [addNew_zero, -addNew, hw, hnn]; exact Is.rfl) ?_
      exact ⟨D - 1, by omega, j + 1, _, _, st.2.2.1, _, _, by omega, hmem.1, hmem.2, hTw5.same (Nat.le_refl _) (fun t ht => Hp.get_trunc _ _ _ ht), by rfl⟩
    · obtain ⟨capc, _, hCc⟩ := hTw.c.c
      have hmc := main_c (c := c') (n := N2) hCc hTw.lic hG.last (by have := hG.rl; omega)
      obtain ⟨r0, hT1, hv, hn, hT2, hki, hfr, hpz, ⟨mid2, mg2, hMz, hlt, hor⟩, hsame⟩ := (reset_ok hCc hmc hTw.lic hlm).caller (by intro j hj; have := hTw.lic; simp at hj; omega)
      obtain ⟨N3, hN3⟩ : ∃ N3, N3 = N2 + (r0.n - N2) := ⟨_, rfl⟩
      have hN3r : N3 = r0.n := by omega
      have hM3 : Mc im (hp'.sets (tWr r0 N2)) 2 2 mid2 mg2 (lastR im).ini 0 := hMz.after (n := r0.n) (by have := hTw.lic; omega) hlt hsame
      obtain ⟨s0, hU1, hv1, hn1', hU2, hki1, hfr1, _⟩ := (memory_ok (n := N2 + (r0.n - N2)) (c := c' + (r0.c - c')) hM3 (by have := hTw.lic; omega) (by omega) hlm).caller (by intro j hj; cases hj)
      simp only [dL] at hv1
      repeat (first
        | apply WP.seq
        | (apply WP.reg
           case hR => dsimp only [prepL, prepO, List.map, List.getElem?_cons_succ, List.getElem?_cons_zero]; exact Is.rfl
           case hr =>
             repeat (first
               | (apply RT.op (h := by simp [dI, dLL, dL, addNew_zero, -addNew, hv]; exact Is.rfl) (he := by (try dsimp only [putEnv]) <;> exact rfl))
               | (apply RT.call (hg := by simp; exact Is.rfl) (hfo := by simp; exact Is.rfl) (hpr := by exact Is.rfl) (hvs := by simp [dI, dLL, dL, addNew_zero, -addNew, hv]; exact Is.rfl) (hcl := by simp [dI, dLL, dL, addNew_zero, -addNew, hv]; exact Is.rfl) (hd := by simp [dI, dLL, dL, addNew_zero, -addNew, hv]; exact Is.rfl) (hwr := by simp [dI, dLL, dL, addNew_zero, -addNew, hv]; exact Is.rfl) (hlt := by simp [Is]) (he := by (try dsimp only [putEnv]) <;> exact rfl) (hh := by simp; exact Is.rfl) (hw := by exact Is.rfl))
               | (apply RT.callI (hg := by simp; exact Is.rfl) (hfo := by simp; exact Is.rfl) (hpr := by exact Is.rfl) (hvs := by simp [dI, dLL, dL, addNew_zero, -addNew, hv]; exact Is.rfl) (hcl := by simp [dI, dLL, dL, addNew_zero, -addNew, hv]; exact Is.rfl) (hd := hI1) (hne := hI2) (hw := hI3) (hwr := hI4) (he := by (try dsimp only [putEnv]) <;> exact rfl) (hn0 := by first | omega | simp))
               | (apply RT.callT (hg := by simp; exact Is.rfl) (hfo := by simp; exact Is.rfl) (hpr := by exact Is.rfl) (hvs := by simp [dI, dLL, dL, addNew_zero, -addNew, hv]; exact Is.rfl) (hcl := by simp [dI, dLL, dL, addNew_zero, -addNew, hv]; exact Is.rfl) (hd := hT1) (hk := hT2) (he := by (try dsimp only [putEnv]) <;> exact rfl))
               | (apply RT.callT (hg := by simp; exact Is.rfl) (hfo := by simp; exact Is.rfl) (hpr := by exact Is.rfl) (hvs := by simp [dI, dLL, dL, addNew_zero, -addNew, hv]; exact Is.rfl) (hcl := by simp [dI, dLL, dL, addNew_zero, -addNew, hv]; exact Is.rfl) (hd := hU1) (hk := hU2) (he := by (try dsimp only [putEnv]) <;> exact rfl))
               | (apply RT.wr (h := by simp [dI, dLL, dL, addNew_zero, -addNew, hv]; exact Is.rfl) (he := by (try dsimp only [putEnv]) <;> exact rfl) (hh := by simp [dI, dLL, dL, addNew_zero, -addNew, hv]; exact Is.rfl) (hn := by exact Is.rfl) (hc := by exact Is.rfl) (hw := by exact Is.rfl)))
             exact RT.nil
           case hc => (show _ = _; kernel_rfl)
           case ht => simp [dI, dLL, dL, addNew_zero, -addNew, hv]; exact Is.rfl)
        | apply WP.block
        | apply WP.skip
        | apply WP.exit
        | apply WP.ret
        | refine WP.condT rfl ?_
        | refine WP.condF rfl ?_)
      clear hT1 hT2
      have hM4 : Mc im ((hp'.sets (tWr r0 N2)).sets (tWr s0 (N2 + (r0.n - N2)))) 2 2 mid2 mg2 (lastR im).ini 0 := hM3.same (hfr1 _ (by have := hTw.lic; omega) (by simp)) (hfr1 _ (by omega) (by simp))
      obtain ⟨s1, hT1, hv2, hn2, hT2, hki2, hfr2, _⟩ := (count_ok (n := N2 + (r0.n - N2) + (s0.n - (N2 + (r0.n - N2)))) (c := c' + (r0.c - c') + (s0.c - (c' + (r0.c - c')))) hM4 (by have := hTw.lic; omega)).caller (by intro j hj; cases hj)
      simp only [dI] at hv2
      have i1 := ints_same (lastR im).ini (by unfold MX; omega)
      simp only [dL, dB] at i1
      repeat (first
        | apply WP.seq
        | (apply WP.reg
           case hR => dsimp only [prepL, prepO, List.map, List.getElem?_cons_succ, List.getElem?_cons_zero]; exact Is.rfl
           case hr =>
             repeat (first
               | (apply RT.op (h := by simp [dI, dLL, dL, addNew_zero, -addNew, hv1, hv2, i1, haw]; exact Is.rfl) (he := by (try dsimp only [putEnv]) <;> exact rfl))
               | (apply RT.call (hg := by simp; exact Is.rfl) (hfo := by simp; exact Is.rfl) (hpr := by exact Is.rfl) (hvs := by simp [dI, dLL, dL, addNew_zero, -addNew, hv1, hv2, i1, haw]; exact Is.rfl) (hcl := by simp [dI, dLL, dL, addNew_zero, -addNew, hv1, hv2, i1, haw]; exact Is.rfl) (hd := by simp [dI, dLL, dL, addNew_zero, -addNew, hv1, hv2, i1, haw]; exact Is.rfl) (hwr := by simp [dI, dLL, dL, addNew_zero, -addNew, hv1, hv2, i1, haw]; exact Is.rfl) (hlt := by simp [Is]) (he := by (try dsimp only [putEnv]) <;> exact rfl) (hh := by simp; exact Is.rfl) (hw := by exact Is.rfl))
               | (apply RT.callI (hg := by simp; exact Is.rfl) (hfo := by simp; exact Is.rfl) (hpr := by exact Is.rfl) (hvs := by simp [dI, dLL, dL, addNew_zero, -addNew, hv1, hv2, i1, haw]; exact Is.rfl) (hcl := by simp [dI, dLL, dL, addNew_zero, -addNew, hv1, hv2, i1, haw]; exact Is.rfl) (hd := hI1) (hne := hI2) (hw := hI3) (hwr := hI4) (he := by (try dsimp only [putEnv]) <;> exact rfl) (hn0 := by first | omega | simp))
               | (apply RT.callT (hg := by simp; exact Is.rfl) (hfo := by simp; exact Is.rfl) (hpr := by exact Is.rfl) (hvs := by simp [dI, dLL, dL, addNew_zero, -addNew, hv1, hv2, i1, haw]; exact Is.rfl) (hcl := by simp [dI, dLL, dL, addNew_zero, -addNew, hv1, hv2, i1, haw]; exact Is.rfl) (hd := hT1) (hk := hT2) (he := by (try dsimp only [putEnv]) <;> exact rfl))
               | (apply RT.callT (hg := by simp; exact Is.rfl) (hfo := by simp; exact Is.rfl) (hpr := by exact Is.rfl) (hvs := by simp [dI, dLL, dL, addNew_zero, -addNew, hv1, hv2, i1, haw]; exact Is.rfl) (hcl := by simp [dI, dLL, dL, addNew_zero, -addNew, hv1, hv2, i1, haw]; exact Is.rfl) (hd := hU1) (hk := hU2) (he := by (try dsimp only [putEnv]) <;> exact rfl))
               | (apply RT.wr (h := by simp [dI, dLL, dL, addNew_zero, -addNew, hv1, hv2, i1, haw]; exact Is.rfl) (he := by (try dsimp only [putEnv]) <;> exact rfl) (hh := by simp [dI, dLL, dL, addNew_zero, -addNew, hv1, hv2, i1, haw]; exact Is.rfl) (hn := by exact Is.rfl) (hc := by exact Is.rfl) (hw := by exact Is.rfl)))
             exact RT.nil
           case hc => (show _ = _; kernel_rfl)
           case ht => simp [dI, dLL, dL, addNew_zero, -addNew, hv1, hv2, i1, haw]; exact Is.rfl)
        | apply WP.block
        | apply WP.skip
        | apply WP.exit
        | apply WP.ret
        | refine WP.condT rfl ?_
        | refine WP.condF rfl ?_)
      show retQ _ _ _ _ _
      exact ⟨.inr rfl, _, _, rfl, rfl⟩
end Go.Ac
