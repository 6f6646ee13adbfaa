/- One step of the program's machine: all operations but calls. -/
import Derived.Test.YtofhhkkncaoneaaDoorAcBM
import Derived.Test.YtofhhkkncaoneaaDoorAcDM
import Derived.Test.YtofhhkkncaoneaaDoorAcGM
import Derived.Test.YtofhhkkncaoneaaDoorAcJM
import Derived.Test.YtofhhkkncaoneaaDoorAcMM
import Derived.Test.YtofhhkkncaoneaaDoorAcOM
import Derived.Test.YtofhhkkncaoneaaDoorAcSM
import Derived.Test.YtofhhkkncaoneaaDoorAcXM
import Derived.Test.YtofhhkkncaoneaaDoorAcUcM
import Derived.Test.YtofhhkkncaoneaaDoorCpBM
import Derived.Test.YtofhhkkncaoneaaDoorCpDM
import Derived.Test.YtofhhkkncaoneaaDoorCpE
import Derived.Test.YtofhhkkncaoneaaDoorCpIM
import Derived.Test.YtofhhkkncaoneaaDoorCpOM
import Derived.Test.YtofhhkkncaoneaaDoorCqAM
import Derived.Calls
import Derived.Orders
import Derived.Laws.World
import Derived.Laws.Sem
import Derived.Laws.Cells
import Derived.Laws.Append
import GoSem.ClaimData
import Derived.Laws.Tables
import Derived.Laws.Slices
import Derived.Laws.Strings
import Derived.Laws.Small
import Derived.Test.YtofhhkkncaoneaaDoorChecked
import Derived.KernelRfl
set_option linter.unusedVariables false
set_option linter.unusedSimpArgs false
section
set_option maxRecDepth 4000
set_option linter.unusedSimpArgs false
set_option linter.unusedVariables false
namespace Go.Ac
open Go.Proofs

theorem Hp.get_set (h : Hp) (k t : Nat) (o : Ob) : (Hp.set h k o).get t = if k = t then some o else h.get t := by
  split
  · rename_i hk; subst hk; exact Hp.get_set_self ..
  · rename_i hk; exact Hp.get_set_ne _ _ _ _ hk
theorem cI_at {l : List Int} {j : Nat} {x : Int} (h : l[j]? = some x) : (cI l)[j]? = some (V.d (D.int .i64 x)) := by
  unfold cI; simp [h, dI]
theorem cI_put {l : List Int} {j : Nat} (h : j < l.length) (v : Int) : List.take j (cI l) ++ V.d (D.int .i64 v) :: List.drop (j + 1) (cI l) = cI (l.set j v) := by
  have : cI (l.set j v) = (cI l).set j (dI v) := by unfold cI; rw [List.map_set]
  rw [this, List.set_eq_take_append_cons_drop, if_pos (by rw [cI_len]; exact h)]; rfl
theorem rgv_at {l : List Int} {j : Nat} (h : j < l.length) : l[j]? = some (rgv l j) := by
  unfold rgv; simp [h, List.getD]

/-- A call that is handed objects: what it gives, what it may write, what the memory is afterwards. -/
def Thr (f : FuncId) (vs : List V) (hp : Hp) (n c : Nat) (v : V) (ids : List Nat) (Φ : Hp → Prop) : Prop :=
  ∃ q, lim Tryd.prog Cp.cfg f vs hp n c = some q ∧ q.v = v ∧ q.n = n ∧ WI ids n hp q.wl q.hp ∧ Φ q.hp

def thrQ (fn : Func) (hp : Hp) (n : Nat) (v : V) (ids0 : List Nat) (Φ : Hp → Prop) (e : Ex) (t : St) : Prop :=
  (e = .normal ∨ e = .ret) ∧ ∃ rs ids, resultsV Tryd.prog t fn.results.toList = some rs ∧ closeT t.hp.get (tup rs) = some (v, ids) ∧ (v.flat || ids.all (fun i => Nat.ble n i)) = true ∧ WI ids0 n hp t.wl t.hp ∧ Φ (Hp.trunc n t.hp)

theorem thr_wp {f : FuncId} {fn : Func} {body : Code} {vs : List V} {hp : Hp} {n c : Nat} {v : V} {ids0 : List Nat} {Φ : Hp → Prop} (hf : Tryd.prog.funcs[f]? = some fn) (hb : fn.body = some body) (hok : (Nat.ble vs.length fn.ntmps && codeOK fn.ntmps body) = true)
    (hthr : Cp.cfg.thr f = false) (h : WP Tryd.prog Cp.cfg f body ⟨envOf 0 vs, hp, n, c, n, []⟩ (thrQ fn hp n v ids0 Φ)) : Thr f vs hp n c v ids0 Φ := by
  obtain ⟨w, t, h1, h2⟩ := lim_wpD (Q := fun w t => w = v ∧ WI ids0 n hp t.wl t.hp ∧ Φ (Hp.trunc n t.hp)) hf hb hok hthr (h.mono fun e t ⟨he, rs, ids, a1, a2, a3, a4, a5⟩ => ⟨he, rs, v, ids, a1, a2, a3, rfl, a4, a5⟩)
  exact ⟨_, h1, h2.1, rfl, h2.2.1.trunc (Nat.le_refl _), h2.2.2⟩

/-- The same, seen from the caller. -/
theorem Thr.caller {f : FuncId} {vs : List V} {hp : Hp} {n c : Nat} {v : V} {ids : List Nat} {Φ : Hp → Prop} (h : Thr f vs hp n c v ids Φ) (hids : ∀ j, j ∈ ids → j < n) :
    ∃ q, lim Tryd.prog Cp.cfg f vs hp n c = some q ∧ q.v = v ∧ q.n = n ∧ (∀ k, k ∈ (tWr q n).map (·.1) → k < n + (q.n - n)) ∧ (∀ k, k ∈ (tWr q n).map (·.1) → k ∈ ids) ∧
      (∀ j, j < n → j ∉ ids → (hp.sets (tWr q n)).get j = hp.get j) ∧ ∃ hp', Φ hp' ∧ ∀ j, j < n → (hp'.get j).isSome = true → (hp.sets (tWr q n)).get j = hp'.get j := by
  obtain ⟨q, h1, h2, h3, h4, h5⟩ := h
  have hk : ∀ k, k ∈ (tWr q n).map (·.1) → k ∈ ids ∧ k < n := fun k hk => by
    have := tWr_keys (by omega) h4 hids hk
    rcases this.1 with h | h
    · exact ⟨h, hids k h⟩
    · omega
  exact ⟨q, h1, h2, h3, fun k hk' => by have := (hk k hk').2; omega, fun k hk' => (hk k hk').1, fun j hj hn => tWr_old h4 hj hn, q.hp, h5, fun j hj hs => tWr_same h4 (by omega) hs⟩

/-- Registers, memory, counter in their objects. -/
structure Mst (hp : Hp) (rid rg mid mg kid kg : Nat) (regs mem : List Int) (cnt : Int) : Prop where
  r : hp.get rid = some ⟨rg, false, cI regs⟩
  m : hp.get mid = some ⟨mg, false, cI mem⟩
  k : hp.get kid = some ⟨kg, false, [dI cnt]⟩
theorem Mst.same {hp hp' : Hp} {rid rg mid mg kid kg : Nat} {regs mem : List Int} {cnt : Int} (h : Mst hp rid rg mid mg kid kg regs mem cnt) (h1 : hp'.get rid = hp.get rid) (h2 : hp'.get mid = hp.get mid) (h3 : hp'.get kid = hp.get kid) : Mst hp' rid rg mid mg kid kg regs mem cnt :=
  ⟨h1.trans h.r, h2.trans h.m, h3.trans h.k⟩
/-- Three objects that lie apart, all of the caller's. -/
structure Ap (n idc rid mid kid : Nat) : Prop where
  nrm : rid ≠ mid
  nrk : rid ≠ kid
  nmk : mid ≠ kid
  ncr : idc ≠ rid
  ncm : idc ≠ mid
  nck : idc ≠ kid
  lc : idc < n
  lr : rid < n
  lm : mid < n
  lk : kid < n
/-- The machine's object. -/
def CAt (im : Im) (hp : Hp) (idc gc : Nat) (rest : List V) : Prop := ∃ ro, hp.get idc = some ⟨gc, ro, V.d (.slice (encI im.enums)) :: V.d (.slice (encR im.rs)) :: rest⟩
end Go.Ac
end

section
set_option maxRecDepth 4000
set_option linter.unusedSimpArgs false
set_option linter.unusedVariables false
namespace Go.Ac
open Go.Proofs

/-- What a step comes to. -/
def StepAt (hp : Hp) (n c idc gc rid rg mid mg kid kg base M : Nat) (cap : Option Nat) (regs mem : List Int) (cnt : Int) (at_ : Nat) (i : I) (at' : Nat) (regs' mem' : List Int) (cnt' : Int) : Prop :=
  Thr 41 [.ptr idc gc 0, .agg [.osl rid rg 0 regs.length 1 (some regs.length), .osl mid mg base M 1 cap, .ptr kid kg 0], dI at_, aI i] hp n c (dI at') [rid, mid, kid] (fun hp' => Mst hp' rid rg mid mg kid kg regs' mem' cnt')

theorem cI_take (l : List Int) : (cI l).take l.length = cI l := by rw [← cI_len, List.take_length]
theorem cI_putAt (l : List Int) (k : Nat) (xs : List Int) : List.take k (cI l) ++ (cI xs ++ List.drop (k + xs.length) (cI l)) = cI (putAt l k xs) := by
  unfold cI putAt; simp
/-- Facts of places that lie apart. -/
structure ApF (n rid mid kid : Nat) : Prop where
  a1 : (n = rid) = False
  a2 : (n + 1 = rid) = False
  a3 : (n + 2 = rid) = False
  a4 : (n = mid) = False
  a5 : (n + 1 = mid) = False
  a6 : (n + 2 = mid) = False
  a7 : (n = kid) = False
  a8 : (n + 1 = kid) = False
  a9 : (n + 2 = kid) = False
  b1 : (rid = mid) = False
  b2 : (mid = rid) = False
  b3 : (rid = kid) = False
  b4 : (kid = rid) = False
  b5 : (mid = kid) = False
  b6 : (kid = mid) = False
  c1 : (rid < n + 1 + 1) = True
  c2 : (mid < n + 1 + 1) = True
  c3 : (rid < n + 1 + 1 + 1) = True
  e1 : Nat.beq (n + 2) rid = false
  e2 : Nat.beq (n + 2) n = false
  e3 : Nat.beq (n + 2) (n + 1) = false
theorem Ap.f {n idc rid mid kid : Nat} (h : Ap n idc rid mid kid) : ApF n rid mid kid := by
  obtain ⟨h1, h2, h3, h4, h5, h6, h7, h8, h9, h10⟩ := h
  refine ⟨?_, ?_, ?_, ?_, ?_, ?_, ?_, ?_, ?_, ?_, ?_, ?_, ?_, ?_, ?_, ?_, ?_, ?_, nbeq_ne (by omega), nbeq_ne (by omega), nbeq_ne (by omega)⟩ <;> simp <;> omega

section
variable {im : Im} {hp : Hp} {n c idc gc rid rg mid mg kid kg base M : Nat} {cap : Option Nat} {regs mem : List Int} {cnt : Int} {at_ : Nat}

set_option maxHeartbeats 1000000 in
theorem step_load (hA : Ap n idc rid mid kid) (hM : Mst hp rid rg mid mg kid kg regs mem cnt) (hat : at_ < 1000000) (A : Nat) (b : Int) (h1 : A < regs.length) : StepAt hp n c idc gc rid rg mid mg kid kg base M cap regs mem cnt at_ ⟨1, A, b, 0, 0⟩ (at_ + 1) (regs.set A b) mem cnt := by
  have hw : IntKind.i64.wrap ((at_ : Int) + 1) = ((at_ + 1 : Nat) : Int) := by rw [w_id'] <;> omega
  obtain ⟨a1, a2, a3, a4, a5, a6, a7, a8, a9, b1, b2, b3, b4, b5, b6, c1, c2, c3, e1, e2, e3⟩ := hA.f
  have q1 := hA.lr
  have q2 := hA.lm
  have q3 := hA.lk
  have hr := hM.r
  have hm := hM.m
  have hk := hM.k
  have h1' : (A + 1 ≤ regs.length) = True := by simp; omega
  refine thr_wp Tryd.func41 rfl (by kernel_rfl) rfl ?_
  repeat (first
    | apply WP.seq
    | (apply WP.reg
       case hR => dsimp only [prepL, prepO, List.map, List.getElem?_cons_succ, List.getElem?_cons_zero]; exact Is.rfl
       case hr =>
         repeat (first
           | (apply RT.op (h := by simp [envOf, aI, I.cells, dI, Hp.get_set, a1, a2, a3, a4, a5, a6, hr, hm, cI_len, nble_d, c1, c2, c3, -addNew, idx_lt h1, cI_put h1, h1']; exact Is.rfl) (he := by (try dsimp only [putEnv]) <;> exact rfl))
           | (apply RT.call (hg := by simp; exact Is.rfl) (hfo := by simp; exact Is.rfl) (hpr := by exact Is.rfl) (hvs := by simp [envOf, aI, I.cells, dI, Hp.get_set, a1, a2, a3, a4, a5, a6, hr, hm, cI_len, nble_d, c1, c2, c3, -addNew, idx_lt h1, cI_put h1, h1']; exact Is.rfl) (hcl := by simp [envOf, aI, I.cells, dI, Hp.get_set, a1, a2, a3, a4, a5, a6, hr, hm, cI_len, nble_d, c1, c2, c3, -addNew, idx_lt h1, cI_put h1, h1']; exact Is.rfl) (hd := by simp [envOf, aI, I.cells, dI, Hp.get_set, a1, a2, a3, a4, a5, a6, hr, hm, cI_len, nble_d, c1, c2, c3, -addNew, idx_lt h1, cI_put h1, h1']; exact Is.rfl) (hwr := by simp [envOf, aI, I.cells, dI, Hp.get_set, a1, a2, a3, a4, a5, a6, hr, hm, cI_len, nble_d, c1, c2, c3, -addNew, idx_lt h1, cI_put h1, h1']; exact Is.rfl) (hlt := by simp [Is]) (he := by (try dsimp only [putEnv]) <;> exact rfl) (hh := by simp; exact Is.rfl) (hw := by exact Is.rfl))
           | (apply RT.wr (h := by simp [envOf, aI, I.cells, dI, Hp.get_set, a1, a2, a3, a4, a5, a6, hr, hm, cI_len, nble_d, c1, c2, c3, -addNew, idx_lt h1, cI_put h1, h1']; exact Is.rfl) (he := by (try dsimp only [putEnv]) <;> exact rfl) (hh := by simp [envOf, aI, I.cells, dI, Hp.get_set, a1, a2, a3, a4, a5, a6, hr, hm, cI_len, nble_d, c1, c2, c3, -addNew, idx_lt h1, cI_put h1, h1']; exact Is.rfl) (hn := by exact Is.rfl) (hc := by exact Is.rfl) (hw := by exact Is.rfl)))
         exact RT.nil
       case hc => (show _ = _; kernel_rfl)
       case ht => simp [envOf, aI, I.cells, dI, Hp.get_set, a1, a2, a3, a4, a5, a6, hr, hm, cI_len, nble_d, c1, c2, c3, -addNew, idx_lt h1, cI_put h1, h1']; exact Is.rfl)
    | apply WP.block
    | apply WP.skip
    | apply WP.exit
    | apply WP.ret
    | refine WP.condT rfl ?_
    | refine WP.condF rfl ?_)
  exact ⟨.inr rfl, _, _, rfl, by rw [hw]; rfl, rfl, (((WI.refl.set (.inr (by omega))).set (.inr (by omega))).set (.inl (by simp))), ⟨by rw [Hp.get_trunc _ _ _ (by omega)]; simp [Hp.get_set, a1, a2, a3, a4, a5, a6, a7, a8, a9, b1, b2, b3, b4, b5, b6, hr, hm, hk], by rw [Hp.get_trunc _ _ _ (by omega)]; simp [Hp.get_set, a1, a2, a3, a4, a5, a6, a7, a8, a9, b1, b2, b3, b4, b5, b6, hr, hm, hk], by rw [Hp.get_trunc _ _ _ (by omega)]; simp [Hp.get_set, a1, a2, a3, a4, a5, a6, a7, a8, a9, b1, b2, b3, b4, b5, b6, hr, hm, hk]⟩⟩

set_option maxHeartbeats 1000000 in
theorem step_move (hA : Ap n idc rid mid kid) (hM : Mst hp rid rg mid mg kid kg regs mem cnt) (hat : at_ < 1000000) (A B : Nat) (h1 : A < regs.length) (h2 : B < regs.length) : StepAt hp n c idc gc rid rg mid mg kid kg base M cap regs mem cnt at_ ⟨2, A, B, 0, 0⟩ (at_ + 1) (regs.set A (rgv regs B)) mem cnt := by
  have hw : IntKind.i64.wrap ((at_ : Int) + 1) = ((at_ + 1 : Nat) : Int) := by rw [w_id'] <;> omega
  obtain ⟨a1, a2, a3, a4, a5, a6, a7, a8, a9, b1, b2, b3, b4, b5, b6, c1, c2, c3, e1, e2, e3⟩ := hA.f
  have q1 := hA.lr
  have q2 := hA.lm
  have q3 := hA.lk
  have hr := hM.r
  have hm := hM.m
  have hk := hM.k
  have h1' : (A + 1 ≤ regs.length) = True := by simp; omega
  have h2' := cI_at (rgv_at h2)
  refine thr_wp Tryd.func41 rfl (by kernel_rfl) rfl ?_
  repeat (first
    | apply WP.seq
    | (apply WP.reg
       case hR => dsimp only [prepL, prepO, List.map, List.getElem?_cons_succ, List.getElem?_cons_zero]; exact Is.rfl
       case hr =>
         repeat (first
           | (apply RT.op (h := by simp [envOf, aI, I.cells, dI, Hp.get_set, a1, a2, a3, a4, a5, a6, hr, hm, cI_len, nble_d, c1, c2, c3, -addNew, idx_lt h1, idx_lt h2, cI_put h1, h1', h2']; exact Is.rfl) (he := by (try dsimp only [putEnv]) <;> exact rfl))
           | (apply RT.call (hg := by simp; exact Is.rfl) (hfo := by simp; exact Is.rfl) (hpr := by exact Is.rfl) (hvs := by simp [envOf, aI, I.cells, dI, Hp.get_set, a1, a2, a3, a4, a5, a6, hr, hm, cI_len, nble_d, c1, c2, c3, -addNew, idx_lt h1, idx_lt h2, cI_put h1, h1', h2']; exact Is.rfl) (hcl := by simp [envOf, aI, I.cells, dI, Hp.get_set, a1, a2, a3, a4, a5, a6, hr, hm, cI_len, nble_d, c1, c2, c3, -addNew, idx_lt h1, idx_lt h2, cI_put h1, h1', h2']; exact Is.rfl) (hd := by simp [envOf, aI, I.cells, dI, Hp.get_set, a1, a2, a3, a4, a5, a6, hr, hm, cI_len, nble_d, c1, c2, c3, -addNew, idx_lt h1, idx_lt h2, cI_put h1, h1', h2']; exact Is.rfl) (hwr := by simp [envOf, aI, I.cells, dI, Hp.get_set, a1, a2, a3, a4, a5, a6, hr, hm, cI_len, nble_d, c1, c2, c3, -addNew, idx_lt h1, idx_lt h2, cI_put h1, h1', h2']; exact Is.rfl) (hlt := by simp [Is]) (he := by (try dsimp only [putEnv]) <;> exact rfl) (hh := by simp; exact Is.rfl) (hw := by exact Is.rfl))
           | (apply RT.wr (h := by simp [envOf, aI, I.cells, dI, Hp.get_set, a1, a2, a3, a4, a5, a6, hr, hm, cI_len, nble_d, c1, c2, c3, -addNew, idx_lt h1, idx_lt h2, cI_put h1, h1', h2']; exact Is.rfl) (he := by (try dsimp only [putEnv]) <;> exact rfl) (hh := by simp [envOf, aI, I.cells, dI, Hp.get_set, a1, a2, a3, a4, a5, a6, hr, hm, cI_len, nble_d, c1, c2, c3, -addNew, idx_lt h1, idx_lt h2, cI_put h1, h1', h2']; exact Is.rfl) (hn := by exact Is.rfl) (hc := by exact Is.rfl) (hw := by exact Is.rfl)))
         exact RT.nil
       case hc => (show _ = _; kernel_rfl)
       case ht => simp [envOf, aI, I.cells, dI, Hp.get_set, a1, a2, a3, a4, a5, a6, hr, hm, cI_len, nble_d, c1, c2, c3, -addNew, idx_lt h1, idx_lt h2, cI_put h1, h1', h2']; exact Is.rfl)
    | apply WP.block
    | apply WP.skip
    | apply WP.exit
    | apply WP.ret
    | refine WP.condT rfl ?_
    | refine WP.condF rfl ?_)
  exact ⟨.inr rfl, _, _, rfl, by rw [hw]; rfl, rfl, (((WI.refl.set (.inr (by omega))).set (.inr (by omega))).set (.inl (by simp))), ⟨by rw [Hp.get_trunc _ _ _ (by omega)]; simp [Hp.get_set, a1, a2, a3, a4, a5, a6, a7, a8, a9, b1, b2, b3, b4, b5, b6, hr, hm, hk], by rw [Hp.get_trunc _ _ _ (by omega)]; simp [Hp.get_set, a1, a2, a3, a4, a5, a6, a7, a8, a9, b1, b2, b3, b4, b5, b6, hr, hm, hk], by rw [Hp.get_trunc _ _ _ (by omega)]; simp [Hp.get_set, a1, a2, a3, a4, a5, a6, a7, a8, a9, b1, b2, b3, b4, b5, b6, hr, hm, hk]⟩⟩

set_option maxHeartbeats 1000000 in
theorem step_read (hA : Ap n idc rid mid kid) (hM : Mst hp rid rg mid mg kid kg regs mem cnt) (hat : at_ < 1000000) (A B : Nat) (h1 : A < regs.length) (h2 : B < M) (h3 : base + M ≤ mem.length) : StepAt hp n c idc gc rid rg mid mg kid kg base M cap regs mem cnt at_ ⟨3, A, B, 0, 0⟩ (at_ + 1) (regs.set A (rgv mem (base + (B : Int)))) mem cnt := by
  have hw : IntKind.i64.wrap ((at_ : Int) + 1) = ((at_ + 1 : Nat) : Int) := by rw [w_id'] <;> omega
  obtain ⟨a1, a2, a3, a4, a5, a6, a7, a8, a9, b1, b2, b3, b4, b5, b6, c1, c2, c3, e1, e2, e3⟩ := hA.f
  have q1 := hA.lr
  have q2 := hA.lm
  have q3 := hA.lk
  have hr := hM.r
  have hm := hM.m
  have hk := hM.k
  have h1' : (A + 1 ≤ regs.length) = True := by simp; omega
  have h2' := cI_at (rgv_at (l := mem) (j := base + B) (by omega))
  rw [Int.natCast_add] at h2'
  refine thr_wp Tryd.func41 rfl (by kernel_rfl) rfl ?_
  repeat (first
    | apply WP.seq
    | (apply WP.reg
       case hR => dsimp only [prepL, prepO, List.map, List.getElem?_cons_succ, List.getElem?_cons_zero]; exact Is.rfl
       case hr =>
         repeat (first
           | (apply RT.op (h := by simp [envOf, aI, I.cells, dI, Hp.get_set, a1, a2, a3, a4, a5, a6, hr, hm, cI_len, nble_d, c1, c2, c3, -addNew, idx_lt h1, idx_lt h2, cI_put h1, h1', h2']; exact Is.rfl) (he := by (try dsimp only [putEnv]) <;> exact rfl))
           | (apply RT.call (hg := by simp; exact Is.rfl) (hfo := by simp; exact Is.rfl) (hpr := by exact Is.rfl) (hvs := by simp [envOf, aI, I.cells, dI, Hp.get_set, a1, a2, a3, a4, a5, a6, hr, hm, cI_len, nble_d, c1, c2, c3, -addNew, idx_lt h1, idx_lt h2, cI_put h1, h1', h2']; exact Is.rfl) (hcl := by simp [envOf, aI, I.cells, dI, Hp.get_set, a1, a2, a3, a4, a5, a6, hr, hm, cI_len, nble_d, c1, c2, c3, -addNew, idx_lt h1, idx_lt h2, cI_put h1, h1', h2']; exact Is.rfl) (hd := by simp [envOf, aI, I.cells, dI, Hp.get_set, a1, a2, a3, a4, a5, a6, hr, hm, cI_len, nble_d, c1, c2, c3, -addNew, idx_lt h1, idx_lt h2, cI_put h1, h1', h2']; exact Is.rfl) (hwr := by simp [envOf, aI, I.cells, dI, Hp.get_set, a1, a2, a3, a4, a5, a6, hr, hm, cI_len, nble_d, c1, c2, c3, -addNew, idx_lt h1, idx_lt h2, cI_put h1, h1', h2']; exact Is.rfl) (hlt := by simp [Is]) (he := by (try dsimp only [putEnv]) <;> exact rfl) (hh := by simp; exact Is.rfl) (hw := by exact Is.rfl))
           | (apply RT.wr (h := by simp [envOf, aI, I.cells, dI, Hp.get_set, a1, a2, a3, a4, a5, a6, hr, hm, cI_len, nble_d, c1, c2, c3, -addNew, idx_lt h1, idx_lt h2, cI_put h1, h1', h2']; exact Is.rfl) (he := by (try dsimp only [putEnv]) <;> exact rfl) (hh := by simp [envOf, aI, I.cells, dI, Hp.get_set, a1, a2, a3, a4, a5, a6, hr, hm, cI_len, nble_d, c1, c2, c3, -addNew, idx_lt h1, idx_lt h2, cI_put h1, h1', h2']; exact Is.rfl) (hn := by exact Is.rfl) (hc := by exact Is.rfl) (hw := by exact Is.rfl)))
         exact RT.nil
       case hc => (show _ = _; kernel_rfl)
       case ht => simp [envOf, aI, I.cells, dI, Hp.get_set, a1, a2, a3, a4, a5, a6, hr, hm, cI_len, nble_d, c1, c2, c3, -addNew, idx_lt h1, idx_lt h2, cI_put h1, h1', h2']; exact Is.rfl)
    | apply WP.block
    | apply WP.skip
    | apply WP.exit
    | apply WP.ret
    | refine WP.condT rfl ?_
    | refine WP.condF rfl ?_)
  exact ⟨.inr rfl, _, _, rfl, by rw [hw]; rfl, rfl, (((WI.refl.set (.inr (by omega))).set (.inr (by omega))).set (.inl (by simp))), ⟨by rw [Hp.get_trunc _ _ _ (by omega)]; simp [Hp.get_set, a1, a2, a3, a4, a5, a6, a7, a8, a9, b1, b2, b3, b4, b5, b6, hr, hm, hk], by rw [Hp.get_trunc _ _ _ (by omega)]; simp [Hp.get_set, a1, a2, a3, a4, a5, a6, a7, a8, a9, b1, b2, b3, b4, b5, b6, hr, hm, hk], by rw [Hp.get_trunc _ _ _ (by omega)]; simp [Hp.get_set, a1, a2, a3, a4, a5, a6, a7, a8, a9, b1, b2, b3, b4, b5, b6, hr, hm, hk]⟩⟩

set_option maxHeartbeats 1000000 in
theorem step_write (hA : Ap n idc rid mid kid) (hM : Mst hp rid rg mid mg kid kg regs mem cnt) (hat : at_ < 1000000) (A B : Nat) (h1 : A < M) (h2 : B < regs.length) (h3 : base + M ≤ mem.length) : StepAt hp n c idc gc rid rg mid mg kid kg base M cap regs mem cnt at_ ⟨4, A, B, 0, 0⟩ (at_ + 1) regs (mem.set (base + A) (rgv regs B)) cnt := by
  have hw : IntKind.i64.wrap ((at_ : Int) + 1) = ((at_ + 1 : Nat) : Int) := by rw [w_id'] <;> omega
  obtain ⟨a1, a2, a3, a4, a5, a6, a7, a8, a9, b1, b2, b3, b4, b5, b6, c1, c2, c3, e1, e2, e3⟩ := hA.f
  have q1 := hA.lr
  have q2 := hA.lm
  have q3 := hA.lk
  have hr := hM.r
  have hm := hM.m
  have hk := hM.k
  have h1' : (base + A + 1 ≤ mem.length) = True := by simp; omega
  have h2' := cI_at (rgv_at h2)
  have h4 : base + A < mem.length := by omega
  refine thr_wp Tryd.func41 rfl (by kernel_rfl) rfl ?_
  repeat (first
    | apply WP.seq
    | (apply WP.reg
       case hR => dsimp only [prepL, prepO, List.map, List.getElem?_cons_succ, List.getElem?_cons_zero]; exact Is.rfl
       case hr =>
         repeat (first
           | (apply RT.op (h := by simp [envOf, aI, I.cells, dI, Hp.get_set, a1, a2, a3, a4, a5, a6, hr, hm, cI_len, nble_d, c1, c2, c3, -addNew, idx_lt h1, idx_lt h2, cI_put h4, h1', h2']; exact Is.rfl) (he := by (try dsimp only [putEnv]) <;> exact rfl))
           | (apply RT.call (hg := by simp; exact Is.rfl) (hfo := by simp; exact Is.rfl) (hpr := by exact Is.rfl) (hvs := by simp [envOf, aI, I.cells, dI, Hp.get_set, a1, a2, a3, a4, a5, a6, hr, hm, cI_len, nble_d, c1, c2, c3, -addNew, idx_lt h1, idx_lt h2, cI_put h4, h1', h2']; exact Is.rfl) (hcl := by simp [envOf, aI, I.cells, dI, Hp.get_set, a1, a2, a3, a4, a5, a6, hr, hm, cI_len, nble_d, c1, c2, c3, -addNew, idx_lt h1, idx_lt h2, cI_put h4, h1', h2']; exact Is.rfl) (hd := by simp [envOf, aI, I.cells, dI, Hp.get_set, a1, a2, a3, a4, a5, a6, hr, hm, cI_len, nble_d, c1, c2, c3, -addNew, idx_lt h1, idx_lt h2, cI_put h4, h1', h2']; exact Is.rfl) (hwr := by simp [envOf, aI, I.cells, dI, Hp.get_set, a1, a2, a3, a4, a5, a6, hr, hm, cI_len, nble_d, c1, c2, c3, -addNew, idx_lt h1, idx_lt h2, cI_put h4, h1', h2']; exact Is.rfl) (hlt := by simp [Is]) (he := by (try dsimp only [putEnv]) <;> exact rfl) (hh := by simp; exact Is.rfl) (hw := by exact Is.rfl))
           | (apply RT.wr (h := by simp [envOf, aI, I.cells, dI, Hp.get_set, a1, a2, a3, a4, a5, a6, hr, hm, cI_len, nble_d, c1, c2, c3, -addNew, idx_lt h1, idx_lt h2, cI_put h4, h1', h2']; exact Is.rfl) (he := by (try dsimp only [putEnv]) <;> exact rfl) (hh := by simp [envOf, aI, I.cells, dI, Hp.get_set, a1, a2, a3, a4, a5, a6, hr, hm, cI_len, nble_d, c1, c2, c3, -addNew, idx_lt h1, idx_lt h2, cI_put h4, h1', h2']; exact Is.rfl) (hn := by exact Is.rfl) (hc := by exact Is.rfl) (hw := by exact Is.rfl)))
         exact RT.nil
       case hc => (show _ = _; kernel_rfl)
       case ht => simp [envOf, aI, I.cells, dI, Hp.get_set, a1, a2, a3, a4, a5, a6, hr, hm, cI_len, nble_d, c1, c2, c3, -addNew, idx_lt h1, idx_lt h2, cI_put h4, h1', h2']; exact Is.rfl)
    | apply WP.block
    | apply WP.skip
    | apply WP.exit
    | apply WP.ret
    | refine WP.condT rfl ?_
    | refine WP.condF rfl ?_)
  exact ⟨.inr rfl, _, _, rfl, by rw [hw]; rfl, rfl, (((WI.refl.set (.inr (by omega))).set (.inr (by omega))).set (.inl (by simp))), ⟨by rw [Hp.get_trunc _ _ _ (by omega)]; simp [Hp.get_set, a1, a2, a3, a4, a5, a6, a7, a8, a9, b1, b2, b3, b4, b5, b6, hr, hm, hk], by rw [Hp.get_trunc _ _ _ (by omega)]; simp [Hp.get_set, a1, a2, a3, a4, a5, a6, a7, a8, a9, b1, b2, b3, b4, b5, b6, hr, hm, hk], by rw [Hp.get_trunc _ _ _ (by omega)]; simp [Hp.get_set, a1, a2, a3, a4, a5, a6, a7, a8, a9, b1, b2, b3, b4, b5, b6, hr, hm, hk]⟩⟩

set_option maxHeartbeats 1000000 in
theorem step_jump (hA : Ap n idc rid mid kid) (hM : Mst hp rid rg mid mg kid kg regs mem cnt) (hat : at_ < 1000000) (B : Nat) : StepAt hp n c idc gc rid rg mid mg kid kg base M cap regs mem cnt at_ ⟨7, 0, B, 0, 0⟩ B regs mem cnt := by
  have hw : IntKind.i64.wrap ((at_ : Int) + 1) = ((at_ + 1 : Nat) : Int) := by rw [w_id'] <;> omega
  obtain ⟨a1, a2, a3, a4, a5, a6, a7, a8, a9, b1, b2, b3, b4, b5, b6, c1, c2, c3, e1, e2, e3⟩ := hA.f
  have q1 := hA.lr
  have q2 := hA.lm
  have q3 := hA.lk
  have hr := hM.r
  have hm := hM.m
  have hk := hM.k
  refine thr_wp Tryd.func41 rfl (by kernel_rfl) rfl ?_
  repeat (first
    | apply WP.seq
    | (apply WP.reg
       case hR => dsimp only [prepL, prepO, List.map, List.getElem?_cons_succ, List.getElem?_cons_zero]; exact Is.rfl
       case hr =>
         repeat (first
           | (apply RT.op (h := by simp [envOf, aI, I.cells, dI, Hp.get_set, a1, a2, a3, a4, a5, a6, hr, hm, cI_len, nble_d, c1, c2, c3, -addNew]; exact Is.rfl) (he := by (try dsimp only [putEnv]) <;> exact rfl))
           | (apply RT.call (hg := by simp; exact Is.rfl) (hfo := by simp; exact Is.rfl) (hpr := by exact Is.rfl) (hvs := by simp [envOf, aI, I.cells, dI, Hp.get_set, a1, a2, a3, a4, a5, a6, hr, hm, cI_len, nble_d, c1, c2, c3, -addNew]; exact Is.rfl) (hcl := by simp [envOf, aI, I.cells, dI, Hp.get_set, a1, a2, a3, a4, a5, a6, hr, hm, cI_len, nble_d, c1, c2, c3, -addNew]; exact Is.rfl) (hd := by simp [envOf, aI, I.cells, dI, Hp.get_set, a1, a2, a3, a4, a5, a6, hr, hm, cI_len, nble_d, c1, c2, c3, -addNew]; exact Is.rfl) (hwr := by simp [envOf, aI, I.cells, dI, Hp.get_set, a1, a2, a3, a4, a5, a6, hr, hm, cI_len, nble_d, c1, c2, c3, -addNew]; exact Is.rfl) (hlt := by simp [Is]) (he := by (try dsimp only [putEnv]) <;> exact rfl) (hh := by simp; exact Is.rfl) (hw := by exact Is.rfl))
           | (apply RT.wr (h := by simp [envOf, aI, I.cells, dI, Hp.get_set, a1, a2, a3, a4, a5, a6, hr, hm, cI_len, nble_d, c1, c2, c3, -addNew]; exact Is.rfl) (he := by (try dsimp only [putEnv]) <;> exact rfl) (hh := by simp [envOf, aI, I.cells, dI, Hp.get_set, a1, a2, a3, a4, a5, a6, hr, hm, cI_len, nble_d, c1, c2, c3, -addNew]; exact Is.rfl) (hn := by exact Is.rfl) (hc := by exact Is.rfl) (hw := by exact Is.rfl)))
         exact RT.nil
       case hc => (show _ = _; kernel_rfl)
       case ht => simp [envOf, aI, I.cells, dI, Hp.get_set, a1, a2, a3, a4, a5, a6, hr, hm, cI_len, nble_d, c1, c2, c3, -addNew]; exact Is.rfl)
    | apply WP.block
    | apply WP.skip
    | apply WP.exit
    | apply WP.ret
    | refine WP.condT rfl ?_
    | refine WP.condF rfl ?_)
  exact ⟨.inr rfl, _, _, rfl, rfl, rfl, ((WI.refl.set (.inr (by omega))).set (.inr (by omega))), ⟨by rw [Hp.get_trunc _ _ _ (by omega)]; simp [Hp.get_set, a1, a2, a3, a4, a5, a6, a7, a8, a9, b1, b2, b3, b4, b5, b6, hr, hm, hk], by rw [Hp.get_trunc _ _ _ (by omega)]; simp [Hp.get_set, a1, a2, a3, a4, a5, a6, a7, a8, a9, b1, b2, b3, b4, b5, b6, hr, hm, hk], by rw [Hp.get_trunc _ _ _ (by omega)]; simp [Hp.get_set, a1, a2, a3, a4, a5, a6, a7, a8, a9, b1, b2, b3, b4, b5, b6, hr, hm, hk]⟩⟩

set_option maxHeartbeats 1000000 in
theorem step_zero (hA : Ap n idc rid mid kid) (hM : Mst hp rid rg mid mg kid kg regs mem cnt) (hat : at_ < 1000000) (A B : Nat) (h1 : A < regs.length) : StepAt hp n c idc gc rid rg mid mg kid kg base M cap regs mem cnt at_ ⟨8, A, B, 0, 0⟩ (if rgv regs A = 0 then B else at_ + 1) regs mem cnt := by
  have hw : IntKind.i64.wrap ((at_ : Int) + 1) = ((at_ + 1 : Nat) : Int) := by rw [w_id'] <;> omega
  obtain ⟨a1, a2, a3, a4, a5, a6, a7, a8, a9, b1, b2, b3, b4, b5, b6, c1, c2, c3, e1, e2, e3⟩ := hA.f
  have q1 := hA.lr
  have q2 := hA.lm
  have q3 := hA.lk
  have hr := hM.r
  have hm := hM.m
  have hk := hM.k
  have h1' := cI_at (rgv_at h1)
  refine thr_wp Tryd.func41 rfl (by kernel_rfl) rfl ?_
  by_cases hz : rgv regs A = 0
  · have hz' : (rgv regs A == 0) = true := by simp [hz]
    repeat (first
      | apply WP.seq
      | (apply WP.reg
         case hR => dsimp only [prepL, prepO, List.map, List.getElem?_cons_succ, List.getElem?_cons_zero]; exact Is.rfl
         case hr =>
           repeat (first
             | (apply RT.op (h := by simp [envOf, aI, I.cells, dI, Hp.get_set, a1, a2, a3, a4, a5, a6, hr, hm, cI_len, nble_d, c1, c2, c3, -addNew, idx_lt h1, h1', hz', hz]; exact Is.rfl) (he := by (try dsimp only [putEnv]) <;> exact rfl))
             | (apply RT.call (hg := by simp; exact Is.rfl) (hfo := by simp; exact Is.rfl) (hpr := by exact Is.rfl) (hvs := by simp [envOf, aI, I.cells, dI, Hp.get_set, a1, a2, a3, a4, a5, a6, hr, hm, cI_len, nble_d, c1, c2, c3, -addNew, idx_lt h1, h1', hz', hz]; exact Is.rfl) (hcl := by simp [envOf, aI, I.cells, dI, Hp.get_set, a1, a2, a3, a4, a5, a6, hr, hm, cI_len, nble_d, c1, c2, c3, -addNew, idx_lt h1, h1', hz', hz]; exact Is.rfl) (hd := by simp [envOf, aI, I.cells, dI, Hp.get_set, a1, a2, a3, a4, a5, a6, hr, hm, cI_len, nble_d, c1, c2, c3, -addNew, idx_lt h1, h1', hz', hz]; exact Is.rfl) (hwr := by simp [envOf, aI, I.cells, dI, Hp.get_set, a1, a2, a3, a4, a5, a6, hr, hm, cI_len, nble_d, c1, c2, c3, -addNew, idx_lt h1, h1', hz', hz]; exact Is.rfl) (hlt := by simp [Is]) (he := by (try dsimp only [putEnv]) <;> exact rfl) (hh := by simp; exact Is.rfl) (hw := by exact Is.rfl))
             | (apply RT.wr (h := by simp [envOf, aI, I.cells, dI, Hp.get_set, a1, a2, a3, a4, a5, a6, hr, hm, cI_len, nble_d, c1, c2, c3, -addNew, idx_lt h1, h1', hz', hz]; exact Is.rfl) (he := by (try dsimp only [putEnv]) <;> exact rfl) (hh := by simp [envOf, aI, I.cells, dI, Hp.get_set, a1, a2, a3, a4, a5, a6, hr, hm, cI_len, nble_d, c1, c2, c3, -addNew, idx_lt h1, h1', hz', hz]; exact Is.rfl) (hn := by exact Is.rfl) (hc := by exact Is.rfl) (hw := by exact Is.rfl)))
           exact RT.nil
         case hc => (show _ = _; kernel_rfl)
         case ht => simp [envOf, aI, I.cells, dI, Hp.get_set, a1, a2, a3, a4, a5, a6, hr, hm, cI_len, nble_d, c1, c2, c3, -addNew, idx_lt h1, h1', hz', hz]; exact Is.rfl)
      | apply WP.block
      | apply WP.skip
      | apply WP.exit
      | apply WP.ret
      | refine WP.condT rfl ?_
      | refine WP.condF rfl ?_)
    rw [if_pos hz]
    exact ⟨.inr rfl, _, _, rfl, rfl, rfl, ((WI.refl.set (.inr (by omega))).set (.inr (by omega))), ⟨by rw [Hp.get_trunc _ _ _ (by omega)]; simp [Hp.get_set, a1, a2, a3, a4, a5, a6, a7, a8, a9, b1, b2, b3, b4, b5, b6, hr, hm, hk], by rw [Hp.get_trunc _ _ _ (by omega)]; simp [Hp.get_set, a1, a2, a3, a4, a5, a6, a7, a8, a9, b1, b2, b3, b4, b5, b6, hr, hm, hk], by rw [Hp.get_trunc _ _ _ (by omega)]; simp [Hp.get_set, a1, a2, a3, a4, a5, a6, a7, a8, a9, b1, b2, b3, b4, b5, b6, hr, hm, hk]⟩⟩
  · repeat (first
      | apply WP.seq
      | (apply WP.reg
         case hR => dsimp only [prepL, prepO, List.map, List.getElem?_cons_succ, List.getElem?_cons_zero]; exact Is.rfl
         case hr =>
           repeat (first
             | (apply RT.op (h := by simp [envOf, aI, I.cells, dI, Hp.get_set, a1, a2, a3, a4, a5, a6, hr, hm, cI_len, nble_d, c1, c2, c3, -addNew, idx_lt h1, h1', hz, int_beq]; exact Is.rfl) (he := by (try dsimp only [putEnv]) <;> exact rfl))
             | (apply RT.call (hg := by simp; exact Is.rfl) (hfo := by simp; exact Is.rfl) (hpr := by exact Is.rfl) (hvs := by simp [envOf, aI, I.cells, dI, Hp.get_set, a1, a2, a3, a4, a5, a6, hr, hm, cI_len, nble_d, c1, c2, c3, -addNew, idx_lt h1, h1', hz, int_beq]; exact Is.rfl) (hcl := by simp [envOf, aI, I.cells, dI, Hp.get_set, a1, a2, a3, a4, a5, a6, hr, hm, cI_len, nble_d, c1, c2, c3, -addNew, idx_lt h1, h1', hz, int_beq]; exact Is.rfl) (hd := by simp [envOf, aI, I.cells, dI, Hp.get_set, a1, a2, a3, a4, a5, a6, hr, hm, cI_len, nble_d, c1, c2, c3, -addNew, idx_lt h1, h1', hz, int_beq]; exact Is.rfl) (hwr := by simp [envOf, aI, I.cells, dI, Hp.get_set, a1, a2, a3, a4, a5, a6, hr, hm, cI_len, nble_d, c1, c2, c3, -addNew, idx_lt h1, h1', hz, int_beq]; exact Is.rfl) (hlt := by simp [Is]) (he := by (try dsimp only [putEnv]) <;> exact rfl) (hh := by simp; exact Is.rfl) (hw := by exact Is.rfl))
             | (apply RT.wr (h := by simp [envOf, aI, I.cells, dI, Hp.get_set, a1, a2, a3, a4, a5, a6, hr, hm, cI_len, nble_d, c1, c2, c3, -addNew, idx_lt h1, h1', hz, int_beq]; exact Is.rfl) (he := by (try dsimp only [putEnv]) <;> exact rfl) (hh := by simp [envOf, aI, I.cells, dI, Hp.get_set, a1, a2, a3, a4, a5, a6, hr, hm, cI_len, nble_d, c1, c2, c3, -addNew, idx_lt h1, h1', hz, int_beq]; exact Is.rfl) (hn := by exact Is.rfl) (hc := by exact Is.rfl) (hw := by exact Is.rfl)))
           exact RT.nil
         case hc => (show _ = _; kernel_rfl)
         case ht => simp [envOf, aI, I.cells, dI, Hp.get_set, a1, a2, a3, a4, a5, a6, hr, hm, cI_len, nble_d, c1, c2, c3, -addNew, idx_lt h1, h1', hz, int_beq]; exact Is.rfl)
      | apply WP.block
      | apply WP.skip
      | apply WP.exit
      | apply WP.ret
      | refine WP.condT rfl ?_
      | refine WP.condF rfl ?_)
    rw [if_neg hz]
    exact ⟨.inr rfl, _, _, rfl, by rw [hw]; rfl, rfl, ((WI.refl.set (.inr (by omega))).set (.inr (by omega))), ⟨by rw [Hp.get_trunc _ _ _ (by omega)]; simp [Hp.get_set, a1, a2, a3, a4, a5, a6, a7, a8, a9, b1, b2, b3, b4, b5, b6, hr, hm, hk], by rw [Hp.get_trunc _ _ _ (by omega)]; simp [Hp.get_set, a1, a2, a3, a4, a5, a6, a7, a8, a9, b1, b2, b3, b4, b5, b6, hr, hm, hk], by rw [Hp.get_trunc _ _ _ (by omega)]; simp [Hp.get_set, a1, a2, a3, a4, a5, a6, a7, a8, a9, b1, b2, b3, b4, b5, b6, hr, hm, hk]⟩⟩

set_option maxHeartbeats 1000000 in
theorem step_unary (hA : Ap n idc rid mid kid) (hM : Mst hp rid rg mid mg kid kg regs mem cnt) (hat : at_ < 1000000) (A B : Nat) (d : Int) (h1 : A < regs.length) (h2 : B < regs.length) (h4 : d = 1 ∨ d = 2) : StepAt hp n c idc gc rid rg mid mg kid kg base M cap regs mem cnt at_ ⟨5, A, B, d, 0⟩ (at_ + 1) (regs.set A (apR d [rgv regs B])) mem cnt := by
  have hw : IntKind.i64.wrap ((at_ : Int) + 1) = ((at_ + 1 : Nat) : Int) := by rw [w_id'] <;> omega
  obtain ⟨a1, a2, a3, a4, a5, a6, a7, a8, a9, b1, b2, b3, b4, b5, b6, c1, c2, c3, e1, e2, e3⟩ := hA.f
  have q1 := hA.lr
  have q2 := hA.lm
  have q3 := hA.lk
  have hr := hM.r
  have hm := hM.m
  have hk := hM.k
  have h1' : (A + 1 ≤ regs.length) = True := by simp; omega
  have h2' := cI_at (rgv_at h2)
  have hd := mapply_den d (by rcases h4 with rfl | rfl <;> simp [IsOp]) [rgv regs B] (by rcases h4 with rfl | rfl <;> rfl)
  simp only [dI, dL, encI, ni, List.map_cons, List.map_nil] at hd
  refine thr_wp Tryd.func41 rfl (by kernel_rfl) rfl ?_
  repeat (first
    | apply WP.seq
    | (apply WP.reg
       case hR => dsimp only [prepL, prepO, List.map, List.getElem?_cons_succ, List.getElem?_cons_zero]; exact Is.rfl
       case hr =>
         repeat (first
           | (apply RT.op (h := by simp [envOf, aI, I.cells, dI, Hp.get_set, a1, a2, a3, a4, a5, a6, hr, hm, cI_len, nble_d, c1, c2, c3, -addNew, idx_lt h1, idx_lt h2, cI_put h1, h1', h2', hd, toD_dep, toDs, chunk, closeParts, cl2, fillV]; exact Is.rfl) (he := by (try dsimp only [putEnv]) <;> exact rfl))
           | (apply RT.call (hg := by simp; exact Is.rfl) (hfo := by simp; exact Is.rfl) (hpr := by exact Is.rfl) (hvs := by simp [envOf, aI, I.cells, dI, Hp.get_set, a1, a2, a3, a4, a5, a6, hr, hm, cI_len, nble_d, c1, c2, c3, -addNew, idx_lt h1, idx_lt h2, cI_put h1, h1', h2', hd, toD_dep, toDs, chunk, closeParts, cl2, fillV]; exact Is.rfl) (hcl := by simp [envOf, aI, I.cells, dI, Hp.get_set, a1, a2, a3, a4, a5, a6, hr, hm, cI_len, nble_d, c1, c2, c3, -addNew, idx_lt h1, idx_lt h2, cI_put h1, h1', h2', hd, toD_dep, toDs, chunk, closeParts, cl2, fillV]; exact Is.rfl) (hd := by simp [envOf, aI, I.cells, dI, Hp.get_set, a1, a2, a3, a4, a5, a6, hr, hm, cI_len, nble_d, c1, c2, c3, -addNew, idx_lt h1, idx_lt h2, cI_put h1, h1', h2', hd, toD_dep, toDs, chunk, closeParts, cl2, fillV]; exact Is.rfl) (hwr := by simp [envOf, aI, I.cells, dI, Hp.get_set, a1, a2, a3, a4, a5, a6, hr, hm, cI_len, nble_d, c1, c2, c3, -addNew, idx_lt h1, idx_lt h2, cI_put h1, h1', h2', hd, toD_dep, toDs, chunk, closeParts, cl2, fillV]; exact Is.rfl) (hlt := by simp [Is]) (he := by (try dsimp only [putEnv]) <;> exact rfl) (hh := by simp; exact Is.rfl) (hw := by exact Is.rfl))
           | (apply RT.wr (h := by simp [envOf, aI, I.cells, dI, Hp.get_set, a1, a2, a3, a4, a5, a6, hr, hm, cI_len, nble_d, c1, c2, c3, -addNew, idx_lt h1, idx_lt h2, cI_put h1, h1', h2', hd, toD_dep, toDs, chunk, closeParts, cl2, fillV]; exact Is.rfl) (he := by (try dsimp only [putEnv]) <;> exact rfl) (hh := by simp [envOf, aI, I.cells, dI, Hp.get_set, a1, a2, a3, a4, a5, a6, hr, hm, cI_len, nble_d, c1, c2, c3, -addNew, idx_lt h1, idx_lt h2, cI_put h1, h1', h2', hd, toD_dep, toDs, chunk, closeParts, cl2, fillV]; exact Is.rfl) (hn := by exact Is.rfl) (hc := by exact Is.rfl) (hw := by exact Is.rfl)))
         exact RT.nil
       case hc => first | (refine checkR_un [(0, 2), (1, 2), (0, 3), (1, 3), (0, 4), (1, 4), (2, 4), (3, 4), (0, 5), (1, 5), (2, 5), (3, 5), (0, 6), (1, 6), (2, 6), (3, 6), (4, 6), (5, 6), (0, 7), (1, 7), (2, 7), (3, 7), (4, 7), (5, 7), (0, 8), (1, 8), (2, 8), (3, 8), (4, 8), (5, 8), (6, 8), (7, 8), (0, 9), (1, 9), (2, 9), (3, 9), (4, 9), (5, 9), (6, 9), (7, 9), (0, 10), (1, 10), (2, 10), (3, 10), (4, 10), (5, 10), (0, 11), (1, 11), (2, 11), (3, 11), (4, 11), (5, 11), (0, 12), (1, 12), (2, 12), (3, 12), (4, 12), (5, 12), (0, 13), (1, 13), (2, 13), (3, 13)] (by kernel_rfl) (by kernel_rfl) rfl ?_; simp [memA, disj, e1, e2, e3]; done) | (show _ = _; kernel_rfl)
       case ht => simp [envOf, aI, I.cells, dI, Hp.get_set, a1, a2, a3, a4, a5, a6, hr, hm, cI_len, nble_d, c1, c2, c3, -addNew, idx_lt h1, idx_lt h2, cI_put h1, h1', h2', hd, toD_dep, toDs, chunk, closeParts, cl2, fillV]; exact Is.rfl)
    | apply WP.block
    | apply WP.skip
    | apply WP.exit
    | apply WP.ret
    | refine WP.condT rfl ?_
    | refine WP.condF rfl ?_)
  exact ⟨.inr rfl, _, _, rfl, by rw [hw]; rfl, rfl, ((((WI.refl.set (.inr (by omega))).set (.inr (by omega))).set (.inr (by omega))).set (.inl (by simp))), ⟨by rw [Hp.get_trunc _ _ _ (by omega)]; simp [Hp.get_set, a1, a2, a3, a4, a5, a6, a7, a8, a9, b1, b2, b3, b4, b5, b6, hr, hm, hk], by rw [Hp.get_trunc _ _ _ (by omega)]; simp [Hp.get_set, a1, a2, a3, a4, a5, a6, a7, a8, a9, b1, b2, b3, b4, b5, b6, hr, hm, hk], by rw [Hp.get_trunc _ _ _ (by omega)]; simp [Hp.get_set, a1, a2, a3, a4, a5, a6, a7, a8, a9, b1, b2, b3, b4, b5, b6, hr, hm, hk]⟩⟩

set_option maxHeartbeats 1000000 in
theorem step_apply (hA : Ap n idc rid mid kid) (hM : Mst hp rid rg mid mg kid kg regs mem cnt) (hat : at_ < 1000000) (A B C : Nat) (d : Int) (h1 : A < regs.length) (h2 : B < regs.length) (h3 : C < regs.length) (h4 : 3 ≤ d) (h5 : d ≤ 16) : StepAt hp n c idc gc rid rg mid mg kid kg base M cap regs mem cnt at_ ⟨6, A, B, C, d⟩ (at_ + 1) (regs.set A (apR d [rgv regs B, rgv regs C])) mem cnt := by
  have hw : IntKind.i64.wrap ((at_ : Int) + 1) = ((at_ + 1 : Nat) : Int) := by rw [w_id'] <;> omega
  obtain ⟨a1, a2, a3, a4, a5, a6, a7, a8, a9, b1, b2, b3, b4, b5, b6, c1, c2, c3, e1, e2, e3⟩ := hA.f
  have q1 := hA.lr
  have q2 := hA.lm
  have q3 := hA.lk
  have hr := hM.r
  have hm := hM.m
  have hk := hM.k
  have h1' : (A + 1 ≤ regs.length) = True := by simp; omega
  have h2' := cI_at (rgv_at h2)
  have h3' := cI_at (rgv_at h3)
  have hd := mapply_den d (isOp_of (by omega) h5) [rgv regs B, rgv regs C] (by unfold ar; rw [if_neg (by omega)]; rfl)
  simp only [dI, dL, encI, ni, List.map_cons, List.map_nil] at hd
  refine thr_wp Tryd.func41 rfl (by kernel_rfl) rfl ?_
  repeat (first
    | apply WP.seq
    | (apply WP.reg
       case hR => dsimp only [prepL, prepO, List.map, List.getElem?_cons_succ, List.getElem?_cons_zero]; exact Is.rfl
       case hr =>
         repeat (first
           | (apply RT.op (h := by simp [envOf, aI, I.cells, dI, Hp.get_set, a1, a2, a3, a4, a5, a6, hr, hm, cI_len, nble_d, c1, c2, c3, -addNew, idx_lt h1, idx_lt h2, idx_lt h3, cI_put h1, h1', h2', h3', hd, toD_dep, toDs, chunk, closeParts, cl2, fillV]; exact Is.rfl) (he := by (try dsimp only [putEnv]) <;> exact rfl))
           | (apply RT.call (hg := by simp; exact Is.rfl) (hfo := by simp; exact Is.rfl) (hpr := by exact Is.rfl) (hvs := by simp [envOf, aI, I.cells, dI, Hp.get_set, a1, a2, a3, a4, a5, a6, hr, hm, cI_len, nble_d, c1, c2, c3, -addNew, idx_lt h1, idx_lt h2, idx_lt h3, cI_put h1, h1', h2', h3', hd, toD_dep, toDs, chunk, closeParts, cl2, fillV]; exact Is.rfl) (hcl := by simp [envOf, aI, I.cells, dI, Hp.get_set, a1, a2, a3, a4, a5, a6, hr, hm, cI_len, nble_d, c1, c2, c3, -addNew, idx_lt h1, idx_lt h2, idx_lt h3, cI_put h1, h1', h2', h3', hd, toD_dep, toDs, chunk, closeParts, cl2, fillV]; exact Is.rfl) (hd := by simp [envOf, aI, I.cells, dI, Hp.get_set, a1, a2, a3, a4, a5, a6, hr, hm, cI_len, nble_d, c1, c2, c3, -addNew, idx_lt h1, idx_lt h2, idx_lt h3, cI_put h1, h1', h2', h3', hd, toD_dep, toDs, chunk, closeParts, cl2, fillV]; exact Is.rfl) (hwr := by simp [envOf, aI, I.cells, dI, Hp.get_set, a1, a2, a3, a4, a5, a6, hr, hm, cI_len, nble_d, c1, c2, c3, -addNew, idx_lt h1, idx_lt h2, idx_lt h3, cI_put h1, h1', h2', h3', hd, toD_dep, toDs, chunk, closeParts, cl2, fillV]; exact Is.rfl) (hlt := by simp [Is]) (he := by (try dsimp only [putEnv]) <;> exact rfl) (hh := by simp; exact Is.rfl) (hw := by exact Is.rfl))
           | (apply RT.wr (h := by simp [envOf, aI, I.cells, dI, Hp.get_set, a1, a2, a3, a4, a5, a6, hr, hm, cI_len, nble_d, c1, c2, c3, -addNew, idx_lt h1, idx_lt h2, idx_lt h3, cI_put h1, h1', h2', h3', hd, toD_dep, toDs, chunk, closeParts, cl2, fillV]; exact Is.rfl) (he := by (try dsimp only [putEnv]) <;> exact rfl) (hh := by simp [envOf, aI, I.cells, dI, Hp.get_set, a1, a2, a3, a4, a5, a6, hr, hm, cI_len, nble_d, c1, c2, c3, -addNew, idx_lt h1, idx_lt h2, idx_lt h3, cI_put h1, h1', h2', h3', hd, toD_dep, toDs, chunk, closeParts, cl2, fillV]; exact Is.rfl) (hn := by exact Is.rfl) (hc := by exact Is.rfl) (hw := by exact Is.rfl)))
         exact RT.nil
       case hc => first | (refine checkR_un [(0, 2), (1, 2), (0, 3), (1, 3), (0, 4), (1, 4), (2, 4), (3, 4), (0, 5), (1, 5), (2, 5), (3, 5), (0, 6), (1, 6), (2, 6), (3, 6), (4, 6), (5, 6), (0, 7), (1, 7), (2, 7), (3, 7), (4, 7), (5, 7), (0, 8), (1, 8), (2, 8), (3, 8), (4, 8), (5, 8), (6, 8), (7, 8), (0, 9), (1, 9), (2, 9), (3, 9), (4, 9), (5, 9), (6, 9), (7, 9), (0, 10), (1, 10), (2, 10), (3, 10), (4, 10), (5, 10), (0, 11), (1, 11), (2, 11), (3, 11), (4, 11), (5, 11), (0, 12), (1, 12), (2, 12), (3, 12), (4, 12), (5, 12), (6, 12), (7, 12), (8, 12), (9, 12), (10, 12), (11, 12), (0, 13), (1, 13), (2, 13), (3, 13), (4, 13), (5, 13), (6, 13), (7, 13), (8, 13), (9, 13), (10, 13), (11, 13), (0, 14), (1, 14), (2, 14), (3, 14), (4, 14), (5, 14), (6, 14), (7, 14), (8, 14), (9, 14), (10, 14), (11, 14), (12, 14), (13, 14), (0, 15), (1, 15), (2, 15), (3, 15), (4, 15), (5, 15), (6, 15), (7, 15), (8, 15), (9, 15), (10, 15), (11, 15), (12, 15), (13, 15), (0, 16), (1, 16), (2, 16), (3, 16), (4, 16), (5, 16), (6, 16), (7, 16), (8, 16), (9, 16), (10, 16), (11, 16), (0, 17), (1, 17), (2, 17), (3, 17), (4, 17), (5, 17), (6, 17), (7, 17), (8, 17), (9, 17), (10, 17), (11, 17), (0, 18), (1, 18), (2, 18), (3, 18), (4, 18), (5, 18), (0, 19), (1, 19), (2, 19), (3, 19)] (by kernel_rfl) (by kernel_rfl) rfl ?_; simp [memA, disj, e1, e2, e3]; done) | (show _ = _; kernel_rfl)
       case ht => simp [envOf, aI, I.cells, dI, Hp.get_set, a1, a2, a3, a4, a5, a6, hr, hm, cI_len, nble_d, c1, c2, c3, -addNew, idx_lt h1, idx_lt h2, idx_lt h3, cI_put h1, h1', h2', h3', hd, toD_dep, toDs, chunk, closeParts, cl2, fillV]; exact Is.rfl)
    | apply WP.block
    | apply WP.skip
    | apply WP.exit
    | apply WP.ret
    | refine WP.condT rfl ?_
    | refine WP.condF rfl ?_)
  exact ⟨.inr rfl, _, _, rfl, by rw [hw]; rfl, rfl, ((((WI.refl.set (.inr (by omega))).set (.inr (by omega))).set (.inr (by omega))).set (.inl (by simp))), ⟨by rw [Hp.get_trunc _ _ _ (by omega)]; simp [Hp.get_set, a1, a2, a3, a4, a5, a6, a7, a8, a9, b1, b2, b3, b4, b5, b6, hr, hm, hk], by rw [Hp.get_trunc _ _ _ (by omega)]; simp [Hp.get_set, a1, a2, a3, a4, a5, a6, a7, a8, a9, b1, b2, b3, b4, b5, b6, hr, hm, hk], by rw [Hp.get_trunc _ _ _ (by omega)]; simp [Hp.get_set, a1, a2, a3, a4, a5, a6, a7, a8, a9, b1, b2, b3, b4, b5, b6, hr, hm, hk]⟩⟩

set_option maxHeartbeats 1000000 in
theorem step_reset (hA : Ap n idc rid mid kid) (hM : Mst hp rid rg mid mg kid kg regs mem cnt) (hat : at_ < 1000000) (A B : Nat) (q : Rt) (hq : im.rs[A]? = some q) (hC : ∃ rest, CAt im hp idc gc rest) (h1 : B + q.ini.length ≤ M) (h3 : base + M ≤ mem.length) (hcap : (M ≤ cap.getD M) = True) : StepAt hp n c idc gc rid rg mid mg kid kg base M cap regs mem cnt at_ ⟨10, A, B, 0, 0⟩ (at_ + 1) regs (putAt mem (base + B) q.ini) cnt := by
  have hw : IntKind.i64.wrap ((at_ : Int) + 1) = ((at_ + 1 : Nat) : Int) := by rw [w_id'] <;> omega
  obtain ⟨a1, a2, a3, a4, a5, a6, a7, a8, a9, b1, b2, b3, b4, b5, b6, c1, c2, c3, e1, e2, e3⟩ := hA.f
  have q1 := hA.lr
  have q2 := hA.lm
  have q3 := hA.lk
  have hr := hM.r
  have hm := hM.m
  have hk := hM.k
  obtain ⟨rest, ro, hC⟩ := hC
  have hq' := encR_at hq
  have hix := idx_lt (by obtain ⟨h, _⟩ := List.getElem?_eq_some_iff.1 hq; exact h : A < im.rs.length)
  have hmin : min q.ini.length (M - B) = q.ini.length := by omega
  have g1 : (n = idc) = False := by have := hA.lc; simp; omega
  have g2 : (n + 1 = idc) = False := by have := hA.lc; simp; omega
  have g3 : (B ≤ M) = True := by simp; omega
  have g4 : (base + B + (M - B) ≤ mem.length) = True := by simp; omega
  refine thr_wp Tryd.func41 rfl (by kernel_rfl) rfl ?_
  repeat (first
    | apply WP.seq
    | (apply WP.reg
       case hR => dsimp only [prepL, prepO, List.map, List.getElem?_cons_succ, List.getElem?_cons_zero]; exact Is.rfl
       case hr =>
         repeat (first
           | (apply RT.op (h := by simp [envOf, aI, I.cells, dI, Hp.get_set, a1, a2, a3, a4, a5, a6, hr, hm, cI_len, nble_d, c1, c2, c3, -addNew, hq', hix, hmin, hC, Rt.cells, copyV, sliceV, bnd, rowsI, g1, g2, g3, g4, hcap, cI_take, cI_putAt]; exact Is.rfl) (he := by (try dsimp only [putEnv]) <;> exact rfl))
           | (apply RT.call (hg := by simp; exact Is.rfl) (hfo := by simp; exact Is.rfl) (hpr := by exact Is.rfl) (hvs := by simp [envOf, aI, I.cells, dI, Hp.get_set, a1, a2, a3, a4, a5, a6, hr, hm, cI_len, nble_d, c1, c2, c3, -addNew, hq', hix, hmin, hC, Rt.cells, copyV, sliceV, bnd, rowsI, g1, g2, g3, g4, hcap, cI_take, cI_putAt]; exact Is.rfl) (hcl := by simp [envOf, aI, I.cells, dI, Hp.get_set, a1, a2, a3, a4, a5, a6, hr, hm, cI_len, nble_d, c1, c2, c3, -addNew, hq', hix, hmin, hC, Rt.cells, copyV, sliceV, bnd, rowsI, g1, g2, g3, g4, hcap, cI_take, cI_putAt]; exact Is.rfl) (hd := by simp [envOf, aI, I.cells, dI, Hp.get_set, a1, a2, a3, a4, a5, a6, hr, hm, cI_len, nble_d, c1, c2, c3, -addNew, hq', hix, hmin, hC, Rt.cells, copyV, sliceV, bnd, rowsI, g1, g2, g3, g4, hcap, cI_take, cI_putAt]; exact Is.rfl) (hwr := by simp [envOf, aI, I.cells, dI, Hp.get_set, a1, a2, a3, a4, a5, a6, hr, hm, cI_len, nble_d, c1, c2, c3, -addNew, hq', hix, hmin, hC, Rt.cells, copyV, sliceV, bnd, rowsI, g1, g2, g3, g4, hcap, cI_take, cI_putAt]; exact Is.rfl) (hlt := by simp [Is]) (he := by (try dsimp only [putEnv]) <;> exact rfl) (hh := by simp; exact Is.rfl) (hw := by exact Is.rfl))
           | (apply RT.wr (h := by simp [envOf, aI, I.cells, dI, Hp.get_set, a1, a2, a3, a4, a5, a6, hr, hm, cI_len, nble_d, c1, c2, c3, -addNew, hq', hix, hmin, hC, Rt.cells, copyV, sliceV, bnd, rowsI, g1, g2, g3, g4, hcap, cI_take, cI_putAt]; exact Is.rfl) (he := by (try dsimp only [putEnv]) <;> exact rfl) (hh := by simp [envOf, aI, I.cells, dI, Hp.get_set, a1, a2, a3, a4, a5, a6, hr, hm, cI_len, nble_d, c1, c2, c3, -addNew, hq', hix, hmin, hC, Rt.cells, copyV, sliceV, bnd, rowsI, g1, g2, g3, g4, hcap, cI_take, cI_putAt]; exact Is.rfl) (hn := by exact Is.rfl) (hc := by exact Is.rfl) (hw := by exact Is.rfl)))
         exact RT.nil
       case hc => (show _ = _; kernel_rfl)
       case ht => simp [envOf, aI, I.cells, dI, Hp.get_set, a1, a2, a3, a4, a5, a6, hr, hm, cI_len, nble_d, c1, c2, c3, -addNew, hq', hix, hmin, hC, Rt.cells, copyV, sliceV, bnd, rowsI, g1, g2, g3, g4, hcap, cI_take, cI_putAt]; exact Is.rfl)
    | apply WP.block
    | apply WP.skip
    | apply WP.exit
    | apply WP.ret
    | refine WP.condT rfl ?_
    | refine WP.condF rfl ?_)
  exact ⟨.inr rfl, _, _, rfl, by rw [hw]; rfl, rfl, (((WI.refl.set (.inr (by omega))).set (.inr (by omega))).set (.inl (by simp))), ⟨by rw [Hp.get_trunc _ _ _ (by omega)]; simp [Hp.get_set, a1, a2, a3, a4, a5, a6, a7, a8, a9, b1, b2, b3, b4, b5, b6, hr, hm, hk], by rw [Hp.get_trunc _ _ _ (by omega)]; simp [Hp.get_set, a1, a2, a3, a4, a5, a6, a7, a8, a9, b1, b2, b3, b4, b5, b6, hr, hm, hk], by rw [Hp.get_trunc _ _ _ (by omega)]; simp [Hp.get_set, a1, a2, a3, a4, a5, a6, a7, a8, a9, b1, b2, b3, b4, b5, b6, hr, hm, hk]⟩⟩

end
end Go.Ac
end
