/- Sixteen-bit words; the operators of the language, on either side. -/
import Derived.Test.YtofhhkkncaoneaaDoorAcBM
import Derived.Test.YtofhhkkncaoneaaDoorAcDM
import Derived.Test.YtofhhkkncaoneaaDoorAcGM
import Derived.Test.YtofhhkkncaoneaaDoorAcJM
import Derived.Test.YtofhhkkncaoneaaDoorAcMM
import Derived.Test.YtofhhkkncaoneaaDoorAcOM
import Derived.Test.YtofhhkkncaoneaaDoorAcSM
import Derived.Test.YtofhhkkncaoneaaDoorAcXM
import Derived.Test.YtofhhkkncaoneaaDoorAcUcM
import Derived.Test.YtofhhkkncaoneaaDoorCpBM
import Derived.Calls
import Derived.Orders
import Derived.Laws.World
import Derived.Laws.Sem
import Derived.Laws.Cells
import Derived.Laws.Append
import GoSem.ClaimData
import Derived.Laws.Tables
import Derived.Laws.Slices
import Derived.Laws.Strings
import Derived.Laws.Small
import Derived.Test.YtofhhkkncaoneaaDoorChecked
import Derived.KernelRfl
set_option linter.unusedVariables false
set_option linter.unusedSimpArgs false
section
set_option linter.unusedVariables false
set_option linter.unusedSimpArgs false
namespace Go.Ac
variable {P : Program} {cfg : Cfg}

theorem WP.gen [Gl] {fid : FuncId} {code : Code} {e : Env} {hp : Hp} {n c n0 : Nat} {wl : List Nat} {Q : Ex → St → Prop}
    (h : ∀ hp' wl', hp' = hp → wl' = wl → WP P cfg fid code ⟨e, hp', n, c, n0, wl'⟩ Q) : WP P cfg fid code ⟨e, hp, n, c, n0, wl⟩ Q := h hp wl rfl rfl

theorem WP.condT [Gl] {fid : FuncId} {s : St} {q : Operand} {a b : Code} {Q : Ex → St → Prop} (hq : evalV s.env q = .d (.bool true)) (h : WP P cfg fid a s Q) : WP P cfg fid (.cond q a b) s Q :=
  WP.cond true hq (fun _ => h) (fun h => by cases h)
theorem WP.condF [Gl] {fid : FuncId} {s : St} {q : Operand} {a b : Code} {Q : Ex → St → Prop} (hq : evalV s.env q = .d (.bool false)) (h : WP P cfg fid b s Q) : WP P cfg fid (.cond q a b) s Q :=
  WP.cond false hq (fun h => by cases h) (fun _ => h)

/-- A call of a function that is handed the memory: the memory is handed back. -/
theorem lim_wp [Gl] {f : FuncId} {fn : Func} {body : Code} {vs : List V} {hp : Hp} {n c : Nat} {Q : V → St → Prop} (hf : P.funcs[f]? = some fn) (hb : fn.body = some body) (hok : (Nat.ble vs.length fn.ntmps && codeOK fn.ntmps body) = true)
    (h : WP P cfg f body ⟨envOf 0 vs, hp, n, c, n, []⟩ (fun e t => (e = .normal ∨ e = .ret) ∧ ∃ rs, resultsV P t fn.results.toList = some rs ∧ (cfg.thr f = true ∨ closeT t.hp.get (tup rs) = none) ∧ Q (tup rs) t)) :
    ∃ v t, lim P cfg f vs hp n c = some ⟨v, t.hp, t.n, t.c, t.wl⟩ ∧ Q v t := by
  obtain ⟨e, t, ⟨K, hK⟩, he, rs, hrs, ht, hq⟩ := h
  have hfin : finish (cfg.thr f) n t (tup rs) = some ⟨tup rs, t.hp, t.n, t.c, t.wl⟩ := by
    unfold finish
    rcases ht with ht | ht
    · rw [ht]; rfl
    · cases hc : cfg.thr f with
      | true => rfl
      | false => simp only [Bool.false_eq_true, if_false, ht]
  refine ⟨tup rs, t, lim_of ⟨K, fun k hk => ?_⟩, hq⟩
  unfold callF callBy
  rw [hf]
  simp only [hb, hok]
  rw [show enter vs hp n c = ⟨envOf 0 vs, hp, n, c, n, []⟩ from rfl, hK k hk]
  rcases he with rfl | rfl <;> simp only [leave, hrs, hfin]

/-- The same: its own objects are let go, its result is data. -/
theorem lim_wpD [Gl] {f : FuncId} {fn : Func} {body : Code} {vs : List V} {hp : Hp} {n c : Nat} {Q : V → St → Prop} (hf : P.funcs[f]? = some fn) (hb : fn.body = some body) (hok : (Nat.ble vs.length fn.ntmps && codeOK fn.ntmps body) = true)
    (hthr : cfg.thr f = false) (h : WP P cfg f body ⟨envOf 0 vs, hp, n, c, n, []⟩ (fun e t => (e = .normal ∨ e = .ret) ∧ ∃ rs w ids, resultsV P t fn.results.toList = some rs ∧ closeT t.hp.get (tup rs) = some (w, ids) ∧ (w.flat || ids.all (fun i => Nat.ble n i)) = true ∧ Q w t)) :
    ∃ v t, lim P cfg f vs hp n c = some ⟨v, Hp.trunc n t.hp, n, t.c, t.wl⟩ ∧ Q v t := by
  obtain ⟨e, t, ⟨K, hK⟩, he, rs, w, ids, hrs, hcl, hfl, hq⟩ := h
  have hfin : finish (cfg.thr f) n t (tup rs) = some ⟨w, Hp.trunc n t.hp, n, t.c, t.wl⟩ := by
    unfold finish
    rw [hthr]
    simp only [Bool.false_eq_true, if_false, hcl, hfl, if_true]
  refine ⟨w, t, lim_of ⟨K, fun k hk => ?_⟩, hq⟩
  unfold callF callBy
  rw [hf]
  simp only [hb, hok]
  rw [show enter vs hp n c = ⟨envOf 0 vs, hp, n, c, n, []⟩ from rfl, hK k hk]
  rcases he with rfl | rfl <;> simp only [leave, hrs, hfin]

/-! ### What has been written -/
theorem mem_addNew {n0 j : Nat} : ∀ {wr : List (Nat × Ob)} {wl : List Nat}, j ∈ addNew n0 wl wr ↔ j ∈ wl ∨ (j < n0 ∧ j ∈ wr.map (·.1))
  | [], wl => by simp [addNew]
  | (k, o) :: r, wl => by
    simp only [addNew]
    cases hb : Nat.blt k n0 with
    | true =>
      have hk : k < n0 := by rw [Nat.blt_eq] at hb; exact hb
      cases ha : wl.any (Nat.beq k) with
      | true =>
        have hin : k ∈ wl := by
          rw [List.any_eq_true] at ha
          obtain ⟨x, hx, he⟩ := ha
          rw [Nat.eq_of_beq_eq_true he]; exact hx
        simp only [mem_addNew, List.map_cons, List.mem_cons]
        constructor
        · rintro (h | ⟨h1, h2⟩)
          · exact .inl h
          · exact .inr ⟨h1, .inr h2⟩
        · rintro (h | ⟨h1, rfl | h2⟩)
          · exact .inl h
          · exact .inl hin
          · exact .inr ⟨h1, h2⟩
      | false =>
        simp only [mem_addNew, List.map_cons, List.mem_cons]
        constructor
        · rintro ((rfl | h) | ⟨h1, h2⟩)
          · exact .inr ⟨hk, .inl rfl⟩
          · exact .inl h
          · exact .inr ⟨h1, .inr h2⟩
        · rintro (h | ⟨h1, rfl | h2⟩)
          · exact .inl (.inr h)
          · exact .inl (.inl rfl)
          · exact .inr ⟨h1, h2⟩
    | false =>
      have hk : ¬ k < n0 := by intro h; rw [← Nat.blt_eq] at h; rw [hb] at h; cases h
      simp only [mem_addNew, List.map_cons, List.mem_cons]
      constructor
      · rintro (h | ⟨h1, h2⟩)
        · exact .inl h
        · exact .inr ⟨h1, .inr h2⟩
      · rintro (h | ⟨h1, rfl | h2⟩)
        · exact .inl h
        · exact absurd h1 hk
        · exact .inr ⟨h1, h2⟩

theorem Hp.get_sets_ne : ∀ (wr : List (Nat × Ob)) (h : Hp) (j : Nat), (∀ p, p ∈ wr → p.1 ≠ j) → (Hp.sets h wr).get j = h.get j
  | [], h, j, _ => rfl
  | (k, o) :: r, h, j, hn => by
    simp only [Hp.sets]
    rw [Hp.get_sets_ne r _ j fun p hp => hn p (List.mem_cons_of_mem _ hp), Hp.get_set_ne _ _ _ _ (hn (k, o) (List.mem_cons_self ..))]

theorem mem_wrOf2 {look : Look} : ∀ {ids : List Nat} {p : Nat × Ob}, p ∈ wrOf look ids ↔ p.1 ∈ ids ∧ look p.1 = some p.2 := mem_wrOf

theorem Hp.get_sets_wrOf {look : Look} : ∀ (ids : List Nat) (h : Hp) (j : Nat), (h.sets (wrOf look ids)).get j = if j ∈ ids ∧ (look j).isSome = true then look j else h.get j := by
  intro ids h j
  have e := hp_get_sets (wrOf look ids) h
  rw [e, hupd_wrOf]

/-- Only what is named, or new, has been written; and that has been noted. -/
def WI (ids0 : List Nat) (n0 : Nat) (hp0 : Hp) (wl : List Nat) (hp : Hp) : Prop := (∀ j, j ∈ wl → j ∈ ids0) ∧ ∀ j, j < n0 → j ∉ wl → hp.get j = hp0.get j

theorem WI.refl {ids0 : List Nat} {n0 : Nat} {hp : Hp} : WI ids0 n0 hp [] hp := ⟨fun j h => by simp at h, fun _ _ _ => rfl⟩
theorem WI.sets {ids0 : List Nat} {n0 : Nat} {hp0 hp : Hp} {wl : List Nat} (h : WI ids0 n0 hp0 wl hp) {wr : List (Nat × Ob)} (hw : ∀ p, p ∈ wr → p.1 ∈ ids0 ∨ n0 ≤ p.1) : WI ids0 n0 hp0 (addNew n0 wl wr) (hp.sets wr) := by
  refine ⟨fun j hj => ?_, fun j hj hn => ?_⟩
  · rcases mem_addNew.1 hj with h1 | ⟨h1, h2⟩
    · exact h.1 j h1
    · obtain ⟨p, hp, rfl⟩ := List.mem_map.1 h2
      exact (hw p hp).resolve_right (by omega)
  · rw [Hp.get_sets_ne]
    · exact h.2 j hj fun h1 => hn (mem_addNew.2 (.inl h1))
    · intro p hp he
      exact hn (mem_addNew.2 (.inr ⟨hj, List.mem_map.2 ⟨p, hp, he⟩⟩))
theorem WI.set {ids0 : List Nat} {n0 : Nat} {hp0 hp : Hp} {wl : List Nat} (h : WI ids0 n0 hp0 wl hp) {k : Nat} {o : Ob} (hk : k ∈ ids0 ∨ n0 ≤ k) : WI ids0 n0 hp0 (addNew n0 wl [(k, o)]) (hp.set k o) :=
  h.sets (wr := [(k, o)]) fun p hp => by rw [List.mem_singleton] at hp; subst hp; exact hk
theorem WI.frame {ids0 : List Nat} {n0 : Nat} {hp0 hp : Hp} {wl : List Nat} (h : WI ids0 n0 hp0 wl hp) {j : Nat} (hj : j < n0) (hn : j ∉ ids0) : hp.get j = hp0.get j := h.2 j hj fun hw => hn (h.1 j hw)
theorem WI.mono {ids0 ids1 : List Nat} {n0 : Nat} {hp0 hp : Hp} {wl : List Nat} (h : WI ids0 n0 hp0 wl hp) (hs : ∀ j, j ∈ ids0 → j ∈ ids1) : WI ids1 n0 hp0 wl hp := ⟨fun j hj => hs j (h.1 j hj), h.2⟩
theorem WI.trunc {ids0 : List Nat} {n0 m : Nat} {hp0 hp : Hp} {wl : List Nat} (h : WI ids0 n0 hp0 wl hp) (hm : n0 ≤ m) : WI ids0 n0 hp0 wl (Hp.trunc m hp) :=
  ⟨h.1, fun j hj hn => by rw [Hp.get_trunc _ _ _ (by omega)]; exact h.2 j hj hn⟩

/-- What a caller writes of what a callee has written. -/
def tWr (r : CR) (n : Nat) : List (Nat × Ob) := wrOf r.hp.get (r.wl ++ (List.range (r.n - n)).map (n + ·))

section
variable {hp0 : Hp} {n0 : Nat} {ids0 : List Nat} {r : CR}

theorem tWr_keys (hn : n0 ≤ r.n) (hw : WI ids0 n0 hp0 r.wl r.hp) (hids : ∀ j, j ∈ ids0 → j < n0) {k : Nat} (hk : k ∈ (tWr r n0).map (·.1)) : (k ∈ ids0 ∨ n0 ≤ k) ∧ k < r.n := by
  obtain ⟨p, hp, rfl⟩ := List.mem_map.1 hk
  have := (mem_wrOf2.1 hp).1
  rcases List.mem_append.1 this with h1 | h1
  · have := hw.1 _ h1
    have h2 := hids _ this
    exact ⟨.inl this, by omega⟩
  · obtain ⟨x, hx, he⟩ := List.mem_map.1 h1
    have := List.mem_range.1 hx
    rw [← he]
    exact ⟨.inr (by omega), by omega⟩

theorem tWr_same (hw : WI ids0 n0 hp0 r.wl r.hp) {j : Nat} (hj : j < r.n) (hs : (r.hp.get j).isSome = true) : (hp0.sets (tWr r n0)).get j = r.hp.get j := by
  unfold tWr
  rw [Hp.get_sets_wrOf]
  split
  · rfl
  · rename_i hn
    have h1 : j ∉ r.wl ++ (List.range (r.n - n0)).map (n0 + ·) := fun hm => hn ⟨hm, hs⟩
    rw [List.mem_append, not_or] at h1
    have h2 : j < n0 := by
      apply Classical.byContradiction
      intro hge
      exact h1.2 (List.mem_map.2 ⟨j - n0, List.mem_range.2 (by omega), by omega⟩)
    exact (hw.2 j h2 h1.1).symm

theorem tWr_old (hw : WI ids0 n0 hp0 r.wl r.hp) {j : Nat} (hj : j < n0) (hn : j ∉ ids0) : (hp0.sets (tWr r n0)).get j = hp0.get j := by
  unfold tWr
  rw [Hp.get_sets_wrOf, if_neg]
  rintro ⟨h1, _⟩
  rcases List.mem_append.1 h1 with h2 | h2
  · exact hn (hw.1 j h2)
  · obtain ⟨x, _, he⟩ := List.mem_map.1 h2
    omega
end

/-- A call that is handed objects, as a region's operation. -/
theorem RT.callT [Gl] {fid : FuncId} {rid : Nat} {fo : Operand} {args : Array Operand} {ts : Array TypeId} {dst : Option Nat} {g : Gd} {r : List PO} {e e' : Env} {hp : Hp} {n c n0 : Nat} {wl : List Nat} {f : FuncId} {caps vs : List V} {q : CR} {t : St} {qs : List Tq}
    (hg : Is (wantedP e g) (some true)) (hfo : Is (evalV e fo) (.fn f caps)) (hpr : Is (cfg.prim f) none) (hvs : Is (args.toList.map (evalV e) ++ caps) vs) (hcl : Is (closeArgs (if cfg.thr f then noLook else hp.get) vs) none) (hd : lim P cfg f vs hp n c = some q)
    (hk : ∀ k, k ∈ (tWr q n).map (·.1) → k < n + (q.n - n)) (he : putEnv e dst q.v = e') (h' : RT P cfg fid rid r ⟨e', hp.sets (tWr q n), n + (q.n - n), c + (q.c - c), n0, addNew n0 wl (tWr q n)⟩ t qs) :
    RT P cfg fid rid (⟨.call ⟨.value fo, args, ts⟩, dst, g⟩ :: r) ⟨e, hp, n, c, n0, wl⟩ t (⟨[], (tWr q n).map (·.1), true, q.c - c⟩ :: qs) := by
  unfold Is at *
  have : callR cfg (lim P cfg) hp n c f vs = some ⟨q.v, tWr q n, [], q.n - n, q.c - c, true⟩ := by
    unfold callR
    rw [hcl]
    simp only [hd]
    rfl
  refine RT.wr (wr := tWr q n) (dn := q.n - n) (dc := q.c - c) ?_ he rfl rfl rfl rfl h'
  show opP P cfg fid rid _ _ = _
  unfold opP
  simp only [hg]
  have h2 : opP0 P cfg fid rid ⟨.call ⟨.value fo, args, ts⟩, dst, g⟩ ⟨e, hp, n, c, n0, wl⟩ = some ⟨q.v, tWr q n, [], q.n - n, q.c - c, true⟩ := by
    simp only [opP0, hfo, hpr]
    rw [hvs, this]
  rw [h2]
  simp only
  rw [if_pos]
  rw [List.all_eq_true]
  intro p hp
  rw [Nat.blt_eq]
  exact hk p.1 (List.mem_map.2 ⟨p, hp, rfl⟩)

end Go.Ac
end

section
set_option maxRecDepth 4000
set_option linter.unusedSimpArgs false
set_option linter.unusedVariables false
namespace Go.Ac
open Go.Proofs

theorem ti107 : mkTI Tryd.prog 107 = some ⟨.int .i16, 1, 2, zOf 107⟩ := by kernel_rfl
attribute [simp] ti107 convV envOf

theorem den_k [Gl] {P : Program} {cfg : Cfg} {f : FuncId} {vs : List V} (K : Nat) {v : V} (h : ∀ k, callF P cfg (k + K) f vs [] 0 0 = some ⟨v, [], 0, ((callF P cfg K f vs [] 0 0).map (·.c)).getD 0, []⟩) (hv : (closeT noLook v).isSome = true) : den P cfg f vs = some v := by
  refine den_of (r := ⟨v, [], 0, ((callF P cfg K f vs [] 0 0).map (·.c)).getD 0, []⟩) ⟨K, fun k hk => ?_⟩ hv
  obtain ⟨j, rfl⟩ : ∃ j, k = j + K := ⟨k - K, by omega⟩
  exact h j

def w16 (n : Int) : Int := IntKind.i16.wrap n
theorem w16_def (n : Int) : w16 n = (n + 32768) % 65536 - 32768 := by
  simp [w16, IntKind.wrap, IntKind.signed, IntKind.bits]
  omega
theorem w16_lo (n : Int) : -32768 ≤ w16 n := by rw [w16_def]; omega
theorem w16_hi (n : Int) : w16 n ≤ 32767 := by rw [w16_def]; omega
theorem i64_w16 (n : Int) : IntKind.i64.wrap (w16 n) = w16 n := by have := w16_lo n; have := w16_hi n; rw [w_id'] <;> omega

/-! ### The program's words -/
theorem wrap_den (n : Int) : den Tryd.prog Cp.cfg 95 [dI n] = some (dI (w16 n)) := by
  rw [← i64_w16]
  exact den_k 40 (fun k => by kernel_rfl) rfl
theorem neg_den (a : Int) : den Tryd.prog Cp.cfg 89 [dI a] = some (dI (w16 (-(w16 a)))) := by
  refine den_wp Tryd.func89 rfl (by kernel_rfl) rfl rfl ?_
  have h := wrap_den a
  simp only [dI] at h
  have h1 := w16_lo a
  have h2 := w16_hi a
  have h3 := wrap_den (-(w16 a))
  simp only [dI] at h3
  have h4 : IntKind.i64.wrap (-(w16 a)) = -(w16 a) := by rw [w_id'] <;> omega
  repeat (first
    | apply WP.seq
    | (apply WP.reg
       case hR => dsimp only [prepL, prepO, List.map, List.getElem?_cons_succ, List.getElem?_cons_zero]; exact Is.rfl
       case hr =>
         repeat (first
           | (apply RT.op (h := by simp [dI, h, h3, h4]; exact Is.rfl) (he := by (try dsimp only [putEnv]) <;> exact rfl))
           | (apply RT.call (hg := by simp; exact Is.rfl) (hfo := by simp; exact Is.rfl) (hpr := by exact Is.rfl) (hvs := by simp [dI, h, h3, h4]; exact Is.rfl) (hcl := by simp [dI, h, h3, h4]; exact Is.rfl) (hd := by simp [dI, h, h3, h4]; exact Is.rfl) (hwr := by simp [dI, h, h3, h4]; exact Is.rfl) (hlt := by simp [Is]) (he := by (try dsimp only [putEnv]) <;> exact rfl) (hh := by simp; exact Is.rfl) (hw := by simp; exact Is.rfl))
           | (apply RT.wr (h := by simp [dI, h, h3, h4]; exact Is.rfl) (he := by (try dsimp only [putEnv]) <;> exact rfl) (hh := by simp [dI, h, h3, h4]; exact Is.rfl) (hn := by exact Is.rfl) (hc := by exact Is.rfl) (hw := by simp; exact Is.rfl)))
         exact RT.nil
       case hc => (show _ = _; kernel_rfl)
       case ht => simp [dI, h, h3, h4]; exact Is.rfl)
    | apply WP.block
    | apply WP.skip
    | apply WP.exit
    | apply WP.ret)
  exact ⟨.inr rfl, _, _, rfl, rfl⟩
theorem w16_add (a b : Int) : IntKind.i64.wrap (w16 a + w16 b) = w16 a + w16 b := by
  have := w16_lo a; have := w16_hi a; have := w16_lo b; have := w16_hi b
  rw [w_id'] <;> omega
theorem w16_sub (a b : Int) : IntKind.i64.wrap (w16 a - w16 b) = w16 a - w16 b := by
  have := w16_lo a; have := w16_hi a; have := w16_lo b; have := w16_hi b
  rw [w_id'] <;> omega
theorem mul_bd {x y : Int} (h1 : -32768 ≤ x) (h2 : x ≤ 32768) (h3 : -32768 ≤ y) (h4 : y ≤ 32768) : -1073741824 ≤ x * y ∧ x * y ≤ 1073741824 := by
  have a1 : x * y = (x + 32768) * (y + 32768) - 32768 * x - 32768 * y - 1073741824 := by
    rw [Int.add_mul, Int.mul_add, Int.mul_add]; omega
  have p1 : 0 ≤ (x + 32768) * (y + 32768) := Int.mul_nonneg (by omega) (by omega)
  have p2 : 0 ≤ (32768 - x) * (32768 - y) := Int.mul_nonneg (by omega) (by omega)
  have p3 : 0 ≤ (x + 32768) * (32768 - y) := Int.mul_nonneg (by omega) (by omega)
  have p4 : 0 ≤ (32768 - x) * (y + 32768) := Int.mul_nonneg (by omega) (by omega)
  rw [Int.add_mul, Int.mul_add, Int.mul_add] at p1
  rw [Int.sub_mul, Int.mul_sub, Int.mul_sub] at p2
  rw [Int.add_mul, Int.mul_sub, Int.mul_sub] at p3
  rw [Int.sub_mul, Int.mul_add, Int.mul_add] at p4
  constructor <;> omega
theorem w16_mul (a b : Int) : IntKind.i64.wrap (w16 a * w16 b) = w16 a * w16 b := by
  have h1 := w16_lo a; have h2 := w16_hi a; have h3 := w16_lo b; have h4 := w16_hi b
  have := mul_bd h1 (by omega) h3 (by omega)
  rw [w_id'] <;> omega
theorem add_den (a b : Int) : den Tryd.prog Cp.cfg 90 [dI a, dI b] = some (dI (w16 (w16 a + w16 b))) := by
  refine den_wp Tryd.func90 rfl (by kernel_rfl) rfl rfl ?_
  have h := wrap_den a
  have h' := wrap_den b
  have h3 := wrap_den (w16 a + w16 b)
  simp only [dI] at h h' h3
  have h4 : IntKind.i64.wrap (w16 a + w16 b) = w16 a + w16 b := w16_add a b
  repeat (first
    | apply WP.seq
    | (apply WP.reg
       case hR => dsimp only [prepL, prepO, List.map, List.getElem?_cons_succ, List.getElem?_cons_zero]; exact Is.rfl
       case hr =>
         repeat (first
           | (apply RT.op (h := by simp [dI, h, h', h3, h4]; exact Is.rfl) (he := by (try dsimp only [putEnv]) <;> exact rfl))
           | (apply RT.call (hg := by simp; exact Is.rfl) (hfo := by simp; exact Is.rfl) (hpr := by exact Is.rfl) (hvs := by simp [dI, h, h', h3, h4]; exact Is.rfl) (hcl := by simp [dI, h, h', h3, h4]; exact Is.rfl) (hd := by simp [dI, h, h', h3, h4]; exact Is.rfl) (hwr := by simp [dI, h, h', h3, h4]; exact Is.rfl) (hlt := by simp [Is]) (he := by (try dsimp only [putEnv]) <;> exact rfl) (hh := by simp; exact Is.rfl) (hw := by simp; exact Is.rfl))
           | (apply RT.wr (h := by simp [dI, h, h', h3, h4]; exact Is.rfl) (he := by (try dsimp only [putEnv]) <;> exact rfl) (hh := by simp [dI, h, h', h3, h4]; exact Is.rfl) (hn := by exact Is.rfl) (hc := by exact Is.rfl) (hw := by simp; exact Is.rfl)))
         exact RT.nil
       case hc => (show _ = _; kernel_rfl)
       case ht => simp [dI, h, h', h3, h4]; exact Is.rfl)
    | apply WP.block
    | apply WP.skip
    | apply WP.exit
    | apply WP.ret)
  exact ⟨.inr rfl, _, _, rfl, rfl⟩
theorem sub_den (a b : Int) : den Tryd.prog Cp.cfg 91 [dI a, dI b] = some (dI (w16 (w16 a - w16 b))) := by
  refine den_wp Tryd.func91 rfl (by kernel_rfl) rfl rfl ?_
  have h := wrap_den a
  have h' := wrap_den b
  have h3 := wrap_den (w16 a - w16 b)
  simp only [dI] at h h' h3
  have h4 : IntKind.i64.wrap (w16 a - w16 b) = w16 a - w16 b := w16_sub a b
  repeat (first
    | apply WP.seq
    | (apply WP.reg
       case hR => dsimp only [prepL, prepO, List.map, List.getElem?_cons_succ, List.getElem?_cons_zero]; exact Is.rfl
       case hr =>
         repeat (first
           | (apply RT.op (h := by simp [dI, h, h', h3, h4]; exact Is.rfl) (he := by (try dsimp only [putEnv]) <;> exact rfl))
           | (apply RT.call (hg := by simp; exact Is.rfl) (hfo := by simp; exact Is.rfl) (hpr := by exact Is.rfl) (hvs := by simp [dI, h, h', h3, h4]; exact Is.rfl) (hcl := by simp [dI, h, h', h3, h4]; exact Is.rfl) (hd := by simp [dI, h, h', h3, h4]; exact Is.rfl) (hwr := by simp [dI, h, h', h3, h4]; exact Is.rfl) (hlt := by simp [Is]) (he := by (try dsimp only [putEnv]) <;> exact rfl) (hh := by simp; exact Is.rfl) (hw := by simp; exact Is.rfl))
           | (apply RT.wr (h := by simp [dI, h, h', h3, h4]; exact Is.rfl) (he := by (try dsimp only [putEnv]) <;> exact rfl) (hh := by simp [dI, h, h', h3, h4]; exact Is.rfl) (hn := by exact Is.rfl) (hc := by exact Is.rfl) (hw := by simp; exact Is.rfl)))
         exact RT.nil
       case hc => (show _ = _; kernel_rfl)
       case ht => simp [dI, h, h', h3, h4]; exact Is.rfl)
    | apply WP.block
    | apply WP.skip
    | apply WP.exit
    | apply WP.ret)
  exact ⟨.inr rfl, _, _, rfl, rfl⟩
theorem mul_den (a b : Int) : den Tryd.prog Cp.cfg 92 [dI a, dI b] = some (dI (w16 (w16 a * w16 b))) := by
  refine den_wp Tryd.func92 rfl (by kernel_rfl) rfl rfl ?_
  have h := wrap_den a
  have h' := wrap_den b
  have h3 := wrap_den (w16 a * w16 b)
  simp only [dI] at h h' h3
  have h4 : IntKind.i64.wrap (w16 a * w16 b) = w16 a * w16 b := w16_mul a b
  repeat (first
    | apply WP.seq
    | (apply WP.reg
       case hR => dsimp only [prepL, prepO, List.map, List.getElem?_cons_succ, List.getElem?_cons_zero]; exact Is.rfl
       case hr =>
         repeat (first
           | (apply RT.op (h := by simp [dI, h, h', h3, h4]; exact Is.rfl) (he := by (try dsimp only [putEnv]) <;> exact rfl))
           | (apply RT.call (hg := by simp; exact Is.rfl) (hfo := by simp; exact Is.rfl) (hpr := by exact Is.rfl) (hvs := by simp [dI, h, h', h3, h4]; exact Is.rfl) (hcl := by simp [dI, h, h', h3, h4]; exact Is.rfl) (hd := by simp [dI, h, h', h3, h4]; exact Is.rfl) (hwr := by simp [dI, h, h', h3, h4]; exact Is.rfl) (hlt := by simp [Is]) (he := by (try dsimp only [putEnv]) <;> exact rfl) (hh := by simp; exact Is.rfl) (hw := by simp; exact Is.rfl))
           | (apply RT.wr (h := by simp [dI, h, h', h3, h4]; exact Is.rfl) (he := by (try dsimp only [putEnv]) <;> exact rfl) (hh := by simp [dI, h, h', h3, h4]; exact Is.rfl) (hn := by exact Is.rfl) (hc := by exact Is.rfl) (hw := by simp; exact Is.rfl)))
         exact RT.nil
       case hc => (show _ = _; kernel_rfl)
       case ht => simp [dI, h, h', h3, h4]; exact Is.rfl)
    | apply WP.block
    | apply WP.skip
    | apply WP.exit
    | apply WP.ret)
  exact ⟨.inr rfl, _, _, rfl, rfl⟩


def divI (a b : Int) : Int := if b = 0 then 0 else w16 (a.tdiv b)
def modI (a b : Int) : Int := if b = 0 then a else a.tmod b
theorem tdiv_bd {a b : Int} (h1 : -32768 ≤ a) (h2 : a ≤ 32767) : -32768 ≤ a.tdiv b ∧ a.tdiv b ≤ 32768 := by
  have h : (a.tdiv b).natAbs ≤ a.natAbs := by rw [Int.natAbs_tdiv]; exact Nat.div_le_self _ _
  omega
theorem div_den (a b : Int) : den Tryd.prog Cp.cfg 93 [dI a, dI b] = some (dI (divI (w16 a) (w16 b))) := by
  refine den_wp Tryd.func93 rfl (by kernel_rfl) rfl rfl ?_
  have h := wrap_den a
  have h' := wrap_den b
  have h3 := wrap_den ((w16 a).tdiv (w16 b))
  simp only [dI] at h h' h3
  have hb := tdiv_bd (b := w16 b) (w16_lo a) (w16_hi a)
  have h4 : IntKind.i64.wrap ((w16 a).tdiv (w16 b)) = (w16 a).tdiv (w16 b) := by rw [w_id'] <;> omega
  repeat (first
    | apply WP.seq
    | (apply WP.reg
       case hR => dsimp only [prepL, prepO, List.map, List.getElem?_cons_succ, List.getElem?_cons_zero]; exact Is.rfl
       case hr =>
         repeat (first
           | (apply RT.op (h := by simp [dI, h, h', h3, h4]; exact Is.rfl) (he := by (try dsimp only [putEnv]) <;> exact rfl))
           | (apply RT.call (hg := by simp; exact Is.rfl) (hfo := by simp; exact Is.rfl) (hpr := by exact Is.rfl) (hvs := by simp [dI, h, h', h3, h4]; exact Is.rfl) (hcl := by simp [dI, h, h', h3, h4]; exact Is.rfl) (hd := by simp [dI, h, h', h3, h4]; exact Is.rfl) (hwr := by simp [dI, h, h', h3, h4]; exact Is.rfl) (hlt := by simp [Is]) (he := by (try dsimp only [putEnv]) <;> exact rfl) (hh := by simp; exact Is.rfl) (hw := by simp; exact Is.rfl))
           | (apply RT.wr (h := by simp [dI, h, h', h3, h4]; exact Is.rfl) (he := by (try dsimp only [putEnv]) <;> exact rfl) (hh := by simp [dI, h, h', h3, h4]; exact Is.rfl) (hn := by exact Is.rfl) (hc := by exact Is.rfl) (hw := by simp; exact Is.rfl)))
         exact RT.nil
       case hc => (show _ = _; kernel_rfl)
       case ht => simp [dI, h, h', h3, h4]; exact Is.rfl)
    | apply WP.block
    | apply WP.skip
    | apply WP.exit
    | apply WP.ret)
  show WP _ _ _ _ _ _
  refine WP.cond _ rfl (fun hb => ?_) (fun hb => ?_)
  · simp at hb
    repeat (first
      | apply WP.seq
      | (apply WP.reg
         case hR => dsimp only [prepL, prepO, List.map, List.getElem?_cons_succ, List.getElem?_cons_zero]; exact Is.rfl
         case hr =>
           repeat (first
             | (apply RT.op (h := by simp; exact Is.rfl) (he := by (try dsimp only [putEnv]) <;> exact rfl))
             | (apply RT.call (hg := by simp; exact Is.rfl) (hfo := by simp; exact Is.rfl) (hpr := by exact Is.rfl) (hvs := by simp; exact Is.rfl) (hcl := by simp; exact Is.rfl) (hd := by simp; exact Is.rfl) (hwr := by simp; exact Is.rfl) (hlt := by simp [Is]) (he := by (try dsimp only [putEnv]) <;> exact rfl) (hh := by simp; exact Is.rfl) (hw := by simp; exact Is.rfl))
             | (apply RT.wr (h := by simp; exact Is.rfl) (he := by (try dsimp only [putEnv]) <;> exact rfl) (hh := by simp; exact Is.rfl) (hn := by exact Is.rfl) (hc := by exact Is.rfl) (hw := by simp; exact Is.rfl)))
           exact RT.nil
         case hc => (show _ = _; kernel_rfl)
         case ht => simp; exact Is.rfl)
      | apply WP.block
      | apply WP.skip
      | apply WP.exit
      | apply WP.ret)
    exact ⟨.inr rfl, _, _, rfl, by simp only [divI, hb]; rfl⟩
  · simp at hb
    repeat (first
      | apply WP.seq
      | (apply WP.reg
         case hR => dsimp only [prepL, prepO, List.map, List.getElem?_cons_succ, List.getElem?_cons_zero]; exact Is.rfl
         case hr =>
           repeat (first
             | (apply RT.op (h := by simp [hb, h3, h4]; exact Is.rfl) (he := by (try dsimp only [putEnv]) <;> exact rfl))
             | (apply RT.call (hg := by simp; exact Is.rfl) (hfo := by simp; exact Is.rfl) (hpr := by exact Is.rfl) (hvs := by simp [hb, h3, h4]; exact Is.rfl) (hcl := by simp [hb, h3, h4]; exact Is.rfl) (hd := by simp [hb, h3, h4]; exact Is.rfl) (hwr := by simp [hb, h3, h4]; exact Is.rfl) (hlt := by simp [Is]) (he := by (try dsimp only [putEnv]) <;> exact rfl) (hh := by simp; exact Is.rfl) (hw := by simp; exact Is.rfl))
             | (apply RT.wr (h := by simp [hb, h3, h4]; exact Is.rfl) (he := by (try dsimp only [putEnv]) <;> exact rfl) (hh := by simp [hb, h3, h4]; exact Is.rfl) (hn := by exact Is.rfl) (hc := by exact Is.rfl) (hw := by simp; exact Is.rfl)))
           exact RT.nil
         case hc => (show _ = _; kernel_rfl)
         case ht => simp [hb, h3, h4]; exact Is.rfl)
      | apply WP.block
      | apply WP.skip
      | apply WP.exit
      | apply WP.ret)
    exact ⟨.inr rfl, _, _, rfl, by simp only [divI, if_neg hb]; rfl⟩
theorem mod_den (a b : Int) : den Tryd.prog Cp.cfg 94 [dI a, dI b] = some (dI (modI (w16 a) (w16 b))) := by
  refine den_wp Tryd.func94 rfl (by kernel_rfl) rfl rfl ?_
  have h := wrap_den a
  have h' := wrap_den b
  simp only [dI] at h h'
  repeat (first
    | apply WP.seq
    | (apply WP.reg
       case hR => dsimp only [prepL, prepO, List.map, List.getElem?_cons_succ, List.getElem?_cons_zero]; exact Is.rfl
       case hr =>
         repeat (first
           | (apply RT.op (h := by simp [dI, h, h']; exact Is.rfl) (he := by (try dsimp only [putEnv]) <;> exact rfl))
           | (apply RT.call (hg := by simp; exact Is.rfl) (hfo := by simp; exact Is.rfl) (hpr := by exact Is.rfl) (hvs := by simp [dI, h, h']; exact Is.rfl) (hcl := by simp [dI, h, h']; exact Is.rfl) (hd := by simp [dI, h, h']; exact Is.rfl) (hwr := by simp [dI, h, h']; exact Is.rfl) (hlt := by simp [Is]) (he := by (try dsimp only [putEnv]) <;> exact rfl) (hh := by simp; exact Is.rfl) (hw := by simp; exact Is.rfl))
           | (apply RT.wr (h := by simp [dI, h, h']; exact Is.rfl) (he := by (try dsimp only [putEnv]) <;> exact rfl) (hh := by simp [dI, h, h']; exact Is.rfl) (hn := by exact Is.rfl) (hc := by exact Is.rfl) (hw := by simp; exact Is.rfl)))
         exact RT.nil
       case hc => (show _ = _; kernel_rfl)
       case ht => simp [dI, h, h']; exact Is.rfl)
    | apply WP.block
    | apply WP.skip
    | apply WP.exit
    | apply WP.ret)
  show WP _ _ _ _ _ _
  refine WP.cond _ rfl (fun hb => ?_) (fun hb => ?_)
  · simp at hb
    repeat (first
      | apply WP.seq
      | (apply WP.reg
         case hR => dsimp only [prepL, prepO, List.map, List.getElem?_cons_succ, List.getElem?_cons_zero]; exact Is.rfl
         case hr =>
           repeat (first
             | (apply RT.op (h := by simp; exact Is.rfl) (he := by (try dsimp only [putEnv]) <;> exact rfl))
             | (apply RT.call (hg := by simp; exact Is.rfl) (hfo := by simp; exact Is.rfl) (hpr := by exact Is.rfl) (hvs := by simp; exact Is.rfl) (hcl := by simp; exact Is.rfl) (hd := by simp; exact Is.rfl) (hwr := by simp; exact Is.rfl) (hlt := by simp [Is]) (he := by (try dsimp only [putEnv]) <;> exact rfl) (hh := by simp; exact Is.rfl) (hw := by simp; exact Is.rfl))
             | (apply RT.wr (h := by simp; exact Is.rfl) (he := by (try dsimp only [putEnv]) <;> exact rfl) (hh := by simp; exact Is.rfl) (hn := by exact Is.rfl) (hc := by exact Is.rfl) (hw := by simp; exact Is.rfl)))
           exact RT.nil
         case hc => (show _ = _; kernel_rfl)
         case ht => simp; exact Is.rfl)
      | apply WP.block
      | apply WP.skip
      | apply WP.exit
      | apply WP.ret)
    exact ⟨.inr rfl, _, _, rfl, by simp only [modI, hb]; rfl⟩
  · simp at hb
    repeat (first
      | apply WP.seq
      | (apply WP.reg
         case hR => dsimp only [prepL, prepO, List.map, List.getElem?_cons_succ, List.getElem?_cons_zero]; exact Is.rfl
         case hr =>
           repeat (first
             | (apply RT.op (h := by simp [hb]; exact Is.rfl) (he := by (try dsimp only [putEnv]) <;> exact rfl))
             | (apply RT.call (hg := by simp; exact Is.rfl) (hfo := by simp; exact Is.rfl) (hpr := by exact Is.rfl) (hvs := by simp [hb]; exact Is.rfl) (hcl := by simp [hb]; exact Is.rfl) (hd := by simp [hb]; exact Is.rfl) (hwr := by simp [hb]; exact Is.rfl) (hlt := by simp [Is]) (he := by (try dsimp only [putEnv]) <;> exact rfl) (hh := by simp; exact Is.rfl) (hw := by simp; exact Is.rfl))
             | (apply RT.wr (h := by simp [hb]; exact Is.rfl) (he := by (try dsimp only [putEnv]) <;> exact rfl) (hh := by simp [hb]; exact Is.rfl) (hn := by exact Is.rfl) (hc := by exact Is.rfl) (hw := by simp; exact Is.rfl)))
           exact RT.nil
         case hc => (show _ = _; kernel_rfl)
         case ht => simp [hb]; exact Is.rfl)
      | apply WP.block
      | apply WP.skip
      | apply WP.exit
      | apply WP.ret)
    exact ⟨.inr rfl, _, _, rfl, by simp only [modI, if_neg hb]; rfl⟩
theorem in_den (n : Int) : den Tryd.prog Cp.cfg 34 [dI n] = some (dB (decide (-32768 ≤ n) && decide (n ≤ 32767))) := by
  refine den_wp Tryd.func34 rfl (by kernel_rfl) rfl rfl ?_
  by_cases h : -32768 ≤ n
  · have e : (decide (-32768 ≤ n) && decide (n ≤ 32767)) = decide (n ≤ 32767) := by simp [h]
    rw [e]
    repeat (first
      | apply WP.seq
      | (apply WP.reg
         case hR => dsimp only [prepL, prepO, List.map, List.getElem?_cons_succ, List.getElem?_cons_zero]; exact Is.rfl
         case hr =>
           repeat (first
             | (apply RT.op (h := by simp [dI, h]; exact Is.rfl) (he := by (try dsimp only [putEnv]) <;> exact rfl))
             | (apply RT.call (hg := by simp; exact Is.rfl) (hfo := by simp; exact Is.rfl) (hpr := by exact Is.rfl) (hvs := by simp [dI, h]; exact Is.rfl) (hcl := by simp [dI, h]; exact Is.rfl) (hd := by simp [dI, h]; exact Is.rfl) (hwr := by simp [dI, h]; exact Is.rfl) (hlt := by simp [Is]) (he := by (try dsimp only [putEnv]) <;> exact rfl) (hh := by simp; exact Is.rfl) (hw := by simp; exact Is.rfl))
             | (apply RT.wr (h := by simp [dI, h]; exact Is.rfl) (he := by (try dsimp only [putEnv]) <;> exact rfl) (hh := by simp [dI, h]; exact Is.rfl) (hn := by exact Is.rfl) (hc := by exact Is.rfl) (hw := by simp; exact Is.rfl)))
           exact RT.nil
         case hc => (show _ = _; kernel_rfl)
         case ht => simp [dI, h]; exact Is.rfl)
      | apply WP.block
      | apply WP.skip
      | apply WP.exit
      | apply WP.ret)
    exact ⟨.inr rfl, _, _, rfl, rfl⟩
  · have e : (decide (-32768 ≤ n) && decide (n ≤ 32767)) = false := by simp [h]
    rw [e]
    repeat (first
      | apply WP.seq
      | (apply WP.reg
         case hR => dsimp only [prepL, prepO, List.map, List.getElem?_cons_succ, List.getElem?_cons_zero]; exact Is.rfl
         case hr =>
           repeat (first
             | (apply RT.op (h := by simp [dI, h]; exact Is.rfl) (he := by (try dsimp only [putEnv]) <;> exact rfl))
             | (apply RT.call (hg := by simp; exact Is.rfl) (hfo := by simp; exact Is.rfl) (hpr := by exact Is.rfl) (hvs := by simp [dI, h]; exact Is.rfl) (hcl := by simp [dI, h]; exact Is.rfl) (hd := by simp [dI, h]; exact Is.rfl) (hwr := by simp [dI, h]; exact Is.rfl) (hlt := by simp [Is]) (he := by (try dsimp only [putEnv]) <;> exact rfl) (hh := by simp; exact Is.rfl) (hw := by simp; exact Is.rfl))
             | (apply RT.wr (h := by simp [dI, h]; exact Is.rfl) (he := by (try dsimp only [putEnv]) <;> exact rfl) (hh := by simp [dI, h]; exact Is.rfl) (hn := by exact Is.rfl) (hc := by exact Is.rfl) (hw := by simp; exact Is.rfl)))
           exact RT.nil
         case hc => (show _ = _; kernel_rfl)
         case ht => simp [dI, h]; exact Is.rfl)
      | apply WP.block
      | apply WP.skip
      | apply WP.exit
      | apply WP.ret)
    exact ⟨.inr rfl, _, _, rfl, rfl⟩
theorem truth_den (b : Bool) : den Tryd.prog Cp.cfg 79 [dB b] = some (dI (if b then 1 else 0)) := by
  cases b
  · exact den_k 40 (fun k => by kernel_rfl) rfl
  · exact den_k 40 (fun k => by kernel_rfl) rfl

end Go.Ac
end
