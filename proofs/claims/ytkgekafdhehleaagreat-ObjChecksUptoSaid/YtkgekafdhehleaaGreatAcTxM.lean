/- The abstract machine once more, for closed calls: each operation runs once, the check of drawn regions with numbers as sets. No conditions. -/
import Derived.Test.YtkgekafdhehleaaGreatAcA
import Derived.Test.YtkgekafdhehleaaGreatAcB
import Derived.Test.YtkgekafdhehleaaGreatAcDM
import Derived.Test.YtkgekafdhehleaaGreatAcGM
import Derived.Test.YtkgekafdhehleaaGreatAcJM
import Derived.Test.YtkgekafdhehleaaGreatAcNM
import Derived.Test.YtkgekafdhehleaaGreatAcQM
import Derived.Test.YtkgekafdhehleaaGreatAcUM
import Derived.Test.YtkgekafdhehleaaGreatAcUcM
import Derived.Calls
import Derived.Orders
import Derived.Laws.World
import Derived.Laws.Sem
import Derived.Laws.Cells
import Derived.Laws.Append
import GoSem.ClaimData
import Derived.Laws.Tables
import Derived.Laws.Slices
import Derived.Laws.Strings
import Derived.Laws.Small
import Derived.KernelRfl
set_option linter.unusedVariables false
set_option linter.unusedSimpArgs false
section
set_option linter.unusedVariables false
set_option linter.unusedSimpArgs false
namespace Go.Ac
variable {P : Program} {cfg : Cfg}

theorem WP.gen [Gl] {fid : FuncId} {code : Code} {e : Env} {hp : Hp} {n c n0 : Nat} {wl : List Nat} {Q : Ex → St → Prop}
    (h : ∀ hp' wl', hp' = hp → wl' = wl → WP P cfg fid code ⟨e, hp', n, c, n0, wl'⟩ Q) : WP P cfg fid code ⟨e, hp, n, c, n0, wl⟩ Q := h hp wl rfl rfl

theorem WP.condT [Gl] {fid : FuncId} {s : St} {q : Operand} {a b : Code} {Q : Ex → St → Prop} (hq : evalV s.env q = .d (.bool true)) (h : WP P cfg fid a s Q) : WP P cfg fid (.cond q a b) s Q :=
  WP.cond true hq (fun _ => h) (fun h => by cases h)
theorem WP.condF [Gl] {fid : FuncId} {s : St} {q : Operand} {a b : Code} {Q : Ex → St → Prop} (hq : evalV s.env q = .d (.bool false)) (h : WP P cfg fid b s Q) : WP P cfg fid (.cond q a b) s Q :=
  WP.cond false hq (fun h => by cases h) (fun _ => h)

/-- A call of a function that is handed the memory: the memory is handed back. -/
theorem lim_wp [Gl] {f : FuncId} {fn : Func} {body : Code} {vs : List V} {hp : Hp} {n c : Nat} {Q : V → St → Prop} (hf : P.funcs[f]? = some fn) (hb : fn.body = some body) (hok : (Nat.ble vs.length fn.ntmps && codeOK fn.ntmps body) = true)
    (h : WP P cfg f body ⟨envOf 0 vs, hp, n, c, n, []⟩ (fun e t => (e = .normal ∨ e = .ret) ∧ ∃ rs, resultsV P t fn.results.toList = some rs ∧ (cfg.thr f = true ∨ closeT t.hp.get (tup rs) = none) ∧ Q (tup rs) t)) :
    ∃ v t, lim P cfg f vs hp n c = some ⟨v, t.hp, t.n, t.c, t.wl⟩ ∧ Q v t := by
  obtain ⟨e, t, ⟨K, hK⟩, he, rs, hrs, ht, hq⟩ := h
  have hfin : finish (cfg.thr f) n t (tup rs) = some ⟨tup rs, t.hp, t.n, t.c, t.wl⟩ := by
    unfold finish
    rcases ht with ht | ht
    · rw [ht]; rfl
    · cases hc : cfg.thr f with
      | true => rfl
      | false => simp only [Bool.false_eq_true, if_false, ht]
  refine ⟨tup rs, t, lim_of ⟨K, fun k hk => ?_⟩, hq⟩
  unfold callF callBy
  rw [hf]
  simp only [hb, hok]
  rw [show enter vs hp n c = ⟨envOf 0 vs, hp, n, c, n, []⟩ from rfl, hK k hk]
  rcases he with rfl | rfl <;> simp only [leave, hrs, hfin]

/-- The same: its own objects are let go, its result is data. -/
theorem lim_wpD [Gl] {f : FuncId} {fn : Func} {body : Code} {vs : List V} {hp : Hp} {n c : Nat} {Q : V → St → Prop} (hf : P.funcs[f]? = some fn) (hb : fn.body = some body) (hok : (Nat.ble vs.length fn.ntmps && codeOK fn.ntmps body) = true)
    (hthr : cfg.thr f = false) (h : WP P cfg f body ⟨envOf 0 vs, hp, n, c, n, []⟩ (fun e t => (e = .normal ∨ e = .ret) ∧ ∃ rs w ids, resultsV P t fn.results.toList = some rs ∧ closeT t.hp.get (tup rs) = some (w, ids) ∧ (w.flat || ids.all (fun i => Nat.ble n i)) = true ∧ Q w t)) :
    ∃ v t, lim P cfg f vs hp n c = some ⟨v, Hp.trunc n t.hp, n, t.c, t.wl⟩ ∧ Q v t := by
  obtain ⟨e, t, ⟨K, hK⟩, he, rs, w, ids, hrs, hcl, hfl, hq⟩ := h
  have hfin : finish (cfg.thr f) n t (tup rs) = some ⟨w, Hp.trunc n t.hp, n, t.c, t.wl⟩ := by
    unfold finish
    rw [hthr]
    simp only [Bool.false_eq_true, if_false, hcl, hfl, if_true]
  refine ⟨w, t, lim_of ⟨K, fun k hk => ?_⟩, hq⟩
  unfold callF callBy
  rw [hf]
  simp only [hb, hok]
  rw [show enter vs hp n c = ⟨envOf 0 vs, hp, n, c, n, []⟩ from rfl, hK k hk]
  rcases he with rfl | rfl <;> simp only [leave, hrs, hfin]

/-! ### What has been written -/
theorem mem_addNew {n0 j : Nat} : ∀ {wr : List (Nat × Ob)} {wl : List Nat}, j ∈ addNew n0 wl wr ↔ j ∈ wl ∨ (j < n0 ∧ j ∈ wr.map (·.1))
  | [], wl => by simp [addNew]
  | (k, o) :: r, wl => by
    simp only [addNew]
    cases hb : Nat.blt k n0 with
    | true =>
      have hk : k < n0 := by rw [Nat.blt_eq] at hb; exact hb
      cases ha : wl.any (Nat.beq k) with
      | true =>
        have hin : k ∈ wl := by
          rw [List.any_eq_true] at ha
          obtain ⟨x, hx, he⟩ := ha
          rw [Nat.eq_of_beq_eq_true he]; exact hx
        simp only [mem_addNew, List.map_cons, List.mem_cons]
        constructor
        · rintro (h | ⟨h1, h2⟩)
          · exact .inl h
          · exact .inr ⟨h1, .inr h2⟩
        · rintro (h | ⟨h1, rfl | h2⟩)
          · exact .inl h
          · exact .inl hin
          · exact .inr ⟨h1, h2⟩
      | false =>
        simp only [mem_addNew, List.map_cons, List.mem_cons]
        constructor
        · rintro ((rfl | h) | ⟨h1, h2⟩)
          · exact .inr ⟨hk, .inl rfl⟩
          · exact .inl h
          · exact .inr ⟨h1, .inr h2⟩
        · rintro (h | ⟨h1, rfl | h2⟩)
          · exact .inl (.inr h)
          · exact .inl (.inl rfl)
          · exact .inr ⟨h1, h2⟩
    | false =>
      have hk : ¬ k < n0 := by intro h; rw [← Nat.blt_eq] at h; rw [hb] at h; cases h
      simp only [mem_addNew, List.map_cons, List.mem_cons]
      constructor
      · rintro (h | ⟨h1, h2⟩)
        · exact .inl h
        · exact .inr ⟨h1, .inr h2⟩
      · rintro (h | ⟨h1, rfl | h2⟩)
        · exact .inl h
        · exact absurd h1 hk
        · exact .inr ⟨h1, h2⟩

theorem Hp.get_sets_ne : ∀ (wr : List (Nat × Ob)) (h : Hp) (j : Nat), (∀ p, p ∈ wr → p.1 ≠ j) → (Hp.sets h wr).get j = h.get j
  | [], h, j, _ => rfl
  | (k, o) :: r, h, j, hn => by
    simp only [Hp.sets]
    rw [Hp.get_sets_ne r _ j fun p hp => hn p (List.mem_cons_of_mem _ hp), Hp.get_set_ne _ _ _ _ (hn (k, o) (List.mem_cons_self ..))]

theorem mem_wrOf2 {look : Look} : ∀ {ids : List Nat} {p : Nat × Ob}, p ∈ wrOf look ids ↔ p.1 ∈ ids ∧ look p.1 = some p.2 := mem_wrOf

theorem Hp.get_sets_wrOf {look : Look} : ∀ (ids : List Nat) (h : Hp) (j : Nat), (h.sets (wrOf look ids)).get j = if j ∈ ids ∧ (look j).isSome = true then look j else h.get j := by
  intro ids h j
  have e := hp_get_sets (wrOf look ids) h
  rw [e, hupd_wrOf]

/-- Only what is named, or new, has been written; and that has been noted. -/
def WI (ids0 : List Nat) (n0 : Nat) (hp0 : Hp) (wl : List Nat) (hp : Hp) : Prop := (∀ j, j ∈ wl → j ∈ ids0) ∧ ∀ j, j < n0 → j ∉ wl → hp.get j = hp0.get j

theorem WI.refl {ids0 : List Nat} {n0 : Nat} {hp : Hp} : WI ids0 n0 hp [] hp := ⟨fun j h => by simp at h, fun _ _ _ => rfl⟩
theorem WI.sets {ids0 : List Nat} {n0 : Nat} {hp0 hp : Hp} {wl : List Nat} (h : WI ids0 n0 hp0 wl hp) {wr : List (Nat × Ob)} (hw : ∀ p, p ∈ wr → p.1 ∈ ids0 ∨ n0 ≤ p.1) : WI ids0 n0 hp0 (addNew n0 wl wr) (hp.sets wr) := by
  refine ⟨fun j hj => ?_, fun j hj hn => ?_⟩
  · rcases mem_addNew.1 hj with h1 | ⟨h1, h2⟩
    · exact h.1 j h1
    · obtain ⟨p, hp, rfl⟩ := List.mem_map.1 h2
      exact (hw p hp).resolve_right (by omega)
  · rw [Hp.get_sets_ne]
    · exact h.2 j hj fun h1 => hn (mem_addNew.2 (.inl h1))
    · intro p hp he
      exact hn (mem_addNew.2 (.inr ⟨hj, List.mem_map.2 ⟨p, hp, he⟩⟩))
theorem WI.set {ids0 : List Nat} {n0 : Nat} {hp0 hp : Hp} {wl : List Nat} (h : WI ids0 n0 hp0 wl hp) {k : Nat} {o : Ob} (hk : k ∈ ids0 ∨ n0 ≤ k) : WI ids0 n0 hp0 (addNew n0 wl [(k, o)]) (hp.set k o) :=
  h.sets (wr := [(k, o)]) fun p hp => by rw [List.mem_singleton] at hp; subst hp; exact hk
theorem WI.frame {ids0 : List Nat} {n0 : Nat} {hp0 hp : Hp} {wl : List Nat} (h : WI ids0 n0 hp0 wl hp) {j : Nat} (hj : j < n0) (hn : j ∉ ids0) : hp.get j = hp0.get j := h.2 j hj fun hw => hn (h.1 j hw)
theorem WI.mono {ids0 ids1 : List Nat} {n0 : Nat} {hp0 hp : Hp} {wl : List Nat} (h : WI ids0 n0 hp0 wl hp) (hs : ∀ j, j ∈ ids0 → j ∈ ids1) : WI ids1 n0 hp0 wl hp := ⟨fun j hj => hs j (h.1 j hj), h.2⟩
theorem WI.trunc {ids0 : List Nat} {n0 m : Nat} {hp0 hp : Hp} {wl : List Nat} (h : WI ids0 n0 hp0 wl hp) (hm : n0 ≤ m) : WI ids0 n0 hp0 wl (Hp.trunc m hp) :=
  ⟨h.1, fun j hj hn => by rw [Hp.get_trunc _ _ _ (by omega)]; exact h.2 j hj hn⟩

/-- What a caller writes of what a callee has written. -/
def tWr (r : CR) (n : Nat) : List (Nat × Ob) := wrOf r.hp.get (r.wl ++ (List.range (r.n - n)).map (n + ·))

section
variable {hp0 : Hp} {n0 : Nat} {ids0 : List Nat} {r : CR}

theorem tWr_keys (hn : n0 ≤ r.n) (hw : WI ids0 n0 hp0 r.wl r.hp) (hids : ∀ j, j ∈ ids0 → j < n0) {k : Nat} (hk : k ∈ (tWr r n0).map (·.1)) : (k ∈ ids0 ∨ n0 ≤ k) ∧ k < r.n := by
  obtain ⟨p, hp, rfl⟩ := List.mem_map.1 hk
  have := (mem_wrOf2.1 hp).1
  rcases List.mem_append.1 this with h1 | h1
  · have := hw.1 _ h1
    have h2 := hids _ this
    exact ⟨.inl this, by omega⟩
  · obtain ⟨x, hx, he⟩ := List.mem_map.1 h1
    have := List.mem_range.1 hx
    rw [← he]
    exact ⟨.inr (by omega), by omega⟩

theorem tWr_same (hw : WI ids0 n0 hp0 r.wl r.hp) {j : Nat} (hj : j < r.n) (hs : (r.hp.get j).isSome = true) : (hp0.sets (tWr r n0)).get j = r.hp.get j := by
  unfold tWr
  rw [Hp.get_sets_wrOf]
  split
  · rfl
  · rename_i hn
    have h1 : j ∉ r.wl ++ (List.range (r.n - n0)).map (n0 + ·) := fun hm => hn ⟨hm, hs⟩
    rw [List.mem_append, not_or] at h1
    have h2 : j < n0 := by
      apply Classical.byContradiction
      intro hge
      exact h1.2 (List.mem_map.2 ⟨j - n0, List.mem_range.2 (by omega), by omega⟩)
    exact (hw.2 j h2 h1.1).symm

theorem tWr_old (hw : WI ids0 n0 hp0 r.wl r.hp) {j : Nat} (hj : j < n0) (hn : j ∉ ids0) : (hp0.sets (tWr r n0)).get j = hp0.get j := by
  unfold tWr
  rw [Hp.get_sets_wrOf, if_neg]
  rintro ⟨h1, _⟩
  rcases List.mem_append.1 h1 with h2 | h2
  · exact hn (hw.1 j h2)
  · obtain ⟨x, _, he⟩ := List.mem_map.1 h2
    omega
end

/-- A call that is handed objects, as a region's operation. -/
theorem RT.callT [Gl] {fid : FuncId} {rid : Nat} {fo : Operand} {args : Array Operand} {ts : Array TypeId} {dst : Option Nat} {g : Gd} {r : List PO} {e e' : Env} {hp : Hp} {n c n0 : Nat} {wl : List Nat} {f : FuncId} {caps vs : List V} {q : CR} {t : St} {qs : List Tq}
    (hg : Is (wantedP e g) (some true)) (hfo : Is (evalV e fo) (.fn f caps)) (hpr : Is (cfg.prim f) none) (hvs : Is (args.toList.map (evalV e) ++ caps) vs) (hcl : Is (closeArgs (if cfg.thr f then noLook else hp.get) vs) none) (hd : lim P cfg f vs hp n c = some q)
    (hk : ∀ k, k ∈ (tWr q n).map (·.1) → k < n + (q.n - n)) (he : putEnv e dst q.v = e') (h' : RT P cfg fid rid r ⟨e', hp.sets (tWr q n), n + (q.n - n), c + (q.c - c), n0, addNew n0 wl (tWr q n)⟩ t qs) :
    RT P cfg fid rid (⟨.call ⟨.value fo, args, ts⟩, dst, g⟩ :: r) ⟨e, hp, n, c, n0, wl⟩ t (⟨[], (tWr q n).map (·.1), true, q.c - c⟩ :: qs) := by
  unfold Is at *
  have : callR cfg (lim P cfg) hp n c f vs = some ⟨q.v, tWr q n, [], q.n - n, q.c - c, true⟩ := by
    unfold callR
    rw [hcl]
    simp only [hd]
    rfl
  refine RT.wr (wr := tWr q n) (dn := q.n - n) (dc := q.c - c) ?_ he rfl rfl rfl rfl h'
  show opP P cfg fid rid _ _ = _
  unfold opP
  simp only [hg]
  have h2 : opP0 P cfg fid rid ⟨.call ⟨.value fo, args, ts⟩, dst, g⟩ ⟨e, hp, n, c, n0, wl⟩ = some ⟨q.v, tWr q n, [], q.n - n, q.c - c, true⟩ := by
    simp only [opP0, hfo, hpr]
    rw [hvs, this]
  rw [h2]
  simp only
  rw [if_pos]
  rw [List.all_eq_true]
  intro p hp
  rw [Nat.blt_eq]
  exact hk p.1 (List.mem_map.2 ⟨p, hp, rfl⟩)

end Go.Ac
end

section
set_option linter.unusedVariables false
set_option linter.unusedSimpArgs false
namespace Go.Ac
variable {P : Program} {cfg : Cfg}

/-- The operations that lie before: a number's bits. -/
def ancM (all : List Oper) : List Nat :=
  all.foldl (fun acc o => acc ++ [o.after.toList.foldl (fun s e => if Region.binds .any e then s ||| ((1 <<< e.on) ||| acc.getD e.on 0) else s) 0]) []

def MaskOK (m : List Nat) (a : List (List Nat)) : Prop := m.length = a.length ∧ ∀ j i, (m.getD j 0).testBit i = true → (a.getD j []).contains i = true

theorem fold_mask {acc : List Nat} {anc : List (List Nat)} (h : MaskOK acc anc) : ∀ (l : List Edge) (s : Nat) (t : List Nat), (∀ i, s.testBit i = true → t.contains i = true) →
    ∀ i, (l.foldl (fun s e => if Region.binds .any e then s ||| ((1 <<< e.on) ||| acc.getD e.on 0) else s) s).testBit i = true → (l.foldl (fun s e => if Region.binds .any e then e.on :: (anc.getD e.on [] ++ s) else s) t).contains i = true
  | [], s, t, hs, i, hi => hs i hi
  | e :: l, s, t, hs, i, hi => by
    simp only [List.foldl_cons] at hi ⊢
    refine fold_mask h l _ _ (fun i hi => ?_) i hi
    by_cases hb : Region.binds .any e = true
    · rw [if_pos hb] at hi ⊢
      rw [Nat.testBit_or, Nat.testBit_or, Bool.or_eq_true, Bool.or_eq_true] at hi
      rw [List.contains_cons, Bool.or_eq_true, List.contains_eq_mem]
      rcases hi with hi | hi | hi
      · right
        have := hs i hi
        rw [List.contains_eq_mem] at this
        rw [decide_eq_true_eq] at this ⊢
        exact List.mem_append_right _ this
      · left
        rw [Nat.shiftLeft_eq, Nat.one_mul, Nat.testBit_two_pow] at hi
        simp only [decide_eq_true_eq] at hi
        subst hi
        exact beq_self_eq_true _
      · right
        have := h.2 e.on i hi
        rw [List.contains_eq_mem] at this
        rw [decide_eq_true_eq] at this ⊢
        exact List.mem_append_left _ this
    · rw [if_neg hb] at hi ⊢
      exact hs i hi

theorem MaskOK.snoc {m : List Nat} {a : List (List Nat)} {x : Nat} {y : List Nat} (h : MaskOK m a) (hx : ∀ i, x.testBit i = true → y.contains i = true) : MaskOK (m ++ [x]) (a ++ [y]) := by
  refine ⟨by simp [h.1], fun j i hj => ?_⟩
  rw [List.getD_eq_getElem?_getD] at hj ⊢
  by_cases h1 : j < m.length
  · rw [List.getElem?_append_left h1] at hj
    rw [List.getElem?_append_left (by rw [← h.1]; exact h1), ← List.getD_eq_getElem?_getD]
    exact h.2 j i (by rw [List.getD_eq_getElem?_getD]; exact hj)
  · rw [List.getElem?_append_right (by omega)] at hj
    rw [List.getElem?_append_right (by rw [← h.1]; omega), ← h.1]
    cases hk : j - m.length with
    | zero => rw [hk] at hj; exact hx i hj
    | succ k => rw [hk] at hj; simp at hj

theorem ancM_gen : ∀ (l : List Oper) (m : List Nat) (a : List (List Nat)), MaskOK m a →
    MaskOK (l.foldl (fun acc o => acc ++ [o.after.toList.foldl (fun s e => if Region.binds .any e then s ||| ((1 <<< e.on) ||| acc.getD e.on 0) else s) 0]) m)
      (l.foldl (fun acc o => acc ++ [o.after.toList.foldl (fun s e => if Region.binds .any e then e.on :: (acc.getD e.on [] ++ s) else s) []]) a)
  | [], m, a, h => h
  | o :: l, m, a, h => by
    simp only [List.foldl_cons]
    exact ancM_gen l _ _ (h.snoc fun i hi => fold_mask h o.after.toList 0 [] (fun i hi => by simp at hi) i hi)

theorem ancM_ok (all : List Oper) : MaskOK (ancM all) (anc all) := ancM_gen all [] [] ⟨rfl, fun j i h => by simp at h⟩

def stillCheckM (all : List Oper) : List Oper → List Nat → List Tr → Bool
  | o :: r, m :: ms, tr => (tr.zipIdx.all fun p => m.testBit p.2 || slotsApart p.1 (stillTr o all)) && stillCheckM all r ms (tr ++ [stillTr o all])
  | [], [], _ => true
  | _, _, _ => false

def unordM : List Nat → Nat → List (Nat × Nat)
  | [], _ => []
  | m :: r, k => ((List.range k).filter fun i => !m.testBit i).map (fun i => (i, k)) ++ unordM r (k + 1)

theorem stillCheckM_ok {all : List Oper} : ∀ {l : List Oper} {m : List Nat} {a : List (List Nat)} {tr : List Tr}, MaskOK m a → stillCheckM all l m tr = true → stillCheck all l a tr = true
  | [], [], [], tr, h, hs => rfl
  | [], _ :: _, a, tr, h, hs => by simp [stillCheckM] at hs
  | [], [], x :: a, tr, h, hs => by have := h.1; simp at this
  | o :: l, [], a, tr, h, hs => by simp [stillCheckM] at hs
  | o :: l, x :: m, [], tr, h, hs => by have := h.1; simp at this
  | o :: l, x :: m, y :: a, tr, h, hs => by
    simp only [stillCheckM, Bool.and_eq_true] at hs
    simp only [stillCheck, Bool.and_eq_true]
    refine ⟨?_, stillCheckM_ok ⟨by have := h.1; simpa using this, fun j i hj => h.2 (j + 1) i hj⟩ hs.2⟩
    rw [List.all_eq_true] at hs ⊢
    intro p hp
    have := hs.1 p hp
    rw [Bool.or_eq_true] at this ⊢
    exact this.imp (fun h1 => h.2 0 p.2 h1) id

theorem unordM_mem : ∀ {m : List Nat} {a : List (List Nat)} {k : Nat} {p : Nat × Nat}, MaskOK m a → p ∈ unord a k → p ∈ unordM m k
  | [], [], k, p, h, hp => by simp [unord] at hp
  | x :: m, [], k, p, h, hp => by simp [unord] at hp
  | [], y :: a, k, p, h, hp => by have := h.1; simp at this
  | x :: m, y :: a, k, p, h, hp => by
    simp only [unord, unordM, List.mem_append, List.mem_map, List.mem_filter] at hp ⊢
    rcases hp with ⟨i, ⟨h1, h2⟩, h3⟩ | hp
    · refine .inl ⟨i, ⟨h1, ?_⟩, h3⟩
      cases hb : x.testBit i with
      | false => rfl
      | true =>
        have := h.2 0 i hb
        rw [show (y :: a).getD 0 [] = y from rfl] at this
        rw [this] at h2; simp at h2
    · exact .inr (unordM_mem ⟨by have := h.1; simpa using this, fun j i hj => h.2 (j + 1) i hj⟩ hp)

/-- What can be told of a drawn region beforehand; then over what it has looked at and written. -/
def stillM (all : List Oper) : Bool := orderOK all && stillCheckM all all (ancM all) []
def checkM (ops : Array Oper) (draw : Bool) (qs : List Tq) : Bool := match draw with
  | false => true
  | true => stillM ops.toList && (unordM (ancM ops.toList) 0).all fun p => memA (qs.getD p.1 noTq) (qs.getD p.2 noTq)

theorem checkM_ok {ops : Array Oper} {draw : Bool} {qs : List Tq} (hl : qs.length = ops.toList.length) (h : checkM ops draw qs = true) : Is (checkR ops draw qs) true := by
  cases draw with
  | false => rfl
  | true =>
    simp only [checkM, stillM, Bool.and_eq_true] at h
    obtain ⟨⟨h1, h2⟩, h3⟩ := h
    have hok := ancM_ok ops.toList
    refine checkR_un _ (by unfold stillOK; rw [h1, stillCheckM_ok hok h2]; rfl) rfl hl ?_
    rw [List.all_eq_true] at h3 ⊢
    exact fun p hp => h3 p (unordM_mem hok hp)

/-! ### The run -/
def runT [Gl] (P : Program) (cfg : Cfg) (call : CallF) (fid rid : Nat) (all : List Oper) : List Oper → St → Option (St × List Tq)
  | [], s => some (s, [])
  | o :: r, s => match opW P cfg fid rid call all o s with
    | some q => match runT P cfg call fid rid all r (s.put o.dst q) with
      | some (t, qs) => some (t, Tq.of q :: qs)
      | none => none
    | none => none

def execT [Gl] (P : Program) (cfg : Cfg) : Nat → FuncId → Code → St → Option (Ex × St)
  | 0, _, _, _ => none
  | k + 1, fid, c, s =>
    match c with
    | .skip => some (.normal, s)
    | .ret => some (.ret, s)
    | .exit id => some (.exit id, s)
    | .seq a b => match execT P cfg k fid a s with
      | some (.normal, s) => execT P cfg k fid b s
      | r => r
    | .cond q a b => match evalV s.env q with
      | .d (.bool true) => execT P cfg k fid a s
      | .d (.bool false) => execT P cfg k fid b s
      | _ => none
    | .block id b => match execT P cfg k fid b s with
      | some (.exit i, s) => match Nat.beq i id with | true => some (.normal, s) | false => some (.exit i, s)
      | r => r
    | .loop b => match execT P cfg k fid b s with
      | some (.normal, t) => execT P cfg k fid (.loop b) (match cfg.own fid with | true => t | false => { t with hp := Hp.trunc s.n t.hp, n := s.n })
      | r => r
    | .region id ops draw => match runT P cfg (callBy P cfg (execT P cfg k)) fid id ops.toList ops.toList s with
      | some (t, qs) => match checkM ops draw qs with
        | true => some (.normal, keepSt (mats t (cfg.mat fid id)) (cfg.keep fid id))
        | false => none
      | none => none
    | _ => none

def callT [Gl] (P : Program) (cfg : Cfg) (k : Nat) : CallF := callBy P cfg (execT P cfg k)

/-- A way of calling that gives no more than the machine does. -/
def Under [Gl] (P : Program) (cfg : Cfg) (call : CallF) : Prop := ∀ f vs hp n c r, call f vs hp n c = some r → lim P cfg f vs hp n c = some r

theorem callR_under [Gl] {call : CallF} (hc : Under P cfg call) {hp : Hp} {n c : Nat} {f : FuncId} {vs : List V} {r : Res} (h : callR cfg call hp n c f vs = some r) : callR cfg (lim P cfg) hp n c f vs = some r := by
  unfold callR at h ⊢
  split at h
  · rename_i ws ids hcl
    split at h
    · rename_i r0 hr0
      simp only [hc _ _ _ _ _ _ hr0]
      exact h
    · simp at h
  · rename_i hcl
    split at h
    · rename_i r0 hr0
      simp only [hc _ _ _ _ _ _ hr0]
      exact h
    · simp at h

theorem opW_under [Gl] {call : CallF} (hc : Under P cfg call) {fid rid : Nat} {all : List Oper} {o : Oper} {s : St} {r : Res} (h : opW P cfg fid rid call all o s = some r) : opW P cfg fid rid (lim P cfg) all o s = some r := by
  unfold opW at h ⊢
  split at h
  · split at h
    · rename_i q hq
      have : opR P cfg fid rid (lim P cfg) o s = some q := by
        unfold opR at hq ⊢
        split at hq
        · rename_i fo args ts ho
          split at hq
          · rename_i f caps hf
            split at hq
            · exact hq
            · exact callR_under hc hq
          · simp at hq
        · exact hq
      rw [this]
      exact h
    · simp at h
  · exact h
  · simp at h

theorem runT_RT [Gl] {call : CallF} (hc : Under P cfg call) {fid rid : Nat} {all : List Oper} : ∀ {l : List Oper} {s t : St} {qs : List Tq}, runT P cfg call fid rid all l s = some (t, qs) → RT P cfg fid rid (l.map (prepO all)) s t qs ∧ qs.length = l.length
  | [], s, t, qs, h => by simp only [runT, Option.some.injEq, Prod.mk.injEq] at h; obtain ⟨rfl, rfl⟩ := h; exact ⟨.nil, rfl⟩
  | o :: r, s, t, qs, h => by
    simp only [runT] at h
    split at h
    · rename_i q hq
      split at h
      · rename_i t' qs' hr
        simp only [Option.some.injEq, Prod.mk.injEq] at h; obtain ⟨rfl, rfl⟩ := h
        obtain ⟨h1, h2⟩ := runT_RT hc hr
        exact ⟨.cons (by rw [opP_eq]; exact opW_under hc hq) h1, by simp [h2]⟩
      · simp at h
    · simp at h

theorem callBy_under [Gl] {run : FuncId → Code → St → Option (Ex × St)} (hr : ∀ f c s e t, run f c s = some (e, t) → Runs P cfg f c s e t) : Under P cfg (callBy P cfg run) := by
  intro f vs hp n c r h
  unfold callBy at h
  split at h
  · rename_i fn hf
    split at h
    · rename_i body hb
      split at h
      · rename_i hok
        cases hrun : run f body (enter vs hp n c) with
        | none => rw [hrun] at h; simp [leave] at h
        | some q =>
          obtain ⟨e, t⟩ := q
          obtain ⟨K, hK⟩ := hr _ _ _ _ _ hrun
          rw [hrun] at h
          refine lim_of ⟨K, fun k hk => ?_⟩
          unfold callF callBy
          rw [hf]
          simp only [hb, hok, hK k hk]
          exact h
      · simp at h
    · simp at h
  · simp at h

theorem execT_runs [Gl] : ∀ (k : Nat) (fid : FuncId) (c : Code) (s : St) (e : Ex) (t : St), execT P cfg k fid c s = some (e, t) → Runs P cfg fid c s e t
  | 0, fid, c, s, e, t, h => by simp [execT] at h
  | k + 1, fid, c, s, e, t, h => by
    have ih := execT_runs k
    cases c with
    | skip => simp [execT] at h; obtain ⟨rfl, rfl⟩ := h; exact .skip
    | ret => simp [execT] at h; obtain ⟨rfl, rfl⟩ := h; exact .ret
    | exit id => simp [execT] at h; obtain ⟨rfl, rfl⟩ := h; exact .exit
    | seq a b =>
      simp only [execT] at h
      split at h
      · rename_i s' ha
        exact (ih _ _ _ _ _ ha).seq (ih _ _ _ _ _ h)
      · rename_i hn
        exact (ih _ _ _ _ _ h).seq_out (by rintro rfl; exact hn _ h)
    | cond q a b =>
      simp only [execT] at h
      split at h
      · rename_i hq; exact .cond_true hq (ih _ _ _ _ _ h)
      · rename_i hq; exact .cond_false hq (ih _ _ _ _ _ h)
      · simp at h
    | block id b =>
      simp only [execT] at h
      split at h
      · rename_i i s' hb
        split at h
        · rename_i hi
          have := Nat.eq_of_beq_eq_true hi
          subst this
          simp at h; obtain ⟨rfl, rfl⟩ := h
          exact .block_exit (ih _ _ _ _ _ hb)
        · rename_i hi
          simp at h; obtain ⟨rfl, rfl⟩ := h
          exact .block_other (ih _ _ _ _ _ hb) (by rintro rfl; simp at hi)
      · rename_i hn
        exact .block (ih _ _ _ _ _ h) (by rintro j rfl; exact hn _ _ h)
    | loop b =>
      simp only [execT] at h
      split at h
      · rename_i t' hb
        refine .round (ih _ _ _ _ _ hb) ?_
        have := ih _ _ _ _ _ h
        unfold cut
        cases ho : cfg.own fid with
        | true => rw [ho] at this; exact this
        | false => rw [ho] at this; exact this
      · rename_i hn
        exact .loop_out (ih _ _ _ _ _ h) (by rintro rfl; exact hn _ h)
    | region id ops draw =>
      simp only [execT] at h
      split at h
      · rename_i t' qs hr
        split at h
        · rename_i hc
          simp only [Option.some.injEq, Prod.mk.injEq] at h; obtain ⟨rfl, rfl⟩ := h
          obtain ⟨h1, h2⟩ := runT_RT (callBy_under ih) hr
          obtain ⟨e', t'', hw, hq⟩ := WP.reg (Q := fun e u => e = .normal ∧ u = endR cfg fid id t') (hR := rfl) (hr := h1) (checkM_ok h2 hc) (ht := rfl) ⟨rfl, rfl⟩
          obtain ⟨rfl, rfl⟩ := hq
          exact hw
        · simp at h
      · simp at h
    | _ => simp [execT] at h

theorem callT_lim [Gl] {k : Nat} {f : FuncId} {vs : List V} {hp : Hp} {n c : Nat} {r : CR} (h : callT P cfg k f vs hp n c = some r) : lim P cfg f vs hp n c = some r :=
  callBy_under (fun f c s e t h => execT_runs k f c s e t h) f vs hp n c r h

theorem den_t [Gl] (k : Nat) {f : FuncId} {vs : List V} {v : V} (h : (match callT P cfg k f vs [] 0 0 with | some r => (match closeT noLook r.v with | some _ => some r.v | none => none) | none => none) = some v) : den P cfg f vs = some v := by
  split at h
  · rename_i r hr
    have hl := lim_some (callT_lim hr)
    split at h
    · rename_i w hw
      simp only [Option.some.injEq] at h
      subst h
      exact den_of hl (by rw [hw]; rfl)
    · simp at h
  · simp at h
end Go.Ac
end
