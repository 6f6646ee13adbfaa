/- The abstract machine: a region's operations with their guards looked up beforehand. No conditions. -/
import Derived.Test.YtofhhkkncaoneaaDoorAcBM
import Derived.Test.YtofhhkkncaoneaaDoorAcDM
import Derived.Test.YtofhhkkncaoneaaDoorAcGM
import Derived.Test.YtofhhkkncaoneaaDoorAcJM
import Derived.Test.YtofhhkkncaoneaaDoorAcLM
import Derived.Test.YtofhhkkncaoneaaDoorAcOM
import Derived.Test.YtofhhkkncaoneaaDoorAcSM
import Derived.Calls
import Derived.Orders
import Derived.Laws.World
import Derived.Laws.Sem
import Derived.Laws.Cells
import Derived.Laws.Append
import GoSem.ClaimData
import Derived.Laws.Tables
import Derived.Laws.Slices
import Derived.Laws.Strings
import Derived.Laws.Small
set_option linter.unusedVariables false
set_option linter.unusedSimpArgs false
section
set_option linter.unusedVariables false
set_option linter.unusedSimpArgs false
namespace Go.Ac
variable {P : Program}

section
variable {S : Nat → Prop} {m : M} {s : St} {N : Nat} {a : Act}

theorem setRow_same {w : World} {b : Nat} {cs : Array Value} {T : TypeId} {fz : Nat × Nat} (h : w.heap[b]? = some (Obj.cells cs T fz)) : (w.setRow b cs).heap = w.heap := by
  unfold World.setRow
  apply Array.ext
  · simp
  · intro i h1 h2
    simp only [Array.getElem_modify]
    split
    · rename_i he; subst he
      have : w.heap[b] = Obj.cells cs T fz := by
        obtain ⟨_, h⟩ := Array.getElem?_eq_some_iff.1 h; exact h
      rw [this]
    · rfl

theorem matOne_sound [Gl] (h : RS S N s m a) (p : Nat × Option Nat × Nat) : ∃ m', m'.w = m.w ∧ RS S N (matOne s p) m' a ∧ Evo S m m' := by
  have hfresh : ∀ id, ¬ m.iss id s.c := fun id hi => by rw [h.iss] at hi; omega
  unfold matOne
  split
  · split
    · rename_i hnil hfull
      obtain ⟨m', e1, e2, e3, e4, e5, e6⟩ := virt_obj (S := S) (m := m) h.rel (id := s.n) (o' := ⟨s.c, false, []⟩) (dc := 1) (c := s.c) rfl (hfresh _) rfl rfl
      refine ⟨m', e1, ⟨?_, ?_, e5, fun t => ?_, h.size, h.defers, fun id hid => ?_, Nat.le_succ_of_le h.n0⟩, e6⟩
      · rw [e2, h.h]; exact (hp_get_set _ _ _).symm
      · rw [e4, h.iss]; funext _ g; apply propext; simp only; omega
      · show RV S m' (Env.get ((p.1, .osl s.n s.c 0 0 p.2.2 none) :: s.env) t) _
        rw [env_get_cons]
        by_cases ht : t = p.1
        · subst ht
          simp only [upd_same]
          have := h.env p.1
          rw [hfull] at this
          generalize hv : a.tmps.getD p.1 undef = v at this ⊢
          cases this with
          | full hrd =>
            refine .osl ?_ rfl fun o ho hg => ?_
            · rw [e4]; right; omega
            · refine ⟨by rw [e2, upd_same] at ho; simp only [Option.some.injEq] at ho; subst ho; rfl, ?_⟩
              unfold OslOK
              rw [e3, upd_same]
              exact ⟨rfl, rfl, rfl, _, rfl⟩
        · rw [upd_ne _ _ ht]; exact (h.env t).mono e6
      · show (s.hp.set s.n _).get id = none
        rw [hp_get_set]
        have hid' : s.n + 1 ≤ id := hid
        rw [upd_ne _ _ (by omega)]
        exact h.top id (by omega)
    · exact ⟨m, rfl, h, .refl S m⟩
  · rename_i j hj
    split
    · rename_i id g hptr
      split
      · rename_i o hlv
        split
        · rename_i hro hcell
          obtain ⟨ho', hg⟩ := live_spec hlv
          have ho : m.h id = some o := by rw [h.h]; exact ho'
          have hne : id ≠ s.n := fun he => by subst he; rw [h.top _ (Nat.le_refl _)] at ho'; cases ho'
          obtain ⟨m1, e1, e2, e3, e4, e5, e6⟩ := virt_obj (S := S) (m := m) h.rel (id := s.n) (o' := ⟨s.c, false, []⟩) (dc := 1) (c := s.c) rfl (hfresh _) rfl rfl
          have ho1 : m1.h id = some o := by rw [e2, upd_ne _ _ hne]; exact ho
          -- where the object lies
          cases hat : m1.at_ id with
          | none =>
            have := e5.none_ id o ho1 hat
            rw [this] at hcell; simp at hcell
          | some q =>
            obtain ⟨b, base⟩ := q
            have hkind : kindL o.cells = 0 := by
              have h9 := h.env p.1
              rw [hptr] at h9
              exact h9.ptr_kind (o := o) (by rw [h.h]; exact hlv)
            obtain ⟨hS, cs, T, fz, hrow, hfz, hsz, hc⟩ := e5.cellsAt hkind ho1 hat
            obtain ⟨m', w1, w2, w3, w4, w5, w6⟩ := write_obj (S := S) (m := m1) (id := id) (o := o) (o' := ⟨g, false, o.cells.set j (.osl s.n s.c 0 0 p.2.2 none)⟩) (b := b) (base := base) (base' := base) (dc := 0) (c := s.c) (cs := cs) (cs' := cs) (w' := m1.w)
              e5 ho1 hat hro hkind hrow (setRow_same hrow).symm rfl (by simpa using hsz) (.inl ⟨hg.symm, rfl, by simp, rfl⟩) (by
                intro k v hv
                simp only [List.getElem?_set] at hv
                by_cases hk : j = k
                · subst hk
                  have hjl : j < o.cells.length := (List.getElem?_eq_some_iff.1 hcell).1
                  simp [hjl] at hv; subst hv
                  obtain ⟨g1, x, g2, g3⟩ := hc j _ hcell
                  refine ⟨rfl, x, g2, ?_⟩
                  cases g3 with
                  | full hrd =>
                    refine .osl ?_ rfl fun o2 ho2 hg2 => ?_
                    · rw [e4]; right; omega
                    · refine ⟨by rw [e2, upd_same] at ho2; simp only [Option.some.injEq] at ho2; subst ho2; rfl, ?_⟩
                      unfold OslOK
                      rw [e3, upd_same]
                      exact ⟨rfl, rfl, rfl, _, rfl⟩
                · rw [if_neg hk] at hv; exact hc k v hv)
            refine ⟨m', by rw [w1, e1], ⟨?_, ?_, w5, fun t => ((h.env t).mono e6).mono w6, h.size, h.defers, fun i hi => ?_, Nat.le_succ_of_le h.n0⟩, e6.trans w6⟩
            · rw [w2, e2, h.h]
              show _ = ((s.hp.set s.n _).set id _).get
              rw [hp_get_set, hp_get_set]
            · rw [w4, e4, h.iss]; funext _ g; apply propext; simp only; omega
            · show ((s.hp.set s.n _).set id _).get i = none
              rw [hp_get_set, hp_get_set]
              have hi' : s.n + 1 ≤ i := hi
              have hidn : id < s.n := by
                rcases Nat.lt_or_ge id s.n with h1 | h1
                · exact h1
                · rw [h.top id h1] at ho'; cases ho'
              rw [upd_ne _ _ (by omega), upd_ne _ _ (by omega)]
              exact h.top i (by omega)
        · exact ⟨m, rfl, h, .refl S m⟩
      · exact ⟨m, rfl, h, .refl S m⟩
    · exact ⟨m, rfl, h, .refl S m⟩

theorem mats_sound [Gl] : ∀ (l : List (Nat × Option Nat × Nat)) {s : St} {m : M}, RS S N s m a → ∃ m', m'.w = m.w ∧ RS S N (mats s l) m' a ∧ Evo S m m'
  | [], s, m, h => ⟨m, rfl, h, .refl S m⟩
  | p :: r, s, m, h => by
    obtain ⟨m1, g1, g2, g3⟩ := matOne_sound h p
    obtain ⟨m2, k1, k2, k3⟩ := mats_sound r g2
    exact ⟨m2, k1.trans g1, k2, g3.trans k3⟩

theorem keep_get (e : Env) : ∀ (l : List Nat) (t : Nat), (e.keep l).get t = e.get t ∨ (e.keep l).get t = .any
  | [], t => .inr rfl
  | x :: r, t => by
    simp only [Env.keep, env_get_cons]
    by_cases h : t = x
    · subst h; simp
    · rw [upd_ne _ _ h]; exact keep_get e r t

theorem keepSt_sound [Gl] (h : RS S N s m a) (l : Option (List Nat)) : RS S N (keepSt s l) m a := by
  cases l with
  | none => exact h
  | some l =>
    refine ⟨h.h, h.iss, h.rel, fun t => ?_, h.size, h.defers, h.top, h.n0⟩
    rcases keep_get s.env l t with e | e
    · show RV S m ((s.env.keep l).get t) _
      rw [e]; exact h.env t
    · show RV S m ((s.env.keep l).get t) _
      rw [e]; exact .any _

end

theorem matOne_log (s : St) (p : Nat × Option Nat × Nat) : Log s (matOne s p) := by
  unfold matOne
  split
  · split
    · refine ⟨rfl, Nat.le_succ _, Nat.le_succ _, fun h0 ht id hid => ?_, fun h0 id hid hw => ⟨hw, ?_⟩, fun h0 id hid hn => ?_⟩
      · show (s.hp.set s.n _).get id = none
        rw [hp_get_set]
        have hid' : s.n + 1 ≤ id := hid
        rw [upd_ne _ _ (by omega)]
        exact ht id (by omega)
      · show (s.hp.set s.n _).get id = _
        rw [hp_get_set, upd_ne _ _ (by omega)]
      · have hn' : (s.hp.set s.n ⟨s.c, false, []⟩).get id = none := hn
        rw [hp_get_set, upd_ne _ _ (by omega)] at hn'
        exact hn'
    · exact Log.refl s
  · split
    · rename_i id g hptr
      split
      · rename_i o hlv
        split
        · rename_i hro hcell
          obtain ⟨ho', hg⟩ := live_spec hlv
          refine ⟨rfl, Nat.le_succ _, Nat.le_succ _, fun h0 ht i hi => ?_, fun h0 i hi hw => ?_, fun h0 i hi hn => ?_⟩
          · show ((s.hp.set s.n _).set id _).get i = none
            rw [hp_get_set, hp_get_set]
            have hi' : s.n + 1 ≤ i := hi
            have hidn : id < s.n := by
              rcases Nat.lt_or_ge id s.n with h1 | h1
              · exact h1
              · rw [ht id h1] at ho'; cases ho'
            rw [upd_ne _ _ (by omega), upd_ne _ _ (by omega)]
            exact ht i (by omega)
          · obtain ⟨h1, h2⟩ := addNew_mem hw
            refine ⟨h1, ?_⟩
            have := h2 hi
            simp only [List.map_cons, List.map_nil, List.mem_singleton] at this
            show ((s.hp.set s.n _).set id _).get i = _
            rw [hp_get_set, hp_get_set, upd_ne _ _ this, upd_ne _ _ (by omega)]
          · have hn' : ((s.hp.set s.n ⟨s.c, false, []⟩).set id _).get i = none := hn
            rw [hp_get_set, hp_get_set] at hn'
            by_cases hid : i = id
            · subst hid; simp at hn'
            · rw [upd_ne _ _ hid, upd_ne _ _ (by omega)] at hn'; exact hn'
        · exact Log.refl s
      · exact Log.refl s
    · exact Log.refl s

theorem mats_log : ∀ (l : List (Nat × Option Nat × Nat)) (s : St), Log s (mats s l)
  | [], s => Log.refl s
  | p :: r, s => (matOne_log s p).trans (mats_log r _)

theorem keepSt_log (s : St) (l : Option (List Nat)) : Log s (keepSt s l) := by
  cases l <;> exact ⟨rfl, Nat.le_refl _, Nat.le_refl _, fun _ h => h, fun _ _ _ h => ⟨h, rfl⟩, fun _ _ _ h => h⟩

theorem runOps_log [Gl] {cfg : Cfg} {fid rid : Nat} {call : CallF} {all : List Oper} : ∀ {l : List Oper} {s s' : St}, runOps P cfg fid rid call all l s = some s' → Log s s'
  | [], s, s', h => by simp [runOps] at h; subst h; exact Log.refl s
  | o :: r, s, s', h => by
    simp only [runOps] at h
    split at h
    · rename_i q hq
      exact (Log.put (opW_top hq)).trans (runOps_log h)
    · simp at h

theorem runRegion_log [Gl] {cfg : Cfg} {call : CallF} {fid id : Nat} {ops : Array Oper} {draw : Bool} {s s' : St} (h : runRegion P cfg call fid id ops draw s = some s') : Log s s' := by
  unfold runRegion at h
  split at h
  · simp at h
  · split at h
    · rename_i t ht
      simp only [Option.some.injEq] at h; subst h
      exact ((runOps_log ht).trans (mats_log _ _)).trans (keepSt_log _ _)
    · simp at h

theorem trunc_get (n : Nat) : ∀ (h : Hp) (id : Nat), (Hp.trunc n h).get id = if id < n then h.get id else none
  | [], id => by simp [Hp.trunc, Hp.get]
  | (k, o) :: r, id => by
    simp only [Hp.trunc]
    split
    · rename_i hk
      rw [Nat.blt_eq] at hk
      simp only [Hp.get]
      by_cases he : k = id
      · subst he; simp [hk]
      · rw [beq_ff he]; simp only; exact trunc_get n r id
    · rename_i hk
      have hk' : ¬ k < n := fun h => by rw [← Nat.blt_eq] at h; rw [h] at hk; cases hk
      simp only [Hp.get]
      by_cases he : k = id
      · subst he; rw [trunc_get n r k]; simp [hk']
      · rw [beq_ff he]; simp only; exact trunc_get n r id

/-- The state at the end of a round of a loop. -/
theorem cut_log {s t : St} (h : Log s t) : Log s { t with hp := Hp.trunc s.n t.hp, n := s.n } := by
  refine ⟨h.n0, Nat.le_refl _, h.c, fun h0 ht id hid => ?_, fun h0 id hid hw => ?_, fun h0 id hid hn => ?_⟩
  · show (Hp.trunc s.n t.hp).get id = none
    rw [trunc_get, if_neg (by have : s.n ≤ id := hid; omega)]
  · obtain ⟨h1, h2⟩ := h.wl h0 id hid hw
    refine ⟨h1, ?_⟩
    show (Hp.trunc s.n t.hp).get id = _
    rw [trunc_get, if_pos (by omega)]; exact h2
  · have hn' : (Hp.trunc s.n t.hp).get id = none := hn
    rw [trunc_get, if_pos (by omega)] at hn'
    exact h.stay h0 id hid hn'

theorem execF_log [Gl] {cfg : Cfg} : ∀ {k : Nat} {fid : FuncId} {c : Code} {s s' : St} {e : Ex}, execF P cfg k fid c s = some (e, s') → Log s s'
  | 0, fid, c, s, s', e, h => by simp [execF] at h
  | k + 1, fid, c, s, s', e, h => by
    cases c <;> simp only [execF] at h <;> try (simp at h; done)
    case skip => simp at h; obtain ⟨_, rfl⟩ := h; exact Log.refl _
    case label l => simp at h; obtain ⟨_, rfl⟩ := h; exact Log.refl _
    case ret => simp at h; obtain ⟨_, rfl⟩ := h; exact Log.refl _
    case exit id => simp at h; obtain ⟨_, rfl⟩ := h; exact Log.refl _
    case seq x y =>
      split at h
      · rename_i t ht; exact (execF_log ht).trans (execF_log h)
      · exact execF_log h
    case cond q x y =>
      split at h
      · exact execF_log h
      · exact execF_log h
      · simp at h
    case block id b =>
      split at h
      · rename_i i t ht
        split at h <;> (simp at h; obtain ⟨_, rfl⟩ := h; exact execF_log ht)
      · exact execF_log h
    case loop b =>
      split at h
      · rename_i t ht
        refine Log.trans ?_ (execF_log h)
        split
        · exact execF_log ht
        · exact cut_log (execF_log ht)
      · exact execF_log h
    case region id ops draw =>
      simp only [Option.map_eq_some_iff] at h
      obtain ⟨t, ht, h⟩ := h
      simp at h; obtain ⟨_, rfl⟩ := h
      exact runRegion_log ht

end Go.Ac
end

section
set_option linter.unusedVariables false
set_option linter.unusedSimpArgs false
namespace Go.Ac
variable {P : Program}

def Ex.toExit : Ex → Exit
  | .normal => .normal
  | .exit id => .exit id
  | .ret => .ret

/-! ### Loops -/

def LoopWp (P : Program) (c : Code) (Q : Exit → Act → World → Prop) (a : Act) (w : World) : Prop :=
  ∀ (b : Frame) (k : List Item) (cs : List Frame), ∃ e a' w', Q e a' w' ∧ Arrives P (lone (b.at a (.code c :: .inLoop c :: k)) cs w) b k cs e a' w'

theorem LoopWp.wp {c : Code} {Q : Exit → Act → World → Prop} {a : Act} {w : World} (h : LoopWp P c Q a w) : (Code.loop c).wp P Q a w :=
  fun b k cs => let ⟨e, a', w', q, r⟩ := h b k cs; ⟨e, a', w', q, .of_steps (.one step_loop) r⟩

theorem LoopWp.round {c : Code} {Q : Exit → Act → World → Prop} {a : Act} {w : World} (h : c.wp P (Exit.then (LoopWp P c Q) Q) a w) : LoopWp P c Q a w := by
  intro b k cs
  obtain ⟨e, a₁, w₁, hq, harr⟩ := h b (.inLoop c :: k) cs
  cases e with
  | normal =>
    obtain ⟨e₂, a₂, w₂, hq₂, harr₂⟩ := hq b k cs
    exact ⟨e₂, a₂, w₂, hq₂, .of_steps (Steps.trans harr (.one step_inLoop)) harr₂⟩
  | exit id => exact ⟨_, a₁, w₁, hq, .pass (x := .inLoop c) rfl (fun _ _ => .inl (by simp)) harr⟩
  | goto l => exact ⟨_, a₁, w₁, hq, .pass (x := .inLoop c) rfl (fun _ _ => .inl (by simp)) harr⟩
  | ret => exact ⟨_, a₁, w₁, hq, .pass (x := .inLoop c) rfl (fun _ _ => .inl (by simp)) harr⟩
  | panic ch => exact ⟨_, a₁, w₁, hq, .pass (x := .inLoop c) rfl (fun _ _ => .inl (by simp)) harr⟩
  | outgrown => exact ⟨_, a₁, w₁, hq, .pass (x := .inLoop c) rfl (fun _ _ => .inl (by simp)) harr⟩

/-! ### Results -/

section
variable {S : Nat → Prop} {m : M} {s : St} {N : Nat} {a : Act}

theorem loadV_ptr {look : Look} {i : TI} {p : V} {v : Value} {r : Res} (h : loadV look i p = some r) (hl : look = m.h) (hv : RV S m p v) : ∃ ad, v = .pointer (some ad) := by
  unfold loadV at h
  split at h
  · rename_i id g off
    cases hlv : live look id g with
    | none => simp [hlv] at h
    | some o =>
      obtain ⟨_, _, b, base, _, rfl⟩ := hv.ptr_live (hl ▸ hlv)
      exact ⟨_, rfl⟩
  · cases hv with | vref f hf hr => exact ⟨_, rfl⟩
  · simp at h

def resultOf (tmps : Array Value) : ResultVar → Sem Value
  | .tmp t => pure (tmps.getD t undef)
  | .cell a t => do loadVar t (← asAddr (tmps.getD a undef))

theorem resultV_sound [Gl] (h : RS S N s m a) {r : ResultVar} {v : V} (hr : resultV P s r = some v) : ∃ x, (resultOf a.tmps r).run P m.w = .ok x m.w ∧ RV S m v x := by
  cases r with
  | tmp t => simp [resultV] at hr; subst hr; exact ⟨_, rfl, h.env t⟩
  | cell q t =>
    simp only [resultV, Option.bind_eq_some_iff, Option.map_eq_some_iff] at hr
    obtain ⟨i, hi, y, hy, rfl⟩ := hr
    obtain ⟨x, g1, g2⟩ := loadV_sound (c := 0) hi hy h.h.symm h.rel (h.env q)
    obtain ⟨ad, had⟩ := loadV_ptr hy h.h.symm (h.env q)
    refine ⟨x, ?_, g2.2.2.1⟩
    rw [had] at g1
    simp only [resultOf, had, asAddr, Sem.run_bind, Sem.run_pure, Result.andThen_ok]
    simpa [Instr.loadAt, Instr.sureAddr] using g1

theorem resultsV_sound [Gl] (h : RS S N s m a) : ∀ {l : List ResultVar} {vs : List V}, resultsV P s l = some vs → ∃ xs, (l.mapM (resultOf a.tmps)).run P m.w = .ok xs m.w ∧ RVs S m vs xs
  | [], vs, hr => by simp [resultsV] at hr; subst hr; exact ⟨[], by simp, .nil⟩
  | r :: l, vs, hr => by
    simp only [resultsV] at hr
    split at hr
    · rename_i v us h1 h2
      simp only [Option.some.injEq] at hr; subst hr
      obtain ⟨x, g1, g2⟩ := resultV_sound h h1
      obtain ⟨xs, g3, g4⟩ := resultsV_sound h h2
      exact ⟨x :: xs, by simp [List.mapM_cons, Sem.run_bind, g1, g3], .cons g2 g4⟩
    · simp at hr

theorem results_sound [Gl] (h : RS S N s m a) {fn : Func} {rs : List V} (hr : resultsV P s fn.results.toList = some rs) : ∃ x, (results fn a.tmps).run P m.w = .ok x m.w ∧ RV S m (tup rs) x := by
  obtain ⟨xs, g1, g2⟩ := resultsV_sound h hr
  have e : results fn a.tmps = (do let vs ← fn.results.mapM (resultOf a.tmps); pure (if h : vs.size = 1 then vs[0] else .tuple vs)) := by
    unfold results
    congr 1
  have hrun : (fn.results.mapM (resultOf a.tmps)).run P m.w = .ok xs.toArray m.w := by
    rw [Array.mapM_eq_mapM_toList]
    simp [g1]
  rw [e]
  simp only [Sem.run_bind, hrun, Result.andThen_ok, Sem.run_pure]
  refine ⟨_, rfl, ?_⟩
  cases rs with
  | nil =>
    have : xs = [] := List.length_eq_zero_iff.1 (by rw [← g2.1]; rfl)
    subst this
    exact g2.tuple
  | cons v r =>
    obtain ⟨x, ys, rfl, k1, k2⟩ := g2.cases
    cases r with
    | nil =>
      have : ys = [] := List.length_eq_zero_iff.1 (by rw [← k2.1]; rfl)
      subst this
      simpa [tup] using k1
    | cons u r =>
      obtain ⟨y, zs, rfl, k3, k4⟩ := k2.cases
      simp only [tup]
      rw [dif_neg (by simp)]
      exact g2.tuple

/-- The objects that a loop's round has made are let go. -/
theorem trunc_sound [Gl] (h : RS S N s m a) {n : Nat} (hn : s.n0 ≤ n) : ∃ m', m'.w = m.w ∧ RS S N { s with hp := Hp.trunc n s.hp, n := n } m' a ∧ Evo S m m' := by
  obtain ⟨g1, g2⟩ := h.rel.less (h' := (Hp.trunc n s.hp).get) (fun id o ho => by
    rw [trunc_get] at ho
    split at ho
    · rw [h.h]; exact ho
    · cases ho)
  refine ⟨{ m with h := (Hp.trunc n s.hp).get }, rfl, ⟨rfl, h.iss, g1, fun t => (h.env t).mono g2, h.size, h.defers, fun id hid => ?_, hn⟩, g2⟩
  show (Hp.trunc n s.hp).get id = none
  rw [trunc_get, if_neg (by have : n ≤ id := hid; omega)]

/-- What a caller is handed. -/
theorem finish_sound [Gl] (h : RS S N s m a) {thr : Bool} {n : Nat} {v : V} {x : Value} {r : CR} (hv : RV S m v x) (hr : finish thr n s v = some r) : ∃ m', m'.w = m.w ∧ Rel S m' ∧ Evo S m m' ∧ RV S m' r.v x ∧ m'.h = r.hp.get ∧ m'.iss = fun _ g => g < r.c := by
  unfold finish at hr
  split at hr
  · rename_i w ids hcl
    have hcl' : closeT s.hp.get v = some (w, ids) := by
      cases thr with
      | true => simp at hcl
      | false => simpa using hcl
    split at hr
    · rename_i hok
      simp only [Option.some.injEq] at hr; subst hr
      obtain ⟨m1, e1, hb⟩ := ros h.rel ids
      have hw := closeT_sound h.rel (by rw [h.h]; exact hcl') hv hb (fun i hi => hi)
      cases hfl : w.flat with
      | true =>
        obtain ⟨g1, g2⟩ := h.rel.less (h' := (Hp.trunc n s.hp).get) (fun id o ho => by
          rw [trunc_get] at ho
          split at ho
          · rw [h.h]; exact ho
          · cases ho)
        exact ⟨{ m with h := (Hp.trunc n s.hp).get }, rfl, g1, g2, hw.flat hfl, rfl, h.iss⟩
      | false =>
        rw [hfl] at hok
        simp only [Bool.false_or] at hok
        have hsame : ∀ id, id < n → m1.h id = m.h id := fun id hid => hb.not id fun hm => by
          have := List.all_eq_true.1 hok id hm
          have := Nat.le_of_ble_eq_true this
          omega
        obtain ⟨g1, g2⟩ := hb.rel.less (h' := (Hp.trunc n s.hp).get) (fun id o ho => by
          rw [trunc_get] at ho
          split at ho
          · rename_i hlt; rw [hsame id hlt, h.h]; exact ho
          · cases ho)
        exact ⟨{ m1 with h := (Hp.trunc n s.hp).get }, hb.w, g1, hb.evo.trans g2, hw.mono g2, rfl, by show m1.iss = _; rw [hb.iss]; exact h.iss⟩
    · simp at hr
  · simp only [Option.some.injEq] at hr; subst hr
    exact ⟨m, rfl, h.rel, .refl S m, hv, h.h, h.iss⟩

end

theorem envOf_get : ∀ (vs : List V) (k t : Nat), (envOf k vs).get t = if k ≤ t then (vs[t - k]?).getD .any else .any
  | [], k, t => by simp [envOf, Env.get]
  | v :: r, k, t => by
    simp only [envOf, env_get_cons]
    by_cases h : t = k
    · subst h; simp
    · rw [upd_ne _ _ h, envOf_get r (k + 1) t]
      by_cases hk : k ≤ t
      · rw [if_pos hk, if_pos (by omega)]
        rw [show t - k = (t - (k + 1)) + 1 by omega]; simp
      · rw [if_neg hk, if_neg (by omega)]

theorem finish_log {s0 s : St} {thr : Bool} {v : V} {r : CR} {hp : Hp} {n c : Nat} {vs : List V} (hl : Log (enter vs hp n c) s) (hr : finish thr n s v = some r) (ht : Tops hp n) : LogOK hp n c r := by
  have top := hl.top (Nat.le_refl _) ht
  have wl : ∀ id, id < n → id ∉ s.wl → s.hp.get id = hp.get id := fun id hid hw => (hl.wl (Nat.le_refl _) id hid hw).2
  have stay : ∀ id, id < n → s.hp.get id = none → hp.get id = none := fun id hid hn => hl.stay (Nat.le_refl _) id hid hn
  unfold finish at hr
  split at hr
  · split at hr
    · simp only [Option.some.injEq] at hr; subst hr
      refine ⟨Nat.le_refl _, hl.c, fun id hid => ?_, fun id hid hw => ?_, fun id hid hn => ?_⟩
      · show (Hp.trunc n s.hp).get id = none
        rw [trunc_get, if_neg (by have : n ≤ id := hid; omega)]
      · show (Hp.trunc n s.hp).get id = _
        rw [trunc_get, if_pos hid]; exact wl id hid hw
      · have hn' : (Hp.trunc n s.hp).get id = none := hn
        rw [trunc_get, if_pos hid] at hn'; exact stay id hid hn'
    · simp at hr
  · simp only [Option.some.injEq] at hr; subst hr
    exact ⟨hl.n, hl.c, top, wl, stay⟩

/-! ### Code -/

def Sound [Gl] (P : Program) (cfg : Cfg) (k : Nat) : Prop := ∀ {fid : FuncId} {c : Code} {s s' : St} {e : Ex}, execF P cfg k fid c s = some (e, s') → ∀ {S : Nat → Prop} {N : Nat} {m : M} {a : Act}, codeOK N c = true → RS S N s m a →
  ∀ {Q : Exit → Act → World → Prop}, (∀ m' a', RS S N s' m' a' → Evo S m m' → Q e.toExit a' m'.w) → c.wp P Q a m.w

def LoopSound [Gl] (P : Program) (cfg : Cfg) (k : Nat) : Prop := ∀ {fid : FuncId} {c : Code} {s s' : St} {e : Ex}, execF P cfg k fid (.loop c) s = some (e, s') → ∀ {S : Nat → Prop} {N : Nat} {m : M} {a : Act}, codeOK N c = true → RS S N s m a →
  ∀ {Q : Exit → Act → World → Prop}, (∀ m' a', RS S N s' m' a' → Evo S m m' → Q e.toExit a' m'.w) → LoopWp P c Q a m.w

theorem callBy_inv {cfg : Cfg} {run : FuncId → Code → St → Option (Ex × St)} {f : FuncId} {vs : List V} {hp : Hp} {n c : Nat} {r : CR} (h : callBy P cfg run f vs hp n c = some r) :
    ∃ fn body e s rs, P.funcs[f]? = some fn ∧ fn.body = some body ∧ vs.length ≤ fn.ntmps ∧ codeOK fn.ntmps body = true ∧ run f body (enter vs hp n c) = some (e, s) ∧ (e = .normal ∨ e = .ret) ∧
      resultsV P s fn.results.toList = some rs ∧ finish (cfg.thr f) n s (tup rs) = some r := by
  unfold callBy at h
  split at h
  · rename_i fn hfn
    split at h
    · rename_i body hbody
      split at h
      · rename_i hok
        simp only [Bool.and_eq_true] at hok
        unfold leave at h
        split at h
        · rename_i s hs
          split at h
          · rename_i rs hrs; exact ⟨fn, body, .normal, s, rs, hfn, hbody, Nat.le_of_ble_eq_true hok.1, hok.2, hs, .inl rfl, hrs, h⟩
          · simp at h
        · rename_i s hs
          split at h
          · rename_i rs hrs; exact ⟨fn, body, .ret, s, rs, hfn, hbody, Nat.le_of_ble_eq_true hok.1, hok.2, hs, .inr rfl, hrs, h⟩
          · simp at h
        · simp at h
      · simp at h
    · simp at h
  · simp at h

theorem callBy_bodies {cfg : Cfg} {run : FuncId → Code → St → Option (Ex × St)} : Bodies P (callBy P cfg run) := by
  intro f vs hp n c r h
  obtain ⟨fn, body, e, s, rs, h1, h2, _⟩ := callBy_inv h
  exact ⟨fn, h1, by rw [h2]; rfl⟩

theorem callBy_ok [Gl] {cfg : Cfg} {k : Nat} (hs : Sound P cfg k) : CallOK P (callBy P cfg (execF P cfg k)) where
  log := by
    intro f vs hp n c r h ht
    obtain ⟨fn, body, e, s, rs, h1, h2, h3, h4, h5, h6, h7, h8⟩ := callBy_inv h
    exact finish_log (s0 := s) (execF_log h5) h8 ht
  ok := by
    intro f vs hp n c r h ht S m xs hh hi hR hv
    obtain ⟨fn, body, e, s, rs, h1, h2, h3, h4, h5, h6, h7, h8⟩ := callBy_inv h
    refine calls_of_wp h1 h2 ?_
    have hlen : xs.length ≤ fn.ntmps := by rw [← hv.1]; exact h3
    have h0 : RS S fn.ntmps (enter vs hp n c) m { tmps := xs.toArray ++ Array.replicate (fn.ntmps - xs.toArray.size) undef, defers := [] } := by
      refine ⟨hh, hi, hR, fun t => ?_, by simp; omega, rfl, ht, Nat.le_refl _⟩
      show RV S m ((envOf 0 vs).get t) _
      rw [envOf_get, if_pos (Nat.zero_le t)]
      cases hvt : vs[t - 0]? with
      | none => exact .any _
      | some v =>
        simp only [Nat.sub_zero] at hvt
        have hlt : t < xs.length := by rw [← hv.1]; exact (List.getElem?_eq_some_iff.1 hvt).1
        have := hv.2 t v xs[t] hvt (by simp [hlt])
        have e : (xs.toArray ++ Array.replicate (fn.ntmps - xs.toArray.size) undef).getD t undef = xs[t] := by
          have h1 : t < xs.length + (fn.ntmps - xs.length) := by omega
          simp [Array.getD, Array.getElem_append, hlt, h1]
        show RV S m v ((xs.toArray ++ Array.replicate (fn.ntmps - xs.toArray.size) undef).getD t undef)
        rw [e]; exact this
    refine hs h5 h4 h0 fun m' a' k1 k2 => ?_
    obtain ⟨x, g1, g2⟩ := results_sound k1 h7
    obtain ⟨m2, q1, q2, q3, q4, q5, q6⟩ := finish_sound k1 g2 h8
    have hR' : ∃ x_1 m'_1, Ending.returned x = Ending.returned x_1 ∧ m'_1.w = m'.w ∧ Back S m r x_1 m'_1 := ⟨x, m2, rfl, q1, q2, k2.trans q3, q4, q5, q6⟩
    rcases h6 with rfl | rfl
    · exact ⟨k1.defers, x, g1, hR'⟩
    · exact ⟨k1.defers, x, g1, hR'⟩

theorem exec_sound [Gl] (cfg : Cfg) (hN : Pre P cfg) (hm : P.follows .mixedOrders = true) : ∀ k, Sound P cfg k ∧ LoopSound P cfg k
  | 0 => ⟨fun {fid c s s' e} h => by simp [execF] at h, fun {fid c s s' e} h => by simp [execF] at h⟩
  | k + 1 => by
    obtain ⟨ihS, ihL⟩ := exec_sound cfg hN hm k
    have hLoop : LoopSound P cfg (k + 1) := by
      intro fid c s s' e h S N m a hok hr Q hQ
      simp only [execF] at h
      split at h
      · rename_i t ht
        refine LoopWp.round (ihS ht hok hr fun m1 a1 k1 k2 => ?_)
        show LoopWp P c Q a1 m1.w
        have hl := execF_log ht
        split at h
        · exact ihL h hok k1 fun m' a' q1 q2 => hQ m' a' q1 (k2.trans q2)
        · obtain ⟨m2, g1, g2, g3⟩ := trunc_sound k1 (n := s.n) (by rw [hl.n0]; exact hr.n0)
          rw [← g1]
          exact ihL h hok g2 fun m' a' q1 q2 => hQ m' a' q1 (k2.trans (g3.trans q2))
      · rename_i hne
        refine LoopWp.round (ihS h hok hr fun m1 a1 k1 k2 => ?_)
        have := hQ m1 a1 k1 k2
        cases e with
        | normal => exact absurd h (hne s')
        | exit id => exact this
        | ret => exact this
    refine ⟨?_, hLoop⟩
    intro fid c s s' e h S N m a hok hr Q hQ
    cases c <;> try (simp only [execF] at h; simp at h; done)
    case skip => simp only [execF] at h; simp at h; obtain ⟨rfl, rfl⟩ := h; exact wp_skip (hQ m a hr (.refl S m))
    case label l => simp only [execF] at h; simp at h; obtain ⟨rfl, rfl⟩ := h; exact wp_label (hQ m a hr (.refl S m))
    case ret => simp only [execF] at h; simp at h; obtain ⟨rfl, rfl⟩ := h; exact wp_ret (hQ m a hr (.refl S m))
    case exit id => simp only [execF] at h; simp at h; obtain ⟨rfl, rfl⟩ := h; exact wp_exit (hQ m a hr (.refl S m))
    case seq x y =>
      simp only [codeOK, Bool.and_eq_true] at hok
      simp only [execF] at h
      split at h
      · rename_i t ht
        refine wp_seq (ihS ht hok.1 hr fun m1 a1 k1 k2 => ?_)
        exact ihS h hok.2 k1 fun m' a' q1 q2 => hQ m' a' q1 (k2.trans q2)
      · rename_i hne
        refine wp_seq (ihS h hok.1 hr fun m1 a1 k1 k2 => ?_)
        have := hQ m1 a1 k1 k2
        cases e with
        | normal => exact absurd h (hne s')
        | exit id => exact this
        | ret => exact this
    case cond q x y =>
      simp only [codeOK, Bool.and_eq_true] at hok
      simp only [execF] at h
      have hq : RV S m (evalV s.env q) (a.eval q) := by
        have : EnvAt S m s.env a (match q with | .tmp t => [t] | _ => []) := fun t _ => hr.env t
        exact evalV_RV hr.rel this fun t ht => by subst ht; simp
      split at h
      · rename_i hb
        rw [hb] at hq
        exact wp_cond_true hq.bool_inv (ihS h hok.1 hr hQ)
      · rename_i hb
        rw [hb] at hq
        exact wp_cond_false hq.bool_inv (ihS h hok.2 hr hQ)
      · simp at h
    case block id b =>
      simp only [codeOK] at hok
      simp only [execF] at h
      split at h
      · rename_i i t ht
        split at h
        · rename_i hid
          simp at h; obtain ⟨rfl, rfl⟩ := h
          refine wp_block (ihS ht hok hr fun m1 a1 k1 k2 => ?_)
          show (if i = id then _ else _)
          rw [if_pos hid]
          exact hQ m1 a1 k1 k2
        · rename_i hid
          simp at h; obtain ⟨rfl, rfl⟩ := h
          refine wp_block (ihS ht hok hr fun m1 a1 k1 k2 => ?_)
          show (if i = id then _ else _)
          rw [if_neg hid]
          exact hQ m1 a1 k1 k2
      · rename_i hne
        refine wp_block (ihS h hok hr fun m1 a1 k1 k2 => ?_)
        have := hQ m1 a1 k1 k2
        cases e with
        | normal => exact this
        | exit id' => exact absurd h (hne id' s')
        | ret => exact this
    case loop b => simp only [codeOK] at hok; exact (hLoop h hok hr hQ).wp
    case region id ops draw =>
      simp only [codeOK] at hok
      simp only [execF, Option.map_eq_some_iff] at h
      obtain ⟨t, ht, h⟩ := h
      simp at h; obtain ⟨rfl, rfl⟩ := h
      unfold runRegion at ht
      split at ht
      · simp at ht
      · rename_i hchk
        split at ht
        · rename_i u hu
          simp only [Option.some.injEq] at ht; subst ht
          refine region_ops hN hm (callBy_ok ihS) callBy_bodies hchk hu (fun i o d ho hd => ?_) hr fun m1 a1 k1 k2 => ?_
          · have := List.all_eq_true.1 hok o (by simpa using Array.mem_of_getElem? ho)
            rw [hd] at this
            simpa [Nat.blt_eq] using this
          · obtain ⟨m2, g1, g2, g3⟩ := mats_sound (cfg.mat fid id) k1
            rw [← g1]
            exact hQ m2 a1 (keepSt_sound g2 _) (k2.trans g3)
        · simp at ht

/-- A call does what the abstract machine says, whatever the fuel. -/
theorem callF_ok [Gl] (cfg : Cfg) (hN : Pre P cfg) (hm : P.follows .mixedOrders = true) (k : Nat) : CallOK P (callF P cfg k) := callBy_ok (exec_sound cfg hN hm k).1

end Go.Ac
end

section
set_option linter.unusedVariables false
set_option linter.unusedSimpArgs false
namespace Go.Ac
variable {P : Program}

section
variable {look : Look}

end

/-! ### What a call comes to -/

/-- A call, the fuel being enough. -/
def Ev [Gl] (P : Program) (cfg : Cfg) (f : FuncId) (vs : List V) (hp : Hp) (n c : Nat) (r : CR) : Prop := ∃ K, ∀ k, K ≤ k → callF P cfg k f vs hp n c = some r

open Classical in
/-- What a call comes to. -/
noncomputable def lim [Gl] (P : Program) (cfg : Cfg) : CallF := fun f vs hp n c => if h : ∃ r, Ev P cfg f vs hp n c r then some h.choose else none

section
variable {cfg : Cfg}

theorem Ev.unique [Gl] {f : FuncId} {vs : List V} {hp : Hp} {n c : Nat} {u v : CR} (h : Ev P cfg f vs hp n c u) (k : Ev P cfg f vs hp n c v) : u = v := by
  obtain ⟨K, hK⟩ := h
  obtain ⟨L, hL⟩ := k
  have h1 := hK (max K L) (Nat.le_max_left _ _)
  rw [hL (max K L) (Nat.le_max_right _ _)] at h1
  exact (Option.some.inj h1).symm

theorem lim_some [Gl] {f : FuncId} {vs : List V} {hp : Hp} {n c : Nat} {r : CR} (h : lim P cfg f vs hp n c = some r) : Ev P cfg f vs hp n c r := by
  unfold lim at h
  split at h
  · rename_i hx
    simp only [Option.some.injEq] at h
    rw [← h]; exact hx.choose_spec
  · simp at h

theorem lim_of [Gl] {f : FuncId} {vs : List V} {hp : Hp} {n c : Nat} {r : CR} (h : Ev P cfg f vs hp n c r) : lim P cfg f vs hp n c = some r := by
  have hx : ∃ r, Ev P cfg f vs hp n c r := ⟨r, h⟩
  unfold lim
  rw [dif_pos hx, hx.choose_spec.unique h]

theorem callR_lim [Gl] {hp : Hp} {n c : Nat} {f : FuncId} {vs : List V} {r : Res} (h : callR cfg (lim P cfg) hp n c f vs = some r) : ∃ K, ∀ k, K ≤ k → callR cfg (callF P cfg k) hp n c f vs = some r := by
  unfold callR at h
  split at h
  · rename_i ws ids hcl
    split at h
    · rename_i r0 hr0
      obtain ⟨K, hK⟩ := lim_some hr0
      refine ⟨K, fun k hk => ?_⟩
      unfold callR
      rw [hcl]
      simp only [hK k hk]
      exact h
    · simp at h
  · rename_i hcl
    split at h
    · rename_i r0 hr0
      obtain ⟨K, hK⟩ := lim_some hr0
      refine ⟨K, fun k hk => ?_⟩
      unfold callR
      rw [hcl]
      simp only [hK k hk]
      exact h
    · simp at h

variable {fid rid : Nat}

theorem opW_lim [Gl] {all : List Oper} {o : Oper} {s : St} {r : Res} (h : opW P cfg fid rid (lim P cfg) all o s = some r) : ∃ K, ∀ k, K ≤ k → opW P cfg fid rid (callF P cfg k) all o s = some r := by
  unfold opW at h
  split at h
  · rename_i hw
    split at h
    · rename_i q hq
      have : ∃ K, ∀ k, K ≤ k → opR P cfg fid rid (callF P cfg k) o s = some q := by
        unfold opR at hq
        split at hq
        · rename_i fo args ts ho
          split at hq
          · rename_i f caps hf
            split at hq
            · rename_i p hp
              refine ⟨0, fun k hk => ?_⟩
              unfold opR
              rw [ho]
              simp only [hf, hp]
              exact hq
            · rename_i hp
              obtain ⟨K, hK⟩ := callR_lim hq
              refine ⟨K, fun k hk => ?_⟩
              unfold opR
              rw [ho]
              simp only [hf, hp]
              exact hK k hk
          · simp at hq
        · rename_i hno
          refine ⟨0, fun k hk => ?_⟩
          unfold opR
          split
          · rename_i fo args ts ho; exact absurd ho (hno fo args ts)
          · exact hq
      obtain ⟨K, hK⟩ := this
      refine ⟨K, fun k hk => ?_⟩
      unfold opW
      rw [hw]
      simp only [hK k hk]
      exact h
    · simp at h
  · rename_i hw
    exact ⟨0, fun k hk => by unfold opW; rw [hw]; exact h⟩
  · simp at h

theorem runOps_lim [Gl] {all : List Oper} : ∀ {l : List Oper} {s t : St}, runOps P cfg fid rid (lim P cfg) all l s = some t → ∃ K, ∀ k, K ≤ k → runOps P cfg fid rid (callF P cfg k) all l s = some t ∧
    ∀ ancs tr, checkOps P cfg fid rid (lim P cfg) all l ancs tr s = true → checkOps P cfg fid rid (callF P cfg k) all l ancs tr s = true
  | [], s, t, h => ⟨0, fun k _ => ⟨h, fun ancs tr hc => by cases ancs <;> exact hc⟩⟩
  | o :: r, s, t, h => by
    simp only [runOps] at h
    split at h
    · rename_i q hq
      obtain ⟨K1, h1⟩ := opW_lim hq
      obtain ⟨K2, h2⟩ := runOps_lim h
      refine ⟨max K1 K2, fun k hk => ?_⟩
      have hop := h1 k (Nat.le_trans (Nat.le_max_left _ _) hk)
      obtain ⟨h3, h4⟩ := h2 k (Nat.le_trans (Nat.le_max_right _ _) hk)
      refine ⟨by simp only [runOps, hop, h3], fun ancs tr hc => ?_⟩
      cases ancs with
      | nil => simp [checkOps] at hc
      | cons a ancs =>
        simp only [checkOps, hq, hop, Bool.and_eq_true] at hc ⊢
        exact ⟨hc.1, h4 _ _ hc.2⟩
    · simp at h

theorem region_lim [Gl] {ops : Array Oper} {draw : Bool} {s t : St} (h : runRegion P cfg (lim P cfg) fid rid ops draw s = some t) : ∃ K, ∀ k, K ≤ k → runRegion P cfg (callF P cfg k) fid rid ops draw s = some t := by
  unfold runRegion at h
  split at h
  · simp at h
  · rename_i hchk
    split at h
    · rename_i u hu
      obtain ⟨K, hK⟩ := runOps_lim hu
      refine ⟨K, fun k hk => ?_⟩
      obtain ⟨h1, h2⟩ := hK k hk
      unfold runRegion
      have : (if draw = true then orderOK ops.toList && checkOps P cfg fid rid (callF P cfg k) ops.toList ops.toList (anc ops.toList) [] s else true) = true := by
        cases draw with
        | false => rfl
        | true =>
          rw [if_pos rfl, Bool.and_eq_true] at hchk ⊢
          exact ⟨hchk.1, h2 _ _ hchk.2⟩
      rw [this, h1]
      exact h
    · simp at h

/-! ### Calls by data -/

/-- A call of a function that takes and hands back data. -/
noncomputable def den [Gl] (P : Program) (cfg : Cfg) (f : FuncId) (ws : List V) : Option V :=
  match lim P cfg f ws [] 0 0 with
  | some r => match closeT noLook r.v with
    | some _ => some r.v
    | none => none
  | none => none

theorem den_of [Gl] {f : FuncId} {ws : List V} {r : CR} (he : Ev P cfg f ws [] 0 0 r) (hv : (closeT noLook r.v).isSome = true) : den P cfg f ws = some r.v := by
  unfold den
  rw [lim_of he]
  obtain ⟨q, hq⟩ := Option.isSome_iff_exists.1 hv
  simp only [hq]

def putEnv (e : Env) (dst : Option Nat) (v : V) : Env := match dst with | some d => (d, v) :: e | none => e

/-- The slots alone keep the operations of a region apart. -/
def slotsApart (a b : Tr) : Bool :=
  (match a.ds with | some d => !(b.sl.contains d) && !(b.ds == some d) | none => true) && (match b.ds with | some d => !(a.sl.contains d) | none => true)

def stillTr (o : Oper) (all : List Oper) : Tr := ⟨[], [], opdSlots o all, o.dst, false, 0⟩

def stillCheck (all : List Oper) : List Oper → List (List Nat) → List Tr → Bool
  | o :: r, a :: ancs, tr => (tr.zipIdx.all fun p => a.contains p.2 || slotsApart p.1 (stillTr o all)) && stillCheck all r ancs (tr ++ [stillTr o all])
  | [], [], _ => true
  | _, _, _ => false

def stillOK (ops : Array Oper) (draw : Bool) : Bool := !draw || (orderOK ops.toList && stillCheck ops.toList ops.toList (anc ops.toList) [])

/-- Traces that differ in what has been looked at alone. -/
def Alike (a b : Tr) : Prop := a.wr = [] ∧ b.wr = [] ∧ a.all = false ∧ b.all = false ∧ a.sl = b.sl ∧ a.ds = b.ds ∧ a.dc = 0 ∧ b.dc = 0

/-- Pointwise alike. -/
def Alikes : List Tr → List Tr → Prop
  | [], [] => True
  | a :: r, b :: l => Alike a b ∧ Alikes r l
  | _, _ => False

theorem Alikes.snoc : ∀ {r l : List Tr} {a b : Tr}, Alikes r l → Alike a b → Alikes (r ++ [a]) (l ++ [b])
  | [], [], a, b, _, h => ⟨h, trivial⟩
  | x :: r, y :: l, a, b, h, h' => ⟨h.1, Alikes.snoc h.2 h'⟩
  | [], _ :: _, _, _, h, _ => h.elim
  | _ :: _, [], _, _, h, _ => h.elim

theorem Alikes.all {p q : Tr → Nat → Bool} (hpq : ∀ a b i, Alike a b → p a i = true → q b i = true) : ∀ {r l : List Tr} {k : Nat}, Alikes r l → ((r.zipIdx k).all fun x => p x.1 x.2) = true → ((l.zipIdx k).all fun x => q x.1 x.2) = true
  | [], [], k, _, _ => rfl
  | x :: r, y :: l, k, h, h' => by
    simp only [List.zipIdx_cons, List.all_cons, Bool.and_eq_true] at h' ⊢
    exact ⟨hpq _ _ _ h.1 h'.1, Alikes.all hpq h.2 h'.2⟩
  | [], _ :: _, _, h, _ => h.elim
  | _ :: _, [], _, h, _ => h.elim

end

end Go.Ac
end

section
set_option linter.unusedVariables false
set_option linter.unusedSimpArgs false
namespace Go.Ac
variable {P : Program} {cfg : Cfg} {fid : FuncId}

/-- Code comes to an end, with enough fuel. -/
def Runs [Gl] (P : Program) (cfg : Cfg) (fid : FuncId) (c : Code) (s : St) (e : Ex) (s' : St) : Prop := ∃ K, ∀ k, K ≤ k → execF P cfg k fid c s = some (e, s')

theorem fuel {p : Nat → Prop} {K : Nat} (h : ∀ k, K ≤ k → p (k + 1)) : ∃ K, ∀ k, K ≤ k → p k :=
  ⟨K + 1, fun k hk => by
    obtain ⟨j, rfl⟩ : ∃ j, k = j + 1 := ⟨k - 1, by omega⟩
    exact h j (by omega)⟩

section
variable {s t u : St} {e : Ex}

theorem Runs.skip [Gl] : Runs P cfg fid .skip s .normal s := fuel (K := 0) fun k _ => rfl
theorem Runs.ret [Gl] : Runs P cfg fid .ret s .ret s := fuel (K := 0) fun k _ => rfl
theorem Runs.exit [Gl] {i : Nat} : Runs P cfg fid (.exit i) s (.exit i) s := fuel (K := 0) fun k _ => rfl

theorem Runs.seq [Gl] {a b : Code} (h : Runs P cfg fid a s .normal t) (h' : Runs P cfg fid b t e u) : Runs P cfg fid (.seq a b) s e u := by
  obtain ⟨K, hK⟩ := h
  obtain ⟨L, hL⟩ := h'
  exact fuel (K := max K L) fun k hk => by
    simp only [execF]
    rw [hK k (Nat.le_trans (Nat.le_max_left _ _) hk)]
    exact hL k (Nat.le_trans (Nat.le_max_right _ _) hk)

theorem Runs.seq_out [Gl] {a b : Code} (h : Runs P cfg fid a s e t) (he : e ≠ .normal) : Runs P cfg fid (.seq a b) s e t := by
  obtain ⟨K, hK⟩ := h
  exact fuel (K := K) fun k hk => by
    simp only [execF]
    rw [hK k hk]
    cases e <;> first | rfl | exact absurd rfl he

theorem Runs.cond_true [Gl] {q : Operand} {a b : Code} (hq : evalV s.env q = .d (.bool true)) (h : Runs P cfg fid a s e t) : Runs P cfg fid (.cond q a b) s e t := by
  obtain ⟨K, hK⟩ := h
  exact fuel (K := K) fun k hk => by simp only [execF, hq]; exact hK k hk

theorem Runs.cond_false [Gl] {q : Operand} {a b : Code} (hq : evalV s.env q = .d (.bool false)) (h : Runs P cfg fid b s e t) : Runs P cfg fid (.cond q a b) s e t := by
  obtain ⟨K, hK⟩ := h
  exact fuel (K := K) fun k hk => by simp only [execF, hq]; exact hK k hk

theorem Runs.block [Gl] {i : Nat} {b : Code} (h : Runs P cfg fid b s e t) (he : ∀ j, e ≠ .exit j) : Runs P cfg fid (.block i b) s e t := by
  obtain ⟨K, hK⟩ := h
  exact fuel (K := K) fun k hk => by
    simp only [execF]
    rw [hK k hk]
    cases e with
    | normal => rfl
    | exit j => exact absurd rfl (he j)
    | ret => rfl

theorem Runs.block_exit [Gl] {i : Nat} {b : Code} (h : Runs P cfg fid b s (.exit i) t) : Runs P cfg fid (.block i b) s .normal t := by
  obtain ⟨K, hK⟩ := h
  exact fuel (K := K) fun k hk => by
    simp only [execF]
    rw [hK k hk]
    simp

theorem Runs.block_other [Gl] {i j : Nat} {b : Code} (h : Runs P cfg fid b s (.exit j) t) (hj : j ≠ i) : Runs P cfg fid (.block i b) s (.exit j) t := by
  obtain ⟨K, hK⟩ := h
  exact fuel (K := K) fun k hk => by
    simp only [execF]
    rw [hK k hk]
    simp [hj]

def cut (cfg : Cfg) (fid : FuncId) (s t : St) : St := if cfg.own fid then t else { t with hp := Hp.trunc s.n t.hp, n := s.n }

theorem Runs.round [Gl] {b : Code} (h : Runs P cfg fid b s .normal t) (h' : Runs P cfg fid (.loop b) (cut cfg fid s t) e u) : Runs P cfg fid (.loop b) s e u := by
  obtain ⟨K, hK⟩ := h
  obtain ⟨L, hL⟩ := h'
  exact fuel (K := max K L) fun k hk => by
    simp only [execF]
    rw [hK k (Nat.le_trans (Nat.le_max_left _ _) hk)]
    exact hL k (Nat.le_trans (Nat.le_max_right _ _) hk)

theorem Runs.loop_out [Gl] {b : Code} (h : Runs P cfg fid b s e t) (he : e ≠ .normal) : Runs P cfg fid (.loop b) s e t := by
  obtain ⟨K, hK⟩ := h
  exact fuel (K := K) fun k hk => by
    simp only [execF]
    rw [hK k hk]
    cases e <;> first | rfl | exact absurd rfl he

theorem Runs.region [Gl] {id : Nat} {ops : Array Oper} {draw : Bool} (h : ∃ K, ∀ k, K ≤ k → runRegion P cfg (callF P cfg k) fid id ops draw s = some t) : Runs P cfg fid (.region id ops draw) s .normal t := by
  obtain ⟨K, hK⟩ := h
  refine fuel (K := K) fun k hk => ?_
  have := hK k hk
  unfold callF at this
  simp only [execF, this]; rfl

end

theorem Runs.reg [Gl] {id : Nat} {ops : Array Oper} {draw : Bool} {s t : St} (h : runRegion P cfg (lim P cfg) fid id ops draw s = some t) : Runs P cfg fid (.region id ops draw) s .normal t := Runs.region (Go.Ac.region_lim h)

/-- The code inside a block. -/
def inBlock : Code → Nat → Option Code
  | .seq a b, i => match inBlock a i with | some x => some x | none => inBlock b i
  | .cond _ a b, i => match inBlock a i with | some x => some x | none => inBlock b i
  | .block j b, i => if i = j then some b else inBlock b i
  | .loop b, i => inBlock b i
  | _, _ => none

def inside (f : Func) (i : Nat) : Code := (f.body.bind (inBlock · i)).getD .skip

/-- A frame beside a memory. -/
def stH (e : Env) (hp : Hp) (n c : Nat) : St := ⟨e, hp, n, c, 0, []⟩

/-! ### Functions that touch no object -/

/-- A frame beside an empty memory. -/
def st (e : Env) : St := stH e [] 0 0

end Go.Ac
end

section
set_option linter.unusedVariables false
set_option linter.unusedSimpArgs false
namespace Go.Ac
variable {P : Program} {cfg : Cfg} {fid : FuncId}

inductive Gd where
  | free
  | on (d : Nat) (want : Bool)
  | bad

structure PO where
  op : Op
  dst : Option Nat
  g : Gd

def prepO (all : List Oper) (o : Oper) : PO := ⟨o.op, o.dst, match o.guard with
  | none => .free
  | some (j, want) => match all[j]? with
    | some g => match g.dst with | some d => .on d want | none => .bad
    | none => .bad⟩

def wantedP (e : Env) : Gd → Option Bool
  | .free => some true
  | .on d want => match e.get d with
    | .d (.bool b) => some (b == want)
    | .undef => some false
    | _ => none
  | .bad => none

theorem wantedP_eq (all : List Oper) (e : Env) (o : Oper) : wantedP e (prepO all o).g = wantedV all e o := by
  unfold prepO wantedV
  cases o.guard with
  | none => rfl
  | some q =>
    obtain ⟨j, want⟩ := q
    simp only
    cases all[j]? with
    | none => rfl
    | some g => simp only; cases g.dst <;> rfl

end Go.Ac
end
