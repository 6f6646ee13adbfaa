/- The abstract machine: what stands between regions; code; calls. No conditions. -/
import Derived.Test.YtofbmhmdpeclnaaAbS
set_option linter.unusedVariables false
set_option linter.unusedSimpArgs false
namespace Go.Ab
variable {P : Program}

section
variable {S : Nat → Prop} {m : M} {s : St} {N : Nat} {a : Act}

theorem setRow_same {w : World} {b : Nat} {cs : Array Value} {T : TypeId} {fz : Nat × Nat} (h : w.heap[b]? = some (Obj.cells cs T fz)) : (w.setRow b cs).heap = w.heap := by
  unfold World.setRow
  apply Array.ext
  · simp
  · intro i h1 h2
    simp only [Array.getElem_modify]
    split
    · rename_i he; subst he
      have : w.heap[b] = Obj.cells cs T fz := by
        obtain ⟨_, h⟩ := Array.getElem?_eq_some_iff.1 h; exact h
      rw [this]
    · rfl

theorem matOne_sound (h : RS S N s m a) (p : Nat × Option Nat × Nat) : ∃ m', m'.w = m.w ∧ RS S N (matOne s p) m' a ∧ Evo S m m' := by
  have hfresh : ∀ id, ¬ m.iss id s.c := fun id hi => by rw [h.iss] at hi; omega
  unfold matOne
  split
  · split
    · rename_i hnil hfull
      obtain ⟨m', e1, e2, e3, e4, e5, e6⟩ := virt_obj (S := S) (m := m) h.rel (id := s.n) (o' := ⟨s.c, false, []⟩) (dc := 1) (c := s.c) rfl (hfresh _) rfl rfl
      refine ⟨m', e1, ⟨?_, ?_, e5, fun t => ?_, h.size, h.defers, fun id hid => ?_, Nat.le_succ_of_le h.n0⟩, e6⟩
      · rw [e2, h.h]; exact (hp_get_set _ _ _).symm
      · rw [e4, h.iss]; funext _ g; apply propext; simp only; omega
      · show RV S m' (Env.get ((p.1, .osl s.n s.c 0 0 p.2.2 none) :: s.env) t) _
        rw [env_get_cons]
        by_cases ht : t = p.1
        · subst ht
          simp only [upd_same]
          have := h.env p.1
          rw [hfull] at this
          generalize hv : a.tmps.getD p.1 undef = v at this ⊢
          cases this with
          | full hrd =>
            refine .osl ?_ rfl fun o ho hg => ?_
            · rw [e4]; right; omega
            · unfold OslOK
              rw [e3, upd_same]
              exact ⟨rfl, rfl, rfl, _, rfl⟩
        · rw [upd_ne _ _ ht]; exact (h.env t).mono e6
      · show (s.hp.set s.n _).get id = none
        rw [hp_get_set]
        have hid' : s.n + 1 ≤ id := hid
        rw [upd_ne _ _ (by omega)]
        exact h.top id (by omega)
    · exact ⟨m, rfl, h, .refl S m⟩
  · rename_i j hj
    split
    · rename_i id g hptr
      split
      · rename_i o hlv
        split
        · rename_i hro hcell
          obtain ⟨ho', hg⟩ := live_spec hlv
          have ho : m.h id = some o := by rw [h.h]; exact ho'
          have hne : id ≠ s.n := fun he => by subst he; rw [h.top _ (Nat.le_refl _)] at ho'; cases ho'
          obtain ⟨m1, e1, e2, e3, e4, e5, e6⟩ := virt_obj (S := S) (m := m) h.rel (id := s.n) (o' := ⟨s.c, false, []⟩) (dc := 1) (c := s.c) rfl (hfresh _) rfl rfl
          have ho1 : m1.h id = some o := by rw [e2, upd_ne _ _ hne]; exact ho
          -- where the object lies
          cases hat : m1.at_ id with
          | none =>
            have := e5.none_ id o ho1 hat
            rw [this] at hcell; simp at hcell
          | some q =>
            obtain ⟨b, base⟩ := q
            obtain ⟨hS, cs, T, fz, hrow, hfz, hsz, hc⟩ := e5.obj id o b base ho1 hat
            obtain ⟨m', w1, w2, w3, w4, w5, w6⟩ := write_obj (S := S) (m := m1) (id := id) (o := o) (o' := ⟨g, false, o.cells.set j (.osl s.n s.c 0 0 p.2.2 none)⟩) (b := b) (base := base) (base' := base) (dc := 0) (c := s.c) (cs := cs) (cs' := cs) (w' := m1.w)
              e5 ho1 hat hro hrow (setRow_same hrow).symm rfl (by simpa using hsz) (.inl ⟨hg.symm, rfl, by simp, rfl⟩) (by
                intro k v hv
                simp only [List.getElem?_set] at hv
                by_cases hk : j = k
                · subst hk
                  have hjl : j < o.cells.length := (List.getElem?_eq_some_iff.1 hcell).1
                  simp [hjl] at hv; subst hv
                  obtain ⟨g1, x, g2, g3⟩ := hc j _ hcell
                  refine ⟨rfl, x, g2, ?_⟩
                  cases g3 with
                  | full hrd =>
                    refine .osl ?_ rfl fun o2 ho2 hg2 => ?_
                    · rw [e4]; right; omega
                    · unfold OslOK
                      rw [e3, upd_same]
                      exact ⟨rfl, rfl, rfl, _, rfl⟩
                · rw [if_neg hk] at hv; exact hc k v hv)
            refine ⟨m', by rw [w1, e1], ⟨?_, ?_, w5, fun t => ((h.env t).mono e6).mono w6, h.size, h.defers, fun i hi => ?_, Nat.le_succ_of_le h.n0⟩, e6.trans w6⟩
            · rw [w2, e2, h.h]
              show _ = ((s.hp.set s.n _).set id _).get
              rw [hp_get_set, hp_get_set]
            · rw [w4, e4, h.iss]; funext _ g; apply propext; simp only; omega
            · show ((s.hp.set s.n _).set id _).get i = none
              rw [hp_get_set, hp_get_set]
              have hi' : s.n + 1 ≤ i := hi
              have hidn : id < s.n := by
                rcases Nat.lt_or_ge id s.n with h1 | h1
                · exact h1
                · rw [h.top id h1] at ho'; cases ho'
              rw [upd_ne _ _ (by omega), upd_ne _ _ (by omega)]
              exact h.top i (by omega)
        · exact ⟨m, rfl, h, .refl S m⟩
      · exact ⟨m, rfl, h, .refl S m⟩
    · exact ⟨m, rfl, h, .refl S m⟩

theorem mats_sound : ∀ (l : List (Nat × Option Nat × Nat)) {s : St} {m : M}, RS S N s m a → ∃ m', m'.w = m.w ∧ RS S N (mats s l) m' a ∧ Evo S m m'
  | [], s, m, h => ⟨m, rfl, h, .refl S m⟩
  | p :: r, s, m, h => by
    obtain ⟨m1, g1, g2, g3⟩ := matOne_sound h p
    obtain ⟨m2, k1, k2, k3⟩ := mats_sound r g2
    exact ⟨m2, k1.trans g1, k2, g3.trans k3⟩

theorem keep_get (e : Env) : ∀ (l : List Nat) (t : Nat), (e.keep l).get t = e.get t ∨ (e.keep l).get t = .any
  | [], t => .inr rfl
  | x :: r, t => by
    simp only [Env.keep, env_get_cons]
    by_cases h : t = x
    · subst h; simp
    · rw [upd_ne _ _ h]; exact keep_get e r t

theorem keepSt_sound (h : RS S N s m a) (l : Option (List Nat)) : RS S N (keepSt s l) m a := by
  cases l with
  | none => exact h
  | some l =>
    refine ⟨h.h, h.iss, h.rel, fun t => ?_, h.size, h.defers, h.top, h.n0⟩
    rcases keep_get s.env l t with e | e
    · show RV S m ((s.env.keep l).get t) _
      rw [e]; exact h.env t
    · show RV S m ((s.env.keep l).get t) _
      rw [e]; exact .any _

end

theorem matOne_log (s : St) (p : Nat × Option Nat × Nat) : Log s (matOne s p) := by
  unfold matOne
  split
  · split
    · refine ⟨rfl, Nat.le_succ _, Nat.le_succ _, fun h0 ht id hid => ?_, fun h0 id hid hw => ⟨hw, ?_⟩, fun h0 id hid hn => ?_⟩
      · show (s.hp.set s.n _).get id = none
        rw [hp_get_set]
        have hid' : s.n + 1 ≤ id := hid
        rw [upd_ne _ _ (by omega)]
        exact ht id (by omega)
      · show (s.hp.set s.n _).get id = _
        rw [hp_get_set, upd_ne _ _ (by omega)]
      · have hn' : (s.hp.set s.n ⟨s.c, false, []⟩).get id = none := hn
        rw [hp_get_set, upd_ne _ _ (by omega)] at hn'
        exact hn'
    · exact Log.refl s
  · split
    · rename_i id g hptr
      split
      · rename_i o hlv
        split
        · rename_i hro hcell
          obtain ⟨ho', hg⟩ := live_spec hlv
          refine ⟨rfl, Nat.le_succ _, Nat.le_succ _, fun h0 ht i hi => ?_, fun h0 i hi hw => ?_, fun h0 i hi hn => ?_⟩
          · show ((s.hp.set s.n _).set id _).get i = none
            rw [hp_get_set, hp_get_set]
            have hi' : s.n + 1 ≤ i := hi
            have hidn : id < s.n := by
              rcases Nat.lt_or_ge id s.n with h1 | h1
              · exact h1
              · rw [ht id h1] at ho'; cases ho'
            rw [upd_ne _ _ (by omega), upd_ne _ _ (by omega)]
            exact ht i (by omega)
          · obtain ⟨h1, h2⟩ := addNew_mem hw
            refine ⟨h1, ?_⟩
            have := h2 hi
            simp only [List.map_cons, List.map_nil, List.mem_singleton] at this
            show ((s.hp.set s.n _).set id _).get i = _
            rw [hp_get_set, hp_get_set, upd_ne _ _ this, upd_ne _ _ (by omega)]
          · have hn' : ((s.hp.set s.n ⟨s.c, false, []⟩).set id _).get i = none := hn
            rw [hp_get_set, hp_get_set] at hn'
            by_cases hid : i = id
            · subst hid; simp at hn'
            · rw [upd_ne _ _ hid, upd_ne _ _ (by omega)] at hn'; exact hn'
        · exact Log.refl s
      · exact Log.refl s
    · exact Log.refl s

theorem mats_log : ∀ (l : List (Nat × Option Nat × Nat)) (s : St), Log s (mats s l)
  | [], s => Log.refl s
  | p :: r, s => (matOne_log s p).trans (mats_log r _)

theorem keepSt_log (s : St) (l : Option (List Nat)) : Log s (keepSt s l) := by
  cases l <;> exact ⟨rfl, Nat.le_refl _, Nat.le_refl _, fun _ h => h, fun _ _ _ h => ⟨h, rfl⟩, fun _ _ _ h => h⟩

theorem runOps_log {cfg : Cfg} {fid rid : Nat} {call : CallF} {all : List Oper} : ∀ {l : List Oper} {s s' : St}, runOps P cfg fid rid call all l s = some s' → Log s s'
  | [], s, s', h => by simp [runOps] at h; subst h; exact Log.refl s
  | o :: r, s, s', h => by
    simp only [runOps] at h
    split at h
    · rename_i q hq
      exact (Log.put (opW_top hq)).trans (runOps_log h)
    · simp at h

theorem runRegion_log {cfg : Cfg} {call : CallF} {fid id : Nat} {ops : Array Oper} {draw : Bool} {s s' : St} (h : runRegion P cfg call fid id ops draw s = some s') : Log s s' := by
  unfold runRegion at h
  split at h
  · simp at h
  · split at h
    · rename_i t ht
      simp only [Option.some.injEq] at h; subst h
      exact ((runOps_log ht).trans (mats_log _ _)).trans (keepSt_log _ _)
    · simp at h

theorem trunc_get (n : Nat) : ∀ (h : Hp) (id : Nat), (Hp.trunc n h).get id = if id < n then h.get id else none
  | [], id => by simp [Hp.trunc, Hp.get]
  | (k, o) :: r, id => by
    simp only [Hp.trunc]
    split
    · rename_i hk
      rw [Nat.blt_eq] at hk
      simp only [Hp.get]
      by_cases he : k = id
      · subst he; simp [hk]
      · rw [beq_ff he]; simp only; exact trunc_get n r id
    · rename_i hk
      have hk' : ¬ k < n := fun h => by rw [← Nat.blt_eq] at h; rw [h] at hk; cases hk
      simp only [Hp.get]
      by_cases he : k = id
      · subst he; rw [trunc_get n r k]; simp [hk']
      · rw [beq_ff he]; simp only; exact trunc_get n r id

/-- The state at the end of a round of a loop. -/
theorem cut_log {s t : St} (h : Log s t) : Log s { t with hp := Hp.trunc s.n t.hp, n := s.n } := by
  refine ⟨h.n0, Nat.le_refl _, h.c, fun h0 ht id hid => ?_, fun h0 id hid hw => ?_, fun h0 id hid hn => ?_⟩
  · show (Hp.trunc s.n t.hp).get id = none
    rw [trunc_get, if_neg (by have : s.n ≤ id := hid; omega)]
  · obtain ⟨h1, h2⟩ := h.wl h0 id hid hw
    refine ⟨h1, ?_⟩
    show (Hp.trunc s.n t.hp).get id = _
    rw [trunc_get, if_pos (by omega)]; exact h2
  · have hn' : (Hp.trunc s.n t.hp).get id = none := hn
    rw [trunc_get, if_pos (by omega)] at hn'
    exact h.stay h0 id hid hn'

theorem execF_log {cfg : Cfg} : ∀ {k : Nat} {fid : FuncId} {c : Code} {s s' : St} {e : Ex}, execF P cfg k fid c s = some (e, s') → Log s s'
  | 0, fid, c, s, s', e, h => by simp [execF] at h
  | k + 1, fid, c, s, s', e, h => by
    cases c <;> simp only [execF] at h <;> try (simp at h; done)
    case skip => simp at h; obtain ⟨_, rfl⟩ := h; exact Log.refl _
    case label l => simp at h; obtain ⟨_, rfl⟩ := h; exact Log.refl _
    case ret => simp at h; obtain ⟨_, rfl⟩ := h; exact Log.refl _
    case exit id => simp at h; obtain ⟨_, rfl⟩ := h; exact Log.refl _
    case seq x y =>
      split at h
      · rename_i t ht; exact (execF_log ht).trans (execF_log h)
      · exact execF_log h
    case cond q x y =>
      split at h
      · exact execF_log h
      · exact execF_log h
      · simp at h
    case block id b =>
      split at h
      · rename_i i t ht
        split at h <;> (simp at h; obtain ⟨_, rfl⟩ := h; exact execF_log ht)
      · exact execF_log h
    case loop b =>
      split at h
      · rename_i t ht
        refine Log.trans ?_ (execF_log h)
        split
        · exact execF_log ht
        · exact cut_log (execF_log ht)
      · exact execF_log h
    case region id ops draw =>
      simp only [Option.map_eq_some_iff] at h
      obtain ⟨t, ht, h⟩ := h
      simp at h; obtain ⟨_, rfl⟩ := h
      exact runRegion_log ht

end Go.Ab
