/- The abstract machine: what stands between regions; code; calls. No conditions. -/
import Derived.Test.YtkimfnammkljoaaGreatDoorAcS
set_option linter.unusedVariables false
set_option linter.unusedSimpArgs false
namespace Go.Ac
variable {P : Program}

section
variable {S : Nat → Prop} {B : Bs} {m : M} {s : St} {N : Nat} {a : Act}

theorem setRow_same {w : World} {b : Nat} {cs : Array Value} {T : TypeId} {fz : Nat × Nat} (h : w.heap[b]? = some (Obj.cells cs T fz)) : (w.setRow b cs).heap = w.heap := by
 unfold World.setRow
 apply Array.ext
 ·simp
 ·intro i h1 h2
  simp only [Array.getElem_modify]
  split
  ·rename_i he; subst he
   have : w.heap[b] = Obj.cells cs T fz := by
    obtain ⟨_, h⟩ := Array.getElem?_eq_some_iff.1 h; exact h
   rw [this]
  ·rfl

theorem matOne_sound [Gl] (h : RS S B N s m a) (p : Nat × Option Nat × Nat) : ∃ m', m'.w = m.w ∧ RS S B N (matOne s p) m' a ∧ Evo S m m' := by
 have hfresh : ∀ id, ¬ m.iss id s.c := fun id hi => by rw [h.iss] at hi; omega
 unfold matOne
 split
 ·split
  ·rename_i hnil hfull
   obtain ⟨m', e1, e2, e3, e4, e5, e6⟩ := virt_obj (S := S) (m := m) h.rel (id := s.n) (o' := ⟨s.c, false, []⟩) (dc := 1) (c := s.c) rfl (hfresh _) rfl rfl
   refine ⟨m', e1, ⟨?_, ?_, e5, fun t => ?_, h.size, h.defers.mono e6, fun id hid => ?_, Nat.le_succ_of_le h.n0⟩, e6⟩
   ·rw [e2, h.h]; exact (hp_get_set _ _ _).symm
   ·rw [e4, h.iss]; funext _ g; apply propext; simp only; omega
   ·show RV S m' (Env.get ((p.1, .osl s.n s.c 0 0 p.2.2 none) :: s.env) t) _
    rw [env_get_cons]
    by_cases ht : t = p.1
    ·subst ht
     simp only [upd_same]
     have := h.env p.1
     rw [hfull] at this
     generalize hv : a.tmps.getD p.1 undef = v at this ⊢
     cases this with
     | full hrd =>
      refine .osl ?_ rfl fun o ho hg => ?_
      ·rw [e4]; right; omega
      ·refine ⟨by rw [e2, upd_same] at ho; simp only [Option.some.injEq] at ho; subst ho; rfl, ?_⟩
       unfold OslOK
       rw [e3, upd_same]
       exact ⟨rfl, rfl, rfl, _, rfl⟩
    ·rw [upd_ne _ _ ht]; exact (h.env t).mono e6
   ·show (s.hp.set s.n _).get id = none
    rw [hp_get_set]
    have hid' : s.n + 1 ≤ id := hid
    rw [upd_ne _ _ (by omega)]
    exact h.top id (by omega)
  ·exact ⟨m, rfl, h, .refl S m⟩
 ·rename_i j hj
  split
  ·rename_i id g hptr
   split
   ·rename_i o hlv
    split
    ·rename_i hro hcell
     obtain ⟨ho', hg⟩ := live_spec hlv
     have ho : m.h id = some o := by rw [h.h]; exact ho'
     have hne : id ≠ s.n := fun he => by subst he; rw [h.top _ (Nat.le_refl _)] at ho'; cases ho'
     obtain ⟨m1, e1, e2, e3, e4, e5, e6⟩ := virt_obj (S := S) (m := m) h.rel (id := s.n) (o' := ⟨s.c, false, []⟩) (dc := 1) (c := s.c) rfl (hfresh _) rfl rfl
     have ho1 : m1.h id = some o := by rw [e2, upd_ne _ _ hne]; exact ho
     -- where the object lies
     cases hat : m1.at_ id with
     | none =>
      have := e5.none_ id o ho1 hat
      rw [this] at hcell; simp at hcell
     | some q =>
      obtain ⟨b, base⟩ := q
      have hkind : kindL o.cells = 0 := by
       have h9 := h.env p.1
       rw [hptr] at h9
       exact h9.ptr_kind (o := o) (by rw [h.h]; exact hlv)
      obtain ⟨hS, cs, T, fz, hrow, hfz, hsz, hc⟩ := e5.cellsAt hkind ho1 hat
      obtain ⟨m', w1, w2, w3, w4, w5, w6⟩ := write_obj (S := S) (m := m1) (id := id) (o := o) (o' := ⟨g, false, o.cells.set j (.osl s.n s.c 0 0 p.2.2 none)⟩) (b := b) (base := base) (base' := base) (dc := 0) (c := s.c) (cs := cs) (cs' := cs) (w' := m1.w)
       e5 ho1 hat hro hkind hrow (setRow_same hrow).symm rfl (by simpa using hsz) (.inl ⟨hg.symm, rfl, by simp, rfl⟩) (by
        intro k v hv
        simp only [List.getElem?_set] at hv
        by_cases hk : j = k
        ·subst hk
         have hjl : j < o.cells.length := (List.getElem?_eq_some_iff.1 hcell).1
         simp [hjl] at hv; subst hv
         obtain ⟨g1, x, g2, g3⟩ := hc j _ hcell
         refine ⟨rfl, x, g2, ?_⟩
         cases g3 with
         | full hrd =>
          refine .osl ?_ rfl fun o2 ho2 hg2 => ?_
          ·rw [e4]; right; omega
          ·refine ⟨by rw [e2, upd_same] at ho2; simp only [Option.some.injEq] at ho2; subst ho2; rfl, ?_⟩
           unfold OslOK
           rw [e3, upd_same]
           exact ⟨rfl, rfl, rfl, _, rfl⟩
        ·rw [if_neg hk] at hv; exact hc k v hv)
      refine ⟨m', by rw [w1, e1], ⟨?_, ?_, w5, fun t => ((h.env t).mono e6).mono w6, h.size, h.defers.mono (e6.trans w6), fun i hi => ?_, Nat.le_succ_of_le h.n0⟩, e6.trans w6⟩
      ·rw [w2, e2, h.h]
       show _ = ((s.hp.set s.n _).set id _).get
       rw [hp_get_set, hp_get_set]
      ·rw [w4, e4, h.iss]; funext _ g; apply propext; simp only; omega
      ·show ((s.hp.set s.n _).set id _).get i = none
       rw [hp_get_set, hp_get_set]
       have hi' : s.n + 1 ≤ i := hi
       have hidn : id < s.n := by
        rcases Nat.lt_or_ge id s.n with h1 | h1
        ·exact h1
        ·rw [h.top id h1] at ho'; cases ho'
       rw [upd_ne _ _ (by omega), upd_ne _ _ (by omega)]
       exact h.top i (by omega)
    ·exact ⟨m, rfl, h, .refl S m⟩
   ·exact ⟨m, rfl, h, .refl S m⟩
  ·exact ⟨m, rfl, h, .refl S m⟩

theorem mats_sound [Gl] : ∀ (l : List (Nat × Option Nat × Nat)) {s : St} {m : M}, RS S B N s m a → ∃ m', m'.w = m.w ∧ RS S B N (mats s l) m' a ∧ Evo S m m'
 | [], s, m, h => ⟨m, rfl, h, .refl S m⟩
 | p :: r, s, m, h => by
  obtain ⟨m1, g1, g2, g3⟩ := matOne_sound h p
  obtain ⟨m2, k1, k2, k3⟩ := mats_sound r g2
  exact ⟨m2, k1.trans g1, k2, g3.trans k3⟩

theorem keep_get (e : Env) : ∀ (l : List Nat) (t : Nat), (e.keep l).get t = e.get t ∨ (e.keep l).get t = .any
 | [], t => .inr rfl
 | x :: r, t => by
  simp only [Env.keep, env_get_cons]
  by_cases h : t = x
  ·subst h; simp
  ·rw [upd_ne _ _ h]; exact keep_get e r t

theorem keepSt_sound [Gl] (h : RS S B N s m a) (l : Option (List Nat)) : RS S B N (keepSt s l) m a := by
 cases l with
 | none => exact h
 | some l =>
  refine ⟨h.h, h.iss, h.rel, fun t => ?_, h.size, h.defers, h.top, h.n0⟩
  rcases keep_get s.env l t with e | e
  ·show RV S m ((s.env.keep l).get t) _
   rw [e]; exact h.env t
  ·show RV S m ((s.env.keep l).get t) _
   rw [e]; exact .any _

end

theorem matOne_log (s : St) (p : Nat × Option Nat × Nat) : Log s (matOne s p) := by
 unfold matOne
 split
 ·split
  ·refine ⟨rfl, Nat.le_succ _, Nat.le_succ _, fun h0 ht id hid => ?_, fun h0 id hid hw => ⟨hw, ?_⟩, fun h0 id hid hn => ?_⟩
   ·show (s.hp.set s.n _).get id = none
    rw [hp_get_set]
    have hid' : s.n + 1 ≤ id := hid
    rw [upd_ne _ _ (by omega)]
    exact ht id (by omega)
   ·show (s.hp.set s.n _).get id = _
    rw [hp_get_set, upd_ne _ _ (by omega)]
   ·have hn' : (s.hp.set s.n ⟨s.c, false, []⟩).get id = none := hn
    rw [hp_get_set, upd_ne _ _ (by omega)] at hn'
    exact hn'
  ·exact Log.refl s
 ·split
  ·rename_i id g hptr
   split
   ·rename_i o hlv
    split
    ·rename_i hro hcell
     obtain ⟨ho', hg⟩ := live_spec hlv
     refine ⟨rfl, Nat.le_succ _, Nat.le_succ _, fun h0 ht i hi => ?_, fun h0 i hi hw => ?_, fun h0 i hi hn => ?_⟩
     ·show ((s.hp.set s.n _).set id _).get i = none
      rw [hp_get_set, hp_get_set]
      have hi' : s.n + 1 ≤ i := hi
      have hidn : id < s.n := by
       rcases Nat.lt_or_ge id s.n with h1 | h1
       ·exact h1
       ·rw [ht id h1] at ho'; cases ho'
      rw [upd_ne _ _ (by omega), upd_ne _ _ (by omega)]
      exact ht i (by omega)
     ·obtain ⟨h1, h2⟩ := addNew_mem hw
      refine ⟨h1, ?_⟩
      have := h2 hi
      simp only [List.map_cons, List.map_nil, List.mem_singleton] at this
      show ((s.hp.set s.n _).set id _).get i = _
      rw [hp_get_set, hp_get_set, upd_ne _ _ this, upd_ne _ _ (by omega)]
     ·have hn' : ((s.hp.set s.n ⟨s.c, false, []⟩).set id _).get i = none := hn
      rw [hp_get_set, hp_get_set] at hn'
      by_cases hid : i = id
      ·subst hid; simp at hn'
      ·rw [upd_ne _ _ hid, upd_ne _ _ (by omega)] at hn'; exact hn'
    ·exact Log.refl s
   ·exact Log.refl s
  ·exact Log.refl s

theorem mats_log : ∀ (l : List (Nat × Option Nat × Nat)) (s : St), Log s (mats s l)
 | [], s => Log.refl s
 | p :: r, s => (matOne_log s p).trans (mats_log r _)

theorem keepSt_log (s : St) (l : Option (List Nat)) : Log s (keepSt s l) := by
 cases l <;> exact ⟨rfl, Nat.le_refl _, Nat.le_refl _, fun _ h => h, fun _ _ _ h => ⟨h, rfl⟩, fun _ _ _ h => h⟩

theorem runOps_log [Gl] {cfg : Cfg} {fid rid : Nat} {call : CallF} {all : List Oper} : ∀ {l : List Oper} {s s' : St}, runOps P cfg fid rid call all l s = some s' → Log s s'
 | [], s, s', h => by simp [runOps] at h; subst h; exact Log.refl s
 | o :: r, s, s', h => by
  simp only [runOps] at h
  split at h
  ·rename_i q hq
   exact (Log.put (opW_top hq)).trans (runOps_log h)
  ·simp at h

theorem runRegion_log [Gl] {cfg : Cfg} {call : CallF} {fid id : Nat} {ops : Array Oper} {draw : Bool} {s s' : St} (h : runRegion P cfg call fid id ops draw s = some s') : Log s s' := by
 unfold runRegion at h
 split at h
 ·simp at h
 ·split at h
  ·rename_i t ht
   simp only [Option.some.injEq] at h; subst h
   exact ((runOps_log ht).trans (mats_log _ _)).trans (keepSt_log _ _)
  ·simp at h

theorem trunc_get (n : Nat) : ∀ (h : Hp) (id : Nat), (Hp.trunc n h).get id = if id < n then h.get id else none
 | [], id => by simp [Hp.trunc, Hp.get]
 | (k, o) :: r, id => by
  simp only [Hp.trunc]
  split
  ·rename_i hk
   rw [Nat.blt_eq] at hk
   simp only [Hp.get]
   by_cases he : k = id
   ·subst he; simp [hk]
   ·rw [beq_ff he]; simp only; exact trunc_get n r id
  ·rename_i hk
   have hk' : ¬ k < n := fun h => by rw [← Nat.blt_eq] at h; rw [h] at hk; cases hk
   simp only [Hp.get]
   by_cases he : k = id
   ·subst he; rw [trunc_get n r k]; simp [hk']
   ·rw [beq_ff he]; simp only; exact trunc_get n r id

/-- The state at the end of a round of a loop. -/
theorem cut_log {s t : St} (h : Log s t) : Log s { t with hp := Hp.trunc s.n t.hp, n := s.n } := by
 refine ⟨h.n0, Nat.le_refl _, h.c, fun h0 ht id hid => ?_, fun h0 id hid hw => ?_, fun h0 id hid hn => ?_⟩
 ·show (Hp.trunc s.n t.hp).get id = none
  rw [trunc_get, if_neg (by have : s.n ≤ id := hid; omega)]
 ·obtain ⟨h1, h2⟩ := h.wl h0 id hid hw
  refine ⟨h1, ?_⟩
  show (Hp.trunc s.n t.hp).get id = _
  rw [trunc_get, if_pos (by omega)]; exact h2
 ·have hn' : (Hp.trunc s.n t.hp).get id = none := hn
  rw [trunc_get, if_pos (by omega)] at hn'
  exact h.stay h0 id hid hn'

theorem allOrd_spec {s0 : St} {it : Nat} {f : List Nat → Option (Ex × St)} {l : List Nat} {e : Ex} {s : St} (h : allOrd s0 it f l = some (e, s)) : s.n = s0.n ∧ ∀ p : List Nat, p.isPerm l = true → ∃ y, f p = some (e, y) ∧ LeSt y s := by
 unfold allOrd at h
 split at h
 ·rename_i e0 s1 _
  split at h
  ·rename_i hx
   simp only [Option.some.injEq, Prod.mk.injEq] at h
   obtain ⟨rfl, rfl⟩ := h
   exact ⟨rfl, least_spec hx⟩
  ·cases h
 ·cases h
theorem isPerm_self (l : List Nat) : l.isPerm l = true := List.isPerm_iff.2 (List.Perm.refl l)
theorem drop_get (k : Nat) : ∀ (h : Hp) (id : Nat), (Hp.drop k h).get id = if id = k then none else h.get id
 | [], id => by simp [Hp.drop, Hp.get]
 | (j, o) :: r, id => by
  simp only [Hp.drop]
  by_cases hj : j = k
  ·subst hj
   rw [Nat.beq_refl]
   simp only
   rw [drop_get j r id]
   by_cases hi : id = j
   ·rw [if_pos hi, if_pos hi]
   ·rw [if_neg hi, if_neg hi]
    simp only [Hp.get]
    rw [beq_ff (fun e => hi e.symm)]
  ·rw [beq_ff hj]
   simp only [Hp.get]
   by_cases he : j = id
   ·subst he; rw [Nat.beq_refl, if_neg hj]
   ·rw [beq_ff he]; simp only; exact drop_get k r id

theorem Log.raise {s y x : St} (h : Log s y) (hn : s.n ≤ x.n) (hl : LeSt y x) : Log s x := by
 have hyo : y.n0 = s.n0 := h.n0
 refine ⟨hl.n0.symm.trans h.n0, hn, Nat.le_trans h.c hl.c, fun h0 ht id hid => hl.top id hid, fun h0 id hid hw => ?_, fun h0 id hid hn => ?_⟩
 ·obtain ⟨h1, h2⟩ := h.wl h0 id hid fun hy => hw (hl.wl id hy)
  exact ⟨h1, (hl.hpo id (by omega)).trans h2⟩
 ·rw [hl.hpo id (by omega)] at hn; exact h.stay h0 id hid hn
theorem itAt_spec {s : St} {t : Nat} {I : Itr} (h : itAt s t = some I) : s.env.get t = .it I.id I.g ∧ I.id < s.n ∧ (∃ last, live s.hp.get I.id I.g = some ⟨I.g, false, [.itm I.mid I.mg I.since I.seen last]⟩ ∧ last = I.since) ∧
  (∃ q, live s.hp.get I.mid I.mg = some q ∧ q.cells = [.mpc I.ks I.vs I.bs I.since]) ∧ (∀ b, b ∈ I.bs → b < I.since) ∧ I.bs.Nodup := by
 unfold itAt at h
 split at h
 ·rename_i id g he
  split at h
  ·rename_i o hl
   split at h
   ·rename_i mid mg since seen last hro hc
    split at h
    ·rename_i q hq
     split at h
     ·rename_i ks vs bs clock hqc
      split at h
      ·rename_i c1 c2 c3 c4 c5
       simp only [Option.some.injEq] at h; subst h
       have c1 := of_decide_eq_true c1
       have c2 := of_decide_eq_true c2
       have hg : o.gen = g := by
        unfold live at hl
        split at hl
        ·split at hl
         ·rename_i hb; simp at hl; subst hl; exact Nat.eq_of_beq_eq_true hb
         ·cases hl
        ·cases hl
       refine ⟨he, by rw [← Nat.blt_eq]; exact c5, ⟨last, ?_, c2⟩, ⟨q, hq, by rw [hqc, c1]⟩, fun b hb => of_decide_eq_true (List.all_eq_true.1 c3 b hb), of_decide_eq_true c4⟩
       rw [hl]
       obtain ⟨og, oro, oc⟩ := o
       simp only at hro hc hg
       subst hro; subst hc; subst hg; rfl
      ·cases h
     ·cases h
    ·cases h
   ·cases h
  ·cases h
 ·cases h

theorem pickR_spec {I : Itr} {b : Nat} {q : Res} (h : pickR I b = some q) : ∃ j k v, findB b I.bs 0 = some j ∧ I.ks[j]? = some k ∧ I.vs[j]? = some v ∧ q = ⟨.tuple [.d (.bool true), .d k, v], [(I.id, ⟨I.g, false, [.itm I.mid I.mg I.since (I.seen ++ [b]) I.since]⟩)], [], 0, 0, false⟩ := by
 unfold pickR at h
 split at h
 ·rename_i j hj
  split at h
  ·rename_i k v hk hv
   simp only [Option.some.injEq] at h
   exact ⟨j, k, v, hj, hk, hv, h.symm⟩
  ·cases h
 ·cases h

theorem runOrd_log {reg : St → Option St} {run : St → Option (Ex × St)} {own : Bool} {t d : Nat} (hreg : ∀ s t, reg s = some t → Log s t) (hrun : ∀ s e t, run s = some (e, t) → Log s t) :
  ∀ {p : List Nat} {s s' : St} {e : Ex}, runOrd reg run own t d p s = some (e, s') → Log s s' := by
 have hround : ∀ {s s' : St} {e : Ex}, roundR reg run s = some (e, s') → Log s s' := by
  intro s s' e h
  unfold roundR at h
  split at h
  ·rename_i u hu; exact (hreg _ _ hu).trans (hrun _ _ _ h)
  ·cases h
 intro p
 induction p with
 | nil =>
  intro s s' e h
  simp only [runOrd] at h
  split at h
  ·split at h
   ·split at h
    ·cases h
    ·exact (Log.put rfl).trans (hround h)
   ·cases h
  ·cases h
 | cons b l ih =>
  intro s s' e h
  simp only [runOrd] at h
  split at h
  ·rename_i I hI
   split at h
   ·rename_i q hp hq
    have hput : Log s (s.put (some d) q) := by
     obtain ⟨j, k, v, _, _, _, rfl⟩ := pickR_spec hq
     refine Log.put ?_
     have := (itAt_spec hI).2.1
     simp [Nat.blt_eq]; omega
    split at h
    ·rename_i u hu
     have h1 := hput.trans (hround hu)
     refine Log.trans ?_ (ih h)
     split
     ·exact h1
     ·exact cut_log h1
    ·exact hput.trans (hround h)
   ·cases h
  ·cases h

/-- What a call leaves of the caller's objects. -/
structure LogC (hp : Hp) (n c : Nat) (r : CR) : Prop where
 le_n : n ≤ r.n
 le_c : c ≤ r.c
 top : Tops hp n → Tops r.hp r.n
 same : ∀ id, id < n → id ∉ r.wl → r.hp.get id = hp.get id
 stay : ∀ id, id < n → r.hp.get id = none → hp.get id = none

theorem LogC.ok {hp : Hp} {n c : Nat} {r : CR} (h : LogC hp n c r) (ht : Tops hp n) : LogOK hp n c r := ⟨h.le_n, h.le_c, h.top ht, h.same, h.stay⟩

theorem finish_logC {s : St} {thr : Bool} {v : V} {r : CR} {hp : Hp} {n c : Nat} {vs : List V} (hl : Log (enter vs hp n c) s) (hr : finish thr n s v = some r) : LogC hp n c r := by
 have top : Tops hp n → Tops s.hp s.n := hl.top (Nat.le_refl _)
 have wl : ∀ id, id < n → id ∉ s.wl → s.hp.get id = hp.get id := fun id hid hw => (hl.wl (Nat.le_refl _) id hid hw).2
 have stay : ∀ id, id < n → s.hp.get id = none → hp.get id = none := fun id hid hn => hl.stay (Nat.le_refl _) id hid hn
 unfold finish at hr
 split at hr
 ·split at hr
  ·simp only [Option.some.injEq] at hr; subst hr
   refine ⟨Nat.le_refl _, hl.c, fun ht id hid => ?_, fun id hid hw => ?_, fun id hid hn => ?_⟩
   ·show (Hp.trunc n s.hp).get id = none
    rw [trunc_get, if_neg (by have : n ≤ id := hid; omega)]
   ·show (Hp.trunc n s.hp).get id = _
    rw [trunc_get, if_pos hid]; exact wl id hid hw
   ·have hn' : (Hp.trunc n s.hp).get id = none := hn
    rw [trunc_get, if_pos hid] at hn'; exact stay id hid hn'
  ·simp at hr
 ·simp only [Option.some.injEq] at hr; subst hr
  exact ⟨hl.n, hl.c, top, wl, stay⟩

theorem leave_inv {cfg : Cfg} {f : FuncId} {fn : Func} {n : Nat} {e : Ex} {s : St} {r : CR} (h : leave P cfg f fn n (some (e, s)) = some r) :
  (e = .normal ∨ e = .ret) ∧ ∃ rs, resultsV P s fn.results.toList = some rs ∧ finish (cfg.thr f) n s (tup rs) = some r := by
 unfold leave at h
 split at h
 ·rename_i s0 hs
  simp only [Option.some.injEq, Prod.mk.injEq] at hs; obtain ⟨rfl, rfl⟩ := hs
  split at h
  ·rename_i rs hrs; exact ⟨.inl rfl, rs, hrs, h⟩
  ·simp at h
 ·rename_i s0 hs
  simp only [Option.some.injEq, Prod.mk.injEq] at hs; obtain ⟨rfl, rfl⟩ := hs
  split at h
  ·rename_i rs hrs; exact ⟨.inr rfl, rs, hrs, h⟩
  ·simp at h
 ·simp at h

theorem callBy_inv [Gl] {cfg : Cfg} {run : FuncId → Code → St → Option (Ex × St)} {f : FuncId} {vs : List V} {hp : Hp} {n c : Nat} {r : CR} (h : callBy P cfg run f vs hp n c = some r) :
  ∃ fn body, P.funcs[f]? = some fn ∧ fn.body = some body ∧ vs.length ≤ fn.ntmps ∧
   ((codeOK fn.ntmps body = true ∧ ∃ e s, run f body (enter vs hp n c) = some (e, s) ∧ leave P cfg f fn n (some (e, s)) = some r) ∨
    (spineOK fn.ntmps body = true ∧ ∃ e s d, runD P cfg run f body (enter vs hp n c) = some (e, s, d) ∧ ((d = none ∧ leave P cfg f fn n (some (e, s)) = some r) ∨
     (∃ g caps s', d = some (g, caps) ∧ (e = .normal ∨ e = .ret) ∧ defF P cfg run g caps s = some s' ∧ leave P cfg f fn n (some (.ret, s')) = some r)))) := by
 change callFn P cfg run f vs hp n c = some r at h
 unfold callFn at h
 split at h
 ·rename_i fn hfn
  split at h
  ·rename_i body hbody
   refine ⟨fn, body, hfn, hbody, ?_⟩
   split at h
   ·rename_i hok
    simp only [Bool.and_eq_true] at hok
    refine ⟨Nat.le_of_ble_eq_true hok.1, .inl ⟨hok.2, ?_⟩⟩
    cases hr : run f body (enter vs hp n c) with
    | none => rw [hr] at h; simp [leave] at h
    | some q => rw [hr] at h; exact ⟨q.1, q.2, rfl, h⟩
   ·unfold callDf at h
    split at h
    ·rename_i hok
     simp only [Bool.and_eq_true] at hok
     refine ⟨Nat.le_of_ble_eq_true hok.1, .inr ⟨hok.2, ?_⟩⟩
     split at h
     ·rename_i e s hd; exact ⟨e, s, none, hd, .inl ⟨rfl, h⟩⟩
     ·rename_i e s g caps hd
      refine ⟨e, s, some (g, caps), hd, .inr ⟨g, caps, ?_⟩⟩
      split at h
      ·simp at h
      ·rename_i hne
       split at h
       ·rename_i s' hs'
        refine ⟨s', rfl, ?_, hs', h⟩
        cases e with
        | normal => exact .inl rfl
        | ret => exact .inr rfl
        | exit i => exact absurd rfl (hne i)
       ·simp at h
     ·simp at h
    ·simp at h
  ·simp at h
 ·simp at h

theorem runD_log [Gl] {cfg : Cfg} {run : FuncId → Code → St → Option (Ex × St)} (hrun : ∀ {f c s e s'}, run f c s = some (e, s') → Log s s') {f : FuncId} : ∀ {c : Code} {s s' : St} {e : Ex} {d : Option (FuncId × List V)}, runD P cfg run f c s = some (e, s', d) → Log s s' := by
 intro c
 induction c with
 | seq a b iha ihb =>
  intro s s' e d h
  simp only [runD] at h
  split at h
  ·split at h
   ·rename_i s1 h1
    split at h
    ·split at h
     ·rename_i e2 s2 h2
      simp only [Option.some.injEq, Prod.mk.injEq] at h; obtain ⟨rfl, rfl, rfl⟩ := h
      exact (runRegion_log h1).trans (hrun h2)
     ·simp at h
    ·simp at h
   ·simp at h
  ·split at h
   ·rename_i s1 h1; exact (hrun h1).trans (ihb h)
   ·rename_i e1 s1 _ h1
    simp only [Option.some.injEq, Prod.mk.injEq] at h; obtain ⟨rfl, rfl, rfl⟩ := h
    exact hrun h1
   ·simp at h
 | _ => intro s s' e d h; simp [runD] at h

theorem defF_inv [Gl] {cfg : Cfg} {run : FuncId → Code → St → Option (Ex × St)} {g : FuncId} {caps : List V} {s s' : St} (h : defF P cfg run g caps s = some s') :
  ∃ gn gb id ops rest t1 e t, P.funcs[g]? = some gn ∧ gn.body = some gb ∧ unRec gb = some (id, ops, rest) ∧ caps.length ≤ gn.ntmps ∧ codeOKb true gn.ntmps (.seq (.region id ops false) rest) = true ∧ gn.results.toList = [] ∧
   runRegion P cfg noCall g id ops false (enter caps s.hp s.n s.c) = some t1 ∧ run g rest t1 = some (e, t) ∧ (e = .normal ∨ e = .ret) ∧
   s' = { env := s.env, hp := t.hp, n := t.n, c := t.c, n0 := s.n0, wl := addNew s.n0 s.wl (t.wl.map fun i => (i, default)) } := by
 unfold defF at h
 split at h
 ·rename_i gn h1
  split at h
  ·rename_i gb h2
   split at h
   ·rename_i id ops rest h3
    split at h
    ·rename_i h4
     simp only [Bool.and_eq_true, List.isEmpty_iff] at h4
     split at h
     ·rename_i t1 h5
      split at h
      ·rename_i t h6
       simp only [Option.some.injEq] at h
       exact ⟨gn, gb, id, ops, rest, t1, .normal, t, h1, h2, h3, Nat.le_of_ble_eq_true h4.1.1, h4.1.2, h4.2, h5, h6, .inl rfl, h.symm⟩
      ·rename_i t h6
       simp only [Option.some.injEq] at h
       exact ⟨gn, gb, id, ops, rest, t1, .ret, t, h1, h2, h3, Nat.le_of_ble_eq_true h4.1.1, h4.1.2, h4.2, h5, h6, .inr rfl, h.symm⟩
      ·simp at h
     ·simp at h
    ·simp at h
   ·simp at h
  ·simp at h
 ·simp at h

theorem defF_log [Gl] {cfg : Cfg} {run : FuncId → Code → St → Option (Ex × St)} (hrun : ∀ {f c s e s'}, run f c s = some (e, s') → Log s s') {g : FuncId} {caps : List V} {s s' : St} (h : defF P cfg run g caps s = some s') : Log s s' := by
 obtain ⟨gn, gb, id, ops, rest, t1, e, t, h1, h2, h3, h4, h5, h6, h7, h8, h9, rfl⟩ := defF_inv h
 have hl := (runRegion_log h7).trans (hrun h8)
 refine ⟨rfl, hl.n, hl.c, fun h0 ht => hl.top (Nat.le_refl _) ht, fun h0 id hid hw => ?_, fun h0 id hid hn => ?_⟩
 ·obtain ⟨q1, q2⟩ := addNew_mem hw
  exact ⟨q1, (hl.wl (Nat.le_refl _) id (by show id < s.n; omega) (fun hm => q2 hid (by simpa using hm))).2⟩
 ·exact hl.stay (Nat.le_refl _) id (by show id < s.n; omega) hn

theorem callFn_log [Gl] {cfg : Cfg} {run : FuncId → Code → St → Option (Ex × St)} (hrun : ∀ {f c s e s'}, run f c s = some (e, s') → Log s s') {f : FuncId} {vs : List V} {hp : Hp} {n c : Nat} {r : CR} (h : callFn P cfg run f vs hp n c = some r) : LogC hp n c r := by
 obtain ⟨fn, body, h1, h2, h3, h4⟩ := callBy_inv (cfg := cfg) (run := run) h
 rcases h4 with ⟨h4, e, s, h5, h6⟩ | ⟨h4, e, s, d, h5, ⟨_, h6⟩ | ⟨g, caps, s', _, _, h7, h6⟩⟩ <;> obtain ⟨_, rs, h8, h9⟩ := leave_inv h6
 ·exact finish_logC (hrun h5) h9
 ·exact finish_logC (runD_log hrun h5) h9
 ·exact finish_logC ((runD_log hrun h5).trans (defF_log hrun h7)) h9

theorem rangeR_inv {call : CallF} {fid : Nat} {g : V} {ps : List Nat} {asg body : Code} {s t : St} {e : Ex} (h : rangeR call fid g ps asg body s = some (e, t)) :
  ∃ f caps r g0 st pend fid' env' ps' asg' body', g = .fn f caps ∧ call.fn f (.yd s.n s.c :: caps) (s.hp.set s.n ⟨s.c, false, [.lp 0 none fid s.env ps asg body]⟩) (s.n + 1) (s.c + 1) = some r ∧
   live r.hp.get s.n s.c = some ⟨g0, false, [.lp st pend fid' env' ps' asg' body']⟩ ∧ st ≠ 1 ∧ (endR' e).2.2 = pend ∧
   t = { env := s.env, hp := Hp.drop s.n r.hp, n := r.n, c := r.c, n0 := s.n0, wl := addNew s.n0 s.wl (r.wl.map fun i => (i, default)) } := by
 unfold rangeR at h
 split at h
 ·rename_i f caps
  split at h
  ·rename_i r hr
   unfold afterRange at h
   split at h
   ·rename_i g0 st pend fid' env' ps' asg' body' hl
    split at h
    ·simp at h
    ·rename_i hst
     have hst' : st ≠ 1 := fun he => by subst he; cases hst
     split at h <;> simp only [Option.some.injEq, Prod.mk.injEq, reduceCtorEq] at h <;> obtain ⟨rfl, rfl⟩ := h <;>
      exact ⟨f, caps, r, g0, st, _, fid', env', ps', asg', body', rfl, hr, hl, hst', rfl, rfl⟩
   ·simp at h
  ·simp at h
 ·simp at h

theorem rangeR_log {call : CallF} (hc : ∀ {f vs hp n c r}, call.fn f vs hp n c = some r → LogC hp n c r) {fid : Nat} {g : V} {ps : List Nat} {asg body : Code} {s t : St} {e : Ex} (h : rangeR call fid g ps asg body s = some (e, t)) : Log s t := by
 obtain ⟨f, caps, r, g0, st, pend, fid', env', ps', asg', body', _, h2, _, _, _, rfl⟩ := rangeR_inv h
 obtain ⟨l1, l2, l3, l4, l5⟩ := hc h2
 have tops : Tops s.hp s.n → Tops (s.hp.set s.n ⟨s.c, false, [.lp 0 none fid s.env ps asg body]⟩) (s.n + 1) := fun ht id hid => by
  rw [hp_get_set, upd_ne _ _ (by omega)]; exact ht id (by omega)
 refine ⟨rfl, Nat.le_trans (Nat.le_succ _) l1, Nat.le_trans (Nat.le_succ _) l2, fun h0 ht id hid => ?_, fun h0 id hid hw => ?_, fun h0 id hid hn => ?_⟩
 ·show (Hp.drop s.n r.hp).get id = none
  rw [drop_get]
  split
  ·rfl
  ·exact l3 (tops ht) id hid
 ·have hne : id ≠ s.n := by omega
  obtain ⟨h1, h2⟩ := addNew_mem hw
  refine ⟨h1, ?_⟩
  show (Hp.drop s.n r.hp).get id = _
  rw [drop_get, if_neg hne, l4 id (by omega) (fun hm => h2 hid (by simpa using hm)), hp_get_set, upd_ne _ _ hne]
 ·have hne : id ≠ s.n := by omega
  have hn' : (Hp.drop s.n r.hp).get id = none := hn
  rw [drop_get, if_neg hne] at hn'
  have := l5 id (by omega) hn'
  rwa [hp_get_set, upd_ne _ _ hne] at this

theorem execF_log [Gl] {cfg : Cfg} : ∀ {k : Nat} {fid : FuncId} {c : Code} {s s' : St} {e : Ex}, execF P cfg k fid c s = some (e, s') → Log s s'
 | 0, fid, c, s, s', e, h => by simp [execF] at h
 | k + 1, fid, c, s, s', e, h => by
  cases c <;> simp only [execF] at h <;> try (simp at h; done)
  case skip => simp at h; obtain ⟨_, rfl⟩ := h; exact Log.refl _
  case label l => simp at h; obtain ⟨_, rfl⟩ := h; exact Log.refl _
  case ret => simp at h; obtain ⟨_, rfl⟩ := h; exact Log.refl _
  case exit id => simp at h; obtain ⟨_, rfl⟩ := h; exact Log.refl _
  case seq x y =>
   split at h
   ·rename_i t ht; exact (execF_log ht).trans (execF_log h)
   ·exact execF_log h
  case cond q x y =>
   split at h
   ·exact execF_log h
   ·exact execF_log h
   ·simp at h
  case block id b =>
   split at h
   ·rename_i i t ht
    split at h <;> (simp at h; obtain ⟨_, rfl⟩ := h; exact execF_log ht)
   ·exact execF_log h
  case loop b =>
   split at h
   ·split at h
    ·rename_i t ht
     refine Log.trans ?_ (execF_log h)
     split
     ·exact execF_log ht
     ·exact cut_log (execF_log ht)
    ·exact execF_log h
   ·rename_i r ops t d rest hn
    split at h
    ·rename_i I hI
     obtain ⟨hsn, hall⟩ := allOrd_spec h
     obtain ⟨y, hy, hle⟩ := hall _ (isPerm_self _)
     exact (runOrd_log (fun s t ht => runRegion_log ht) (fun s e t ht => execF_log ht) hy).raise (by rw [hsn]; exact Nat.le_refl _) hle
    ·cases h
  case region id ops draw =>
   simp only [Option.map_eq_some_iff] at h
   obtain ⟨t, ht, h⟩ := h
   simp at h; obtain ⟨_, rfl⟩ := h
   exact runRegion_log ht
  case rangeFunc g ps asg body => exact rangeR_log (fun h => callFn_log (P := P) (cfg := cfg) (run := execF P cfg k) (fun h => execF_log h) h) h

end Go.Ac
