/- The abstract machine: a region, in the order of the text or in any order that its edges allow. No conditions. -/
import Derived.Test.YtofbmhmdpeclnaaAbP
set_option linter.unusedVariables false
set_option linter.unusedSimpArgs false
namespace Go.Ab
variable {P : Program}

/-! ### A sum of acts, some of them left out -/

def fx {β : Type} (F : Nat → (Nat → β) → Nat → β) (X : Nat → Bool) (f0 : Nat → β) : Nat → Nat → β
  | 0 => f0
  | k + 1 => match X k with | true => F k (fx F X f0 k) | false => fx F X f0 k

structure Acts {β : Type} (F : Nat → (Nat → β) → Nat → β) (K : Nat → List Nat) : Prop where
  loc : ∀ (i : Nat) (f g : Nat → β) (id : Nat), f id = g id → F i f id = F i g id
  out : ∀ (i : Nat) (f : Nat → β) (id : Nat), id ∉ K i → F i f id = f id

section
variable {β : Type} {F : Nat → (Nat → β) → Nat → β} {K : Nat → List Nat} {f0 : Nat → β}

theorem fx_congr {X Y : Nat → Bool} : ∀ {k : Nat}, (∀ i, i < k → X i = Y i) → fx F X f0 k = fx F Y f0 k
  | 0, _ => rfl
  | k + 1, h => by
    simp only [fx]
    rw [h k (by omega), fx_congr (k := k) fun i hi => h i (by omega)]

theorem Acts.comm (A : Acts F K) {i j : Nat} (h : ∀ id ∈ K i, id ∉ K j) (f : Nat → β) : F i (F j f) = F j (F i f) := by
  funext id
  by_cases hi : id ∈ K i
  · have hj := h id hi
    rw [A.out j _ id hj]
    exact A.loc i _ _ id (A.out j _ id hj)
  · rw [A.out i _ id hi]
    exact (A.loc j _ _ id (A.out i _ id hi)).symm

theorem fx_add (A : Acts F K) {X : Nat → Bool} {j : Nat} (hX : X j = false) : ∀ {k : Nat}, j < k → (∀ i, j < i → i < k → X i = true → ∀ id ∈ K i, id ∉ K j) → fx F (upd X j true) f0 k = F j (fx F X f0 k)
  | k + 1, hj, hd => by
    simp only [fx]
    by_cases hkj : k = j
    · subst hkj
      rw [upd_same, hX]
      simp only
      rw [fx_congr (F := F) (f0 := f0) (X := upd X k true) (Y := X) fun i hi => upd_ne _ _ (by omega)]
    · rw [upd_ne _ _ hkj, fx_add A hX (k := k) (by omega) fun i h1 h2 => hd i h1 (by omega)]
      cases hk : X k with
      | false => rfl
      | true => exact A.comm (hd k (by omega) (by omega) hk) _

theorem fx_read (A : Acts F K) {X : Nat → Bool} {id : Nat} {j : Nat} (h1 : ∀ i, i < j → X i = false → id ∉ K i) : ∀ {k : Nat}, j ≤ k → (∀ i, j ≤ i → i < k → X i = true → id ∉ K i) → fx F X f0 k id = fx F (fun _ => true) f0 j id
  | k, hk, h2 => by
    have low : ∀ n, n ≤ j → fx F X f0 n id = fx F (fun _ => true) f0 n id := by
      intro n
      induction n with
      | zero => intro _; rfl
      | succ n ih =>
        intro hn
        simp only [fx]
        cases hx : X n with
        | true => exact A.loc _ _ _ _ (ih (by omega))
        | false => rw [A.out _ _ _ (h1 n (by omega) hx)]; exact ih (by omega)
    have high : ∀ n, j + n ≤ k → fx F X f0 (j + n) id = fx F X f0 j id := by
      intro n
      induction n with
      | zero => intro _; rfl
      | succ n ih =>
        intro hn
        show fx F X f0 (j + n + 1) id = _
        simp only [fx]
        cases hx : X (j + n) with
        | true => exact (A.out _ _ _ (h2 (j + n) (by omega) (by omega) hx)).trans (ih (by omega))
        | false => exact ih (by omega)
    have := high (k - j) (by omega)
    rw [show j + (k - j) = k by omega] at this
    rw [this]
    exact low j (Nat.le_refl _)

end

theorem hupd_loc : ∀ (l : List (Nat × Ob)) (f g : Nat → Option Ob) (id : Nat), f id = g id → hupd f l id = hupd g l id
  | [], f, g, id, h => h
  | (k, o) :: r, f, g, id, h => hupd_loc r _ _ id (by simp only [upd, h])

theorem hupd_out : ∀ (l : List (Nat × Ob)) (f : Nat → Option Ob) (id : Nat), id ∉ l.map (·.1) → hupd f l id = f id
  | [], f, id, _ => rfl
  | (k, o) :: r, f, id, h => by
    simp only [List.map_cons, List.mem_cons, not_or] at h
    simp only [hupd]
    rw [hupd_out r _ id h.2, upd_ne _ _ h.1]

def putE (dst : Option Nat) (v : V) (f : Nat → V) : Nat → V := match dst with | some d => upd f d v | none => f

theorem env_get_cons (d : Nat) (v : V) (e : Env) : Env.get ((d, v) :: e) = upd e.get d v := by
  funext t
  simp only [Env.get, upd]
  by_cases h : t = d
  · subst h; simp
  · rw [beq_ff (Ne.symm h)]; simp [h]

/-! ### What is written down of a run -/

structure Log (s s' : St) : Prop where
  n0 : s'.n0 = s.n0
  n : s.n ≤ s'.n
  c : s.c ≤ s'.c
  top : s.n0 ≤ s.n → Tops s.hp s.n → Tops s'.hp s'.n
  wl : s.n0 ≤ s.n → ∀ id, id < s.n0 → id ∉ s'.wl → id ∉ s.wl ∧ s'.hp.get id = s.hp.get id
  stay : s.n0 ≤ s.n → ∀ id, id < s.n0 → s'.hp.get id = none → s.hp.get id = none

theorem Log.refl (s : St) : Log s s := ⟨rfl, Nat.le_refl _, Nat.le_refl _, fun _ h => h, fun _ _ _ h => ⟨h, rfl⟩, fun _ _ _ h => h⟩

theorem Log.trans {a b c : St} (h : Log a b) (k : Log b c) : Log a c := by
  have hb : a.n0 ≤ a.n → b.n0 ≤ b.n := fun h0 => by rw [h.n0]; exact Nat.le_trans h0 h.n
  refine ⟨k.n0.trans h.n0, Nat.le_trans h.n k.n, Nat.le_trans h.c k.c, fun h0 ht => k.top (hb h0) (h.top h0 ht), fun h0 id hid hw => ?_, fun h0 id hid hn => ?_⟩
  · obtain ⟨h1, h2⟩ := k.wl (hb h0) id (by rw [h.n0]; exact hid) hw
    obtain ⟨h3, h4⟩ := h.wl h0 id hid h1
    exact ⟨h3, h2.trans h4⟩
  · exact h.stay h0 id hid (k.stay (hb h0) id (by rw [h.n0]; exact hid) hn)

theorem addNew_mem {n0 id : Nat} : ∀ {wr : List (Nat × Ob)} {wl : List Nat}, id ∉ addNew n0 wl wr → id ∉ wl ∧ (id < n0 → id ∉ wr.map (·.1))
  | [], wl, h => ⟨h, fun _ => by simp⟩
  | (k, o) :: r, wl, h => by
    simp only [addNew] at h
    split at h
    · rename_i hk
      split at h
      · rename_i ha
        obtain ⟨h1, h2⟩ := addNew_mem h
        refine ⟨h1, fun hlt => ?_⟩
        simp only [List.map_cons, List.mem_cons, not_or]
        refine ⟨fun he => ?_, h2 hlt⟩
        obtain ⟨x, hx1, hx2⟩ := List.any_eq_true.1 ha
        have := Nat.eq_of_beq_eq_true hx2
        subst this; subst he
        exact h1 hx1
      · obtain ⟨h1, h2⟩ := addNew_mem h
        simp only [List.mem_cons, not_or] at h1
        exact ⟨h1.2, fun hlt => by simp only [List.map_cons, List.mem_cons, not_or]; exact ⟨h1.1, h2 hlt⟩⟩
    · rename_i hk
      obtain ⟨h1, h2⟩ := addNew_mem h
      refine ⟨h1, fun hlt => ?_⟩
      simp only [List.map_cons, List.mem_cons, not_or]
      refine ⟨fun he => ?_, h2 hlt⟩
      subst he
      rw [show Nat.blt id n0 = true by simp [Nat.blt_eq, hlt]] at hk; simp at hk

theorem hupd_some : ∀ (l : List (Nat × Ob)) (f : Nat → Option Ob) (id : Nat), hupd f l id = none → f id = none
  | [], f, id, h => h
  | (k, o) :: r, f, id, h => by
    simp only [hupd] at h
    have := hupd_some r _ id h
    by_cases hk : id = k
    · subst hk; simp [upd] at this
    · rwa [upd_ne _ _ hk] at this

theorem Log.put {s : St} {dst : Option Nat} {q : Res} (h : q.wr.all (fun p => Nat.blt p.1 (s.n + q.dn)) = true) : Log s (s.put dst q) := by
  refine ⟨rfl, Nat.le_add_right _ _, Nat.le_add_right _ _, fun h0 ht id hid => ?_, fun h0 id hid hw => ?_, fun h0 id hid hn => ?_⟩
  · show (s.hp.sets q.wr).get id = none
    rw [hp_get_sets, hupd_out]
    · exact ht id (by have : s.n + q.dn ≤ id := hid; omega)
    · intro hm
      obtain ⟨p, hp, rfl⟩ := List.mem_map.1 hm
      have := List.all_eq_true.1 h p hp
      rw [Nat.blt_eq] at this
      have : s.n + q.dn ≤ p.1 := hid
      omega
  · obtain ⟨h1, h2⟩ := addNew_mem hw
    refine ⟨h1, ?_⟩
    show (s.hp.sets q.wr).get id = _
    rw [hp_get_sets, hupd_out _ _ _ (h2 hid)]
  · have : (s.hp.sets q.wr).get id = none := hn
    rw [hp_get_sets] at this
    exact hupd_some _ _ _ this

/-! ### The trace of a region -/

section
variable {cfg : Cfg} {fid rid : Nat} {call : CallF} {all : List Oper}

/-- The states and the results of a region's operations, in the order of the text. -/
structure Trace (P : Program) (cfg : Cfg) (fid rid : Nat) (call : CallF) (all l : List Oper) (σ : Nat → St) (ρ : Nat → Res) : Prop where
  step : ∀ (i : Nat) (o : Oper), l[i]? = some o → opW P cfg fid rid call all o (σ i) = some (ρ i) ∧ σ (i + 1) = (σ i).put o.dst (ρ i)

theorem runOps_trace : ∀ {l : List Oper} {s s' : St}, runOps P cfg fid rid call all l s = some s' → ∃ σ ρ, σ 0 = s ∧ σ l.length = s' ∧ Trace P cfg fid rid call all l σ ρ
  | [], s, s', h => ⟨fun _ => s, fun _ => skipR, rfl, by simpa [runOps] using h, ⟨fun i o ho => by simp at ho⟩⟩
  | o :: r, s, s', h => by
    simp only [runOps] at h
    split at h
    · rename_i q hq
      obtain ⟨σ, ρ, h1, h2, h3⟩ := runOps_trace h
      refine ⟨fun i => match i with | 0 => s | i + 1 => σ i, fun i => match i with | 0 => q | i + 1 => ρ i, rfl, h2, ⟨fun i p hp => ?_⟩⟩
      cases i with
      | zero => simp at hp; subst hp; exact ⟨hq, h1⟩
      | succ i => simp at hp; exact h3.step i p hp
    · simp at h

theorem Trace.tail {o : Oper} {r : List Oper} {σ : Nat → St} {ρ : Nat → Res} (t : Trace P cfg fid rid call all (o :: r) σ ρ) : Trace P cfg fid rid call all r (fun i => σ (i + 1)) (fun i => ρ (i + 1)) :=
  ⟨fun i p hp => t.step (i + 1) p (by simpa using hp)⟩

theorem checkOps_trace : ∀ {l : List Oper} {ancs : List (List Nat)} {tr : List Tr} {s : St} {σ : Nat → St} {ρ : Nat → Res}, checkOps P cfg fid rid call all l ancs tr s = true → σ 0 = s → Trace P cfg fid rid call all l σ ρ →
    ∀ (j : Nat) (o : Oper), l[j]? = some o → ∃ a, ancs[j]? = some a ∧ (∀ (k : Nat) (t : Tr), tr[k]? = some t → a.contains k = true ∨ apartT t (trOf o all (ρ j)) = true) ∧
      ∀ (i : Nat) (p : Oper), i < j → l[i]? = some p → a.contains (tr.length + i) = true ∨ apartT (trOf p all (ρ i)) (trOf o all (ρ j)) = true
  | [], ancs, tr, s, σ, ρ, _, _, _, j, o, ho => by simp at ho
  | p :: r, [], tr, s, σ, ρ, h, _, _, j, o, ho => by simp [checkOps] at h
  | p :: r, a :: ancs, tr, s, σ, ρ, h, h0, ht, j, o, ho => by
    simp only [checkOps] at h
    obtain ⟨t1, t2⟩ := ht.step 0 p rfl
    rw [h0] at t1
    rw [t1] at h
    simp only [Bool.and_eq_true] at h
    cases j with
    | zero =>
      simp at ho; subst ho
      refine ⟨a, rfl, fun k t hk => ?_, fun i q hi => by omega⟩
      have := List.all_eq_true.1 h.1 (t, k) (by rw [List.mem_zipIdx_iff_getElem?]; exact hk)
      simpa using this
    | succ j =>
      simp at ho
      rw [h0] at t2
      obtain ⟨b, h1, h2, h3⟩ := checkOps_trace h.2 (σ := fun i => σ (i + 1)) (ρ := fun i => ρ (i + 1)) t2 ht.tail j o ho
      refine ⟨b, by simpa using h1, fun k t hk => h2 k t ?_, fun i q hi hq => ?_⟩
      · rw [List.getElem?_append_left (List.getElem?_eq_some_iff.1 hk).1]; exact hk
      · cases i with
        | zero => simp at hq; subst hq; exact h2 tr.length _ (by simp)
        | succ i =>
          simp at hq
          have := h3 i q (by omega) hq
          simp only [List.length_append, List.length_cons, List.length_nil] at this
          rwa [show tr.length + (0 + 1) + i = tr.length + (i + 1) by omega] at this

end

/-- What lies before an operation has been done, if all that binds it directly has. -/
theorem anc_spec {X : Nat → Bool} (all : List Oper) (hX : ∀ (i : Nat) (o : Oper), all[i]? = some o → X i = true → ∀ e ∈ o.after.toList, Region.binds .any e = true → X e.on = true) :
    (anc all).length = all.length ∧ ∀ (j : Nat) (o : Oper) (a : List Nat), all[j]? = some o → (anc all)[j]? = some a → (∀ e ∈ o.after.toList, Region.binds .any e = true → X e.on = true) → ∀ i ∈ a, X i = true := by
  have key : ∀ (r : List Oper) (acc : List (List Nat)) (d : List Oper), d ++ r = all → acc.length = d.length →
      (∀ (j : Nat) (o : Oper) (a : List Nat), all[j]? = some o → acc[j]? = some a → (∀ e ∈ o.after.toList, Region.binds .any e = true → X e.on = true) → ∀ i ∈ a, X i = true) →
      let res := r.foldl (fun acc o => acc ++ [o.after.toList.foldl (fun s e => if Region.binds .any e then e.on :: (acc.getD e.on [] ++ s) else s) []]) acc
      res.length = all.length ∧ ∀ (j : Nat) (o : Oper) (a : List Nat), all[j]? = some o → res[j]? = some a → (∀ e ∈ o.after.toList, Region.binds .any e = true → X e.on = true) → ∀ i ∈ a, X i = true := by
    intro r
    induction r with
    | nil => intro acc d hd hl h; simp only [List.append_nil] at hd; subst hd; exact ⟨hl, h⟩
    | cons p r ih =>
      intro acc d hd hl h
      simp only [List.foldl_cons]
      refine ih _ (d ++ [p]) (by simp [hd]) (by simp [hl]) fun j o a ho ha hb => ?_
      rw [List.getElem?_append] at ha
      split at ha
      · exact h j o a ho ha hb
      · rename_i hj
        have hj' : j = acc.length := by
          have := (List.getElem?_eq_some_iff.1 ha).1
          simp at this; omega
        subst hj'
        simp only [Nat.sub_self, List.getElem?_cons_zero, Option.some.injEq] at ha; subst ha
        have hop : o = p := by
          rw [← hd, hl] at ho
          simpa using ho.symm
        subst hop
        -- the inner sum
        have inner : ∀ (l : List Edge) (s : List Nat), (∀ e ∈ l, Region.binds .any e = true → X e.on = true) → (∀ i ∈ s, X i = true) →
            ∀ i ∈ l.foldl (fun s e => if Region.binds .any e then e.on :: (acc.getD e.on [] ++ s) else s) s, X i = true := by
          intro l
          induction l with
          | nil => intro s _ hs; exact hs
          | cons e l ihl =>
            intro s hl' hs
            simp only [List.foldl_cons]
            refine ihl _ (fun e' he' => hl' e' (by simp [he'])) ?_
            split
            · rename_i hbe
              have hXe := hl' e (by simp) hbe
              intro i hi
              simp only [List.mem_cons, List.mem_append] at hi
              rcases hi with rfl | hi | hi
              · exact hXe
              · cases hg : acc[e.on]? with
                | none => simp [hg] at hi
                | some b =>
                  simp [hg] at hi
                  have hlt : e.on < all.length := by
                    have := (List.getElem?_eq_some_iff.1 hg).1
                    rw [← hd]; simp; omega
                  exact h e.on all[e.on] b (by simp [hlt]) hg (hX e.on _ (by simp [hlt]) hXe) i hi
              · exact hs i hi
            · exact hs
        exact inner _ [] hb (fun i hi => by simp at hi)
  exact key all [] [] rfl rfl (fun j o a _ ha => by simp at ha)

end Go.Ab
