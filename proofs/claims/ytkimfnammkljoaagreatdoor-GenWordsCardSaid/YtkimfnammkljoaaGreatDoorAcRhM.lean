/- The abstract machine: an object of a drawn region that is made before its turn. No conditions. -/
import Derived.Test.YtkimfnammkljoaaGreatDoorAcPM
set_option linter.unusedVariables false
set_option linter.unusedSimpArgs false
section
namespace Go.Ac
variable {P : Program}

/-! ### A sum of acts, some of them left out -/

def fx {β : Type} (F : Nat → (Nat → β) → Nat → β) (X : Nat → Bool) (f0 : Nat → β) : Nat → Nat → β
 | 0 => f0
 | k + 1 => match X k with | true => F k (fx F X f0 k) | false => fx F X f0 k

structure Acts {β : Type} (F : Nat → (Nat → β) → Nat → β) (K : Nat → List Nat) : Prop where
 loc : ∀ (i : Nat) (f g : Nat → β) (id : Nat), f id = g id → F i f id = F i g id
 out : ∀ (i : Nat) (f : Nat → β) (id : Nat), id ∉ K i → F i f id = f id

section
variable {β : Type} {F : Nat → (Nat → β) → Nat → β} {K : Nat → List Nat} {f0 : Nat → β}

theorem fx_congr {X Y : Nat → Bool} : ∀ {k : Nat}, (∀ i, i < k → X i = Y i) → fx F X f0 k = fx F Y f0 k
 | 0, _ => rfl
 | k + 1, h => by
  simp only [fx]
  rw [h k (by omega), fx_congr (k := k) fun i hi => h i (by omega)]

theorem Acts.comm (A : Acts F K) {i j : Nat} (h : ∀ id ∈ K i, id ∉ K j) (f : Nat → β) : F i (F j f) = F j (F i f) := by
 funext id
 by_cases hi : id ∈ K i
 ·have hj := h id hi
  rw [A.out j _ id hj]
  exact A.loc i _ _ id (A.out j _ id hj)
 ·rw [A.out i _ id hi]
  exact (A.loc j _ _ id (A.out i _ id hi)).symm

theorem fx_add (A : Acts F K) {X : Nat → Bool} {j : Nat} (hX : X j = false) : ∀ {k : Nat}, j < k → (∀ i, j < i → i < k → X i = true → ∀ id ∈ K i, id ∉ K j) → fx F (upd X j true) f0 k = F j (fx F X f0 k)
 | k + 1, hj, hd => by
  simp only [fx]
  by_cases hkj : k = j
  ·subst hkj
   rw [upd_same, hX]
   simp only
   rw [fx_congr (F := F) (f0 := f0) (X := upd X k true) (Y := X) fun i hi => upd_ne _ _ (by omega)]
  ·rw [upd_ne _ _ hkj, fx_add A hX (k := k) (by omega) fun i h1 h2 => hd i h1 (by omega)]
   cases hk : X k with
   | false => rfl
   | true => exact A.comm (hd k (by omega) (by omega) hk) _

theorem fx_read (A : Acts F K) {X : Nat → Bool} {id : Nat} {j : Nat} (h1 : ∀ i, i < j → X i = false → id ∉ K i) : ∀ {k : Nat}, j ≤ k → (∀ i, j ≤ i → i < k → X i = true → id ∉ K i) → fx F X f0 k id = fx F (fun _ => true) f0 j id
 | k, hk, h2 => by
  have low : ∀ n, n ≤ j → fx F X f0 n id = fx F (fun _ => true) f0 n id := by
   intro n
   induction n with
   | zero => intro _; rfl
   | succ n ih =>
    intro hn
    simp only [fx]
    cases hx : X n with
    | true => exact A.loc _ _ _ _ (ih (by omega))
    | false => rw [A.out _ _ _ (h1 n (by omega) hx)]; exact ih (by omega)
  have high : ∀ n, j + n ≤ k → fx F X f0 (j + n) id = fx F X f0 j id := by
   intro n
   induction n with
   | zero => intro _; rfl
   | succ n ih =>
    intro hn
    show fx F X f0 (j + n + 1) id = _
    simp only [fx]
    cases hx : X (j + n) with
    | true => exact (A.out _ _ _ (h2 (j + n) (by omega) (by omega) hx)).trans (ih (by omega))
    | false => exact ih (by omega)
  have := high (k - j) (by omega)
  rw [show j + (k - j) = k by omega] at this
  rw [this]
  exact low j (Nat.le_refl _)

end

theorem hupd_loc : ∀ (l : List (Nat × Ob)) (f g : Nat → Option Ob) (id : Nat), f id = g id → hupd f l id = hupd g l id
 | [], f, g, id, h => h
 | (k, o) :: r, f, g, id, h => hupd_loc r _ _ id (by simp only [upd, h])

theorem hupd_out : ∀ (l : List (Nat × Ob)) (f : Nat → Option Ob) (id : Nat), id ∉ l.map (·.1) → hupd f l id = f id
 | [], f, id, _ => rfl
 | (k, o) :: r, f, id, h => by
  simp only [List.map_cons, List.mem_cons, not_or] at h
  simp only [hupd]
  rw [hupd_out r _ id h.2, upd_ne _ _ h.1]

def putE (dst : Option Nat) (v : V) (f : Nat → V) : Nat → V := match dst with | some d => upd f d v | none => f

theorem env_get_cons (d : Nat) (v : V) (e : Env) : Env.get ((d, v) :: e) = upd e.get d v := by
 funext t
 simp only [Env.get, upd]
 by_cases h : t = d
 ·subst h; simp
 ·rw [beq_ff (Ne.symm h)]; simp [h]

/-! ### What is written down of a run -/

structure Log (s s' : St) : Prop where
 n0 : s'.n0 = s.n0
 n : s.n ≤ s'.n
 c : s.c ≤ s'.c
 top : s.n0 ≤ s.n → Tops s.hp s.n → Tops s'.hp s'.n
 wl : s.n0 ≤ s.n → ∀ id, id < s.n0 → id ∉ s'.wl → id ∉ s.wl ∧ s'.hp.get id = s.hp.get id
 stay : s.n0 ≤ s.n → ∀ id, id < s.n0 → s'.hp.get id = none → s.hp.get id = none

theorem Log.refl (s : St) : Log s s := ⟨rfl, Nat.le_refl _, Nat.le_refl _, fun _ h => h, fun _ _ _ h => ⟨h, rfl⟩, fun _ _ _ h => h⟩

theorem Log.trans {a b c : St} (h : Log a b) (k : Log b c) : Log a c := by
 have hb : a.n0 ≤ a.n → b.n0 ≤ b.n := fun h0 => by rw [h.n0]; exact Nat.le_trans h0 h.n
 refine ⟨k.n0.trans h.n0, Nat.le_trans h.n k.n, Nat.le_trans h.c k.c, fun h0 ht => k.top (hb h0) (h.top h0 ht), fun h0 id hid hw => ?_, fun h0 id hid hn => ?_⟩
 ·obtain ⟨h1, h2⟩ := k.wl (hb h0) id (by rw [h.n0]; exact hid) hw
  obtain ⟨h3, h4⟩ := h.wl h0 id hid h1
  exact ⟨h3, h2.trans h4⟩
 ·exact h.stay h0 id hid (k.stay (hb h0) id (by rw [h.n0]; exact hid) hn)

theorem addNew_mem {n0 id : Nat} : ∀ {wr : List (Nat × Ob)} {wl : List Nat}, id ∉ addNew n0 wl wr → id ∉ wl ∧ (id < n0 → id ∉ wr.map (·.1))
 | [], wl, h => ⟨h, fun _ => by simp⟩
 | (k, o) :: r, wl, h => by
  simp only [addNew] at h
  split at h
  ·rename_i hk
   split at h
   ·rename_i ha
    obtain ⟨h1, h2⟩ := addNew_mem h
    refine ⟨h1, fun hlt => ?_⟩
    simp only [List.map_cons, List.mem_cons, not_or]
    refine ⟨fun he => ?_, h2 hlt⟩
    obtain ⟨x, hx1, hx2⟩ := List.any_eq_true.1 ha
    have := Nat.eq_of_beq_eq_true hx2
    subst this; subst he
    exact h1 hx1
   ·obtain ⟨h1, h2⟩ := addNew_mem h
    simp only [List.mem_cons, not_or] at h1
    exact ⟨h1.2, fun hlt => by simp only [List.map_cons, List.mem_cons, not_or]; exact ⟨h1.1, h2 hlt⟩⟩
  ·rename_i hk
   obtain ⟨h1, h2⟩ := addNew_mem h
   refine ⟨h1, fun hlt => ?_⟩
   simp only [List.map_cons, List.mem_cons, not_or]
   refine ⟨fun he => ?_, h2 hlt⟩
   subst he
   rw [show Nat.blt id n0 = true by simp [Nat.blt_eq, hlt]] at hk; simp at hk

theorem hupd_some : ∀ (l : List (Nat × Ob)) (f : Nat → Option Ob) (id : Nat), hupd f l id = none → f id = none
 | [], f, id, h => h
 | (k, o) :: r, f, id, h => by
  simp only [hupd] at h
  have := hupd_some r _ id h
  by_cases hk : id = k
  ·subst hk; simp [upd] at this
  ·rwa [upd_ne _ _ hk] at this

theorem Log.put {s : St} {dst : Option Nat} {q : Res} (h : q.wr.all (fun p => Nat.blt p.1 (s.n + q.dn)) = true) : Log s (s.put dst q) := by
 refine ⟨rfl, Nat.le_add_right _ _, Nat.le_add_right _ _, fun h0 ht id hid => ?_, fun h0 id hid hw => ?_, fun h0 id hid hn => ?_⟩
 ·show (s.hp.sets q.wr).get id = none
  rw [hp_get_sets, hupd_out]
  ·exact ht id (by have : s.n + q.dn ≤ id := hid; omega)
  ·intro hm
   obtain ⟨p, hp, rfl⟩ := List.mem_map.1 hm
   have := List.all_eq_true.1 h p hp
   rw [Nat.blt_eq] at this
   have : s.n + q.dn ≤ p.1 := hid
   omega
 ·obtain ⟨h1, h2⟩ := addNew_mem hw
  refine ⟨h1, ?_⟩
  show (s.hp.sets q.wr).get id = _
  rw [hp_get_sets, hupd_out _ _ _ (h2 hid)]
 ·have : (s.hp.sets q.wr).get id = none := hn
  rw [hp_get_sets] at this
  exact hupd_some _ _ _ this

/-! ### The trace of a region -/

section
variable {cfg : Cfg} {fid rid : Nat} {call : CallF} {all : List Oper}

/-- The states and the results of a region's operations, in the order of the text. -/
structure Trace [Gl] (P : Program) (cfg : Cfg) (fid rid : Nat) (call : CallF) (all l : List Oper) (σ : Nat → St) (ρ : Nat → Res) : Prop where
 step : ∀ (i : Nat) (o : Oper), l[i]? = some o → opW P cfg fid rid call all o (σ i) = some (ρ i) ∧ σ (i + 1) = (σ i).put o.dst (ρ i)

theorem runOps_trace [Gl] : ∀ {l : List Oper} {s s' : St}, runOps P cfg fid rid call all l s = some s' → ∃ σ ρ, σ 0 = s ∧ σ l.length = s' ∧ Trace P cfg fid rid call all l σ ρ
 | [], s, s', h => ⟨fun _ => s, fun _ => skipR, rfl, by simpa [runOps] using h, ⟨fun i o ho => by simp at ho⟩⟩
 | o :: r, s, s', h => by
  simp only [runOps] at h
  split at h
  ·rename_i q hq
   obtain ⟨σ, ρ, h1, h2, h3⟩ := runOps_trace h
   refine ⟨fun i => match i with | 0 => s | i + 1 => σ i, fun i => match i with | 0 => q | i + 1 => ρ i, rfl, h2, ⟨fun i p hp => ?_⟩⟩
   cases i with
   | zero => simp at hp; subst hp; exact ⟨hq, h1⟩
   | succ i => simp at hp; exact h3.step i p hp
  ·simp at h

theorem Trace.tail [Gl] {o : Oper} {r : List Oper} {σ : Nat → St} {ρ : Nat → Res} (t : Trace P cfg fid rid call all (o :: r) σ ρ) : Trace P cfg fid rid call all r (fun i => σ (i + 1)) (fun i => ρ (i + 1)) :=
 ⟨fun i p hp => t.step (i + 1) p (by simpa using hp)⟩

theorem checkOps_trace [Gl] : ∀ {l : List Oper} {ancs : List (List Nat)} {tr : List Tr} {s : St} {σ : Nat → St} {ρ : Nat → Res}, checkOps P cfg fid rid call all l ancs tr s = true → σ 0 = s → Trace P cfg fid rid call all l σ ρ →
  ∀ (j : Nat) (o : Oper), l[j]? = some o → ∃ a, ancs[j]? = some a ∧ (∀ (k : Nat) (t : Tr), tr[k]? = some t → a.contains k = true ∨ apartT t (trOf o all (ρ j)) = true) ∧
   ∀ (i : Nat) (p : Oper), i < j → l[i]? = some p → a.contains (tr.length + i) = true ∨ apartT (trOf p all (ρ i)) (trOf o all (ρ j)) = true
 | [], ancs, tr, s, σ, ρ, _, _, _, j, o, ho => by simp at ho
 | p :: r, [], tr, s, σ, ρ, h, _, _, j, o, ho => by simp [checkOps] at h
 | p :: r, a :: ancs, tr, s, σ, ρ, h, h0, ht, j, o, ho => by
  simp only [checkOps] at h
  obtain ⟨t1, t2⟩ := ht.step 0 p rfl
  rw [h0] at t1
  rw [t1] at h
  simp only [Bool.and_eq_true] at h
  cases j with
  | zero =>
   simp at ho; subst ho
   refine ⟨a, rfl, fun k t hk => ?_, fun i q hi => by omega⟩
   have := List.all_eq_true.1 h.1 (t, k) (by rw [List.mem_zipIdx_iff_getElem?]; exact hk)
   simpa using this
  | succ j =>
   simp at ho
   rw [h0] at t2
   obtain ⟨b, h1, h2, h3⟩ := checkOps_trace h.2 (σ := fun i => σ (i + 1)) (ρ := fun i => ρ (i + 1)) t2 ht.tail j o ho
   refine ⟨b, by simpa using h1, fun k t hk => h2 k t ?_, fun i q hi hq => ?_⟩
   ·rw [List.getElem?_append_left (List.getElem?_eq_some_iff.1 hk).1]; exact hk
   ·cases i with
    | zero => simp at hq; subst hq; exact h2 tr.length _ (by simp)
    | succ i =>
     simp at hq
     have := h3 i q (by omega) hq
     simp only [List.length_append, List.length_cons, List.length_nil] at this
     rwa [show tr.length + (0 + 1) + i = tr.length + (i + 1) by omega] at this

end

/-- What lies before an operation has been done, if all that binds it directly has. -/
theorem anc_spec {X : Nat → Bool} (all : List Oper) (hX : ∀ (i : Nat) (o : Oper), all[i]? = some o → X i = true → ∀ e ∈ o.after.toList, Region.binds .any e = true → X e.on = true) :
  (anc all).length = all.length ∧ ∀ (j : Nat) (o : Oper) (a : List Nat), all[j]? = some o → (anc all)[j]? = some a → (∀ e ∈ o.after.toList, Region.binds .any e = true → X e.on = true) → ∀ i ∈ a, X i = true := by
 have key : ∀ (r : List Oper) (acc : List (List Nat)) (d : List Oper), d ++ r = all → acc.length = d.length →
   (∀ (j : Nat) (o : Oper) (a : List Nat), all[j]? = some o → acc[j]? = some a → (∀ e ∈ o.after.toList, Region.binds .any e = true → X e.on = true) → ∀ i ∈ a, X i = true) →
   let res := r.foldl (fun acc o => acc ++ [o.after.toList.foldl (fun s e => if Region.binds .any e then e.on :: (acc.getD e.on [] ++ s) else s) []]) acc
   res.length = all.length ∧ ∀ (j : Nat) (o : Oper) (a : List Nat), all[j]? = some o → res[j]? = some a → (∀ e ∈ o.after.toList, Region.binds .any e = true → X e.on = true) → ∀ i ∈ a, X i = true := by
  intro r
  induction r with
  | nil => intro acc d hd hl h; simp only [List.append_nil] at hd; subst hd; exact ⟨hl, h⟩
  | cons p r ih =>
   intro acc d hd hl h
   simp only [List.foldl_cons]
   refine ih _ (d ++ [p]) (by simp [hd]) (by simp [hl]) fun j o a ho ha hb => ?_
   rw [List.getElem?_append] at ha
   split at ha
   ·exact h j o a ho ha hb
   ·rename_i hj
    have hj' : j = acc.length := by
     have := (List.getElem?_eq_some_iff.1 ha).1
     simp at this; omega
    subst hj'
    simp only [Nat.sub_self, List.getElem?_cons_zero, Option.some.injEq] at ha; subst ha
    have hop : o = p := by
     rw [← hd, hl] at ho
     simpa using ho.symm
    subst hop
    -- the inner sum
    have inner : ∀ (l : List Edge) (s : List Nat), (∀ e ∈ l, Region.binds .any e = true → X e.on = true) → (∀ i ∈ s, X i = true) →
      ∀ i ∈ l.foldl (fun s e => if Region.binds .any e then e.on :: (acc.getD e.on [] ++ s) else s) s, X i = true := by
     intro l
     induction l with
     | nil => intro s _ hs; exact hs
     | cons e l ihl =>
      intro s hl' hs
      simp only [List.foldl_cons]
      refine ihl _ (fun e' he' => hl' e' (by simp [he'])) ?_
      split
      ·rename_i hbe
       have hXe := hl' e (by simp) hbe
       intro i hi
       simp only [List.mem_cons, List.mem_append] at hi
       rcases hi with rfl | hi | hi
       ·exact hXe
       ·cases hg : acc[e.on]? with
        | none => simp [hg] at hi
        | some b =>
         simp [hg] at hi
         have hlt : e.on < all.length := by
          have := (List.getElem?_eq_some_iff.1 hg).1
          rw [← hd]; simp; omega
         exact h e.on all[e.on] b (by simp [hlt]) hg (hX e.on _ (by simp [hlt]) hXe) i hi
       ·exact hs i hi
      ·exact hs
    exact inner _ [] hb (fun i hi => by simp at hi)
 exact key all [] [] rfl rfl (fun j o a _ ha => by simp at ha)

end Go.Ac
end

section
namespace Go.Ac
variable {P : Program}

theorem disj_spec {a b : List Nat} (h : disj a b = true) : ∀ x ∈ a, x ∉ b := by
 intro x hx hb
 have := List.all_eq_true.1 (List.all_eq_true.1 h x hx) x hb
 simp at this

theorem apartT_spec {a b : Tr} (h : apartT a b = true) : (∀ x ∈ a.wr, x ∉ b.rd) ∧ (∀ x ∈ a.wr, x ∉ b.wr) ∧ (∀ x ∈ b.wr, x ∉ a.rd) ∧ (a.all = true → b.wr = [] ∧ b.dc = 0) ∧ (b.all = true → a.wr = [] ∧ a.dc = 0) ∧
  (∀ d, a.ds = some d → d ∉ b.sl ∧ b.ds ≠ some d) ∧ (∀ d, b.ds = some d → d ∉ a.sl) := by
 unfold apartT at h
 simp only [Bool.and_eq_true] at h
 obtain ⟨⟨⟨⟨⟨h1, h2⟩, h3⟩, h4⟩, h5⟩, h6⟩ := h
 have h1' := disj_spec h1
 refine ⟨fun x hx hb => h1' x hx (by simp [hb]), fun x hx hb => h1' x hx (by simp [hb]), disj_spec h2, fun ha => ?_, fun hb => ?_, fun d hd => ?_, fun d hd => ?_⟩
 ·rw [ha] at h3
  simp at h3; exact h3
 ·rw [hb] at h4
  simp at h4; exact h4
 ·rw [hd] at h5
  simp at h5; exact h5
 ·rw [hd] at h6
  simpa using h6

def FH (ρ : Nat → Res) (i : Nat) (f : Nat → Option Ob) : Nat → Option Ob := hupd f (ρ i).wr
def FE (ops : Array Oper) (ρ : Nat → Res) (i : Nat) (f : Nat → V) : Nat → V := putE ((ops[i]?).bind (·.dst)) (ρ i).v f
def KH (ρ : Nat → Res) (i : Nat) : List Nat := (ρ i).wr.map (·.1)
def KE (ops : Array Oper) (i : Nat) : List Nat := ((ops[i]?).bind (·.dst)).toList

theorem acts_FH (ρ : Nat → Res) : Acts (FH ρ) (KH ρ) := ⟨fun i f g id h => hupd_loc _ _ _ _ h, fun i f id h => hupd_out _ _ _ h⟩
theorem acts_FE (ops : Array Oper) (ρ : Nat → Res) : Acts (FE ops ρ) (KE ops) := by
 refine ⟨fun i f g id h => ?_, fun i f id h => ?_⟩ <;> unfold FE putE
 ·cases (ops[i]?).bind (·.dst) with
  | some d => simp only [upd, h]
  | none => exact h
 ·unfold KE at h
  cases hd : (ops[i]?).bind (·.dst) with
  | some d =>
   rw [hd] at h
   exact upd_ne _ _ (by simpa using h)
  | none => rfl

/-- The deferred calls of an activation: the marks of its loops over functions; no round has deferred anything; none is older than B. -/
def mark (r : Nat) : Deferred := { target := .collected r, args := #[] }
structure Bs where
 b : Nat
 D : List Deferred
 nr : Bool
def Marks (B : Bs) (m : M) (l : List Deferred) : Prop := B.b ≤ m.w.heap.size ∧ ∃ rs : List Nat, l = rs.map mark ++ B.D ∧ rs.Nodup ∧ (B.nr = true → rs = []) ∧ ∀ r, r ∈ rs → B.b ≤ r ∧ m.w.heap[r]? = some (Obj.deferred (some []))
theorem Marks.nil {B : Bs} {m : M} (h : B.b ≤ m.w.heap.size) : Marks B m B.D := ⟨h, [], rfl, List.nodup_nil, fun _ => rfl, fun r h => by cases h⟩
theorem Marks.mono {B : Bs} {S : Nat → Prop} {m m' : M} {l : List Deferred} (h : Marks B m l) (e : Evo S m m') : Marks B m' l := by
 obtain ⟨h0, rs, h1, h2, h4, h3⟩ := h
 exact ⟨Nat.le_trans h0 e.size, rs, h1, h2, h4, fun r hr => ⟨(h3 r hr).1, e.dfr r (h3 r hr).2⟩⟩
theorem Marks.same {B : Bs} {m m' : M} {l : List Deferred} (h : Marks B m l) (e : m'.w = m.w) : Marks B m' l := by
 obtain ⟨h0, rs, h1, h2, h4, h3⟩ := h
 exact ⟨by rw [e]; exact h0, rs, h1, h2, h4, fun r hr => ⟨(h3 r hr).1, by rw [e]; exact (h3 r hr).2⟩⟩

theorem Marks.grow {B : Bs} {m m' : M} {l : List Deferred} (h : Marks B m l) (hs : m.w.heap.size ≤ m'.w.heap.size) (e : ∀ b, b < m.w.heap.size → m'.w.heap[b]? = m.w.heap[b]?) : Marks B m' l := by
 obtain ⟨h0, rs, h1, h2, h4, h3⟩ := h
 exact ⟨Nat.le_trans h0 hs, rs, h1, h2, h4, fun r hr => ⟨(h3 r hr).1, by rw [e r (block_lt (h3 r hr).2)]; exact (h3 r hr).2⟩⟩

/-- The state in which some of a region's operations have run; nothing is said of the slots D. -/
structure XRd [Gl] (D : Nat → Prop) (S : Nat → Prop) (B : Bs) (m0 : M) (s0 : St) (ops : Array Oper) (σ : Nat → St) (ρ : Nat → Res) (N : Nat) (X : Nat → Bool) (m : M) (a : Act) : Prop where
 rel : Rel S m
 evo : Evo S m0 m
 h : m.h = fx (FH ρ) X s0.hp.get ops.size
 iss : m.iss = fun _ g => g < s0.c ∨ ∃ i, i < ops.size ∧ X i = true ∧ (σ i).c ≤ g ∧ g < (σ i).c + (ρ i).dc
 env : ∀ t, ¬ D t → RV S m (fx (FE ops ρ) X s0.env.get ops.size t) (a.tmps.getD t undef)
 size : a.tmps.size = N
 defers : Marks B m a.defers

/-- The state in which some of a region's operations have run. -/
abbrev XR [Gl] (S : Nat → Prop) (B : Bs) (m0 : M) (s0 : St) (ops : Array Oper) (σ : Nat → St) (ρ : Nat → Res) (N : Nat) (X : Nat → Bool) (m : M) (a : Act) : Prop := XRd (fun _ => False) S B m0 s0 ops σ ρ N X m a

theorem opW_top [Gl] {cfg : Cfg} {fid rid : Nat} {call : CallF} {all : List Oper} {o : Oper} {s : St} {r : Res} (h : opW P cfg fid rid call all o s = some r) : r.wr.all (fun p => Nat.blt p.1 (s.n + r.dn)) = true := by
 unfold opW at h
 split at h
 ·split at h
  ·split at h
   ·rename_i hq; simp only [Option.some.injEq] at h; subst h; exact hq
   ·simp at h
  ·simp at h
 ·simp only [Option.some.injEq] at h; subst h; rfl
 ·simp at h

section
variable {S : Nat → Prop} {B : Bs} {m0 : M} {cfg : Cfg} {fid rid : Nat} {call : CallF} {ops : Array Oper} {σ : Nat → St} {ρ : Nat → Res} {s0 : St} {N : Nat}

theorem Trace.log [Gl] (t : Trace P cfg fid rid call ops.toList ops.toList σ ρ) (h0 : σ 0 = s0) : ∀ j, j ≤ ops.size → Log s0 (σ j)
 | 0, _ => h0 ▸ Log.refl _
 | j + 1, hj => by
  obtain ⟨h1, h2⟩ := t.step j ops[j] (by simp [show j < ops.size by omega])
  rw [h2]
  exact (t.log h0 j (by omega)).trans (Log.put (opW_top h1))

theorem Trace.hp [Gl] (t : Trace P cfg fid rid call ops.toList ops.toList σ ρ) (h0 : σ 0 = s0) : ∀ j, j ≤ ops.size → (σ j).hp.get = fx (FH ρ) (fun _ => true) s0.hp.get j
 | 0, _ => by rw [h0]; rfl
 | j + 1, hj => by
  obtain ⟨h1, h2⟩ := t.step j ops[j] (by simp [show j < ops.size by omega])
  rw [h2]
  show ((σ j).hp.sets (ρ j).wr).get = FH ρ j _
  rw [hp_get_sets, t.hp h0 j (by omega)]; rfl

theorem Trace.env [Gl] (t : Trace P cfg fid rid call ops.toList ops.toList σ ρ) (h0 : σ 0 = s0) : ∀ j, j ≤ ops.size → (σ j).env.get = fx (FE ops ρ) (fun _ => true) s0.env.get j
 | 0, _ => by rw [h0]; rfl
 | j + 1, hj => by
  have hlt : j < ops.size := by omega
  obtain ⟨h1, h2⟩ := t.step j ops[j] (by simp [hlt])
  rw [h2]
  simp only [fx, FE]
  rw [← t.env h0 j (by omega)]
  have : (ops[j]?).bind (·.dst) = ops[j].dst := by simp [hlt]
  rw [this]
  unfold putE St.put
  cases ops[j].dst with
  | none => rfl
  | some d => exact env_get_cons _ _ _

theorem Trace.c [Gl] (t : Trace P cfg fid rid call ops.toList ops.toList σ ρ) {i : Nat} (hi : i < ops.size) : (σ (i + 1)).c = (σ i).c + (ρ i).dc := by
 obtain ⟨h1, h2⟩ := t.step i ops[i] (by simp [hi])
 rw [h2]; rfl

theorem Trace.c_le [Gl] (t : Trace P cfg fid rid call ops.toList ops.toList σ ρ) {i : Nat} : ∀ {j : Nat}, i ≤ j → j ≤ ops.size → (σ i).c ≤ (σ j).c := by
 intro j
 induction j with
 | zero =>
  intro h _
  have : i = 0 := by omega
  subst this; exact Nat.le_refl _
 | succ j ih =>
  intro h hj
  by_cases hij : i = j + 1
  ·subst hij; exact Nat.le_refl _
  ·have := ih (by omega) (by omega)
   rw [t.c (by omega)]; omega

theorem Trace.find [Gl] (t : Trace P cfg fid rid call ops.toList ops.toList σ ρ) (h0 : σ 0 = s0) {g : Nat} : ∀ {j : Nat}, j ≤ ops.size → g < (σ j).c → g < s0.c ∨ ∃ i, i < j ∧ (σ i).c ≤ g ∧ g < (σ i).c + (ρ i).dc := by
 intro j
 induction j with
 | zero => intro _ h; rw [h0] at h; exact .inl h
 | succ j ih =>
  intro hj h
  rw [t.c (by omega)] at h
  rcases Nat.lt_or_ge g (σ j).c with h1 | h1
  ·rcases ih (by omega) h1 with h2 | ⟨i, h2, h3⟩
   ·exact .inl h2
   ·exact .inr ⟨i, by omega, h3⟩
  ·exact .inr ⟨j, by omega, h1, h⟩

/-- One more operation. -/
theorem XRd.step [Gl] {oR : Option Nat} {D : Nat → Prop} (hN : Pre P cfg) (hc : CallOK P call) (hB : Bodies P call) (t : Trace P cfg fid rid call ops.toList ops.toList σ ρ) (h0 : σ 0 = s0) (hn0 : s0.n0 ≤ s0.n) (ht : Tops s0.hp s0.n)
  (hdst : ∀ (i : Nat) (o : Oper) (d : Nat), ops[i]? = some o → o.dst = some d → d < N) {X : Nat → Bool} {j : Nat} {o : Oper} (hj : ops[j]? = some o) (hXj : X j = false)
  (h1 : ∀ (i : Nat) (p : Oper), i < j → ops[i]? = some p → X i = false → apartT (trOf p ops.toList (ρ i)) (trOf o ops.toList (ρ j)) = true)
  (h2 : ∀ (i : Nat) (p : Oper), j < i → ops[i]? = some p → X i = true → apartT (trOf o ops.toList (ρ j)) (trOf p ops.toList (ρ i)) = true)
  {m : M} {a : Act} (hx : XRd D S B m0 s0 ops σ ρ N X m a) (hD : ∀ s ∈ opdSlots o ops.toList, ¬ D s) {Q : Exit → Act → World → Prop} {K : Act → World → Prop} (hK : ∀ m' a' x, a' = a.put o.dst x → XRd D S B m0 s0 ops σ ρ N (upd X j true) m' a' → K a' m'.w) :
  wpOpIn (Fw oR) 0 P ops Q j K a m.w := by
 have hlt : j < ops.size := (Array.getElem?_eq_some_iff.1 hj).1
 obtain ⟨t1, t2⟩ := t.step j o (by simpa using hj)
 have get : ∀ {i : Nat} (h : i < ops.size), ops[i]? = some ops[i] := fun h => by simp [h]
 -- what is read
 have readH : ∀ id ∈ (ρ j).rd, (σ j).hp.get id = m.h id := by
  intro id hid
  rw [t.hp h0 j (by omega), hx.h]
  refine (fx_read (acts_FH ρ) (fun i hi hXi hk => ?_) (by omega) (fun i hi hi' hXi hk => ?_)).symm
  ·exact (apartT_spec (h1 i _ hi (get (by omega)) hXi)).1 id hk hid
  ·have hne : i ≠ j := fun h => by subst h; rw [hXj] at hXi; cases hXi
   exact (apartT_spec (h2 i _ (by omega) (get hi') hXi)).2.2.1 id hk hid
 have hall : (ρ j).all = true → m.h = (σ j).hp.get ∧ m.iss = fun _ g => g < (σ j).c := by
  intro hal
  have low : ∀ i, i < j → X i = false → (ρ i).wr = [] ∧ (ρ i).dc = 0 := fun i hi hXi => by
   obtain ⟨q1, q2⟩ := (apartT_spec (h1 i _ hi (get (by omega)) hXi)).2.2.2.2.1 hal
   exact ⟨by simpa [trOf] using q1, q2⟩
  have high : ∀ i, j ≤ i → i < ops.size → X i = true → (ρ i).wr = [] ∧ (ρ i).dc = 0 := fun i hi hi' hXi => by
   have hne : i ≠ j := fun h => by subst h; rw [hXj] at hXi; cases hXi
   obtain ⟨q1, q2⟩ := (apartT_spec (h2 i _ (by omega) (get hi') hXi)).2.2.2.1 hal
   exact ⟨by simpa [trOf] using q1, q2⟩
  refine ⟨?_, ?_⟩
  ·funext id
   rw [t.hp h0 j (by omega), hx.h]
   refine fx_read (acts_FH ρ) (fun i hi hXi hk => ?_) (by omega) (fun i hi hi' hXi hk => ?_)
   ·unfold KH at hk; rw [(low i hi hXi).1] at hk; simp at hk
   ·unfold KH at hk; rw [(high i hi hi' hXi).1] at hk; simp at hk
  ·rw [hx.iss]
   funext _ g
   apply propext
   constructor
   ·rintro (h | ⟨i, q1, q2, q3, q4⟩)
    ·have := t.c_le (i := 0) (j := j) (by omega) (by omega); rw [h0] at this; omega
    ·rcases Nat.lt_or_ge i j with hij | hij
     ·have := t.c_le (i := i + 1) (j := j) (by omega) (by omega)
      rw [t.c q1] at this; omega
     ·rw [(high i hij q1 q2).2] at q4; omega
   ·intro h
    rcases t.find h0 (by omega) h with h | ⟨i, q1, q2, q3⟩
    ·exact .inl h
    ·refine .inr ⟨i, by omega, ?_, q2, q3⟩
     cases hXi : X i with
     | true => rfl
     | false => rw [(low i q1 hXi).2] at q3; omega
 have hfr : Fresh m (σ j).c (ρ j).dc := by
  intro id g g1 g2 hiss
  rw [hx.iss] at hiss
  rcases hiss with h | ⟨i, q1, q2, q3, q4⟩
  ·have := t.c_le (i := 0) (j := j) (by omega) (by omega); rw [h0] at this; omega
  ·have hne : i ≠ j := fun h => by subst h; rw [hXj] at q2; cases q2
   rcases Nat.lt_or_ge i j with hij | hij
   ·have := t.c_le (i := i + 1) (j := j) (by omega) (by omega)
    rw [t.c q1] at this; omega
   ·have := t.c_le (i := j + 1) (j := i) (by omega) (by omega)
    rw [t.c hlt] at this; omega
 have henv : EnvAt S m (σ j).env a (opdSlots o ops.toList) := by
  intro s hs
  rw [t.env h0 j (by omega)]
  have := hx.env s (hD s hs)
  rw [fx_read (acts_FE ops ρ) (j := j) (fun i hi hXi hk => ?_) (by omega) (fun i hi hi' hXi hk => ?_)] at this
  ·exact this
  ·have hd : ops[i].dst = some s := by
    unfold KE at hk; simp [show i < ops.size by omega] at hk; exact hk
   exact ((apartT_spec (h1 i _ hi (get (by omega)) hXi)).2.2.2.2.2.1 s hd).1 hs
  ·have hne : i ≠ j := fun h => by subst h; rw [hXj] at hXi; cases hXi
   have hd : ops[i].dst = some s := by
    unfold KE at hk; simp [hi'] at hk; exact hk
   exact (apartT_spec (h2 i _ (by omega) (get hi') hXi)).2.2.2.2.2.2 s hd hs
 have htj : Tops (σ j).hp (σ j).n := (t.log h0 j (by omega)).top hn0 ht
 refine opW_sound hN hc hB hj t1 htj readH hall hfr hx.rel henv fun x m' hA => hK m' _ x rfl ?_
 obtain ⟨k1, k2, k3, k4, k5⟩ := hA
 refine ⟨k1, hx.evo.trans k2, ?_, ?_, ?_, ?_, ?_⟩
 ·rw [k4, fx_add (acts_FH ρ) hXj hlt (fun i hi hi' hXi id hid hid' => ?_), hx.h]
  ·rfl
  ·exact (apartT_spec (h2 i _ hi (get hi') hXi)).2.1 id hid' hid
 ·rw [k5, hx.iss]
  funext _ g
  apply propext
  constructor
  ·rintro ((h | ⟨i, q1, q2, q3⟩) | h)
   ·exact .inl h
   ·refine .inr ⟨i, q1, ?_, q3⟩
    by_cases hij : i = j
    ·subst hij; simp
    ·rw [upd_ne _ _ hij]; exact q2
   ·exact .inr ⟨j, hlt, upd_same _ _ _, h⟩
  ·rintro (h | ⟨i, q1, q2, q3⟩)
   ·exact .inl (.inl h)
   ·by_cases hij : i = j
    ·subst hij; exact .inr q3
    ·rw [upd_ne _ _ hij] at q2; exact .inl (.inr ⟨i, q1, q2, q3⟩)
 ·intro s hDs
  rw [fx_add (acts_FE ops ρ) hXj hlt (fun i hi hi' hXi id hid hid' => ?_)]
  ·unfold FE putE
   rw [show (ops[j]?).bind (·.dst) = o.dst by simp [hj]]
   cases hd : o.dst with
   | none => exact (hx.env s hDs).mono k2
   | some d =>
    have hdN := hdst j o d hj hd
    by_cases hs : s = d
    ·subst hs
     simp only [upd_same, Act.put]
     have : (a.tmps.setIfInBounds s x).getD s undef = x := by simp [hx.size, hdN]
     rw [this]; exact k3
    ·simp only [Act.put, upd_ne _ _ hs]
     have : (a.tmps.setIfInBounds d x).getD s undef = a.tmps.getD s undef := by
      simp [Array.getElem?_setIfInBounds_ne (Ne.symm hs)]
     rw [this]; exact (hx.env s hDs).mono k2
  ·have hdi : ops[i].dst = some id := by unfold KE at hid; simp [hi'] at hid; exact hid
   have hdj : o.dst = some id := by unfold KE at hid'; simp [hj] at hid'; exact hid'
   exact ((apartT_spec (h2 i _ hi (get hi') hXi)).2.2.2.2.2.1 id hdj).2 hdi
 ·cases hd : o.dst <;> simp [Act.put, hx.size]
 ·have := hx.defers.mono k2
  cases hd : o.dst <;> simpa [Act.put] using this

theorem XR.step [Gl] {oR : Option Nat} (hN : Pre P cfg) (hc : CallOK P call) (hB : Bodies P call) (t : Trace P cfg fid rid call ops.toList ops.toList σ ρ) (h0 : σ 0 = s0) (hn0 : s0.n0 ≤ s0.n) (ht : Tops s0.hp s0.n)
  (hdst : ∀ (i : Nat) (o : Oper) (d : Nat), ops[i]? = some o → o.dst = some d → d < N) {X : Nat → Bool} {j : Nat} {o : Oper} (hj : ops[j]? = some o) (hXj : X j = false)
  (h1 : ∀ (i : Nat) (p : Oper), i < j → ops[i]? = some p → X i = false → apartT (trOf p ops.toList (ρ i)) (trOf o ops.toList (ρ j)) = true)
  (h2 : ∀ (i : Nat) (p : Oper), j < i → ops[i]? = some p → X i = true → apartT (trOf o ops.toList (ρ j)) (trOf p ops.toList (ρ i)) = true)
  {m : M} {a : Act} (hx : XR S B m0 s0 ops σ ρ N X m a) {Q : Exit → Act → World → Prop} {K : Act → World → Prop} (hK : ∀ m' a', XR S B m0 s0 ops σ ρ N (upd X j true) m' a' → K a' m'.w) :
  wpOpIn (Fw oR) 0 P ops Q j K a m.w :=
 XRd.step hN hc hB t h0 hn0 ht hdst hj hXj h1 h2 hx (fun _ _ h => h) fun m' a' _ _ h => hK m' a' h

end

end Go.Ac
end

section
namespace Go.Ac
variable {P : Program}

theorem RD.mono2 [Gl] {w w' : World} {av av' : Nat → Prop} {x : D} {v : Value} (h : RD w av x v)
  (k : ∀ (b off : Nat) (y : Value), ¬ av b → w.cell? ⟨b, off, none⟩ = some y → ¬ av' b ∧ w'.cell? ⟨b, off, none⟩ = some y) : RD w' av' x v := by
 induction h with
 | bool b => exact .bool b
 | int k n => exact .int k n
 | str s l h => exact .str s l h
 | empty a cap h => exact .empty a cap h
 | slice rows b off cap sz hlen hcap hsz f hf hr ih =>
  refine .slice rows b off cap sz hlen hcap hsz f (fun i j r d h1 h2 => ?_) ih
  obtain ⟨h3, h4⟩ := hf i j r d h1 h2
  exact k b _ _ h3 h4
 | sym k h ih => exact .sym k ih

/-- How values stay what they are while the blocks that are nobody's turn from S to S'. -/
structure Tr2 (S S' : Nat → Prop) (m m' : M) : Prop where
 iss : ∀ id g, m.iss id g → m'.iss id g
 shape : ∀ (b : Nat) (cs : Array Value) (T : TypeId) (fz : Nat × Nat), m.w.heap[b]? = some (Obj.cells cs T fz) → ∃ (cs2 : Array Value) (fz2 : Nat × Nat), m'.w.heap[b]? = some (Obj.cells cs2 T fz2) ∧ cs2.size = cs.size
 keep : ∀ (b off : Nat) (y : Value), ¬ m.av S b → m.w.cell? ⟨b, off, none⟩ = some y → ¬ m'.av S' b ∧ m'.w.cell? ⟨b, off, none⟩ = some y
 live : ∀ id o', m'.h id = some o' → m.iss id o'.gen → ∃ o, m.h id = some o ∧ o.gen = o'.gen ∧ m'.at_ id = m.at_ id ∧ o.cells.length ≤ o'.cells.length ∧ kindL o'.cells = kindL o.cells

theorem OslOK.tr2 {S S' : Nat → Prop} {m m' : M} {o o' : Ob} {id off len sz : Nat} {cap : Option Nat} {v : Value} (h : OslOK m o id off len sz cap v)
  (e : Tr2 S S' m m') (ha : m'.at_ id = m.at_ id) (hl : o.cells.length ≤ o'.cells.length) : OslOK m' o' id off len sz cap v := by
 unfold OslOK at *
 rw [ha]
 cases hid : m.at_ id with
 | none => simpa [hid] using h
 | some p =>
  obtain ⟨b, base⟩ := p
  simp only [hid] at h ⊢
  obtain ⟨p, k, h1, h0, h2, h3, h4, ⟨cs, T, fz, h5, h6⟩, h7⟩ := h
  obtain ⟨cs', fz', h8, h9⟩ := e.shape b cs T fz h5
  refine ⟨p, k, h1, h0, by omega, h3, h4, ⟨cs', T, fz', h8, by omega⟩, ?_⟩
  cases cap with
  | none => trivial
  | some q => exact ⟨h7.1, by have := h7.2; omega⟩

theorem RV.tr2 [Gl] {S S' : Nat → Prop} {m m' : M} {x : V} {v : Value} (h : RV S m x v) (e : Tr2 S S' m m') : RV S' m' x v := by
 induction h with
 | any v => exact .any v
 | undef => exact .undef
 | d h => exact .d (h.mono2 e.keep)
 | con v => exact .con v
 | full h => exact .full (h.mono2 e.keep)
 | agg hl h ih => exact .agg hl ih
 | ptr h1 h2 h =>
  refine .ptr (e.iss _ _ h1) h2 fun o' ho hg => ?_
  obtain ⟨o, a1, a2, a3, a4, a5⟩ := e.live _ o' ho (hg ▸ h1)
  rw [a3, a5]
  exact h o a1 (a2.trans hg)
 | osl h1 h2 h =>
  refine .osl (e.iss _ _ h1) h2 fun o' ho hg => ?_
  obtain ⟨o, a1, a2, a3, a4, a5⟩ := e.live _ o' ho (hg ▸ h1)
  rw [a5]
  exact ⟨(h o a1 (a2.trans hg)).1, (h o a1 (a2.trans hg)).2.tr2 e a3 a4⟩
 | it h1 h2 h =>
  refine .it (e.iss _ _ h1) h2 fun o' ho hg => ?_
  obtain ⟨o, a1, a2, a3, a4, a5⟩ := e.live _ o' ho (hg ▸ h1)
  rw [a3, a5]
  exact h o a1 (a2.trans hg)
 | mp h1 h2 h =>
  refine .mp (e.iss _ _ h1) h2 fun o' ho hg => ?_
  obtain ⟨o, a1, a2, a3, a4, a5⟩ := e.live _ o' ho (hg ▸ h1)
  rw [a3, a5]
  exact h o a1 (a2.trans hg)
 | vref f hf hr =>
  exact .vref f (fun j d hj => e.keep _ _ _ (hf j d hj).1 (hf j d hj).2) fun j d hj => (hr j d hj).mono2 e.keep
 | fn hl h ih => exact .fn hl ih
 | tuple hl h ih => exact .tuple hl ih
 | ifc h ih => exact .ifc ih
 | mv h ih => exact .mv ih
 | yd h1 h2 h =>
  refine .yd (e.iss _ _ h1) h2 fun o' ho hg => ?_
  obtain ⟨o, a1, a2, a3, a4, a5⟩ := e.live _ o' ho (hg ▸ h1)
  rw [a3, a5]
  exact h o a1 (a2.trans hg)

theorem RowAt.tr2 [Gl] {S S' : Nat → Prop} {m m' : M} {l : List V} {b base : Nat} (h : RowAt S m l b base) (e : Tr2 S S' m m') (hrow : m'.w.heap[b]? = m.w.heap[b]?) : RowAt S' m' l b base := by
 have h0 := h
 unfold RowAt at h
 split at h
 ·obtain ⟨h1, t, h2, h3⟩ := h; exact ⟨h1, t, by rw [hrow]; exact h2, h3⟩
 ·obtain ⟨h1, es, h2, h3⟩ := h
  exact ⟨h1, es, by rw [hrow]; exact h2, h3.lk, h3.lv, h3.lb, fun j k x hk hx => (h3.key j k x hk hx).mono2 e.keep, fun j v x hv hx => (h3.val j v x hv hx).tr2 e, h3.born⟩
 ·obtain ⟨h1, es, h2, h3⟩ := h
  exact ⟨h1, es, by rw [hrow]; exact h2, h3.lk, h3.lv, fun j k x hk hx => (h3.key j k x hk hx).tr2 e, fun j v x hv hx => (h3.val j v x hv hx).tr2 e⟩
 ·obtain ⟨h1, es, h2, ks', vs', bs', h3, h4⟩ := h
  exact ⟨h1, es, by rw [hrow]; exact h2, ks', vs', bs', ⟨h3.lk, h3.lv, h3.lb, fun j k x hk hx => (h3.key j k x hk hx).mono2 e.keep, fun j v x hv hx => (h3.val j v x hv hx).tr2 e, h3.born⟩, h4⟩
 ·obtain ⟨h1, bm, h2, h3⟩ := h; exact ⟨h1, bm, by rw [hrow]; exact h2, h3.tr2 e⟩
 ·obtain ⟨h1, r, h2, h3⟩ := h
  exact ⟨h1, r, by rw [hrow]; exact h2, h3.st, h3.pend, h3.ps, h3.asg, h3.body, fun t => (h3.env t).tr2 e, h3.ok⟩
 ·rw [rowAt_cells (CellsAt.kind h)]
  obtain ⟨cs, T, fz, h2, h3, h4, h5⟩ := h
  refine ⟨cs, T, fz, by rw [hrow]; exact h2, h3, h4, fun j v hv => ?_⟩
  obtain ⟨h6, x, h7, h8⟩ := h5 j v hv
  exact ⟨h6, x, h7, h8.tr2 e⟩

/-- A new block that is nobody's. -/
theorem Rel.hide [Gl] {S S' : Nat → Prop} {m : M} (hR : Rel S m) {w' : World} (hrow : ∀ b, b < m.w.heap.size → w'.heap[b]? = m.w.heap[b]?)
  (hS : ∀ b, b < m.w.heap.size → (S' b ↔ S b)) (hS2 : ∀ b, S' b → b < w'.heap.size) : Rel S' { m with w := w' } ∧ Tr2 S S' m { m with w := w' } := by
 have e : Tr2 S S' m { m with w := w' } := {
  iss := fun _ _ h => h
  shape := fun b cs T fz h => ⟨cs, fz, by rw [hrow b (block_lt h)]; exact h, rfl⟩
  keep := fun b off y hn hy => by
   have h := World.block_lt_of_cell? m.w _ hy
   refine ⟨fun h2 => ?_, ?_⟩
   ·rcases h2 with h2 | ⟨i, o, x, h3, h4, h5⟩
    ·exact hn (.inl ((hS b h).1 h2))
    ·exact hn (.inr ⟨i, o, x, h3, h4, h5⟩)
   ·rw [← hy]; simp [World.cell?, hrow b h]
  live := fun id o h _ => ⟨o, h, rfl, rfl, Nat.le_refl _, rfl⟩ }
 refine ⟨⟨fun g => (hR.glob g).tr2 e, hR.iss, hR.none_, fun id o b base ho ha => ?_, hR.inj, hS2⟩, e⟩
 obtain ⟨h1, h2⟩ := hR.obj id o b base ho ha
 obtain ⟨ob0, hr⟩ := h2.some
 exact ⟨fun h => h1 ((hS b (block_lt hr)).1 h), h2.tr2 e (hrow b (block_lt hr))⟩

/-- The memory in which a block has become an object. -/
def M.adopt (m : M) (id b c : Nat) (cells : List V) : M :=
 { at_ := upd m.at_ id (some (b, 0)), h := upd m.h id (some ⟨c, false, cells⟩), iss := fun i g => m.iss i g ∨ (c ≤ g ∧ g < c + 1), w := m.w }

theorem M.adopt_av {S S' : Nat → Prop} {m : M} {id b c : Nat} {cells : List V} (hS' : ∀ x, S' x ↔ (S x ∨ x = b)) {k : Nat} (h : (m.adopt id b c cells).av S k) : m.av S' k := by
 rcases h with h | ⟨i, o, x, h1, h2, h3⟩
 ·exact .inl ((hS' k).2 (.inl h))
 ·by_cases hi : i = id
  ·subst hi
   simp only [M.adopt, upd_same, Option.some.injEq, Prod.mk.injEq] at h3
   exact .inl ((hS' k).2 (.inr h3.1.symm))
  ·simp only [M.adopt, upd_ne _ _ hi] at h1 h3
   exact .inr ⟨i, o, x, h1, h2, h3⟩

theorem Rel.adopt [Gl] {S S' : Nat → Prop} {m : M} (hR : Rel S' m) {id b c : Nat} {cells : List V} {cs : Array Value} {T : TypeId}
  (hS' : ∀ x, S' x ↔ (S x ∨ x = b)) (hb : ¬ S b) (hrow : m.w.heap[b]? = some (Obj.cells cs T (0, 0))) (hg : ¬ m.iss id c) (hlen : cells.length ≤ cs.size)
  (hc : ∀ (j : Nat) (v : V), cells[j]? = some v → v.one = true ∧ ∃ x, cs[j]? = some x ∧ RV S (m.adopt id b c cells) v x) :
  Rel S (m.adopt id b c cells) ∧ Tr2 S' S m (m.adopt id b c cells) := by
 have e : Tr2 S' S m (m.adopt id b c cells) := {
  iss := fun _ _ h => .inl h
  shape := fun b cs T fz h => ⟨cs, fz, h, rfl⟩
  keep := fun k off y hn hy => ⟨fun h2 => hn (M.adopt_av hS' h2), hy⟩
  live := fun i o' ho hi => by
   by_cases hid : i = id
   ·subst hid
    simp only [M.adopt, upd_same, Option.some.injEq] at ho
    subst ho
    exact absurd hi hg
   ·simp only [M.adopt, upd_ne _ _ hid] at ho ⊢
    exact ⟨o', ho, rfl, trivial, Nat.le_refl _, rfl⟩ }
 have hnot : ∀ i o k x, m.h i = some o → m.at_ i = some (k, x) → k ≠ b := fun i o k x h1 h2 h3 => (hR.obj i o k x h1 h2).1 ((hS' k).2 (.inr h3))
 refine ⟨⟨fun g => (hR.glob g).tr2 e, ?_, ?_, ?_, ?_, ?_⟩, e⟩
 ·intro i q hq
  by_cases hid : i = id
  ·subst hid
   simp only [M.adopt, upd_same, Option.some.injEq] at hq
   subst hq
   exact .inr ⟨Nat.le_refl _, Nat.lt_succ_self _⟩
  ·simp only [M.adopt, upd_ne _ _ hid] at hq
   exact .inl (hR.iss i q hq)
 ·intro i q hq hn
  by_cases hid : i = id
  ·subst hid; simp [M.adopt] at hn
  ·simp only [M.adopt, upd_ne _ _ hid] at hq hn
   exact hR.none_ i q hq hn
 ·intro i q k x hq hk
  by_cases hid : i = id
  ·subst hid
   simp only [M.adopt, upd_same, Option.some.injEq, Prod.mk.injEq] at hq hk
   obtain ⟨rfl, rfl⟩ := hk
   subst hq
   refine ⟨hb, CellsAt.row ⟨cs, T, (0, 0), hrow, .inl (rfl), by simpa using hlen, fun j v hv => ?_⟩⟩
   obtain ⟨h1, x, h2, h3⟩ := hc j v hv
   exact ⟨h1, x, by simpa using h2, h3⟩
  ·simp only [M.adopt, upd_ne _ _ hid] at hq hk
   obtain ⟨h1, h2⟩ := hR.obj i q k x hq hk
   exact ⟨fun h => h1 ((hS' k).2 (.inl h)), h2.tr2 e rfl⟩
 ·intro i j oi oj k x y hi hj hx hy
  by_cases h1 : i = id
  ·by_cases h2 : j = id
   ·rw [h1, h2]
   ·subst h1
    simp only [M.adopt, upd_same, upd_ne _ _ h2, Option.some.injEq, Prod.mk.injEq] at hi hj hx hy
    exact absurd hx.1.symm (hnot j oj k y hj hy)
  ·by_cases h2 : j = id
   ·subst h2
    simp only [M.adopt, upd_same, upd_ne _ _ h1, Option.some.injEq, Prod.mk.injEq] at hi hj hx hy
    exact absurd hy.1.symm (hnot i oi k x hi hx)
   ·simp only [M.adopt, upd_ne _ _ h1, upd_ne _ _ h2] at hi hj hx hy
    exact hR.inj i j oi oj k x y hi hj hx hy
 ·intro k hk
  exact hR.sub k ((hS' k).2 (.inl hk))

theorem Evo.adopt {S S' : Nat → Prop} {m1 m : M} {w' : World} {id c : Nat} {cells : List V} (hS' : ∀ x, S' x ↔ (S x ∨ x = m1.w.heap.size))
  (hrow : ∀ b, b < m1.w.heap.size → w'.heap[b]? = m1.w.heap[b]?) (hsz : m1.w.heap.size < w'.heap.size) (hrest : w'.os = m1.w.os ∧ w'.output = m1.w.output)
  (h : Evo S' { m1 with w := w' } m) (hg : ¬ m.iss id c) : Evo S m1 (m.adopt id m1.w.heap.size c cells) where
 dfr k hk := h.dfr k (by show w'.heap[k]? = _; rw [hrow k (block_lt hk)]; exact hk)
 lps k r hk := h.lps k r (by show w'.heap[k]? = _; rw [hrow k (block_lt hk)]; exact hk)
 iss i g hi := .inl (h.iss i g hi)
 size := Nat.le_trans (Nat.le_of_lt hsz) h.size
 shape b cs T fz hb := h.shape b cs T fz (by show w'.heap[b]? = _; rw [hrow b (block_lt hb)]; exact hb)
 keepS b hb hs := (h.keepS b (by show b < w'.heap.size; omega) ((hS' b).2 (.inl hs))).trans (hrow b hb)
 keep b hb hn := by
  obtain ⟨h1, h2⟩ := h.keep b (by show b < w'.heap.size; omega) (fun h2 => by
   rcases h2 with h2 | ⟨i, o, x, h3, h4, h5⟩
   ·rcases (hS' b).1 h2 with h2 | h2
    ·exact hn (.inl h2)
    ·omega
   ·exact hn (.inr ⟨i, o, x, h3, h4, h5⟩))
  exact ⟨fun h3 => h1 (M.adopt_av hS' h3), h2.trans (hrow b hb)⟩
 live i o' ho hi := by
  by_cases hid : i = id
  ·subst hid
   simp only [M.adopt, upd_same, Option.some.injEq] at ho
   subst ho
   exact absurd (h.iss _ _ hi) hg
  ·simp only [M.adopt, upd_ne _ _ hid] at ho ⊢
   exact h.live i o' ho hi
 old i o k x h1 h2 hk := by
  by_cases hid : i = id
  ·subst hid
   simp only [M.adopt, upd_same, Option.some.injEq, Prod.mk.injEq] at h2
   omega
  ·simp only [M.adopt, upd_ne _ _ hid] at h1 h2
   exact h.old i o k x h1 h2 (by show k < w'.heap.size; omega)
 rest := ⟨h.rest.1.trans hrest.1, h.rest.2.trans hrest.2⟩

/-! ### The operation that makes the object -/
section
variable {cfg : Cfg} {fid rid : Nat} {call : CallF} {ops : Array Oper}

theorem alloc_late [Gl] {all : List Oper} {o : Oper} {t : TypeId} {s : St} {r : Res} (ho : o.op = .alloc t) (hg : o.guard = none) (h : opW P cfg fid rid call all o s = some r) :
  ∃ v : Value, r = ⟨.ptr s.n s.c 0, [(s.n, ⟨s.c, false, v.cells.toList.map constV1⟩)], [], 1, 1, false⟩ ∧ (v.cells.toList.map constV1).all V.one = true ∧ ∀ w, (zeroValue t).run P w = .ok v w := by
 unfold opW wantedV at h
 rw [hg] at h
 simp only at h
 split at h
 ·rename_i q hq
  split at h
  ·simp only [Option.some.injEq] at h; subst h
   unfold opR at hq
   rw [ho] at hq
   simp only [step] at hq
   split at hq
   ·rename_i i hi
    split at hq
    ·rename_i z hz
     split at hq
     ·rename_i hone
      simp only [newV, Option.some.injEq] at hq
      subst hq
      obtain ⟨v, h1, h2, h3⟩ := zero_spec hi hz (default : World)
      refine ⟨v, by rw [h2], by rw [← h2]; exact hone, fun w => ?_⟩
      obtain ⟨v', h4, h5, h6⟩ := zero_spec hi hz w
      rw [h3] at h6
      simp only [Option.some.injEq] at h6
      rw [h6]; exact h4
     ·simp at hq
    ·simp at hq
   ·simp at hq
  ·simp at h
 ·simp at h

theorem alloc_wp {oR : Option Nat} {o : Oper} {t : TypeId} {v : Value} {k : Nat} {a : Act} {w : World} {Q : Exit → Act → World → Prop} {K : Act → World → Prop} (hi : ops[k]? = some o) (ho : o.op = .alloc t) (hg : o.guard = none)
  (hz : ∀ w, (zeroValue t).run P w = .ok v w) (hK : K (a.put o.dst (.pointer (some ⟨w.heap.size, 0, none⟩))) { w with heap := w.heap.push (Obj.cells v.cells t (0, 0)) }) : wpOpIn (Fw oR) 0 P ops Q k K a w := by
 unfold wpOpIn
 simp only [hi]
 rw [if_pos (by unfold Region.wanted; rw [hg])]
 refine ⟨fun _ _ => trivial, ?_⟩
 rw [Oper.semAt_eq _ _ _ (fun c hc => by rw [ho] at hc; cases hc)]
 have : (execOp a.eval o).run P w = .ok (.value (.pointer (some ⟨w.heap.size, 0, none⟩))) { w with heap := w.heap.push (Obj.cells v.cells t (0, 0)) } := by
  obtain ⟨dst, op, ty, pos, after, guard⟩ := o
  simp only at ho; subst ho
  simp [execOp, Instr.alloc, hz w, newVar, newRow]
 rw [this, Oper.uponIn_value]
 exact hK
end

end Go.Ac
end
