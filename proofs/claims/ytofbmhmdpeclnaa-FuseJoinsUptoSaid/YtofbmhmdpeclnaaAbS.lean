/- The abstract machine: regions. No conditions. -/
import Derived.Test.YtofbmhmdpeclnaaAbR
set_option linter.unusedVariables false
set_option linter.unusedSimpArgs false
namespace Go.Ab
variable {P : Program}

/-- A state of the abstract machine stands for a state of the model. -/
structure RS (S : Nat → Prop) (N : Nat) (s : St) (m : M) (a : Act) : Prop where
  h : m.h = s.hp.get
  iss : m.iss = fun _ g => g < s.c
  rel : Rel S m
  env : ∀ t, RV S m (s.env.get t) (a.tmps.getD t undef)
  size : a.tmps.size = N
  defers : a.defers = []
  top : Tops s.hp s.n
  n0 : s.n0 ≤ s.n

theorem fx_none {β : Type} {F : Nat → (Nat → β) → Nat → β} {f0 : Nat → β} {X : Nat → Bool} : ∀ {k : Nat}, (∀ i, i < k → X i = false) → fx F X f0 k = f0
  | 0, _ => rfl
  | k + 1, h => by simp only [fx]; rw [h k (by omega)]; exact fx_none fun i hi => h i (by omega)

section
variable {S : Nat → Prop} {m : M} {cfg : Cfg} {fid rid : Nat} {call : CallF} {ops : Array Oper} {σ : Nat → St} {ρ : Nat → Res} {s0 : St} {N : Nat} {a : Act}

theorem RS.start (h : RS S N s0 m a) {X : Nat → Bool} (hX : ∀ i, i < ops.size → X i = false) : XR S m s0 ops σ ρ N X m a where
  rel := h.rel
  evo := .refl S m
  h := by rw [fx_none hX]; exact h.h
  iss := by
    rw [h.iss]
    funext _ g
    apply propext
    constructor
    · exact .inl
    · rintro (h | ⟨i, q1, q2, _⟩)
      · exact h
      · rw [hX i q1] at q2; cases q2
  env t := by rw [fx_none hX]; exact h.env t
  size := h.size
  defers := h.defers

theorem XR.done (t : Trace P cfg fid rid call ops.toList ops.toList σ ρ) (h0 : σ 0 = s0) (hn0 : s0.n0 ≤ s0.n) (ht : Tops s0.hp s0.n) {m0 : M} {X : Nat → Bool} (hX : ∀ i, i < ops.size → X i = true) (h : XR S m0 s0 ops σ ρ N X m a) : RS S N (σ ops.size) m a where
  rel := h.rel
  h := by rw [t.hp h0 _ (Nat.le_refl _), h.h]; exact fx_congr fun i hi => hX i hi
  iss := by
    rw [h.iss]
    funext _ g
    apply propext
    constructor
    · rintro (h | ⟨i, q1, q2, q3, q4⟩)
      · have := t.c_le (i := 0) (j := ops.size) (by omega) (by omega); rw [h0] at this; omega
      · have := t.c_le (i := i + 1) (j := ops.size) (by omega) (by omega)
        rw [t.c q1] at this; omega
    · intro hg
      rcases t.find h0 (Nat.le_refl _) hg with h | ⟨i, q1, q2⟩
      · exact .inl h
      · exact .inr ⟨i, q1, hX i q1, q2⟩
  env s := by
    have := h.env s
    rw [fx_congr (Y := fun _ => true) fun i hi => hX i hi, ← t.env h0 _ (Nat.le_refl _)] at this
    exact this
  size := h.size
  defers := h.defers
  top := (t.log h0 _ (Nat.le_refl _)).top hn0 ht
  n0 := by
    have := t.log h0 _ (Nat.le_refl _)
    rw [this.n0]; exact Nat.le_trans hn0 this.n

theorem text_ops (hN : NoCount P) (hc : CallOK P call) (hB : Bodies P call) (t : Trace P cfg fid rid call ops.toList ops.toList σ ρ) (h0 : σ 0 = s0) (hn0 : s0.n0 ≤ s0.n) (ht : Tops s0.hp s0.n)
    (hdst : ∀ (i : Nat) (o : Oper) (d : Nat), ops[i]? = some o → o.dst = some d → d < N) {m0 : M} {Q : Exit → Act → World → Prop} (hQ : ∀ m' a', RS S N (σ ops.size) m' a' → Evo S m0 m' → Q .normal a' m'.w) :
    ∀ (n j : Nat) {m : M} {a : Act}, j + n = ops.size → XR S m0 s0 ops σ ρ N (fun i => decide (i < j)) m a → wpOps P ops Q (List.range' j n) a m.w
  | 0, j, m, a, hj, hx => by
    simp only [List.range', wpOps]
    exact hQ m a (hx.done t h0 hn0 ht fun i hi => by simp; omega) hx.evo
  | n + 1, j, m, a, hj, hx => by
    rw [List.range'_succ, wpOps_cons]
    have hlt : j < ops.size := by omega
    refine hx.step hN hc hB t h0 hn0 ht hdst (j := j) (o := ops[j]) (by simp [hlt]) (by simp) (fun i p hi _ hX => by simp at hX; omega) (fun i p hi _ hX => by simp at hX; omega) fun m' a' hx' => ?_
    refine text_ops hN hc hB t h0 hn0 ht hdst hQ n (j + 1) (by omega) ?_
    have : upd (fun i => decide (i < j)) j true = fun i => decide (i < j + 1) := by
      funext i
      by_cases hi : i = j
      · subst hi; simp
      · rw [upd_ne _ _ hi]
        apply decide_eq_decide.2; omega
    rw [← this]; exact hx'

theorem any_ops (hN : NoCount P) (hc : CallOK P call) (hB : Bodies P call) (t : Trace P cfg fid rid call ops.toList ops.toList σ ρ) (h0 : σ 0 = s0) (hn0 : s0.n0 ≤ s0.n) (ht : Tops s0.hp s0.n)
    (hdst : ∀ (i : Nat) (o : Oper) (d : Nat), ops[i]? = some o → o.dst = some d → d < N)
    (hord : ∀ (i : Nat) (o : Oper), ops[i]? = some o → ∀ e ∈ o.after, Region.binds .any e = true → e.on < i)
    (hchk : checkOps P cfg fid rid call ops.toList ops.toList (anc ops.toList) [] s0 = true)
    {m0 : M} {Q : Exit → Act → World → Prop} (hQ : ∀ m' a', RS S N (σ ops.size) m' a' → Evo S m0 m' → Q .normal a' m'.w) :
    ∀ (fuel : Nat) (listed : Array Bool) (L : List Nat) {m : M} {a : Act}, listed.size = ops.size →
      (∀ (i : Nat) (o : Oper), ops[i]? = some o → listed.getD i false = true → ∀ e ∈ o.after, Region.binds .any e = true → listed.getD e.on false = true) →
      (∀ i, i < ops.size → listed.getD i false = false → i ∈ L) → L.length ≤ fuel → XR S m0 s0 ops σ ρ N (fun i => listed.getD i false) m a → wpAny P .any ops Q fuel listed a m.w := by
  have allDone : ∀ (listed : Array Bool), listed.size = ops.size → Region.ready .any ops listed = [] → ∀ i, i < ops.size → listed.getD i false = true := by
    intro listed hsz hr
    have : ∀ n i, i < n → i < ops.size → listed.getD i false = true := by
      intro n
      induction n with
      | zero => intro i h; omega
      | succ n ih =>
        intro i hi hlt
        cases hg : listed.getD i false with
        | true => rfl
        | false =>
          exfalso
          have : i ∈ Region.ready .any ops listed := by
            rw [mem_ready]
            refine ⟨?_, ops[i], by simp [hlt], fun e he hb => ?_⟩
            · have h1 : i < listed.size := by omega
              simp [h1] at hg ⊢; exact hg
            · have := hord i ops[i] (by simp [hlt]) e he hb
              exact ih e.on (by omega) (by omega)
          rw [hr] at this
          cases this
    exact fun i hi => this (i + 1) i (by omega) hi
  intro fuel
  induction fuel with
  | zero =>
    intro listed L m a hsz hcl hL hlen hx
    have hL0 : L = [] := List.length_eq_zero_iff.1 (by omega)
    subst hL0
    have hall : ∀ i, i < ops.size → listed.getD i false = true := fun i hi => by
      cases hg : listed.getD i false with
      | true => rfl
      | false => have := hL i hi hg; simp at this
    refine ⟨?_, hQ m a (hx.done t h0 hn0 ht hall) hx.evo⟩
    cases hr : Region.ready .any ops listed with
    | nil => rfl
    | cons j r =>
      exfalso
      have hj : j ∈ Region.ready .any ops listed := by rw [hr]; simp
      rw [mem_ready] at hj
      obtain ⟨h1, o, ho, _⟩ := hj
      have hlt : j < ops.size := (Array.getElem?_eq_some_iff.1 ho).1
      have h2 := hall j hlt
      have h3 : j < listed.size := by omega
      simp [h3] at h1 h2
      rw [h1] at h2; cases h2
  | succ fuel ih =>
    intro listed L m a hsz hcl hL hlen hx
    refine ⟨fun hr => hQ m a (hx.done t h0 hn0 ht (allDone listed hsz hr)) hx.evo, fun j hj => ?_⟩
    rw [mem_ready] at hj
    obtain ⟨hj1, o, ho, hpre⟩ := hj
    have hlt : j < ops.size := (Array.getElem?_eq_some_iff.1 ho).1
    have hjl : j < listed.size := by omega
    have hXj : listed.getD j false = false := by simp [hjl] at hj1 ⊢; exact hj1
    have hclX : ∀ (i : Nat) (o : Oper), ops.toList[i]? = some o → (fun i => listed.getD i false) i = true → ∀ e ∈ o.after.toList, Region.binds .any e = true → (fun i => listed.getD i false) e.on = true :=
      fun i o ho hX e he hb => hcl i o (by simpa using ho) hX e (by simpa using he) hb
    obtain ⟨ha1, ha2⟩ := anc_spec ops.toList hclX
    have hct := checkOps_trace hchk h0 t
    refine hx.step hN hc hB t h0 hn0 ht hdst ho hXj (fun i p hi hp hXi => ?_) (fun i p hi hp hXi => ?_) fun m' a' hx' => ?_
    · obtain ⟨b, hb1, _, hb3⟩ := hct j o (by simpa using ho)
      rcases hb3 i p hi (by simpa using hp) with h | h
      · have := ha2 j o b (by simpa using ho) hb1 (fun e he hbb => hpre e (by simpa using he) hbb) i (by simpa using h)
        rw [this] at hXi; cases hXi
      · exact h
    · obtain ⟨b, hb1, _, hb3⟩ := hct i p (by simpa using hp)
      rcases hb3 j o hi (by simpa using ho) with h | h
      · have := ha2 i p b (by simpa using hp) hb1 (fun e he hbb => hcl i p hp hXi e (by simpa using he) hbb) j (by simpa using h)
        have h' : listed.getD j false = true := this
        rw [h'] at hXj; cases hXj
      · exact h
    · have hup : upd (fun i => listed.getD i false) j true = fun i => (listed.setIfInBounds j true).getD i false := by
        funext i
        by_cases hi : i = j
        · subst hi; simp [hjl]
        · rw [upd_ne _ _ hi, getD_set_ne false (Ne.symm hi)]
      refine ih (listed.setIfInBounds j true) (L.erase j) (by simp [hsz]) (fun i p hp hX e he hb => ?_) (fun i hi hX => ?_) ?_ (hup ▸ hx')
      · by_cases hi : i = j
        · subst hi
          rw [ho] at hp; cases hp
          exact getD_set_true (hpre e he hb)
        · rw [getD_set_ne false (Ne.symm hi)] at hX
          exact getD_set_true (hcl i p hp hX e he hb)
      · have hne : i ≠ j := fun h => by subst h; simp [hjl] at hX
        rw [getD_set_ne false (Ne.symm hne)] at hX
        exact (List.mem_erase_of_ne hne).2 (hL i hi hX)
      · have := hL j hlt hXj
        have := List.length_erase_of_mem this
        omega

theorem orderOK_spec (h : orderOK ops.toList = true) : ∀ (i : Nat) (o : Oper), ops[i]? = some o → ∀ e ∈ o.after, Region.binds .any e = true → e.on < i := by
  intro i o ho e he hb
  have := List.all_eq_true.1 (List.all_eq_true.1 h (o, i) (by rw [List.mem_zipIdx_iff_getElem?]; simpa using ho)) e (by simpa using he)
  simp [hb] at this
  exact this

/-- The operations of a region. -/
theorem region_ops (hN : NoCount P) (hm : P.follows .mixedOrders = true) (hc : CallOK P call) (hB : Bodies P call) {draw : Bool} {s' : St} (hchk : (if draw then orderOK ops.toList && checkOps P cfg fid rid call ops.toList ops.toList (anc ops.toList) [] s0 else true) = true)
    (hr : runOps P cfg fid rid call ops.toList ops.toList s0 = some s') (hdst : ∀ (i : Nat) (o : Oper) (d : Nat), ops[i]? = some o → o.dst = some d → d < N) (h : RS S N s0 m a)
    {Q : Exit → Act → World → Prop} (hQ : ∀ m' a', RS S N s' m' a' → Evo S m m' → Q .normal a' m'.w) : (Code.region rid ops draw).wp P Q a m.w := by
  obtain ⟨σ, ρ, h0, h1, t⟩ := runOps_trace hr
  have h1' : σ ops.size = s' := by simpa using h1
  cases draw with
  | false =>
    refine wp_region ?_
    rw [List.range_eq_range']
    refine text_ops hN hc hB t h0 h.n0 h.top hdst (m0 := m) (by rw [h1']; exact hQ) ops.size 0 (by omega) ?_
    exact h.start fun i hi => by simp
  | true =>
    rw [if_pos rfl] at hchk
    simp only [Bool.and_eq_true] at hchk
    refine wp_region_any hm ?_
    -- the draw itself
    obtain ⟨g1, g2⟩ := h.rel.grown (w' := { m.w with drawn := m.w.drawn + 1 }) (Nat.le_refl _) (fun _ _ => rfl) ⟨rfl, rfl, fun _ => rfl⟩
    have h' : RS S N s0 { m with w := { m.w with drawn := m.w.drawn + 1 } } a := ⟨h.h, h.iss, g1, fun t => (h.env t).mono g2, h.size, h.defers, h.top, h.n0⟩
    refine any_ops hN hc hB t h0 h.n0 h.top hdst (orderOK_spec hchk.1) hchk.2 (m0 := { m with w := { m.w with drawn := m.w.drawn + 1 } })
      (fun m' a' k1 k2 => hQ m' a' (by rw [← h1']; exact k1) (g2.trans k2)) ops.size (Array.replicate ops.size false) (List.range ops.size) (m := { m with w := { m.w with drawn := m.w.drawn + 1 } }) (by simp)
      (fun i o ho hX => by
        have := (Array.getElem?_eq_some_iff.1 ho).1
        simp [this] at hX) (fun i hi _ => by simp [hi]) (by simp) (h'.start fun i hi => by simp [hi])

end

end Go.Ab
