/- Calls that are handed objects; what such a call may write. -/
import Derived.Test.YtofbmhmdpeclnaaFuV
set_option linter.unusedVariables false
set_option linter.unusedSimpArgs false
set_option maxRecDepth 4000
set_option linter.unusedSimpArgs false
set_option linter.unusedVariables false
namespace Go.Ab
open Go.Proofs

theorem WP.gen {P : Program} {cfg : Cfg} {fid : FuncId} {code : Code} {e : Env} {hp : Hp} {n c n0 : Nat} {wl : List Nat} {Q : Ex → St → Prop}
    (h : ∀ hp' wl', hp' = hp → wl' = wl → WP P cfg fid code ⟨e, hp', n, c, n0, wl'⟩ Q) : WP P cfg fid code ⟨e, hp, n, c, n0, wl⟩ Q := h hp wl rfl rfl

mutual
theorem TS.isS {look : Look} : ∀ {sc : List V} {y : Y} {i : List Nat}, TS look sc y i → ∀ j, j ∈ i → (look j).isSome = true
  | _, _, _, .mk h hb, j, hj => by
    rcases List.mem_cons.1 hj with rfl | hj
    · rw [h]; rfl
    · exact TB.isS hb j hj
theorem TC.isS {look : Look} : ∀ {cs : List V} {l : List Y} {i : List Nat}, TC look cs l i → ∀ j, j ∈ i → (look j).isSome = true
  | _, _, _, .nil, j, hj => by cases hj
  | _, _, _, .cons h h', j, hj => by
    rcases List.mem_append.1 hj with hj | hj
    · exact TS.isS h j hj
    · exact TC.isS h' j hj
theorem TB.isS {look : Look} : ∀ {vs : List V} {l : List (List Y)} {i : List Nat}, TB look vs l i → ∀ j, j ∈ i → (look j).isSome = true
  | _, _, _, .nil, j, hj => by cases hj
  | _, _, _, .cons h h', j, hj => by
    rcases List.mem_append.1 hj with hj | hj
    · exact TL.isS h j hj
    · exact TB.isS h' j hj
theorem TL.isS {look : Look} : ∀ {v : V} {l : List Y} {i : List Nat}, TL look v l i → ∀ j, j ∈ i → (look j).isSome = true
  | _, _, _, .nil, j, hj => by cases hj
  | _, _, _, .osl h hc, j, hj => by
    rcases List.mem_cons.1 hj with rfl | hj
    · rw [h]; rfl
    · exact TC.isS hc j hj
end

/-! ### What has been written -/
theorem mem_addNew {n0 j : Nat} : ∀ {wr : List (Nat × Ob)} {wl : List Nat}, j ∈ addNew n0 wl wr ↔ j ∈ wl ∨ (j < n0 ∧ j ∈ wr.map (·.1))
  | [], wl => by simp [addNew]
  | (k, o) :: r, wl => by
    simp only [addNew]
    cases hb : Nat.blt k n0 with
    | true =>
      have hk : k < n0 := by rw [Nat.blt_eq] at hb; exact hb
      cases ha : wl.any (Nat.beq k) with
      | true =>
        have hin : k ∈ wl := by
          rw [List.any_eq_true] at ha
          obtain ⟨x, hx, he⟩ := ha
          rw [Nat.eq_of_beq_eq_true he]; exact hx
        simp only [mem_addNew, List.map_cons, List.mem_cons]
        constructor
        · rintro (h | ⟨h1, h2⟩)
          · exact .inl h
          · exact .inr ⟨h1, .inr h2⟩
        · rintro (h | ⟨h1, rfl | h2⟩)
          · exact .inl h
          · exact .inl hin
          · exact .inr ⟨h1, h2⟩
      | false =>
        simp only [mem_addNew, List.map_cons, List.mem_cons]
        constructor
        · rintro ((rfl | h) | ⟨h1, h2⟩)
          · exact .inr ⟨hk, .inl rfl⟩
          · exact .inl h
          · exact .inr ⟨h1, .inr h2⟩
        · rintro (h | ⟨h1, rfl | h2⟩)
          · exact .inl (.inr h)
          · exact .inl (.inl rfl)
          · exact .inr ⟨h1, h2⟩
    | false =>
      have hk : ¬ k < n0 := by intro h; rw [← Nat.blt_eq] at h; rw [hb] at h; cases h
      simp only [mem_addNew, List.map_cons, List.mem_cons]
      constructor
      · rintro (h | ⟨h1, h2⟩)
        · exact .inl h
        · exact .inr ⟨h1, .inr h2⟩
      · rintro (h | ⟨h1, rfl | h2⟩)
        · exact .inl h
        · exact absurd h1 hk
        · exact .inr ⟨h1, h2⟩

/-- Only what is named, or new, has been written; and that has been noted. -/
def WI (ids0 : List Nat) (n0 : Nat) (hp0 : Hp) (wl : List Nat) (hp : Hp) : Prop := (∀ j, j ∈ wl → j ∈ ids0) ∧ ∀ j, j < n0 → j ∉ wl → hp.get j = hp0.get j

theorem WI.sets {ids0 : List Nat} {n0 : Nat} {hp0 hp : Hp} {wl : List Nat} (h : WI ids0 n0 hp0 wl hp) {wr : List (Nat × Ob)} (hw : ∀ p, p ∈ wr → p.1 ∈ ids0 ∨ n0 ≤ p.1) : WI ids0 n0 hp0 (addNew n0 wl wr) (hp.sets wr) := by
  refine ⟨fun j hj => ?_, fun j hj hn => ?_⟩
  · rcases mem_addNew.1 hj with h1 | ⟨h1, h2⟩
    · exact h.1 j h1
    · obtain ⟨p, hp, rfl⟩ := List.mem_map.1 h2
      exact (hw p hp).resolve_right (by omega)
  · rw [Hp.get_sets_ne]
    · exact h.2 j hj fun h1 => hn (mem_addNew.2 (.inl h1))
    · intro p hp he
      exact hn (mem_addNew.2 (.inr ⟨hj, List.mem_map.2 ⟨p, hp, he⟩⟩))
theorem WI.set {ids0 : List Nat} {n0 : Nat} {hp0 hp : Hp} {wl : List Nat} (h : WI ids0 n0 hp0 wl hp) {k : Nat} {o : Ob} (hk : k ∈ ids0 ∨ n0 ≤ k) : WI ids0 n0 hp0 (addNew n0 wl [(k, o)]) (hp.set k o) :=
  h.sets (wr := [(k, o)]) fun p hp => by rw [List.mem_singleton] at hp; subst hp; exact hk
theorem WI.frame {ids0 : List Nat} {n0 : Nat} {hp0 hp : Hp} {wl : List Nat} (h : WI ids0 n0 hp0 wl hp) {j : Nat} (hj : j < n0) (hn : j ∉ ids0) : hp.get j = hp0.get j := h.2 j hj fun hw => hn (h.1 j hw)

/-- What a call hands back that has been handed objects. -/
structure JPost (hp0 : Hp) (n0 : Nat) (ids0 : List Nat) (l : List Y) (r : CR) : Prop where
  n : n0 ≤ r.n
  wi : WI ids0 n0 hp0 r.wl r.hp
  v : ∃ io go co i, r.v = .osl io go 0 l.length 12 none ∧ r.hp.get io = some ⟨go, false, co⟩ ∧ TC r.hp.get co l i ∧ (io :: i).Nodup ∧ ∀ j, j ∈ io :: i → (j ∈ ids0 ∨ n0 ≤ j) ∧ j < r.n

def tWr (r : CR) (n : Nat) : List (Nat × Ob) := wrOf r.hp.get (r.wl ++ (List.range (r.n - n)).map (n + ·))

theorem tWr_keys {hp0 : Hp} {n0 : Nat} {ids0 : List Nat} {l : List Y} {r : CR} (h : JPost hp0 n0 ids0 l r) (hids : ∀ j, j ∈ ids0 → j < n0) {k : Nat} (hk : k ∈ (tWr r n0).map (·.1)) : (k ∈ ids0 ∨ n0 ≤ k) ∧ k < r.n := by
  obtain ⟨p, hp, rfl⟩ := List.mem_map.1 hk
  have := (mem_wrOf2.1 hp).1
  rcases List.mem_append.1 this with h1 | h1
  · have := h.wi.1 _ h1
    have h2 := hids _ this
    have h3 := h.n
    exact ⟨.inl this, by omega⟩
  · obtain ⟨x, hx, he⟩ := List.mem_map.1 h1
    have := List.mem_range.1 hx
    rw [← he]
    exact ⟨.inr (by omega), by omega⟩

theorem tWr_same {hp0 : Hp} {n0 : Nat} {ids0 : List Nat} {l : List Y} {r : CR} (h : JPost hp0 n0 ids0 l r) {j : Nat} (hj : j < r.n) (hs : (r.hp.get j).isSome = true) : (hp0.sets (tWr r n0)).get j = r.hp.get j := by
  unfold tWr
  rw [Hp.get_sets_wrOf]
  split
  · rfl
  · rename_i hn
    have h1 : j ∉ r.wl ++ (List.range (r.n - n0)).map (n0 + ·) := fun hm => hn ⟨hm, hs⟩
    rw [List.mem_append, not_or] at h1
    have h2 : j < n0 := by
      apply Classical.byContradiction
      intro hge
      exact h1.2 (List.mem_map.2 ⟨j - n0, List.mem_range.2 (by omega), by omega⟩)
    exact (h.wi.2 j h2 h1.1).symm

theorem tWr_old {hp0 : Hp} {n0 : Nat} {ids0 : List Nat} {l : List Y} {r : CR} (h : JPost hp0 n0 ids0 l r) {j : Nat} (hj : j < n0) (hn : j ∉ ids0) : (hp0.sets (tWr r n0)).get j = hp0.get j := by
  unfold tWr
  rw [Hp.get_sets_wrOf, if_neg]
  rintro ⟨h1, _⟩
  rcases List.mem_append.1 h1 with h2 | h2
  · exact hn (h.wi.1 j h2)
  · obtain ⟨x, _, he⟩ := List.mem_map.1 h2
    omega

/-- What the caller of a joined list finds. -/
theorem JPost.caller {hp0 : Hp} {n0 : Nat} {ids0 : List Nat} {l : List Y} {r : CR} (h : JPost hp0 n0 ids0 l r) : ∃ io go co i, r.v = .osl io go 0 l.length 12 none ∧ (hp0.sets (tWr r n0)).get io = some ⟨go, false, co⟩ ∧ TC (hp0.sets (tWr r n0)).get co l i ∧
    (io :: i).Nodup ∧ ∀ j, j ∈ io :: i → (j ∈ ids0 ∨ n0 ≤ j) ∧ j < r.n := by
  obtain ⟨io, go, co, i, h1, h2, h3, h4, h5⟩ := h.v
  refine ⟨io, go, co, i, h1, ?_, h3.frame fun j hj => ?_, h4, h5⟩
  · rw [tWr_same h (h5 io (List.mem_cons_self ..)).2 (by rw [h2]; rfl), h2]
  · exact tWr_same h (h5 j (List.mem_cons_of_mem _ hj)).2 (h3.isS j hj)

/-- A call that is handed objects, as a region's operation. -/
theorem RT.callT {P : Program} {cfg : Cfg} {fid : FuncId} {rid : Nat} {fo : Operand} {args : Array Operand} {ts : Array TypeId} {dst : Option Nat} {g : Gd} {r : List PO} {e e' : Env} {hp : Hp} {n c n0 : Nat} {wl : List Nat} {f : FuncId} {caps vs : List V} {q : CR} {t : St} {qs : List Tq}
    (hg : Is (wantedP e g) (some true)) (hfo : Is (evalV e fo) (.fn f caps)) (hvs : Is (args.toList.map (evalV e) ++ caps) vs) (hcl : Is (closeArgs (if cfg.thr f then noLook else hp.get) vs) none) (hd : lim P cfg f vs hp n c = some q)
    (hk : ∀ k, k ∈ (tWr q n).map (·.1) → k < n + (q.n - n)) (he : putEnv e dst q.v = e') (h' : RT P cfg fid rid r ⟨e', hp.sets (tWr q n), n + (q.n - n), c + (q.c - c), n0, addNew n0 wl (tWr q n)⟩ t qs) :
    RT P cfg fid rid (⟨.call ⟨.value fo, args, ts⟩, dst, g⟩ :: r) ⟨e, hp, n, c, n0, wl⟩ t (⟨[], (tWr q n).map (·.1), true, q.c - c⟩ :: qs) := by
  unfold Is at *
  have : callR cfg (lim P cfg) hp n c f vs = some ⟨q.v, tWr q n, [], q.n - n, q.c - c, true⟩ := by
    unfold callR
    rw [hcl]
    simp only [hd]
    rfl
  refine RT.wr (wr := tWr q n) (dn := q.n - n) (dc := q.c - c) ?_ he rfl rfl rfl rfl h'
  show opP P cfg fid rid _ _ = _
  unfold opP
  simp only [hg]
  have h2 : opP0 P cfg fid rid ⟨.call ⟨.value fo, args, ts⟩, dst, g⟩ ⟨e, hp, n, c, n0, wl⟩ = some ⟨q.v, tWr q n, [], q.n - n, q.c - c, true⟩ := by
    simp only [opP0, hfo]
    rw [hvs, this]
  rw [h2]
  simp only
  rw [if_pos]
  rw [List.all_eq_true]
  intro p hp
  rw [Nat.blt_eq]
  exact hk p.1 (List.mem_map.2 ⟨p, hp, rfl⟩)

/-- The joining of nothing. -/
theorem join_nil : ∃ c, lim Try.prog Hn.cfg 21 [.d (.slice [])] [] 0 0 = some ⟨.osl 0 0 0 0 12 none, [(0, ⟨0, false, []⟩)], 1, c, []⟩ := by
  have main : ∃ (v : V) (t : St), lim Try.prog Hn.cfg 21 [.d (.slice [])] [] 0 0 = some ⟨v, t.hp, t.n, t.c, t.wl⟩ ∧ (v = .osl 0 0 0 0 12 none ∧ t.hp = [(0, ⟨0, false, []⟩)] ∧ t.n = 1 ∧ t.wl = []) := by
    refine lim_wp (Q := fun v (t : St) => v = .osl 0 0 0 0 12 none ∧ t.hp = [(0, ⟨0, false, []⟩)] ∧ t.n = 1 ∧ t.wl = []) Try.func21 rfl (by kernel_rfl) rfl ?_
    repeat (first
      | apply WP.seq
      | (apply WP.reg
         case hR => dsimp only [prepL, prepO, List.map, List.getElem?_cons_succ, List.getElem?_cons_zero]; exact Is.rfl
         case hr =>
           repeat (first
             | (apply RT.op (h := by simp [envOf]; exact Is.rfl) (he := by (try dsimp only [putEnv]) <;> exact rfl))
             | (apply RT.call (hg := by simp; exact Is.rfl) (hfo := by simp; exact Is.rfl) (hvs := by simp [envOf]; exact Is.rfl) (hcl := by simp [envOf]; exact Is.rfl) (hd := by simp [envOf]; exact Is.rfl) (hwr := by simp [envOf]; exact Is.rfl) (hlt := by simp [Is]) (he := by (try dsimp only [putEnv]) <;> exact rfl) (hh := by simp; exact Is.rfl) (hw := by simp; exact Is.rfl))
             | (apply RT.wr (h := by simp [envOf]; exact Is.rfl) (he := by (try dsimp only [putEnv]) <;> exact rfl) (hh := by simp [envOf]; exact Is.rfl) (hn := by exact Is.rfl) (hc := by exact Is.rfl) (hw := by simp; exact Is.rfl)))
           exact RT.nil
         case hc => (show _ = _; kernel_rfl)
         case ht => simp [envOf]; exact Is.rfl)
      | apply WP.block
      | apply WP.skip
      | apply WP.exit
      | apply WP.ret)
    apply WP.loop' (I := fun d s => SE [(3, .osl 0 0 0 0 12 none), (11, .d (.slice [])), (12, dI 0), (13, dI 0)] [(0, ⟨0, false, []⟩)] 1 s) (d := 0)
    · exact SE.mk rfl rfl
    rintro d _ ⟨c, rfl⟩
    repeat (first
      | apply WP.seq
      | (apply WP.reg
         case hR => dsimp only [prepL, prepO, List.map, List.getElem?_cons_succ, List.getElem?_cons_zero]; exact Is.rfl
         case hr =>
           repeat (first
             | (apply RT.op (h := by simp [dI]; exact Is.rfl) (he := by (try dsimp only [putEnv]) <;> exact rfl))
             | (apply RT.call (hg := by simp; exact Is.rfl) (hfo := by simp; exact Is.rfl) (hvs := by simp [dI]; exact Is.rfl) (hcl := by simp [dI]; exact Is.rfl) (hd := by simp [dI]; exact Is.rfl) (hwr := by simp [dI]; exact Is.rfl) (hlt := by simp [Is]) (he := by (try dsimp only [putEnv]) <;> exact rfl) (hh := by simp; exact Is.rfl) (hw := by simp; exact Is.rfl))
             | (apply RT.wr (h := by simp [dI]; exact Is.rfl) (he := by (try dsimp only [putEnv]) <;> exact rfl) (hh := by simp [dI]; exact Is.rfl) (hn := by exact Is.rfl) (hc := by exact Is.rfl) (hw := by simp; exact Is.rfl)))
           exact RT.nil
         case hc => (show _ = _; kernel_rfl)
         case ht => simp [dI]; exact Is.rfl)
      | apply WP.block
      | apply WP.skip
      | apply WP.exit
      | apply WP.ret)
    show WP _ _ _ _ _ _
    refine WP.cond _ rfl (fun hb => ?_) (fun hb => ?_)
    · simp at hb
    · repeat (first
        | apply WP.seq
        | (apply WP.reg
           case hR => dsimp only [prepL, prepO, List.map, List.getElem?_cons_succ, List.getElem?_cons_zero]; exact Is.rfl
           case hr =>
             repeat (first
               | (apply RT.op (h := by simp; exact Is.rfl) (he := by (try dsimp only [putEnv]) <;> exact rfl))
               | (apply RT.call (hg := by simp; exact Is.rfl) (hfo := by simp; exact Is.rfl) (hvs := by simp; exact Is.rfl) (hcl := by simp; exact Is.rfl) (hd := by simp; exact Is.rfl) (hwr := by simp; exact Is.rfl) (hlt := by simp [Is]) (he := by (try dsimp only [putEnv]) <;> exact rfl) (hh := by simp; exact Is.rfl) (hw := by simp; exact Is.rfl))
               | (apply RT.wr (h := by simp; exact Is.rfl) (he := by (try dsimp only [putEnv]) <;> exact rfl) (hh := by simp; exact Is.rfl) (hn := by exact Is.rfl) (hc := by exact Is.rfl) (hw := by simp; exact Is.rfl)))
             exact RT.nil
           case hc => (show _ = _; kernel_rfl)
           case ht => simp; exact Is.rfl)
        | apply WP.block
        | apply WP.skip
        | apply WP.exit
        | apply WP.ret)
      exact ⟨.inr rfl, _, rfl, rfl, rfl, rfl, rfl⟩
  obtain ⟨v, t, h1, h2, h3, h4, h5⟩ := main
  rw [h2, h3, h4, h5] at h1
  exact ⟨_, h1⟩
end Go.Ab
