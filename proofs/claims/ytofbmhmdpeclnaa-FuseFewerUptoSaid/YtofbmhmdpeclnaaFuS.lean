/- Statements whose branches are objects: what lies in memory, and how it stays. No program in sight. -/
import Derived.Test.YtofbmhmdpeclnaaFuQ
set_option linter.unusedVariables false
set_option linter.unusedSimpArgs false
set_option maxRecDepth 4000
set_option linter.unusedSimpArgs false
set_option linter.unusedVariables false
namespace Go.Ab

def hdY (y : Y) : List V := [.d (.int .i64 y.k), .d (.str y.nm), .d (.int .i64 y.t), .d (.int .i64 y.r.k), .d (.int .i64 y.r.o), .d (.int .i64 y.r.t), .d (.int .i64 y.r.v), .d (.str y.r.nm), .d (.slice (encX y.r.args)), .d (.slice (encN y.outs)), .d (.slice (encX y.args))]

mutual
inductive TS (look : Look) : List V → Y → List Nat → Prop
  | mk {y : Y} {id g : Nat} {vs : List V} {i : List Nat} (h : look id = some ⟨g, false, vs⟩) (hb : TB look vs y.brs i) : TS look (hdY y ++ [.osl id g 0 y.brs.length 1 (some y.brs.length)]) y (id :: i)
inductive TC (look : Look) : List V → List Y → List Nat → Prop
  | nil : TC look [] [] []
  | cons {sc cs : List V} {y : Y} {r : List Y} {i j : List Nat} (h : TS look sc y i) (h' : TC look cs r j) : TC look (sc ++ cs) (y :: r) (i ++ j)
inductive TB (look : Look) : List V → List (List Y) → List Nat → Prop
  | nil : TB look [] [] []
  | cons {v : V} {vs : List V} {b : List Y} {r : List (List Y)} {i j : List Nat} (h : TL look v b i) (h' : TB look vs r j) : TB look (v :: vs) (b :: r) (i ++ j)
inductive TL (look : Look) : V → List Y → List Nat → Prop
  | nil : TL look (.full []) [] []
  | osl {id g : Nat} {cs : List V} {l : List Y} {i : List Nat} (h : look id = some ⟨g, false, cs⟩) (hc : TC look cs l i) : TL look (.osl id g 0 l.length 12 none) l (id :: i)
end

variable {look look' : Look}

theorem TS.len {sc : List V} {y : Y} {i : List Nat} (h : TS look sc y i) : sc.length = 12 := by cases h; rfl
theorem TC.len : ∀ {cs : List V} {l : List Y} {i : List Nat}, TC look cs l i → cs.length = l.length * 12
  | _, _, _, .nil => rfl
  | _, _, _, .cons h h' => by rw [List.length_append, h.len, TC.len h', List.length_cons]; omega
theorem TB.len : ∀ {vs : List V} {l : List (List Y)} {i : List Nat}, TB look vs l i → vs.length = l.length
  | _, _, _, .nil => rfl
  | _, _, _, .cons h h' => by rw [List.length_cons, TB.len h', List.length_cons]

theorem toDs_app {f : V → Option (D × List Nat)} : ∀ {a b : List V} {da db : List D} {ia ib : List Nat}, toDs f a = some (da, ia) → toDs f b = some (db, ib) → toDs f (a ++ b) = some (da ++ db, ia ++ ib)
  | [], b, da, db, ia, ib, h, h' => by simp [toDs] at h; obtain ⟨rfl, rfl⟩ := h; simpa using h'
  | x :: a, b, da, db, ia, ib, h, h' => by
    simp only [toDs] at h
    split at h
    · rename_i u p v q hu hv
      simp only [Option.some.injEq, Prod.mk.injEq] at h
      obtain ⟨rfl, rfl⟩ := h
      simp only [List.cons_append, toDs, hu, toDs_app hv h', List.append_assoc]
    · simp at h

theorem toD_osl (f id g off len sz : Nat) (cap : Option Nat) : toD look (f + 1) (.osl id g off len sz cap) = match live look id g with
    | some o => match Nat.ble (off + len * sz) o.cells.length, toDs (toD look f) ((o.cells.drop off).take (len * sz)) with
      | true, some (ds, r) => some (.slice (chunk sz len ds), id :: r)
      | _, _ => none
    | none => none := by rw [toD]; rfl

theorem live_of {id g : Nat} {ro : Bool} {cs : List V} (h : look id = some ⟨g, ro, cs⟩) : live look id g = some ⟨g, ro, cs⟩ := by simp [live, h]

mutual
theorem TS.toDs : ∀ {sc : List V} {y : Y} {i : List Nat}, TS look sc y i → ∀ f, y.sz ≤ f → toDs (toD look f) sc = some (y.cells, i)
  | _, _, _, .mk (y := y) (id := id) (g := g) (vs := vs) (i := i) h hb, f, hf => by
    rw [Y.sz_eq] at hf
    obtain ⟨k, rfl⟩ : ∃ k, f = k + 1 := ⟨f - 1, by omega⟩
    have h1 := TB.toDs hb k (by omega)
    have h2 := hb.len
    have h3 : toD look (k + 1) (.osl id g 0 y.brs.length 1 (some y.brs.length)) = some (.slice (encB y.brs), id :: i) := by
      rw [toD_osl, live_of h]
      have hle : Nat.ble (0 + y.brs.length * 1) vs.length = true := by rw [Nat.ble_eq]; omega
      have ht : (vs.drop 0).take (y.brs.length * 1) = vs := by rw [List.drop_zero, Nat.mul_one, ← h2, List.take_length]
      simp only [hle, ht, h1, cB_chunk]
    have h4 : Go.Ab.toDs (toD look (k + 1)) (hdY y) = some (y.cells.take 11, []) := by
      rw [Y.cells_eq]
      exact toDs_d look (k + 1) [_, _, _, _, _, _, _, _, _, _, _]
    have h5 : Go.Ab.toDs (toD look (k + 1)) [.osl id g 0 y.brs.length 1 (some y.brs.length)] = some ([.slice (encB y.brs)], id :: i) := by
      simp only [Go.Ab.toDs, h3, List.append_nil]
    rw [toDs_app h4 h5, Y.cells_eq]
    rfl
theorem TC.toDs : ∀ {cs : List V} {l : List Y} {i : List Nat}, TC look cs l i → ∀ f, szY l ≤ f → toDs (toD look f) cs = some ((encY l).flatten, i)
  | _, _, _, .nil, f, hf => by simp [Go.Ab.toDs, encY]
  | _, _, _, .cons h h', f, hf => by
    simp only [szY] at hf
    rw [toDs_app (TS.toDs h f (by omega)) (TC.toDs h' f (by omega))]
    simp [encY]
theorem TB.toDs : ∀ {vs : List V} {l : List (List Y)} {i : List Nat}, TB look vs l i → ∀ f, szB l ≤ f → toDs (toD look f) vs = some ((encB l).flatten, i)
  | _, _, _, .nil, f, hf => by simp [Go.Ab.toDs, encB]
  | _, _, _, .cons h h', f, hf => by
    simp only [szB] at hf
    simp only [Go.Ab.toDs, TL.toD h f (by omega), TB.toDs h' f (by omega)]
    simp [encB]
theorem TL.toD : ∀ {v : V} {l : List Y} {i : List Nat}, TL look v l i → ∀ f, szY l + 1 ≤ f → toD look f v = some (.slice (encY l), i)
  | _, _, _, .nil, f, hf => by
    simp only [encY]
    cases f <;> rfl
  | _, _, _, .osl (id := id) (g := g) (cs := cs) (l := l) (i := i) h hc, f, hf => by
    obtain ⟨k, rfl⟩ : ∃ k, f = k + 1 := ⟨f - 1, by omega⟩
    have h1 := TC.toDs hc k (by omega)
    have h2 := hc.len
    rw [toD_osl, live_of h]
    have hle : Nat.ble (0 + l.length * 12) cs.length = true := by rw [Nat.ble_eq]; omega
    have ht : (cs.drop 0).take (l.length * 12) = cs := by rw [List.drop_zero, ← h2, List.take_length]
    simp only [hle, ht, h1, cY_chunk]
end

mutual
theorem TS.frame : ∀ {sc : List V} {y : Y} {i : List Nat}, TS look sc y i → (∀ id, id ∈ i → look' id = look id) → TS look' sc y i
  | _, _, _, .mk h hb, hf => .mk (by rw [hf _ (List.mem_cons_self ..)]; exact h) (TB.frame hb fun id hid => hf id (List.mem_cons_of_mem _ hid))
theorem TC.frame : ∀ {cs : List V} {l : List Y} {i : List Nat}, TC look cs l i → (∀ id, id ∈ i → look' id = look id) → TC look' cs l i
  | _, _, _, .nil, hf => .nil
  | _, _, _, .cons h h', hf => .cons (TS.frame h fun id hid => hf id (List.mem_append_left _ hid)) (TC.frame h' fun id hid => hf id (List.mem_append_right _ hid))
theorem TB.frame : ∀ {vs : List V} {l : List (List Y)} {i : List Nat}, TB look vs l i → (∀ id, id ∈ i → look' id = look id) → TB look' vs l i
  | _, _, _, .nil, hf => .nil
  | _, _, _, .cons h h', hf => .cons (TL.frame h fun id hid => hf id (List.mem_append_left _ hid)) (TB.frame h' fun id hid => hf id (List.mem_append_right _ hid))
theorem TL.frame : ∀ {v : V} {l : List Y} {i : List Nat}, TL look v l i → (∀ id, id ∈ i → look' id = look id) → TL look' v l i
  | _, _, _, .nil, hf => .nil
  | _, _, _, .osl h hc, hf => .osl (by rw [hf _ (List.mem_cons_self ..)]; exact h) (TC.frame hc fun id hid => hf id (List.mem_cons_of_mem _ hid))
end

theorem TC.app : ∀ {c1 c2 : List V} {l1 l2 : List Y} {i1 i2 : List Nat}, TC look c1 l1 i1 → TC look c2 l2 i2 → TC look (c1 ++ c2) (l1 ++ l2) (i1 ++ i2)
  | _, _, _, _, _, _, .nil, h => h
  | _, _, _, _, _, _, .cons a b, h => by
    rw [List.append_assoc, List.append_assoc, List.cons_append]
    exact .cons a (TC.app b h)
theorem TC.one {sc : List V} {y : Y} {i : List Nat} (h : TS look sc y i) : TC look sc [y] i := by
  have := TC.cons h .nil
  simpa using this

theorem TC.at_ : ∀ {cs : List V} {l : List Y} {i : List Nat} {k : Nat} {y : Y}, TC look cs l i → l[k]? = some y → ∃ c1 sc c2 i1 i2 i3, cs = c1 ++ (sc ++ c2) ∧ c1.length = k * 12 ∧ i = i1 ++ (i2 ++ i3) ∧
    TC look c1 (l.take k) i1 ∧ TS look sc y i2 ∧ TC look c2 (l.drop (k + 1)) i3
  | _, _, _, k, y, .nil, h => by simp at h
  | _, _, _, 0, y, .cons (sc := sc) (cs := cs) (i := i) (j := j) a b, h => by
    simp at h; subst h
    exact ⟨[], sc, cs, [], i, j, rfl, rfl, rfl, .nil, a, b⟩
  | _, _, _, k + 1, y, .cons (sc := sc) (cs := cs) (i := i) (j := j) a b, h => by
    simp at h
    obtain ⟨c1, s2, c2, i1, i2, i3, h1, h2, h3, h4, h5, h6⟩ := TC.at_ b h
    refine ⟨sc ++ c1, s2, c2, i ++ i1, i2, i3, by rw [h1, List.append_assoc], by rw [List.length_append, a.len, h2]; omega, by rw [h3, List.append_assoc], ?_, h5, ?_⟩
    · exact .cons a h4
    · exact h6

theorem TB.at_ : ∀ {vs : List V} {l : List (List Y)} {i : List Nat} {k : Nat} {b : List Y}, TB look vs l i → l[k]? = some b → ∃ v i1 i2 i3, vs[k]? = some v ∧ i = i1 ++ (i2 ++ i3) ∧ TL look v b i2 ∧
    (∀ (look' : Look) v' b' i2', (∀ id, id ∈ i1 ∨ id ∈ i3 → look' id = look id) → TL look' v' b' i2' → TB look' (vs.set k v') (l.set k b') (i1 ++ (i2' ++ i3)))
  | _, _, _, k, b, .nil, h => by simp at h
  | _, _, _, 0, b, .cons (v := v) (vs := vs) (i := i) (j := j) a h', h => by
    simp at h; subst h
    refine ⟨v, [], i, j, rfl, rfl, a, fun look' v' b' i2' hf ht => ?_⟩
    show TB look' (v' :: vs) (b' :: _) (i2' ++ j)
    exact .cons ht (h'.frame fun id hid => hf id (.inr hid))
  | _, _, _, k + 1, b, .cons (v := v) (vs := vs) (i := i) (j := j) a h', h => by
    simp at h
    obtain ⟨w, i1, i2, i3, h1, h2, h3, h4⟩ := TB.at_ h' h
    refine ⟨w, i ++ i1, i2, i3, by simpa using h1, by rw [h2, List.append_assoc], h3, fun look' v' b' i2' hf ht => ?_⟩
    have := h4 look' v' b' i2' (fun id hid => hf id (hid.imp (fun h => List.mem_append_right _ h) (fun h => h))) ht
    rw [List.append_assoc]
    exact .cons (a.frame fun id hid => hf id (.inl (List.mem_append_left _ hid))) this

/-! ### Memories -/
theorem Hp.get_sets_ne : ∀ (wr : List (Nat × Ob)) (hp : Hp) (id : Nat), (∀ p, p ∈ wr → p.1 ≠ id) → (hp.sets wr).get id = hp.get id
  | [], hp, id, h => rfl
  | (k, o) :: r, hp, id, h => by
    rw [Hp.sets, Hp.get_sets_ne r _ id (fun p hp => h p (List.mem_cons_of_mem _ hp)), Hp.get_set_ne _ _ _ _ (h (k, o) (List.mem_cons_self ..))]
theorem Hp.get_sets_mem : ∀ (wr : List (Nat × Ob)) (hp : Hp) (id : Nat) (o : Ob), (∀ p, p ∈ wr → p.1 = id → p.2 = o) → (∃ p, p ∈ wr ∧ p.1 = id) → (hp.sets wr).get id = some o
  | [], hp, id, o, h, he => by obtain ⟨p, h1, _⟩ := he; cases h1
  | (k, o') :: r, hp, id, o, h, he => by
    rw [Hp.sets]
    by_cases hr : ∃ p, p ∈ r ∧ p.1 = id
    · exact Hp.get_sets_mem r _ id o (fun p hp => h p (List.mem_cons_of_mem _ hp)) hr
    · rw [Hp.get_sets_ne r _ id (fun p hp hid => hr ⟨p, hp, hid⟩)]
      obtain ⟨p, h1, h2⟩ := he
      simp only [List.mem_cons] at h1
      rcases h1 with rfl | h1
      · simp only at h2; subst h2
        rw [Hp.get_set_self]; exact congrArg some (h (k, o') (List.mem_cons_self ..) rfl)
      · exact absurd ⟨p, h1, h2⟩ hr
theorem mem_wrOf2 {p : Nat × Ob} : ∀ {ids : List Nat}, p ∈ wrOf look ids ↔ p.1 ∈ ids ∧ look p.1 = some p.2
  | [] => by simp [wrOf]
  | id :: r => by
    have ih := mem_wrOf2 (p := p) (ids := r)
    simp only [wrOf]
    cases hl : look id with
    | none =>
      rw [ih, List.mem_cons]
      constructor
      · rintro ⟨a, b⟩; exact ⟨.inr a, b⟩
      · rintro ⟨rfl | a, b⟩
        · rw [hl] at b; cases b
        · exact ⟨a, b⟩
    | some o =>
      simp only [List.mem_cons, ih]
      constructor
      · rintro (rfl | ⟨a, b⟩)
        · exact ⟨.inl rfl, hl⟩
        · exact ⟨.inr a, b⟩
      · rintro ⟨a, b⟩
        by_cases hp : p.1 = id
        · left
          rw [hp, hl] at b
          obtain ⟨x, y⟩ := p
          simp only at hp b
          simp only [Option.some.injEq] at b
          rw [hp, b]
        · exact .inr ⟨a.resolve_left hp, b⟩
/-- A memory after some objects have been handed over. -/
theorem Hp.get_sets_wrOf (hp : Hp) (look : Look) (ids : List Nat) (id : Nat) : (hp.sets (wrOf look ids)).get id = if id ∈ ids ∧ (look id).isSome = true then look id else hp.get id := by
  split
  · rename_i h
    obtain ⟨o, ho⟩ := Option.isSome_iff_exists.1 h.2
    rw [ho]
    refine Hp.get_sets_mem _ _ _ _ (fun p hp hid => ?_) ⟨(id, o), mem_wrOf2.2 ⟨h.1, ho⟩, rfl⟩
    have := (mem_wrOf2.1 hp).2
    rw [hid, ho] at this
    exact (Option.some.inj this).symm
  · rename_i h
    refine Hp.get_sets_ne _ _ _ (fun p hp hid => h ?_)
    obtain ⟨a, b⟩ := mem_wrOf2.1 hp
    rw [hid] at a b
    exact ⟨a, by rw [b]; rfl⟩
end Go.Ab
