/- The memory while a list is joined. -/
import Derived.Test.YtofbmhmdpeclnaaFuW
set_option linter.unusedVariables false
set_option linter.unusedSimpArgs false
set_option maxRecDepth 4000
set_option linter.unusedSimpArgs false
set_option linter.unusedVariables false
namespace Go.Ab
open Go.Proofs

/-- The list that is built (o), the list that is read (idl), and what else is owned (E). -/
structure JO (hp0 : Hp) (n0 : Nat) (ids0 : List Nat) (idl gl : Nat) (cl : List V) (hp : Hp) (n : Nat) (wl : List Nat) (io go : Nat) (co : List V) (o : List Y) (ids E : List Nat) : Prop where
  go : hp.get io = some ⟨go, false, co⟩
  to : TC hp.get co o ids
  gl : hp.get idl = some ⟨gl, false, cl⟩
  nd : (idl :: io :: (ids ++ E)).Nodup
  lt : ∀ j, j ∈ idl :: io :: (ids ++ E) → j < n
  own : ∀ j, j ∈ idl :: io :: (ids ++ E) → j ∈ ids0 ∨ n0 ≤ j
  wi : WI ids0 n0 hp0 wl hp
  nn : n0 ≤ n

section
variable {hp0 : Hp} {n0 : Nat} {ids0 : List Nat} {idl gl : Nat} {cl : List V} {hp : Hp} {n : Nat} {wl : List Nat} {io go : Nat} {co : List V} {o : List Y} {ids E : List Nat}

theorem JO.ne (h : JO hp0 n0 ids0 idl gl cl hp n wl io go co o ids E) : idl ≠ io ∧ idl ∉ ids ∧ idl ∉ E ∧ io ∉ ids ∧ io ∉ E := by
  have := h.nd
  simp only [List.nodup_cons, List.mem_cons, List.mem_append, not_or] at this
  exact ⟨this.1.1, this.1.2.1, this.1.2.2, this.2.1.1, this.2.1.2⟩

theorem JO.ltE (h : JO hp0 n0 ids0 idl gl cl hp n wl io go co o ids E) {j : Nat} (hj : j ∈ E) : j < n := h.lt j (by simp [hj])
theorem JO.ownE (h : JO hp0 n0 ids0 idl gl cl hp n wl io go co o ids E) {j : Nat} (hj : j ∈ E) : j ∈ ids0 ∨ n0 ≤ j := h.own j (by simp [hj])
theorem JO.ndE (h : JO hp0 n0 ids0 idl gl cl hp n wl io go co o ids E) : E.Nodup := by
  have := h.nd
  simp only [List.nodup_cons, List.nodup_append] at this
  exact this.2.2.2.1
theorem JO.apart (h : JO hp0 n0 ids0 idl gl cl hp n wl io go co o ids E) {j : Nat} (hj : j ∈ E) : j ∉ ids := by
  have := h.nd
  simp only [List.nodup_cons, List.nodup_append] at this
  exact fun hi => this.2.2.2.2 j hi j hj rfl

/-- A cell elsewhere is written. -/
theorem JO.set (h : JO hp0 n0 ids0 idl gl cl hp n wl io go co o ids E) {k n' : Nat} {x : Ob} (h1 : k ≠ io) (h2 : k ≠ idl) (h3 : k ∉ ids) (h4 : k ∈ ids0 ∨ n0 ≤ k) (h5 : n ≤ n') : JO hp0 n0 ids0 idl gl cl (hp.set k x) n' (addNew n0 wl [(k, x)]) io go co o ids E where
  go := by rw [Hp.get_set_ne _ _ _ _ h1]; exact h.go
  to := h.to.frame fun j hj => Hp.get_set_ne _ _ _ _ (fun he => h3 (he ▸ hj))
  gl := by rw [Hp.get_set_ne _ _ _ _ h2]; exact h.gl
  nd := h.nd
  lt j hj := Nat.lt_of_lt_of_le (h.lt j hj) h5
  own := h.own
  wi := h.wi.set h4
  nn := Nat.le_trans h.nn h5

/-- A new cell. -/
theorem JO.new (h : JO hp0 n0 ids0 idl gl cl hp n wl io go co o ids E) {k n' : Nat} {x : Ob} (hk : n ≤ k) (h5 : n ≤ n') : JO hp0 n0 ids0 idl gl cl (hp.set k x) n' (addNew n0 wl [(k, x)]) io go co o ids E :=
  h.set (fun he => by have := h.lt io (by simp); omega) (fun he => by have := h.lt idl (by simp); omega) (fun hi => by have := h.lt k (by simp [hi]); omega) (.inr (by have := h.nn; omega)) h5

/-- A statement is appended to what is built. -/
theorem JO.push (h : JO hp0 n0 ids0 idl gl cl hp n wl io go co o ids E) {sc : List V} {y : Y} {i E' : List Nat} {g' : Nat} (ht : TS hp.get sc y i) (hE : E.Perm (i ++ E')) :
    JO hp0 n0 ids0 idl gl cl (hp.set io ⟨g', false, co ++ sc⟩) n (addNew n0 wl [(io, ⟨g', false, co ++ sc⟩)]) io g' (co ++ sc) (o ++ [y]) (ids ++ i) E' where
  go := Hp.get_set_self ..
  to := by
    obtain ⟨_, _, _, h4, h5⟩ := h.ne
    refine TC.app (h.to.frame fun j hj => Hp.get_set_ne _ _ _ _ (fun he => h4 (he ▸ hj))) (TC.one (ht.frame fun j hj => Hp.get_set_ne _ _ _ _ (fun he => ?_)))
    subst he
    exact h5 (hE.mem_iff.2 (by simp [hj]))
  gl := by rw [Hp.get_set_ne _ _ _ _ (fun he => h.ne.1 he.symm)]; exact h.gl
  nd := by
    have hp2 : (idl :: io :: ((ids ++ i) ++ E')).Perm (idl :: io :: (ids ++ E)) := by
      refine List.Perm.cons _ (List.Perm.cons _ ?_)
      rw [List.append_assoc]
      exact (hE.symm).append_left ids
    rw [hp2.nodup_iff]; exact h.nd
  lt j hj := h.lt j (by
    simp only [List.mem_cons, List.mem_append] at hj ⊢
    rcases hj with h1 | h1 | (h1 | h1) | h1
    · exact .inl h1
    · exact .inr (.inl h1)
    · exact .inr (.inr (.inl h1))
    · exact .inr (.inr (.inr (hE.mem_iff.2 (by simp [h1]))))
    · exact .inr (.inr (.inr (hE.mem_iff.2 (by simp [h1])))))
  own j hj := h.own j (by
    simp only [List.mem_cons, List.mem_append] at hj ⊢
    rcases hj with h1 | h1 | (h1 | h1) | h1
    · exact .inl h1
    · exact .inr (.inl h1)
    · exact .inr (.inr (.inl h1))
    · exact .inr (.inr (.inr (hE.mem_iff.2 (by simp [h1]))))
    · exact .inr (.inr (.inr (hE.mem_iff.2 (by simp [h1])))))
  wi := h.wi.set (h.own io (by simp))
  nn := h.nn

/-- What else is owned, anew. -/
theorem JO.reE (h : JO hp0 n0 ids0 idl gl cl hp n wl io go co o ids E) {E' : List Nat} {m : Nat} (hn : E'.Nodup) (hm : ∀ j, j ∈ idl :: io :: (ids ++ E) → j < m) (hm0 : n0 ≤ m) (hE : ∀ j, j ∈ E' → j ∈ E ∨ (m ≤ j ∧ j < n)) : JO hp0 n0 ids0 idl gl cl hp n wl io go co o ids E' where
  go := h.go
  to := h.to
  gl := h.gl
  nd := by
    have h1 := h.nd
    simp only [List.nodup_cons, List.nodup_append, List.mem_cons, List.mem_append, not_or] at h1 ⊢
    obtain ⟨⟨a1, a2, a3⟩, ⟨b1, b2⟩, c1, c2, c3⟩ := h1
    have key : ∀ j, j ∈ E' → (j ∈ idl :: io :: ids → False) := fun j hj hi => by
      rcases hE j hj with hx | hx
      · simp only [List.mem_cons] at hi
        rcases hi with rfl | rfl | hi
        · exact a3 hx
        · exact b2 hx
        · exact c3 j hi j hx rfl
      · have := hm j (by
          simp only [List.mem_cons, List.mem_append] at hi ⊢
          rcases hi with hi | hi | hi
          · exact .inl hi
          · exact .inr (.inl hi)
          · exact .inr (.inr (.inl hi)))
        omega
    exact ⟨⟨a1, a2, fun hj => key _ hj (by simp)⟩, ⟨b1, fun hj => key _ hj (by simp)⟩, c1, hn, fun a ha b hb he => key b hb (by subst he; simp [ha])⟩
  lt j hj := by
    simp only [List.mem_cons, List.mem_append] at hj
    rcases hj with h1 | h1 | h1 | h1
    · exact h.lt j (by simp [h1])
    · exact h.lt j (by simp [h1])
    · exact h.lt j (by simp [h1])
    · rcases hE j h1 with h2 | h2
      · exact h.lt j (by simp [h2])
      · exact h2.2
  own j hj := by
    simp only [List.mem_cons, List.mem_append] at hj
    rcases hj with h1 | h1 | h1 | h1
    · exact h.own j (by simp [h1])
    · exact h.own j (by simp [h1])
    · exact h.own j (by simp [h1])
    · rcases hE j h1 with h2 | h2
      · exact h.own j (by simp [h2])
      · exact .inr (by omega)
  wi := h.wi
  nn := h.nn

/-- A call has been made that was handed some of what else is owned. -/
theorem JO.call (h : JO hp0 n0 ids0 idl gl cl hp n wl io go co o ids E) {i2 : List Nat} {l' : List Y} {r : CR} (hj : JPost hp n i2 l' r) (h2 : ∀ j, j ∈ i2 → j ∈ E) :
    JO hp0 n0 ids0 idl gl cl (hp.sets (tWr r n)) (n + (r.n - n)) (addNew n0 wl (tWr r n)) io go co o ids E ∧ (∀ j, j < n → j ∉ i2 → (hp.sets (tWr r n)).get j = hp.get j) := by
  have hlt2 : ∀ j, j ∈ i2 → j < n := fun j hj => h.ltE (h2 j hj)
  have hold : ∀ j, j < n → j ∉ i2 → (hp.sets (tWr r n)).get j = hp.get j := fun j h1 h3 => tWr_old hj h1 h3
  obtain ⟨_, _, a3, _, a5⟩ := h.ne
  refine ⟨⟨?_, ?_, ?_, h.nd, fun j hj => by have := h.lt j hj; omega, h.own, h.wi.sets fun p hp => ?_, by have := h.nn; omega⟩, hold⟩
  · rw [hold io (h.lt io (by simp)) fun hi => a5 (h2 io hi)]; exact h.go
  · exact h.to.frame fun j hi => hold j (h.lt j (by simp [hi])) fun h3 => h.apart (h2 j h3) hi
  · rw [hold idl (h.lt idl (by simp)) fun hi => a3 (h2 idl hi)]; exact h.gl
  · rcases (tWr_keys hj hlt2 (List.mem_map.2 ⟨p, hp, rfl⟩)).1 with h3 | h3
    · exact h.ownE (h2 _ h3)
    · exact .inr (by have := h.nn; omega)

/-- A call has been made by data; its memory has been taken over. -/
theorem JO.imp (h : JO hp0 n0 ids0 idl gl cl hp n wl io go co o ids E) {wr : List (Nat × Ob)} {n' : Nat} (hw : ∀ p, p ∈ wr → n ≤ p.1) (hn : n ≤ n') : JO hp0 n0 ids0 idl gl cl (hp.sets wr) n' (addNew n0 wl wr) io go co o ids E ∧ (∀ j, j < n → (hp.sets wr).get j = hp.get j) := by
  have hold : ∀ j, j < n → (hp.sets wr).get j = hp.get j := fun j hj => Hp.get_sets_ne _ _ _ fun p hp he => by have := hw p hp; omega
  refine ⟨⟨?_, ?_, ?_, h.nd, fun j hj => by have := h.lt j hj; omega, h.own, h.wi.sets fun p hp => .inr (by have := hw p hp; have := h.nn; omega), by have := h.nn; omega⟩, hold⟩
  · rw [hold io (h.lt io (by simp))]; exact h.go
  · exact h.to.frame fun j hi => hold j (h.lt j (by simp [hi]))
  · rw [hold idl (h.lt idl (by simp))]; exact h.gl
end

theorem hd_with (y : Y) (b : List (List Y)) : hdY (y.with b) = hdY y := rfl

end Go.Ab
