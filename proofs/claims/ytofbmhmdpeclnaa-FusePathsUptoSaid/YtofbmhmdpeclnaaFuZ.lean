/- Joining two cases: branch by branch. -/
import Derived.Test.YtofbmhmdpeclnaaFuY
set_option linter.unusedVariables false
set_option linter.unusedSimpArgs false
set_option maxRecDepth 4000
set_option linter.unusedSimpArgs false
set_option linter.unusedVariables false
namespace Go.Ab
open Go.Proofs

/-- The list that is built (o), the list that is read (idl), and what else is owned (E). -/
structure KO (hp0 : Hp) (n0 : Nat) (ids0 : List Nat) (idl gl : Nat) (cl : List V) (hp : Hp) (n : Nat) (wl : List Nat) (io go : Nat) (cg co : List V) (o : List Y) (ids E : List Nat) : Prop where
  go : hp.get io = some ⟨go, false, cg⟩
  to : TC hp.get co o ids
  gl : hp.get idl = some ⟨gl, false, cl⟩
  nd : (idl :: io :: (ids ++ E)).Nodup
  lt : ∀ j, j ∈ idl :: io :: (ids ++ E) → j < n
  own : ∀ j, j ∈ idl :: io :: (ids ++ E) → j ∈ ids0 ∨ n0 ≤ j
  wi : WI ids0 n0 hp0 wl hp
  nn : n0 ≤ n

section
variable {hp0 : Hp} {n0 : Nat} {ids0 : List Nat} {idl gl : Nat} {cl : List V} {hp : Hp} {n : Nat} {wl : List Nat} {io go : Nat} {cg co : List V} {o : List Y} {ids E : List Nat}

theorem KO.ne (h : KO hp0 n0 ids0 idl gl cl hp n wl io go cg co o ids E) : idl ≠ io ∧ idl ∉ ids ∧ idl ∉ E ∧ io ∉ ids ∧ io ∉ E := by
  have := h.nd
  simp only [List.nodup_cons, List.mem_cons, List.mem_append, not_or] at this
  exact ⟨this.1.1, this.1.2.1, this.1.2.2, this.2.1.1, this.2.1.2⟩

theorem KO.ltE (h : KO hp0 n0 ids0 idl gl cl hp n wl io go cg co o ids E) {j : Nat} (hj : j ∈ E) : j < n := h.lt j (by simp [hj])
theorem KO.ownE (h : KO hp0 n0 ids0 idl gl cl hp n wl io go cg co o ids E) {j : Nat} (hj : j ∈ E) : j ∈ ids0 ∨ n0 ≤ j := h.own j (by simp [hj])
theorem KO.ndE (h : KO hp0 n0 ids0 idl gl cl hp n wl io go cg co o ids E) : E.Nodup := by
  have := h.nd
  simp only [List.nodup_cons, List.nodup_append] at this
  exact this.2.2.2.1
theorem KO.apart (h : KO hp0 n0 ids0 idl gl cl hp n wl io go cg co o ids E) {j : Nat} (hj : j ∈ E) : j ∉ ids := by
  have := h.nd
  simp only [List.nodup_cons, List.nodup_append] at this
  exact fun hi => this.2.2.2.2 j hi j hj rfl

/-- A cell elsewhere is written. -/
theorem KO.set (h : KO hp0 n0 ids0 idl gl cl hp n wl io go cg co o ids E) {k n' : Nat} {x : Ob} (h1 : k ≠ io) (h2 : k ≠ idl) (h3 : k ∉ ids) (h4 : k ∈ ids0 ∨ n0 ≤ k) (h5 : n ≤ n') : KO hp0 n0 ids0 idl gl cl (hp.set k x) n' (addNew n0 wl [(k, x)]) io go cg co o ids E where
  go := by rw [Hp.get_set_ne _ _ _ _ h1]; exact h.go
  to := h.to.frame fun j hj => Hp.get_set_ne _ _ _ _ (fun he => h3 (he ▸ hj))
  gl := by rw [Hp.get_set_ne _ _ _ _ h2]; exact h.gl
  nd := h.nd
  lt j hj := Nat.lt_of_lt_of_le (h.lt j hj) h5
  own := h.own
  wi := h.wi.set h4
  nn := Nat.le_trans h.nn h5

/-- A new cell. -/
theorem KO.new (h : KO hp0 n0 ids0 idl gl cl hp n wl io go cg co o ids E) {k n' : Nat} {x : Ob} (hk : n ≤ k) (h5 : n ≤ n') : KO hp0 n0 ids0 idl gl cl (hp.set k x) n' (addNew n0 wl [(k, x)]) io go cg co o ids E :=
  h.set (fun he => by have := h.lt io (by simp); omega) (fun he => by have := h.lt idl (by simp); omega) (fun hi => by have := h.lt k (by simp [hi]); omega) (.inr (by have := h.nn; omega)) h5

/-- What else is owned, anew. -/
theorem KO.reE (h : KO hp0 n0 ids0 idl gl cl hp n wl io go cg co o ids E) {E' : List Nat} {m : Nat} (hn : E'.Nodup) (hm : ∀ j, j ∈ idl :: io :: (ids ++ E) → j < m) (hm0 : n0 ≤ m) (hE : ∀ j, j ∈ E' → j ∈ E ∨ (m ≤ j ∧ j < n)) : KO hp0 n0 ids0 idl gl cl hp n wl io go cg co o ids E' where
  go := h.go
  to := h.to
  gl := h.gl
  nd := by
    have h1 := h.nd
    simp only [List.nodup_cons, List.nodup_append, List.mem_cons, List.mem_append, not_or] at h1 ⊢
    obtain ⟨⟨a1, a2, a3⟩, ⟨b1, b2⟩, c1, c2, c3⟩ := h1
    have key : ∀ j, j ∈ E' → (j ∈ idl :: io :: ids → False) := fun j hj hi => by
      rcases hE j hj with hx | hx
      · simp only [List.mem_cons] at hi
        rcases hi with rfl | rfl | hi
        · exact a3 hx
        · exact b2 hx
        · exact c3 j hi j hx rfl
      · have := hm j (by
          simp only [List.mem_cons, List.mem_append] at hi ⊢
          rcases hi with hi | hi | hi
          · exact .inl hi
          · exact .inr (.inl hi)
          · exact .inr (.inr (.inl hi)))
        omega
    exact ⟨⟨a1, a2, fun hj => key _ hj (by simp)⟩, ⟨b1, fun hj => key _ hj (by simp)⟩, c1, hn, fun a ha b hb he => key b hb (by subst he; simp [ha])⟩
  lt j hj := by
    simp only [List.mem_cons, List.mem_append] at hj
    rcases hj with h1 | h1 | h1 | h1
    · exact h.lt j (by simp [h1])
    · exact h.lt j (by simp [h1])
    · exact h.lt j (by simp [h1])
    · rcases hE j h1 with h2 | h2
      · exact h.lt j (by simp [h2])
      · exact h2.2
  own j hj := by
    simp only [List.mem_cons, List.mem_append] at hj
    rcases hj with h1 | h1 | h1 | h1
    · exact h.own j (by simp [h1])
    · exact h.own j (by simp [h1])
    · exact h.own j (by simp [h1])
    · rcases hE j h1 with h2 | h2
      · exact h.own j (by simp [h2])
      · exact .inr (by omega)
  wi := h.wi
  nn := h.nn

/-- A call has been made that was handed some of what else is owned. -/
theorem KO.call (h : KO hp0 n0 ids0 idl gl cl hp n wl io go cg co o ids E) {i2 : List Nat} {l' : List Y} {r : CR} (hj : JPost hp n i2 l' r) (h2 : ∀ j, j ∈ i2 → j ∈ E) :
    KO hp0 n0 ids0 idl gl cl (hp.sets (tWr r n)) (n + (r.n - n)) (addNew n0 wl (tWr r n)) io go cg co o ids E ∧ (∀ j, j < n → j ∉ i2 → (hp.sets (tWr r n)).get j = hp.get j) := by
  have hlt2 : ∀ j, j ∈ i2 → j < n := fun j hj => h.ltE (h2 j hj)
  have hold : ∀ j, j < n → j ∉ i2 → (hp.sets (tWr r n)).get j = hp.get j := fun j h1 h3 => tWr_old hj h1 h3
  obtain ⟨_, _, a3, _, a5⟩ := h.ne
  refine ⟨⟨?_, ?_, ?_, h.nd, fun j hj => by have := h.lt j hj; omega, h.own, h.wi.sets fun p hp => ?_, by have := h.nn; omega⟩, hold⟩
  · rw [hold io (h.lt io (by simp)) fun hi => a5 (h2 io hi)]; exact h.go
  · exact h.to.frame fun j hi => hold j (h.lt j (by simp [hi])) fun h3 => h.apart (h2 j h3) hi
  · rw [hold idl (h.lt idl (by simp)) fun hi => a3 (h2 idl hi)]; exact h.gl
  · rcases (tWr_keys hj hlt2 (List.mem_map.2 ⟨p, hp, rfl⟩)).1 with h3 | h3
    · exact h.ownE (h2 _ h3)
    · exact .inr (by have := h.nn; omega)

/-- A call has been made by data; its memory has been taken over. -/
theorem KO.imp (h : KO hp0 n0 ids0 idl gl cl hp n wl io go cg co o ids E) {wr : List (Nat × Ob)} {n' : Nat} (hw : ∀ p, p ∈ wr → n ≤ p.1) (hn : n ≤ n') : KO hp0 n0 ids0 idl gl cl (hp.sets wr) n' (addNew n0 wl wr) io go cg co o ids E ∧ (∀ j, j < n → (hp.sets wr).get j = hp.get j) := by
  have hold : ∀ j, j < n → (hp.sets wr).get j = hp.get j := fun j hj => Hp.get_sets_ne _ _ _ fun p hp he => by have := hw p hp; omega
  refine ⟨⟨?_, ?_, ?_, h.nd, fun j hj => by have := h.lt j hj; omega, h.own, h.wi.sets fun p hp => .inr (by have := hw p hp; have := h.nn; omega), by have := h.nn; omega⟩, hold⟩
  · rw [hold io (h.lt io (by simp))]; exact h.go
  · exact h.to.frame fun j hi => hold j (h.lt j (by simp [hi]))
  · rw [hold idl (h.lt idl (by simp))]; exact h.gl
end

theorem TB.uncons {look : Look} {vs : List V} {b : List Y} {r : List (List Y)} {i : List Nat} (h : TB look vs (b :: r) i) : ∃ v vs' i1 i2, vs = v :: vs' ∧ i = i1 ++ i2 ∧ TL look v b i1 ∧ TB look vs' r i2 := by
  cases h with
  | cons a b => exact ⟨_, _, _, _, rfl, rfl, a, b⟩

/-- What is known while two cases are joined, branch by branch. -/
structure CI (hp0 : Hp) (n0 : Nat) (ids0 : List Nat) (idl gl : Nat) (cl : List V) (hp : Hp) (n : Nat) (wl : List Nat) (io go : Nat) (cg c1 : List V) (o1 : List Y) (io1 : List Nat) (ida ga : Nat) (vsa : List V) (aa : List (List Y)) (ia : List Nat) (idb gb : Nat) (vs vsr : List V) (bb : List (List Y)) (iz : List Nat) (cr : List V) (rest : List Y) (E : List Nat) : Prop where
  ko : KO hp0 n0 ids0 idl gl cl hp n wl io go cg c1 o1 io1 ((ida :: ia) ++ ((idb :: iz) ++ E))
  ga : hp.get ida = some ⟨ga, false, vsa⟩
  ta : TB hp.get vsa aa ia
  gb : hp.get idb = some ⟨gb, false, vs⟩
  tz : TB hp.get vsr bb iz
  tr : TC hp.get cr rest E

/-- One round: the branches have been put together in an object, the joined list has come back, and has been stored. -/
theorem CI.round {hp0 : Hp} {n0 : Nat} {ids0 : List Nat} {idl gl : Nat} {cl : List V} {hp : Hp} {n : Nat} {wl : List Nat} {io go : Nat} {cg c1 : List V} {o1 : List Y} {io1 : List Nat} {ida ga : Nat} {vsa : List V} {aa : List (List Y)} {i1 ix i3 : List Nat} {idb gb : Nat} {vs vsr : List V} {bb : List (List Y)} {izk izr : List Nat} {cr : List V} {rest : List Y} {E : List Nat}
    {z : V} {zb : List Y}
    (h : CI hp0 n0 ids0 idl gl cl hp n wl io go cg c1 o1 io1 ida ga vsa aa (i1 ++ (ix ++ i3)) idb gb vs (z :: vsr) (zb :: bb) (izk ++ izr) cr rest E)
    (htz : TB hp.get vsr bb izr) {k : Nat} {aa' : List (List Y)} {w' : List Y}
    (hmk : ∀ (look' : Look) v' i2', (∀ j, j ∈ i1 ∨ j ∈ i3 → look' j = hp.get j) → TL look' v' w' i2' → TB look' (vsa.set k v') aa' (i1 ++ (i2' ++ i3)))
    {idX nA c : Nat} {csw : List V} {iw : List Nat} (hX : ∀ j, j ∈ idX :: iw → (j ∈ ix ∨ j ∈ izk) ∨ (n ≤ j ∧ j < nA)) (hXn : (idX :: iw).Nodup) (hnA : n ≤ nA) {r : CR} (hP : JPost (hp.set idX ⟨c, false, csw⟩) nA (idX :: iw) w' r) :
    ∃ io' go' inew, r.v = .osl io' go' 0 w'.length 12 none ∧
      CI hp0 n0 ids0 idl gl cl (((hp.set idX ⟨c, false, csw⟩).sets (tWr r nA)).set ida ⟨ga, false, vsa.set k (.osl io' go' 0 w'.length 12 none)⟩) (nA + (r.n - nA)) (addNew n0 (addNew n0 (addNew n0 wl [(idX, ⟨c, false, csw⟩)]) (tWr r nA)) [(ida, ⟨ga, false, vsa.set k (.osl io' go' 0 w'.length 12 none)⟩)])
        io go cg c1 o1 io1 ida ga (vsa.set k (.osl io' go' 0 w'.length 12 none)) aa' (i1 ++ (inew ++ i3)) idb gb vs vsr bb izr cr rest E ∧
      ((hp.set idX ⟨c, false, csw⟩).sets (tWr r nA)).get ida = some ⟨ga, false, vsa⟩ ∧ (∀ q, q ∈ (tWr r nA).map (·.1) → q ≠ io ∧ q < nA + (r.n - nA)) ∧ idX ≠ io ∧ idX ≠ ida ∧ ida < n := by
  have hK := h.ko
  have hnd := hK.ndE
  have hnn := hK.nn
  -- the owned names, those of the two branches ahead
  have hperm : ((ida :: (i1 ++ (ix ++ i3))) ++ ((idb :: (izk ++ izr)) ++ E)).Perm ((ix ++ izk) ++ (ida :: (i1 ++ (i3 ++ (idb :: (izr ++ E)))))) := by
    have hc : ∀ j, List.count j ((ida :: (i1 ++ (ix ++ i3))) ++ ((idb :: (izk ++ izr)) ++ E)) = List.count j ((ix ++ izk) ++ (ida :: (i1 ++ (i3 ++ (idb :: (izr ++ E)))))) := fun j => by
      simp only [List.count_append, List.count_cons]
      omega
    exact List.perm_iff_count.2 hc
  have hnd2 := hnd
  rw [hperm.nodup_iff] at hnd2
  have hEX : ∀ j, j ∈ idX :: iw → j ∈ ix ++ izk ∨ n ≤ j := fun j hj => by
    rcases hX j hj with h1 | h1
    · exact .inl (List.mem_append.2 h1)
    · exact .inr h1.1
  have hlt2 : ∀ j, j ∈ (ix ++ izk) ++ (ida :: (i1 ++ (i3 ++ (idb :: (izr ++ E))))) → j < n := fun j hj => hK.ltE (hperm.mem_iff.2 hj)
  have hnd3 : ((idX :: iw) ++ (ida :: (i1 ++ (i3 ++ (idb :: (izr ++ E)))))).Nodup := nodup_rep (A := []) (B := _) (i2 := ix ++ izk) (i2' := idX :: iw) (n := n) hnd2 hXn hlt2 hEX
  have hXio : ∀ j, j ∈ idX :: iw → j ≠ io ∧ j ≠ idl ∧ j ∉ io1 := fun j hj => by
    rcases hX j hj with h1 | h1
    · have h2 : j ∈ (ida :: (i1 ++ (ix ++ i3))) ++ ((idb :: (izk ++ izr)) ++ E) := hperm.mem_iff.2 (List.mem_append_left _ (List.mem_append.2 h1))
      obtain ⟨_, _, a3, _, a5⟩ := hK.ne
      exact ⟨fun he => a5 (he ▸ h2), fun he => a3 (he ▸ h2), hK.apart h2⟩
    · refine ⟨fun he => ?_, fun he => ?_, fun hi => ?_⟩
      · have := hK.lt io (by simp); omega
      · have := hK.lt idl (by simp); omega
      · have := hK.lt j (by simp [hi]); omega
  have hXown : idX ∈ ids0 ∨ n0 ≤ idX := by
    rcases hX idX (by simp) with h1 | h1
    · exact hK.ownE (hperm.mem_iff.2 (List.mem_append_left _ (List.mem_append.2 h1)))
    · exact .inr (by omega)
  have hK1 := hK.set (k := idX) (n' := nA) (x := ⟨c, false, csw⟩) (hXio idX (by simp)).1 (hXio idX (by simp)).2.1 (hXio idX (by simp)).2.2 hXown hnA
  have hK2 := hK1.reE (E' := (idX :: iw) ++ (ida :: (i1 ++ (i3 ++ (idb :: (izr ++ E)))))) (m := n) hnd3 hK.lt hnn (fun j hj => by
    rcases List.mem_append.1 hj with h1 | h1
    · rcases hX j h1 with h2 | h2
      · exact .inl (hperm.mem_iff.2 (List.mem_append_left _ (List.mem_append.2 h2)))
      · exact .inr h2
    · exact .inl (hperm.mem_iff.2 (List.mem_append_right _ h1)))
  obtain ⟨hK3, hold3⟩ := hK2.call hP (fun j hj => List.mem_append_left _ hj)
  obtain ⟨io', go', co', i', hrv, hcg, hcT, hcnd, hcb⟩ := hP.caller
  have hrn := hP.n
  have hapX : ∀ j, j ∈ ida :: (i1 ++ (i3 ++ (idb :: (izr ++ E)))) → j ∉ idX :: iw := fun j hj hi => by
    rw [List.nodup_append] at hnd3
    exact hnd3.2.2 j hi j hj rfl
  have hltR : ∀ j, j ∈ ida :: (i1 ++ (i3 ++ (idb :: (izr ++ E)))) → j < n := fun j hj => hlt2 j (List.mem_append_right _ hj)
  have hset1 : ∀ j, j ≠ idX → (hp.set idX ⟨c, false, csw⟩).get j = hp.get j := fun j hj => Hp.get_set_ne _ _ _ _ (fun he => hj he.symm)
  have hoR : ∀ j, j ∈ ida :: (i1 ++ (i3 ++ (idb :: (izr ++ E)))) → ((hp.set idX ⟨c, false, csw⟩).sets (tWr r nA)).get j = hp.get j := fun j hj => by
    rw [hold3 j (by have := hltR j hj; omega) (hapX j hj), hset1 j (fun he => hapX j hj (by simp [he]))]
  have hndR : (ida :: (i1 ++ (i3 ++ (idb :: (izr ++ E))))).Nodup := by
    rw [List.nodup_append] at hnd3
    exact hnd3.2.1
  have hidaR : ∀ j, j ∈ i1 ++ (i3 ++ (idb :: (izr ++ E))) → j ≠ ida := fun j hj he => by
    rw [List.nodup_cons] at hndR
    exact hndR.1 (he ▸ hj)
  obtain ⟨_, _, a3, _, a5⟩ := hK3.ne
  have hidaE : ida ∈ (idX :: iw) ++ (ida :: (i1 ++ (i3 ++ (idb :: (izr ++ E))))) := List.mem_append_right _ (List.mem_cons_self ..)
  have hK4 := hK3.set (k := ida) (n' := nA + (r.n - nA)) (x := ⟨ga, false, vsa.set k (.osl io' go' 0 w'.length 12 none)⟩) (fun he => a5 (he ▸ hidaE)) (fun he => a3 (he ▸ hidaE)) (hK3.apart hidaE) (hK3.ownE hidaE) (Nat.le_refl _)
  have hnewX : ∀ j, j ∈ io' :: i' → j ∈ idX :: iw ∨ nA ≤ j := fun j hj => (hcb j hj).1
  have hnd5 : ((io' :: i') ++ (ida :: (i1 ++ (i3 ++ (idb :: (izr ++ E)))))).Nodup := nodup_rep (A := []) (B := _) (i2 := idX :: iw) (i2' := io' :: i') (n := nA) hnd3 hcnd (fun j hj => hK2.ltE hj) hnewX
  have hperm2 : ((ida :: (i1 ++ ((io' :: i') ++ i3))) ++ ((idb :: izr) ++ E)).Perm ((io' :: i') ++ (ida :: (i1 ++ (i3 ++ (idb :: (izr ++ E)))))) := by
    have hc : ∀ j, List.count j ((ida :: (i1 ++ ((io' :: i') ++ i3))) ++ ((idb :: izr) ++ E)) = List.count j ((io' :: i') ++ (ida :: (i1 ++ (i3 ++ (idb :: (izr ++ E)))))) := fun j => by
      simp only [List.count_append, List.count_cons]
      omega
    exact List.perm_iff_count.2 hc
  have hK5 := hK4.reE (E' := (ida :: (i1 ++ ((io' :: i') ++ i3))) ++ ((idb :: izr) ++ E)) (m := nA) (hperm2.nodup_iff.2 hnd5) hK2.lt (by omega) (fun j hj => by
    rcases List.mem_append.1 (hperm2.mem_iff.1 hj) with h1 | h1
    · rcases hnewX j h1 with h2 | h2
      · exact .inl (List.mem_append_left _ h2)
      · exact .inr ⟨h2, by have := (hcb j h1).2; omega⟩
    · exact .inl (List.mem_append_right _ h1))
  have hidaN : ∀ j, j ∈ io' :: i' → j ≠ ida := fun j hj he => by
    rw [List.nodup_append] at hnd5
    exact hnd5.2.2 j hj ida (List.mem_cons_self ..) he
  have hof : ∀ j, j ∈ i1 ++ (i3 ++ (idb :: (izr ++ E))) → (((hp.set idX ⟨c, false, csw⟩).sets (tWr r nA)).set ida ⟨ga, false, vsa.set k (.osl io' go' 0 w'.length 12 none)⟩).get j = hp.get j := fun j hj => by
    rw [Hp.get_set_ne _ _ _ _ (fun he => hidaR j hj he.symm), hoR j (List.mem_cons_of_mem _ hj)]
  refine ⟨io', go', io' :: i', hrv, ⟨hK5, Hp.get_set_self .., ?_, ?_, ?_, ?_⟩, ?_, ?_, (hXio idX (by simp)).1, ?_, hltR ida (by simp)⟩
  · refine hmk _ _ _ (fun j hj => hof j ?_) ?_
    · rcases hj with h1 | h1 <;> simp [h1]
    · refine .osl (cs := co') (by rw [Hp.get_set_ne _ _ _ _ (fun he => hidaN io' (by simp) he.symm)]; exact hcg) (hcT.frame fun j hj => ?_)
      exact Hp.get_set_ne _ _ _ _ (fun he => hidaN j (by simp [hj]) he.symm)
  · rw [hof idb (by simp)]; exact h.gb
  · exact htz.frame fun j hj => hof j (by simp [hj])
  · exact h.tr.frame fun j hj => hof j (by simp [hj])
  · rw [hoR ida (by simp)]; exact h.ga
  · intro q hq
    have hq2 := tWr_keys hP (fun j hj => hK2.ltE (List.mem_append_left _ hj)) hq
    refine ⟨fun he => ?_, by omega⟩
    rcases hq2.1 with h1 | h1
    · exact (hXio q h1).1 he
    · have := hK.lt io (by simp); omega
  · intro he
    exact hapX ida (by simp) (by simp [he])

end Go.Ab
