/- The abstract machine: operations that write memory, or make it. No conditions. -/
import Derived.Test.YtofbmhmdpeclnaaAbEM
import Derived.Laws.Strings
import Derived.Laws.Small
set_option linter.unusedVariables false
set_option linter.unusedSimpArgs false
section
set_option linter.unusedVariables false
set_option linter.unusedSimpArgs false
namespace Go.Ab
variable {P : Program} {S : Nat → Prop} {m : M}

theorem hupd_one (h : Nat → Option Ob) (k : Nat) (o : Ob) : hupd h [(k, o)] = upd h k (some o) := rfl

theorem iss_eq0 (m : M) (c : Nat) {f : Nat → Nat → Prop} (h : f = fun id g => m.iss id g ∨ (c ≤ g ∧ g < c + 0)) : f = m.iss := by rw [h, iss_zero]

theorem storeV_sound {fz : Bool} {i : TI} {t : TypeId} {p x : V} {v y : Value} {r : Res} {c : Nat} (hi : mkTI P t = some i) (h : storeV m.h fz i p x = some r) (hR : Rel S m) (hv : RV S m p v) (hy : RV S m x y) :
    ∃ m', (Instr.storeAt t v y).run P m.w = .ok () m'.w ∧ After S m c r undef m' := by
  unfold storeV at h
  split at h
  · rename_i id g off xs hcx
    split at h
    · rename_i o zs ids hlv hcl
      split at h
      · rename_i hro hlen hle hnot
        simp only [Option.some.injEq] at h; subst h
        obtain ⟨ho, hg, b, base, hat, rfl⟩ := hv.ptr_live hlv
        obtain ⟨ys, hyc, hys, hone⟩ := cellsV_spec hcx hy
        have hlen' := Nat.eq_of_beq_eq_true hlen
        have hle' := Nat.le_of_ble_eq_true hle
        obtain ⟨inf, d, h1, h2, h3, h4, _⟩ := mkTI_spec hi
        -- what is stored becomes data first
        obtain ⟨m1, e1, hb⟩ := ros hR ids
        have hcs := closeVs_sound (S := S) (m := m) (m' := m1) (all := ids) (fun g1 g2 g3 => cl1_sound hR g1 g2 hb g3) hcl hys (fun i hi => hi)
        have hcone := closeVs_one hcl hone
        have hzl := closeVs_length hcl
        have hid : id ∉ ids := by
          intro hmem
          have : ids.any (Nat.beq id) = true := List.any_eq_true.2 ⟨id, hmem, Nat.beq_refl id⟩
          rw [this] at hnot; cases hnot
        have ho1 : m1.h id = some o := (hb.not id hid).trans ho
        have hat1 : m1.at_ id = some (b, base) := by rw [hb.at_]; exact hat
        obtain ⟨hS, cs, T, fz', hrow, hfz, hsz, hc⟩ := hb.rel.obj id o b base ho1 hat1
        have hyl : ys.length = i.size := by rw [← hys.1, hlen']
        have hrun := run_storeCells_mid (P := P) b (base + off) T fz' hfz ys 0 cs m1.w hrow (by omega) (hys.ones hone)
        obtain ⟨m', w1, w2, w3, w4, w5, w6⟩ := write_obj (c := c) (dc := 0) (w' := m1.w.setRow b (splice cs (base + off) ys)) (o' := ⟨g, false, o.cells.take off ++ zs ++ o.cells.drop (off + i.size)⟩)
          hb.rel ho1 hat1 hro hrow rfl (base' := base) (splice_size (by omega)) (by
            rw [splice_size (by omega)]
            simp [hzl, hlen']; omega)
          (.inl ⟨hg.symm, rfl, by simp [hzl, hlen']; omega, rfl⟩) (by
            intro j q hq
            have hget : ∀ (k : Nat) (u : V), o.cells[k]? = some u → u.one = true ∧ ∃ z, cs[base + k]? = some z ∧ RV S m1 u z := hc
            simp only [List.append_assoc] at hq
            rw [List.getElem?_append] at hq
            have htl : (List.take off o.cells).length = off := by simp; omega
            rw [htl] at hq
            split at hq
            · rename_i hj
              rw [List.getElem?_take] at hq; rw [if_pos hj] at hq
              obtain ⟨g1, z, g2, g3⟩ := hget j q hq
              exact ⟨g1, z, by rw [splice_get (by omega)]; rw [if_pos (by omega)]; exact g2, g3⟩
            · rename_i hj
              rw [List.getElem?_append] at hq
              split at hq
              · rename_i hj2
                obtain ⟨z, g1, g2⟩ := hcs.get hq
                refine ⟨List.all_eq_true.1 hcone q (List.mem_of_getElem? hq), z, ?_, g2⟩
                rw [splice_get (by omega), if_neg (by omega), if_pos (by omega), show base + j - (base + off) = j - off by omega]
                exact g1
              · rename_i hj2
                rw [List.getElem?_drop] at hq
                obtain ⟨g1, z, g2, g3⟩ := hget _ q hq
                refine ⟨g1, z, ?_, g3⟩
                rw [splice_get (by omega), if_neg (by omega), if_neg (by omega)]
                rw [← g2]; congr 1; omega)
        refine ⟨m', ?_, w5, hb.evo.trans w6, .undef, ?_, ?_⟩
        · rw [w1]
          simp only [Nat.add_zero] at hrun
          have hcs : y.cells.size = inf.size := by rw [hyc]; simp; omega
          have hw : m.w = m1.w := hb.w.symm
          rw [hw]
          simp [Instr.storeAt, Instr.sureAddr, storeVar, run_sizeOf' h1, hcs, hyc, hrun]
          omega
        · rw [w2, e1, hupd_append]; rfl
        · rw [w4, hb.iss]
      · simp at h
    · simp at h
  · simp at h

/-- A new row. -/
theorem new_sound {n c : Nat} {T : TypeId} {cs : List V} {ys : List Value} (hR : Rel S m) (hf : Fresh m c 1) (hys : RVs S m cs ys) (hone : cs.all V.one = true) :
    ∃ m', (newRow T ys.toArray).run P m.w = .ok ⟨m.w.heap.size, 0, none⟩ m'.w ∧ m'.h = upd m.h n (some ⟨c, false, cs⟩) ∧ m'.at_ n = some (m.w.heap.size, 0) ∧
      m'.iss = (fun i g => m.iss i g ∨ (c ≤ g ∧ g < c + 1)) ∧ Rel S m' ∧ Evo S m m' ∧ ∃ T', m'.w.heap[m.w.heap.size]? = some (Obj.cells ys.toArray T' (0, 0)) := by
  obtain ⟨m', w1, w2, w3, w4, w5, w6⟩ := alloc_obj (id := n) (o' := ⟨c, false, cs⟩) (c := c) (dc := 1) (cs' := ys.toArray) (T := T) (w' := { m.w with heap := m.w.heap.push (Obj.cells ys.toArray T (0, 0)) })
    hR rfl (by simp [hys.1]) (hf n c (Nat.le_refl _) (by omega)) rfl rfl (by
      intro j v hv
      obtain ⟨x, h1, h2⟩ := hys.get hv
      exact ⟨List.all_eq_true.1 hone v (List.mem_of_getElem? hv), x, by simpa using h1, h2⟩)
  refine ⟨m', ?_, w2, by rw [w3]; simp, w4, w5, w6, T, by rw [w1]; simp⟩
  rw [w1]
  simp [newRow]

theorem newV_sound {n c : Nat} {T : TypeId} {cs : List V} {ys : List Value} {r : Res} (h : newV n c cs = some r) (hR : Rel S m) (hf : Fresh m c r.dc) (hys : RVs S m cs ys) (hone : cs.all V.one = true) :
    ∃ m', (newRow T ys.toArray).run P m.w = .ok ⟨m.w.heap.size, 0, none⟩ m'.w ∧ After S m c r (.pointer (some ⟨m.w.heap.size, 0, none⟩)) m' := by
  simp [newV] at h; subst h
  obtain ⟨m', w1, w2, w3, w4, w5, w6, _⟩ := new_sound (P := P) (T := T) hR hf hys hone
  refine ⟨m', w1, w5, w6, .ptr ?_ rfl ?_, by rw [w2]; rfl, w4⟩
  · rw [w4]; exact .inr ⟨Nat.le_refl _, by omega⟩
  · intro o ho hg
    exact ⟨m.w.heap.size, 0, w3, rfl⟩

theorem zero_spec {t : TypeId} {i : TI} {z : List V} (hi : mkTI P t = some i) (hz : i.zero = some z) (w : World) : ∃ v : Value, (zeroValue t).run P w = .ok v w ∧ z = v.cells.toList.map constV1 ∧ (P.info? t).map (·.zero) = some (some v) := by
  obtain ⟨inf, d, h1, h2, h3, h4, h5, h6⟩ := mkTI_spec hi
  rw [hz] at h6
  cases hzz : inf.zero with
  | none => simp [hzz] at h6
  | some v =>
    simp [hzz] at h6
    exact ⟨v, by simp [zeroValue, typeInfo, h1, hzz], h6, by simp [h1, hzz]⟩

theorem alloc_sound {t : TypeId} {i : TI} {z : List V} {r : Res} {n c : Nat} (hi : mkTI P t = some i) (hz : i.zero = some z) (hone : z.all V.one = true) (h : newV n c z = some r) (hR : Rel S m) (hf : Fresh m c r.dc) :
    ∃ x m', (Instr.alloc t true (.tuple #[])).run P m.w = .ok x m'.w ∧ After S m c r x m' := by
  obtain ⟨v, h1, h2, _⟩ := zero_spec hi hz m.w
  obtain ⟨m', w1, w2⟩ := newV_sound (P := P) (T := t) (ys := v.cells.toList) h hR hf (by rw [h2]; exact constVs_RVs _) hone
  refine ⟨_, m', ?_, w2⟩
  simp only [Array.toArray_toList] at w1
  simp [Instr.alloc, h1, newVar, w1]

theorem box_sound {t : TypeId} {x : V} {y : Value} {cs : List V} {r : Res} {n c : Nat} (hc : cellsV x = some cs) (h : newV n c cs = some r) (hR : Rel S m) (hf : Fresh m c r.dc) (hy : RV S m x y) :
    ∃ v m', (Instr.box t y).run P m.w = .ok v m'.w ∧ After S m c r v m' := by
  obtain ⟨ys, h1, h2, h3⟩ := cellsV_spec hc hy
  obtain ⟨m', w1, w2⟩ := newV_sound (P := P) (T := t) (ys := ys) h hR hf h2 h3
  refine ⟨_, m', ?_, w2⟩
  simp [Instr.box, newVar, h1, w1]

/-! ### Filling -/

theorem fill_fold (xs : List Value) : ∀ (off k : Nat) (cs : Array Value), off + k + xs.length ≤ cs.size →
    ((xs.zipIdx k).foldl (fun (cs : Array Value) (p : Value × Nat) => cs.setIfInBounds (off + p.2) p.1) cs).toList = cs.toList.take (off + k) ++ xs ++ cs.toList.drop (off + k + xs.length) := by
  induction xs with
  | nil => intro off k cs h; simp
  | cons x r ih =>
    intro off k cs h
    simp only [List.zipIdx_cons, List.foldl_cons]
    rw [ih off (k + 1) _ (by simp at h ⊢; omega)]
    simp only [List.length_cons] at h ⊢
    apply List.ext_getElem?
    intro j
    simp only [Array.toList_setIfInBounds, List.getElem?_append, List.length_append, List.length_take, List.length_set, Array.length_toList, List.length_cons, List.getElem?_take, List.getElem?_drop, List.getElem?_set]
    by_cases h1 : j < off + k
    · simp [h1, show j < off + (k + 1) by omega, show min (off + (k + 1)) cs.size = off + (k + 1) by omega, show min (off + k) cs.size = off + k by omega, show j < off + k + (r.length + 1) by omega, show ¬ (off + k = j) by omega,
        show j < off + (k + 1) + r.length by omega]
    · by_cases h2 : j = off + k
      · subst h2
        simp [show min (off + (k + 1)) cs.size = off + (k + 1) by omega, show min (off + k) cs.size = off + k by omega, show off + k < off + (k + 1) by omega, show off + k < cs.size by omega, show off + k < off + (k + 1) + r.length by omega,
          show off + k < off + k + (r.length + 1) by omega]
      · simp [h1, show ¬ j < off + (k + 1) by omega, show min (off + (k + 1)) cs.size = off + (k + 1) by omega, show min (off + k) cs.size = off + k by omega, show off + (k + 1) + r.length = off + k + (r.length + 1) by omega,
          show j - (off + k) = (j - (off + (k + 1))) + 1 by omega]
        rw [if_neg (show ¬ (off + k = off + k + (r.length + 1) + (j - (off + k + (r.length + 1)))) by omega)]

theorem fillV_sound {place : Nat → Option (Nat × Nat)} : ∀ {ps : List (Nat × V)} {qs : List (Nat × Value)} {cs cs' : List V} {xs : List Value}, fillV place cs ps = some cs' → RVs S m cs xs → cs.all V.one = true →
    ps.length = qs.length → (∀ (j : Nat) (a : Nat × V) (b : Nat × Value), ps[j]? = some a → qs[j]? = some b → a.1 = b.1 ∧ RV S m a.2 b.2) →
    ∃ ys : List Value, Instr.fill place xs.toArray qs = some ys.toArray ∧ RVs S m cs' ys ∧ cs'.all V.one = true ∧ cs'.length = cs.length
  | [], qs, cs, cs', xs, h, hv, h1, hl, hp => by
    simp [fillV] at h; subst h
    have : qs = [] := List.length_eq_zero_iff.1 (by simp at hl; exact hl.symm)
    subst this
    exact ⟨xs, rfl, hv, h1, rfl⟩
  | (i, x) :: ps, qs, cs, cs', xs, h, hv, h1, hl, hp => by
    cases qs with
    | nil => simp at hl
    | cons q qs =>
      obtain ⟨i', y⟩ := q
      obtain ⟨hi, hxy⟩ := hp 0 (i, x) (i', y) rfl rfl
      simp at hi; subst hi
      simp only [fillV] at h
      split at h
      · rename_i off size us hpl hcx
        split at h
        · rename_i hb1 hb2
          have e1 := Nat.eq_of_beq_eq_true hb1
          have e2 := Nat.le_of_ble_eq_true hb2
          obtain ⟨ys, g1, g2, g3⟩ := cellsV_spec hcx hxy
          have hyl : ys.length = us.length := g2.1.symm
          have hv' : RVs S m (cs.take off ++ us ++ cs.drop (off + us.length)) (xs.take off ++ ys ++ xs.drop (off + ys.length)) := by
            rw [hyl]; exact ((hv.take off).append g2).append (hv.drop _)
          have h1' : (cs.take off ++ us ++ cs.drop (off + us.length)).all V.one = true := by
            rw [List.all_eq_true] at h1 g3 ⊢
            intro z hz
            simp only [List.mem_append] at hz
            rcases hz with (hz | hz) | hz
            · exact h1 z (List.mem_of_mem_take hz)
            · exact g3 z hz
            · exact h1 z (List.mem_of_mem_drop hz)
          obtain ⟨zs, k1, k2, k3, k4⟩ := fillV_sound h hv' h1' (by simpa using hl) (fun j a b ha hb => hp (j + 1) a b (by simpa using ha) (by simpa using hb))
          refine ⟨zs, ?_, k2, k3, by rw [k4]; simp; omega⟩
          have hxl := hv.1
          have hsz : y.cells.size = size := by rw [g1]; simp; omega
          simp only [Instr.fill, hpl]
          rw [if_neg (by rw [hsz]; simp; omega)]
          rw [← k1]
          congr 1
          apply Array.ext'
          have := fill_fold ys off 0 xs.toArray (by simp; omega)
          simp only [Nat.add_zero] at this
          rw [g1]
          simpa using this
        · simp at h
      · simp at h

end Go.Ab
end

section
/- The abstract machine: slices. No conditions. -/
set_option linter.unusedVariables false
set_option linter.unusedSimpArgs false
namespace Go.Ab
variable {P : Program} {S : Nat → Prop} {m : M}

theorem flatten_get {α : Type} (sz : Nat) (h0 : 0 < sz) : ∀ (rows : List (List α)), (∀ r ∈ rows, r.length = sz) → ∀ q, rows.flatten[q]? = (rows[q / sz]?).bind (fun r => r[q % sz]?)
  | [], _, q => by simp
  | r :: rows, h, q => by
    have hr : r.length = sz := h r (by simp)
    simp only [List.flatten_cons, List.getElem?_append, hr]
    split
    · rename_i hq
      rw [Nat.div_eq_of_lt hq, Nat.mod_eq_of_lt hq]; rfl
    · rename_i hq
      rw [flatten_get sz h0 rows (fun r hr => h r (by simp [hr])) (q - sz)]
      have h1 : q / sz = (q - sz) / sz + 1 := by
        rw [show q = (q - sz) + sz by omega, Nat.add_div_right _ h0]; simp
      have h2 : q % sz = (q - sz) % sz := by
        conv => lhs; rw [show q = (q - sz) + sz by omega, Nat.add_mod_right]
      rw [h1, h2]; simp

theorem flatten_len {α : Type} (sz : Nat) : ∀ (rows : List (List α)), (∀ r ∈ rows, r.length = sz) → rows.flatten.length = rows.length * sz
  | [], _ => by simp
  | r :: rows, h => by
    simp only [List.flatten_cons, List.length_append, List.length_cons, h r (by simp), flatten_len sz rows (fun r hr => h r (by simp [hr])), Nat.succ_mul]
    omega

theorem allbeq {rows : List (List D)} {sz : Nat} (h : rows.all (fun r => Nat.beq r.length sz) = true) : ∀ r ∈ rows, r.length = sz :=
  fun r hr => Nat.eq_of_beq_eq_true (List.all_eq_true.1 h r hr)

/-- The elements of a slice, in memory. -/
def Elems (S : Nat → Prop) (m : M) (sz n : Nat) (vs : List V) (v : Value) : Prop :=
  ∃ a k xs, v = .slice a n k ∧ n ≤ k ∧ k ≤ maxLen ∧ RVs S m vs xs ∧ vs.length = n * sz ∧ vs.all V.one = true ∧ (a = none → n = 0) ∧ ∀ p, a = some p → ∀ (j : Nat) (y : Value), xs[j]? = some y → m.w.cell? (p.add j) = some y

theorem all_one_d (l : List D) : (l.map V.d).all V.one = true := by simp [V.one]

theorem rd_elems {rows : List (List D)} {sz : Nat} {v : Value} (h : RD m.w (m.av S) (.slice rows) v) (hsz : ∀ r ∈ rows, r.length = sz) : Elems S m sz rows.length (rows.flatten.map .d) v := by
  cases h with
  | empty a cap hc =>
    exact ⟨a, cap, [], rfl, Nat.zero_le _, hc, .nil, by simp, rfl, (fun _ => rfl), fun p _ j y hy => by simp at hy⟩
  | slice rows b off cap sz' hlen hcap hs f hf hr =>
    by_cases h0 : rows = []
    · subst h0
      exact ⟨some ⟨b, off, none⟩, cap, [], rfl, Nat.zero_le _, hcap, .nil, by simp, rfl, (fun h => by cases h), (fun p _ j y hy => by simp at hy)⟩
    · obtain ⟨r0, rest, rfl⟩ := List.exists_cons_of_ne_nil h0
      have hss : sz' = sz := by rw [← hs 0 r0 rfl]; exact hsz r0 (by simp)
      subst hss
      have hl := flatten_len sz' (r0 :: rest) hsz
      by_cases hz : sz' = 0
      · subst hz
        have : (r0 :: rest).flatten = [] := List.length_eq_zero_iff.1 (by rw [hl]; simp)
        rw [this]
        exact ⟨some ⟨b, off, none⟩, cap, [], rfl, hlen, hcap, .nil, by simp, rfl, (fun h => by cases h), (fun p _ j y hy => by simp at hy)⟩
      · have hpos : 0 < sz' := by omega
        refine ⟨some ⟨b, off, none⟩, cap, (List.range ((r0 :: rest).length * sz')).map (fun q => f (q / sz') (q % sz')), rfl, hlen, hcap, ?_, by simp only [List.length_map, hl], all_one_d _, (fun h => by cases h), ?_⟩
        · refine RVs.map_d (by simp only [List.length_map, List.length_range]; exact hl) fun j d x hd hx => ?_
          have hj : j < (r0 :: rest).length * sz' := by rw [← hl]; exact (List.getElem?_eq_some_iff.1 hd).1
          rw [List.getElem?_map, List.getElem?_range hj] at hx
          simp at hx; subst hx
          rw [flatten_get sz' hpos _ hsz] at hd
          cases hrow : (r0 :: rest)[j / sz']? with
          | none => simp [hrow] at hd
          | some row => simp [hrow] at hd; exact hr _ _ row d hrow hd
        · rintro p hp j y hy
          injection hp with hp; subst hp
          have hj : j < (r0 :: rest).length * sz' := by
            have := (List.getElem?_eq_some_iff.1 hy).1
            simpa using this
          rw [List.getElem?_map, List.getElem?_range hj] at hy
          simp at hy; subst hy
          have h1 : j / sz' < (r0 :: rest).length := Nat.div_lt_of_lt_mul (by rw [Nat.mul_comm]; exact hj)
          have h2 : j % sz' < sz' := Nat.mod_lt _ hpos
          have hrow : (r0 :: rest)[j / sz']? = some (r0 :: rest)[j / sz'] := List.getElem?_eq_getElem h1
          have h2' : j % sz' < ((r0 :: rest)[j / sz']).length := by rw [hsz _ (List.getElem_mem h1)]; exact h2
          have hd : ((r0 :: rest)[j / sz'])[j % sz']? = some (((r0 :: rest)[j / sz'])[j % sz']'h2') := List.getElem?_eq_getElem h2'
          obtain ⟨_, h3⟩ := hf _ _ _ _ hrow hd
          rw [addr_add, ← h3]
          congr 2
          rw [Nat.mul_comm, Nat.div_add_mod]

theorem rowsOf_sound {sz n : Nat} {x : V} {vs : List V} {rd : List Nat} {v : Value} (h : rowsOf m.h sz x = some (n, vs, rd)) (hv : RV S m x v) (hR : Rel S m) :
    ∃ a k, v = .slice a n k ∧ n ≤ k ∧ k ≤ maxLen ∧ ∃ xs, RVs S m vs xs ∧ vs.length = n * sz ∧ vs.all V.one = true ∧ (a = none → n = 0) ∧ ∀ p, a = some p → ∀ (j : Nat) (y : Value), xs[j]? = some y → m.w.cell? (p.add j) = some y := by
  have dcase : ∀ {rows : List (List D)} {v : Value}, RD m.w (m.av S) (.slice rows) v → (∀ r ∈ rows, r.length = sz) →
      ∃ a k, v = .slice a rows.length k ∧ rows.length ≤ k ∧ k ≤ maxLen ∧ ∃ xs, RVs S m (rows.flatten.map .d) xs ∧ (rows.flatten.map V.d).length = rows.length * sz ∧ (rows.flatten.map V.d).all V.one = true ∧ (a = none → rows.length = 0) ∧ ∀ p, a = some p → ∀ (j : Nat) (y : Value), xs[j]? = some y → m.w.cell? (p.add j) = some y := by
    intro rows v hd hsz
    obtain ⟨a, k, xs, h1, h2, h3, h4, h5, h6, h7, h8⟩ := rd_elems (sz := sz) hd hsz
    exact ⟨a, k, h1, h2, h3, xs, h4, h5, h6, h7, h8⟩
  unfold rowsOf at h
  split at h
  · split at h
    · rename_i rows hall
      simp only [Option.some.injEq, Prod.mk.injEq] at h; obtain ⟨rfl, rfl, rfl⟩ := h
      cases hv with
      | d hd => exact dcase hd (allbeq hall)
    · simp at h
  · split at h
    · rename_i rows hall
      simp only [Option.some.injEq, Prod.mk.injEq] at h; obtain ⟨rfl, rfl, rfl⟩ := h
      cases hv with
      | full hd => exact dcase hd (allbeq hall)
    · simp at h
  · rename_i id g off len sz' cap
    split at h
    · rename_i o hl hbeq
      split at h
      · rename_i hble
        simp only [Option.some.injEq, Prod.mk.injEq] at h; obtain ⟨rfl, rfl, rfl⟩ := h
        obtain ⟨ho, _, hok⟩ := hv.osl_live hl
        have hsz : sz = sz' := Nat.eq_of_beq_eq_true hbeq
        have hle : off + len * sz ≤ o.cells.length := Nat.le_of_ble_eq_true hble
        unfold OslOK at hok
        cases hat : m.at_ id with
        | none =>
          simp only [hat] at hok
          obtain ⟨rfl, rfl, rfl, a, rfl⟩ := hok
          have hn := hR.none_ id o ho hat
          exact ⟨a, 0, rfl, Nat.le_refl _, Nat.zero_le _, [], by simp [hn, RVs.nil], by simp [hn], by simp [hn], fun _ => rfl, fun p _ j y hy => by simp at hy⟩
        | some q =>
          obtain ⟨b, base⟩ := q
          simp only [hat] at hok
          obtain ⟨p, k, rfl, hp, h2, h3, h4, _⟩ := hok
          obtain ⟨xs, hxs, hone, hc⟩ := hR.vals ho hat
          have hone' : ((o.cells.drop off).take (len * sz)).all V.one = true := by
            rw [List.all_eq_true] at hone ⊢
            exact fun z hz => hone z (List.mem_of_mem_drop (List.mem_of_mem_take hz))
          refine ⟨some p, k, rfl, h3, h4, (xs.drop off).take (len * sz), (hxs.drop off).take _, by simp; omega, hone', (fun h => by cases h), ?_⟩
          rintro p' hp' j y hy
          injection hp' with hp'; subst hp'
          rw [List.getElem?_take] at hy
          split at hy
          · rename_i hj
            rcases hp with rfl | ⟨rfl, _⟩
            · rw [List.getElem?_drop] at hy
              rw [addr_add, Nat.add_assoc]
              exact hc _ _ hy
            · simp at hj
          · simp at hy
      · simp at h
    · simp at h
  · simp at h

theorem first_run {a : Option Addr} {n k sz : Nat} {xs : List Value} (w : World) (hl : xs.length = n * sz) (hn : a = none → n = 0) (h : ∀ p, a = some p → ∀ (j : Nat) (y : Value), xs[j]? = some y → w.cell? (p.add j) = some y) (n' : Nat) :
    (Builtin.firstCells sz n (.slice a n' k)).run P w = .ok xs.toArray w := by
  cases a with
  | none =>
    have := hn rfl
    subst this
    have : xs = [] := List.length_eq_zero_iff.1 (by simpa using hl)
    subst this
    exact run_firstCells_none w sz 0 n' k
  | some p => exact run_firstCells_some w sz n p n' k xs hl (h p rfl)

theorem run_grow (t ty e : TypeId) (i : TypeInfo) (z : Value) (w : World) (ht : P.underlying t = some (.slice e)) (hi : P.info? e = some i) (hz : i.zero = some z)
    {a b : Option Addr} {sLen sCap n k : Nat} {olds news : List Value} (hlo : olds.length = sLen * i.size) (hln : news.length = n * i.size) (ha : a = none → sLen = 0) (hb : b = none → n = 0)
    (hold : ∀ p, a = some p → ∀ (j : Nat) (y : Value), olds[j]? = some y → w.cell? (p.add j) = some y) (hnew : ∀ p, b = some p → ∀ (j : Nat) (y : Value), news[j]? = some y → w.cell? (p.add j) = some y)
    (hg : sCap < sLen + n) (h1 : 1 ≤ i.bytes) (hfit : (sLen + n) * i.bytes ≤ 140737488355328) :
    (Builtin.append_ #[t, t] ty #[.slice a sLen sCap, .slice b n k]).run P w =
      .ok (.slice (some ⟨w.heap.size, 0, none⟩) (sLen + n) (grownCap w (sLen + n) sCap e))
        (w.drew.alloc (.cells (olds.toArray ++ news.toArray ++ Builtin.zeroCells z.cells (grownCap w (sLen + n) sCap e - (sLen + n))) e)) := by
  have hn : ¬ (sLen + n ≤ sCap) := by omega
  have h48 : ¬ (281474976710656 < Builtin.nextslicecap (sLen + n) sCap * i.bytes) := by have := growslice_fits hg hfit; omega
  have hbz : i.bytes ≠ 0 := by omega
  have hf := first_run (P := P) (k := k) (n' := n) w.drew hln hb (by simpa using hnew)
  have hfo := first_run (P := P) (k := sCap) (n' := sLen) w.drew hlo ha (by simpa using hold)
  simp [Builtin.append_, run_underlying ht, sizeOf, typeInfo, zeroValue, hi, hz, Builtin.lenOf, hn, h48, hbz, Question.forced, hf, hfo, newRow, grownCap]
  congr 2
  apply Array.ext'
  simp [List.append_assoc]

theorem run_inplace_some (t ty e : TypeId) (i : TypeInfo) (w w' : World) (ht : P.underlying t = some (.slice e)) (hi : P.info? e = some i)
    {p : Addr} {b : Option Addr} {sLen sCap n k : Nat} {news : List Value} (hln : news.length = n * i.size) (hb : b = none → n = 0)
    (hnew : ∀ p, b = some p → ∀ (j : Nat) (y : Value), news[j]? = some y → w.cell? (p.add j) = some y) (hg : sLen + n ≤ sCap)
    (hst : (storeCells (p.add (sLen * i.size)) news).run P w = .ok () w') :
    (Builtin.append_ #[t, t] ty #[.slice (some p) sLen sCap, .slice b n k]).run P w = .ok (.slice (some p) (sLen + n) sCap) w' := by
  have hf := first_run (P := P) (k := k) (n' := n) w hln hb hnew
  simp [Builtin.append_, run_underlying ht, sizeOf, typeInfo, hi, Builtin.lenOf, hg, hf, hst]

theorem run_inplace_none (t ty e : TypeId) (i : TypeInfo) (w : World) (ht : P.underlying t = some (.slice e)) (hi : P.info? e = some i)
    {b : Option Addr} {k : Nat} : (Builtin.append_ #[t, t] ty #[.slice none 0 0, .slice b 0 k]).run P w = .ok (.slice none 0 0) w := by
  have hf : (Builtin.firstCells i.size 0 (.slice b 0 k)).run P w = .ok #[] w := by
    have := first_run (P := P) (a := b) (n := 0) (k := k) (sz := i.size) (xs := []) w (by simp) (fun _ => rfl) (fun p _ j y hy => by simp at hy) 0
    simpa using this
  simp [Builtin.append_, run_underlying ht, sizeOf, typeInfo, hi, Builtin.lenOf, hf]

theorem grown_le (w : World) {need old : Nat} {e : TypeId} (h : need < 2 ^ 63) : need ≤ grownCap w need old e ∧ grownCap w need old e ≤ maxLen := by
  unfold grownCap Question.cut maxLen
  have : w.tape w.drawn (.appendCap need old e) % (2 ^ 63 - need) < 2 ^ 63 - need := Nat.mod_lt _ (by omega)
  constructor
  · exact Nat.le_add_right _ _
  · show need + _ ≤ _
    omega

theorem zeroCells_size (z : Array Value) (n : Nat) : (Builtin.zeroCells z n).size = n * z.size := by simp [Builtin.zeroCells]

theorem fitsB_spec {n by_ : Nat} (h : fitsB n by_ = true) : 1 ≤ by_ ∧ n * by_ ≤ 140737488355328 ∧ n ≤ 140737488355328 := by
  simp only [fitsB, Bool.and_eq_true] at h
  have h1 := Nat.le_of_ble_eq_true h.1
  have h2 := Nat.le_of_ble_eq_true h.2
  refine ⟨h1, h2, ?_⟩
  have : n * 1 ≤ n * by_ := Nat.mul_le_mul_left _ h1
  omega

/-- A slice grows into a new row. -/
theorem grow_obj {id c sz n0 n1 by_ : Nat} {t ty e : TypeId} {i : TypeInfo} {z : Value} {a b : Option Addr} {sCap k : Nat} {vs us : List V} {xs ys : List Value} (hR : Rel S m)
    (ht : P.underlying t = some (.slice e)) (hi : P.info? e = some i) (hz : i.zero = some z) (hsz : i.size = sz) (hzs : z.cells.size = sz) (hby : i.bytes = by_) (hfit : fitsB (n0 + n1) by_ = true)
    (hvs : RVs S m vs xs) (hus : RVs S m us ys) (hl0 : vs.length = n0 * sz) (hl1 : us.length = n1 * sz) (ho0 : vs.all V.one = true) (ho1 : us.all V.one = true)
    (ha : a = none → n0 = 0) (hb : b = none → n1 = 0)
    (hca : ∀ p, a = some p → ∀ (j : Nat) (y : Value), xs[j]? = some y → m.w.cell? (p.add j) = some y) (hcb : ∀ p, b = some p → ∀ (j : Nat) (y : Value), ys[j]? = some y → m.w.cell? (p.add j) = some y)
    (hg : sCap < n0 + n1) (hiss : ¬ m.iss id c) :
    ∃ x m', (Builtin.append_ #[t, t] ty #[.slice a n0 sCap, .slice b n1 k]).run P m.w = .ok x m'.w ∧ Rel S m' ∧ Evo S m m' ∧ RV S m' (.osl id c 0 (n0 + n1) sz none) x ∧ m'.h = upd m.h id (some ⟨c, false, vs ++ us⟩) ∧
      m'.iss = (fun i g => m.iss i g ∨ (c ≤ g ∧ g < c + 1)) := by
  obtain ⟨hb1, hb2, hb3⟩ := fitsB_spec hfit
  have hrun := run_grow (P := P) t ty e i z m.w ht hi hz (a := a) (b := b) (sLen := n0) (sCap := sCap) (n := n1) (k := k) (olds := xs) (news := ys) (by rw [hsz, ← hl0, hvs.1]) (by rw [hsz, ← hl1, hus.1]) ha hb hca hcb hg (by omega) (by rw [hby]; exact hb2)
  obtain ⟨hcap1, hcap2⟩ := grown_le m.w (need := n0 + n1) (old := sCap) (e := e) (by omega)
  have hxl : xs.length = n0 * sz := by rw [← hvs.1, hl0]
  have hyl : ys.length = n1 * sz := by rw [← hus.1, hl1]
  have hsum : (n0 + n1) * sz = n0 * sz + n1 * sz := Nat.add_mul _ _ _
  obtain ⟨m', w1, w2, w3, w4, w5, w6⟩ := alloc_obj (id := id) (o' := ⟨c, false, vs ++ us⟩) (c := c) (dc := 1) (T := e)
    (cs' := xs.toArray ++ ys.toArray ++ Builtin.zeroCells z.cells (grownCap m.w (n0 + n1) sCap e - (n0 + n1)))
    (w' := m.w.drew.alloc (.cells (xs.toArray ++ ys.toArray ++ Builtin.zeroCells z.cells (grownCap m.w (n0 + n1) sCap e - (n0 + n1))) e)) hR rfl
    (by simp [zeroCells_size, hvs.1, hus.1]) hiss rfl rfl (by
      intro j v hv
      obtain ⟨y, h1, h2⟩ := (hvs.append hus).get hv
      have h3 : (vs ++ us).all V.one = true := by rw [List.all_append, ho0, ho1]; rfl
      refine ⟨List.all_eq_true.1 h3 v (List.mem_of_getElem? hv), y, ?_, h2⟩
      have hj : j < xs.length + ys.length := by
        have := (List.getElem?_eq_some_iff.1 h1).1
        simpa using this
      have e1 : (xs.toArray ++ ys.toArray)[j]? = some y := by
        rw [show xs.toArray ++ ys.toArray = (xs ++ ys).toArray by simp]; simpa using h1
      rw [Array.getElem?_append]
      rw [if_pos (by simp; omega)]
      exact e1)
  refine ⟨_, m', by rw [w1]; exact hrun, w5, w6, ?_, w2, w4⟩
  refine .osl (by rw [w4]; exact .inr ⟨Nat.le_refl _, by omega⟩) rfl fun o ho hgen => ?_
  rw [w2] at ho; simp at ho; subst ho
  unfold OslOK
  rw [w3]
  simp only [upd_same]
  refine ⟨_, _, rfl, .inl rfl, by simp [hl0, hl1]; omega, hcap1, hcap2, ⟨_, e, (0, 0), by rw [w1]; simp only [World.alloc]; exact Array.getElem?_push_size, ?_⟩, trivial⟩
  simp [zeroCells_size, hzs, hxl, hyl]
  have : (grownCap m.w (n0 + n1) sCap e - (n0 + n1)) * sz + (n0 + n1) * sz = grownCap m.w (n0 + n1) sCap e * sz := by rw [← Nat.add_mul]; congr 1; omega
  omega

end Go.Ab
end

section
/- The abstract machine: append, copy, make, slicing, indexing. No conditions. -/
set_option linter.unusedVariables false
set_option linter.unusedSimpArgs false
namespace Go.Ab
variable {P : Program} {S : Nat → Prop} {m : M}

theorem setRow_self {w : World} {b : Nat} {cs : Array Value} {T : TypeId} {fz : Nat × Nat} (h : w.heap[b]? = some (Obj.cells cs T fz)) : w.setRow b cs = w := by
  have := run_storeCells_mid (P := default) b 0 T fz
  have hlt : b < w.heap.size := (Array.getElem?_eq_some_iff.1 h).1
  have hv : w.heap[b] = .cells cs T fz := (Array.getElem?_eq_some_iff.1 h).2
  unfold World.setRow
  cases w with
  | mk heap tape drawn os output =>
    congr 1
    apply Array.ext
    · simp
    · intro k h1 h2
      simp only [Array.getElem_modify]
      split
      · rename_i hk; subst hk; simp at hv; simp [hv]
      · rfl

theorem appendV_sound {n c : Nat} {t ty : TypeId} {i : TI} {s x : V} {r : Res} {v y : Value} (hi : mkTI P t = some i) (h : appendV m.h n c i s x = some r) (hR : Rel S m) (hf : Fresh m c r.dc)
    (hv : RV S m s v) (hy : RV S m x y) : ∃ z m', (Builtin.append_ #[t, t] ty #[v, y]).run P m.w = .ok z m'.w ∧ After S m c r z m' := by
  obtain ⟨inf, d, h1, h2, h3, _⟩ := mkTI_spec hi
  unfold appendV at h
  split at h
  · rename_i e sz by_ hk
    rw [hk] at h3
    obtain ⟨rfl, j, hj, hjs, hjb⟩ := mkTK_slice h3
    split at h
    · rename_i mm xs rx hrows
      obtain ⟨b, kb, rfl, hb1, hb2, ys, hys, hyl, hyo, hyn, hyc⟩ := rowsOf_sound hrows hy hR
      have hysl : ys.length = mm * sz := by rw [← hys.1, hyl]
      split at h
      · -- a slice of which nothing is left
        rename_i rows
        split at h
        · rename_i hall hfit hne
          simp only [Option.some.injEq] at h; subst h
          obtain ⟨a, ka, hva, ha1, ha2, xa, hxa, hxl, hxo, hxn, hxc⟩ := rowsOf_sound (sz := sz) (n := rows.length) (vs := rows.flatten.map .d) (rd := []) (by simp only [rowsOf]; rw [if_pos hall]) hv hR
          have hka : ka = rows.length := by
            cases hv with
            | full hd => simp at hva; exact hva.2.symm
          subst hka
          subst hva
          obtain ⟨hb, z, hz, hzs⟩ := hjb (fitsB_spec hfit).1
          by_cases hm : mm = 0
          · subst hm
            have hr0 : rows = [] := by simpa [Nat.blt] using hne
            subst hr0
            have hys0 : ys = [] := List.length_eq_zero_iff.1 (by rw [hysl]; simp)
            have hxs0 : xs = [] := List.length_eq_zero_iff.1 (by rw [hyl]; simp)
            subst hys0; subst hxs0
            obtain ⟨m', w1, w2, w3, w4, w5, w6⟩ := virt_obj (id := n) (o' := ⟨c, false, []⟩) (c := c) (dc := 1) hR rfl (hf n c (Nat.le_refl _) (by simp)) rfl rfl
            refine ⟨.slice a 0 0, m', ?_, w5, w6, ?_, by rw [w2]; rfl, w4⟩
            · cases a with
              | none => rw [w1]; simp only [List.length_nil]; exact run_inplace_none t ty e j m.w h2 hj
              | some p =>
                rw [w1]
                exact run_inplace_some t ty e j m.w m.w h2 hj (p := p) (sLen := 0) (sCap := 0) (n := 0) (news := []) (by simp) (fun _ => rfl) (fun _ _ j y hy => by simp at hy) (Nat.le_refl _) (by simp [storeCells])
            · refine .osl (by rw [w4]; exact .inr ⟨Nat.le_refl _, by omega⟩) rfl fun o ho hg => ?_
              unfold OslOK
              rw [w3]
              simp
          · obtain ⟨z', m', g1, g2, g3, g4, g5, g6⟩ := grow_obj (id := n) (c := c) (sz := sz) (n0 := rows.length) (n1 := mm) (by_ := by_) (t := t) (ty := ty) (e := e) (i := j) (z := z) (a := a) (b := b) (sCap := rows.length) (k := kb) hR h2 hj hz hjs hzs hb hfit
              hxa hys hxl hyl hxo hyo hxn hyn hxc hyc (by omega) (hf n c (Nat.le_refl _) (by simp))
            exact ⟨z', m', g1, g2, g3, g4, by rw [g5]; rfl, g6⟩
        · simp at h
      · rename_i id g off len sz' cap
        split at h
        · rename_i o hl hbeq
          have hsz' : sz = sz' := Nat.eq_of_beq_eq_true hbeq
          subst hsz'
          split at h
          · rename_i hfit hle
            have hle' := Nat.le_of_ble_eq_true hle
            obtain ⟨hb, z, hz, hzs⟩ := hjb (fitsB_spec hfit).1
            obtain ⟨ho, hgen, hok⟩ := hv.osl_live hl
            obtain ⟨a, ka, hva, ha1, ha2, xa, hxa, hxl, hxo, hxn, hxc⟩ := rowsOf_sound (sz := sz) (n := len) (vs := (o.cells.drop off).take (len * sz)) (rd := [id]) (by simp only [rowsOf, hl, hbeq, hle]) hv hR
            have hsum : (len + mm) * sz = len * sz + mm * sz := Nat.add_mul _ _ _
            -- in place
            have inplace : ∀ (b0 base : Nat) (p : Addr) (k : Nat) (cs : Array Value) (T : TypeId) (fz : Nat × Nat), m.w.heap[b0]? = some (Obj.cells cs T fz) → fz.2 ≤ fz.1 → v = .slice (some p) len k → (p = ⟨b0, base + off, none⟩ ∨ (len = 0 ∧ k = 0)) →
                len + mm ≤ k → base + off + (len + mm) * sz ≤ cs.size → (Builtin.append_ #[t, t] ty #[v, .slice b mm kb]).run P m.w = .ok (.slice (some p) (len + mm) k) (m.w.setRow b0 (splice cs (base + off + len * sz) ys)) := by
              intro b0 base p k cs T fz hrow hfz hvp hp hle2 hbound
              subst hvp
              refine run_inplace_some t ty e j m.w _ h2 hj (by rw [hjs, hysl]) hyn hyc hle2 ?_
              rw [hjs]
              rcases hp with rfl | ⟨rfl, rfl⟩
              · have := run_storeCells_mid (P := P) b0 (base + off + len * sz) T fz hfz ys 0 cs m.w hrow (by omega) (hys.ones hyo)
                rw [addr_add]
                simpa using this
              · have hm0 : mm = 0 := by omega
                subst hm0
                have : ys = [] := List.length_eq_zero_iff.1 (by rw [hysl]; simp)
                subst this
                simp only [storeCells, splice, List.length_nil, Nat.add_zero, List.append_nil, List.take_append_drop, Array.toArray_toList]
                rw [setRow_self hrow]
                rfl
            split at h
            · -- the capacity is known
              rename_i q
              split at h
              · rename_i hq hro hlq
                simp only [Option.some.injEq] at h; subst h
                have hq' := Nat.le_of_ble_eq_true hq
                have hlq' := Nat.le_of_ble_eq_true hlq
                unfold OslOK at hok
                cases hat : m.at_ id with
                | none => simp [hat] at hok
                | some bb =>
                  obtain ⟨b0, base⟩ := bb
                  simp only [hat] at hok
                  obtain ⟨p, k, hvp, hp, k2, k3, k4, ⟨cs, T, fz, k5, k6⟩, k7, k8⟩ := hok
                  subst k7
                  obtain ⟨hS, cs0, T0, fz0, hrow, hfz, hsz, hc⟩ := hR.obj id o b0 base ho hat
                  have hmul : (len + mm) * sz ≤ k * sz := Nat.mul_le_mul_right _ hq'
                  have hrun := inplace b0 base p k cs0 T0 fz0 hrow hfz hvp hp hq' (by omega)
                  have hspl : (splice cs0 (base + off + len * sz) ys).size = cs0.size := splice_size (by omega)
                  obtain ⟨m', w1, w2, w3, w4, w5, w6⟩ := write_obj (c := c) (dc := 0) (w' := m.w.setRow b0 (splice cs0 (base + off + len * sz) ys))
                    (o' := ⟨g, false, o.cells.take (off + len * sz) ++ xs ++ o.cells.drop (off + (len + mm) * sz)⟩) hR ho hat hro hrow rfl (base' := base) hspl (by
                      rw [hspl]; simp [hyl]; omega) (.inl ⟨hgen.symm, rfl, by simp [hyl]; omega, rfl⟩) (by
                      intro jj u hu
                      simp only [List.append_assoc] at hu
                      rw [List.getElem?_append] at hu
                      have htl : (List.take (off + len * sz) o.cells).length = off + len * sz := by simp; omega
                      rw [htl] at hu
                      split at hu
                      · rename_i hjj
                        rw [List.getElem?_take] at hu; rw [if_pos hjj] at hu
                        obtain ⟨q1, y1, q2, q3⟩ := hc jj u hu
                        exact ⟨q1, y1, by rw [splice_get (by omega), if_pos (by omega)]; exact q2, q3⟩
                      · rename_i hjj
                        rw [List.getElem?_append] at hu
                        split at hu
                        · rename_i hjj2
                          obtain ⟨y1, q1, q2⟩ := hys.get hu
                          refine ⟨List.all_eq_true.1 hyo u (List.mem_of_getElem? hu), y1, ?_, q2⟩
                          rw [splice_get (by omega), if_neg (by omega), if_pos (by omega), show base + jj - (base + off + len * sz) = jj - (off + len * sz) by omega]
                          exact q1
                        · rename_i hjj2
                          rw [List.getElem?_drop] at hu
                          obtain ⟨q1, y1, q2, q3⟩ := hc _ u hu
                          refine ⟨q1, y1, ?_, q3⟩
                          rw [splice_get (by omega), if_neg (by omega), if_neg (by omega), ← q2]
                          congr 1; omega)
                  refine ⟨_, m', by rw [w1]; exact hrun, w5, w6, ?_, by rw [w2]; rfl, w4⟩
                  refine .osl (by rw [w4]; cases hv with | osl hi _ _ => exact .inl hi) rfl fun o2 ho2 hg2 => ?_
                  rw [w2] at ho2; simp at ho2; subst ho2
                  unfold OslOK
                  rw [w3]
                  simp only [upd_same]
                  refine ⟨p, k, rfl, ?_, by simp [hyl]; omega, hq', k4, ⟨_, T0, fz0, by rw [w1]; exact setRow_heap m.w b0 cs0 _ T0 fz0 hrow, ?_⟩, rfl, by simp [hyl]; omega⟩
                  · rcases hp with hp | ⟨_, hp⟩
                    · exact .inl hp
                    · exact .inr ⟨by omega, hp⟩
                  · rw [hspl]
                    rw [hrow] at k5
                    injection k5 with k5; injection k5 with k5 _ _; subst k5
                    exact k6
              · rename_i hq
                simp only [Option.some.injEq] at h; subst h
                have hq' : q < len + mm := by
                  rcases Nat.lt_or_ge q (len + mm) with h' | h'
                  · exact h'
                  · have := Nat.ble_eq_true_of_le h'; rw [hq] at this; cases this
                have hka : ka = q := by
                  unfold OslOK at hok
                  cases hat : m.at_ id with
                  | none => simp [hat] at hok
                  | some bb =>
                    obtain ⟨b0, base⟩ := bb
                    simp only [hat] at hok
                    obtain ⟨p, k, hvp, hp, k2, k3, k4, _, k7, k8⟩ := hok
                    subst k7
                    rw [hva] at hvp
                    simp at hvp; exact hvp.2
                subst hva
                subst hka
                obtain ⟨z', m', g1, g2, g3, g4, g5, g6⟩ := grow_obj (id := n) (c := c) (sz := sz) (n0 := len) (n1 := mm) (by_ := by_) (t := t) (ty := ty) (e := e) (i := j) (z := z) (a := a) (b := b) (sCap := ka) (k := kb) hR h2 hj hz hjs hzs hb hfit
                  hxa hys hxl hyl hxo hyo hxn hyn hxc hyc hq' (hf n c (Nat.le_refl _) (by simp))
                exact ⟨z', m', g1, g2, g3, g4, by rw [g5]; rfl, g6⟩
              · simp at h
            · -- the capacity is open
              split at h
              · rename_i hro
                simp only [Option.some.injEq] at h; subst h
                have hiss : ¬ m.iss id c := hf id c (Nat.le_refl _) (by simp)
                have grows : ka < len + mm → ∃ z' m', (Builtin.append_ #[t, t] ty #[v, .slice b mm kb]).run P m.w = .ok z' m'.w ∧ After S m c ⟨.osl id c 0 (len + mm) sz none, [(id, ⟨c, false, (o.cells.drop off).take (len * sz) ++ xs⟩)], id :: rx, 0, 1, false⟩ z' m' := by
                  intro hgt
                  obtain ⟨z', m', g1, g2, g3, g4, g5, g6⟩ := grow_obj (id := id) (c := c) (sz := sz) (n0 := len) (n1 := mm) (by_ := by_) (t := t) (ty := ty) (e := e) (i := j) (z := z) (a := a) (b := b) (sCap := ka) (k := kb) hR h2 hj hz hjs hzs hb hfit
                    hxa hys hxl hyl hxo hyo hxn hyn hxc hyc hgt hiss
                  exact ⟨z', m', by rw [hva]; exact g1, g2, g3, g4, by rw [g5]; rfl, g6⟩
                by_cases hgt : ka < len + mm
                · exact grows hgt
                · unfold OslOK at hok
                  cases hat : m.at_ id with
                  | none =>
                    simp only [hat] at hok
                    obtain ⟨rfl, rfl, _, a', hva'⟩ := hok
                    have hka0 : ka = 0 := by rw [hva] at hva'; simp at hva'; exact hva'.2
                    subst hka0
                    have hm0 : mm = 0 := by omega
                    subst hm0
                    have hys0 : ys = [] := List.length_eq_zero_iff.1 (by rw [hysl]; simp)
                    have hxs0 : xs = [] := List.length_eq_zero_iff.1 (by rw [hyl]; simp)
                    subst hys0; subst hxs0
                    obtain ⟨m', w1, w2, w3, w4, w5, w6⟩ := virt_obj (id := id) (o' := ⟨c, false, (o.cells.drop 0).take (0 * sz) ++ []⟩) (c := c) (dc := 1) hR (by simp) hiss rfl rfl
                    refine ⟨.slice a 0 0, m', ?_, w5, w6, ?_, by rw [w2]; rfl, w4⟩
                    · rw [hva, w1]
                      cases a with
                      | none => exact run_inplace_none t ty e j m.w h2 hj
                      | some p => exact run_inplace_some t ty e j m.w m.w h2 hj (p := p) (sLen := 0) (sCap := 0) (n := 0) (news := []) (by simp) (fun _ => rfl) (fun _ _ j y hy => by simp at hy) (Nat.le_refl _) (by simp [storeCells])
                    · refine .osl (by rw [w4]; exact .inr ⟨Nat.le_refl _, by omega⟩) rfl fun o2 ho2 hg2 => ?_
                      unfold OslOK
                      rw [w3]
                      simp
                  | some bb =>
                    obtain ⟨b0, base⟩ := bb
                    simp only [hat] at hok
                    obtain ⟨p, k, hvp, hp, k2, k3, k4, ⟨cs, T, fz, k5, k6⟩, _⟩ := hok
                    have hkk : ka = k := by rw [hva] at hvp; simp at hvp; exact hvp.2
                    subst hkk
                    obtain ⟨hS, cs0, T0, fz0, hrow, hfz, hsz, hc⟩ := hR.obj id o b0 base ho hat
                    rw [hrow] at k5
                    injection k5 with k5; injection k5 with k5 _ _; subst k5
                    have hmul : (len + mm) * sz ≤ ka * sz := Nat.mul_le_mul_right _ (by omega)
                    have hrun := inplace b0 base p ka cs0 T0 fz0 hrow hfz hvp hp (by omega) (by omega)
                    have hspl : (splice cs0 (base + off + len * sz) ys).size = cs0.size := splice_size (by omega)
                    obtain ⟨m', w1, w2, w3, w4, w5, w6⟩ := write_obj (c := c) (dc := 1) (w' := m.w.setRow b0 (splice cs0 (base + off + len * sz) ys))
                      (o' := ⟨c, false, (o.cells.drop off).take (len * sz) ++ xs⟩) hR ho hat hro hrow rfl (base' := base + off) hspl (by
                        rw [hspl]; simp [hyl]; omega) (.inr ⟨hiss, rfl, rfl⟩) (by
                        intro jj u hu
                        rw [List.getElem?_append] at hu
                        have htl : (List.take (len * sz) (List.drop off o.cells)).length = len * sz := by simp; omega
                        rw [htl] at hu
                        split at hu
                        · rename_i hjj
                          rw [List.getElem?_take, if_pos hjj, List.getElem?_drop] at hu
                          obtain ⟨q1, y1, q2, q3⟩ := hc _ u hu
                          refine ⟨q1, y1, ?_, q3⟩
                          rw [splice_get (by omega), if_pos (by omega), ← q2]
                          congr 1; omega
                        · rename_i hjj
                          obtain ⟨y1, q1, q2⟩ := hys.get hu
                          have hjl : jj - len * sz < ys.length := (List.getElem?_eq_some_iff.1 q1).1
                          refine ⟨List.all_eq_true.1 hyo u (List.mem_of_getElem? hu), y1, ?_, q2⟩
                          rw [splice_get (by omega), if_neg (by omega), if_pos (by omega), show base + off + jj - (base + off + len * sz) = jj - len * sz by omega]
                          exact q1)
                    refine ⟨_, m', by rw [w1]; exact hrun, w5, w6, ?_, by rw [w2]; rfl, w4⟩
                    refine .osl (by rw [w4]; exact .inr ⟨Nat.le_refl _, by omega⟩) rfl fun o2 ho2 hg2 => ?_
                    rw [w2] at ho2; simp at ho2; subst ho2
                    unfold OslOK
                    rw [w3]
                    simp only [upd_same]
                    refine ⟨p, ka, rfl, ?_, by simp [hyl]; omega, by omega, k4, ⟨_, T0, fz0, by rw [w1]; exact setRow_heap m.w b0 cs0 _ T0 fz0 hrow, ?_⟩, trivial⟩
                    · rcases hp with hp | ⟨_, hp⟩
                      · exact .inl (by rw [hp, Nat.add_zero])
                      · exact .inr ⟨by omega, hp⟩
                    · rw [hspl]; omega
              · simp at h
          · simp at h
        · simp at h
      · simp at h
    · simp at h
  · simp at h

end Go.Ab
end

section
/- The abstract machine: copy, make, slicing, indexing, composite values. No conditions. -/
set_option linter.unusedVariables false
set_option linter.unusedSimpArgs false
namespace Go.Ab
variable {P : Program} {S : Nat → Prop} {m : M}

theorem copyV_sound {t ty : TypeId} {i : TI} {s x : V} {r : Res} {v y : Value} {c : Nat} (hi : mkTI P t = some i) (h : copyV m.h i s x = some r) (hR : Rel S m)
    (hv : RV S m s v) (hy : RV S m x y) : ∃ z m', (Builtin.copy_ #[t, t] ty #[v, y]).run P m.w = .ok z m'.w ∧ After S m c r z m' := by
  obtain ⟨inf, d, h1, h2, h3, _⟩ := mkTI_spec hi
  unfold copyV at h
  split at h
  · rename_i e sz by_ id g off len sz' cap hk
    rw [hk] at h3
    obtain ⟨rfl, j, hj, hjs, hjb⟩ := mkTK_slice h3
    split at h
    · rename_i mm xs rx o hrows hl hbeq
      split at h
      · rename_i hro hle
        simp only [Option.some.injEq] at h; subst h
        have hsz' : sz = sz' := Nat.eq_of_beq_eq_true hbeq
        subst hsz'
        have hle' := Nat.le_of_ble_eq_true hle
        obtain ⟨b, kb, rfl, hb1, hb2, ys, hys, hyl, hyo, hyn, hyc⟩ := rowsOf_sound hrows hy hR
        have hysl : ys.length = mm * sz := by rw [← hys.1, hyl]
        obtain ⟨ho, hgen, hok⟩ := hv.osl_live hl
        have hmin : min mm len * sz ≤ mm * sz := Nat.mul_le_mul_right _ (Nat.min_le_left _ _)
        have hmin2 : min mm len * sz ≤ len * sz := Nat.mul_le_mul_right _ (Nat.min_le_right _ _)
        have hfirst : (Builtin.firstCells sz (min mm len) (.slice b mm kb)).run P m.w = .ok (ys.take (min mm len * sz)).toArray m.w := by
          refine first_run (P := P) m.w (by simp; omega) (fun hb => by have := hyn hb; omega) (fun p hp jj yy hjj => ?_) mm
          rw [List.getElem?_take] at hjj
          split at hjj
          · exact hyc p hp jj yy hjj
          · simp at hjj
        have hnat : Nat.min mm len = min mm len := rfl
        unfold OslOK at hok
        cases hat : m.at_ id with
        | none =>
          simp only [hat] at hok
          obtain ⟨rfl, rfl, _, a, rfl⟩ := hok
          have hn := hR.none_ id o ho hat
          have hid : (⟨g, false, o.cells.take 0 ++ xs.take (min mm 0 * sz) ++ o.cells.drop (0 + min mm 0 * sz)⟩ : Ob) = o := by
            cases o; simp at hn hgen hro; subst hn; subst hgen; subst hro; simp
          have e0 : min mm 0 = 0 := by omega
          rw [e0]
          refine ⟨goInt 0, m, ?_, hR, .refl S m, .d (.int .i64 0), ?_, (iss_zero m c).symm⟩
          · have hf0 : (Builtin.firstCells sz 0 (.slice b mm kb)).run P m.w = .ok #[] m.w := by simpa using hfirst
            have hn0 : mm.min 0 = 0 := e0
            cases a with
            | none => simp [Builtin.copy_, run_underlying h2, Builtin.lenOf, sizeOf, typeInfo, hj, hjs, hn0, hf0]
            | some p =>
              have hst : (storeCells p [] 0).run P m.w = .ok () m.w := rfl
              simp [Builtin.copy_, run_underlying h2, Builtin.lenOf, sizeOf, typeInfo, hj, hjs, hn0, hf0, hst]
          · show m.h = upd m.h id (some _)
            rw [e0] at hid
            rw [hid]; funext q; unfold upd; split
            · rename_i hq; rw [hq]; exact ho
            · rfl
        | some bb =>
          obtain ⟨b0, base⟩ := bb
          simp only [hat] at hok
          obtain ⟨p, k, rfl, hp, k2, k3, k4, ⟨cs, T, fz, k5, k6⟩, k7⟩ := hok
          obtain ⟨hS, cs0, T0, fz0, hrow, hfz, hsz, hc⟩ := hR.obj id o b0 base ho hat
          have htk : (ys.take (min mm len * sz)).length = min mm len * sz := by simp; omega
          have hst : (storeCells p (ys.take (min mm len * sz)) 0).run P m.w = .ok () (m.w.setRow b0 (splice cs0 (base + off) (ys.take (min mm len * sz)))) := by
            rcases hp with rfl | ⟨rfl, rfl⟩
            · have := run_storeCells_mid (P := P) b0 (base + off) T0 fz0 hfz (ys.take (min mm len * sz)) 0 cs0 m.w hrow (by omega) (fun v hv => (hys.ones hyo) v (List.mem_of_mem_take hv))
              simpa using this
            · have : (ys.take (min mm 0 * sz)) = [] := by simp
              rw [this]
              simp only [storeCells, splice, List.length_nil, Nat.add_zero, List.append_nil, List.take_append_drop, Array.toArray_toList]
              rw [setRow_self hrow]; rfl
          have hspl : (splice cs0 (base + off) (ys.take (min mm len * sz))).size = cs0.size := splice_size (by omega)
          have hxt := hys.take (min mm len * sz)
          obtain ⟨m', w1, w2, w3, w4, w5, w6⟩ := write_obj (c := c) (dc := 0) (w' := m.w.setRow b0 (splice cs0 (base + off) (ys.take (min mm len * sz))))
            (o' := ⟨g, false, o.cells.take off ++ xs.take (min mm len * sz) ++ o.cells.drop (off + min mm len * sz)⟩) hR ho hat hro hrow rfl (base' := base) hspl (by
              rw [hspl]; simp [hyl]; omega) (.inl ⟨hgen.symm, rfl, by simp [hyl]; omega, rfl⟩) (by
              intro jj u hu
              simp only [List.append_assoc] at hu
              rw [List.getElem?_append] at hu
              have htl : (List.take off o.cells).length = off := by simp; omega
              rw [htl] at hu
              split at hu
              · rename_i hjj
                rw [List.getElem?_take, if_pos hjj] at hu
                obtain ⟨q1, y1, q2, q3⟩ := hc jj u hu
                exact ⟨q1, y1, by rw [splice_get (by omega), if_pos (by omega)]; exact q2, q3⟩
              · rename_i hjj
                rw [List.getElem?_append] at hu
                split at hu
                · rename_i hjj2
                  obtain ⟨y1, q1, q2⟩ := hxt.get hu
                  have hl1 := (List.getElem?_eq_some_iff.1 q1).1
                  refine ⟨List.all_eq_true.1 hyo u (List.mem_of_mem_take (List.mem_of_getElem? hu)), y1, ?_, q2⟩
                  rw [splice_get (by omega), if_neg (by omega), if_pos (by omega), show base + jj - (base + off) = jj - off by omega]
                  exact q1
                · rename_i hjj2
                  rw [List.getElem?_drop] at hu
                  have hxl : (List.take (min mm len * sz) xs).length = min mm len * sz := by rw [List.length_take, hyl]; omega
                  obtain ⟨q1, y1, q2, q3⟩ := hc _ u hu
                  refine ⟨q1, y1, ?_, q3⟩
                  rw [splice_get (by omega), if_neg (by omega), if_neg (by omega), ← q2]
                  congr 1; omega)
          refine ⟨goInt (min mm len : Nat), m', ?_, w5, w6, ?_, by rw [w2]; rfl, w4⟩
          · rw [w1]
            simp [Builtin.copy_, run_underlying h2, Builtin.lenOf, sizeOf, typeInfo, hj, hjs, hnat, hfirst, hst]
          · exact .d (.int _ _)
      · simp at h
    · simp at h
  · simp at h

theorem replicate_flatten {α : Type} [Inhabited α] (z : List α) (n : Nat) : (List.replicate n z).flatten = (List.range (n * z.length)).map (fun q => z[q % z.length]!) := by
  by_cases h0 : z.length = 0
  · have hz : z = [] := List.length_eq_zero_iff.1 h0
    subst hz
    apply List.length_eq_zero_iff.1
    rw [flatten_len 0 _ (fun r hr => by rw [List.eq_of_mem_replicate hr]; rfl)]; simp
  · have hpos : 0 < z.length := by omega
    apply List.ext_getElem?
    intro q
    rw [flatten_get z.length hpos _ (fun r hr => by rw [List.eq_of_mem_replicate hr])]
    by_cases hq : q < n * z.length
    · have h1 : q / z.length < n := Nat.div_lt_of_lt_mul (by rw [Nat.mul_comm]; exact hq)
      have h2 : q % z.length < z.length := Nat.mod_lt _ hpos
      simp [h1, hq, h2]
    · have h1 : ¬ q / z.length < n := by
        intro h
        have := (Nat.div_lt_iff_lt_mul hpos).1 h
        omega
      simp [h1, hq]

theorem zero_cells_RVs {z : List V} {v : Value} (h : z = v.cells.toList.map constV1) (q : Nat) : RVs S m (List.replicate q z).flatten (List.replicate q v.cells.toList).flatten := by
  have : (List.replicate q z).flatten = ((List.replicate q v.cells.toList).flatten).map constV1 := by
    rw [h, List.map_flatten, List.map_replicate]
  rw [this]
  exact constVs_RVs _

theorem all_replicate {z : List V} (h : z.all V.one = true) (q : Nat) : ((List.replicate q z).flatten).all V.one = true := by
  rw [List.all_eq_true] at h ⊢
  intro x hx
  obtain ⟨l, hl, hx'⟩ := List.mem_flatten.1 hx
  rw [List.eq_of_mem_replicate hl] at hx'
  exact h x hx'

theorem range_map_toArray (z : Array Value) (q : Nat) : (Array.range (q * z.size)).map (fun i => z[i % z.size]!) = ((List.replicate q z.toList).flatten).toArray := by
  rw [replicate_flatten]
  apply Array.ext'
  simp
  intro a _
  rw [getElem!_def]
  cases z[a % z.size]? <;> rfl

/-- A new row of slots. -/
theorem osl_new {n c len sz : Nat} {cap : Nat} {T : TypeId} {cs : List V} {ys : List Value} (hR : Rel S m) (hf : Fresh m c 1) (hys : RVs S m cs ys) (hone : cs.all V.one = true) (hl : cs.length = cap * sz) (hc : len ≤ cap) (hm : cap ≤ maxLen) {rd : List Nat} :
    ∃ m', (newRow T ys.toArray).run P m.w = .ok ⟨m.w.heap.size, 0, none⟩ m'.w ∧ After S m c ⟨.osl n c 0 len sz (some cap), [(n, ⟨c, false, cs⟩)], rd, 1, 1, false⟩ (.slice (some ⟨m.w.heap.size, 0, none⟩) len cap) m' := by
  obtain ⟨m', w1, w2, w3, w4, w5, w6, T', w7⟩ := new_sound (P := P) (T := T) hR hf hys hone
  refine ⟨m', w1, w5, w6, .osl (by rw [w4]; exact .inr ⟨Nat.le_refl _, by omega⟩) rfl fun o ho hg => ?_, by rw [w2]; rfl, w4⟩
  rw [w2] at ho; simp at ho; subst ho
  unfold OslOK
  rw [w3]
  have hmul : len * sz ≤ cap * sz := Nat.mul_le_mul_right _ hc
  refine ⟨_, cap, rfl, .inl rfl, by simp; omega, hc, hm, ⟨_, T', (0, 0), w7, by simp [← hys.1]; omega⟩, rfl, by simp; omega⟩

theorem makeV_sound {n c : Nat} {t e sz by_ : Nat} {i : TI} {l q : V} {r : Res} {u v : Value} (hi : mkTI P t = some i) (hk : i.k = .slice e sz by_) (h : makeV n c i (mkTI P e) l q = some r) (hR : Rel S m) (hf : Fresh m c r.dc)
    (hu : RV S m l u) (hv : RV S m q v) : ∃ z m', (Instr.makeSlice t u v).run P m.w = .ok z m'.w ∧ After S m c r z m' := by
  obtain ⟨inf, d, h1, h2, h3, _⟩ := mkTI_spec hi
  rw [hk] at h3
  obtain ⟨rfl, j, hj, hjs, hjb⟩ := mkTK_slice h3
  unfold makeV at h
  rw [hk] at h
  split at h
  · rename_i e' sz' by' l q hk'
    injection hk' with k1 k2 k3; subst k1; subst k2; subst k3
    split at h
    · rename_i ei hei
      split at h
      · rename_i z hz
        split at h
        · rename_i hcond
          obtain ⟨c1, c2, c3, c4, c5, c6, c7⟩ := hcond
          simp only [Option.some.injEq] at h; subst h
          obtain rfl : u = .int .i64 l := by
            cases hu with
            | d hu => cases hu; rfl
          obtain rfl : v = .int .i64 q := by
            cases hv with
            | d hv => cases hv; rfl
          obtain ⟨f1, f2, f3⟩ := fitsB_spec c4
          obtain ⟨hb, z0, hz0, hzs⟩ := hjb f1
          obtain ⟨zv, g1, g2, g3⟩ := zero_spec hei hz m.w
          have hzv : zv = z0 := by simp [hj, hz0] at g3; exact g3.symm
          subst hzv
          have hle : zv.cells.size = sz := hzs
          have hlen : ((List.replicate q.toNat z).flatten).length = q.toNat * sz := by
            rw [flatten_len sz _ (fun r hr => by rw [List.eq_of_mem_replicate hr]; exact c5)]; simp
          obtain ⟨m', w1, w2⟩ := osl_new (P := P) (T := e) (len := l.toNat) (cap := q.toNat) (sz := sz) (rd := []) hR hf (zero_cells_RVs g2 q.toNat) (all_replicate c7 _) hlen (by omega) (by unfold maxLen; omega)
          refine ⟨_, m', ?_, w2⟩
          have hw1 : IntKind.i64.wrap l = l := by
            unfold IntKind.wrap; simp [IntKind.bits, IntKind.signed]; omega
          have hw2 : IntKind.i64.wrap q = q := by
            unfold IntKind.wrap; simp [IntKind.bits, IntKind.signed]; omega
          have hq0 : ((q.toNat : Nat) : Int) = q := Int.toNat_of_nonneg (by omega)
          have hbq : ¬ (281474976710656 < (by_ : Int) * q) := by
            rw [← hq0]
            have : q.toNat * by_ ≤ 140737488355328 := f2
            have h' : ((q.toNat * by_ : Nat) : Int) = (by_ : Int) * (q.toNat : Int) := by rw [Int.natCast_mul, Int.mul_comm]
            omega
          have hrun : (newRow e (Array.map (fun x => zv.cells[x % zv.cells.size]!) (Array.range (q.toNat * sz)))).run P m.w = .ok ⟨m.w.heap.size, 0, none⟩ m'.w := by
            rw [← hle, range_map_toArray]; exact w1
          have hqn : q.toNat * sz = 0 ∨ ¬ (q.toNat * sz = 0) := Decidable.em _
          simp only [Instr.makeSlice, Sem.run_bind, run_underlying h2, Result.andThen_ok, asInt, asIntOf, Sem.run_pure, typeInfo, run_program, hj, hw1, hw2, hb]
          simp only [Bool.or_eq_true, decide_eq_true_eq, hbq, show ¬ q < 0 by omega, show ¬ l < 0 by omega, show ¬ l > q by omega, or_self, if_false, false_or, or_false]
          simp only [show ¬ ((by_ : Int) * q > 2 ^ 48) by simpa using hbq, if_false, run_askRoom, Result.andThen_ok, run_sizeOf' hj, hjs, g1, Sem.run_bind, Sem.run_pure]
          rcases hqn with hqn | hqn
          · simp only [hqn, if_true, Sem.run_pure, Result.andThen_ok]
            rw [hqn] at hrun
            have a0 : ∀ f : Nat → Value, Array.map f (Array.range 0) = #[] := fun f => by apply Array.ext'; simp
            rw [a0] at hrun
            simp [a0, hrun]
          · simp only [hqn, if_false, Sem.run_bind, g1, Sem.run_pure, Result.andThen_ok, hrun]
        · simp at h
      · simp at h
    · simp at h
  · simp at h

end Go.Ab
end

section
/- The abstract machine: slicing, indexing, arithmetic. No conditions. -/
set_option linter.unusedVariables false
set_option linter.unusedSimpArgs false
namespace Go.Ab
variable {P : Program} {S : Nat → Prop} {m : M}

theorem bnd_some {x : V} {b : Value} {dflt q y : Nat} {code : BoundsCode} {w : World} (h : bnd (some x) dflt = some q) (hx : RV S m x b) (hq : q ≤ y) : (Instr.sliceBound b y code).run P w = .ok q w := by
  unfold bnd at h
  split at h
  · rename_i h'; cases h'
  · rename_i k i h'
    injection h' with h'; subst h'
    split at h
    · rename_i h0
      simp at h; subst h
      obtain rfl : b = .int k i := by
        cases hx with
        | d hd => cases hd; rfl
      exact run_sliceBound _ k i y code h0 (by omega)
    · simp at h
  · simp at h

theorem bnd_dflt (x : V) (a b : Nat) : bnd (some x) a = bnd (some x) b := by
  cases x with
  | d x => cases x <;> rfl
  | _ => rfl

/-- An operand that may be left out. -/
inductive RO (S : Nat → Prop) (m : M) : Option V → Option Value → Prop
  | none : RO S m none none
  | some {x : V} {v : Value} (h : RV S m x v) : RO S m (some x) (some v)

theorem RO.map {ρ : Operand → V} {σ : Operand → Value} (h : ∀ x, RV S m (ρ x) (σ x)) (o : Option Operand) : RO S m (o.map ρ) (o.map σ) := by
  cases o with
  | none => exact .none
  | some x => exact .some (h x)

theorem run_bounds {isS : Bool} {len cap l h mm : Nat} {lo hi mx : Option V} {vlo vhi vmx : Option Value} {w : World} (h1 : RO S m lo vlo) (h2 : RO S m hi vhi) (h3 : RO S m mx vmx) (e1 : bnd lo 0 = some l) (e2 : bnd hi len = some h)
    (e3 : bnd mx cap = some mm) (hlh : l ≤ h) (hhm : h ≤ mm) (hmc : mm ≤ cap) (hno : mx.isSome = true → hi.isSome = true) : (Instr.sliceBounds isS len cap vlo vhi vmx).run P w = .ok (l, h, mm) w := by
  unfold Instr.sliceBounds
  cases h3 with
  | none =>
    simp [bnd] at e3; subst e3
    cases h2 with
    | none =>
      simp [bnd] at e2; subst e2
      cases h1 with
      | none => simp [bnd] at e1; subst e1; simp
      | some hl => simp [bnd_some (P := P) e1 hl hlh]
    | some hh =>
      cases h1 with
      | none => simp [bnd] at e1; subst e1; simp [bnd_some (P := P) e2 hh hhm]
      | some hl => simp [bnd_some (P := P) e2 hh hhm, bnd_some (P := P) e1 hl hlh]
  | some hm =>
    cases h2 with
    | none => simp at hno
    | some hh =>
      cases h1 with
      | none => simp [bnd] at e1; subst e1; simp [bnd_some (P := P) e3 hm hmc, bnd_some (P := P) e2 hh hhm]
      | some hl => simp [bnd_some (P := P) e3 hm hmc, bnd_some (P := P) e2 hh hhm, bnd_some (P := P) e1 hl hlh]

theorem RD.slice_inv {w : World} {av : Nat → Prop} {rows : List (List D)} {v : Value} (h : RD w av (.slice rows) v) : ∃ a k, v = .slice a rows.length k ∧ rows.length ≤ k ∧ k ≤ maxLen := by
  cases h with
  | empty a cap h => exact ⟨a, cap, rfl, Nat.zero_le _, h⟩
  | slice rows b off cap sz hlen hcap hsz f hf hr => exact ⟨_, cap, rfl, hlen, hcap⟩

/-- Part of a slice of data. -/
theorem RD.sub {w : World} {av : Nat → Prop} {rows : List (List D)} {a : Option Addr} {k l h mm sz : Nat} (hd : RD w av (.slice rows) (.slice a rows.length k)) (hlh : l ≤ h) (hhr : h ≤ rows.length) (hhm : h ≤ mm) (hmk : mm ≤ k)
    (hsz : rows ≠ [] → ∀ r ∈ rows, r.length = sz) : RD w av (.slice ((rows.take h).drop l)) (.slice (if mm = l then a else a.map (·.add (l * sz))) (h - l) (mm - l)) := by
  have hlen : ((rows.take h).drop l).length = h - l := by simp; omega
  cases hd with
  | empty a cap hc =>
    have : (([] : List (List D)).take h).drop l = [] := by simp
    rw [this]
    simp at hhr; subst hhr
    simp at hlh; subst hlh
    exact .empty _ _ (by omega)
  | slice rows b off cap sz' hl hc hs f hf hr =>
    by_cases h0 : l = h
    · subst h0
      have : (rows.take l).drop l = [] := List.length_eq_zero_iff.1 (by simp)
      rw [this, Nat.sub_self]
      exact .empty _ _ (by omega)
    · rw [if_neg (by omega)]
      have hne : rows ≠ [] := by intro h'; subst h'; simp at hhr; omega
      have hss : sz' = sz := by
        obtain ⟨r0, rest, rfl⟩ := List.exists_cons_of_ne_nil hne
        rw [← hs 0 r0 rfl]; exact hsz hne r0 (by simp)
      subst hss
      simp only [Option.map_some, addr_add]
      have get : ∀ (i : Nat) (r : List D), ((rows.take h).drop l)[i]? = some r → rows[l + i]? = some r := by
        intro i r hi
        rw [List.getElem?_drop, List.getElem?_take] at hi
        split at hi
        · exact hi
        · simp at hi
      have := RD.slice (w := w) (av := av) ((rows.take h).drop l) b (off + l * sz') (mm - l) sz' (by rw [hlen]; omega) (by omega) (fun i r hi => hs _ r (get i r hi)) (fun i j => f (l + i) j)
        (fun i j r d hi hj => by
          obtain ⟨q1, q2⟩ := hf _ j r d (get i r hi) hj
          refine ⟨q1, ?_⟩
          rw [← q2, Nat.add_mul]; congr 2; omega)
        (fun i j r d hi hj => hr _ j r d (get i r hi) hj)
      rw [hlen] at this
      exact this

theorem rows_sz {w : World} {av : Nat → Prop} {rows : List (List D)} {v : Value} (h : RD w av (.slice rows) v) : ∃ sz, ∀ r ∈ rows, r.length = sz := by
  cases h with
  | empty => exact ⟨0, by simp⟩
  | slice rows b off cap sz hlen hcap hsz f hf hr =>
    refine ⟨sz, fun r hr' => ?_⟩
    obtain ⟨i, hi⟩ := List.mem_iff_getElem?.1 hr'
    exact hsz i r hi

theorem run_slice_s {t e : TypeId} {j : TypeInfo} {a : Option Addr} {len cap l h mm : Nat} {lo hi mx : Option Value} {w : World} (h2 : P.underlying t = some (.slice e)) (hj : P.info? e = some j)
    (hb : (Instr.sliceBounds true len cap lo hi mx).run P w = .ok (l, h, mm) w) : (Instr.sliceAt t (.slice a len cap) lo hi mx).run P w = .ok (.slice (if mm = l then a else a.map (·.add (l * j.size))) (h - l) (mm - l)) w := by
  simp only [Instr.sliceAt, Sem.run_bind, run_underlying h2, Result.andThen_ok, Instr.slice, hb, run_sizeOf' hj, Sem.run_pure]

theorem osl_sub {id g off len sz : Nat} {cap : Option Nat} {v : Value} {o : Ob} (hv : RV S m (.osl id g off len sz cap) v) (hl : live m.h id g = some o) (hR : Rel S m) {l h : Nat} (hlh : l ≤ h) (hhq : h ≤ len ∨ ∃ q, cap = some q ∧ h ≤ q) :
    ∃ a k, v = .slice a len k ∧ len ≤ k ∧ (∀ q, cap = some q → k = q ∧ m.at_ id ≠ none ∧ off + q * sz ≤ o.cells.length) ∧ off + len * sz ≤ o.cells.length ∧
      ∀ mm, h ≤ mm → mm ≤ k → ∀ cap', (cap' = none ∨ (cap' = some (mm - l) ∧ m.at_ id ≠ none ∧ off + mm * sz ≤ o.cells.length)) →
        RV S m (.osl id g (off + l * sz) (h - l) sz cap') (.slice (if mm = l then a else a.map (·.add (l * sz))) (h - l) (mm - l)) := by
  obtain ⟨ho, hgen, hok⟩ := hv.osl_live hl
  have hiss : m.iss id g := by cases hv with | osl h1 _ _ => exact h1
  unfold OslOK at hok
  cases hat : m.at_ id with
  | none =>
    simp only [hat] at hok
    obtain ⟨rfl, rfl, rfl, a, rfl⟩ := hok
    refine ⟨a, 0, rfl, Nat.le_refl _, (fun q hq => by cases hq), by simp, fun mm h1 h2 cap' hc => .osl hiss rfl fun o2 ho2 hg2 => ?_⟩
    have hh0 : h = 0 := by
      rcases hhq with h' | ⟨q, hq, _⟩
      · omega
      · cases hq
    subst hh0
    have hl0 : l = 0 := by omega
    have hm0 : mm = 0 := by omega
    subst hl0; subst hm0
    unfold OslOK
    rw [hat]
    rcases hc with rfl | ⟨_, hc, _⟩
    · simp
    · exact absurd rfl hc
  | some bb =>
    obtain ⟨b0, base⟩ := bb
    simp only [hat] at hok
    obtain ⟨p, k, rfl, hp, k2, k3, k4, ⟨cs, T, fz, k5, k6⟩, k7⟩ := hok
    refine ⟨some p, k, rfl, k3, ?_, k2, fun mm h1 h2 cap' hc => .osl hiss rfl fun o2 ho2 hg2 => ?_⟩
    · rintro q rfl; exact ⟨k7.1, by simp, k7.2⟩
    have : o2 = o := by rw [ho] at ho2; injection ho2 with h; exact h.symm
    subst this
    unfold OslOK
    rw [hat]
    have m1 : (off + l * sz) + (h - l) * sz = off + h * sz := by
      have : h * sz = l * sz + (h - l) * sz := by rw [← Nat.add_mul]; congr 1; omega
      omega
    have m2 : (off + l * sz) + (mm - l) * sz = off + mm * sz := by
      have : mm * sz = l * sz + (mm - l) * sz := by rw [← Nat.add_mul]; congr 1; omega
      omega
    have m3 : mm * sz ≤ k * sz := Nat.mul_le_mul_right _ h2
    have hhb : off + h * sz ≤ o2.cells.length := by
      rcases hhq with h' | ⟨q, rfl, h'⟩
      · have : h * sz ≤ len * sz := Nat.mul_le_mul_right _ h'; omega
      · have : h * sz ≤ q * sz := Nat.mul_le_mul_right _ h'; have := k7.2; omega
    have hpp : ∃ p', (if mm = l then some p else (some p).map (·.add (l * sz))) = some p' ∧ (p' = ⟨b0, base + (off + l * sz), none⟩ ∨ (h - l = 0 ∧ mm - l = 0)) := by
      split
      · rename_i he; exact ⟨p, rfl, .inr ⟨by omega, by omega⟩⟩
      · rename_i he
        rcases hp with rfl | ⟨rfl, rfl⟩
        · refine ⟨_, rfl, .inl ?_⟩
          show (⟨b0, base + off, none⟩ : Addr).add (l * sz) = _
          rw [addr_add, Nat.add_assoc]
        · have hq0 : h = 0 := by
            rcases hhq with h' | ⟨q, rfl, h'⟩
            · omega
            · have := k7.1; omega
          exact ⟨_, rfl, .inr ⟨by omega, by omega⟩⟩
    obtain ⟨p', hp1, hp2⟩ := hpp
    refine ⟨p', mm - l, by rw [hp1], hp2, by omega, by omega, by omega, ⟨cs, T, fz, k5, by omega⟩, ?_⟩
    rcases hc with rfl | ⟨rfl, _, hc⟩
    · trivial
    · exact ⟨rfl, by omega⟩

theorem sliceV_sound {t : TypeId} {i : TI} {x : V} {lo hi mx : Option V} {r : Res} {v : Value} {vlo vhi vmx : Option Value} {c : Nat} (hti : mkTI P t = some i) (h : sliceV m.h i x lo hi mx = some r) (hR : Rel S m)
    (hv : RV S m x v) (h1 : RO S m lo vlo) (h2 : RO S m hi vhi) (h3 : RO S m mx vmx) (hno : mx.isSome = true → hi.isSome = true) :
    ∃ z, (Instr.sliceAt t v vlo vhi vmx).run P m.w = .ok z m.w ∧ After S m c r z m := by
  obtain ⟨inf, d, i1, i2, i3, _⟩ := mkTI_spec hti
  unfold sliceV at h
  split at h
  · -- a string
    rename_i s hk
    rw [hk] at i3
    have hd := mkTK_str i3; subst hd
    split at h
    · rename_i l hh e1 e2
      split at h
      · rename_i hc
        simp [ret] at h; subst h
        cases hv with
        | d hd =>
          cases hd with
          | str bs l' hbs =>
            have hlen : bs.size = s.length := by rw [← hbs, Array.length_toList]; rfl
            have hb := run_bounds (P := P) (w := m.w) (isS := false) (len := bs.size) (cap := bs.size) (l := l) (h := hh) (mm := bs.size) h1 h2 .none e1 (by rw [hlen]; exact e2) (by simp [bnd]) hc.1 (by omega) (Nat.le_refl _) (fun h => by simp at h)
            cases h3
            refine ⟨.string (bs.extract l hh), ?_, After.quiet hR (.d (.str _ _ ?_))⟩
            · simp [Instr.sliceAt, run_underlying i2, Instr.slice, hb]
            · rw [ByteArray.data_extract, Array.toList_extract, hbs]
              rw [List.drop_take]
      · simp at h
    · simp at h
  · -- a slice of data
    rename_i e sz by_ rows hk
    rw [hk] at i3
    obtain ⟨rfl, j, hj, hjs, _⟩ := mkTK_slice i3
    cases hv with
    | d hd =>
      obtain ⟨a, k, rfl, hk1, hk2⟩ := hd.slice_inv
      split at h
      · rename_i l hh e1 e2
        split at h
        · rename_i hc
          simp [ret] at h; subst h
          cases h3
          have hb := run_bounds (P := P) (w := m.w) (isS := true) (len := rows.length) (cap := k) (l := l) (h := hh) (mm := k) h1 h2 .none e1 e2 (by simp [bnd]) hc.1 (by omega) (Nat.le_refl _) (fun h => by simp at h)
          refine ⟨_, run_slice_s i2 hj hb, After.quiet hR (.d ?_)⟩
          rw [hjs]
          exact hd.sub hc.1 hc.2.1 (by omega) (Nat.le_refl _) (fun _ => allbeq hc.2.2)
        · simp at h
      · rename_i l hh q e1 e2
        split at h
        · rename_i q' e3
          split at h
          · rename_i hc
            simp [ret] at h; subst h
            have hb := run_bounds (P := P) (w := m.w) (isS := true) (len := rows.length) (cap := k) (l := l) (h := hh) (mm := q') h1 h2 h3 e1 e2 (by rw [bnd_dflt _ _ 0]; exact e3) hc.1 (by omega) (by omega) hno
            refine ⟨_, run_slice_s i2 hj hb, After.quiet hR ?_⟩
            rw [hjs]
            have := hd.sub (l := l) (h := hh) (mm := q') hc.1 (by omega) (by omega) (by omega) (fun _ => allbeq hc.2.2.2)
            have e4 : q' = hh := hc.2.1.symm
            subst e4
            have hlen : ((rows.take q').drop l).length = q' - l := by simp; omega
            have := RV.full (S := S) (m := m) (rows := (rows.take q').drop l) (a := if q' = l then a else a.map (·.add (l * sz))) (by rw [hlen]; exact this)
            rw [hlen] at this
            exact this
          · simp at h
        · simp at h
      · simp at h
  · rename_i e sz by_ rows hk
    rw [hk] at i3
    obtain ⟨rfl, j, hj, hjs, _⟩ := mkTK_slice i3
    split at h
    · rename_i l hh e1 e2
      split at h
      · rename_i hc
        cases hv with
        | full hd =>
          simp [ret] at h; subst h
          rename_i a
          cases h3
          have hb := run_bounds (P := P) (w := m.w) (isS := true) (len := rows.length) (cap := rows.length) (l := l) (h := hh) (mm := rows.length) h1 h2 .none e1 e2 (by simp [bnd]) hc.1 (by omega) (Nat.le_refl _) (fun h => by simp at h)
          refine ⟨_, run_slice_s i2 hj hb, After.quiet hR ?_⟩
          rw [hjs]
          have := hd.sub (l := l) (h := hh) (mm := rows.length) hc.1 hc.2.1 (by omega) (Nat.le_refl _) (fun _ => allbeq hc.2.2)
          split
          · rename_i hh'
            subst hh'
            have hlen : (rows.drop l).length = rows.length - l := by simp
            have e5 : (rows.take rows.length).drop l = rows.drop l := by rw [List.take_length]
            rw [e5] at this
            have := RV.full (S := S) (m := m) (rows := rows.drop l) (a := if rows.length = l then a else a.map (·.add (l * sz))) (by rw [hlen]; exact this)
            rw [hlen] at this
            exact this
          · exact .d this
      · simp at h
    · simp at h
  · -- a slice of an object
    rename_i e sz by_ id g off len sz' cap hk
    rw [hk] at i3
    obtain ⟨rfl, j, hj, hjs, _⟩ := mkTK_slice i3
    split at h
    · rename_i o l hh hl hbeq e1 e2
      have hss : sz = sz' := Nat.eq_of_beq_eq_true hbeq
      subst hss
      by_cases hc : l ≤ hh ∧ hh ≤ cap.getD len
      · rw [if_pos hc] at h
        simp only [retR, Option.some.injEq] at h; subst h
        obtain ⟨a, k, rfl, k1, k2, k3, k4⟩ := osl_sub hv hl hR (l := l) (h := hh) hc.1 (by
          cases cap with
          | none => exact .inl hc.2
          | some q => exact .inr ⟨q, rfl, hc.2⟩)
        cases h3
        have hhk : hh ≤ k := by
          cases cap with
          | none => have := hc.2; simp at this; omega
          | some q => have := (k2 q rfl).1; have := hc.2; simp at this; omega
        have hb := run_bounds (P := P) (w := m.w) (isS := true) (len := len) (cap := k) (l := l) (h := hh) (mm := k) h1 h2 .none e1 e2 (by simp [bnd]) hc.1 hhk (Nat.le_refl _) (fun h => by simp at h)
        refine ⟨_, run_slice_s i2 hj hb, After.quiet hR ?_⟩
        rw [hjs]
        refine k4 k hhk (Nat.le_refl _) _ ?_
        cases cap with
        | none => exact .inl rfl
        | some q =>
          obtain ⟨q1, q2, q3⟩ := k2 q rfl
          subst q1
          exact .inr ⟨rfl, q2, q3⟩
      · rw [if_neg hc] at h; simp at h
    · rename_i o l hh q hl hbeq e1 e2
      have hss : sz = sz' := Nat.eq_of_beq_eq_true hbeq
      subst hss
      split at h
      · rename_i qq e3
        by_cases hc : l ≤ hh ∧ hh ≤ qq ∧ qq ≤ cap.getD len
        · rw [if_pos hc] at h
          simp only [retR, Option.some.injEq] at h; subst h
          obtain ⟨a, k, rfl, k1, k2, k3, k4⟩ := osl_sub hv hl hR (l := l) (h := hh) hc.1 (by
            cases cap with
            | none => have := hc.2.2; simp at this; exact .inl (by omega)
            | some q' => have := hc.2.2; simp at this; exact .inr ⟨q', rfl, by omega⟩)
          have hqk : qq ≤ k ∧ off + qq * sz ≤ o.cells.length := by
            cases cap with
            | none =>
              have := hc.2.2; simp at this
              have m3 : qq * sz ≤ len * sz := Nat.mul_le_mul_right _ this
              exact ⟨by omega, by omega⟩
            | some q' =>
              have := hc.2.2; simp at this
              obtain ⟨q1, q2, q3⟩ := k2 q' rfl
              have m3 : qq * sz ≤ q' * sz := Nat.mul_le_mul_right _ this
              exact ⟨by omega, by omega⟩
          have hb := run_bounds (P := P) (w := m.w) (isS := true) (len := len) (cap := k) (l := l) (h := hh) (mm := qq) h1 h2 h3 e1 e2 (by rw [bnd_dflt _ _ 0]; exact e3) hc.1 hc.2.1 hqk.1 hno
          refine ⟨_, run_slice_s i2 hj hb, After.quiet hR ?_⟩
          rw [hjs]
          refine k4 qq hc.2.1 hqk.1 _ ?_
          split
          · exact .inl rfl
          · rename_i hne
            refine .inr ⟨rfl, fun hat => ?_, hqk.2⟩
            have := hR.none_ id o (hv.osl_live hl).1 hat
            rw [this] at hne; simp at hne
        · rw [if_neg hc] at h; simp at h
      · simp at h
    · simp at h
  · simp at h

end Go.Ab
end

section
/- The abstract machine: every operation that calls no function. No conditions. -/
set_option linter.unusedVariables false
set_option linter.unusedSimpArgs false
namespace Go.Ab
variable {P : Program} {S : Nat → Prop} {m : M}

theorem idx_spec {i : Int} {n q : Nat} (h : idx i n = some q) : 0 ≤ i ∧ i < n ∧ q = i.toNat ∧ q < n := by
  unfold idx at h
  split at h
  · rename_i hc; simp at h; exact ⟨hc.1, hc.2, h.symm, by omega⟩
  · simp at h

theorem run_indexAt_s {t e : TypeId} {j : TypeInfo} {a : Addr} {len cap : Nat} {k : IntKind} {i : Int} {q : Nat} (w : World) (h2 : P.underlying t = some (.slice e)) (hj : P.info? e = some j) (hq : idx i len = some q) :
    (Instr.indexAt t (.slice (some a) len cap) (.int k i)).run P w = .ok (.pointer (some (a.add (q * j.size)))) w := by
  obtain ⟨h0, h1, rfl, _⟩ := idx_spec hq
  simp [Instr.indexAt, run_underlying h2, asIntOf, h0, h1, sizeOf, typeInfo, hj]

theorem RD.row {w : World} {av : Nat → Prop} {rows : List (List D)} {v : Value} {q sz : Nat} {r : List D} (hd : RD w av (.slice rows) v) (hr : rows[q]? = some r) (hsz : r.length = sz) :
    ∃ b off k, v = .slice (some ⟨b, off, none⟩) rows.length k ∧ ∃ f : Nat → Value, (∀ (j : Nat) (d : D), r[j]? = some d → ¬ av b ∧ w.cell? ⟨b, off + q * sz + j, none⟩ = some (f j)) ∧ ∀ (j : Nat) (d : D), r[j]? = some d → RD w av d (f j) := by
  cases hd with
  | empty a cap h => simp at hr
  | slice rows b off cap sz' hlen hcap hs f hf hr' =>
    have : sz' = sz := by rw [← hs q r hr]; exact hsz
    subst this
    refine ⟨b, off, cap, rfl, f q, fun j d hj => ?_, fun j d hj => hr' q j r d hr hj⟩
    obtain ⟨h1, h2⟩ := hf q j r d hr hj
    exact ⟨h1, by rw [Nat.add_assoc]; exact h2⟩

theorem indexRows_sound {t e : TypeId} {inf : TypeInfo} {rows : List (List D)} {sz q c : Nat} {v : Value} {k : IntKind} {i : Int} {r : Res} (h2 : P.underlying t = some (.slice e)) (hj : P.info? e = some inf) (hjs : inf.size = sz)
    (hq : idx i rows.length = some q) (h : indexRows rows sz q = some r) (hR : Rel S m) (hd : RD m.w (m.av S) (.slice rows) v) : ∃ z, (Instr.indexAt t v (.int k i)).run P m.w = .ok z m.w ∧ After S m c r z m := by
  unfold indexRows at h
  split at h
  · rename_i row hrow
    split at h
    · rename_i hb
      simp [ret] at h; subst h
      obtain ⟨b, off, kk, rfl, f, hf, hr⟩ := hd.row hrow (Nat.eq_of_beq_eq_true hb)
      refine ⟨_, run_indexAt_s m.w h2 hj hq, After.quiet hR ?_⟩
      rw [hjs, addr_add]
      exact .vref f hf hr
    · simp at h
  · simp at h

theorem indexAddrV_sound {t : TypeId} {i : TI} {x ix : V} {r : Res} {v y : Value} {c : Nat} (hti : mkTI P t = some i) (h : indexAddrV m.h i x ix = some r) (hR : Rel S m) (hv : RV S m x v) (hy : RV S m ix y) :
    ∃ z, (Instr.indexAt t v y).run P m.w = .ok z m.w ∧ After S m c r z m := by
  obtain ⟨inf, d, i1, i2, i3, _⟩ := mkTI_spec hti
  unfold indexAddrV at h
  split at h
  · rename_i k j
    obtain rfl : y = .int k j := by
      cases hy with
      | d hd => cases hd; rfl
    split at h
    · rename_i e sz by_ rows hk
      rw [hk] at i3
      obtain ⟨rfl, jj, hj, hjs, _⟩ := mkTK_slice i3
      simp only [Option.bind_eq_some_iff] at h
      obtain ⟨q, hq, hr⟩ := h
      cases hv with
      | d hd => exact indexRows_sound i2 hj hjs hq hr hR hd
    · rename_i e sz by_ rows hk
      rw [hk] at i3
      obtain ⟨rfl, jj, hj, hjs, _⟩ := mkTK_slice i3
      simp only [Option.bind_eq_some_iff] at h
      obtain ⟨q, hq, hr⟩ := h
      cases hv with
      | full hd => exact indexRows_sound i2 hj hjs hq hr hR hd
    · rename_i e sz by_ id g off len sz' cap hk
      rw [hk] at i3
      obtain ⟨rfl, jj, hj, hjs, _⟩ := mkTK_slice i3
      split at h
      · rename_i o hl hbeq
        have : sz = sz' := Nat.eq_of_beq_eq_true hbeq
        subst this
        simp only [Option.bind_eq_some_iff] at h
        obtain ⟨q, hq, hr⟩ := h
        simp [retR] at hr; subst hr
        obtain ⟨ho, hgen, hok⟩ := hv.osl_live hl
        obtain ⟨_, _, _, hqlt⟩ := idx_spec hq
        have hiss : m.iss id g := by cases hv with | osl h1 _ _ => exact h1
        unfold OslOK at hok
        cases hat : m.at_ id with
        | none => simp only [hat] at hok; omega
        | some bb =>
          obtain ⟨b0, base⟩ := bb
          simp only [hat] at hok
          obtain ⟨p, kk, rfl, hp, _⟩ := hok
          rcases hp with rfl | ⟨h0, _⟩
          · refine ⟨_, run_indexAt_s m.w i2 hj hq, After.quiet hR (.ptr hiss rfl fun o2 ho2 hg2 => ⟨b0, base, hat, ?_⟩)⟩
            rw [hjs, addr_add, Nat.add_assoc]
          · omega
      · simp at h
    · rename_i n e sz ag id g off hk
      rw [hk] at i3
      obtain ⟨rfl, jj, u, hj, _, hjs, _⟩ := mkTK_array i3
      split at h
      · rename_i o hl
        simp only [Option.bind_eq_some_iff] at h
        obtain ⟨q, hq, hr⟩ := h
        simp [retR] at hr; subst hr
        obtain ⟨ho, hgen, b0, base, hat, rfl⟩ := hv.ptr_live hl
        have hiss : m.iss id g := by cases hv with | ptr h1 _ _ => exact h1
        obtain ⟨q0, q1, rfl, _⟩ := idx_spec hq
        refine ⟨.pointer (some ((⟨b0, base + off, none⟩ : Addr).add (j.toNat * sz))), ?_, After.quiet hR (.ptr hiss rfl fun o2 ho2 hg2 => ⟨b0, base, hat, ?_⟩)⟩
        · simp [Instr.indexAt, run_underlying i2, asIntOf, Instr.sureAddr, q0, q1, sizeOf, typeInfo, hj, hjs]
        · rw [addr_add, Nat.add_assoc]
      · simp at h
    · simp at h
  · simp at h

/-- Part of an aggregate. -/
theorem partV_sound {t : TypeId} {inf : TypeInfo} {u : TypeDesc} {cs : List V} {xs : List Value} {off : Nat} {v : V} (w : World) (h1 : P.info? t = some inf) (h2 : P.underlying t = some u) (hp : partV (aggT P t) cs off inf.size = some v) (hxs : RVs S m cs xs) :
    ∃ x, (part t xs.toArray off).run P w = .ok x w ∧ RV S m v x := by
  unfold partV at hp
  cases ha : aggT P t with
  | true =>
    simp only [ha, Option.some.injEq] at hp; subst hp
    refine ⟨.agg ((xs.drop off).take inf.size).toArray, ?_, ((hxs.drop off).take _).agg⟩
    simp only [part, Sem.run_bind, run_isAgg h2, ha, Result.andThen_ok, if_true, run_sizeOf' h1, Sem.run_pure]
    congr 2
    apply Array.ext'
    simp [List.extract]
  | false =>
    simp only [ha] at hp
    obtain ⟨x, hx1, hx2⟩ := hxs.get hp
    refine ⟨x, ?_, hx2⟩
    simp [part, run_isAgg h2, ha, hx1]

theorem indexV_sound {t : TypeId} {i : TI} {x ix : V} {r : Res} {v y : Value} {c : Nat} (hti : mkTI P t = some i) (h : indexV i x ix = some r) (hR : Rel S m) (hv : RV S m x v) (hy : RV S m ix y) :
    ∃ z, (Instr.index t v y).run P m.w = .ok z m.w ∧ After S m c r z m := by
  obtain ⟨inf, d, i1, i2, i3, _⟩ := mkTI_spec hti
  unfold indexV at h
  split at h
  · rename_i k j
    obtain rfl : y = .int k j := by
      cases hy with
      | d hd => cases hd; rfl
    split at h
    · rename_i s hk
      rw [hk] at i3
      have := mkTK_str i3; subst this
      simp only [Option.bind_eq_some_iff] at h
      obtain ⟨q, hq, hr⟩ := h
      split at hr
      · rename_i b hb
        simp [ret] at hr; subst hr
        cases hv with
        | d hd =>
          cases hd with
          | str bs l hbs =>
            obtain ⟨q0, q1, rfl, q2⟩ := idx_spec hq
            have hlen : bs.size = s.length := by rw [← hbs, Array.length_toList]; rfl
            refine ⟨.int .u8 b.toNat, ?_, After.quiet hR (.d (.int _ _))⟩
            rw [run_index_string m.w t bs k j i2, dif_pos ⟨q0, by omega⟩]
            have : bs[j.toNat]'(by omega) = b := by
              have h1 : bs.data.toList[j.toNat]? = some b := by rw [hbs]; exact hb
              simp at h1
              obtain ⟨h2, h3⟩ := Array.getElem?_eq_some_iff.1 h1
              exact h3
            rw [this]
      · simp at hr
    · rename_i n e sz ag cs hk
      rw [hk] at i3
      obtain ⟨rfl, jj, u, hj, hu, hjs, hag⟩ := mkTK_array i3
      simp only [Option.bind_eq_some_iff] at h
      obtain ⟨q, hq, vv, hp, hr⟩ := h
      simp [ret] at hr; subst hr
      obtain ⟨xs, rfl, hxs⟩ := hv.agg_vals
      obtain ⟨q0, q1, rfl, q2⟩ := idx_spec hq
      obtain ⟨z, hz1, hz2⟩ := partV_sound (P := P) (t := e) m.w hj hu (by rw [hag, hjs]; exact hp) hxs
      refine ⟨z, ?_, After.quiet hR hz2⟩
      simp [Instr.index, asIntOf, run_underlying i2, q0, q1, run_sizeOf' hj, hjs, hz1]
    · simp at h
  · simp at h

theorem lenV_sound {t ty : TypeId} {i : TI} {x : V} {r : Res} {v : Value} {c : Nat} (hti : mkTI P t = some i) (h : lenV m.h i x = some r) (hR : Rel S m) (hv : RV S m x v) :
    ∃ z, (Builtin.len_ #[t] ty #[v]).run P m.w = .ok z m.w ∧ After S m c r z m := by
  obtain ⟨inf, d, i1, i2, i3, _⟩ := mkTI_spec hti
  unfold lenV at h
  split at h
  · rename_i s
    split at h
    · rename_i hk
      rw [hk] at i3
      have := mkTK_str i3; subst this
      simp [ret] at h; subst h
      cases hv with
      | d hd =>
        cases hd with
        | str bs l hbs =>
          have hlen : bs.size = s.length := by rw [← hbs, Array.length_toList]; rfl
          refine ⟨_, run_len_string m.w t ty bs i2, After.quiet hR ?_⟩
          rw [hlen]
          exact .d (.int _ _)
    · simp at h
  · rename_i rows
    split at h
    · rename_i e sz by_ hk
      rw [hk] at i3
      obtain ⟨rfl, jj, hj, hjs, _⟩ := mkTK_slice i3
      simp [ret] at h; subst h
      cases hv with
      | d hd =>
        obtain ⟨a, k, rfl, _⟩ := hd.slice_inv
        exact ⟨goInt rows.length, by simp [Builtin.len_, run_underlying i2], After.quiet hR (.d (.int _ _))⟩
    · simp at h
  · rename_i rows
    split at h
    · rename_i e sz by_ hk
      rw [hk] at i3
      obtain ⟨rfl, jj, hj, hjs, _⟩ := mkTK_slice i3
      simp [ret] at h; subst h
      cases hv with
      | full hd => exact ⟨goInt rows.length, by simp [Builtin.len_, run_underlying i2], After.quiet hR (.d (.int _ _))⟩
    · simp at h
  · rename_i id g off len sz cap
    split at h
    · rename_i e sz' by_ o hk hl
      rw [hk] at i3
      obtain ⟨rfl, jj, hj, hjs, _⟩ := mkTK_slice i3
      simp [retR] at h; subst h
      obtain ⟨ho, hgen, hok⟩ := hv.osl_live hl
      have hval : ∃ a k, v = .slice a len k := by
        unfold OslOK at hok
        cases hat : m.at_ id with
        | none => simp only [hat] at hok; obtain ⟨rfl, _, _, a, rfl⟩ := hok; exact ⟨a, 0, rfl⟩
        | some bb =>
          obtain ⟨b0, base⟩ := bb
          simp only [hat] at hok
          obtain ⟨p, k, rfl, _⟩ := hok; exact ⟨some p, k, rfl⟩
      obtain ⟨a, k, rfl⟩ := hval
      exact ⟨goInt len, by simp [Builtin.len_, run_underlying i2], After.quiet hR (.d (.int _ _))⟩
    · simp at h
  · simp at h

theorem fieldV_sound {t : TypeId} {i : TI} {f : Nat} {x : V} {r : Res} {v : Value} {c : Nat} (hti : mkTI P t = some i) (h : fieldV i f x = some r) (hR : Rel S m) (hv : RV S m x v) :
    ∃ z, (Instr.field t v f).run P m.w = .ok z m.w ∧ After S m c r z m := by
  obtain ⟨inf, d, i1, i2, i3, _⟩ := mkTI_spec hti
  unfold fieldV at h
  split at h
  · rename_i cs
    split at h
    · rename_i fs hk
      rw [hk] at i3
      obtain ⟨fields, rfl, hfs⟩ := mkTK_struct i3
      split at h
      · rename_i off size ag hf
        simp only [Option.bind_eq_some_iff] at h
        obtain ⟨vv, hp, hr⟩ := h
        simp [ret] at hr; subst hr
        obtain ⟨fd, j, u, g1, g2, g3, rfl, rfl, hag⟩ := mkFields_get hfs hf
        obtain ⟨xs, rfl, hxs⟩ := hv.agg_vals
        obtain ⟨z, hz1, hz2⟩ := partV_sound (P := P) (t := fd.type) m.w g2 g3 (by rw [hag]; exact hp) hxs
        refine ⟨z, ?_, After.quiet hR hz2⟩
        have g1' : fields[f]? = some fd := by simpa using g1
        simp [Instr.field, run_underlying i2, g1', asAgg, hz1]
      · simp at h
    · simp at h
  · simp at h

theorem fieldAddrV_sound {t : TypeId} {i : TI} {f : Nat} {x : V} {r : Res} {v : Value} {c : Nat} (hti : mkTI P t = some i) (h : fieldAddrV m.h i f x = some r) (hR : Rel S m) (hv : RV S m x v) :
    ∃ z, (Instr.fieldAt t v f).run P m.w = .ok z m.w ∧ After S m c r z m := by
  obtain ⟨inf, d, i1, i2, i3, _⟩ := mkTI_spec hti
  unfold fieldAddrV at h
  split at h
  · rename_i fs hk
    rw [hk] at i3
    obtain ⟨fields, rfl, hfs⟩ := mkTK_struct i3
    split at h
    · rename_i off size ag hf
      obtain ⟨fd, j, u, g1, g2, g3, rfl, rfl, hag⟩ := mkFields_get hfs hf
      have g1' : fields[f]? = some fd := by simpa using g1
      split at h
      · simp at h
      · rename_i hz
        have hz' : j.size ≠ 0 := by intro h0; rw [h0] at hz; simp at hz
        have run : ∀ b o, (Instr.fieldAt t (.pointer (some ⟨b, o, none⟩)) f).run P m.w = .ok (.pointer (some ⟨b, o + fd.offset, none⟩)) m.w := by
          intro b o
          simp [Instr.fieldAt, run_underlying i2, g1', Instr.sureAddr, fieldPlace, run_sizeOf' g2, hz', addr_add]
        split at h
        · rename_i id g o
          split at h
          · rename_i ob hl
            simp [retR] at h; subst h
            obtain ⟨ho, hgen, b0, base, hat, rfl⟩ := hv.ptr_live hl
            have hiss : m.iss id g := by cases hv with | ptr h1 _ _ => exact h1
            refine ⟨_, run _ _, After.quiet hR (.ptr hiss rfl fun o2 ho2 hg2 => ⟨b0, base, hat, ?_⟩)⟩
            rw [Nat.add_assoc]
          · simp at h
        · rename_i ds
          simp [ret] at h; subst h
          cases hv with
          | vref ff hf hr =>
            rename_i b off
            refine ⟨_, run _ _, After.quiet hR (.vref (fun j => ff (fd.offset + j)) (fun j d hj => ?_) fun j d hj => ?_)⟩
            · rw [List.getElem?_drop] at hj
              obtain ⟨q1, q2⟩ := hf _ d hj
              exact ⟨q1, by rw [Nat.add_assoc]; exact q2⟩
            · rw [List.getElem?_drop] at hj
              exact hr _ d hj
        · simp at h
    · simp at h
  · simp at h

end Go.Ab
end

section
/- The abstract machine: one operation. No conditions. -/
set_option linter.unusedVariables false
set_option linter.unusedSimpArgs false
namespace Go.Ab
variable {P : Program} {S : Nat → Prop} {m : M}

theorem RV.int_inv {k : IntKind} {n : Int} {v : Value} (h : RV S m (.d (.int k n)) v) : v = .int k n := by
  cases h with
  | d hd => cases hd; rfl
theorem RV.bool_inv {b : Bool} {v : Value} (h : RV S m (.d (.bool b)) v) : v = .bool b := by
  cases h with
  | d hd => cases hd; rfl

theorem eqGuard_int (op : BinOp) (t : TypeId) (x y : Operand) (k k' : IntKind) (a b : Int) (w : World) : (eqGuard op t x y (.int k a) (.int k' b)).run P w = .ok () w := by
  unfold eqGuard; cases op <;> rfl
theorem eqGuard_str (op : BinOp) (t : TypeId) (x y : Operand) (a b : ByteArray) (w : World) : (eqGuard op t x y (.string a) (.string b)).run P w = .ok () w := by
  unfold eqGuard; cases op <;> rfl
theorem eqGuard_bool (op : BinOp) (t : TypeId) (x y : Operand) (a b : Bool) (w : World) : (eqGuard op t x y (.bool a) (.bool b)).run P w = .ok () w := by
  unfold eqGuard; cases op <;> rfl

theorem intBin_sound {op : BinOp} {k : IntKind} {a b : Int} {d : D} (t : TypeId) (w : World) (hs : op ≠ .shl ∧ op ≠ .shr) (h : intBin op k a b = some d) : ∃ z, (binOp op t (.int k a) (.int k b)).run P w = .ok z w ∧ ∀ av, RD w av d z := by
  cases op <;> simp only [intBin, Option.some.injEq] at h
  case shl => exact absurd rfl hs.1
  case shr => exact absurd rfl hs.2
  case quo =>
    split at h
    · simp at h
    · rename_i hb
      simp at h; subst h
      exact ⟨_, by simp [binOp, Op.intDiv, hb], fun av => .int _ _⟩
  case rem =>
    split at h
    · simp at h
    · rename_i hb
      simp at h; subst h
      exact ⟨_, by simp [binOp, Op.intDiv, hb], fun av => .int _ _⟩
  case eql => subst h; exact ⟨_, by simp [binOp, Op.intCmp], fun av => .bool _⟩
  case neq => subst h; exact ⟨_, by simp [binOp, Op.intCmp], fun av => .bool _⟩
  case lss => subst h; exact ⟨_, by simp [binOp, Op.intCmp], fun av => .bool _⟩
  case leq => subst h; exact ⟨_, by simp [binOp, Op.intCmp], fun av => .bool _⟩
  case gtr => subst h; exact ⟨_, by simp [binOp, Op.intCmp], fun av => .bool _⟩
  case geq => subst h; exact ⟨_, by simp [binOp, Op.intCmp], fun av => .bool _⟩
  case and => subst h; exact ⟨_, by simp [binOp, Op.intBits], fun av => .int _ _⟩
  case or => subst h; exact ⟨_, by simp [binOp, Op.intBits], fun av => .int _ _⟩
  case xor => subst h; exact ⟨_, by simp [binOp, Op.intBits], fun av => .int _ _⟩
  case andNot => subst h; exact ⟨_, by simp [binOp, Op.intBits], fun av => .int _ _⟩
  all_goals subst h; exact ⟨_, by simp [binOp, Op.intArith], fun av => .int _ _⟩

theorem shift_sound {op : BinOp} {k k' : IntKind} {i j : Int} {v : V} (t : TypeId) (w : World) (h : (match op with
    | .shl => if j < 0 then none else some (V.d (.int k (k.wrap (i * 2 ^ (min j.toNat k.bits)))))
    | .shr => if j < 0 then none else some (V.d (.int k (i.fdiv (2 ^ (min j.toNat k.bits)))))
    | _ => none) = some v) (S : Nat → Prop) (m : M) : ∃ z, (binOp op t (.int k i) (.int k' j)).run P w = .ok z w ∧ RV S m v z := by
  cases op <;> simp only [] at h <;> try (simp at h; done)
  case shl =>
    split at h
    · simp at h
    · rename_i hj
      simp only [Option.some.injEq] at h; subst h
      refine ⟨_, ?_, .d (.int _ _)⟩
      simp [binOp, Op.shift, hj]
  case shr =>
    split at h
    · simp at h
    · rename_i hj
      simp only [Option.some.injEq] at h; subst h
      refine ⟨_, ?_, .d (.int _ _)⟩
      simp [binOp, Op.shift, hj]

theorem binV_sound {op : BinOp} {x y v : V} {a b : Value} (t : TypeId) (o1 o2 : Operand) (h : binV op x y = some v) (ha : RV S m x a) (hb : RV S m y b) :
    ∃ z, (eqGuard op t o1 o2 a b).run P m.w = .ok () m.w ∧ (binOp op t a b).run P m.w = .ok z m.w ∧ RV S m v z := by
  unfold binV at h
  split at h
  · rename_i k i k' j
    obtain rfl := ha.int_inv
    obtain rfl := hb.int_inv
    have gen : op ≠ .shl ∧ op ≠ .shr → (if k = k' then (intBin op k i j).map V.d else none) = some v → ∃ z, (binOp op t (.int k i) (.int k' j)).run P m.w = .ok z m.w ∧ RV S m v z := by
      clear h
      intro hs h'
      split at h'
      · rename_i hk; subst hk
        simp only [Option.map_eq_some_iff] at h'
        obtain ⟨d, hd, rfl⟩ := h'
        obtain ⟨z, h1, h2⟩ := intBin_sound (P := P) t m.w hs hd
        exact ⟨z, h1, .d (h2 _)⟩
      · simp at h'
    have key : ∃ z, (binOp op t (.int k i) (.int k' j)).run P m.w = .ok z m.w ∧ RV S m v z := by
      by_cases h1 : op = .shl
      · subst h1; exact shift_sound (op := .shl) t m.w h S m
      · by_cases h2 : op = .shr
        · subst h2; exact shift_sound (op := .shr) t m.w h S m
        · refine gen ⟨h1, h2⟩ ?_
          cases op <;> first | exact h | exact absurd rfl h1 | exact absurd rfl h2
    obtain ⟨z, h1, h2⟩ := key
    exact ⟨z, eqGuard_int op t o1 o2 k k' i j m.w, h1, h2⟩
  · rename_i s u
    simp only [Option.map_eq_some_iff] at h
    obtain ⟨d, hd, rfl⟩ := h
    cases ha with
    | d ha =>
      cases ha with
      | str bs l hbs =>
        cases hb with
        | d hb =>
          cases hb with
          | str cs l' hcs =>
            refine ⟨?z, eqGuard_str op t o1 o2 bs cs m.w, ?_, ?_⟩
            case z => exact match op with | .eql => .bool (s == u) | _ => .bool (!(s == u))
            all_goals
              cases op <;> simp only [strBin, Option.some.injEq] at hd <;> first | (simp at hd; done) | subst hd
            · simp [binOp, Op.stringOp, ByteArray.toList_eq, hbs, hcs]
            · simp [binOp, Op.stringOp, ByteArray.toList_eq, hbs, hcs]
            · exact .d (.bool _)
            · exact .d (.bool _)
  · simp at h

theorem boolBin_sound {op : BinOp} {p q : Bool} {v : V} {t : TypeId} (o1 o2 : Operand) (ht : P.underlying t = some .bool) (h : boolBin op p q = some v) :
    ∃ z, (eqGuard op t o1 o2 (.bool p) (.bool q)).run P m.w = .ok () m.w ∧ (binOp op t (.bool p) (.bool q)).run P m.w = .ok z m.w ∧ RV S m v z := by
  cases op <;> simp only [boolBin, Option.some.injEq] at h <;> first | (simp at h; done) | subst h
  · exact ⟨_, eqGuard_bool _ t o1 o2 p q m.w, run_eql_bool m.w t p q ht, .d (.bool _)⟩
  · exact ⟨_, eqGuard_bool _ t o1 o2 p q m.w, run_neq_bool m.w t p q ht, .d (.bool _)⟩

theorem unV_sound {op : UnOp} {x v : V} {a : Value} (h : unV op x = some v) (ha : RV S m x a) : ∃ z, (Op.unary op a).run P m.w = .ok z m.w ∧ RV S m v z := by
  unfold unV at h
  split at h
  · rename_i b
    obtain rfl : a = .bool b := by
      cases ha with
      | d hd => cases hd; rfl
    cases op <;> simp only [Option.some.injEq] at h <;> first | (simp at h; done) | subst h
    exact ⟨_, by simp [Op.unary], .d (.bool _)⟩
  · rename_i k n
    obtain rfl : a = .int k n := by
      cases ha with
      | d hd => cases hd; rfl
    cases op <;> simp only [Option.some.injEq] at h <;> first | (simp at h; done) | subst h
    exact ⟨.int k (k.wrap (0 - n)), by simp [Op.unary, Op.intArith], .d (.int _ _)⟩
  · simp at h

theorem convV_sound {s t : TypeId} {i j : TI} {x v : V} {a : Value} (hi : mkTI P s = some i) (hj : mkTI P t = some j) (h : convV i j x = some v) (ha : RV S m x a) : ∃ z, (convert s t a).run P m.w = .ok z m.w ∧ RV S m v z := by
  obtain ⟨_, d1, _, i2, i3, _⟩ := mkTI_spec hi
  obtain ⟨_, d2, _, j2, j3, _⟩ := mkTI_spec hj
  unfold convV at h
  split at h
  · rename_i k n
    obtain rfl : a = .int k n := by
      cases ha with
      | d hd => cases hd; rfl
    split at h
    · rename_i q hk
      rw [hk] at j3
      have := mkTK_int j3; subst this
      simp only [Option.some.injEq] at h; subst h
      refine ⟨.int q (q.wrap n), ?_, .d (.int _ _)⟩
      simp [convert, run_underlying i2, run_underlying j2, Conv.intToInt]
    · simp at h
  · rename_i s'
    split at h
    · rename_i hk1 hk2
      rw [hk1] at i3; rw [hk2] at j3
      have := mkTK_str i3; subst this
      have := mkTK_str j3; subst this
      simp only [Option.some.injEq] at h; subst h
      cases ha with
      | d hd =>
        cases hd with
        | str bs l hbs => exact ⟨.string bs, by simp [convert, run_underlying i2, run_underlying j2], .d (.str _ _ hbs)⟩
    · simp at h
  · simp at h

theorem mkFields_places : ∀ {fs : List Field} {l : List (Nat × Nat × Bool)}, mkFields P fs = some l → fs.mapM (fun f => (P.info? f.type).map fun i => (f.offset, i.size)) = some (l.map fun p => (p.1, p.2.1))
  | [], l, h => by simp [mkFields] at h; subst h; rfl
  | f :: fs, l, h => by
    simp only [mkFields] at h
    split at h
    · rename_i j u l' hj hu hl'
      simp at h; subst h
      have ih := mkFields_places hl'
      simp only [List.mapM_cons, hj, Option.map_some, ih]
      rfl
    · simp at h

theorem parts_rel {ρ : Operand → V} {σ : Operand → Value} (h : ∀ x, RV S m (ρ x) (σ x)) (ps : List (Nat × Operand)) : (ps.map fun p => (p.1, ρ p.2)).length = (ps.map fun p => (p.1, σ p.2)).length ∧
    ∀ (j : Nat) (a : Nat × V) (b : Nat × Value), (ps.map fun p => (p.1, ρ p.2))[j]? = some a → (ps.map fun p => (p.1, σ p.2))[j]? = some b → a.1 = b.1 ∧ RV S m a.2 b.2 := by
  refine ⟨by simp, fun j a b ha hb => ?_⟩
  rw [List.getElem?_map] at ha hb
  cases hp : ps[j]? with
  | none => simp [hp] at ha
  | some p => simp [hp] at ha hb; subst ha; subst hb; exact ⟨rfl, h p.2⟩

theorem build_sound {t : TypeId} {i : TI} {z cs : List V} {place : Nat → Option (Nat × Nat)} {ps : Array (Nat × Operand)} {ρ : Operand → V} {σ : Operand → Value} (hi : mkTI P t = some i) (hz : i.zero = some z) (hone : z.all V.one = true)
    (hpl : (∃ fs, i.k = .struct fs ∧ place = fun j => (fs[j]?).map fun f => (f.1, f.2.1)) ∨ (∃ n e sz ag, i.k = .array n e sz ag ∧ place = fun j => some (j * sz, sz)))
    (h : fillV place z (ps.toList.map fun p => (p.1, ρ p.2)) = some cs) (hρ : ∀ x, RV S m (ρ x) (σ x)) :
    ∃ ys : List Value, (Instr.build t (ps.map fun p => (p.1, σ p.2))).run P m.w = .ok (.agg ys.toArray) m.w ∧ RVs S m cs ys := by
  obtain ⟨inf, d, h1, h2, h3, _⟩ := mkTI_spec hi
  obtain ⟨v, g1, g2, g3⟩ := zero_spec hi hz m.w
  obtain ⟨r1, r2⟩ := parts_rel (S := S) (m := m) hρ ps.toList
  obtain ⟨ys, k1, k2, _, _⟩ := fillV_sound (xs := v.cells.toList) h (by rw [g2]; exact constVs_RVs _) hone r1 r2
  refine ⟨ys, ?_, k2⟩
  apply run_build
  have hzz : inf.zero = some v := by simpa [h1] using g3
  simp only [Array.toArray_toList] at k1
  rcases hpl with ⟨fs, hk, rfl⟩ | ⟨n, e, sz, ag, hk, rfl⟩
  · rw [hk] at h3
    obtain ⟨fields, rfl, hfs⟩ := mkTK_struct h3
    have hp := mkFields_places hfs
    simp only [Program.built, h1, h2, hzz, hp]
    simpa using k1
  · rw [hk] at h3
    obtain ⟨rfl, j, u, hj, _, hjs, _⟩ := mkTK_array h3
    simp only [Program.built, h1, h2, hzz, hj, hjs]
    simpa using k1

theorem closeParts_sound (hR : Rel S m) {fz : Bool} {m' : M} {all : List Nat} (hb : RoBy S m m' all) : ∀ {ps ps' : List (Nat × V)} {ids : List Nat} {qs : List (Nat × Value)}, closeParts m.h fz ps = some (ps', ids) → ps.length = qs.length →
    (∀ (j : Nat) (a : Nat × V) (b : Nat × Value), ps[j]? = some a → qs[j]? = some b → a.1 = b.1 ∧ RV S m a.2 b.2) → (∀ i ∈ ids, i ∈ all) →
    ps'.length = qs.length ∧ ∀ (j : Nat) (a : Nat × V) (b : Nat × Value), ps'[j]? = some a → qs[j]? = some b → a.1 = b.1 ∧ RV S m' a.2 b.2
  | [], ps', ids, qs, h, hl, hp, hi => by simp [closeParts] at h; obtain ⟨rfl, rfl⟩ := h; exact ⟨hl, fun j a b ha => by simp at ha⟩
  | (i, x) :: r, ps', ids, qs, h, hl, hp, hi => by
    cases qs with
    | nil => simp at hl
    | cons q qs =>
      obtain ⟨i', y⟩ := q
      obtain ⟨e1, e2⟩ := hp 0 (i, x) (i', y) rfl rfl
      simp only at e1 e2
      subst e1
      simp only [closeParts] at h
      split at h
      · rename_i w aa ws bb h1 h2
        simp at h; obtain ⟨rfl, rfl⟩ := h
        obtain ⟨g1, g2⟩ := closeParts_sound (qs := qs) hR hb h2 (by simpa using hl) (fun j a b ha hb => hp (j + 1) a b (by simpa using ha) (by simpa using hb)) (fun i hi' => hi i (List.mem_append_right _ hi'))
        refine ⟨by simp [g1], fun j a b ha hb' => ?_⟩
        cases j with
        | zero => simp at ha hb'; subst ha; subst hb'; exact ⟨rfl, cl2_sound hR h1 e2 hb fun i hi' => hi i (List.mem_append_left _ hi')⟩
        | succ j => exact g2 j a b (by simpa using ha) (by simpa using hb')
      · simp at h

end Go.Ab
end
