/- The abstract machine: append, copy, make, slicing, indexing. No conditions. -/
import Derived.Test.YtofbmhmdpeclnaaAbG
set_option linter.unusedVariables false
set_option linter.unusedSimpArgs false
namespace Go.Ab
variable {P : Program} {S : Nat → Prop} {m : M}

theorem setRow_self {w : World} {b : Nat} {cs : Array Value} {T : TypeId} {fz : Nat × Nat} (h : w.heap[b]? = some (Obj.cells cs T fz)) : w.setRow b cs = w := by
  have := run_storeCells_mid (P := default) b 0 T fz
  have hlt : b < w.heap.size := (Array.getElem?_eq_some_iff.1 h).1
  have hv : w.heap[b] = .cells cs T fz := (Array.getElem?_eq_some_iff.1 h).2
  unfold World.setRow
  cases w with
  | mk heap tape drawn os output =>
    congr 1
    apply Array.ext
    · simp
    · intro k h1 h2
      simp only [Array.getElem_modify]
      split
      · rename_i hk; subst hk; simp at hv; simp [hv]
      · rfl

theorem appendV_sound {n c : Nat} {t ty : TypeId} {i : TI} {s x : V} {r : Res} {v y : Value} (hi : mkTI P t = some i) (h : appendV m.h n c i s x = some r) (hR : Rel S m) (hf : Fresh m c r.dc)
    (hv : RV S m s v) (hy : RV S m x y) : ∃ z m', (Builtin.append_ #[t, t] ty #[v, y]).run P m.w = .ok z m'.w ∧ After S m c r z m' := by
  obtain ⟨inf, d, h1, h2, h3, _⟩ := mkTI_spec hi
  unfold appendV at h
  split at h
  · rename_i e sz by_ hk
    rw [hk] at h3
    obtain ⟨rfl, j, hj, hjs, hjb⟩ := mkTK_slice h3
    split at h
    · rename_i mm xs rx hrows
      obtain ⟨b, kb, rfl, hb1, hb2, ys, hys, hyl, hyo, hyn, hyc⟩ := rowsOf_sound hrows hy hR
      have hysl : ys.length = mm * sz := by rw [← hys.1, hyl]
      split at h
      · -- a slice of which nothing is left
        rename_i rows
        split at h
        · rename_i hall hfit hne
          simp only [Option.some.injEq] at h; subst h
          obtain ⟨a, ka, hva, ha1, ha2, xa, hxa, hxl, hxo, hxn, hxc⟩ := rowsOf_sound (sz := sz) (n := rows.length) (vs := rows.flatten.map .d) (rd := []) (by simp only [rowsOf]; rw [if_pos hall]) hv hR
          have hka : ka = rows.length := by
            cases hv with
            | full hd => simp at hva; exact hva.2.symm
          subst hka
          subst hva
          obtain ⟨hb, z, hz, hzs⟩ := hjb (fitsB_spec hfit).1
          by_cases hm : mm = 0
          · subst hm
            have hr0 : rows = [] := by simpa [Nat.blt] using hne
            subst hr0
            have hys0 : ys = [] := List.length_eq_zero_iff.1 (by rw [hysl]; simp)
            have hxs0 : xs = [] := List.length_eq_zero_iff.1 (by rw [hyl]; simp)
            subst hys0; subst hxs0
            obtain ⟨m', w1, w2, w3, w4, w5, w6⟩ := virt_obj (id := n) (o' := ⟨c, false, []⟩) (c := c) (dc := 1) hR rfl (hf n c (Nat.le_refl _) (by simp)) rfl rfl
            refine ⟨.slice a 0 0, m', ?_, w5, w6, ?_, by rw [w2]; rfl, w4⟩
            · cases a with
              | none => rw [w1]; simp only [List.length_nil]; exact run_inplace_none t ty e j m.w h2 hj
              | some p =>
                rw [w1]
                exact run_inplace_some t ty e j m.w m.w h2 hj (p := p) (sLen := 0) (sCap := 0) (n := 0) (news := []) (by simp) (fun _ => rfl) (fun _ _ j y hy => by simp at hy) (Nat.le_refl _) (by simp [storeCells])
            · refine .osl (by rw [w4]; exact .inr ⟨Nat.le_refl _, by omega⟩) rfl fun o ho hg => ?_
              unfold OslOK
              rw [w3]
              simp
          · obtain ⟨z', m', g1, g2, g3, g4, g5, g6⟩ := grow_obj (id := n) (c := c) (sz := sz) (n0 := rows.length) (n1 := mm) (by_ := by_) (t := t) (ty := ty) (e := e) (i := j) (z := z) (a := a) (b := b) (sCap := rows.length) (k := kb) hR h2 hj hz hjs hzs hb hfit
              hxa hys hxl hyl hxo hyo hxn hyn hxc hyc (by omega) (hf n c (Nat.le_refl _) (by simp))
            exact ⟨z', m', g1, g2, g3, g4, by rw [g5]; rfl, g6⟩
        · simp at h
      · rename_i id g off len sz' cap
        split at h
        · rename_i o hl hbeq
          have hsz' : sz = sz' := Nat.eq_of_beq_eq_true hbeq
          subst hsz'
          split at h
          · rename_i hfit hle
            have hle' := Nat.le_of_ble_eq_true hle
            obtain ⟨hb, z, hz, hzs⟩ := hjb (fitsB_spec hfit).1
            obtain ⟨ho, hgen, hok⟩ := hv.osl_live hl
            obtain ⟨a, ka, hva, ha1, ha2, xa, hxa, hxl, hxo, hxn, hxc⟩ := rowsOf_sound (sz := sz) (n := len) (vs := (o.cells.drop off).take (len * sz)) (rd := [id]) (by simp only [rowsOf, hl, hbeq, hle]) hv hR
            have hsum : (len + mm) * sz = len * sz + mm * sz := Nat.add_mul _ _ _
            -- in place
            have inplace : ∀ (b0 base : Nat) (p : Addr) (k : Nat) (cs : Array Value) (T : TypeId) (fz : Nat × Nat), m.w.heap[b0]? = some (Obj.cells cs T fz) → fz.2 ≤ fz.1 → v = .slice (some p) len k → (p = ⟨b0, base + off, none⟩ ∨ (len = 0 ∧ k = 0)) →
                len + mm ≤ k → base + off + (len + mm) * sz ≤ cs.size → (Builtin.append_ #[t, t] ty #[v, .slice b mm kb]).run P m.w = .ok (.slice (some p) (len + mm) k) (m.w.setRow b0 (splice cs (base + off + len * sz) ys)) := by
              intro b0 base p k cs T fz hrow hfz hvp hp hle2 hbound
              subst hvp
              refine run_inplace_some t ty e j m.w _ h2 hj (by rw [hjs, hysl]) hyn hyc hle2 ?_
              rw [hjs]
              rcases hp with rfl | ⟨rfl, rfl⟩
              · have := run_storeCells_mid (P := P) b0 (base + off + len * sz) T fz hfz ys 0 cs m.w hrow (by omega) (hys.ones hyo)
                rw [addr_add]
                simpa using this
              · have hm0 : mm = 0 := by omega
                subst hm0
                have : ys = [] := List.length_eq_zero_iff.1 (by rw [hysl]; simp)
                subst this
                simp only [storeCells, splice, List.length_nil, Nat.add_zero, List.append_nil, List.take_append_drop, Array.toArray_toList]
                rw [setRow_self hrow]
                rfl
            split at h
            · -- the capacity is known
              rename_i q
              split at h
              · rename_i hq hro hlq
                simp only [Option.some.injEq] at h; subst h
                have hq' := Nat.le_of_ble_eq_true hq
                have hlq' := Nat.le_of_ble_eq_true hlq
                unfold OslOK at hok
                cases hat : m.at_ id with
                | none => simp [hat] at hok
                | some bb =>
                  obtain ⟨b0, base⟩ := bb
                  simp only [hat] at hok
                  obtain ⟨p, k, hvp, hp, k2, k3, k4, ⟨cs, T, fz, k5, k6⟩, k7, k8⟩ := hok
                  subst k7
                  obtain ⟨hS, cs0, T0, fz0, hrow, hfz, hsz, hc⟩ := hR.obj id o b0 base ho hat
                  have hmul : (len + mm) * sz ≤ k * sz := Nat.mul_le_mul_right _ hq'
                  have hrun := inplace b0 base p k cs0 T0 fz0 hrow hfz hvp hp hq' (by omega)
                  have hspl : (splice cs0 (base + off + len * sz) ys).size = cs0.size := splice_size (by omega)
                  obtain ⟨m', w1, w2, w3, w4, w5, w6⟩ := write_obj (c := c) (dc := 0) (w' := m.w.setRow b0 (splice cs0 (base + off + len * sz) ys))
                    (o' := ⟨g, false, o.cells.take (off + len * sz) ++ xs ++ o.cells.drop (off + (len + mm) * sz)⟩) hR ho hat hro hrow rfl (base' := base) hspl (by
                      rw [hspl]; simp [hyl]; omega) (.inl ⟨hgen.symm, rfl, by simp [hyl]; omega, rfl⟩) (by
                      intro jj u hu
                      simp only [List.append_assoc] at hu
                      rw [List.getElem?_append] at hu
                      have htl : (List.take (off + len * sz) o.cells).length = off + len * sz := by simp; omega
                      rw [htl] at hu
                      split at hu
                      · rename_i hjj
                        rw [List.getElem?_take] at hu; rw [if_pos hjj] at hu
                        obtain ⟨q1, y1, q2, q3⟩ := hc jj u hu
                        exact ⟨q1, y1, by rw [splice_get (by omega), if_pos (by omega)]; exact q2, q3⟩
                      · rename_i hjj
                        rw [List.getElem?_append] at hu
                        split at hu
                        · rename_i hjj2
                          obtain ⟨y1, q1, q2⟩ := hys.get hu
                          refine ⟨List.all_eq_true.1 hyo u (List.mem_of_getElem? hu), y1, ?_, q2⟩
                          rw [splice_get (by omega), if_neg (by omega), if_pos (by omega), show base + jj - (base + off + len * sz) = jj - (off + len * sz) by omega]
                          exact q1
                        · rename_i hjj2
                          rw [List.getElem?_drop] at hu
                          obtain ⟨q1, y1, q2, q3⟩ := hc _ u hu
                          refine ⟨q1, y1, ?_, q3⟩
                          rw [splice_get (by omega), if_neg (by omega), if_neg (by omega), ← q2]
                          congr 1; omega)
                  refine ⟨_, m', by rw [w1]; exact hrun, w5, w6, ?_, by rw [w2]; rfl, w4⟩
                  refine .osl (by rw [w4]; cases hv with | osl hi _ _ => exact .inl hi) rfl fun o2 ho2 hg2 => ?_
                  rw [w2] at ho2; simp at ho2; subst ho2
                  unfold OslOK
                  rw [w3]
                  simp only [upd_same]
                  refine ⟨p, k, rfl, ?_, by simp [hyl]; omega, hq', k4, ⟨_, T0, fz0, by rw [w1]; exact setRow_heap m.w b0 cs0 _ T0 fz0 hrow, ?_⟩, rfl, by simp [hyl]; omega⟩
                  · rcases hp with hp | ⟨_, hp⟩
                    · exact .inl hp
                    · exact .inr ⟨by omega, hp⟩
                  · rw [hspl]
                    rw [hrow] at k5
                    injection k5 with k5; injection k5 with k5 _ _; subst k5
                    exact k6
              · rename_i hq
                simp only [Option.some.injEq] at h; subst h
                have hq' : q < len + mm := by
                  rcases Nat.lt_or_ge q (len + mm) with h' | h'
                  · exact h'
                  · have := Nat.ble_eq_true_of_le h'; rw [hq] at this; cases this
                have hka : ka = q := by
                  unfold OslOK at hok
                  cases hat : m.at_ id with
                  | none => simp [hat] at hok
                  | some bb =>
                    obtain ⟨b0, base⟩ := bb
                    simp only [hat] at hok
                    obtain ⟨p, k, hvp, hp, k2, k3, k4, _, k7, k8⟩ := hok
                    subst k7
                    rw [hva] at hvp
                    simp at hvp; exact hvp.2
                subst hva
                subst hka
                obtain ⟨z', m', g1, g2, g3, g4, g5, g6⟩ := grow_obj (id := n) (c := c) (sz := sz) (n0 := len) (n1 := mm) (by_ := by_) (t := t) (ty := ty) (e := e) (i := j) (z := z) (a := a) (b := b) (sCap := ka) (k := kb) hR h2 hj hz hjs hzs hb hfit
                  hxa hys hxl hyl hxo hyo hxn hyn hxc hyc hq' (hf n c (Nat.le_refl _) (by simp))
                exact ⟨z', m', g1, g2, g3, g4, by rw [g5]; rfl, g6⟩
              · simp at h
            · -- the capacity is open
              split at h
              · rename_i hro
                simp only [Option.some.injEq] at h; subst h
                have hiss : ¬ m.iss id c := hf id c (Nat.le_refl _) (by simp)
                have grows : ka < len + mm → ∃ z' m', (Builtin.append_ #[t, t] ty #[v, .slice b mm kb]).run P m.w = .ok z' m'.w ∧ After S m c ⟨.osl id c 0 (len + mm) sz none, [(id, ⟨c, false, (o.cells.drop off).take (len * sz) ++ xs⟩)], id :: rx, 0, 1, false⟩ z' m' := by
                  intro hgt
                  obtain ⟨z', m', g1, g2, g3, g4, g5, g6⟩ := grow_obj (id := id) (c := c) (sz := sz) (n0 := len) (n1 := mm) (by_ := by_) (t := t) (ty := ty) (e := e) (i := j) (z := z) (a := a) (b := b) (sCap := ka) (k := kb) hR h2 hj hz hjs hzs hb hfit
                    hxa hys hxl hyl hxo hyo hxn hyn hxc hyc hgt hiss
                  exact ⟨z', m', by rw [hva]; exact g1, g2, g3, g4, by rw [g5]; rfl, g6⟩
                by_cases hgt : ka < len + mm
                · exact grows hgt
                · unfold OslOK at hok
                  cases hat : m.at_ id with
                  | none =>
                    simp only [hat] at hok
                    obtain ⟨rfl, rfl, _, a', hva'⟩ := hok
                    have hka0 : ka = 0 := by rw [hva] at hva'; simp at hva'; exact hva'.2
                    subst hka0
                    have hm0 : mm = 0 := by omega
                    subst hm0
                    have hys0 : ys = [] := List.length_eq_zero_iff.1 (by rw [hysl]; simp)
                    have hxs0 : xs = [] := List.length_eq_zero_iff.1 (by rw [hyl]; simp)
                    subst hys0; subst hxs0
                    obtain ⟨m', w1, w2, w3, w4, w5, w6⟩ := virt_obj (id := id) (o' := ⟨c, false, (o.cells.drop 0).take (0 * sz) ++ []⟩) (c := c) (dc := 1) hR (by simp) hiss rfl rfl
                    refine ⟨.slice a 0 0, m', ?_, w5, w6, ?_, by rw [w2]; rfl, w4⟩
                    · rw [hva, w1]
                      cases a with
                      | none => exact run_inplace_none t ty e j m.w h2 hj
                      | some p => exact run_inplace_some t ty e j m.w m.w h2 hj (p := p) (sLen := 0) (sCap := 0) (n := 0) (news := []) (by simp) (fun _ => rfl) (fun _ _ j y hy => by simp at hy) (Nat.le_refl _) (by simp [storeCells])
                    · refine .osl (by rw [w4]; exact .inr ⟨Nat.le_refl _, by omega⟩) rfl fun o2 ho2 hg2 => ?_
                      unfold OslOK
                      rw [w3]
                      simp
                  | some bb =>
                    obtain ⟨b0, base⟩ := bb
                    simp only [hat] at hok
                    obtain ⟨p, k, hvp, hp, k2, k3, k4, ⟨cs, T, fz, k5, k6⟩, _⟩ := hok
                    have hkk : ka = k := by rw [hva] at hvp; simp at hvp; exact hvp.2
                    subst hkk
                    obtain ⟨hS, cs0, T0, fz0, hrow, hfz, hsz, hc⟩ := hR.obj id o b0 base ho hat
                    rw [hrow] at k5
                    injection k5 with k5; injection k5 with k5 _ _; subst k5
                    have hmul : (len + mm) * sz ≤ ka * sz := Nat.mul_le_mul_right _ (by omega)
                    have hrun := inplace b0 base p ka cs0 T0 fz0 hrow hfz hvp hp (by omega) (by omega)
                    have hspl : (splice cs0 (base + off + len * sz) ys).size = cs0.size := splice_size (by omega)
                    obtain ⟨m', w1, w2, w3, w4, w5, w6⟩ := write_obj (c := c) (dc := 1) (w' := m.w.setRow b0 (splice cs0 (base + off + len * sz) ys))
                      (o' := ⟨c, false, (o.cells.drop off).take (len * sz) ++ xs⟩) hR ho hat hro hrow rfl (base' := base + off) hspl (by
                        rw [hspl]; simp [hyl]; omega) (.inr ⟨hiss, rfl, rfl⟩) (by
                        intro jj u hu
                        rw [List.getElem?_append] at hu
                        have htl : (List.take (len * sz) (List.drop off o.cells)).length = len * sz := by simp; omega
                        rw [htl] at hu
                        split at hu
                        · rename_i hjj
                          rw [List.getElem?_take, if_pos hjj, List.getElem?_drop] at hu
                          obtain ⟨q1, y1, q2, q3⟩ := hc _ u hu
                          refine ⟨q1, y1, ?_, q3⟩
                          rw [splice_get (by omega), if_pos (by omega), ← q2]
                          congr 1; omega
                        · rename_i hjj
                          obtain ⟨y1, q1, q2⟩ := hys.get hu
                          have hjl : jj - len * sz < ys.length := (List.getElem?_eq_some_iff.1 q1).1
                          refine ⟨List.all_eq_true.1 hyo u (List.mem_of_getElem? hu), y1, ?_, q2⟩
                          rw [splice_get (by omega), if_neg (by omega), if_pos (by omega), show base + off + jj - (base + off + len * sz) = jj - len * sz by omega]
                          exact q1)
                    refine ⟨_, m', by rw [w1]; exact hrun, w5, w6, ?_, by rw [w2]; rfl, w4⟩
                    refine .osl (by rw [w4]; exact .inr ⟨Nat.le_refl _, by omega⟩) rfl fun o2 ho2 hg2 => ?_
                    rw [w2] at ho2; simp at ho2; subst ho2
                    unfold OslOK
                    rw [w3]
                    simp only [upd_same]
                    refine ⟨p, ka, rfl, ?_, by simp [hyl]; omega, by omega, k4, ⟨_, T0, fz0, by rw [w1]; exact setRow_heap m.w b0 cs0 _ T0 fz0 hrow, ?_⟩, trivial⟩
                    · rcases hp with hp | ⟨_, hp⟩
                      · exact .inl (by rw [hp, Nat.add_zero])
                      · exact .inr ⟨by omega, hp⟩
                    · rw [hspl]; omega
              · simp at h
          · simp at h
        · simp at h
      · simp at h
    · simp at h
  · simp at h

end Go.Ab
