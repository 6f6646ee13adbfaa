/- The abstract machine: each operation does in the model what the abstract machine says. No conditions. -/
import Derived.Test.YtofbmhmdpeclnaaAbC
import Derived.Laws.Slices
set_option linter.unusedVariables false
set_option linter.unusedSimpArgs false
namespace Go.Ab
variable {P : Program} {S : Nat → Prop} {m : M}

/-! ### Types -/

theorem mkTI_spec {t : TypeId} {i : TI} (h : mkTI P t = some i) : ∃ inf d, P.info? t = some inf ∧ P.underlying t = some d ∧ mkTK P d = some i.k ∧ i.size = inf.size ∧ i.bytes = inf.bytes ∧
    i.zero = inf.zero.map (fun v => v.cells.toList.map constV1) := by
  unfold mkTI at h
  cases hi : P.info? t with
  | none => simp [hi] at h
  | some inf =>
    cases hu : P.underlying t with
    | none => simp [hi, hu] at h
    | some d =>
      simp only [hi, hu, Option.map_eq_some_iff] at h
      obtain ⟨k, hk, rfl⟩ := h
      exact ⟨inf, d, rfl, rfl, hk, rfl, rfl, rfl⟩

theorem mkTK_slice {d : TypeDesc} {e sz by_ : Nat} (h : mkTK P d = some (.slice e sz by_)) : d = .slice e ∧ ∃ j, P.info? e = some j ∧ j.size = sz ∧ (1 ≤ by_ → j.bytes = by_ ∧ ∃ z, j.zero = some z ∧ z.cells.size = sz) := by
  cases d <;> simp only [mkTK] at h <;> try (simp at h; done)
  case slice e' =>
    simp only [Option.map_eq_some_iff] at h
    obtain ⟨j, hj, hk⟩ := h
    injection hk with h1 h2 h3
    subst h1; subst h2
    refine ⟨rfl, j, hj, rfl, fun hb => ?_⟩
    cases hz : j.zero with
    | none => simp [hz] at h3; omega
    | some z =>
      simp only [hz] at h3
      split at h3
      · rename_i hs; exact ⟨h3, z, rfl, hs⟩
      · omega
  case array n e' =>
    split at h <;> simp at h

theorem mkTK_str {d : TypeDesc} (h : mkTK P d = some .str) : d = .string := by
  cases d <;> simp only [mkTK] at h <;> try (simp at h; done)
  case string => rfl
  case array n e' => split at h <;> simp at h

theorem mkTK_bool {d : TypeDesc} (h : mkTK P d = some .bool) : d = .bool := by
  cases d <;> simp only [mkTK] at h <;> try (simp at h; done)
  case bool => rfl
  case array n e' => split at h <;> simp at h

theorem mkTK_int {d : TypeDesc} {k : IntKind} (h : mkTK P d = some (.int k)) : d = .int k := by
  cases d <;> simp only [mkTK] at h <;> try (simp at h; done)
  case int k' => simp at h; rw [h]
  case array n e' => split at h <;> simp at h

theorem mkTK_struct {d : TypeDesc} {l : List (Nat × Nat × Bool)} (h : mkTK P d = some (.struct l)) : ∃ fs, d = .struct fs ∧ mkFields P fs.toList = some l := by
  cases d <;> simp only [mkTK] at h <;> try (simp at h; done)
  case struct fs =>
    simp only [Option.map_eq_some_iff] at h
    obtain ⟨j, hj, hk⟩ := h
    injection hk with h1
    subst h1
    exact ⟨fs, rfl, hj⟩
  case array n e' => split at h <;> simp at h

theorem mkTK_array {d : TypeDesc} {n e sz : Nat} {ag : Bool} (h : mkTK P d = some (.array n e sz ag)) : d = .array n e ∧ ∃ j u, P.info? e = some j ∧ P.underlying e = some u ∧ j.size = sz ∧ aggT P e = ag := by
  cases d <;> simp only [mkTK] at h <;> try (simp at h; done)
  case array n' e' =>
    split at h
    · rename_i j u hj hu
      simp at h
      obtain ⟨rfl, rfl, h1, h2⟩ := h
      exact ⟨rfl, j, u, hj, hu, h1, h2⟩
    · simp at h

theorem mkFields_get : ∀ {fs : List Field} {l : List (Nat × Nat × Bool)}, mkFields P fs = some l → ∀ {f : Nat} {off size : Nat} {ag : Bool}, l[f]? = some (off, size, ag) →
    ∃ fd j u, fs[f]? = some fd ∧ P.info? fd.type = some j ∧ P.underlying fd.type = some u ∧ fd.offset = off ∧ j.size = size ∧ aggT P fd.type = ag
  | [], l, h, f, off, size, ag, hl => by simp [mkFields] at h; subst h; simp at hl
  | fd :: fs, l, h, f, off, size, ag, hl => by
    simp only [mkFields] at h
    split at h
    · rename_i j u l' hj hu hl'
      simp at h
      subst h
      cases f with
      | zero => simp at hl; obtain ⟨h1, h2, h3⟩ := hl; exact ⟨fd, j, u, rfl, hj, hu, h1, h2, h3⟩
      | succ f => simp at hl; obtain ⟨fd', j', u', h1, h2⟩ := mkFields_get hl' hl; exact ⟨fd', j', u', by simpa using h1, h2⟩
    · simp at h

theorem run_isAgg {t : TypeId} {d : TypeDesc} (h : P.underlying t = some d) (w : World) : (isAgg t).run P w = .ok (aggT P t) w := by
  unfold isAgg aggT
  simp only [Sem.run_bind, run_underlying h, Result.andThen_ok, h]
  cases d <;> rfl

theorem agg_eq {t : TypeId} {i : TI} (h : mkTI P t = some i) : i.agg = aggT P t := by
  obtain ⟨inf, d, h1, h2, h3, _⟩ := mkTI_spec h
  unfold TI.agg aggT
  rw [h2]
  cases d <;> simp only [mkTK] at h3 <;> try (simp at h3; rw [← h3]; done)
  case slice e => simp only [Option.map_eq_some_iff] at h3; obtain ⟨j, _, h4⟩ := h3; rw [← h4]
  case struct fs => simp only [Option.map_eq_some_iff] at h3; obtain ⟨j, _, h4⟩ := h3; rw [← h4]
  case array n e => split at h3 <;> simp at h3; rw [← h3]

theorem run_sizeOf' {t : TypeId} {inf : TypeInfo} (h : P.info? t = some inf) (w : World) : (sizeOf t).run P w = .ok inf.size w := by
  simp [sizeOf, typeInfo, h]

/-! ### Constants -/

theorem constV1_RV (v : Value) : RV S m (constV1 v) v := by
  unfold constV1
  split
  · exact .d (.bool _)
  · exact .d (.int _ _)
  · exact .d (.str _ _ rfl)
  · exact .full (rows := []) (.empty none 0 (Nat.zero_le _))
  · exact .con _

theorem constVs_RVs (vs : List Value) : RVs S m (vs.map constV1) vs := by
  refine ⟨by simp, fun j v x hv hx => ?_⟩
  rw [List.getElem?_map, hx] at hv
  simp at hv; subst hv
  exact constV1_RV x

theorem constV_RV (v : Value) : RV S m (constV v) v := by
  unfold constV
  split
  · rename_i cs
    exact .agg (by simp) fun j x y hx hy => (constVs_RVs cs.toList).2 j x y hx (by simpa using hy)
  · exact constV1_RV v

theorem RVs.agg {cs : List V} {xs : List Value} (h : RVs S m cs xs) : RV S m (.agg cs) (.agg xs.toArray) :=
  .agg (by simp [h.1]) fun j x y hx hy => h.2 j x y hx (by simpa using hy)

theorem RV.agg_vals {cs : List V} {v : Value} (h : RV S m (.agg cs) v) : ∃ xs : List Value, v = .agg xs.toArray ∧ RVs S m cs xs := by
  cases h with
  | agg hl h => rename_i vs; exact ⟨vs.toList, by simp, by simp [hl], fun j x y hx hy => h j x y hx (by simpa using hy)⟩

theorem RV.tuple_vals {cs : List V} {v : Value} (h : RV S m (.tuple cs) v) : ∃ xs : List Value, v = .tuple xs.toArray ∧ RVs S m cs xs := by
  cases h with
  | tuple hl h => rename_i vs; exact ⟨vs.toList, by simp, by simp [hl], fun j x y hx hy => h j x y hx (by simpa using hy)⟩

/-- The cells of a value that may be stored. -/
theorem cellsV_spec {x : V} {xs : List V} {v : Value} (h : cellsV x = some xs) (hv : RV S m x v) : ∃ ys : List Value, v.cells = ys.toArray ∧ RVs S m xs ys ∧ xs.all V.one = true := by
  have vc : ∀ v : Value, v.oneCell' = true → v.cells = #[v] := by intro v hv; cases v <;> first | rfl | simp [Value.oneCell'] at hv
  cases x
  case agg cs =>
    simp only [cellsV] at h
    split at h
    · rename_i hall
      simp at h; subst h
      obtain ⟨ys, rfl, hys⟩ := hv.agg_vals
      exact ⟨ys, rfl, hys, hall⟩
    · simp at h
  all_goals
    simp only [cellsV] at h
    split at h
    · rename_i h1
      simp only [Option.some.injEq] at h; subst h
      exact ⟨[v], by simp [vc v (hv.one h1)], .cons hv .nil, by simp only [List.all_cons, List.all_nil, Bool.and_true]; exact h1⟩
    · simp at h

/-! ### Loading -/

theorem readV_spec {i : TI} {cs : List V} {v : V} {xs : List Value} {b o : Nat} {t : TypeId} {w : World} (hi : mkTI P t = some i) (h : readV i cs = some v) (hv : RVs S m cs xs)
    (hc : ∀ (j : Nat) (x : Value), xs[j]? = some x → w.cell? ⟨b, o + j, none⟩ = some x) :
    ∃ x, (loadVar t ⟨b, o, none⟩).run P w = .ok x w ∧ RV S m v x := by
  obtain ⟨inf, d, h1, h2, h3, h4, _⟩ := mkTI_spec hi
  have ha := agg_eq hi
  unfold readV at h
  cases hag : i.agg with
  | true =>
    simp only [hag] at h
    split at h
    · rename_i hb
      have hlen := Nat.eq_of_beq_eq_true hb
      simp at h; subst h
      have hl : (xs.take i.size).length = inf.size := by
        have := (hv.take i.size).1
        omega
      refine ⟨.agg (xs.take i.size).toArray, ?_, (hv.take i.size).agg⟩
      have hld := run_loadCells_list (P := P) w ⟨b, o, none⟩ (xs.take i.size) (fun j x hx => by
        rw [addr_add]
        rw [List.getElem?_take] at hx
        split at hx
        · exact hc j x hx
        · simp at hx)
      rw [hl] at hld
      simp [loadVar, run_isAgg h2, ← ha, hag, run_sizeOf' h1, hld]
    · simp at h
  | false =>
    simp only [hag] at h
    cases cs with
    | nil => simp at h
    | cons c cs =>
      simp at h; subst h
      obtain ⟨x, ys, rfl, hx, _⟩ := hv.cases
      refine ⟨x, ?_, hx⟩
      have h0 := hc 0 x rfl
      simp only [Nat.add_zero] at h0
      simp [loadVar, run_isAgg h2, ← ha, hag, h0]

theorem loadV_sound {look : Look} {i : TI} {t : TypeId} {p : V} {v : Value} {r : Res} {c : Nat} (hi : mkTI P t = some i) (h : loadV look i p = some r) (hl : look = m.h) (hR : Rel S m) (hv : RV S m p v) :
    ∃ x, (Instr.loadAt t v).run P m.w = .ok x m.w ∧ After S m c r x m := by
  unfold loadV at h
  split at h
  · rename_i id g off
    cases hlv : live look id g with
    | none => simp [hlv] at h
    | some o =>
      simp only [hlv, Option.bind_eq_some_iff] at h
      obtain ⟨y, hy, hr⟩ := h
      simp [retR] at hr; subst hr
      obtain ⟨ho, _, b, base, hat, rfl⟩ := hv.ptr_live (hl ▸ hlv)
      obtain ⟨xs, hxs, _, hc⟩ := hR.vals ho hat
      obtain ⟨x, hx1, hx2⟩ := readV_spec (w := m.w) (b := b) (o := base + off) hi hy (hxs.drop off) (fun j x hx => by
        rw [List.getElem?_drop] at hx
        have := hc _ x hx
        rwa [← Nat.add_assoc] at this)
      refine ⟨x, ?_, After.quiet hR hx2⟩
      simp [Instr.loadAt, Instr.sureAddr, hx1]
  · rename_i ds
    simp only [Option.bind_eq_some_iff] at h
    obtain ⟨y, hy, hr⟩ := h
    simp [ret] at hr; subst hr
    cases hv with
    | vref f hf hr =>
      rename_i b off
      obtain ⟨x, hx1, hx2⟩ := readV_spec (S := S) (m := m) (w := m.w) (b := b) (o := off) (xs := (List.range ds.length).map f) hi hy
        (RVs.map_d (by simp) (fun j d x hd hx => by
          have hj : j < ds.length := (List.getElem?_eq_some_iff.1 hd).1
          simp [hj] at hx
          subst hx
          exact hr j d hd))
        (fun j x hx => by
          have hj : j < ds.length := by
            have := (List.getElem?_eq_some_iff.1 hx).1
            simpa using this
          simp [hj] at hx
          subst hx
          exact (hf j ds[j] (by simp [hj])).2)
      refine ⟨x, ?_, After.quiet hR hx2⟩
      simp [Instr.loadAt, Instr.sureAddr, hx1]
  · simp at h

/-! ### Storing -/

def splice (cs : Array Value) (o : Nat) (xs : List Value) : Array Value := (cs.toList.take o ++ xs ++ cs.toList.drop (o + xs.length)).toArray

theorem splice_size {cs : Array Value} {o : Nat} {xs : List Value} (h : o + xs.length ≤ cs.size) : (splice cs o xs).size = cs.size := by
  simp [splice]; omega

theorem splice_get {cs : Array Value} {o : Nat} {xs : List Value} (h : o + xs.length ≤ cs.size) (j : Nat) :
    (splice cs o xs)[j]? = if j < o then cs[j]? else if j < o + xs.length then xs[j - o]? else cs[j]? := by
  simp only [splice, List.getElem?_toArray, List.append_assoc]
  rw [List.getElem?_append]
  have hl : (List.take o cs.toList).length = o := by simp; omega
  rw [hl]
  split
  · simp [*]
  · rw [List.getElem?_append]
    split
    · rename_i h1 h2; rw [if_pos (by omega)]
    · rename_i h1 h2
      rw [if_neg (by omega), List.getElem?_drop]
      rw [show o + xs.length + (j - o - xs.length) = j by omega]; simp

theorem run_storeCells_mid (b o : Nat) (T : TypeId) (fz : Nat × Nat) (hfz : fz.2 ≤ fz.1) : ∀ (xs : List Value) (i : Nat) (cs : Array Value) (w : World), w.heap[b]? = some (Obj.cells cs T fz) → o + i + xs.length ≤ cs.size →
    (∀ v ∈ xs, v.oneCell' = true) → (storeCells ⟨b, o, none⟩ xs i).run P w = .ok () (w.setRow b (splice cs (o + i) xs))
  | [], i, cs, w, hg, hl, _ => by
    have : splice cs (o + i) [] = cs := by simp [splice]
    rw [this]
    have hlt : b < w.heap.size := (Array.getElem?_eq_some_iff.1 hg).1
    have hv : w.heap[b] = .cells cs T fz := (Array.getElem?_eq_some_iff.1 hg).2
    simp only [storeCells]
    show Result.ok () w = _
    congr 1
    unfold World.setRow
    cases w with
    | mk heap tape drawn os output =>
      congr 1
      apply Array.ext
      · simp
      · intro k h1 h2
        simp only [Array.getElem_modify]
        split
        · rename_i hk; subst hk; simp at hv; simp [hv]
        · rfl
  | v :: rest, i, cs, w, hg, hl, h1 => by
    have hi : o + i < cs.size := by simp at hl; omega
    have hcell : w.cell? ⟨b, o + i, none⟩ = some cs[o + i] := by simp [World.cell?, hg, hi]
    have hfro : w.frozen? ⟨b, o + i, none⟩ = false := by simp [World.frozen?, hg]; omega
    have hst : (store ((⟨b, o, none⟩ : Addr).add i) v).run P w = .ok () (w.setRow b (cs.setIfInBounds (o + i) v)) := by
      rw [addr_add, run_store P w _ v _ (h1 v (by simp)), hcell]
      simp [hfro, setCell_eq_setRow w b (o + i) cs T fz v hg]
    have ih := run_storeCells_mid b o T fz hfz rest (i + 1) (cs.setIfInBounds (o + i) v) (w.setRow b (cs.setIfInBounds (o + i) v)) (setRow_heap w b cs _ T fz hg) (by simp at hl ⊢; omega) (fun x hx => h1 x (by simp [hx]))
    simp only [storeCells, Sem.run_bind, hst, Result.andThen_ok, ih, setRow_setRow]
    congr 2
    apply Array.ext_getElem?
    intro k
    have e1 : o + (i + 1) + rest.length ≤ (cs.setIfInBounds (o + i) v).size := by simp at hl ⊢; omega
    have e2 : o + i + (v :: rest).length ≤ cs.size := hl
    rw [splice_get e1, splice_get e2]
    simp only [List.length_cons, Array.getElem?_setIfInBounds]
    by_cases hk : k < o + i
    · simp [hk, show k < o + (i + 1) by omega, show ¬ (o + i = k) by omega]
    · by_cases hk2 : k = o + i
      · subst hk2
        simp [hi, show ¬ (o + i < o + i) by omega, show o + i < o + (i + 1) by omega]
      · simp only [hk, if_false, show ¬ (k < o + (i + 1)) by omega, show ¬ (o + i = k) by omega]
        by_cases hk3 : k < o + i + (rest.length + 1)
        · rw [if_pos (by omega), if_pos hk3, show k - (o + i) = (k - (o + (i + 1))) + 1 by omega]; simp
        · rw [if_neg (by omega), if_neg hk3]

end Go.Ab
