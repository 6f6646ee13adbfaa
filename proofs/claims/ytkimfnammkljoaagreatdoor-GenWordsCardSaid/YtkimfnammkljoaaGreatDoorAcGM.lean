/- The abstract machine: slices. No conditions. -/
import Derived.Test.YtkimfnammkljoaaGreatDoorAcC
import Derived.Laws.Slices
set_option linter.unusedVariables false
set_option linter.unusedSimpArgs false
section
namespace Go.Ac
variable {P : Program} {S : Nat → Prop} {m : M}

/-! ### Types -/

theorem mkTI_spec {t : TypeId} {i : TI} (h : mkTI P t = some i) : ∃ inf d, P.info? t = some inf ∧ P.underlying t = some d ∧ mkTK P d = some i.k ∧ i.size = inf.size ∧ i.bytes = inf.bytes ∧
  i.zero = inf.zero.map (fun v => v.cells.toList.map constV1) := by
 unfold mkTI at h
 cases hi : P.info? t with
 | none => simp [hi] at h
 | some inf =>
  cases hu : P.underlying t with
  | none => simp [hi, hu] at h
  | some d =>
   simp only [hi, hu, Option.map_eq_some_iff] at h
   obtain ⟨k, hk, rfl⟩ := h
   exact ⟨inf, d, rfl, rfl, hk, rfl, rfl, rfl⟩

theorem mkTK_slice {d : TypeDesc} {e sz by_ : Nat} (h : mkTK P d = some (.slice e sz by_)) : d = .slice e ∧ ∃ j, P.info? e = some j ∧ j.size = sz ∧ (1 ≤ by_ → j.bytes = by_ ∧ ∃ z, j.zero = some z ∧ z.cells.size = sz) := by
 cases d <;> simp only [mkTK] at h <;> try (simp at h; done)
 case slice e' =>
  simp only [Option.map_eq_some_iff] at h
  obtain ⟨j, hj, hk⟩ := h
  injection hk with h1 h2 h3
  subst h1; subst h2
  refine ⟨rfl, j, hj, rfl, fun hb => ?_⟩
  cases hz : j.zero with
  | none => simp [hz] at h3; omega
  | some z =>
   simp only [hz] at h3
   split at h3
   ·rename_i hs; exact ⟨h3, z, rfl, hs⟩
   ·omega
 case array n e' =>
  split at h <;> simp at h

theorem mkTK_str {d : TypeDesc} (h : mkTK P d = some .str) : d = .string := by
 cases d <;> simp only [mkTK] at h <;> try (simp at h; done)
 case string => rfl
 case array n e' => split at h <;> simp at h

theorem mkTK_bool {d : TypeDesc} (h : mkTK P d = some .bool) : d = .bool := by
 cases d <;> simp only [mkTK] at h <;> try (simp at h; done)
 case bool => rfl
 case array n e' => split at h <;> simp at h

theorem mkTK_int {d : TypeDesc} {k : IntKind} (h : mkTK P d = some (.int k)) : d = .int k := by
 cases d <;> simp only [mkTK] at h <;> try (simp at h; done)
 case int k' => simp at h; rw [h]
 case array n e' => split at h <;> simp at h

theorem mkTK_ptr {d : TypeDesc} (h : mkTK P d = some .ptr) : ∃ e, d = .pointer e := by
 unfold mkTK at h
 split at h <;> first
  | (simp at h; done)
  | exact ⟨_, rfl⟩
  | (split at h <;> simp at h; done)

theorem mkTK_map {d : TypeDesc} {k e : Nat} (h : mkTK P d = some (.map k e)) : d = .map k e := by
 unfold mkTK at h
 split at h <;> first
  | (simp at h; done)
  | (simp at h; obtain ⟨rfl, rfl⟩ := h; rfl)
  | (split at h <;> simp at h; done)

theorem mkTK_iface {d : TypeDesc} (h : mkTK P d = some .iface) : ∃ ms, d = .interface ms := by
 cases d <;> simp only [mkTK] at h <;> try (simp at h; done)
 all_goals first
  | exact ⟨_, rfl⟩
  | (simp only [Option.map_eq_some_iff] at h; obtain ⟨_, _, h⟩ := h; cases h)
  | (split at h <;> simp at h)
theorem mkTK_struct {d : TypeDesc} {l : List (Nat × Nat × Bool)} (h : mkTK P d = some (.struct l)) : ∃ fs, d = .struct fs ∧ mkFields P fs.toList = some l := by
 cases d <;> simp only [mkTK] at h <;> try (simp at h; done)
 case struct fs =>
  simp only [Option.map_eq_some_iff] at h
  obtain ⟨j, hj, hk⟩ := h
  injection hk with h1
  subst h1
  exact ⟨fs, rfl, hj⟩
 case array n e' => split at h <;> simp at h

theorem mkTK_array {d : TypeDesc} {n e sz : Nat} {ag : Bool} (h : mkTK P d = some (.array n e sz ag)) : d = .array n e ∧ ∃ j u, P.info? e = some j ∧ P.underlying e = some u ∧ j.size = sz ∧ aggT P e = ag := by
 cases d <;> simp only [mkTK] at h <;> try (simp at h; done)
 case array n' e' =>
  split at h
  ·rename_i j u hj hu
   simp at h
   obtain ⟨rfl, rfl, h1, h2⟩ := h
   exact ⟨rfl, j, u, hj, hu, h1, h2⟩
  ·simp at h

theorem mkFields_get : ∀ {fs : List Field} {l : List (Nat × Nat × Bool)}, mkFields P fs = some l → ∀ {f : Nat} {off size : Nat} {ag : Bool}, l[f]? = some (off, size, ag) →
  ∃ fd j u, fs[f]? = some fd ∧ P.info? fd.type = some j ∧ P.underlying fd.type = some u ∧ fd.offset = off ∧ j.size = size ∧ aggT P fd.type = ag
 | [], l, h, f, off, size, ag, hl => by simp [mkFields] at h; subst h; simp at hl
 | fd :: fs, l, h, f, off, size, ag, hl => by
  simp only [mkFields] at h
  split at h
  ·rename_i j u l' hj hu hl'
   simp at h
   subst h
   cases f with
   | zero => simp at hl; obtain ⟨h1, h2, h3⟩ := hl; exact ⟨fd, j, u, rfl, hj, hu, h1, h2, h3⟩
   | succ f => simp at hl; obtain ⟨fd', j', u', h1, h2⟩ := mkFields_get hl' hl; exact ⟨fd', j', u', by simpa using h1, h2⟩
  ·simp at h

theorem run_isAgg {t : TypeId} {d : TypeDesc} (h : P.underlying t = some d) (w : World) : (isAgg t).run P w = .ok (aggT P t) w := by
 unfold isAgg aggT
 simp only [Sem.run_bind, run_underlying h, Result.andThen_ok, h]
 cases d <;> rfl

theorem agg_eq {t : TypeId} {i : TI} (h : mkTI P t = some i) : i.agg = aggT P t := by
 obtain ⟨inf, d, h1, h2, h3, _⟩ := mkTI_spec h
 unfold TI.agg aggT
 rw [h2]
 cases d <;> simp only [mkTK] at h3 <;> try (simp at h3; rw [← h3]; done)
 case slice e => simp only [Option.map_eq_some_iff] at h3; obtain ⟨j, _, h4⟩ := h3; rw [← h4]
 case struct fs => simp only [Option.map_eq_some_iff] at h3; obtain ⟨j, _, h4⟩ := h3; rw [← h4]
 case array n e => split at h3 <;> simp at h3; rw [← h3]

theorem run_sizeOf' {t : TypeId} {inf : TypeInfo} (h : P.info? t = some inf) (w : World) : (sizeOf t).run P w = .ok inf.size w := by
 simp [sizeOf, typeInfo, h]

/-! ### Constants -/

theorem constV1_RV [Gl] (v : Value) : RV S m (constV1 v) v := by
 unfold constV1
 split
 ·exact .d (.bool _)
 ·exact .d (.int _ _)
 ·exact .d (.str _ _ rfl)
 ·exact .full (rows := []) (.empty none 0 (Nat.zero_le _))
 ·exact .con _

theorem constVs_RVs [Gl] (vs : List Value) : RVs S m (vs.map constV1) vs := by
 refine ⟨by simp, fun j v x hv hx => ?_⟩
 rw [List.getElem?_map, hx] at hv
 simp at hv; subst hv
 exact constV1_RV x

theorem constV_RV [Gl] (v : Value) : RV S m (constV v) v := by
 unfold constV
 split
 ·rename_i cs
  exact .agg (by simp) fun j x y hx hy => (constVs_RVs cs.toList).2 j x y hx (by simpa using hy)
 ·exact constV1_RV v

theorem RVs.agg [Gl] {cs : List V} {xs : List Value} (h : RVs S m cs xs) : RV S m (.agg cs) (.agg xs.toArray) :=
 .agg (by simp [h.1]) fun j x y hx hy => h.2 j x y hx (by simpa using hy)

theorem RV.agg_vals [Gl] {cs : List V} {v : Value} (h : RV S m (.agg cs) v) : ∃ xs : List Value, v = .agg xs.toArray ∧ RVs S m cs xs := by
 cases h with
 | agg hl h => rename_i vs; exact ⟨vs.toList, by simp, by simp [hl], fun j x y hx hy => h j x y hx (by simpa using hy)⟩

theorem RV.tuple_vals [Gl] {cs : List V} {v : Value} (h : RV S m (.tuple cs) v) : ∃ xs : List Value, v = .tuple xs.toArray ∧ RVs S m cs xs := by
 cases h with
 | tuple hl h => rename_i vs; exact ⟨vs.toList, by simp, by simp [hl], fun j x y hx hy => h j x y hx (by simpa using hy)⟩

/-- The cells of a value that may be stored. -/
theorem cellsV_spec [Gl] {x : V} {xs : List V} {v : Value} (h : cellsV x = some xs) (hv : RV S m x v) : ∃ ys : List Value, v.cells = ys.toArray ∧ RVs S m xs ys ∧ xs.all V.one = true := by
 have vc : ∀ v : Value, v.oneCell' = true → v.cells = #[v] := by intro v hv; cases v <;> first | rfl | simp [Value.oneCell'] at hv
 cases x
 case agg cs =>
  simp only [cellsV] at h
  split at h
  ·rename_i hall
   simp at h; subst h
   obtain ⟨ys, rfl, hys⟩ := hv.agg_vals
   exact ⟨ys, rfl, hys, hall⟩
  ·simp at h
 all_goals
  simp only [cellsV] at h
  split at h
  ·rename_i h1
   simp only [Option.some.injEq] at h; subst h
   exact ⟨[v], by simp [vc v (hv.one h1)], .cons hv .nil, by simp only [List.all_cons, List.all_nil, Bool.and_true]; exact h1⟩
  ·simp at h

/-! ### Loading -/

theorem readV_spec [Gl] {i : TI} {cs : List V} {v : V} {xs : List Value} {b o : Nat} {t : TypeId} {w : World} (hi : mkTI P t = some i) (h : readV i cs = some v) (hv : RVs S m cs xs)
  (hc : ∀ (j : Nat) (x : Value), xs[j]? = some x → w.cell? ⟨b, o + j, none⟩ = some x) :
  ∃ x, (loadVar t ⟨b, o, none⟩).run P w = .ok x w ∧ RV S m v x := by
 obtain ⟨inf, d, h1, h2, h3, h4, _⟩ := mkTI_spec hi
 have ha := agg_eq hi
 unfold readV at h
 cases hag : i.agg with
 | true =>
  simp only [hag] at h
  split at h
  ·rename_i hb
   have hlen := Nat.eq_of_beq_eq_true hb
   simp at h; subst h
   have hl : (xs.take i.size).length = inf.size := by
    have := (hv.take i.size).1
    omega
   refine ⟨.agg (xs.take i.size).toArray, ?_, (hv.take i.size).agg⟩
   have hld := run_loadCells_list (P := P) w ⟨b, o, none⟩ (xs.take i.size) (fun j x hx => by
    rw [addr_add]
    rw [List.getElem?_take] at hx
    split at hx
    ·exact hc j x hx
    ·simp at hx)
   rw [hl] at hld
   simp [loadVar, run_isAgg h2, ← ha, hag, run_sizeOf' h1, hld]
  ·simp at h
 | false =>
  simp only [hag] at h
  cases cs with
  | nil => simp at h
  | cons c cs =>
   simp at h; subst h
   obtain ⟨x, ys, rfl, hx, _⟩ := hv.cases
   refine ⟨x, ?_, hx⟩
   have h0 := hc 0 x rfl
   simp only [Nat.add_zero] at h0
   simp [loadVar, run_isAgg h2, ← ha, hag, h0]

theorem loadV_sound [Gl] {look : Look} {i : TI} {t : TypeId} {p : V} {v : Value} {r : Res} {c : Nat} (hi : mkTI P t = some i) (h : loadV look i p = some r) (hl : look = m.h) (hR : Rel S m) (hv : RV S m p v) :
  ∃ x, (Instr.loadAt t v).run P m.w = .ok x m.w ∧ After S m c r x m := by
 unfold loadV at h
 split at h
 ·rename_i id g off
  cases hlv : live look id g with
  | none => simp [hlv] at h
  | some o =>
   simp only [hlv, Option.bind_eq_some_iff] at h
   obtain ⟨y, hy, hr⟩ := h
   simp [retR] at hr; subst hr
   obtain ⟨ho, _, b, base, hat, rfl⟩ := hv.ptr_live (hl ▸ hlv)
   obtain ⟨xs, hxs, _, hc⟩ := hR.vals ho hat (hv.ptr_kind (hl ▸ hlv))
   obtain ⟨x, hx1, hx2⟩ := readV_spec (w := m.w) (b := b) (o := base + off) hi hy (hxs.drop off) (fun j x hx => by
    rw [List.getElem?_drop] at hx
    have := hc _ x hx
    rwa [← Nat.add_assoc] at this)
   refine ⟨x, ?_, After.quiet hR hx2⟩
   simp [Instr.loadAt, Instr.sureAddr, hx1]
 ·rename_i ds
  simp only [Option.bind_eq_some_iff] at h
  obtain ⟨y, hy, hr⟩ := h
  simp [ret] at hr; subst hr
  cases hv with
  | vref f hf hr =>
   rename_i b off
   obtain ⟨x, hx1, hx2⟩ := readV_spec (S := S) (m := m) (w := m.w) (b := b) (o := off) (xs := (List.range ds.length).map f) hi hy
    (RVs.map_d (by simp) (fun j d x hd hx => by
     have hj : j < ds.length := (List.getElem?_eq_some_iff.1 hd).1
     simp [hj] at hx
     subst hx
     exact hr j d hd))
    (fun j x hx => by
     have hj : j < ds.length := by
      have := (List.getElem?_eq_some_iff.1 hx).1
      simpa using this
     simp [hj] at hx
     subst hx
     exact (hf j ds[j] (by simp [hj])).2)
   refine ⟨x, ?_, After.quiet hR hx2⟩
   simp [Instr.loadAt, Instr.sureAddr, hx1]
 ·simp at h

/-! ### Storing -/

def splice (cs : Array Value) (o : Nat) (xs : List Value) : Array Value := (cs.toList.take o ++ xs ++ cs.toList.drop (o + xs.length)).toArray

theorem splice_size {cs : Array Value} {o : Nat} {xs : List Value} (h : o + xs.length ≤ cs.size) : (splice cs o xs).size = cs.size := by
 simp [splice]; omega

theorem splice_get {cs : Array Value} {o : Nat} {xs : List Value} (h : o + xs.length ≤ cs.size) (j : Nat) :
  (splice cs o xs)[j]? = if j < o then cs[j]? else if j < o + xs.length then xs[j - o]? else cs[j]? := by
 simp only [splice, List.getElem?_toArray, List.append_assoc]
 rw [List.getElem?_append]
 have hl : (List.take o cs.toList).length = o := by simp; omega
 rw [hl]
 split
 ·simp [*]
 ·rw [List.getElem?_append]
  split
  ·rename_i h1 h2; rw [if_pos (by omega)]
  ·rename_i h1 h2
   rw [if_neg (by omega), List.getElem?_drop]
   rw [show o + xs.length + (j - o - xs.length) = j by omega]; simp

theorem run_storeCells_mid (b o : Nat) (T : TypeId) (fz : Nat × Nat) {n : Nat} (hfz : fz.2 = fz.1 ∨ n ≤ fz.1) : ∀ (xs : List Value) (i : Nat) (cs : Array Value) (w : World), w.heap[b]? = some (Obj.cells cs T fz) → o + i + xs.length ≤ cs.size →
  (∀ v ∈ xs, v.oneCell' = true) → (hn : cs.size ≤ n := by exact Nat.le_refl _) → (storeCells ⟨b, o, none⟩ xs i).run P w = .ok () (w.setRow b (splice cs (o + i) xs))
 | [], i, cs, w, hg, hl, _, _ => by
  have : splice cs (o + i) [] = cs := by simp [splice]
  rw [this]
  have hlt : b < w.heap.size := (Array.getElem?_eq_some_iff.1 hg).1
  have hv : w.heap[b] = .cells cs T fz := (Array.getElem?_eq_some_iff.1 hg).2
  simp only [storeCells]
  show Result.ok () w = _
  congr 1
  unfold World.setRow
  cases w with
  | mk heap tape drawn os output =>
   congr 1
   apply Array.ext
   ·simp
   ·intro k h1 h2
    simp only [Array.getElem_modify]
    split
    ·rename_i hk; subst hk; simp at hv; simp [hv]
    ·rfl
 | v :: rest, i, cs, w, hg, hl, h1, hn => by
  have hi : o + i < cs.size := by simp at hl; omega
  have hcell : w.cell? ⟨b, o + i, none⟩ = some cs[o + i] := by simp [World.cell?, hg, hi]
  have hfro : w.frozen? ⟨b, o + i, none⟩ = false := by simp [World.frozen?, hg]; omega
  have hst : (store ((⟨b, o, none⟩ : Addr).add i) v).run P w = .ok () (w.setRow b (cs.setIfInBounds (o + i) v)) := by
   rw [addr_add, run_store P w _ v _ (h1 v (by simp)), hcell]
   simp [hfro, setCell_eq_setRow w b (o + i) cs T fz v hg]
  have ih := run_storeCells_mid b o T fz hfz rest (i + 1) (cs.setIfInBounds (o + i) v) (w.setRow b (cs.setIfInBounds (o + i) v)) (setRow_heap w b cs _ T fz hg) (by simp at hl ⊢; omega) (fun x hx => h1 x (by simp [hx])) (by simpa using hn)
  simp only [storeCells, Sem.run_bind, hst, Result.andThen_ok, ih, setRow_setRow]
  congr 2
  apply Array.ext_getElem?
  intro k
  have e1 : o + (i + 1) + rest.length ≤ (cs.setIfInBounds (o + i) v).size := by simp at hl ⊢; omega
  have e2 : o + i + (v :: rest).length ≤ cs.size := hl
  rw [splice_get e1, splice_get e2]
  simp only [List.length_cons, Array.getElem?_setIfInBounds]
  by_cases hk : k < o + i
  ·simp [hk, show k < o + (i + 1) by omega, show ¬ (o + i = k) by omega]
  ·by_cases hk2 : k = o + i
   ·subst hk2
    simp [hi, show ¬ (o + i < o + i) by omega, show o + i < o + (i + 1) by omega]
   ·simp only [hk, if_false, show ¬ (k < o + (i + 1)) by omega, show ¬ (o + i = k) by omega]
    by_cases hk3 : k < o + i + (rest.length + 1)
    ·rw [if_pos (by omega), if_pos hk3, show k - (o + i) = (k - (o + (i + 1))) + 1 by omega]; simp
    ·rw [if_neg (by omega), if_neg hk3]

end Go.Ac
end

section
namespace Go.Ac
variable {P : Program} {S : Nat → Prop} {m : M}

theorem hupd_append (a b : List (Nat × Ob)) : ∀ h : Nat → Option Ob, hupd h (a ++ b) = hupd (hupd h a) b := by
 induction a with
 | nil => intro h; rfl
 | cons p r ih => intro h; obtain ⟨k, o⟩ := p; exact ih _

/-- Memory in which some objects are only read from now on. -/
structure RoBy [Gl] (S : Nat → Prop) (m m' : M) (ids : List Nat) : Prop where
 evo : Evo S m m'
 rel : Rel S m'
 w : m'.w = m.w
 at_ : m'.at_ = m.at_
 iss : m'.iss = m.iss
 h : ∀ id, m'.h id = m.h id ∨ ∃ o, m.h id = some o ∧ m'.h id = some { o with ro := true }
 ro : ∀ id ∈ ids, ∀ o, m'.h id = some o → o.ro = true
 not : ∀ id, id ∉ ids → m'.h id = m.h id

theorem ros_from [Gl] : ∀ (ids : List Nat) (all : List Nat) (m1 : M), RoBy S m m1 all → ∃ m', m'.h = hupd m1.h (roOf m.h ids) ∧ RoBy S m m' (all ++ ids)
 | [], all, m1, h1 => ⟨m1, rfl, by simpa using h1⟩
 | id :: r, all, m1, h1 => by
  simp only [roOf]
  cases hid : m.h id with
  | none =>
   obtain ⟨m', h2, h3⟩ := ros_from r all m1 h1
   refine ⟨m', h2, ⟨h3.evo, h3.rel, h3.w, h3.at_, h3.iss, h3.h, ?_, ?_⟩⟩
   ·intro i hi o ho
    simp only [List.mem_append, List.mem_cons] at hi
    rcases hi with hi | rfl | hi
    ·exact h3.ro i (by simp [hi]) o ho
    ·rcases h3.h i with h | ⟨o', h, _⟩
     ·rw [h, hid] at ho; simp at ho
     ·rw [hid] at h; simp at h
    ·exact h3.ro i (by simp [hi]) o ho
   ·intro i hi
    simp only [List.mem_append, List.mem_cons, not_or] at hi
    exact h3.not i (by simp [hi.1, hi.2.2])
  | some o =>
   have hm1 : ∃ o1, m1.h id = some o1 ∧ ({ o1 with ro := true } : Ob) = { o with ro := true } := by
    rcases h1.h id with h | ⟨o', h, h'⟩
    ·exact ⟨o, by rw [h, hid], rfl⟩
    ·rw [hid] at h; injection h with h; subst h; exact ⟨_, h', rfl⟩
   obtain ⟨o1, ho1, heq⟩ := hm1
   obtain ⟨m2, e1, e2, e3, e4, e5, e6⟩ := ro_obj h1.rel ho1
   have h2 : RoBy S m m2 (all ++ [id]) := by
    refine ⟨h1.evo.trans e6, e5, e1.trans h1.w, e3.trans h1.at_, e4.trans h1.iss, fun i => ?_, fun i hi q hq => ?_, fun i hi => ?_⟩
    ·by_cases hi : i = id
     ·subst hi; exact .inr ⟨o, hid, by rw [e2]; simp [heq]⟩
     ·rw [e2, upd_ne _ _ hi]; exact h1.h i
    ·by_cases hid' : i = id
     ·subst hid'; rw [e2] at hq; simp at hq; subst hq; rfl
     ·rw [e2, upd_ne _ _ hid'] at hq
      exact h1.ro i (by simpa [hid'] using hi) q hq
    ·simp at hi
     rw [e2, upd_ne _ _ hi.2]; exact h1.not i hi.1
   obtain ⟨m', h3, h4⟩ := ros_from r (all ++ [id]) m2 h2
   refine ⟨m', ?_, by simpa using h4⟩
   rw [h3, e2]
   simp only [hupd, heq]

theorem ros [Gl] (hR : Rel S m) (ids : List Nat) : ∃ m', m'.h = hupd m.h (roOf m.h ids) ∧ RoBy S m m' ids := by
 obtain ⟨m', h1, h2⟩ := ros_from (S := S) (m := m) ids [] m ⟨.refl S m, hR, rfl, rfl, rfl, fun _ => .inl rfl, fun _ h => by simp at h, fun _ _ => rfl⟩
 exact ⟨m', h1, by simpa using h2⟩

theorem RoBy.free [Gl] {m' : M} {ids : List Nat} (hR : Rel S m) (hb : RoBy S m m' ids) {id : Nat} {o : Ob} {b base : Nat} (hid : id ∈ ids) (ho : m.h id = some o) (ha : m.at_ id = some (b, base)) : ¬ m'.av S b := by
 rintro (h | ⟨i, q, x, h1, h2, h3⟩)
 ·exact (hR.obj id o b base ho ha).1 h
 ·rw [hb.at_] at h3
  have hq : ∃ p, m.h i = some p := by
   rcases hb.h i with h | ⟨p, h, _⟩
   ·exact ⟨q, h ▸ h1⟩
   ·exact ⟨p, h⟩
  obtain ⟨p, hp⟩ := hq
  have := hR.inj i id p o b x base hp ho h3 ha
  subst this
  have := hb.ro i hid q h1
  rw [this] at h2; cases h2

theorem chunk_length (sz : Nat) : ∀ (n : Nat) (l : List D), (chunk sz n l).length = n
 | 0, _ => rfl
 | n + 1, l => by simp [chunk, chunk_length sz n]

theorem chunk_get (sz : Nat) : ∀ (n : Nat) (l : List D) (i : Nat), i < n → (chunk sz n l)[i]? = some ((l.drop (i * sz)).take sz)
 | n + 1, l, 0, _ => by simp [chunk]
 | n + 1, l, i + 1, h => by
  simp only [chunk, List.getElem?_cons_succ]
  rw [chunk_get sz n (l.drop sz) i (by omega), List.drop_drop]
  congr 3
  rw [Nat.succ_mul]; omega

theorem toDs_spec {f : V → Option (D × List Nat)} : ∀ {vs : List V} {ds : List D} {ids : List Nat}, toDs f vs = some (ds, ids) →
  ds.length = vs.length ∧ ∀ (j : Nat) (v : V), vs[j]? = some v → ∃ d a, ds[j]? = some d ∧ f v = some (d, a) ∧ ∀ i ∈ a, i ∈ ids
 | [], ds, ids, h => by simp [toDs] at h; obtain ⟨rfl, rfl⟩ := h; exact ⟨rfl, fun j v hv => by simp at hv⟩
 | v :: r, ds, ids, h => by
  simp only [toDs] at h
  split at h
  ·rename_i x a xs b h1 h2
   simp at h; obtain ⟨rfl, rfl⟩ := h
   obtain ⟨h3, h4⟩ := toDs_spec h2
   refine ⟨by simp [h3], fun j u hu => ?_⟩
   cases j with
   | zero => simp at hu; subst hu; exact ⟨x, a, rfl, h1, fun i hi => by simp [hi]⟩
   | succ j =>
    simp at hu
    obtain ⟨d, q, h5, h6, h7⟩ := h4 j u hu
    exact ⟨d, q, by simpa using h5, h6, fun i hi => by simp [h7 i hi]⟩
  ·simp at h

theorem toD_sound [Gl] (hR : Rel S m) : ∀ (f : Nat) {v : V} {x : D} {ids : List Nat} {y : Value}, toD m.h f v = some (x, ids) → RV S m v y → ∀ {m' : M} {all : List Nat}, RoBy S m m' all → (∀ i ∈ ids, i ∈ all) →
  RD m'.w (m'.av S) x y := by
 intro f
 induction f with
 | zero =>
  intro v x ids y h hv m' all hb hi
  cases v <;> simp only [toD] at h <;> try (simp at h; done)
  case d x' => simp at h; obtain ⟨rfl, rfl⟩ := h; cases hv with | d h => exact h.mono hb.evo.keep
  case full rows => simp at h; obtain ⟨rfl, rfl⟩ := h; cases hv with | full h => exact h.mono hb.evo.keep
 | succ f ih =>
  intro v x ids y h hv m' all hb hi
  cases v <;> simp only [toD] at h <;> try (simp at h; done)
  case d x' => simp at h; obtain ⟨rfl, rfl⟩ := h; cases hv with | d h => exact h.mono hb.evo.keep
  case full rows => simp at h; obtain ⟨rfl, rfl⟩ := h; cases hv with | full h => exact h.mono hb.evo.keep
  case osl id g off len sz cap =>
   cases hl : live m.h id g with
   | none => simp [hl] at h
   | some o =>
    simp only [hl] at h
    split at h
    ·rename_i ds r hble hds
     simp at h; obtain ⟨rfl, rfl⟩ := h
     have hle : off + len * sz ≤ o.cells.length := Nat.le_of_ble_eq_true hble
     obtain ⟨ho, _, hok⟩ := hv.osl_live hl
     unfold OslOK at hok
     cases hat : m.at_ id with
     | none =>
      simp only [hat] at hok
      obtain ⟨rfl, _, _, a, rfl⟩ := hok
      simp only [chunk]
      exact .empty a 0 (Nat.zero_le _)
     | some p =>
      obtain ⟨b, base⟩ := p
      simp only [hat] at hok
      obtain ⟨p, k, rfl, hp, h2, h3, h4, _⟩ := hok
      rcases hp with rfl | ⟨rfl, rfl⟩
      ·have hfree := hb.free hR (hi id (by simp)) ho hat
       obtain ⟨xs, hxs, _, hc⟩ := hR.vals ho hat (hv.osl_kind hl)
       obtain ⟨hdl, hdg⟩ := toDs_spec hds
       have hsub := (hxs.drop off).take (len * sz)
       have hlen : ((o.cells.drop off).take (len * sz)).length = len * sz := by simp; omega
       have hcl := chunk_length sz len ds
       have key : ∀ (i j : Nat) (row : List D) (d : D), (chunk sz len ds)[i]? = some row → row[j]? = some d → i < len ∧ j < sz ∧ ds[i * sz + j]? = some d := by
        intro i j row d h5 h6
        have hil : i < len := by rw [← hcl]; exact (List.getElem?_eq_some_iff.1 h5).1
        rw [chunk_get sz len ds i hil] at h5
        injection h5 with h5; subst h5
        rw [List.getElem?_take] at h6
        split at h6
        ·rw [List.getElem?_drop] at h6; exact ⟨hil, by assumption, h6⟩
        ·simp at h6
       have val : ∀ (q : Nat) (d : D), ds[q]? = some d → ∃ v y a, ((o.cells.drop off).take (len * sz))[q]? = some v ∧ xs[off + q]? = some y ∧ RV S m v y ∧ toD m.h f v = some (d, a) ∧ ∀ i ∈ a, i ∈ r := by
        intro q d hd
        have hq : q < ds.length := (List.getElem?_eq_some_iff.1 hd).1
        rw [hdl] at hq
        have hv' : ((o.cells.drop off).take (len * sz))[q]? = some ((o.cells.drop off).take (len * sz))[q] := List.getElem?_eq_getElem hq
        obtain ⟨d', a, g1, g2, g3⟩ := hdg q _ hv'
        rw [hd] at g1; injection g1 with g1; subst g1
        obtain ⟨y, hy1, hy2⟩ := hsub.get hv'
        refine ⟨_, y, a, hv', ?_, hy2, g2, g3⟩
        rw [List.getElem?_take] at hy1
        split at hy1
        ·rw [List.getElem?_drop] at hy1; exact hy1
        ·simp at hy1
       have := RD.slice (w := m'.w) (av := m'.av S) (chunk sz len ds) b (base + off) k sz (by rw [hcl]; exact h3) h4 (fun i row hrow => by
         have hil : i < len := by rw [← hcl]; exact (List.getElem?_eq_some_iff.1 hrow).1
         rw [chunk_get sz len ds i hil] at hrow
         injection hrow with hrow; subst hrow
         simp
         have : (i + 1) * sz ≤ len * sz := Nat.mul_le_mul_right _ hil
         rw [Nat.succ_mul] at this
         omega)
        (fun i j => (xs[off + (i * sz + j)]?).getD undef)
        (fun i j row d h5 h6 => by
         obtain ⟨k1, k2, k3⟩ := key i j row d h5 h6
         obtain ⟨v, y, a, g1, g2, _⟩ := val _ d k3
         refine ⟨hfree, ?_⟩
         rw [hb.w, g2, Nat.add_assoc]
         exact hc _ _ g2)
        (fun i j row d h5 h6 => by
         obtain ⟨k1, k2, k3⟩ := key i j row d h5 h6
         obtain ⟨v, y, a, g1, g2, g3, g4, g5⟩ := val _ d k3
         rw [g2]
         exact ih g4 g3 hb (fun i hi' => hi i (by simp [g5 i hi'])))
       rw [hcl] at this
       exact this
      ·simp only [chunk]
       exact .empty (some p) 0 (Nat.zero_le _)
    ·simp at h

theorem close1_sound [Gl] (hR : Rel S m) {v w : V} {ids : List Nat} {y : Value} (h : close1 m.h v = some (w, ids)) (hv : RV S m v y) {m' : M} {all : List Nat} (hb : RoBy S m m' all) (hi : ∀ i ∈ ids, i ∈ all) : RV S m' w y := by
 unfold close1 at h
 split at h
 ·simp at h; obtain ⟨rfl, rfl⟩ := h; exact hv.mono hb.evo
 ·simp at h; obtain ⟨rfl, rfl⟩ := h; exact hv.mono hb.evo
 ·unfold ofD at h
  split at h
  ·rename_i x r hx
   simp at h; obtain ⟨rfl, rfl⟩ := h
   exact .d (toD_sound hR depthD hx hv hb hi)
  ·simp at h

theorem closeVs_sound [Gl] {f : V → Option (V × List Nat)} {m' : M} {all : List Nat}
  (hf : ∀ {v w : V} {ids : List Nat} {y : Value}, f v = some (w, ids) → RV S m v y → (∀ i ∈ ids, i ∈ all) → RV S m' w y) :
  ∀ {vs ws : List V} {ids : List Nat} {ys : List Value}, closeVs f vs = some (ws, ids) → RVs S m vs ys → (∀ i ∈ ids, i ∈ all) → RVs S m' ws ys
 | [], ws, ids, ys, h, hv, hi => by
  simp [closeVs] at h; obtain ⟨rfl, rfl⟩ := h
  have := hv.1; simp at this
  have : ys = [] := List.length_eq_zero_iff.1 (by simp [← this])
  subst this; exact .nil
 | v :: r, ws, ids, ys, h, hv, hi => by
  simp only [closeVs] at h
  split at h
  ·rename_i x a xs b h1 h2
   simp at h; obtain ⟨rfl, rfl⟩ := h
   obtain ⟨y, ys', rfl, hy, hys⟩ := hv.cases
   exact .cons (hf h1 hy fun i hi' => hi i (by simp [hi'])) (closeVs_sound hf h2 hys fun i hi' => hi i (by simp [hi']))
  ·simp at h

theorem close_sound [Gl] (hR : Rel S m) {v w : V} {ids : List Nat} {y : Value} (h : close m.h v = some (w, ids)) (hv : RV S m v y) {m' : M} {all : List Nat} (hb : RoBy S m m' all) (hi : ∀ i ∈ ids, i ∈ all) : RV S m' w y := by
 unfold close at h
 split at h
 ·split at h
  ·rename_i cs xs r hx
   simp at h; obtain ⟨rfl, rfl⟩ := h
   obtain ⟨ys, rfl, hys⟩ := hv.agg_vals
   exact (closeVs_sound (fun g1 g2 g3 => close1_sound hR g1 g2 hb g3) hx hys hi).agg
  ·simp at h
 ·exact close1_sound hR h hv hb hi

theorem closeA_sound [Gl] (hR : Rel S m) {v w : V} {ids : List Nat} {y : Value} (h : closeA m.h v = some (w, ids)) (hv : RV S m v y) {m' : M} {all : List Nat} (hb : RoBy S m m' all) (hi : ∀ i ∈ ids, i ∈ all) : RV S m' w y := by
 unfold closeA at h
 split at h
 ·simp at h; obtain ⟨rfl, rfl⟩ := h
  exact hv.mono hb.evo
 ·exact close_sound hR h hv hb hi

theorem RVs.tuple [Gl] {cs : List V} {xs : List Value} (h : RVs S m cs xs) : RV S m (.tuple cs) (.tuple xs.toArray) :=
 .tuple (by simp [h.1]) fun j x y hx hy => h.2 j x y hx (by simpa using hy)

theorem closeT_sound [Gl] (hR : Rel S m) {v w : V} {ids : List Nat} {y : Value} (h : closeT m.h v = some (w, ids)) (hv : RV S m v y) {m' : M} {all : List Nat} (hb : RoBy S m m' all) (hi : ∀ i ∈ ids, i ∈ all) : RV S m' w y := by
 unfold closeT at h
 split at h
 ·split at h
  ·rename_i cs xs r hx
   simp at h; obtain ⟨rfl, rfl⟩ := h
   obtain ⟨ys, rfl, hys⟩ := hv.tuple_vals
   exact (closeVs_sound (fun g1 g2 g3 => close_sound hR g1 g2 hb g3) hx hys hi).tuple
  ·simp at h
 ·exact close_sound hR h hv hb hi

theorem close1_one {look : Look} {v w : V} {ids : List Nat} (h : close1 look v = some (w, ids)) (ho : v.one = true) : w.one = true := by
 unfold close1 at h
 split at h
 ·simp at h; obtain ⟨rfl, rfl⟩ := h; exact ho
 ·simp at h; obtain ⟨rfl, rfl⟩ := h; exact ho
 ·unfold ofD at h
  split at h
  ·simp at h; obtain ⟨rfl, rfl⟩ := h; rfl
  ·simp at h

theorem cl1_sound [Gl] (hR : Rel S m) {fz : Bool} {v w : V} {ids : List Nat} {y : Value} (h : cl1 m.h fz v = some (w, ids)) (hv : RV S m v y) {m' : M} {all : List Nat} (hb : RoBy S m m' all) (hi : ∀ i ∈ ids, i ∈ all) : RV S m' w y := by
 unfold cl1 at h
 split at h
 ·split at h
  ·exact close1_sound hR h hv hb hi
  ·simp at h; obtain ⟨rfl, rfl⟩ := h; exact hv.mono hb.evo
 ·simp at h; obtain ⟨rfl, rfl⟩ := h; exact hv.mono hb.evo

theorem cl2_sound [Gl] (hR : Rel S m) {fz : Bool} {v w : V} {ids : List Nat} {y : Value} (h : cl2 m.h fz v = some (w, ids)) (hv : RV S m v y) {m' : M} {all : List Nat} (hb : RoBy S m m' all) (hi : ∀ i ∈ ids, i ∈ all) : RV S m' w y := by
 unfold cl2 at h
 split at h
 ·split at h
  ·rename_i cs xs r hx
   simp at h; obtain ⟨rfl, rfl⟩ := h
   obtain ⟨ys, rfl, hys⟩ := hv.agg_vals
   exact (closeVs_sound (fun g1 g2 g3 => cl1_sound hR g1 g2 hb g3) hx hys hi).agg
  ·simp at h
 ·exact cl1_sound hR h hv hb hi

theorem cl1_one {look : Look} {fz : Bool} {v w : V} {ids : List Nat} (h : cl1 look fz v = some (w, ids)) (ho : v.one = true) : w.one = true := by
 unfold cl1 at h
 split at h
 ·split at h
  ·exact close1_one h ho
  ·simp at h; obtain ⟨rfl, rfl⟩ := h; exact ho
 ·simp at h; obtain ⟨rfl, rfl⟩ := h; exact ho

theorem closeVs_length {f : V → Option (V × List Nat)} : ∀ {vs ws : List V} {ids : List Nat}, closeVs f vs = some (ws, ids) → ws.length = vs.length
 | [], ws, ids, h => by simp [closeVs] at h; obtain ⟨rfl, rfl⟩ := h; rfl
 | v :: r, ws, ids, h => by
  simp only [closeVs] at h
  split at h
  ·rename_i x a xs b h1 h2
   simp at h; obtain ⟨rfl, rfl⟩ := h
   simp [closeVs_length h2]
  ·simp at h

theorem closeVs_one {look : Look} {fz : Bool} : ∀ {vs ws : List V} {ids : List Nat}, closeVs (cl1 look fz) vs = some (ws, ids) → vs.all V.one = true → ws.all V.one = true
 | [], ws, ids, h, _ => by simp [closeVs] at h; obtain ⟨rfl, rfl⟩ := h; rfl
 | v :: r, ws, ids, h, ho => by
  simp only [closeVs] at h
  split at h
  ·rename_i x a xs b h1 h2
   simp at h; obtain ⟨rfl, rfl⟩ := h
   simp only [List.all_cons, Bool.and_eq_true] at ho ⊢
   exact ⟨cl1_one h1 ho.1, closeVs_one h2 ho.2⟩
  ·simp at h

end Go.Ac
end

section
namespace Go.Ac
variable {P : Program} {S : Nat → Prop} {m : M}

theorem storeV_sound [Gl] {fz : Bool} {i : TI} {t : TypeId} {p x : V} {v y : Value} {r : Res} {c : Nat} (hi : mkTI P t = some i) (h : storeV m.h fz i p x = some r) (hR : Rel S m) (hv : RV S m p v) (hy : RV S m x y) :
  ∃ m', (Instr.storeAt t v y).run P m.w = .ok () m'.w ∧ After S m c r undef m' := by
 unfold storeV at h
 split at h
 ·rename_i id g off xs hcx
  split at h
  ·rename_i o zs ids hlv hcl
   split at h
   ·rename_i hro hlen hle hnot
    simp only [Option.some.injEq] at h; subst h
    obtain ⟨ho, hg, b, base, hat, rfl⟩ := hv.ptr_live hlv
    obtain ⟨ys, hyc, hys, hone⟩ := cellsV_spec hcx hy
    have hlen' := Nat.eq_of_beq_eq_true hlen
    have hle' := Nat.le_of_ble_eq_true hle
    obtain ⟨inf, d, h1, h2, h3, h4, _⟩ := mkTI_spec hi
    -- what is stored becomes data first
    obtain ⟨m1, e1, hb⟩ := ros hR ids
    have hcs := closeVs_sound (S := S) (m := m) (m' := m1) (all := ids) (fun g1 g2 g3 => cl1_sound hR g1 g2 hb g3) hcl hys (fun i hi => hi)
    have hcone := closeVs_one hcl hone
    have hzl := closeVs_length hcl
    have hid : id ∉ ids := by
     intro hmem
     have : ids.any (Nat.beq id) = true := List.any_eq_true.2 ⟨id, hmem, Nat.beq_refl id⟩
     rw [this] at hnot; cases hnot
    have ho1 : m1.h id = some o := (hb.not id hid).trans ho
    have hat1 : m1.at_ id = some (b, base) := by rw [hb.at_]; exact hat
    have hkind := hv.ptr_kind hlv
    obtain ⟨hS, cs, T, fz', hrow, hfz, hsz, hc⟩ := hb.rel.cellsAt hkind ho1 hat1
    have hyl : ys.length = i.size := by rw [← hys.1, hlen']
    have hrun := run_storeCells_mid (P := P) b (base + off) T fz' hfz ys 0 cs m1.w hrow (by omega) (hys.ones hone)
    obtain ⟨m', w1, w2, w3, w4, w5, w6⟩ := write_obj (c := c) (dc := 0) (w' := m1.w.setRow b (splice cs (base + off) ys)) (o' := ⟨g, false, o.cells.take off ++ zs ++ o.cells.drop (off + i.size)⟩)
     hb.rel ho1 hat1 hro hkind hrow rfl (base' := base) (splice_size (by omega)) (by
      rw [splice_size (by omega)]
      simp [hzl, hlen']; omega)
     (.inl ⟨hg.symm, rfl, by simp [hzl, hlen']; omega, rfl⟩) (by
      intro j q hq
      have hget : ∀ (k : Nat) (u : V), o.cells[k]? = some u → u.one = true ∧ ∃ z, cs[base + k]? = some z ∧ RV S m1 u z := hc
      simp only [List.append_assoc] at hq
      rw [List.getElem?_append] at hq
      have htl : (List.take off o.cells).length = off := by simp; omega
      rw [htl] at hq
      split at hq
      ·rename_i hj
       rw [List.getElem?_take] at hq; rw [if_pos hj] at hq
       obtain ⟨g1, z, g2, g3⟩ := hget j q hq
       exact ⟨g1, z, by rw [splice_get (by omega)]; rw [if_pos (by omega)]; exact g2, g3⟩
      ·rename_i hj
       rw [List.getElem?_append] at hq
       split at hq
       ·rename_i hj2
        obtain ⟨z, g1, g2⟩ := hcs.get hq
        refine ⟨List.all_eq_true.1 hcone q (List.mem_of_getElem? hq), z, ?_, g2⟩
        rw [splice_get (by omega), if_neg (by omega), if_pos (by omega), show base + j - (base + off) = j - off by omega]
        exact g1
       ·rename_i hj2
        rw [List.getElem?_drop] at hq
        obtain ⟨g1, z, g2, g3⟩ := hget _ q hq
        refine ⟨g1, z, ?_, g3⟩
        rw [splice_get (by omega), if_neg (by omega), if_neg (by omega)]
        rw [← g2]; congr 1; omega)
    refine ⟨m', ?_, w5, hb.evo.trans w6, .undef, ?_, ?_⟩
    ·rw [w1]
     simp only [Nat.add_zero] at hrun
     have hcs : y.cells.size = inf.size := by rw [hyc]; simp; omega
     have hw : m.w = m1.w := hb.w.symm
     rw [hw]
     simp [Instr.storeAt, Instr.sureAddr, storeVar, run_sizeOf' h1, hcs, hyc, hrun]
     omega
    ·rw [w2, e1, hupd_append]; rfl
    ·rw [w4, hb.iss]
   ·simp at h
  ·simp at h
 ·simp at h

/-- A new row. -/
theorem new_sound [Gl] {n c : Nat} {T : TypeId} {cs : List V} {ys : List Value} (hR : Rel S m) (hf : Fresh m c 1) (hys : RVs S m cs ys) (hone : cs.all V.one = true) :
  ∃ m', (newRow T ys.toArray).run P m.w = .ok ⟨m.w.heap.size, 0, none⟩ m'.w ∧ m'.h = upd m.h n (some ⟨c, false, cs⟩) ∧ m'.at_ n = some (m.w.heap.size, 0) ∧
   m'.iss = (fun i g => m.iss i g ∨ (c ≤ g ∧ g < c + 1)) ∧ Rel S m' ∧ Evo S m m' ∧ ∃ T', m'.w.heap[m.w.heap.size]? = some (Obj.cells ys.toArray T' (0, 0)) := by
 obtain ⟨m', w1, w2, w3, w4, w5, w6⟩ := alloc_obj (id := n) (o' := ⟨c, false, cs⟩) (c := c) (dc := 1) (cs' := ys.toArray) (T := T) (w' := { m.w with heap := m.w.heap.push (Obj.cells ys.toArray T (0, 0)) })
  hR rfl (by simp [hys.1]) (hf n c (Nat.le_refl _) (by omega)) rfl rfl (by
   intro j v hv
   obtain ⟨x, h1, h2⟩ := hys.get hv
   exact ⟨List.all_eq_true.1 hone v (List.mem_of_getElem? hv), x, by simpa using h1, h2⟩)
 refine ⟨m', ?_, w2, by rw [w3]; simp, w4, w5, w6, T, by rw [w1]; simp⟩
 rw [w1]
 simp [newRow]

theorem newV_sound [Gl] {n c : Nat} {T : TypeId} {cs : List V} {ys : List Value} {r : Res} (h : newV n c cs = some r) (hR : Rel S m) (hf : Fresh m c r.dc) (hys : RVs S m cs ys) (hone : cs.all V.one = true) :
  ∃ m', (newRow T ys.toArray).run P m.w = .ok ⟨m.w.heap.size, 0, none⟩ m'.w ∧ After S m c r (.pointer (some ⟨m.w.heap.size, 0, none⟩)) m' := by
 simp [newV] at h; subst h
 obtain ⟨m', w1, w2, w3, w4, w5, w6, _⟩ := new_sound (P := P) (T := T) hR hf hys hone
 refine ⟨m', w1, w5, w6, .ptr ?_ rfl ?_, by rw [w2]; rfl, w4⟩
 ·rw [w4]; exact .inr ⟨Nat.le_refl _, by omega⟩
 ·intro o ho hg
  refine ⟨?_, m.w.heap.size, 0, w3, rfl⟩
  rw [w2, upd_same] at ho
  simp only [Option.some.injEq] at ho
  subst ho
  exact kind_of_one fun j v hv => List.all_eq_true.1 hone v (List.mem_of_getElem? hv)

theorem zero_spec {t : TypeId} {i : TI} {z : List V} (hi : mkTI P t = some i) (hz : i.zero = some z) (w : World) : ∃ v : Value, (zeroValue t).run P w = .ok v w ∧ z = v.cells.toList.map constV1 ∧ (P.info? t).map (·.zero) = some (some v) := by
 obtain ⟨inf, d, h1, h2, h3, h4, h5, h6⟩ := mkTI_spec hi
 rw [hz] at h6
 cases hzz : inf.zero with
 | none => simp [hzz] at h6
 | some v =>
  simp [hzz] at h6
  exact ⟨v, by simp [zeroValue, typeInfo, h1, hzz], h6, by simp [h1, hzz]⟩

theorem alloc_sound [Gl] {t : TypeId} {i : TI} {z : List V} {r : Res} {n c : Nat} (hi : mkTI P t = some i) (hz : i.zero = some z) (hone : z.all V.one = true) (h : newV n c z = some r) (hR : Rel S m) (hf : Fresh m c r.dc) :
  ∃ x m', (Instr.alloc t true (.tuple #[])).run P m.w = .ok x m'.w ∧ After S m c r x m' := by
 obtain ⟨v, h1, h2, _⟩ := zero_spec hi hz m.w
 obtain ⟨m', w1, w2⟩ := newV_sound (P := P) (T := t) (ys := v.cells.toList) h hR hf (by rw [h2]; exact constVs_RVs _) hone
 refine ⟨_, m', ?_, w2⟩
 simp only [Array.toArray_toList] at w1
 simp [Instr.alloc, h1, newVar, w1]

theorem box_sound [Gl] {t : TypeId} {x : V} {y : Value} {cs : List V} {r : Res} {n c : Nat} (hc : cellsV x = some cs) (h : newV n c cs = some r) (hR : Rel S m) (hf : Fresh m c r.dc) (hy : RV S m x y) :
  ∃ v m', (Instr.box t y).run P m.w = .ok v m'.w ∧ After S m c r v m' := by
 obtain ⟨ys, h1, h2, h3⟩ := cellsV_spec hc hy
 obtain ⟨m', w1, w2⟩ := newV_sound (P := P) (T := t) (ys := ys) h hR hf h2 h3
 refine ⟨_, m', ?_, w2⟩
 simp [Instr.box, newVar, h1, w1]

/-! ### Filling -/

theorem fill_fold (xs : List Value) : ∀ (off k : Nat) (cs : Array Value), off + k + xs.length ≤ cs.size →
  ((xs.zipIdx k).foldl (fun (cs : Array Value) (p : Value × Nat) => cs.setIfInBounds (off + p.2) p.1) cs).toList = cs.toList.take (off + k) ++ xs ++ cs.toList.drop (off + k + xs.length) := by
 induction xs with
 | nil => intro off k cs h; simp
 | cons x r ih =>
  intro off k cs h
  simp only [List.zipIdx_cons, List.foldl_cons]
  rw [ih off (k + 1) _ (by simp at h ⊢; omega)]
  simp only [List.length_cons] at h ⊢
  apply List.ext_getElem?
  intro j
  simp only [Array.toList_setIfInBounds, List.getElem?_append, List.length_append, List.length_take, List.length_set, Array.length_toList, List.length_cons, List.getElem?_take, List.getElem?_drop, List.getElem?_set]
  by_cases h1 : j < off + k
  ·simp [h1, show j < off + (k + 1) by omega, show min (off + (k + 1)) cs.size = off + (k + 1) by omega, show min (off + k) cs.size = off + k by omega, show j < off + k + (r.length + 1) by omega, show ¬ (off + k = j) by omega,
    show j < off + (k + 1) + r.length by omega]
  ·by_cases h2 : j = off + k
   ·subst h2
    simp [show min (off + (k + 1)) cs.size = off + (k + 1) by omega, show min (off + k) cs.size = off + k by omega, show off + k < off + (k + 1) by omega, show off + k < cs.size by omega, show off + k < off + (k + 1) + r.length by omega,
     show off + k < off + k + (r.length + 1) by omega]
   ·simp [h1, show ¬ j < off + (k + 1) by omega, show min (off + (k + 1)) cs.size = off + (k + 1) by omega, show min (off + k) cs.size = off + k by omega, show off + (k + 1) + r.length = off + k + (r.length + 1) by omega,
     show j - (off + k) = (j - (off + (k + 1))) + 1 by omega]
    rw [if_neg (show ¬ (off + k = off + k + (r.length + 1) + (j - (off + k + (r.length + 1)))) by omega)]

theorem fillV_sound [Gl] {place : Nat → Option (Nat × Nat)} : ∀ {ps : List (Nat × V)} {qs : List (Nat × Value)} {cs cs' : List V} {xs : List Value}, fillV place cs ps = some cs' → RVs S m cs xs → cs.all V.one = true →
  ps.length = qs.length → (∀ (j : Nat) (a : Nat × V) (b : Nat × Value), ps[j]? = some a → qs[j]? = some b → a.1 = b.1 ∧ RV S m a.2 b.2) →
  ∃ ys : List Value, Instr.fill place xs.toArray qs = some ys.toArray ∧ RVs S m cs' ys ∧ cs'.all V.one = true ∧ cs'.length = cs.length
 | [], qs, cs, cs', xs, h, hv, h1, hl, hp => by
  simp [fillV] at h; subst h
  have : qs = [] := List.length_eq_zero_iff.1 (by simp at hl; exact hl.symm)
  subst this
  exact ⟨xs, rfl, hv, h1, rfl⟩
 | (i, x) :: ps, qs, cs, cs', xs, h, hv, h1, hl, hp => by
  cases qs with
  | nil => simp at hl
  | cons q qs =>
   obtain ⟨i', y⟩ := q
   obtain ⟨hi, hxy⟩ := hp 0 (i, x) (i', y) rfl rfl
   simp at hi; subst hi
   simp only [fillV] at h
   split at h
   ·rename_i off size us hpl hcx
    split at h
    ·rename_i hb1 hb2
     have e1 := Nat.eq_of_beq_eq_true hb1
     have e2 := Nat.le_of_ble_eq_true hb2
     obtain ⟨ys, g1, g2, g3⟩ := cellsV_spec hcx hxy
     have hyl : ys.length = us.length := g2.1.symm
     have hv' : RVs S m (cs.take off ++ us ++ cs.drop (off + us.length)) (xs.take off ++ ys ++ xs.drop (off + ys.length)) := by
      rw [hyl]; exact ((hv.take off).append g2).append (hv.drop _)
     have h1' : (cs.take off ++ us ++ cs.drop (off + us.length)).all V.one = true := by
      rw [List.all_eq_true] at h1 g3 ⊢
      intro z hz
      simp only [List.mem_append] at hz
      rcases hz with (hz | hz) | hz
      ·exact h1 z (List.mem_of_mem_take hz)
      ·exact g3 z hz
      ·exact h1 z (List.mem_of_mem_drop hz)
     obtain ⟨zs, k1, k2, k3, k4⟩ := fillV_sound h hv' h1' (by simpa using hl) (fun j a b ha hb => hp (j + 1) a b (by simpa using ha) (by simpa using hb))
     refine ⟨zs, ?_, k2, k3, by rw [k4]; simp; omega⟩
     have hxl := hv.1
     have hsz : y.cells.size = size := by rw [g1]; simp; omega
     simp only [Instr.fill, hpl]
     rw [if_neg (by rw [hsz]; simp; omega)]
     rw [← k1]
     congr 1
     apply Array.ext'
     have := fill_fold ys off 0 xs.toArray (by simp; omega)
     simp only [Nat.add_zero] at this
     rw [g1]
     simpa using this
    ·simp at h
   ·simp at h

end Go.Ac
end

section
namespace Go.Ac
variable {P : Program} {S : Nat → Prop} {m : M}

theorem flatten_get {α : Type} (sz : Nat) (h0 : 0 < sz) : ∀ (rows : List (List α)), (∀ r ∈ rows, r.length = sz) → ∀ q, rows.flatten[q]? = (rows[q / sz]?).bind (fun r => r[q % sz]?)
 | [], _, q => by simp
 | r :: rows, h, q => by
  have hr : r.length = sz := h r (by simp)
  simp only [List.flatten_cons, List.getElem?_append, hr]
  split
  ·rename_i hq
   rw [Nat.div_eq_of_lt hq, Nat.mod_eq_of_lt hq]; rfl
  ·rename_i hq
   rw [flatten_get sz h0 rows (fun r hr => h r (by simp [hr])) (q - sz)]
   have h1 : q / sz = (q - sz) / sz + 1 := by
    rw [show q = (q - sz) + sz by omega, Nat.add_div_right _ h0]; simp
   have h2 : q % sz = (q - sz) % sz := by
    conv => lhs; rw [show q = (q - sz) + sz by omega, Nat.add_mod_right]
   rw [h1, h2]; simp

theorem flatten_len {α : Type} (sz : Nat) : ∀ (rows : List (List α)), (∀ r ∈ rows, r.length = sz) → rows.flatten.length = rows.length * sz
 | [], _ => by simp
 | r :: rows, h => by
  simp only [List.flatten_cons, List.length_append, List.length_cons, h r (by simp), flatten_len sz rows (fun r hr => h r (by simp [hr])), Nat.succ_mul]
  omega

theorem allbeq {rows : List (List D)} {sz : Nat} (h : rows.all (fun r => Nat.beq r.length sz) = true) : ∀ r ∈ rows, r.length = sz :=
 fun r hr => Nat.eq_of_beq_eq_true (List.all_eq_true.1 h r hr)

/-- The elements of a slice, in memory. -/
def Elems [Gl] (S : Nat → Prop) (m : M) (sz n : Nat) (vs : List V) (v : Value) : Prop :=
 ∃ a k xs, v = .slice a n k ∧ n ≤ k ∧ k ≤ maxLen ∧ RVs S m vs xs ∧ vs.length = n * sz ∧ vs.all V.one = true ∧ (a = none → n = 0) ∧ ∀ p, a = some p → ∀ (j : Nat) (y : Value), xs[j]? = some y → m.w.cell? (p.add j) = some y

theorem all_one_d (l : List D) : (l.map V.d).all V.one = true := by simp [V.one]

theorem rd_elems [Gl] {rows : List (List D)} {sz : Nat} {v : Value} (h : RD m.w (m.av S) (.slice rows) v) (hsz : ∀ r ∈ rows, r.length = sz) : Elems S m sz rows.length (rows.flatten.map .d) v := by
 cases h with
 | empty a cap hc =>
  exact ⟨a, cap, [], rfl, Nat.zero_le _, hc, .nil, by simp, rfl, (fun _ => rfl), fun p _ j y hy => by simp at hy⟩
 | slice rows b off cap sz' hlen hcap hs f hf hr =>
  by_cases h0 : rows = []
  ·subst h0
   exact ⟨some ⟨b, off, none⟩, cap, [], rfl, Nat.zero_le _, hcap, .nil, by simp, rfl, (fun h => by cases h), (fun p _ j y hy => by simp at hy)⟩
  ·obtain ⟨r0, rest, rfl⟩ := List.exists_cons_of_ne_nil h0
   have hss : sz' = sz := by rw [← hs 0 r0 rfl]; exact hsz r0 (by simp)
   subst hss
   have hl := flatten_len sz' (r0 :: rest) hsz
   by_cases hz : sz' = 0
   ·subst hz
    have : (r0 :: rest).flatten = [] := List.length_eq_zero_iff.1 (by rw [hl]; simp)
    rw [this]
    exact ⟨some ⟨b, off, none⟩, cap, [], rfl, hlen, hcap, .nil, by simp, rfl, (fun h => by cases h), (fun p _ j y hy => by simp at hy)⟩
   ·have hpos : 0 < sz' := by omega
    refine ⟨some ⟨b, off, none⟩, cap, (List.range ((r0 :: rest).length * sz')).map (fun q => f (q / sz') (q % sz')), rfl, hlen, hcap, ?_, by simp only [List.length_map, hl], all_one_d _, (fun h => by cases h), ?_⟩
    ·refine RVs.map_d (by simp only [List.length_map, List.length_range]; exact hl) fun j d x hd hx => ?_
     have hj : j < (r0 :: rest).length * sz' := by rw [← hl]; exact (List.getElem?_eq_some_iff.1 hd).1
     rw [List.getElem?_map, List.getElem?_range hj] at hx
     simp at hx; subst hx
     rw [flatten_get sz' hpos _ hsz] at hd
     cases hrow : (r0 :: rest)[j / sz']? with
     | none => simp [hrow] at hd
     | some row => simp [hrow] at hd; exact hr _ _ row d hrow hd
    ·rintro p hp j y hy
     injection hp with hp; subst hp
     have hj : j < (r0 :: rest).length * sz' := by
      have := (List.getElem?_eq_some_iff.1 hy).1
      simpa using this
     rw [List.getElem?_map, List.getElem?_range hj] at hy
     simp at hy; subst hy
     have h1 : j / sz' < (r0 :: rest).length := Nat.div_lt_of_lt_mul (by rw [Nat.mul_comm]; exact hj)
     have h2 : j % sz' < sz' := Nat.mod_lt _ hpos
     have hrow : (r0 :: rest)[j / sz']? = some (r0 :: rest)[j / sz'] := List.getElem?_eq_getElem h1
     have h2' : j % sz' < ((r0 :: rest)[j / sz']).length := by rw [hsz _ (List.getElem_mem h1)]; exact h2
     have hd : ((r0 :: rest)[j / sz'])[j % sz']? = some (((r0 :: rest)[j / sz'])[j % sz']'h2') := List.getElem?_eq_getElem h2'
     obtain ⟨_, h3⟩ := hf _ _ _ _ hrow hd
     rw [addr_add, ← h3]
     congr 2
     rw [Nat.mul_comm, Nat.div_add_mod]

theorem rowsOf_sound [Gl] {sz n : Nat} {x : V} {vs : List V} {rd : List Nat} {v : Value} (h : rowsOf m.h sz x = some (n, vs, rd)) (hv : RV S m x v) (hR : Rel S m) :
  ∃ a k, v = .slice a n k ∧ n ≤ k ∧ k ≤ maxLen ∧ ∃ xs, RVs S m vs xs ∧ vs.length = n * sz ∧ vs.all V.one = true ∧ (a = none → n = 0) ∧ ∀ p, a = some p → ∀ (j : Nat) (y : Value), xs[j]? = some y → m.w.cell? (p.add j) = some y := by
 have dcase : ∀ {rows : List (List D)} {v : Value}, RD m.w (m.av S) (.slice rows) v → (∀ r ∈ rows, r.length = sz) →
   ∃ a k, v = .slice a rows.length k ∧ rows.length ≤ k ∧ k ≤ maxLen ∧ ∃ xs, RVs S m (rows.flatten.map .d) xs ∧ (rows.flatten.map V.d).length = rows.length * sz ∧ (rows.flatten.map V.d).all V.one = true ∧ (a = none → rows.length = 0) ∧ ∀ p, a = some p → ∀ (j : Nat) (y : Value), xs[j]? = some y → m.w.cell? (p.add j) = some y := by
  intro rows v hd hsz
  obtain ⟨a, k, xs, h1, h2, h3, h4, h5, h6, h7, h8⟩ := rd_elems (sz := sz) hd hsz
  exact ⟨a, k, h1, h2, h3, xs, h4, h5, h6, h7, h8⟩
 unfold rowsOf at h
 split at h
 ·split at h
  ·rename_i rows hall
   simp only [Option.some.injEq, Prod.mk.injEq] at h; obtain ⟨rfl, rfl, rfl⟩ := h
   cases hv with
   | d hd => exact dcase hd (allbeq hall)
  ·simp at h
 ·split at h
  ·rename_i rows hall
   simp only [Option.some.injEq, Prod.mk.injEq] at h; obtain ⟨rfl, rfl, rfl⟩ := h
   cases hv with
   | full hd => exact dcase hd (allbeq hall)
  ·simp at h
 ·rename_i id g off len sz' cap
  split at h
  ·rename_i o hl hbeq
   split at h
   ·rename_i hble
    simp only [Option.some.injEq, Prod.mk.injEq] at h; obtain ⟨rfl, rfl, rfl⟩ := h
    obtain ⟨ho, _, hok⟩ := hv.osl_live hl
    have hsz : sz = sz' := Nat.eq_of_beq_eq_true hbeq
    have hle : off + len * sz ≤ o.cells.length := Nat.le_of_ble_eq_true hble
    unfold OslOK at hok
    cases hat : m.at_ id with
    | none =>
     simp only [hat] at hok
     obtain ⟨rfl, rfl, rfl, a, rfl⟩ := hok
     have hn := hR.none_ id o ho hat
     exact ⟨a, 0, rfl, Nat.le_refl _, Nat.zero_le _, [], by simp [hn, RVs.nil], by simp [hn], by simp [hn], fun _ => rfl, fun p _ j y hy => by simp at hy⟩
    | some q =>
     obtain ⟨b, base⟩ := q
     simp only [hat] at hok
     obtain ⟨p, k, rfl, hp, h2, h3, h4, _⟩ := hok
     obtain ⟨xs, hxs, hone, hc⟩ := hR.vals ho hat (hv.osl_kind hl)
     have hone' : ((o.cells.drop off).take (len * sz)).all V.one = true := by
      rw [List.all_eq_true] at hone ⊢
      exact fun z hz => hone z (List.mem_of_mem_drop (List.mem_of_mem_take hz))
     refine ⟨some p, k, rfl, h3, h4, (xs.drop off).take (len * sz), (hxs.drop off).take _, by simp; omega, hone', (fun h => by cases h), ?_⟩
     rintro p' hp' j y hy
     injection hp' with hp'; subst hp'
     rw [List.getElem?_take] at hy
     split at hy
     ·rename_i hj
      rcases hp with rfl | ⟨rfl, _⟩
      ·rw [List.getElem?_drop] at hy
       rw [addr_add, Nat.add_assoc]
       exact hc _ _ hy
      ·simp at hj
     ·simp at hy
   ·simp at h
  ·simp at h
 ·simp at h

theorem first_run {a : Option Addr} {n k sz : Nat} {xs : List Value} (w : World) (hl : xs.length = n * sz) (hn : a = none → n = 0) (h : ∀ p, a = some p → ∀ (j : Nat) (y : Value), xs[j]? = some y → w.cell? (p.add j) = some y) (n' : Nat) :
  (Builtin.firstCells sz n (.slice a n' k)).run P w = .ok xs.toArray w := by
 cases a with
 | none =>
  have := hn rfl
  subst this
  have : xs = [] := List.length_eq_zero_iff.1 (by simpa using hl)
  subst this
  exact run_firstCells_none w sz 0 n' k
 | some p => exact run_firstCells_some w sz n p n' k xs hl (h p rfl)

theorem run_grow (t ty e : TypeId) (i : TypeInfo) (z : Value) (w : World) (ht : P.underlying t = some (.slice e)) (hi : P.info? e = some i) (hz : i.zero = some z)
  {a b : Option Addr} {sLen sCap n k : Nat} {olds news : List Value} (hlo : olds.length = sLen * i.size) (hln : news.length = n * i.size) (ha : a = none → sLen = 0) (hb : b = none → n = 0)
  (hold : ∀ p, a = some p → ∀ (j : Nat) (y : Value), olds[j]? = some y → w.cell? (p.add j) = some y) (hnew : ∀ p, b = some p → ∀ (j : Nat) (y : Value), news[j]? = some y → w.cell? (p.add j) = some y)
  (hg : sCap < sLen + n) (h1 : 1 ≤ i.bytes) (hfit : (sLen + n) * i.bytes ≤ 140737488355328) :
  (Builtin.append_ #[t, t] ty #[.slice a sLen sCap, .slice b n k]).run P w =
   .ok (.slice (some ⟨w.heap.size, 0, none⟩) (sLen + n) (grownCap w (sLen + n) sCap e))
    (w.drew.alloc (.cells (olds.toArray ++ news.toArray ++ Builtin.zeroCells z.cells (grownCap w (sLen + n) sCap e - (sLen + n))) e)) := by
 have hn : ¬ (sLen + n ≤ sCap) := by omega
 have h48 : ¬ (281474976710656 < Builtin.nextslicecap (sLen + n) sCap * i.bytes) := by have := growslice_fits hg hfit; omega
 have hbz : i.bytes ≠ 0 := by omega
 have hf := first_run (P := P) (k := k) (n' := n) w.drew hln hb (by simpa using hnew)
 have hfo := first_run (P := P) (k := sCap) (n' := sLen) w.drew hlo ha (by simpa using hold)
 simp [Builtin.append_, run_underlying ht, sizeOf, typeInfo, zeroValue, hi, hz, Builtin.lenOf, hn, h48, hbz, Question.forced, hf, hfo, newRow, grownCap]
 congr 2
 apply Array.ext'
 simp [List.append_assoc]

theorem run_inplace_some (t ty e : TypeId) (i : TypeInfo) (w w' : World) (ht : P.underlying t = some (.slice e)) (hi : P.info? e = some i)
  {p : Addr} {b : Option Addr} {sLen sCap n k : Nat} {news : List Value} (hln : news.length = n * i.size) (hb : b = none → n = 0)
  (hnew : ∀ p, b = some p → ∀ (j : Nat) (y : Value), news[j]? = some y → w.cell? (p.add j) = some y) (hg : sLen + n ≤ sCap)
  (hst : (storeCells (p.add (sLen * i.size)) news).run P w = .ok () w') :
  (Builtin.append_ #[t, t] ty #[.slice (some p) sLen sCap, .slice b n k]).run P w = .ok (.slice (some p) (sLen + n) sCap) w' := by
 have hf := first_run (P := P) (k := k) (n' := n) w hln hb hnew
 simp [Builtin.append_, run_underlying ht, sizeOf, typeInfo, hi, Builtin.lenOf, hg, hf, hst]

theorem run_inplace_none (t ty e : TypeId) (i : TypeInfo) (w : World) (ht : P.underlying t = some (.slice e)) (hi : P.info? e = some i)
  {b : Option Addr} {k : Nat} : (Builtin.append_ #[t, t] ty #[.slice none 0 0, .slice b 0 k]).run P w = .ok (.slice none 0 0) w := by
 have hf : (Builtin.firstCells i.size 0 (.slice b 0 k)).run P w = .ok #[] w := by
  have := first_run (P := P) (a := b) (n := 0) (k := k) (sz := i.size) (xs := []) w (by simp) (fun _ => rfl) (fun p _ j y hy => by simp at hy) 0
  simpa using this
 simp [Builtin.append_, run_underlying ht, sizeOf, typeInfo, hi, Builtin.lenOf, hf]

theorem grown_le (w : World) {need old : Nat} {e : TypeId} (h : need < 2 ^ 63) : need ≤ grownCap w need old e ∧ grownCap w need old e ≤ maxLen := by
 unfold grownCap Question.cut maxLen
 have : w.tape w.drawn (.appendCap need old e) % (2 ^ 63 - need) < 2 ^ 63 - need := Nat.mod_lt _ (by omega)
 constructor
 ·exact Nat.le_add_right _ _
 ·show need + _ ≤ _
  omega

theorem zeroCells_size (z : Array Value) (n : Nat) : (Builtin.zeroCells z n).size = n * z.size := by simp [Builtin.zeroCells]

theorem fitsB_spec {n by_ : Nat} (h : fitsB n by_ = true) : 1 ≤ by_ ∧ n * by_ ≤ 140737488355328 ∧ n ≤ 140737488355328 := by
 simp only [fitsB, Bool.and_eq_true] at h
 have h1 := Nat.le_of_ble_eq_true h.1
 have h2 := Nat.le_of_ble_eq_true h.2
 refine ⟨h1, h2, ?_⟩
 have : n * 1 ≤ n * by_ := Nat.mul_le_mul_left _ h1
 omega

/-- A slice grows into a new row. -/
theorem grow_obj [Gl] {id c sz n0 n1 by_ : Nat} {t ty e : TypeId} {i : TypeInfo} {z : Value} {a b : Option Addr} {sCap k : Nat} {vs us : List V} {xs ys : List Value} (hR : Rel S m)
  (ht : P.underlying t = some (.slice e)) (hi : P.info? e = some i) (hz : i.zero = some z) (hsz : i.size = sz) (hzs : z.cells.size = sz) (hby : i.bytes = by_) (hfit : fitsB (n0 + n1) by_ = true)
  (hvs : RVs S m vs xs) (hus : RVs S m us ys) (hl0 : vs.length = n0 * sz) (hl1 : us.length = n1 * sz) (ho0 : vs.all V.one = true) (ho1 : us.all V.one = true)
  (ha : a = none → n0 = 0) (hb : b = none → n1 = 0)
  (hca : ∀ p, a = some p → ∀ (j : Nat) (y : Value), xs[j]? = some y → m.w.cell? (p.add j) = some y) (hcb : ∀ p, b = some p → ∀ (j : Nat) (y : Value), ys[j]? = some y → m.w.cell? (p.add j) = some y)
  (hg : sCap < n0 + n1) (hiss : ¬ m.iss id c) :
  ∃ x m', (Builtin.append_ #[t, t] ty #[.slice a n0 sCap, .slice b n1 k]).run P m.w = .ok x m'.w ∧ Rel S m' ∧ Evo S m m' ∧ RV S m' (.osl id c 0 (n0 + n1) sz none) x ∧ m'.h = upd m.h id (some ⟨c, false, vs ++ us⟩) ∧
   m'.iss = (fun i g => m.iss i g ∨ (c ≤ g ∧ g < c + 1)) := by
 obtain ⟨hb1, hb2, hb3⟩ := fitsB_spec hfit
 have hrun := run_grow (P := P) t ty e i z m.w ht hi hz (a := a) (b := b) (sLen := n0) (sCap := sCap) (n := n1) (k := k) (olds := xs) (news := ys) (by rw [hsz, ← hl0, hvs.1]) (by rw [hsz, ← hl1, hus.1]) ha hb hca hcb hg (by omega) (by rw [hby]; exact hb2)
 obtain ⟨hcap1, hcap2⟩ := grown_le m.w (need := n0 + n1) (old := sCap) (e := e) (by omega)
 have hxl : xs.length = n0 * sz := by rw [← hvs.1, hl0]
 have hyl : ys.length = n1 * sz := by rw [← hus.1, hl1]
 have hsum : (n0 + n1) * sz = n0 * sz + n1 * sz := Nat.add_mul _ _ _
 obtain ⟨m', w1, w2, w3, w4, w5, w6⟩ := alloc_obj (id := id) (o' := ⟨c, false, vs ++ us⟩) (c := c) (dc := 1) (T := e)
  (cs' := xs.toArray ++ ys.toArray ++ Builtin.zeroCells z.cells (grownCap m.w (n0 + n1) sCap e - (n0 + n1)))
  (w' := m.w.drew.alloc (.cells (xs.toArray ++ ys.toArray ++ Builtin.zeroCells z.cells (grownCap m.w (n0 + n1) sCap e - (n0 + n1))) e)) hR rfl
  (by simp [zeroCells_size, hvs.1, hus.1]) hiss rfl rfl (by
   intro j v hv
   obtain ⟨y, h1, h2⟩ := (hvs.append hus).get hv
   have h3 : (vs ++ us).all V.one = true := by rw [List.all_append, ho0, ho1]; rfl
   refine ⟨List.all_eq_true.1 h3 v (List.mem_of_getElem? hv), y, ?_, h2⟩
   have hj : j < xs.length + ys.length := by
    have := (List.getElem?_eq_some_iff.1 h1).1
    simpa using this
   have e1 : (xs.toArray ++ ys.toArray)[j]? = some y := by
    rw [show xs.toArray ++ ys.toArray = (xs ++ ys).toArray by simp]; simpa using h1
   rw [Array.getElem?_append]
   rw [if_pos (by simp; omega)]
   exact e1)
 refine ⟨_, m', by rw [w1]; exact hrun, w5, w6, ?_, w2, w4⟩
 refine .osl (by rw [w4]; exact .inr ⟨Nat.le_refl _, by omega⟩) rfl fun o ho hgen => ?_
 rw [w2] at ho; simp at ho; subst ho
 refine ⟨kind_of_one fun j v hv => ?_, ?_⟩
 ·have h3 : (vs ++ us).all V.one = true := by rw [List.all_append, ho0, ho1]; rfl
  exact List.all_eq_true.1 h3 v (List.mem_of_getElem? hv)
 unfold OslOK
 rw [w3]
 simp only [upd_same]
 refine ⟨_, _, rfl, .inl rfl, by simp [hl0, hl1]; omega, hcap1, hcap2, ⟨_, e, (0, 0), by rw [w1]; simp only [World.alloc]; exact Array.getElem?_push_size, ?_⟩, trivial⟩
 simp [zeroCells_size, hzs, hxl, hyl]
 have : (grownCap m.w (n0 + n1) sCap e - (n0 + n1)) * sz + (n0 + n1) * sz = grownCap m.w (n0 + n1) sCap e * sz := by rw [← Nat.add_mul]; congr 1; omega
 omega

end Go.Ac
end
