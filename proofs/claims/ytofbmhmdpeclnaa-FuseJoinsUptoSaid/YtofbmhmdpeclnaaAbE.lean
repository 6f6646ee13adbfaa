/- The abstract machine: data out of objects; stores. No conditions. -/
import Derived.Test.YtofbmhmdpeclnaaAbD
set_option linter.unusedVariables false
set_option linter.unusedSimpArgs false
namespace Go.Ab
variable {P : Program} {S : Nat → Prop} {m : M}

theorem hupd_append (a b : List (Nat × Ob)) : ∀ h : Nat → Option Ob, hupd h (a ++ b) = hupd (hupd h a) b := by
  induction a with
  | nil => intro h; rfl
  | cons p r ih => intro h; obtain ⟨k, o⟩ := p; exact ih _

/-- Memory in which some objects are only read from now on. -/
structure RoBy (S : Nat → Prop) (m m' : M) (ids : List Nat) : Prop where
  evo : Evo S m m'
  rel : Rel S m'
  w : m'.w = m.w
  at_ : m'.at_ = m.at_
  iss : m'.iss = m.iss
  h : ∀ id, m'.h id = m.h id ∨ ∃ o, m.h id = some o ∧ m'.h id = some { o with ro := true }
  ro : ∀ id ∈ ids, ∀ o, m'.h id = some o → o.ro = true
  not : ∀ id, id ∉ ids → m'.h id = m.h id

theorem ros_from : ∀ (ids : List Nat) (all : List Nat) (m1 : M), RoBy S m m1 all → ∃ m', m'.h = hupd m1.h (roOf m.h ids) ∧ RoBy S m m' (all ++ ids)
  | [], all, m1, h1 => ⟨m1, rfl, by simpa using h1⟩
  | id :: r, all, m1, h1 => by
    simp only [roOf]
    cases hid : m.h id with
    | none =>
      obtain ⟨m', h2, h3⟩ := ros_from r all m1 h1
      refine ⟨m', h2, ⟨h3.evo, h3.rel, h3.w, h3.at_, h3.iss, h3.h, ?_, ?_⟩⟩
      · intro i hi o ho
        simp only [List.mem_append, List.mem_cons] at hi
        rcases hi with hi | rfl | hi
        · exact h3.ro i (by simp [hi]) o ho
        · rcases h3.h i with h | ⟨o', h, _⟩
          · rw [h, hid] at ho; simp at ho
          · rw [hid] at h; simp at h
        · exact h3.ro i (by simp [hi]) o ho
      · intro i hi
        simp only [List.mem_append, List.mem_cons, not_or] at hi
        exact h3.not i (by simp [hi.1, hi.2.2])
    | some o =>
      have hm1 : ∃ o1, m1.h id = some o1 ∧ ({ o1 with ro := true } : Ob) = { o with ro := true } := by
        rcases h1.h id with h | ⟨o', h, h'⟩
        · exact ⟨o, by rw [h, hid], rfl⟩
        · rw [hid] at h; injection h with h; subst h; exact ⟨_, h', rfl⟩
      obtain ⟨o1, ho1, heq⟩ := hm1
      obtain ⟨m2, e1, e2, e3, e4, e5, e6⟩ := ro_obj h1.rel ho1
      have h2 : RoBy S m m2 (all ++ [id]) := by
        refine ⟨h1.evo.trans e6, e5, e1.trans h1.w, e3.trans h1.at_, e4.trans h1.iss, fun i => ?_, fun i hi q hq => ?_, fun i hi => ?_⟩
        · by_cases hi : i = id
          · subst hi; exact .inr ⟨o, hid, by rw [e2]; simp [heq]⟩
          · rw [e2, upd_ne _ _ hi]; exact h1.h i
        · by_cases hid' : i = id
          · subst hid'; rw [e2] at hq; simp at hq; subst hq; rfl
          · rw [e2, upd_ne _ _ hid'] at hq
            exact h1.ro i (by simpa [hid'] using hi) q hq
        · simp at hi
          rw [e2, upd_ne _ _ hi.2]; exact h1.not i hi.1
      obtain ⟨m', h3, h4⟩ := ros_from r (all ++ [id]) m2 h2
      refine ⟨m', ?_, by simpa using h4⟩
      rw [h3, e2]
      simp only [hupd, heq]

theorem ros (hR : Rel S m) (ids : List Nat) : ∃ m', m'.h = hupd m.h (roOf m.h ids) ∧ RoBy S m m' ids := by
  obtain ⟨m', h1, h2⟩ := ros_from (S := S) (m := m) ids [] m ⟨.refl S m, hR, rfl, rfl, rfl, fun _ => .inl rfl, fun _ h => by simp at h, fun _ _ => rfl⟩
  exact ⟨m', h1, by simpa using h2⟩

theorem RoBy.free {m' : M} {ids : List Nat} (hR : Rel S m) (hb : RoBy S m m' ids) {id : Nat} {o : Ob} {b base : Nat} (hid : id ∈ ids) (ho : m.h id = some o) (ha : m.at_ id = some (b, base)) : ¬ m'.av S b := by
  rintro (h | ⟨i, q, x, h1, h2, h3⟩)
  · exact (hR.obj id o b base ho ha).1 h
  · rw [hb.at_] at h3
    have hq : ∃ p, m.h i = some p := by
      rcases hb.h i with h | ⟨p, h, _⟩
      · exact ⟨q, h ▸ h1⟩
      · exact ⟨p, h⟩
    obtain ⟨p, hp⟩ := hq
    have := hR.inj i id p o b x base hp ho h3 ha
    subst this
    have := hb.ro i hid q h1
    rw [this] at h2; cases h2

theorem chunk_length (sz : Nat) : ∀ (n : Nat) (l : List D), (chunk sz n l).length = n
  | 0, _ => rfl
  | n + 1, l => by simp [chunk, chunk_length sz n]

theorem chunk_get (sz : Nat) : ∀ (n : Nat) (l : List D) (i : Nat), i < n → (chunk sz n l)[i]? = some ((l.drop (i * sz)).take sz)
  | n + 1, l, 0, _ => by simp [chunk]
  | n + 1, l, i + 1, h => by
    simp only [chunk, List.getElem?_cons_succ]
    rw [chunk_get sz n (l.drop sz) i (by omega), List.drop_drop]
    congr 3
    rw [Nat.succ_mul]; omega

theorem toDs_spec {f : V → Option (D × List Nat)} : ∀ {vs : List V} {ds : List D} {ids : List Nat}, toDs f vs = some (ds, ids) →
    ds.length = vs.length ∧ ∀ (j : Nat) (v : V), vs[j]? = some v → ∃ d a, ds[j]? = some d ∧ f v = some (d, a) ∧ ∀ i ∈ a, i ∈ ids
  | [], ds, ids, h => by simp [toDs] at h; obtain ⟨rfl, rfl⟩ := h; exact ⟨rfl, fun j v hv => by simp at hv⟩
  | v :: r, ds, ids, h => by
    simp only [toDs] at h
    split at h
    · rename_i x a xs b h1 h2
      simp at h; obtain ⟨rfl, rfl⟩ := h
      obtain ⟨h3, h4⟩ := toDs_spec h2
      refine ⟨by simp [h3], fun j u hu => ?_⟩
      cases j with
      | zero => simp at hu; subst hu; exact ⟨x, a, rfl, h1, fun i hi => by simp [hi]⟩
      | succ j =>
        simp at hu
        obtain ⟨d, q, h5, h6, h7⟩ := h4 j u hu
        exact ⟨d, q, by simpa using h5, h6, fun i hi => by simp [h7 i hi]⟩
    · simp at h

theorem toD_sound (hR : Rel S m) : ∀ (f : Nat) {v : V} {x : D} {ids : List Nat} {y : Value}, toD m.h f v = some (x, ids) → RV S m v y → ∀ {m' : M} {all : List Nat}, RoBy S m m' all → (∀ i ∈ ids, i ∈ all) →
    RD m'.w (m'.av S) x y := by
  intro f
  induction f with
  | zero =>
    intro v x ids y h hv m' all hb hi
    cases v <;> simp only [toD] at h <;> try (simp at h; done)
    case d x' => simp at h; obtain ⟨rfl, rfl⟩ := h; cases hv with | d h => exact h.mono hb.evo.keep
    case full rows => simp at h; obtain ⟨rfl, rfl⟩ := h; cases hv with | full h => exact h.mono hb.evo.keep
  | succ f ih =>
    intro v x ids y h hv m' all hb hi
    cases v <;> simp only [toD] at h <;> try (simp at h; done)
    case d x' => simp at h; obtain ⟨rfl, rfl⟩ := h; cases hv with | d h => exact h.mono hb.evo.keep
    case full rows => simp at h; obtain ⟨rfl, rfl⟩ := h; cases hv with | full h => exact h.mono hb.evo.keep
    case osl id g off len sz cap =>
      cases hl : live m.h id g with
      | none => simp [hl] at h
      | some o =>
        simp only [hl] at h
        split at h
        · rename_i ds r hble hds
          simp at h; obtain ⟨rfl, rfl⟩ := h
          have hle : off + len * sz ≤ o.cells.length := Nat.le_of_ble_eq_true hble
          obtain ⟨ho, _, hok⟩ := hv.osl_live hl
          unfold OslOK at hok
          cases hat : m.at_ id with
          | none =>
            simp only [hat] at hok
            obtain ⟨rfl, _, _, a, rfl⟩ := hok
            simp only [chunk]
            exact .empty a 0 (Nat.zero_le _)
          | some p =>
            obtain ⟨b, base⟩ := p
            simp only [hat] at hok
            obtain ⟨p, k, rfl, hp, h2, h3, h4, _⟩ := hok
            rcases hp with rfl | ⟨rfl, rfl⟩
            · have hfree := hb.free hR (hi id (by simp)) ho hat
              obtain ⟨xs, hxs, _, hc⟩ := hR.vals ho hat
              obtain ⟨hdl, hdg⟩ := toDs_spec hds
              have hsub := (hxs.drop off).take (len * sz)
              have hlen : ((o.cells.drop off).take (len * sz)).length = len * sz := by simp; omega
              have hcl := chunk_length sz len ds
              have key : ∀ (i j : Nat) (row : List D) (d : D), (chunk sz len ds)[i]? = some row → row[j]? = some d → i < len ∧ j < sz ∧ ds[i * sz + j]? = some d := by
                intro i j row d h5 h6
                have hil : i < len := by rw [← hcl]; exact (List.getElem?_eq_some_iff.1 h5).1
                rw [chunk_get sz len ds i hil] at h5
                injection h5 with h5; subst h5
                rw [List.getElem?_take] at h6
                split at h6
                · rw [List.getElem?_drop] at h6; exact ⟨hil, by assumption, h6⟩
                · simp at h6
              have val : ∀ (q : Nat) (d : D), ds[q]? = some d → ∃ v y a, ((o.cells.drop off).take (len * sz))[q]? = some v ∧ xs[off + q]? = some y ∧ RV S m v y ∧ toD m.h f v = some (d, a) ∧ ∀ i ∈ a, i ∈ r := by
                intro q d hd
                have hq : q < ds.length := (List.getElem?_eq_some_iff.1 hd).1
                rw [hdl] at hq
                have hv' : ((o.cells.drop off).take (len * sz))[q]? = some ((o.cells.drop off).take (len * sz))[q] := List.getElem?_eq_getElem hq
                obtain ⟨d', a, g1, g2, g3⟩ := hdg q _ hv'
                rw [hd] at g1; injection g1 with g1; subst g1
                obtain ⟨y, hy1, hy2⟩ := hsub.get hv'
                refine ⟨_, y, a, hv', ?_, hy2, g2, g3⟩
                rw [List.getElem?_take] at hy1
                split at hy1
                · rw [List.getElem?_drop] at hy1; exact hy1
                · simp at hy1
              have := RD.slice (w := m'.w) (av := m'.av S) (chunk sz len ds) b (base + off) k sz (by rw [hcl]; exact h3) h4 (fun i row hrow => by
                  have hil : i < len := by rw [← hcl]; exact (List.getElem?_eq_some_iff.1 hrow).1
                  rw [chunk_get sz len ds i hil] at hrow
                  injection hrow with hrow; subst hrow
                  simp
                  have : (i + 1) * sz ≤ len * sz := Nat.mul_le_mul_right _ hil
                  rw [Nat.succ_mul] at this
                  omega)
                (fun i j => (xs[off + (i * sz + j)]?).getD undef)
                (fun i j row d h5 h6 => by
                  obtain ⟨k1, k2, k3⟩ := key i j row d h5 h6
                  obtain ⟨v, y, a, g1, g2, _⟩ := val _ d k3
                  refine ⟨hfree, ?_⟩
                  rw [hb.w, g2, Nat.add_assoc]
                  exact hc _ _ g2)
                (fun i j row d h5 h6 => by
                  obtain ⟨k1, k2, k3⟩ := key i j row d h5 h6
                  obtain ⟨v, y, a, g1, g2, g3, g4, g5⟩ := val _ d k3
                  rw [g2]
                  exact ih g4 g3 hb (fun i hi' => hi i (by simp [g5 i hi'])))
              rw [hcl] at this
              exact this
            · simp only [chunk]
              exact .empty (some p) 0 (Nat.zero_le _)
        · simp at h

theorem close1_sound (hR : Rel S m) {v w : V} {ids : List Nat} {y : Value} (h : close1 m.h v = some (w, ids)) (hv : RV S m v y) {m' : M} {all : List Nat} (hb : RoBy S m m' all) (hi : ∀ i ∈ ids, i ∈ all) : RV S m' w y := by
  unfold close1 at h
  split at h
  · simp at h; obtain ⟨rfl, rfl⟩ := h; exact hv.mono hb.evo
  · simp at h; obtain ⟨rfl, rfl⟩ := h; exact hv.mono hb.evo
  · unfold ofD at h
    split at h
    · rename_i x r hx
      simp at h; obtain ⟨rfl, rfl⟩ := h
      exact .d (toD_sound hR depthD hx hv hb hi)
    · simp at h

theorem closeVs_sound {f : V → Option (V × List Nat)} {m' : M} {all : List Nat}
    (hf : ∀ {v w : V} {ids : List Nat} {y : Value}, f v = some (w, ids) → RV S m v y → (∀ i ∈ ids, i ∈ all) → RV S m' w y) :
    ∀ {vs ws : List V} {ids : List Nat} {ys : List Value}, closeVs f vs = some (ws, ids) → RVs S m vs ys → (∀ i ∈ ids, i ∈ all) → RVs S m' ws ys
  | [], ws, ids, ys, h, hv, hi => by
    simp [closeVs] at h; obtain ⟨rfl, rfl⟩ := h
    have := hv.1; simp at this
    have : ys = [] := List.length_eq_zero_iff.1 (by simp [← this])
    subst this; exact .nil
  | v :: r, ws, ids, ys, h, hv, hi => by
    simp only [closeVs] at h
    split at h
    · rename_i x a xs b h1 h2
      simp at h; obtain ⟨rfl, rfl⟩ := h
      obtain ⟨y, ys', rfl, hy, hys⟩ := hv.cases
      exact .cons (hf h1 hy fun i hi' => hi i (by simp [hi'])) (closeVs_sound hf h2 hys fun i hi' => hi i (by simp [hi']))
    · simp at h

theorem close_sound (hR : Rel S m) {v w : V} {ids : List Nat} {y : Value} (h : close m.h v = some (w, ids)) (hv : RV S m v y) {m' : M} {all : List Nat} (hb : RoBy S m m' all) (hi : ∀ i ∈ ids, i ∈ all) : RV S m' w y := by
  unfold close at h
  split at h
  · split at h
    · rename_i cs xs r hx
      simp at h; obtain ⟨rfl, rfl⟩ := h
      obtain ⟨ys, rfl, hys⟩ := hv.agg_vals
      exact (closeVs_sound (fun g1 g2 g3 => close1_sound hR g1 g2 hb g3) hx hys hi).agg
    · simp at h
  · exact close1_sound hR h hv hb hi

theorem RVs.tuple {cs : List V} {xs : List Value} (h : RVs S m cs xs) : RV S m (.tuple cs) (.tuple xs.toArray) :=
  .tuple (by simp [h.1]) fun j x y hx hy => h.2 j x y hx (by simpa using hy)

theorem closeT_sound (hR : Rel S m) {v w : V} {ids : List Nat} {y : Value} (h : closeT m.h v = some (w, ids)) (hv : RV S m v y) {m' : M} {all : List Nat} (hb : RoBy S m m' all) (hi : ∀ i ∈ ids, i ∈ all) : RV S m' w y := by
  unfold closeT at h
  split at h
  · split at h
    · rename_i cs xs r hx
      simp at h; obtain ⟨rfl, rfl⟩ := h
      obtain ⟨ys, rfl, hys⟩ := hv.tuple_vals
      exact (closeVs_sound (fun g1 g2 g3 => close_sound hR g1 g2 hb g3) hx hys hi).tuple
    · simp at h
  · exact close_sound hR h hv hb hi

theorem close1_one {look : Look} {v w : V} {ids : List Nat} (h : close1 look v = some (w, ids)) (ho : v.one = true) : w.one = true := by
  unfold close1 at h
  split at h
  · simp at h; obtain ⟨rfl, rfl⟩ := h; exact ho
  · simp at h; obtain ⟨rfl, rfl⟩ := h; exact ho
  · unfold ofD at h
    split at h
    · simp at h; obtain ⟨rfl, rfl⟩ := h; rfl
    · simp at h

theorem cl1_sound (hR : Rel S m) {fz : Bool} {v w : V} {ids : List Nat} {y : Value} (h : cl1 m.h fz v = some (w, ids)) (hv : RV S m v y) {m' : M} {all : List Nat} (hb : RoBy S m m' all) (hi : ∀ i ∈ ids, i ∈ all) : RV S m' w y := by
  unfold cl1 at h
  split at h
  · split at h
    · exact close1_sound hR h hv hb hi
    · simp at h; obtain ⟨rfl, rfl⟩ := h; exact hv.mono hb.evo
  · simp at h; obtain ⟨rfl, rfl⟩ := h; exact hv.mono hb.evo

theorem cl2_sound (hR : Rel S m) {fz : Bool} {v w : V} {ids : List Nat} {y : Value} (h : cl2 m.h fz v = some (w, ids)) (hv : RV S m v y) {m' : M} {all : List Nat} (hb : RoBy S m m' all) (hi : ∀ i ∈ ids, i ∈ all) : RV S m' w y := by
  unfold cl2 at h
  split at h
  · split at h
    · rename_i cs xs r hx
      simp at h; obtain ⟨rfl, rfl⟩ := h
      obtain ⟨ys, rfl, hys⟩ := hv.agg_vals
      exact (closeVs_sound (fun g1 g2 g3 => cl1_sound hR g1 g2 hb g3) hx hys hi).agg
    · simp at h
  · exact cl1_sound hR h hv hb hi

theorem cl1_one {look : Look} {fz : Bool} {v w : V} {ids : List Nat} (h : cl1 look fz v = some (w, ids)) (ho : v.one = true) : w.one = true := by
  unfold cl1 at h
  split at h
  · split at h
    · exact close1_one h ho
    · simp at h; obtain ⟨rfl, rfl⟩ := h; exact ho
  · simp at h; obtain ⟨rfl, rfl⟩ := h; exact ho

theorem closeVs_length {f : V → Option (V × List Nat)} : ∀ {vs ws : List V} {ids : List Nat}, closeVs f vs = some (ws, ids) → ws.length = vs.length
  | [], ws, ids, h => by simp [closeVs] at h; obtain ⟨rfl, rfl⟩ := h; rfl
  | v :: r, ws, ids, h => by
    simp only [closeVs] at h
    split at h
    · rename_i x a xs b h1 h2
      simp at h; obtain ⟨rfl, rfl⟩ := h
      simp [closeVs_length h2]
    · simp at h

theorem closeVs_one {look : Look} {fz : Bool} : ∀ {vs ws : List V} {ids : List Nat}, closeVs (cl1 look fz) vs = some (ws, ids) → vs.all V.one = true → ws.all V.one = true
  | [], ws, ids, h, _ => by simp [closeVs] at h; obtain ⟨rfl, rfl⟩ := h; rfl
  | v :: r, ws, ids, h, ho => by
    simp only [closeVs] at h
    split at h
    · rename_i x a xs b h1 h2
      simp at h; obtain ⟨rfl, rfl⟩ := h
      simp only [List.all_cons, Bool.and_eq_true] at ho ⊢
      exact ⟨cl1_one h1 ho.1, closeVs_one h2 ho.2⟩
    · simp at h

end Go.Ab
