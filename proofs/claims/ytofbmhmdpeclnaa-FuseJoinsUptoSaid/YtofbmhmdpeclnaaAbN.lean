/- The abstract machine: what an operation does hangs on what it looks at alone. No conditions. -/
import Derived.Test.YtofbmhmdpeclnaaAbM
set_option linter.unusedVariables false
set_option linter.unusedSimpArgs false
namespace Go.Ab
variable {P : Program}

/-- Two memories that agree on some names. -/
def Agree (l k : Look) (ids : List Nat) : Prop := ∀ i ∈ ids, l i = k i

theorem Agree.mono {l k : Look} {a b : List Nat} (h : Agree l k b) (hs : ∀ i ∈ a, i ∈ b) : Agree l k a := fun i hi => h i (hs i hi)

theorem live_loc {l k : Look} {id g : Nat} (h : l id = k id) : live l id g = live k id g := by unfold live; rw [h]

theorem toDs_loc {f g : V → Option (D × List Nat)} : ∀ {vs : List V} {ds : List D} {ids : List Nat}, toDs f vs = some (ds, ids) → (∀ v d a, f v = some (d, a) → (∀ i ∈ a, i ∈ ids) → g v = some (d, a)) → toDs g vs = some (ds, ids)
  | [], ds, ids, h, _ => h
  | v :: r, ds, ids, h, hf => by
    simp only [toDs] at h ⊢
    split at h
    · rename_i x a xs b h1 h2
      simp at h; obtain ⟨rfl, rfl⟩ := h
      rw [hf v x a h1 (fun i hi => by simp [hi]), toDs_loc h2 (fun v d a' h3 h4 => hf v d a' h3 (fun i hi => by simp [h4 i hi]))]
    · simp at h

theorem toD_loc {l k : Look} : ∀ (f : Nat) {v : V} {x : D} {ids : List Nat}, toD l f v = some (x, ids) → Agree l k ids → toD k f v = some (x, ids) := by
  intro f
  induction f with
  | zero => intro v x ids h ha; cases v <;> simp only [toD] at h ⊢ <;> exact h
  | succ f ih =>
    intro v x ids h ha
    cases v <;> simp only [toD] at h ⊢ <;> try exact h
    rename_i id g off len sz cap
    cases hl : live l id g with
    | none => simp [hl] at h
    | some o =>
      simp only [hl] at h
      split at h
      · rename_i ds r h1 h2
        simp at h; obtain ⟨rfl, rfl⟩ := h
        rw [← live_loc (ha id (by simp)), hl]
        simp only [h1]
        rw [toDs_loc h2 (fun v d a h3 h4 => ih h3 (ha.mono fun i hi => by simp [h4 i hi]))]
      · simp at h

theorem close1_loc {l k : Look} {v w : V} {ids : List Nat} (h : close1 l v = some (w, ids)) (ha : Agree l k ids) : close1 k v = some (w, ids) := by
  have gen : ∀ v, ofD (toD l depthD v) = some (w, ids) → ofD (toD k depthD v) = some (w, ids) := by
    intro v h
    unfold ofD at h
    split at h
    · rename_i x r hx
      simp at h; obtain ⟨rfl, rfl⟩ := h
      rw [toD_loc depthD hx ha]; rfl
    · simp at h
  cases v with
  | con v => exact h
  | fn f cs => cases cs with
    | nil => exact h
    | cons c cs => simp only [close1] at h ⊢; exact gen _ h
  | _ => simp only [close1] at h ⊢; exact gen _ h

theorem closeVs_loc {f g : V → Option (V × List Nat)} : ∀ {vs ws : List V} {ids : List Nat}, closeVs f vs = some (ws, ids) → (∀ v w a, f v = some (w, a) → (∀ i ∈ a, i ∈ ids) → g v = some (w, a)) → closeVs g vs = some (ws, ids)
  | [], ds, ids, h, _ => h
  | v :: r, ds, ids, h, hf => by
    simp only [closeVs] at h ⊢
    split at h
    · rename_i x a xs b h1 h2
      simp at h; obtain ⟨rfl, rfl⟩ := h
      rw [hf v x a h1 (fun i hi => by simp [hi]), closeVs_loc h2 (fun v d a' h3 h4 => hf v d a' h3 (fun i hi => by simp [h4 i hi]))]
    · simp at h

theorem close_loc {l k : Look} {v w : V} {ids : List Nat} (h : close l v = some (w, ids)) (ha : Agree l k ids) : close k v = some (w, ids) := by
  cases v with
  | agg cs =>
    simp only [close] at h ⊢
    split at h
    · rename_i xs r hx
      simp at h; obtain ⟨rfl, rfl⟩ := h
      rw [closeVs_loc hx (fun v w a h1 h2 => close1_loc h1 (ha.mono h2))]
    · simp at h
  | _ => simp only [close] at h ⊢; exact close1_loc h ha

theorem cl1_loc {l k : Look} {fz : Bool} {v w : V} {ids : List Nat} (h : cl1 l fz v = some (w, ids)) (ha : Agree l k ids) : cl1 k fz v = some (w, ids) := by
  cases v with
  | osl id g off len sz cap =>
    cases fz with
    | true => simp only [cl1] at h ⊢; exact close1_loc h ha
    | false => exact h
  | _ => exact h

theorem cl2_loc {l k : Look} {fz : Bool} {v w : V} {ids : List Nat} (h : cl2 l fz v = some (w, ids)) (ha : Agree l k ids) : cl2 k fz v = some (w, ids) := by
  cases v with
  | agg cs =>
    simp only [cl2] at h ⊢
    split at h
    · rename_i xs r hx
      simp at h; obtain ⟨rfl, rfl⟩ := h
      rw [closeVs_loc hx (fun v w a h1 h2 => cl1_loc h1 (ha.mono h2))]
    · simp at h
  | _ => simp only [cl2] at h ⊢; exact cl1_loc h ha

theorem closeParts_loc {l k : Look} {fz : Bool} : ∀ {ps qs : List (Nat × V)} {ids : List Nat}, closeParts l fz ps = some (qs, ids) → Agree l k ids → closeParts k fz ps = some (qs, ids)
  | [], qs, ids, h, _ => h
  | (i, x) :: r, qs, ids, h, ha => by
    simp only [closeParts] at h ⊢
    split at h
    · rename_i y a ys b h1 h2
      simp at h; obtain ⟨rfl, rfl⟩ := h
      rw [cl2_loc h1 (ha.mono fun i hi => by simp [hi]), closeParts_loc h2 (ha.mono fun i hi => by simp [hi])]
    · simp at h

theorem roOf_loc {l k : Look} : ∀ {ids : List Nat}, Agree l k ids → roOf l ids = roOf k ids
  | [], _ => rfl
  | id :: r, h => by
    simp only [roOf]
    rw [h id (by simp), roOf_loc (h.mono fun i hi => by simp [hi])]

theorem rowsOf_loc {l k : Look} {sz n : Nat} {x : V} {vs : List V} {rd : List Nat} (h : rowsOf l sz x = some (n, vs, rd)) (ha : Agree l k rd) : rowsOf k sz x = some (n, vs, rd) := by
  unfold rowsOf at h ⊢
  split at h <;> try exact h
  rename_i id g off len sz' cap
  split at h
  · rename_i o hl hb
    split at h
    · rename_i hle
      simp only [Option.some.injEq, Prod.mk.injEq] at h; obtain ⟨rfl, rfl, rfl⟩ := h
      simp only [← live_loc (ha id (by simp)), hl, hb, hle]
    · simp at h
  · simp at h

theorem loadV_loc {l k : Look} {i : TI} {p : V} {r : Res} (h : loadV l i p = some r) (ha : Agree l k r.rd) : loadV k i p = some r := by
  unfold loadV at h ⊢
  split at h
  · rename_i id g off
    cases hl : live l id g with
    | none => simp [hl] at h
    | some o =>
      simp only [hl, Option.bind_eq_some_iff] at h
      obtain ⟨y, hy, hr⟩ := h
      simp [retR] at hr; subst hr
      simp only [← live_loc (ha id (by simp)), hl, hy]; rfl
  · exact h
  · exact h

theorem storeV_loc {l k : Look} {fz : Bool} {i : TI} {p x : V} {r : Res} (h : storeV l fz i p x = some r) (ha : Agree l k r.rd) : storeV k fz i p x = some r := by
  unfold storeV at h ⊢
  split at h
  · rename_i id g off xs hcx
    split at h
    · rename_i o ys ids hl hcl
      split at h
      · rename_i c1 c2 c3 c4
        simp only [Option.some.injEq] at h; subst h
        have ha' : Agree l k ids := ha.mono fun i hi => by simp [hi]
        simp only [hcx, ← live_loc (ha id (by simp)), hl, closeVs_loc hcl (fun v w a h1 h2 => cl1_loc h1 (ha'.mono h2)), c1, c2, c3, c4, roOf_loc ha']
      · simp at h
    · simp at h
  · simp at h

theorem appendV_loc {l k : Look} {n c : Nat} {i : TI} {s x : V} {r : Res} (h : appendV l n c i s x = some r) (ha : Agree l k r.rd) : appendV k n c i s x = some r := by
  unfold appendV at h ⊢
  split at h
  · rename_i e sz by_ hk
    split at h
    · rename_i m xs rx hrows
      split at h
      · rename_i rows
        split at h
        · rename_i c1 c2 c3
          simp only [Option.some.injEq] at h; subst h
          simp only [rowsOf_loc hrows ha, c1, c2, c3]
        · simp at h
      · rename_i id g off len sz' cap
        split at h
        · rename_i o hl hb
          split at h
          · rename_i c1 c2
            split at h
            · rename_i q
              split at h
              · rename_i c3 c4 c5
                simp only [Option.some.injEq] at h; subst h
                simp only [rowsOf_loc hrows (ha.mono fun i hi => by simp [hi]), ← live_loc (ha id (by simp)), hl, hb, c1, c2, c3, c4, c5]
              · rename_i c3
                simp only [Option.some.injEq] at h; subst h
                simp only [rowsOf_loc hrows (ha.mono fun i hi => by simp [hi]), ← live_loc (ha id (by simp)), hl, hb, c1, c2, c3]
              · simp at h
            · split at h
              · rename_i c3
                simp only [Option.some.injEq] at h; subst h
                simp only [rowsOf_loc hrows (ha.mono fun i hi => by simp [hi]), ← live_loc (ha id (by simp)), hl, hb, c1, c2, c3]
              · simp at h
          · simp at h
        · simp at h
      · simp at h
    · simp at h
  · simp at h

theorem lenV_loc {l k : Look} {i : TI} {x : V} {r : Res} (h : lenV l i x = some r) (ha : Agree l k r.rd) : lenV k i x = some r := by
  unfold lenV at h ⊢
  split at h <;> try exact h
  rename_i id g off len sz cap
  split at h
  · rename_i e s b o hk hl
    simp [retR] at h; subst h
    simp only [hk, ← live_loc (ha id (by simp)), hl]; rfl
  · simp at h

theorem copyV_loc {l k : Look} {i : TI} {s x : V} {r : Res} (h : copyV l i s x = some r) (ha : Agree l k r.rd) : copyV k i s x = some r := by
  unfold copyV at h ⊢
  split at h
  · rename_i e sz by_ id g off len sz' cap hk
    split at h
    · rename_i m xs rx o hrows hl hb
      split at h
      · rename_i c1 c2
        simp only [Option.some.injEq] at h; subst h
        simp only [rowsOf_loc hrows (ha.mono fun i hi => by simp [hi]), ← live_loc (ha id (by simp)), hl, hb, c1, c2]
      · simp at h
    · simp at h
  · simp at h

theorem indexAddrV_loc {l k : Look} {i : TI} {x ix : V} {r : Res} (h : indexAddrV l i x ix = some r) (ha : Agree l k r.rd) : indexAddrV k i x ix = some r := by
  unfold indexAddrV at h ⊢
  split at h <;> try exact h
  split at h <;> try exact h
  · rename_i e sz by_ id g off len sz' cap hk
    split at h
    · rename_i o hl hb
      simp only [Option.bind_eq_some_iff] at h
      obtain ⟨q, hq, hr⟩ := h
      simp [retR] at hr; subst hr
      simp only [← live_loc (ha id (by simp)), hl, hb, hq]; rfl
    · simp at h
  · rename_i n e sz ag id g off hk
    split at h
    · rename_i o hl
      simp only [Option.bind_eq_some_iff] at h
      obtain ⟨q, hq, hr⟩ := h
      simp [retR] at hr; subst hr
      simp only [← live_loc (ha id (by simp)), hl, hq]; rfl
    · simp at h

theorem fieldAddrV_loc {l k : Look} {i : TI} {f : Nat} {x : V} {r : Res} (h : fieldAddrV l i f x = some r) (ha : Agree l k r.rd) : fieldAddrV k i f x = some r := by
  unfold fieldAddrV at h ⊢
  split at h <;> try exact h
  split at h <;> try exact h
  split at h <;> try exact h
  split at h <;> try exact h
  rename_i id g o
  split at h
  · rename_i ob hl
    simp [retR] at h; subst h
    simp only [← live_loc (ha id (by simp)), hl]; rfl
  · simp at h

theorem sliceV_loc {l k : Look} {i : TI} {x : V} {lo hi mx : Option V} {r : Res} (h : sliceV l i x lo hi mx = some r) (ha : Agree l k r.rd) : sliceV k i x lo hi mx = some r := by
  unfold sliceV at h ⊢
  split at h <;> try exact h
  rename_i e sz by_ id g off len sz' cap hk
  split at h
  · rename_i o p q hl hb e1 e2
    split at h
    · rename_i hc
      simp only [retR, Option.some.injEq] at h; subst h
      simp only [← live_loc (ha id (by simp)), hl, hb, e1, e2, if_pos hc]; rfl
    · simp at h
  · rename_i o p q m hl hb e1 e2
    split at h
    · rename_i mm e3
      split at h
      · rename_i hc
        simp only [retR, Option.some.injEq] at h; subst h
        simp only [← live_loc (ha id (by simp)), hl, hb, e1, e2, e3, if_pos hc]; rfl
      · simp at h
    · simp at h
  · simp at h

theorem builtinV_loc {l k : Look} {n c : Nat} {b : Builtin} {ts : List TypeId} {vs : List V} {r : Res} (h : builtinV P l n c b ts vs = some r) (ha : Agree l k r.rd) : builtinV P k n c b ts vs = some r := by
  unfold builtinV at h ⊢
  split at h <;> try exact h
  · simp only [Option.bind_eq_some_iff] at h ⊢
    obtain ⟨i, hi, h⟩ := h
    exact ⟨i, hi, lenV_loc h ha⟩
  · split at h
    · rename_i e
      rw [if_pos e]
      simp only [Option.bind_eq_some_iff] at h ⊢
      obtain ⟨i, hi, h⟩ := h
      exact ⟨i, hi, appendV_loc h ha⟩
    · simp at h
  · split at h
    · rename_i e
      rw [if_pos e]
      simp only [Option.bind_eq_some_iff] at h ⊢
      obtain ⟨i, hi, h⟩ := h
      exact ⟨i, hi, copyV_loc h ha⟩
    · simp at h

theorem step_loc {fz fs : Bool} {ρ : Operand → V} {l k : Look} {n c : Nat} {op : Op} {r : Res} (h : step P fz fs ρ l n c op = some r) (ha : Agree l k r.rd) : step P fz fs ρ k n c op = some r := by
  cases op <;> simp only [step] at h ⊢ <;> try exact h
  case buildSlice t len ps =>
    split at h <;> try exact h
    split at h <;> try exact h
    split at h <;> try exact h
    split at h <;> try exact h
    split at h
    · rename_i hc
      rw [if_pos hc]
      split at h
      · rename_i qs ids hcp
        simp only [Option.bind_eq_some_iff] at h
        obtain ⟨cs, hcs, h⟩ := h
        simp only [Option.some.injEq] at h; subst h
        have ha' : Agree l k ids := ha
        rw [closeParts_loc hcp ha']
        simp only [hcs, Option.bind_some, roOf_loc ha']
      · simp at h
    · simp at h
  case makeFunc fn first caps => cases fn <;> exact h
  case load t a =>
    simp only [Option.bind_eq_some_iff] at h ⊢
    obtain ⟨i, hi, h⟩ := h
    exact ⟨i, hi, loadV_loc h ha⟩
  case store t a x =>
    simp only [Option.bind_eq_some_iff] at h ⊢
    obtain ⟨i, hi, h⟩ := h
    exact ⟨i, hi, storeV_loc h ha⟩
  case slice t x lo hi mx =>
    split at h
    · simp at h
    · rename_i hno
      rw [if_neg hno]
      simp only [Option.bind_eq_some_iff] at h ⊢
      obtain ⟨i, hi, h⟩ := h
      exact ⟨i, hi, sliceV_loc h ha⟩
  case fieldAddr t x f =>
    simp only [Option.bind_eq_some_iff] at h ⊢
    obtain ⟨i, hi, h⟩ := h
    exact ⟨i, hi, fieldAddrV_loc h ha⟩
  case indexAddr t x ix =>
    simp only [Option.bind_eq_some_iff] at h ⊢
    obtain ⟨i, hi, h⟩ := h
    exact ⟨i, hi, indexAddrV_loc h ha⟩
  case call cl =>
    obtain ⟨callee, args, ts⟩ := cl
    cases callee <;> simp only [] at h ⊢ <;> try exact h
    exact builtinV_loc h ha

end Go.Ab
