/- The abstract machine: what an operation does hangs on what it looks at alone. No conditions. -/
import Derived.Test.YtkimfnammkljoaaGreatDoorAcMM
set_option linter.unusedVariables false
set_option linter.unusedSimpArgs false
namespace Go.Ac
variable {P : Program}

/-- Two memories that agree on some names. -/
def Agree (l k : Look) (ids : List Nat) : Prop := ∀ i ∈ ids, l i = k i

theorem Agree.mono {l k : Look} {a b : List Nat} (h : Agree l k b) (hs : ∀ i ∈ a, i ∈ b) : Agree l k a := fun i hi => h i (hs i hi)

theorem live_loc {l k : Look} {id g : Nat} (h : l id = k id) : live l id g = live k id g := by unfold live; rw [h]

theorem toDs_loc {f g : V → Option (D × List Nat)} : ∀ {vs : List V} {ds : List D} {ids : List Nat}, toDs f vs = some (ds, ids) → (∀ v d a, f v = some (d, a) → (∀ i ∈ a, i ∈ ids) → g v = some (d, a)) → toDs g vs = some (ds, ids)
 | [], ds, ids, h, _ => h
 | v :: r, ds, ids, h, hf => by
  simp only [toDs] at h ⊢
  split at h
  ·rename_i x a xs b h1 h2
   simp at h; obtain ⟨rfl, rfl⟩ := h
   rw [hf v x a h1 (fun i hi => by simp [hi]), toDs_loc h2 (fun v d a' h3 h4 => hf v d a' h3 (fun i hi => by simp [h4 i hi]))]
  ·simp at h

theorem toD_loc {l k : Look} : ∀ (f : Nat) {v : V} {x : D} {ids : List Nat}, toD l f v = some (x, ids) → Agree l k ids → toD k f v = some (x, ids) := by
 intro f
 induction f with
 | zero => intro v x ids h ha; cases v <;> simp only [toD] at h ⊢ <;> exact h
 | succ f ih =>
  intro v x ids h ha
  cases v <;> simp only [toD] at h ⊢ <;> try exact h
  rename_i id g off len sz cap
  cases hl : live l id g with
  | none => simp [hl] at h
  | some o =>
   simp only [hl] at h
   split at h
   ·rename_i ds r h1 h2
    simp at h; obtain ⟨rfl, rfl⟩ := h
    rw [← live_loc (ha id (by simp)), hl]
    simp only [h1]
    rw [toDs_loc h2 (fun v d a h3 h4 => ih h3 (ha.mono fun i hi => by simp [h4 i hi]))]
   ·simp at h

theorem close1_loc {l k : Look} {v w : V} {ids : List Nat} (h : close1 l v = some (w, ids)) (ha : Agree l k ids) : close1 k v = some (w, ids) := by
 have gen : ∀ v, ofD (toD l depthD v) = some (w, ids) → ofD (toD k depthD v) = some (w, ids) := by
  intro v h
  unfold ofD at h
  split at h
  ·rename_i x r hx
   simp at h; obtain ⟨rfl, rfl⟩ := h
   rw [toD_loc depthD hx ha]; rfl
  ·simp at h
 cases v with
 | con v => exact h
 | fn f cs => cases cs with
  | nil => exact h
  | cons c cs => simp only [close1] at h ⊢; exact gen _ h
 | _ => simp only [close1] at h ⊢; exact gen _ h

theorem closeVs_loc {f g : V → Option (V × List Nat)} : ∀ {vs ws : List V} {ids : List Nat}, closeVs f vs = some (ws, ids) → (∀ v w a, f v = some (w, a) → (∀ i ∈ a, i ∈ ids) → g v = some (w, a)) → closeVs g vs = some (ws, ids)
 | [], ds, ids, h, _ => h
 | v :: r, ds, ids, h, hf => by
  simp only [closeVs] at h ⊢
  split at h
  ·rename_i x a xs b h1 h2
   simp at h; obtain ⟨rfl, rfl⟩ := h
   rw [hf v x a h1 (fun i hi => by simp [hi]), closeVs_loc h2 (fun v d a' h3 h4 => hf v d a' h3 (fun i hi => by simp [h4 i hi]))]
  ·simp at h

theorem close_loc {l k : Look} {v w : V} {ids : List Nat} (h : close l v = some (w, ids)) (ha : Agree l k ids) : close k v = some (w, ids) := by
 cases v with
 | agg cs =>
  simp only [close] at h ⊢
  split at h
  ·rename_i xs r hx
   simp at h; obtain ⟨rfl, rfl⟩ := h
   rw [closeVs_loc hx (fun v w a h1 h2 => close1_loc h1 (ha.mono h2))]
  ·simp at h
 | _ => simp only [close] at h ⊢; exact close1_loc h ha

theorem cl1_loc {l k : Look} {fz : Bool} {v w : V} {ids : List Nat} (h : cl1 l fz v = some (w, ids)) (ha : Agree l k ids) : cl1 k fz v = some (w, ids) := by
 cases v with
 | osl id g off len sz cap =>
  cases fz with
  | true => simp only [cl1] at h ⊢; exact close1_loc h ha
  | false => exact h
 | _ => exact h

theorem cl2_loc {l k : Look} {fz : Bool} {v w : V} {ids : List Nat} (h : cl2 l fz v = some (w, ids)) (ha : Agree l k ids) : cl2 k fz v = some (w, ids) := by
 cases v with
 | agg cs =>
  simp only [cl2] at h ⊢
  split at h
  ·rename_i xs r hx
   simp at h; obtain ⟨rfl, rfl⟩ := h
   rw [closeVs_loc hx (fun v w a h1 h2 => cl1_loc h1 (ha.mono h2))]
  ·simp at h
 | _ => simp only [cl2] at h ⊢; exact cl1_loc h ha

theorem closeParts_loc {l k : Look} {fz : Bool} : ∀ {ps qs : List (Nat × V)} {ids : List Nat}, closeParts l fz ps = some (qs, ids) → Agree l k ids → closeParts k fz ps = some (qs, ids)
 | [], qs, ids, h, _ => h
 | (i, x) :: r, qs, ids, h, ha => by
  simp only [closeParts] at h ⊢
  split at h
  ·rename_i y a ys b h1 h2
   simp at h; obtain ⟨rfl, rfl⟩ := h
   rw [cl2_loc h1 (ha.mono fun i hi => by simp [hi]), closeParts_loc h2 (ha.mono fun i hi => by simp [hi])]
  ·simp at h

theorem closeA_loc {l k : Look} {v w : V} {ids : List Nat} (h : closeA l v = some (w, ids)) (ha : Agree l k ids) : closeA k v = some (w, ids) := by
 unfold closeA at h ⊢
 split at h
 ·exact h
 ·exact close_loc h ha

theorem roOf_loc {l k : Look} : ∀ {ids : List Nat}, Agree l k ids → roOf l ids = roOf k ids
 | [], _ => rfl
 | id :: r, h => by
  simp only [roOf]
  rw [h id (by simp), roOf_loc (h.mono fun i hi => by simp [hi])]

theorem rowsOf_loc {l k : Look} {sz n : Nat} {x : V} {vs : List V} {rd : List Nat} (h : rowsOf l sz x = some (n, vs, rd)) (ha : Agree l k rd) : rowsOf k sz x = some (n, vs, rd) := by
 unfold rowsOf at h ⊢
 split at h <;> try exact h
 rename_i id g off len sz' cap
 split at h
 ·rename_i o hl hb
  split at h
  ·rename_i hle
   simp only [Option.some.injEq, Prod.mk.injEq] at h; obtain ⟨rfl, rfl, rfl⟩ := h
   simp only [← live_loc (ha id (by simp)), hl, hb, hle]
  ·simp at h
 ·simp at h

theorem loadV_loc {l k : Look} {i : TI} {p : V} {r : Res} (h : loadV l i p = some r) (ha : Agree l k r.rd) : loadV k i p = some r := by
 unfold loadV at h ⊢
 split at h
 ·rename_i id g off
  cases hl : live l id g with
  | none => simp [hl] at h
  | some o =>
   simp only [hl, Option.bind_eq_some_iff] at h
   obtain ⟨y, hy, hr⟩ := h
   simp [retR] at hr; subst hr
   simp only [← live_loc (ha id (by simp)), hl, hy]; rfl
 ·exact h
 ·exact h

theorem storeV_loc {l k : Look} {fz : Bool} {i : TI} {p x : V} {r : Res} (h : storeV l fz i p x = some r) (ha : Agree l k r.rd) : storeV k fz i p x = some r := by
 unfold storeV at h ⊢
 split at h
 ·rename_i id g off xs hcx
  split at h
  ·rename_i o ys ids hl hcl
   split at h
   ·rename_i c1 c2 c3 c4
    simp only [Option.some.injEq] at h; subst h
    have ha' : Agree l k ids := ha.mono fun i hi => by simp [hi]
    simp only [hcx, ← live_loc (ha id (by simp)), hl, closeVs_loc hcl (fun v w a h1 h2 => cl1_loc h1 (ha'.mono h2)), c1, c2, c3, c4, roOf_loc ha']
   ·simp at h
  ·simp at h
 ·simp at h

theorem appendV_loc {l k : Look} {n c : Nat} {i : TI} {s x : V} {r : Res} (h : appendV l n c i s x = some r) (ha : Agree l k r.rd) : appendV k n c i s x = some r := by
 unfold appendV at h ⊢
 split at h
 ·rename_i e sz by_ hk
  split at h
  ·rename_i m xs rx hrows
   split at h
   ·rename_i rows
    split at h
    ·rename_i c1 c2 c3
     simp only [Option.some.injEq] at h; subst h
     simp only [rowsOf_loc hrows ha, c1, c2, c3]
    ·simp at h
   ·rename_i id g off len sz' cap
    split at h
    ·rename_i o hl hb
     split at h
     ·rename_i c1 c2
      split at h
      ·rename_i q
       split at h
       ·rename_i c3 c4 c5
        simp only [Option.some.injEq] at h; subst h
        simp only [rowsOf_loc hrows (ha.mono fun i hi => by simp [hi]), ← live_loc (ha id (by simp)), hl, hb, c1, c2, c3, c4, c5]
       ·rename_i c3
        simp only [Option.some.injEq] at h; subst h
        simp only [rowsOf_loc hrows (ha.mono fun i hi => by simp [hi]), ← live_loc (ha id (by simp)), hl, hb, c1, c2, c3]
       ·simp at h
      ·split at h
       ·rename_i c3
        simp only [Option.some.injEq] at h; subst h
        simp only [rowsOf_loc hrows (ha.mono fun i hi => by simp [hi]), ← live_loc (ha id (by simp)), hl, hb, c1, c2, c3]
       ·simp at h
     ·simp at h
    ·simp at h
   ·simp at h
  ·simp at h
 ·simp at h

theorem appendSV_loc {l k : Look} {n c : Nat} {i : TI} {s x : V} {r : Res} (h : appendSV l n c i s x = some r) (ha : Agree l k r.rd) : appendSV k n c i s x = some r := by
 unfold appendSV at h ⊢
 split at h
 ·rename_i e sz by_ t hk
  split at h
  ·rename_i hs1
   split at h
   ·exact h
   ·rename_i id g off len sz' cap
    split at h
    ·rename_i o hl hb
     split at h
     ·rename_i c1 c2
      split at h
      ·rename_i q
       split at h
       ·rename_i c3 c4 c5
        simp only [Option.some.injEq] at h; subst h
        simp only [← live_loc (ha id (by simp)), hl, hb, c1, c2, c3, c4, c5]
       ·rename_i c3
        simp only [Option.some.injEq] at h; subst h
        simp only [← live_loc (ha id (by simp)), hl, hb, c1, c2, c3]
       ·simp at h
      ·split at h
       ·rename_i c3
        simp only [Option.some.injEq] at h; subst h
        simp only [← live_loc (ha id (by simp)), hl, hb, c1, c2, c3]
       ·simp at h
     ·simp at h
    ·simp at h
   ·simp at h
  ·simp at h
 ·simp at h

theorem cloneV_loc {l k : Look} {n c sz by_ : Nat} {x : V} {r : Res} (h : cloneV l n c sz by_ x = some r) (ha : Agree l k r.rd) : cloneV k n c sz by_ x = some r := by
 unfold cloneV at h ⊢
 split at h
 ·rename_i m xs rx hrows
  split at h
  ·rename_i hf
   simp only [Option.some.injEq] at h; subst h
   rw [rowsOf_loc hrows ha]
   simp only [hf]
  ·simp at h
 ·simp at h

theorem primS_loc {l k : Look} {n c : Nat} {p : Nat × Nat} {vs : List V} {r : Res} (h : primS l n c p vs = some r) (ha : Agree l k r.rd) : primS k n c p vs = some r := by
 unfold primS at h ⊢
 split at h
 ·exact cloneV_loc h ha
 ·exact h
 ·exact h
 ·simp at h

theorem primV_loc {l k : Look} {n c : Nat} {p : PK} {vs : List V} {r : Res} (h : primV l n c p vs = some r) (ha : Agree l k r.rd) : primV k n c p vs = some r := by
 cases p with
 | std a b => exact primS_loc h ha
 | dat T =>
  unfold primV at h ⊢
  simp only at h ⊢
  split at h
  ·rename_i ws ids hcl
   split at h
   ·rename_i v hv
    simp only [Option.some.injEq] at h; subst h
    have hcl' : closeArgs k vs = some (ws, ids) := closeVs_loc hcl fun v w a g1 g2 => closeA_loc g1 (Agree.mono ha g2)
    rw [hcl']
    simp only [hv, roOf_loc ha]
   ·cases h
  ·cases h
 | tab g =>
  unfold primV at h ⊢
  simp only at h ⊢
  split at h
  ·rename_i ids kk hg
   split at h
   ·rename_i r0 hr
    simp only [Option.some.injEq] at h; subst h
    have : ids.map k = ids.map l := List.map_congr_left fun i hi => (ha i hi).symm
    rw [this, hr]
   ·cases h
  ·cases h

theorem bytesV_loc {l k : Look} {e sz : Nat} {x : V} {r : Res} (h : bytesV P l e sz x = some r) (ha : Agree l k r.rd) : bytesV P k e sz x = some r := by
 unfold bytesV at h ⊢
 split at h
 ·rename_i e1 e2
  split at h
  ·rename_i mm xs rd hr
   split at h
   ·rename_i s hs
    simp only [Option.some.injEq] at h; subst h
    simp only [rowsOf_loc hr ha, hs]
   ·cases h
  ·cases h
 ·cases h
theorem convL_loc {l k : Look} {i j : TI} {x : V} {r : Res} (h : convL P l i j x = some r) (ha : Agree l k r.rd) : convL P k i j x = some r := by
 unfold convL at h ⊢
 split at h
 ·exact h
 ·exact bytesV_loc h ha
 ·exact h

theorem frzV_loc {l k : Look} {st : Bool} {i : TI} {x : V} {r : Res} (h : frzV P l st i x = some r) (ha : Agree l k r.rd) : frzV P k st i x = some r := by
 unfold frzV at h ⊢
 split at h
 ·rename_i e sz by_ id g off len sz' cap hk
  split at h
  ·rename_i o e1 e2 e3
   split at h
   ·rename_i e4 e5
    simp only [Option.some.injEq] at h; subst h
    simp only [hk, e1, e2, ← live_loc (ha id (by simp)), e3, e4, e5]
   ·cases h
  ·cases h
 ·cases h

theorem lenV_loc [Gl] {l k : Look} {i : TI} {x : V} {r : Res} (h : lenV l i x = some r) (ha : Agree l k r.rd) : lenV k i x = some r := by
 unfold lenV at h ⊢
 split at h <;> try exact h
 ·rename_i id g off len sz cap
  split at h
  ·rename_i e s b o hk hl
   simp [retR] at h; subst h
   simp only [hk, ← live_loc (ha id (by simp)), hl]; rfl
  ·simp at h
 ·rename_i id g
  split at h
  ·rename_i kt et o hk hl
   split at h
   ·rename_i ks vs bs c hc
    simp [retR] at h; subst h
    simp only [hk, ← live_loc (ha id (by simp)), hl, hc]; rfl
   ·rename_i ks vs c hc
    simp [retR] at h; subst h
    simp only [hk, ← live_loc (ha id (by simp)), hl, hc]; rfl
   ·simp at h
  ·simp at h

theorem capV_loc {l k : Look} {i : TI} {x : V} {r : Res} (h : capV l i x = some r) (ha : Agree l k r.rd) : capV k i x = some r := by
 unfold capV at h ⊢
 split at h <;> try exact h
 rename_i id g off len sz q
 split at h
 ·rename_i e s b o hk hl
  simp [retR] at h; subst h
  simp only [hk, ← live_loc (ha id (by simp)), hl]; rfl
 ·simp at h

theorem nilV_loc {l k : Look} {q : TK} {y : Operand} {x : V} {b : Bool} {rd : List Nat} (h : nilV l q y x = some (b, rd)) (ha : Agree l k rd) : nilV k q y x = some (b, rd) := by
 unfold nilV at h ⊢
 split at h
 ·split at h <;> try exact h
  rename_i id g off
  cases hl : live l id g with
  | none => simp [hl] at h
  | some o =>
   simp [hl] at h; obtain ⟨rfl, rfl⟩ := h
   simp only [← live_loc (ha id (by simp)), hl]
 ·split at h <;> try exact h
  rename_i id g
  cases hl : live l id g with
  | none => simp [hl] at h
  | some o =>
   simp [hl] at h; obtain ⟨rfl, rfl⟩ := h
   simp only [← live_loc (ha id (by simp)), hl]
 ·split at h <;> try exact h
  rename_i id g off len sz cap
  cases hl : live l id g with
  | none => simp [hl] at h
  | some o =>
   cases hb : Nat.blt 0 len with
   | false => rw [hl, hb] at h; simp at h
   | true =>
    rw [hl, hb] at h
    simp at h; obtain ⟨rfl, rfl⟩ := h
    simp only [← live_loc (ha id (by simp)), hl]
 ·exact h
 ·simp at h

theorem nilR_loc {l k : Look} {op : BinOp} {q : TK} {y : Operand} {x : V} {r : Res} (h : nilR l op q y x = some r) (ha : Agree l k r.rd) : nilR k op q y x = some r := by
 unfold nilR at h ⊢
 split at h
 ·rename_i e b rd he hn
  simp at h; subst h
  rw [he, nilV_loc hn ha]
 ·simp at h

theorem checkNil_loc {l k : Look} {x : V} {r : Res} (h : checkNil l x = some r) (ha : Agree l k r.rd) : checkNil k x = some r := by
 unfold checkNil at h ⊢
 split at h <;> try exact h
 rename_i id g off
 split at h
 ·rename_i o hl
  simp [retR] at h; subst h
  simp only [← live_loc (ha id (by simp)), hl]; rfl
 ·simp at h

theorem nextV_loc {l k : Look} {x : V} {r : Res} (h : nextV l x = some r) (ha : Agree l k r.rd) : nextV k x = some r := by
 unfold nextV at h ⊢
 split at h
 ·rename_i id g
  split at h
  ·rename_i o hl
   split at h
   ·rename_i s pos hro hc
    have hid : r.rd = [id] := by
     split at h
     ·simp at h; subst h; rfl
     ·simp at h; subst h; rfl
    simp only [← live_loc (ha id (by rw [hid]; simp)), hl, hro, hc]
    exact h
   ·simp at h
  ·simp at h
 ·simp at h

theorem rangeMV_loc {l k : Look} {n c : Nat} {x : V} {r : Res} (h : rangeMV l n c x = some r) (ha : Agree l k r.rd) : rangeMV k n c x = some r := by
 unfold rangeMV at h ⊢
 split at h
 ·rename_i id g
  split at h
  ·rename_i o hl
   split at h
   ·rename_i ks vs bs clock hc
    simp only [Option.some.injEq] at h; subst h
    simp only [← live_loc (ha id (by simp)), hl, hc]
   ·simp at h
  ·simp at h
 ·simp at h

theorem entryItV_loc {l k : Look} {x : V} {r : Res} (h : entryItV l x = some r) (ha : Agree l k r.rd) : entryItV k x = some r := by
 unfold entryItV at h ⊢
 split at h
 ·rename_i id g
  split at h
  ·rename_i o hl
   split at h
   ·rename_i mid mg since seen last hc
    split at h
    ·rename_i b q hb hq
     split at h
     ·rename_i ks vs bs clock hqc
      split at h
      ·rename_i j hcl hj
       split at h
       ·rename_i kk v hk hv
        simp only [Option.some.injEq] at h; subst h
        simp only [← live_loc (ha id (by simp)), ← live_loc (ha mid (by simp)), hl, hc, hb, hq, hqc, hcl, hj, hk, hv]
       ·simp at h
      ·simp at h
     ·simp at h
    ·simp at h
   ·simp at h
  ·simp at h
 ·simp at h

theorem lookupV_loc {l k : Look} {ki : TI} {zz : Option V} {x y : V} {ok : Bool} {r : Res} (h : lookupV l ki zz x y ok = some r) (ha : Agree l k r.rd) : lookupV k ki zz x y ok = some r := by
 unfold lookupV at h ⊢
 split at h
 ·rename_i kd z
  split at h
  ·rename_i hok
   split at h
   ·exact h
   ·rename_i id g
    split at h
    ·rename_i o hl
     split at h
     ·rename_i ks vs bs c hc
      have hid : r.rd = [id] := by
       split at h
       ·split at h
        ·simp [retR] at h; subst h; rfl
        ·simp at h
       ·simp [retR] at h; subst h; rfl
       ·simp at h
      simp only [← live_loc (ha id (by rw [hid]; simp)), hl, hc]
      exact h
     ·rename_i ks vs c hc
      have hid : r.rd = [id] := by
       split at h
       ·split at h
        ·simp [retR] at h; subst h; rfl
        ·simp at h
       ·simp [retR] at h; subst h; rfl
       ·simp at h
      simp only [← live_loc (ha id (by rw [hid]; simp)), hl, hc]
      exact h
     ·simp at h
    ·simp at h
   ·simp at h
  ·simp at h
 ·simp at h

theorem lookupA_loc [Gl] {l k : Look} {so : List (Nat × SK)} {z x : V} {ks : List V} {ok : Bool} {r : Res} (h : lookupA l so z x ks ok = some r) (ha : Agree l k r.rd) : lookupA k so z x ks ok = some r := by
 unfold lookupA at h ⊢
 split at h
 ·rename_i id g
  split at h
  ·rename_i o hl
   split at h
   ·rename_i kks vs c hc
    have hid : r.rd = [id] := by
     split at h
     ·split at h
      ·simp [retR] at h; subst h; rfl
      ·simp at h
     ·simp [retR] at h; subst h; rfl
     ·simp at h
    simp only [← live_loc (ha id (by rw [hid]; simp)), hl, hc]
    exact h
   ·simp at h
  ·simp at h
 ·simp at h

theorem insertA_loc [Gl] {l k : Look} {so : List (Nat × SK)} {m x : V} {ks : List V} {r : Res} (h : insertA l so m ks x = some r) (ha : Agree l k r.rd) : insertA k so m ks x = some r := by
 unfold insertA at h ⊢
 split at h
 ·rename_i id g kd hkd
  split at h
  ·rename_i o hl
   split at h
   ·rename_i kks vs c hro hc
    have hid : r.rd = [id] := by
     split at h
     ·simp at h; subst h; rfl
     ·simp at h
    simp only [← live_loc (ha id (by rw [hid]; simp)), hl, hro, hc]
    exact h
   ·simp at h
  ·simp at h
 ·simp at h

theorem insertV_loc {l k : Look} {ki : TI} {m y x : V} {r : Res} (h : insertV l ki m y x = some r) (ha : Agree l k r.rd) : insertV k ki m y x = some r := by
 unfold insertV at h ⊢
 split at h
 ·rename_i kd id g
  split at h
  ·rename_i o hok hl
   split at h
   ·rename_i ks vs bs c hro hc
    have hid : r.rd = [id] := by
     split at h
     ·simp at h; subst h; rfl
     ·simp at h; subst h; rfl
     ·simp at h
    simp only [hok, ← live_loc (ha id (by rw [hid]; simp)), hl, hro, hc]
    exact h
   ·rename_i ks vs c hro hc
    have hid : r.rd = [id] := by
     split at h
     ·simp at h; subst h; rfl
     ·simp at h; subst h; rfl
     ·simp at h
    simp only [hok, ← live_loc (ha id (by rw [hid]; simp)), hl, hro, hc]
    exact h
   ·simp at h
  ·simp at h
 ·simp at h

theorem entryV_loc {l k : Look} {ki : TI} {zz : Option V} {m y : V} {r : Res} (h : entryV l ki zz m y = some r) (ha : Agree l k r.rd) : entryV k ki zz m y = some r := by
 unfold entryV at h ⊢
 split at h
 ·rename_i kd id g z
  split at h
  ·rename_i o hok hl
   split at h
   ·rename_i ks vs bs c hro hc
    have hid : r.rd = [id] := by
     split at h
     ·split at h
      ·simp at h; subst h; rfl
      ·simp at h
     ·simp at h; subst h; rfl
     ·simp at h
    simp only [hok, ← live_loc (ha id (by rw [hid]; simp)), hl, hro, hc]
    exact h
   ·simp at h
  ·simp at h
 ·simp at h

theorem stampV_loc {l k : Look} {m y x : V} {r : Res} (h : stampV l m y x = some r) (ha : Agree l k r.rd) : stampV k m y x = some r := by
 unfold stampV at h ⊢
 split at h
 ·rename_i q b id g
  split at h
  ·rename_i o hl
   split at h
   ·rename_i ks vs bs c hro hc
    have hid : r.rd = [id] := by
     split at h
     ·simp at h; subst h; rfl
     ·simp at h
    simp only [← live_loc (ha id (by rw [hid]; simp)), hl, hro, hc]
    exact h
   ·simp at h
  ·simp at h
 ·simp at h

theorem clearV_loc {l k : Look} {i : TI} {ei : Option TI} {s : V} {r : Res} (h : clearV l i ei s = some r) (ha : Agree l k r.rd) : clearV k i ei s = some r := by
 unfold clearV at h ⊢
 split at h
 ·rename_i id g off len sz' cap ei hk
  split at h
  ·rename_i z o hz hl hb
   split at h
   ·rename_i h1 h2 h3
    have hid : r.rd = [id] := by simp at h; subst h; rfl
    simp only [hz, ← live_loc (ha id (by rw [hid]; simp)), hl, hb, h1, h2, h3]
    exact h
   ·simp at h
  ·simp at h
 ·simp at h

theorem deleteV_loc {l k : Look} {ki : TI} {m y : V} {r : Res} (h : deleteV l ki m y = some r) (ha : Agree l k r.rd) : deleteV k ki m y = some r := by
 unfold deleteV at h ⊢
 split at h
 ·rename_i kd id g
  split at h
  ·rename_i o hok hl
   split at h
   ·rename_i ks vs bs c hro hc
    have hid : r.rd = [id] := by
     split at h
     ·simp at h; subst h; rfl
     ·simp at h; subst h; rfl
     ·simp at h
    simp only [hok, ← live_loc (ha id (by rw [hid]; simp)), hl, hro, hc]
    exact h
   ·simp at h
  ·simp at h
 ·simp at h

theorem copyV_loc {l k : Look} {i : TI} {s x : V} {r : Res} (h : copyV l i s x = some r) (ha : Agree l k r.rd) : copyV k i s x = some r := by
 unfold copyV at h ⊢
 split at h
 ·rename_i e sz by_ id g off len sz' cap hk
  split at h
  ·rename_i m xs rx o hrows hl hb
   split at h
   ·rename_i c1 c2
    simp only [Option.some.injEq] at h; subst h
    simp only [rowsOf_loc hrows (ha.mono fun i hi => by simp [hi]), ← live_loc (ha id (by simp)), hl, hb, c1, c2]
   ·simp at h
  ·simp at h
 ·simp at h

theorem indexAddrV_loc {l k : Look} {i : TI} {x ix : V} {r : Res} (h : indexAddrV l i x ix = some r) (ha : Agree l k r.rd) : indexAddrV k i x ix = some r := by
 unfold indexAddrV at h ⊢
 split at h <;> try exact h
 split at h <;> try exact h
 ·rename_i e sz by_ id g off len sz' cap hk
  split at h
  ·rename_i o hl hb
   simp only [Option.bind_eq_some_iff] at h
   obtain ⟨q, hq, hr⟩ := h
   simp [retR] at hr; subst hr
   simp only [← live_loc (ha id (by simp)), hl, hb, hq]; rfl
  ·simp at h
 ·rename_i n e sz ag id g off hk
  split at h
  ·rename_i o hl
   simp only [Option.bind_eq_some_iff] at h
   obtain ⟨q, hq, hr⟩ := h
   simp [retR] at hr; subst hr
   simp only [← live_loc (ha id (by simp)), hl, hq]; rfl
  ·simp at h

theorem fieldAddrV_loc {l k : Look} {i : TI} {f : Nat} {x : V} {r : Res} (h : fieldAddrV l i f x = some r) (ha : Agree l k r.rd) : fieldAddrV k i f x = some r := by
 unfold fieldAddrV at h ⊢
 split at h <;> try exact h
 split at h <;> try exact h
 split at h <;> try exact h
 split at h <;> try exact h
 rename_i id g o
 split at h
 ·rename_i ob hl
  simp [retR] at h; subst h
  simp only [← live_loc (ha id (by simp)), hl]; rfl
 ·simp at h

theorem sliceV_loc {l k : Look} {i : TI} {x : V} {lo hi mx : Option V} {r : Res} (h : sliceV l i x lo hi mx = some r) (ha : Agree l k r.rd) : sliceV k i x lo hi mx = some r := by
 unfold sliceV at h ⊢
 split at h <;> try exact h
 rotate_left
 ·rename_i n e sz ag id g off hk
  split at h
  ·rename_i o p q hl e1 e2
   split at h
   ·rename_i hc
    simp only [retR, Option.some.injEq] at h; subst h
    simp only [← live_loc (ha id (by simp)), hl, e1, e2, if_pos hc]; rfl
   ·simp at h
  ·simp at h
 rename_i e sz by_ id g off len sz' cap hk
 split at h
 ·rename_i o p q hl hb e1 e2
  split at h
  ·rename_i hc
   simp only [retR, Option.some.injEq] at h; subst h
   simp only [← live_loc (ha id (by simp)), hl, hb, e1, e2, if_pos hc]; rfl
  ·simp at h
 ·rename_i o p q m hl hb e1 e2
  split at h
  ·rename_i mm e3
   split at h
   ·rename_i hc
    simp only [retR, Option.some.injEq] at h; subst h
    simp only [← live_loc (ha id (by simp)), hl, hb, e1, e2, e3, if_pos hc]; rfl
   ·simp at h
  ·simp at h
 ·simp at h

theorem builtinV_loc [Gl] {l k : Look} {n c : Nat} {b : Builtin} {ts : List TypeId} {vs : List V} {r : Res} (h : builtinV P l n c b ts vs = some r) (ha : Agree l k r.rd) : builtinV P k n c b ts vs = some r := by
 unfold builtinV at h ⊢
 split at h <;> try exact h
 ·simp only [Option.bind_eq_some_iff] at h ⊢
  obtain ⟨i, hi, h⟩ := h
  exact ⟨i, hi, lenV_loc h ha⟩
 ·split at h
  ·rename_i e
   rw [if_pos e]
   simp only [Option.bind_eq_some_iff] at h ⊢
   obtain ⟨i, hi, h⟩ := h
   exact ⟨i, hi, appendV_loc h ha⟩
  ·rename_i e
   rw [if_neg e]
   split at h
   ·rename_i i j hi hj
    split at h
    ·exact h
    ·exact appendSV_loc h ha
    ·exact h
   ·exact h
 ·simp only [Option.bind_eq_some_iff] at h ⊢
  obtain ⟨i, hi, h⟩ := h
  exact ⟨i, hi, capV_loc h ha⟩
 ·split at h
  ·rename_i e
   rw [if_pos e]
   simp only [Option.bind_eq_some_iff] at h ⊢
   obtain ⟨i, hi, h⟩ := h
   exact ⟨i, hi, copyV_loc h ha⟩
  ·simp at h
 ·simp only [Option.bind_eq_some_iff] at h ⊢
  obtain ⟨i, hi, h⟩ := h
  refine ⟨i, hi, ?_⟩
  split at h
  ·exact clearV_loc h ha
  ·exact h
 ·simp only [Option.bind_eq_some_iff] at h ⊢
  obtain ⟨i, hi, h⟩ := h
  refine ⟨i, hi, ?_⟩
  split at h
  ·simp only [Option.bind_eq_some_iff] at h ⊢
   obtain ⟨ki, hki, h⟩ := h
   exact ⟨ki, hki, deleteV_loc h ha⟩
  ·exact h

theorem step_loc [Gl] {fz fs : Bool} {ρ : Operand → V} {l k : Look} {n c : Nat} {op : Op} {r : Res} (h : step P fz fs ρ l n c op = some r) (ha : Agree l k r.rd) : step P fz fs ρ k n c op = some r := by
 cases op <;> simp only [step] at h ⊢ <;> try exact h
 case build t ps =>
  split at h <;> try exact h
  split at h <;> try exact h
  split at h
  ·rename_i hc
   rw [if_pos hc]
   split at h
   ·exact h
   ·split at h
    ·rename_i qs ids hcp
     simp only [Option.bind_eq_some_iff] at h
     obtain ⟨cs, hcs, h⟩ := h
     simp only [Option.some.injEq] at h; subst h
     have ha' : Agree l k ids := ha
     rw [closeParts_loc hcp ha']
     simp only [hcs, Option.bind_some, roOf_loc ha']
    ·simp at h
  ·simp at h
 case buildSlice t len ps =>
  split at h <;> try exact h
  split at h <;> try exact h
  split at h <;> try exact h
  split at h <;> try exact h
  split at h
  ·rename_i hc
   rw [if_pos hc]
   split at h
   ·rename_i qs ids hcp
    simp only [Option.bind_eq_some_iff] at h
    obtain ⟨cs, hcs, h⟩ := h
    simp only [Option.some.injEq] at h; subst h
    have ha' : Agree l k ids := ha
    rw [closeParts_loc hcp ha']
    simp only [hcs, Option.bind_some, roOf_loc ha']
   ·simp at h
  ·simp at h
 case makeFunc fn first caps => cases fn <;> exact h
 case convert s t x =>
  split at h
  ·split at h
   ·exact frzV_loc h ha
   ·exact convL_loc h ha
  ·exact h
 case nilCheck x => exact checkNil_loc h ha
 case next x b =>
  cases b with
  | false => exact h
  | true => exact nextV_loc h ha
 case range t x =>
  simp only [Option.bind_eq_some_iff] at h ⊢
  obtain ⟨i, hi, h⟩ := h
  refine ⟨i, hi, ?_⟩
  split at h
  ·exact rangeMV_loc h ha
  ·exact h
 case entry x => exact entryItV_loc h ha
 case makeMap t q => cases q <;> exact h
 case lookup t x y ok =>
  split at h <;> try exact h
  split at h <;> try exact h
  split at h
  ·rename_i e1 e2 e3; exact lookupA_loc h ha
  ·split at h <;> try exact h
   exact lookupV_loc h ha
 case mapUpdate t m y x =>
  split at h <;> try exact h
  split at h <;> try exact h
  split at h
  ·exact insertA_loc h ha
  ·simp only [Option.bind_eq_some_iff] at h ⊢
   obtain ⟨i, hi, h⟩ := h
   exact ⟨i, hi, insertV_loc h ha⟩
 case insert t m y x =>
  split at h <;> try exact h
  split at h <;> try exact h
  split at h
  ·exact insertA_loc h ha
  ·simp only [Option.bind_eq_some_iff] at h ⊢
   obtain ⟨i, hi, h⟩ := h
   exact ⟨i, hi, insertV_loc h ha⟩
 case mapEntry t m y =>
  split at h <;> try exact h
  split at h <;> try exact h
  simp only [Option.bind_eq_some_iff] at h ⊢
  obtain ⟨i, hi, h⟩ := h
  exact ⟨i, hi, entryV_loc h ha⟩
 case entryStore t m y x => exact stampV_loc h ha
 case binOp op t x y yt =>
  split at h
  ·simp only [Option.bind_eq_some_iff] at h ⊢
   obtain ⟨i, hi, h⟩ := h
   exact ⟨i, hi, nilR_loc h ha⟩
  ·exact h
 case load t a =>
  simp only [Option.bind_eq_some_iff] at h ⊢
  obtain ⟨i, hi, h⟩ := h
  exact ⟨i, hi, loadV_loc h ha⟩
 case store t a x =>
  simp only [Option.bind_eq_some_iff] at h ⊢
  obtain ⟨i, hi, h⟩ := h
  exact ⟨i, hi, storeV_loc h ha⟩
 case slice t x lo hi mx =>
  split at h
  ·simp at h
  ·rename_i hno
   rw [if_neg hno]
   simp only [Option.bind_eq_some_iff] at h ⊢
   obtain ⟨i, hi, h⟩ := h
   exact ⟨i, hi, sliceV_loc h ha⟩
 case fieldAddr t x f =>
  simp only [Option.bind_eq_some_iff] at h ⊢
  obtain ⟨i, hi, h⟩ := h
  exact ⟨i, hi, fieldAddrV_loc h ha⟩
 case indexAddr t x ix =>
  simp only [Option.bind_eq_some_iff] at h ⊢
  obtain ⟨i, hi, h⟩ := h
  exact ⟨i, hi, indexAddrV_loc h ha⟩
 case call cl =>
  obtain ⟨callee, args, ts⟩ := cl
  cases callee <;> simp only [] at h ⊢ <;> try exact h
  exact builtinV_loc h ha

end Go.Ac
