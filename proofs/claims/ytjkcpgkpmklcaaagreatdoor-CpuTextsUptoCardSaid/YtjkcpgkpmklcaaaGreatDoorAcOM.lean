/- The abstract machine: a call. No conditions. -/
import Derived.Test.YtjkcpgkpmklcaaaGreatDoorAcMM
set_option linter.unusedVariables false
set_option linter.unusedSimpArgs false
section
namespace Go.Ac
variable {P : Program}

/-- Two memories that agree on some names. -/
def Agree (l k : Look) (ids : List Nat) : Prop := ∀ i ∈ ids, l i = k i

theorem Agree.mono {l k : Look} {a b : List Nat} (h : Agree l k b) (hs : ∀ i ∈ a, i ∈ b) : Agree l k a := fun i hi => h i (hs i hi)

theorem live_loc {l k : Look} {id g : Nat} (h : l id = k id) : live l id g = live k id g := by unfold live; rw [h]

theorem toDs_loc {f g : V → Option (D × List Nat)} : ∀ {vs : List V} {ds : List D} {ids : List Nat}, toDs f vs = some (ds, ids) → (∀ v d a, f v = some (d, a) → (∀ i ∈ a, i ∈ ids) → g v = some (d, a)) → toDs g vs = some (ds, ids)
 | [], ds, ids, h, _ => h
 | v :: r, ds, ids, h, hf => by
  simp only [toDs] at h ⊢
  split at h
  ·rename_i x a xs b h1 h2
   simp at h; obtain ⟨rfl, rfl⟩ := h
   rw [hf v x a h1 (fun i hi => by simp [hi]), toDs_loc h2 (fun v d a' h3 h4 => hf v d a' h3 (fun i hi => by simp [h4 i hi]))]
  ·simp at h

theorem toD_loc {l k : Look} : ∀ (f : Nat) {v : V} {x : D} {ids : List Nat}, toD l f v = some (x, ids) → Agree l k ids → toD k f v = some (x, ids) := by
 intro f
 induction f with
 | zero => intro v x ids h ha; cases v <;> simp only [toD] at h ⊢ <;> exact h
 | succ f ih =>
  intro v x ids h ha
  cases v <;> simp only [toD] at h ⊢ <;> try exact h
  rename_i id g off len sz cap
  cases hl : live l id g with
  | none => simp [hl] at h
  | some o =>
   simp only [hl] at h
   split at h
   ·rename_i ds r h1 h2
    simp at h; obtain ⟨rfl, rfl⟩ := h
    rw [← live_loc (ha id (by simp)), hl]
    simp only [h1]
    rw [toDs_loc h2 (fun v d a h3 h4 => ih h3 (ha.mono fun i hi => by simp [h4 i hi]))]
   ·simp at h

theorem close1_loc {l k : Look} {v w : V} {ids : List Nat} (h : close1 l v = some (w, ids)) (ha : Agree l k ids) : close1 k v = some (w, ids) := by
 have gen : ∀ v, ofD (toD l depthD v) = some (w, ids) → ofD (toD k depthD v) = some (w, ids) := by
  intro v h
  unfold ofD at h
  split at h
  ·rename_i x r hx
   simp at h; obtain ⟨rfl, rfl⟩ := h
   rw [toD_loc depthD hx ha]; rfl
  ·simp at h
 cases v with
 | con v => exact h
 | fn f cs => cases cs with
  | nil => exact h
  | cons c cs => simp only [close1] at h ⊢; exact gen _ h
 | _ => simp only [close1] at h ⊢; exact gen _ h

theorem closeVs_loc {f g : V → Option (V × List Nat)} : ∀ {vs ws : List V} {ids : List Nat}, closeVs f vs = some (ws, ids) → (∀ v w a, f v = some (w, a) → (∀ i ∈ a, i ∈ ids) → g v = some (w, a)) → closeVs g vs = some (ws, ids)
 | [], ds, ids, h, _ => h
 | v :: r, ds, ids, h, hf => by
  simp only [closeVs] at h ⊢
  split at h
  ·rename_i x a xs b h1 h2
   simp at h; obtain ⟨rfl, rfl⟩ := h
   rw [hf v x a h1 (fun i hi => by simp [hi]), closeVs_loc h2 (fun v d a' h3 h4 => hf v d a' h3 (fun i hi => by simp [h4 i hi]))]
  ·simp at h

theorem close_loc {l k : Look} {v w : V} {ids : List Nat} (h : close l v = some (w, ids)) (ha : Agree l k ids) : close k v = some (w, ids) := by
 cases v with
 | agg cs =>
  simp only [close] at h ⊢
  split at h
  ·rename_i xs r hx
   simp at h; obtain ⟨rfl, rfl⟩ := h
   rw [closeVs_loc hx (fun v w a h1 h2 => close1_loc h1 (ha.mono h2))]
  ·simp at h
 | _ => simp only [close] at h ⊢; exact close1_loc h ha

theorem cl1_loc {l k : Look} {fz : Bool} {v w : V} {ids : List Nat} (h : cl1 l fz v = some (w, ids)) (ha : Agree l k ids) : cl1 k fz v = some (w, ids) := by
 cases v with
 | osl id g off len sz cap =>
  cases fz with
  | true => simp only [cl1] at h ⊢; exact close1_loc h ha
  | false => exact h
 | _ => exact h

theorem cl2_loc {l k : Look} {fz : Bool} {v w : V} {ids : List Nat} (h : cl2 l fz v = some (w, ids)) (ha : Agree l k ids) : cl2 k fz v = some (w, ids) := by
 cases v with
 | agg cs =>
  simp only [cl2] at h ⊢
  split at h
  ·rename_i xs r hx
   simp at h; obtain ⟨rfl, rfl⟩ := h
   rw [closeVs_loc hx (fun v w a h1 h2 => cl1_loc h1 (ha.mono h2))]
  ·simp at h
 | _ => simp only [cl2] at h ⊢; exact cl1_loc h ha

theorem closeParts_loc {l k : Look} {fz : Bool} : ∀ {ps qs : List (Nat × V)} {ids : List Nat}, closeParts l fz ps = some (qs, ids) → Agree l k ids → closeParts k fz ps = some (qs, ids)
 | [], qs, ids, h, _ => h
 | (i, x) :: r, qs, ids, h, ha => by
  simp only [closeParts] at h ⊢
  split at h
  ·rename_i y a ys b h1 h2
   simp at h; obtain ⟨rfl, rfl⟩ := h
   rw [cl2_loc h1 (ha.mono fun i hi => by simp [hi]), closeParts_loc h2 (ha.mono fun i hi => by simp [hi])]
  ·simp at h

theorem closeA_loc {l k : Look} {v w : V} {ids : List Nat} (h : closeA l v = some (w, ids)) (ha : Agree l k ids) : closeA k v = some (w, ids) := by
 unfold closeA at h ⊢
 split at h
 ·exact h
 ·exact close_loc h ha

theorem roOf_loc {l k : Look} : ∀ {ids : List Nat}, Agree l k ids → roOf l ids = roOf k ids
 | [], _ => rfl
 | id :: r, h => by
  simp only [roOf]
  rw [h id (by simp), roOf_loc (h.mono fun i hi => by simp [hi])]

theorem rowsOf_loc {l k : Look} {sz n : Nat} {x : V} {vs : List V} {rd : List Nat} (h : rowsOf l sz x = some (n, vs, rd)) (ha : Agree l k rd) : rowsOf k sz x = some (n, vs, rd) := by
 unfold rowsOf at h ⊢
 split at h <;> try exact h
 rename_i id g off len sz' cap
 split at h
 ·rename_i o hl hb
  split at h
  ·rename_i hle
   simp only [Option.some.injEq, Prod.mk.injEq] at h; obtain ⟨rfl, rfl, rfl⟩ := h
   simp only [← live_loc (ha id (by simp)), hl, hb, hle]
  ·simp at h
 ·simp at h

theorem loadV_loc {l k : Look} {i : TI} {p : V} {r : Res} (h : loadV l i p = some r) (ha : Agree l k r.rd) : loadV k i p = some r := by
 unfold loadV at h ⊢
 split at h
 ·rename_i id g off
  cases hl : live l id g with
  | none => simp [hl] at h
  | some o =>
   simp only [hl, Option.bind_eq_some_iff] at h
   obtain ⟨y, hy, hr⟩ := h
   simp [retR] at hr; subst hr
   simp only [← live_loc (ha id (by simp)), hl, hy]; rfl
 ·exact h
 ·exact h

theorem storeV_loc {l k : Look} {fz : Bool} {i : TI} {p x : V} {r : Res} (h : storeV l fz i p x = some r) (ha : Agree l k r.rd) : storeV k fz i p x = some r := by
 unfold storeV at h ⊢
 split at h
 ·rename_i id g off xs hcx
  split at h
  ·rename_i o ys ids hl hcl
   split at h
   ·rename_i c1 c2 c3 c4
    simp only [Option.some.injEq] at h; subst h
    have ha' : Agree l k ids := ha.mono fun i hi => by simp [hi]
    simp only [hcx, ← live_loc (ha id (by simp)), hl, closeVs_loc hcl (fun v w a h1 h2 => cl1_loc h1 (ha'.mono h2)), c1, c2, c3, c4, roOf_loc ha']
   ·simp at h
  ·simp at h
 ·simp at h

theorem appendV_loc {l k : Look} {n c : Nat} {i : TI} {s x : V} {r : Res} (h : appendV l n c i s x = some r) (ha : Agree l k r.rd) : appendV k n c i s x = some r := by
 unfold appendV at h ⊢
 split at h
 ·rename_i e sz by_ hk
  split at h
  ·rename_i m xs rx hrows
   split at h
   ·rename_i rows
    split at h
    ·rename_i c1 c2 c3
     simp only [Option.some.injEq] at h; subst h
     simp only [rowsOf_loc hrows ha, c1, c2, c3]
    ·simp at h
   ·rename_i id g off len sz' cap
    split at h
    ·rename_i o hl hb
     split at h
     ·rename_i c1 c2
      split at h
      ·rename_i q
       split at h
       ·rename_i c3 c4 c5
        simp only [Option.some.injEq] at h; subst h
        simp only [rowsOf_loc hrows (ha.mono fun i hi => by simp [hi]), ← live_loc (ha id (by simp)), hl, hb, c1, c2, c3, c4, c5]
       ·rename_i c3
        simp only [Option.some.injEq] at h; subst h
        simp only [rowsOf_loc hrows (ha.mono fun i hi => by simp [hi]), ← live_loc (ha id (by simp)), hl, hb, c1, c2, c3]
       ·simp at h
      ·split at h
       ·rename_i c3
        simp only [Option.some.injEq] at h; subst h
        simp only [rowsOf_loc hrows (ha.mono fun i hi => by simp [hi]), ← live_loc (ha id (by simp)), hl, hb, c1, c2, c3]
       ·simp at h
     ·simp at h
    ·simp at h
   ·simp at h
  ·simp at h
 ·simp at h

theorem appendSV_loc {l k : Look} {n c : Nat} {i : TI} {s x : V} {r : Res} (h : appendSV l n c i s x = some r) (ha : Agree l k r.rd) : appendSV k n c i s x = some r := by
 unfold appendSV at h ⊢
 split at h
 ·rename_i e sz by_ t hk
  split at h
  ·rename_i hs1
   split at h
   ·exact h
   ·rename_i id g off len sz' cap
    split at h
    ·rename_i o hl hb
     split at h
     ·rename_i c1 c2
      split at h
      ·rename_i q
       split at h
       ·rename_i c3 c4 c5
        simp only [Option.some.injEq] at h; subst h
        simp only [← live_loc (ha id (by simp)), hl, hb, c1, c2, c3, c4, c5]
       ·rename_i c3
        simp only [Option.some.injEq] at h; subst h
        simp only [← live_loc (ha id (by simp)), hl, hb, c1, c2, c3]
       ·simp at h
      ·split at h
       ·rename_i c3
        simp only [Option.some.injEq] at h; subst h
        simp only [← live_loc (ha id (by simp)), hl, hb, c1, c2, c3]
       ·simp at h
     ·simp at h
    ·simp at h
   ·simp at h
  ·simp at h
 ·simp at h

theorem cloneV_loc {l k : Look} {n c sz by_ : Nat} {x : V} {r : Res} (h : cloneV l n c sz by_ x = some r) (ha : Agree l k r.rd) : cloneV k n c sz by_ x = some r := by
 unfold cloneV at h ⊢
 split at h
 ·rename_i m xs rx hrows
  split at h
  ·rename_i hf
   simp only [Option.some.injEq] at h; subst h
   rw [rowsOf_loc hrows ha]
   simp only [hf]
  ·simp at h
 ·simp at h

theorem primV_loc {l k : Look} {n c : Nat} {p : Nat × Nat} {vs : List V} {r : Res} (h : primV l n c p vs = some r) (ha : Agree l k r.rd) : primV k n c p vs = some r := by
 unfold primV at h ⊢
 split at h
 ·exact cloneV_loc h ha
 ·exact h
 ·exact h
 ·simp at h

theorem bytesV_loc {l k : Look} {e sz : Nat} {x : V} {r : Res} (h : bytesV P l e sz x = some r) (ha : Agree l k r.rd) : bytesV P k e sz x = some r := by
 unfold bytesV at h ⊢
 split at h
 ·rename_i e1 e2
  split at h
  ·rename_i mm xs rd hr
   split at h
   ·rename_i s hs
    simp only [Option.some.injEq] at h; subst h
    simp only [rowsOf_loc hr ha, hs]
   ·cases h
  ·cases h
 ·cases h
theorem convL_loc {l k : Look} {i j : TI} {x : V} {r : Res} (h : convL P l i j x = some r) (ha : Agree l k r.rd) : convL P k i j x = some r := by
 unfold convL at h ⊢
 split at h
 ·exact h
 ·exact bytesV_loc h ha
 ·exact h

theorem lenV_loc {l k : Look} {i : TI} {x : V} {r : Res} (h : lenV l i x = some r) (ha : Agree l k r.rd) : lenV k i x = some r := by
 unfold lenV at h ⊢
 split at h <;> try exact h
 ·rename_i id g off len sz cap
  split at h
  ·rename_i e s b o hk hl
   simp [retR] at h; subst h
   simp only [hk, ← live_loc (ha id (by simp)), hl]; rfl
  ·simp at h
 ·rename_i id g
  split at h
  ·rename_i kt et o hk hl
   split at h
   ·rename_i ks vs bs c hc
    simp [retR] at h; subst h
    simp only [hk, ← live_loc (ha id (by simp)), hl, hc]; rfl
   ·simp at h
  ·simp at h

theorem capV_loc {l k : Look} {i : TI} {x : V} {r : Res} (h : capV l i x = some r) (ha : Agree l k r.rd) : capV k i x = some r := by
 unfold capV at h ⊢
 split at h <;> try exact h
 rename_i id g off len sz q
 split at h
 ·rename_i e s b o hk hl
  simp [retR] at h; subst h
  simp only [hk, ← live_loc (ha id (by simp)), hl]; rfl
 ·simp at h

theorem nilV_loc {l k : Look} {q : TK} {y : Operand} {x : V} {b : Bool} {rd : List Nat} (h : nilV l q y x = some (b, rd)) (ha : Agree l k rd) : nilV k q y x = some (b, rd) := by
 unfold nilV at h ⊢
 split at h
 ·split at h <;> try exact h
  rename_i id g off
  cases hl : live l id g with
  | none => simp [hl] at h
  | some o =>
   simp [hl] at h; obtain ⟨rfl, rfl⟩ := h
   simp only [← live_loc (ha id (by simp)), hl]
 ·split at h <;> try exact h
  rename_i id g
  cases hl : live l id g with
  | none => simp [hl] at h
  | some o =>
   simp [hl] at h; obtain ⟨rfl, rfl⟩ := h
   simp only [← live_loc (ha id (by simp)), hl]
 ·split at h <;> try exact h
  rename_i id g off len sz cap
  cases hl : live l id g with
  | none => simp [hl] at h
  | some o =>
   cases hb : Nat.blt 0 len with
   | false => rw [hl, hb] at h; simp at h
   | true =>
    rw [hl, hb] at h
    simp at h; obtain ⟨rfl, rfl⟩ := h
    simp only [← live_loc (ha id (by simp)), hl]
 ·exact h
 ·simp at h

theorem nilR_loc {l k : Look} {op : BinOp} {q : TK} {y : Operand} {x : V} {r : Res} (h : nilR l op q y x = some r) (ha : Agree l k r.rd) : nilR k op q y x = some r := by
 unfold nilR at h ⊢
 split at h
 ·rename_i e b rd he hn
  simp at h; subst h
  rw [he, nilV_loc hn ha]
 ·simp at h

theorem checkNil_loc {l k : Look} {x : V} {r : Res} (h : checkNil l x = some r) (ha : Agree l k r.rd) : checkNil k x = some r := by
 unfold checkNil at h ⊢
 split at h <;> try exact h
 rename_i id g off
 split at h
 ·rename_i o hl
  simp [retR] at h; subst h
  simp only [← live_loc (ha id (by simp)), hl]; rfl
 ·simp at h

theorem nextV_loc {l k : Look} {x : V} {r : Res} (h : nextV l x = some r) (ha : Agree l k r.rd) : nextV k x = some r := by
 unfold nextV at h ⊢
 split at h
 ·rename_i id g
  split at h
  ·rename_i o hl
   split at h
   ·rename_i s pos hro hc
    have hid : r.rd = [id] := by
     split at h
     ·simp at h; subst h; rfl
     ·simp at h; subst h; rfl
    simp only [← live_loc (ha id (by rw [hid]; simp)), hl, hro, hc]
    exact h
   ·simp at h
  ·simp at h
 ·simp at h

theorem rangeMV_loc {l k : Look} {n c : Nat} {x : V} {r : Res} (h : rangeMV l n c x = some r) (ha : Agree l k r.rd) : rangeMV k n c x = some r := by
 unfold rangeMV at h ⊢
 split at h
 ·rename_i id g
  split at h
  ·rename_i o hl
   split at h
   ·rename_i ks vs bs clock hc
    simp only [Option.some.injEq] at h; subst h
    simp only [← live_loc (ha id (by simp)), hl, hc]
   ·simp at h
  ·simp at h
 ·simp at h

theorem entryItV_loc {l k : Look} {x : V} {r : Res} (h : entryItV l x = some r) (ha : Agree l k r.rd) : entryItV k x = some r := by
 unfold entryItV at h ⊢
 split at h
 ·rename_i id g
  split at h
  ·rename_i o hl
   split at h
   ·rename_i mid mg since seen last hc
    split at h
    ·rename_i b q hb hq
     split at h
     ·rename_i ks vs bs clock hqc
      split at h
      ·rename_i j hcl hj
       split at h
       ·rename_i kk v hk hv
        simp only [Option.some.injEq] at h; subst h
        simp only [← live_loc (ha id (by simp)), ← live_loc (ha mid (by simp)), hl, hc, hb, hq, hqc, hcl, hj, hk, hv]
       ·simp at h
      ·simp at h
     ·simp at h
    ·simp at h
   ·simp at h
  ·simp at h
 ·simp at h

theorem lookupV_loc {l k : Look} {ki : TI} {zz : Option V} {x y : V} {ok : Bool} {r : Res} (h : lookupV l ki zz x y ok = some r) (ha : Agree l k r.rd) : lookupV k ki zz x y ok = some r := by
 unfold lookupV at h ⊢
 split at h
 ·rename_i kd z
  split at h
  ·rename_i hok
   split at h
   ·exact h
   ·rename_i id g
    split at h
    ·rename_i o hl
     split at h
     ·rename_i ks vs bs c hc
      have hid : r.rd = [id] := by
       split at h
       ·split at h
        ·simp [retR] at h; subst h; rfl
        ·simp at h
       ·simp [retR] at h; subst h; rfl
       ·simp at h
      simp only [← live_loc (ha id (by rw [hid]; simp)), hl, hc]
      exact h
     ·simp at h
    ·simp at h
   ·simp at h
  ·simp at h
 ·simp at h

theorem insertV_loc {l k : Look} {ki : TI} {m y x : V} {r : Res} (h : insertV l ki m y x = some r) (ha : Agree l k r.rd) : insertV k ki m y x = some r := by
 unfold insertV at h ⊢
 split at h
 ·rename_i kd id g
  split at h
  ·rename_i o hok hl
   split at h
   ·rename_i ks vs bs c hro hc
    have hid : r.rd = [id] := by
     split at h
     ·simp at h; subst h; rfl
     ·simp at h; subst h; rfl
     ·simp at h
    simp only [hok, ← live_loc (ha id (by rw [hid]; simp)), hl, hro, hc]
    exact h
   ·simp at h
  ·simp at h
 ·simp at h

theorem entryV_loc {l k : Look} {ki : TI} {zz : Option V} {m y : V} {r : Res} (h : entryV l ki zz m y = some r) (ha : Agree l k r.rd) : entryV k ki zz m y = some r := by
 unfold entryV at h ⊢
 split at h
 ·rename_i kd id g z
  split at h
  ·rename_i o hok hl
   split at h
   ·rename_i ks vs bs c hro hc
    have hid : r.rd = [id] := by
     split at h
     ·split at h
      ·simp at h; subst h; rfl
      ·simp at h
     ·simp at h; subst h; rfl
     ·simp at h
    simp only [hok, ← live_loc (ha id (by rw [hid]; simp)), hl, hro, hc]
    exact h
   ·simp at h
  ·simp at h
 ·simp at h

theorem stampV_loc {l k : Look} {m y x : V} {r : Res} (h : stampV l m y x = some r) (ha : Agree l k r.rd) : stampV k m y x = some r := by
 unfold stampV at h ⊢
 split at h
 ·rename_i q b id g
  split at h
  ·rename_i o hl
   split at h
   ·rename_i ks vs bs c hro hc
    have hid : r.rd = [id] := by
     split at h
     ·simp at h; subst h; rfl
     ·simp at h
    simp only [← live_loc (ha id (by rw [hid]; simp)), hl, hro, hc]
    exact h
   ·simp at h
  ·simp at h
 ·simp at h

theorem copyV_loc {l k : Look} {i : TI} {s x : V} {r : Res} (h : copyV l i s x = some r) (ha : Agree l k r.rd) : copyV k i s x = some r := by
 unfold copyV at h ⊢
 split at h
 ·rename_i e sz by_ id g off len sz' cap hk
  split at h
  ·rename_i m xs rx o hrows hl hb
   split at h
   ·rename_i c1 c2
    simp only [Option.some.injEq] at h; subst h
    simp only [rowsOf_loc hrows (ha.mono fun i hi => by simp [hi]), ← live_loc (ha id (by simp)), hl, hb, c1, c2]
   ·simp at h
  ·simp at h
 ·simp at h

theorem indexAddrV_loc {l k : Look} {i : TI} {x ix : V} {r : Res} (h : indexAddrV l i x ix = some r) (ha : Agree l k r.rd) : indexAddrV k i x ix = some r := by
 unfold indexAddrV at h ⊢
 split at h <;> try exact h
 split at h <;> try exact h
 ·rename_i e sz by_ id g off len sz' cap hk
  split at h
  ·rename_i o hl hb
   simp only [Option.bind_eq_some_iff] at h
   obtain ⟨q, hq, hr⟩ := h
   simp [retR] at hr; subst hr
   simp only [← live_loc (ha id (by simp)), hl, hb, hq]; rfl
  ·simp at h
 ·rename_i n e sz ag id g off hk
  split at h
  ·rename_i o hl
   simp only [Option.bind_eq_some_iff] at h
   obtain ⟨q, hq, hr⟩ := h
   simp [retR] at hr; subst hr
   simp only [← live_loc (ha id (by simp)), hl, hq]; rfl
  ·simp at h

theorem fieldAddrV_loc {l k : Look} {i : TI} {f : Nat} {x : V} {r : Res} (h : fieldAddrV l i f x = some r) (ha : Agree l k r.rd) : fieldAddrV k i f x = some r := by
 unfold fieldAddrV at h ⊢
 split at h <;> try exact h
 split at h <;> try exact h
 split at h <;> try exact h
 split at h <;> try exact h
 rename_i id g o
 split at h
 ·rename_i ob hl
  simp [retR] at h; subst h
  simp only [← live_loc (ha id (by simp)), hl]; rfl
 ·simp at h

theorem sliceV_loc {l k : Look} {i : TI} {x : V} {lo hi mx : Option V} {r : Res} (h : sliceV l i x lo hi mx = some r) (ha : Agree l k r.rd) : sliceV k i x lo hi mx = some r := by
 unfold sliceV at h ⊢
 split at h <;> try exact h
 rotate_left
 ·rename_i n e sz ag id g off hk
  split at h
  ·rename_i o p q hl e1 e2
   split at h
   ·rename_i hc
    simp only [retR, Option.some.injEq] at h; subst h
    simp only [← live_loc (ha id (by simp)), hl, e1, e2, if_pos hc]; rfl
   ·simp at h
  ·simp at h
 rename_i e sz by_ id g off len sz' cap hk
 split at h
 ·rename_i o p q hl hb e1 e2
  split at h
  ·rename_i hc
   simp only [retR, Option.some.injEq] at h; subst h
   simp only [← live_loc (ha id (by simp)), hl, hb, e1, e2, if_pos hc]; rfl
  ·simp at h
 ·rename_i o p q m hl hb e1 e2
  split at h
  ·rename_i mm e3
   split at h
   ·rename_i hc
    simp only [retR, Option.some.injEq] at h; subst h
    simp only [← live_loc (ha id (by simp)), hl, hb, e1, e2, e3, if_pos hc]; rfl
   ·simp at h
  ·simp at h
 ·simp at h

theorem builtinV_loc {l k : Look} {n c : Nat} {b : Builtin} {ts : List TypeId} {vs : List V} {r : Res} (h : builtinV P l n c b ts vs = some r) (ha : Agree l k r.rd) : builtinV P k n c b ts vs = some r := by
 unfold builtinV at h ⊢
 split at h <;> try exact h
 ·simp only [Option.bind_eq_some_iff] at h ⊢
  obtain ⟨i, hi, h⟩ := h
  exact ⟨i, hi, lenV_loc h ha⟩
 ·split at h
  ·rename_i e
   rw [if_pos e]
   simp only [Option.bind_eq_some_iff] at h ⊢
   obtain ⟨i, hi, h⟩ := h
   exact ⟨i, hi, appendV_loc h ha⟩
  ·rename_i e
   rw [if_neg e]
   split at h
   ·rename_i i j hi hj
    split at h
    ·exact h
    ·exact appendSV_loc h ha
    ·exact h
   ·exact h
 ·simp only [Option.bind_eq_some_iff] at h ⊢
  obtain ⟨i, hi, h⟩ := h
  exact ⟨i, hi, capV_loc h ha⟩
 ·split at h
  ·rename_i e
   rw [if_pos e]
   simp only [Option.bind_eq_some_iff] at h ⊢
   obtain ⟨i, hi, h⟩ := h
   exact ⟨i, hi, copyV_loc h ha⟩
  ·simp at h

theorem step_loc {fz fs : Bool} {ρ : Operand → V} {l k : Look} {n c : Nat} {op : Op} {r : Res} (h : step P fz fs ρ l n c op = some r) (ha : Agree l k r.rd) : step P fz fs ρ k n c op = some r := by
 cases op <;> simp only [step] at h ⊢ <;> try exact h
 case build t ps =>
  split at h <;> try exact h
  split at h <;> try exact h
  split at h
  ·rename_i hc
   rw [if_pos hc]
   split at h
   ·exact h
   ·split at h
    ·rename_i qs ids hcp
     simp only [Option.bind_eq_some_iff] at h
     obtain ⟨cs, hcs, h⟩ := h
     simp only [Option.some.injEq] at h; subst h
     have ha' : Agree l k ids := ha
     rw [closeParts_loc hcp ha']
     simp only [hcs, Option.bind_some, roOf_loc ha']
    ·simp at h
  ·simp at h
 case buildSlice t len ps =>
  split at h <;> try exact h
  split at h <;> try exact h
  split at h <;> try exact h
  split at h <;> try exact h
  split at h
  ·rename_i hc
   rw [if_pos hc]
   split at h
   ·rename_i qs ids hcp
    simp only [Option.bind_eq_some_iff] at h
    obtain ⟨cs, hcs, h⟩ := h
    simp only [Option.some.injEq] at h; subst h
    have ha' : Agree l k ids := ha
    rw [closeParts_loc hcp ha']
    simp only [hcs, Option.bind_some, roOf_loc ha']
   ·simp at h
  ·simp at h
 case makeFunc fn first caps => cases fn <;> exact h
 case convert s t x =>
  split at h
  ·exact convL_loc h ha
  ·exact h
 case nilCheck x => exact checkNil_loc h ha
 case next x b =>
  cases b with
  | false => exact h
  | true => exact nextV_loc h ha
 case range t x =>
  simp only [Option.bind_eq_some_iff] at h ⊢
  obtain ⟨i, hi, h⟩ := h
  refine ⟨i, hi, ?_⟩
  split at h
  ·exact rangeMV_loc h ha
  ·exact h
 case entry x => exact entryItV_loc h ha
 case makeMap t q => cases q <;> exact h
 case lookup t x y ok =>
  split at h <;> try exact h
  split at h <;> try exact h
  split at h <;> try exact h
  exact lookupV_loc h ha
 case mapUpdate t m y x =>
  split at h <;> try exact h
  split at h <;> try exact h
  simp only [Option.bind_eq_some_iff] at h ⊢
  obtain ⟨i, hi, h⟩ := h
  exact ⟨i, hi, insertV_loc h ha⟩
 case insert t m y x =>
  split at h <;> try exact h
  split at h <;> try exact h
  simp only [Option.bind_eq_some_iff] at h ⊢
  obtain ⟨i, hi, h⟩ := h
  exact ⟨i, hi, insertV_loc h ha⟩
 case mapEntry t m y =>
  split at h <;> try exact h
  split at h <;> try exact h
  simp only [Option.bind_eq_some_iff] at h ⊢
  obtain ⟨i, hi, h⟩ := h
  exact ⟨i, hi, entryV_loc h ha⟩
 case entryStore t m y x => exact stampV_loc h ha
 case binOp op t x y yt =>
  split at h
  ·simp only [Option.bind_eq_some_iff] at h ⊢
   obtain ⟨i, hi, h⟩ := h
   exact ⟨i, hi, nilR_loc h ha⟩
  ·exact h
 case load t a =>
  simp only [Option.bind_eq_some_iff] at h ⊢
  obtain ⟨i, hi, h⟩ := h
  exact ⟨i, hi, loadV_loc h ha⟩
 case store t a x =>
  simp only [Option.bind_eq_some_iff] at h ⊢
  obtain ⟨i, hi, h⟩ := h
  exact ⟨i, hi, storeV_loc h ha⟩
 case slice t x lo hi mx =>
  split at h
  ·simp at h
  ·rename_i hno
   rw [if_neg hno]
   simp only [Option.bind_eq_some_iff] at h ⊢
   obtain ⟨i, hi, h⟩ := h
   exact ⟨i, hi, sliceV_loc h ha⟩
 case fieldAddr t x f =>
  simp only [Option.bind_eq_some_iff] at h ⊢
  obtain ⟨i, hi, h⟩ := h
  exact ⟨i, hi, fieldAddrV_loc h ha⟩
 case indexAddr t x ix =>
  simp only [Option.bind_eq_some_iff] at h ⊢
  obtain ⟨i, hi, h⟩ := h
  exact ⟨i, hi, indexAddrV_loc h ha⟩
 case call cl =>
  obtain ⟨callee, args, ts⟩ := cl
  cases callee <;> simp only [] at h ⊢ <;> try exact h
  exact builtinV_loc h ha

end Go.Ac
end

section
namespace Go.Ac
variable {P : Program}

/-- What a caller may count on behind a call. -/
def Back [Gl] (S : Nat → Prop) (m : M) (r : CR) (x : Value) (m' : M) : Prop :=
 Rel S m' ∧ Evo S m m' ∧ RV S m' r.v x ∧ m'.h = r.hp.get ∧ m'.iss = fun _ g => g < r.c

def Tops (hp : Hp) (n : Nat) : Prop := ∀ id, n ≤ id → hp.get id = none

structure LogOK (hp : Hp) (n c : Nat) (r : CR) : Prop where
 le_n : n ≤ r.n
 le_c : c ≤ r.c
 top : Tops r.hp r.n
 same : ∀ id, id < n → id ∉ r.wl → r.hp.get id = hp.get id
 stay : ∀ id, id < n → r.hp.get id = none → hp.get id = none

structure CallOK [Gl] (P : Program) (call : CallF) : Prop where
 log : ∀ {f : FuncId} {vs : List V} {hp : Hp} {n c : Nat} {r : CR}, call f vs hp n c = some r → Tops hp n → LogOK hp n c r
 ok : ∀ {f : FuncId} {vs : List V} {hp : Hp} {n c : Nat} {r : CR}, call f vs hp n c = some r → Tops hp n → ∀ {S : Nat → Prop} {m : M} {xs : List Value}, m.h = hp.get → (m.iss = fun _ g => g < c) → Rel S m → RVs S m vs xs →
  Calls P f xs.toArray m.w (fun e w' => ∃ x m', e = .returned x ∧ m'.w = w' ∧ Back S m r x m')

/-! ### Values that hold no name -/

def V.shut1 : V → Bool
 | .d _ | .con _ | .full _ | .fn _ [] => true
 | _ => false
def V.shut2 : V → Bool
 | .agg cs => cs.all V.shut1
 | v => v.shut1
def V.shut : V → Bool
 | .tuple cs => cs.all V.shut2
 | v => v.shut2

theorem toD_noLook : ∀ (f : Nat) {v : V} {x : D} {r : List Nat}, toD noLook f v = some (x, r) → v.shut1 = true
 | 0, v, x, r, h => by cases v <;> simp_all [toD, V.shut1]
 | f + 1, v, x, r, h => by
  cases v <;> simp_all [toD, V.shut1]
  simp [live, noLook] at h

theorem close1_noLook {v w : V} {r : List Nat} (h : close1 noLook v = some (w, r)) : v.shut1 = true := by
 have gen : ∀ v, ofD (toD noLook depthD v) = some (w, r) → v.shut1 = true := by
  intro v h
  unfold ofD at h
  split at h
  ·rename_i x r hx; exact toD_noLook _ hx
  ·simp at h
 cases v with
 | con v => rfl
 | fn f cs => cases cs with
  | nil => rfl
  | cons c cs => simp only [close1] at h; exact gen _ h
 | _ => simp only [close1] at h; exact gen _ h

theorem closeVs_all {f : V → Option (V × List Nat)} {p : V → Bool} (hf : ∀ v w r, f v = some (w, r) → p v = true) : ∀ {vs ws : List V} {r : List Nat}, closeVs f vs = some (ws, r) → vs.all p = true
 | [], _, _, _ => rfl
 | v :: l, ws, r, h => by
  simp only [closeVs] at h
  split at h
  ·rename_i x a xs b h1 h2
   simp [hf _ _ _ h1]
   simpa using closeVs_all hf h2
  ·simp at h

theorem close_noLook {v w : V} {r : List Nat} (h : close noLook v = some (w, r)) : v.shut2 = true := by
 cases v with
 | agg cs =>
  simp only [close] at h
  split at h
  ·rename_i xs r hx
   simp only [V.shut2]
   exact closeVs_all (fun v w r h => close1_noLook h) hx
  ·simp at h
 | _ => simp only [close] at h; simpa only [V.shut2] using close1_noLook h

theorem closeT_noLook {v w : V} {r : List Nat} (h : closeT noLook v = some (w, r)) : v.shut = true := by
 cases v with
 | tuple cs =>
  simp only [closeT] at h
  split at h
  ·rename_i xs r hx
   simp only [V.shut]
   exact closeVs_all (fun v w r h => close_noLook h) hx
  ·simp at h
 | _ => simp only [closeT] at h; simpa only [V.shut] using close_noLook h

theorem toD_shut1 {look : Look} : ∀ (f : Nat) {v : V}, v.shut1 = true → toD look f v = toD noLook f v
 | 0, v, h => by cases v <;> simp_all [toD, V.shut1]
 | f + 1, v, h => by cases v <;> simp_all [toD, V.shut1]

theorem close1_noLook_any {look : Look} {v w : V} {r : List Nat} (h : close1 noLook v = some (w, r)) : close1 look v = some (w, r) := by
 have hs := close1_noLook h
 cases v with
 | con v => exact h
 | fn f cs => cases cs with
  | nil => exact h
  | cons c cs => simp [V.shut1] at hs
 | _ => simp only [close1] at h ⊢; rw [toD_shut1 _ hs]; exact h

theorem close_noLook_any {look : Look} {v w : V} {r : List Nat} (h : close noLook v = some (w, r)) : close look v = some (w, r) := by
 cases v with
 | agg cs =>
  simp only [close] at h ⊢
  split at h
  ·rename_i xs r hx
   rw [closeVs_loc hx (fun v w a g1 _ => close1_noLook_any g1)]; exact h
  ·simp at h
 | _ => simp only [close] at h ⊢; exact close1_noLook_any h

theorem close1_shut {look : Look} {v w : V} {r : List Nat} (h : close1 look v = some (w, r)) : w.shut1 = true := by
 unfold close1 at h
 split at h
 ·simp at h; obtain ⟨rfl, rfl⟩ := h; rfl
 ·simp at h; obtain ⟨rfl, rfl⟩ := h; rfl
 ·unfold ofD at h
  split at h
  ·simp at h; obtain ⟨rfl, rfl⟩ := h; rfl
  ·simp at h

theorem closeVs_shut {f : V → Option (V × List Nat)} {p : V → Bool} (hf : ∀ v w r, f v = some (w, r) → p w = true) : ∀ {vs ws : List V} {r : List Nat}, closeVs f vs = some (ws, r) → ws.all p = true
 | [], ws, _, h => by simp [closeVs] at h; obtain ⟨rfl, rfl⟩ := h; rfl
 | v :: l, ws, r, h => by
  simp only [closeVs] at h
  split at h
  ·rename_i x a xs b h1 h2
   simp at h; obtain ⟨rfl, rfl⟩ := h
   simp [hf _ _ _ h1]
   simpa using closeVs_shut hf h2
  ·simp at h

theorem V.shut2_of1 {v : V} (h : v.shut1 = true) : v.shut2 = true := by cases v <;> first | exact h | (simp [V.shut1] at h)
theorem close_shut {look : Look} {v w : V} {r : List Nat} (h : close look v = some (w, r)) : w.shut2 = true := by
 unfold close at h
 split at h
 ·split at h
  ·rename_i xs r hx
   simp at h; obtain ⟨rfl, rfl⟩ := h
   exact closeVs_shut (fun v w r h => close1_shut h) hx
  ·simp at h
 ·exact V.shut2_of1 (close1_shut h)

theorem closeA_noLook_any {look : Look} {v w : V} {r : List Nat} (h : closeA noLook v = some (w, r)) : closeA look v = some (w, r) := by
 unfold closeA at h ⊢
 split at h
 ·exact h
 ·exact close_noLook_any h

theorem closeA_shut {look : Look} {v w : V} {r : List Nat} (h : closeA look v = some (w, r)) : w.shut2 = true := by
 unfold closeA at h
 split at h
 ·simp at h; obtain ⟨rfl, rfl⟩ := h; rfl
 ·exact close_shut h

section
variable {S S' : Nat → Prop} {m m' : M}

theorem RV.shut1 (k : ∀ x y, RD m.w (m.av S) x y → RD m'.w (m'.av S') x y) {v : V} {y : Value} (hs : v.shut1 = true) (h : RV S m v y) : RV S' m' v y := by
 cases h with
 | d h => exact .d (k _ _ h)
 | con => exact .con _
 | full h => exact .full (k _ _ h)
 | @fn f caps vs hl h =>
  cases caps with
  | nil => exact .fn hl (fun j x y hx => by simp at hx)
  | cons c cs => simp [V.shut1] at hs
 | _ => simp [V.shut1] at hs

theorem RV.shut2 (k : ∀ x y, RD m.w (m.av S) x y → RD m'.w (m'.av S') x y) {v : V} {y : Value} (hs : v.shut2 = true) (h : RV S m v y) : RV S' m' v y := by
 cases v with
 | agg cs =>
  cases h with
  | agg hl h =>
   simp only [V.shut2, List.all_eq_true] at hs
   exact .agg hl fun j x y hx hy => (h j x y hx hy).shut1 k (hs x (List.mem_of_getElem? hx))
 | _ => exact RV.shut1 k hs h

theorem RV.shut (k : ∀ x y, RD m.w (m.av S) x y → RD m'.w (m'.av S') x y) {v : V} {y : Value} (hs : v.shut = true) (h : RV S m v y) : RV S' m' v y := by
 cases v with
 | tuple cs =>
  cases h with
  | tuple hl h =>
   simp only [V.shut, List.all_eq_true] at hs
   exact .tuple hl fun j x y hx hy => (h j x y hx hy).shut2 k (hs x (List.mem_of_getElem? hx))
 | _ => exact RV.shut2 k hs h

theorem RD.flat {w w' : World} {av av' : Nat → Prop} {x : D} {y : Value} (hx : x.flat = true) (h : RD w av x y) : RD w' av' x y := by
 cases h with
 | bool b => exact .bool b
 | int k n => exact .int k n
 | str s l h => exact .str s l h
 | _ => simp [D.flat] at hx

theorem RV.flat1 {v : V} {y : Value} (hs : v.flat1 = true) (h : RV S m v y) : RV S' m' v y := by
 cases h with
 | d h => exact .d (h.flat hs)
 | con => exact .con _
 | _ => simp [V.flat1] at hs

theorem RV.flat2 {v : V} {y : Value} (hs : v.flat2 = true) (h : RV S m v y) : RV S' m' v y := by
 cases v with
 | agg cs =>
  cases h with
  | agg hl h =>
   simp only [V.flat2, List.all_eq_true] at hs
   exact .agg hl fun j x y hx hy => (h j x y hx hy).flat1 (hs x (List.mem_of_getElem? hx))
 | _ => exact RV.flat1 hs h

theorem RV.flat {v : V} {y : Value} (hs : v.flat = true) (h : RV S m v y) : RV S' m' v y := by
 cases v with
 | tuple cs =>
  cases h with
  | tuple hl h =>
   simp only [V.flat, List.all_eq_true] at hs
   exact .tuple hl fun j x y hx hy => (h j x y hx hy).flat2 (hs x (List.mem_of_getElem? hx))
 | _ => exact RV.flat2 hs h

/-- Some objects are let go. -/
theorem Rel.less [Gl] (hR : Rel S m) {h' : Nat → Option Ob} (hh : ∀ id o, h' id = some o → m.h id = some o) :
  Rel S { m with h := h' } ∧ Evo S m { m with h := h' } := by
 have e : Evo S m { m with h := h' } := {
  rest := ⟨rfl, rfl, fun _ _ => rfl⟩
  iss := fun _ _ h => h
  size := Nat.le_refl _
  shape := fun b cs T fz h => ⟨cs, fz, h, rfl⟩
  keepS := fun b h _ => rfl
  keep := fun b h hn => ⟨fun hx => hn (by
   rcases hx with hx | ⟨id, o, x, h1, h2, h3⟩
   ·exact .inl hx
   ·exact .inr ⟨id, o, x, hh _ _ h1, h2, h3⟩), rfl⟩
  live := fun id o h _ => ⟨o, hh _ _ h, rfl, rfl, Nat.le_refl _, rfl⟩
  old := fun id o b x h1 h2 _ => ⟨o, x, hh _ _ h1, h2⟩ }
 refine ⟨⟨fun g => (hR.glob g).mono e, fun id o h => hR.iss id o (hh _ _ h), fun id o h => hR.none_ id o (hh _ _ h), fun id o b base ho ha => ?_, fun i j oi oj b x y hi hj => hR.inj i j oi oj b x y (hh _ _ hi) (hh _ _ hj), hR.sub⟩, e⟩
 exact hR.other e (hh _ _ ho) ha rfl

end

/-! ### The names of a callee's objects among the caller's -/

theorem hupd_fun {F : Nat → Option Ob} : ∀ {l : List (Nat × Ob)}, (∀ p ∈ l, F p.1 = some p.2) → ∀ (h : Nat → Option Ob) (id : Nat), hupd h l id = if id ∈ l.map (·.1) then F id else h id
 | [], _, h, id => by simp [hupd]
 | (k, o) :: r, hF, h, id => by
  simp only [hupd]
  rw [hupd_fun (fun p hp => hF p (by simp [hp]))]
  have hk := hF (k, o) (by simp)
  by_cases hm : id ∈ r.map (·.1)
  ·rw [if_pos hm, if_pos (by simp only [List.map_cons, List.mem_cons]; exact .inr hm)]
  ·rw [if_neg hm]
   by_cases hid : id = k
   ·subst hid; simp [upd]; exact hk.symm
   ·rw [upd_ne _ _ hid, if_neg (by simp only [List.map_cons, List.mem_cons, not_or]; exact ⟨hid, hm⟩)]

theorem mem_wrOf {look : Look} : ∀ {l : List Nat} {p : Nat × Ob}, p ∈ wrOf look l ↔ p.1 ∈ l ∧ look p.1 = some p.2
 | [], p => by simp [wrOf]
 | id :: r, p => by
  simp only [wrOf]
  cases h : look id with
  | none =>
   simp only [mem_wrOf, List.mem_cons]
   constructor
   ·rintro ⟨h1, h2⟩; exact ⟨.inr h1, h2⟩
   ·rintro ⟨h1 | h1, h2⟩
    ·rw [h1, h] at h2; cases h2
    ·exact ⟨h1, h2⟩
  | some o =>
   simp only [List.mem_cons, mem_wrOf]
   constructor
   ·rintro (rfl | ⟨h1, h2⟩)
    ·exact ⟨.inl rfl, h⟩
    ·exact ⟨.inr h1, h2⟩
   ·rintro ⟨h1 | h1, h2⟩
    ·left; obtain ⟨a, b⟩ := p; simp only at h1 h2; subst h1; rw [h] at h2; cases h2; rfl
    ·exact .inr ⟨h1, h2⟩

theorem keys_wrOf {look : Look} {l : List Nat} {id : Nat} : id ∈ (wrOf look l).map (·.1) ↔ id ∈ l ∧ ∃ o, look id = some o := by
 simp only [List.mem_map]
 constructor
 ·rintro ⟨p, hp, rfl⟩; obtain ⟨h1, h2⟩ := mem_wrOf.1 hp; exact ⟨h1, p.2, h2⟩
 ·rintro ⟨h1, o, h2⟩; exact ⟨(id, o), mem_wrOf.2 ⟨h1, h2⟩, rfl⟩

theorem hupd_wrOf {look : Look} (h : Nat → Option Ob) (l : List Nat) (id : Nat) : hupd h (wrOf look l) id = if id ∈ l ∧ (look id).isSome = true then look id else h id := by
 rw [hupd_fun (F := look) (fun p hp => (mem_wrOf.1 hp).2)]
 by_cases hc : id ∈ l ∧ (look id).isSome = true
 ·rw [if_pos hc, if_pos (keys_wrOf.2 ⟨hc.1, Option.isSome_iff_exists.1 hc.2⟩)]
 ·rw [if_neg hc, if_neg (fun h => hc ⟨(keys_wrOf.1 h).1, Option.isSome_iff_exists.2 (keys_wrOf.1 h).2⟩)]

theorem shiftVs_eq (n c : Nat) : ∀ l : List V, shiftVs n c l = l.map (shiftV n c)
 | [] => by simp [shiftVs]
 | v :: r => by simp [shiftVs, shiftVs_eq n c r]

def shiftO (n c : Nat) (o : Ob) : Ob := ⟨o.gen + c, o.ro, shiftVs n c o.cells⟩

/-- The callee's objects beside the caller's. -/
def beside (n c : Nat) (h0 h1 : Nat → Option Ob) : Nat → Option Ob := fun id =>
 if n ≤ id ∧ (h0 (id - n)).isSome = true then (h0 (id - n)).map (shiftO n c) else h1 id

theorem hupd_shiftH {n c N : Nat} {hp : Hp} (ht : Tops hp N) (h : Nat → Option Ob) : hupd h (shiftH n c (wrOf hp.get (List.range N))) = beside n c hp.get h := by
 funext id
 rw [hupd_fun (F := fun id => if n ≤ id then (hp.get (id - n)).map (shiftO n c) else none)]
 ·unfold beside
  have hkey : id ∈ (shiftH n c (wrOf hp.get (List.range N))).map (·.1) ↔ n ≤ id ∧ (hp.get (id - n)).isSome = true := by
   simp only [shiftH, List.map_map, List.mem_map, Function.comp]
   constructor
   ·rintro ⟨p, hp', rfl⟩
    obtain ⟨h1, h2⟩ := mem_wrOf.1 hp'
    simp [h2]
   ·rintro ⟨h1, h2⟩
    obtain ⟨o, ho⟩ := Option.isSome_iff_exists.1 h2
    refine ⟨(id - n, o), mem_wrOf.2 ⟨?_, ho⟩, by simp; omega⟩
    rw [List.mem_range]
    rcases Nat.lt_or_ge (id - n) N with h | h
    ·exact h
    ·rw [ht _ h] at ho; cases ho
  by_cases hc : n ≤ id ∧ (hp.get (id - n)).isSome = true
  ·rw [if_pos hc, if_pos (hkey.2 hc), if_pos hc.1]
  ·rw [if_neg hc, if_neg (fun h => hc (hkey.1 h))]
 ·intro p hp'
  simp only [shiftH, List.mem_map] at hp'
  obtain ⟨q, hq, rfl⟩ := hp'
  obtain ⟨h1, h2⟩ := mem_wrOf.1 hq
  simp [h2, shiftO]

theorem shiftO_kind (n c : Nat) (o : Ob) : kindL (shiftO n c o).cells = kindL o.cells := by
 unfold shiftO
 rw [shiftVs_eq]
 cases h : o.cells with
 | nil => rfl
 | cons a r =>
  cases r with
  | nil => cases a <;> rfl
  | cons b s => cases a <;> rfl

section
variable {S : Nat → Prop} {m : M}

/-- The callee's memory laid beside the caller's. -/
def besideM (n c k : Nat) (m1 m0 : M) : M where
 at_ := fun id => if n ≤ id ∧ (m0.h (id - n)).isSome = true then m0.at_ (id - n) else m1.at_ id
 h := beside n c m0.h m1.h
 iss := fun id g => m1.iss id g ∨ (c ≤ g ∧ g < c + k)
 w := m0.w

/-- What a callee that sees no object of the caller's has done. -/
structure Apart [Gl] (S : Nat → Prop) (m1 m0 : M) (k : Nat) : Prop where
 rel : Rel (m1.av S) m0
 iss : m0.iss = fun _ g => g < k
 size : m1.w.heap.size ≤ m0.w.heap.size
 row : ∀ b, b < m1.w.heap.size → m0.w.heap[b]? = m1.w.heap[b]?
 new : ∀ id o b x, m0.h id = some o → m0.at_ id = some (b, x) → m1.w.heap.size ≤ b
 rest : m0.w.os = m1.w.os ∧ m0.w.output = m1.w.output ∧ ∀ a, a.block < m1.w.heap.size → m0.w.frozen? a = m1.w.frozen? a

theorem Rel.av_lt [Gl] (hR : Rel S m) {b : Nat} (h : m.av S b) : b < m.w.heap.size := by
 rcases h with h | ⟨id, o, x, h1, h2, h3⟩
 ·exact hR.sub b h
 ·obtain ⟨ob0, hr⟩ := (hR.obj id o b x h1 h3).2.some
  exact block_lt hr

theorem beside_get {n c : Nat} {h0 h1 : Nat → Option Ob} {id : Nat} {o : Ob} (h : beside n c h0 h1 id = some o) :
  (n ≤ id ∧ ∃ o0, h0 (id - n) = some o0 ∧ o = shiftO n c o0) ∨ (¬ (n ≤ id ∧ (h0 (id - n)).isSome = true) ∧ h1 id = some o) := by
 unfold beside at h
 split at h
 ·rename_i hc
  obtain ⟨o0, ho⟩ := Option.isSome_iff_exists.1 hc.2
  rw [ho] at h; simp at h
  exact .inl ⟨hc.1, o0, ho, h.symm⟩
 ·rename_i hc; exact .inr ⟨hc, h⟩

theorem besideM_av {n c k : Nat} {m1 m0 : M} {b : Nat} (h : (besideM n c k m1 m0).av S b) : m0.av (m1.av S) b := by
 rcases h with h | ⟨id, o, x, h1, h2, h3⟩
 ·exact .inl (.inl h)
 ·rcases beside_get h1 with ⟨hn, o0, ho, rfl⟩ | ⟨hn, ho⟩
  ·simp only [besideM] at h3
   rw [if_pos ⟨hn, by simp [ho]⟩] at h3
   exact .inr ⟨id - n, o0, x, ho, h2, h3⟩
  ·simp only [besideM] at h3
   rw [if_neg hn] at h3
   exact .inl (.inr ⟨id, o, x, ho, h2, h3⟩)

theorem RV.shift [Gl] {n c k : Nat} {m1 m0 : M} (h1 : Rel S m1) (ha : Apart S m1 m0 k) (hf : ∀ id g, c ≤ g → g < c + k → ¬ m1.iss id g) {v : V} {y : Value} (h : RV (m1.av S) m0 v y) :
  RV S (besideM n c k m1 m0) (shiftV n c v) y := by
 have kd : ∀ x y, RD m0.w (m0.av (m1.av S)) x y → RD (besideM n c k m1 m0).w ((besideM n c k m1 m0).av S) x y :=
  fun x y h => h.mono fun b _ hb => ⟨fun hx => hb (besideM_av hx), rfl⟩
 have lists : ∀ {cs : List V} {vs : Array Value}, cs.length = vs.size → (∀ (j : Nat) (x : V) (y : Value), cs[j]? = some x → vs[j]? = some y → RV S (besideM n c k m1 m0) (shiftV n c x) y) →
   (shiftVs n c cs).length = vs.size ∧ ∀ (j : Nat) (x : V) (y : Value), (shiftVs n c cs)[j]? = some x → vs[j]? = some y → RV S (besideM n c k m1 m0) x y := by
  intro cs vs hl ih
  rw [shiftVs_eq]
  refine ⟨by simpa using hl, fun j x y hx hy => ?_⟩
  rw [List.getElem?_map] at hx
  cases hc : cs[j]? with
  | none => simp [hc] at hx
  | some z => simp [hc] at hx; subst hx; exact ih j z y hc hy
 have obj : ∀ (id g : Nat), m0.iss id g → ∀ o, (besideM n c k m1 m0).h (id + n) = some o → o.gen = g + c → ∃ o0, m0.h id = some o0 ∧ o = shiftO n c o0 ∧ o0.gen = g ∧ (besideM n c k m1 m0).at_ (id + n) = m0.at_ id := by
  intro id g hi o ho hg
  rcases beside_get ho with ⟨hn, o0, h0, rfl⟩ | ⟨hn, h0⟩
  ·rw [Nat.add_sub_cancel] at h0
   refine ⟨o0, h0, rfl, by simp only [shiftO] at hg; omega, ?_⟩
   simp [besideM, h0]
  ·have := h1.iss _ _ h0
   rw [ha.iss] at hi
   exact absurd this (by rw [hg]; exact hf _ _ (by omega) (by omega))
 induction h with
 | any v => simp only [shiftV]; exact .any v
 | undef => simp only [shiftV]; exact .undef
 | d h => simp only [shiftV]; exact .d (kd _ _ h)
 | con v => simp only [shiftV]; exact .con v
 | full h => simp only [shiftV]; exact .full (kd _ _ h)
 | agg hl h ih => simp only [shiftV]; exact .agg (lists hl ih).1 (lists hl ih).2
 | @ptr id g off v g1 g2 g3 =>
  simp only [shiftV]
  refine .ptr (.inr ?_) g2 fun o ho hg => ?_
  ·rw [ha.iss] at g1; omega
  ·obtain ⟨o0, q1, rfl, q2, q3⟩ := obj id g g1 o ho hg
   obtain ⟨q6, b, base, q4, q5⟩ := g3 o0 q1 q2
   exact ⟨(shiftO_kind n c o0).trans q6, b, base, q3.trans q4, q5⟩
 | @it id g v g1 g2 g3 =>
  simp only [shiftV]
  refine .it (.inr ?_) g2 fun o ho hg => ?_
  ·rw [ha.iss] at g1; omega
  ·obtain ⟨o0, q1, rfl, q2, q3⟩ := obj id g g1 o ho hg
   obtain ⟨q6, b, q4, q5⟩ := g3 o0 q1 q2
   exact ⟨(shiftO_kind n c o0).trans q6, b, q3.trans q4, q5⟩
 | @mp id g v g1 g2 g3 =>
  simp only [shiftV]
  refine .mp (.inr ?_) g2 fun o ho hg => ?_
  ·rw [ha.iss] at g1; omega
  ·obtain ⟨o0, q1, rfl, q2, q3⟩ := obj id g g1 o ho hg
   obtain ⟨q6, b, q4, q5⟩ := g3 o0 q1 q2
   exact ⟨(shiftO_kind n c o0).trans q6, b, q3.trans q4, q5⟩
 | @osl id g off len sz cap v g1 g2 g3 =>
  simp only [shiftV]
  refine .osl (.inr ?_) g2 fun o ho hg => ?_
  ·rw [ha.iss] at g1; omega
  ·obtain ⟨o0, q1, rfl, q2, q3⟩ := obj id g g1 o ho hg
   obtain ⟨q6, this⟩ := g3 o0 q1 q2
   refine ⟨(shiftO_kind n c o0).trans q6, ?_⟩
   unfold OslOK at this ⊢
   rw [q3]
   have hl : (shiftO n c o0).cells.length = o0.cells.length := by simp [shiftO, shiftVs_eq]
   rw [hl]
   exact this
 | vref f hf' hr =>
  simp only [shiftV]
  exact .vref f (fun j d hj => ⟨fun hx => (hf' j d hj).1 (besideM_av hx), (hf' j d hj).2⟩) (fun j d hj => kd _ _ (hr j d hj))
 | fn hl h ih => simp only [shiftV]; exact .fn (lists hl ih).1 (lists hl ih).2
 | tuple hl h ih => simp only [shiftV]; exact .tuple (lists hl ih).1 (lists hl ih).2

theorem shiftV_one (n c : Nat) (v : V) : (shiftV n c v).one = v.one := by cases v <;> simp [shiftV, V.one]

theorem besideM_ok [Gl] {n c k : Nat} {m1 m0 : M} (h1 : Rel S m1) (ha : Apart S m1 m0 k) (hf : ∀ id g, c ≤ g → g < c + k → ¬ m1.iss id g) :
  Rel S (besideM n c k m1 m0) ∧ Evo S m1 (besideM n c k m1 m0) := by
 have at1 : ∀ {id : Nat}, ¬ (n ≤ id ∧ (m0.h (id - n)).isSome = true) → (besideM n c k m1 m0).at_ id = m1.at_ id := fun h => by simp only [besideM]; rw [if_neg h]
 have at0 : ∀ {id : Nat} {o0 : Ob}, n ≤ id → m0.h (id - n) = some o0 → (besideM n c k m1 m0).at_ id = m0.at_ (id - n) := fun hn ho => by simp only [besideM]; rw [if_pos ⟨hn, by simp [ho]⟩]
 have lt1 : ∀ {id : Nat} {o : Ob} {b x : Nat}, m1.h id = some o → m1.at_ id = some (b, x) → b < m1.w.heap.size := fun ho hx => by
  obtain ⟨ob0, hr⟩ := (h1.obj _ _ _ _ ho hx).2.some
  exact block_lt hr
 have e : Evo S m1 (besideM n c k m1 m0) := {
  rest := ha.rest
  iss := fun id g h => .inl h
  size := ha.size
  shape := fun b cs T fz h => ⟨cs, fz, by show m0.w.heap[b]? = _; rw [ha.row b (block_lt h)]; exact h, rfl⟩
  keepS := fun b h _ => ha.row b h
  keep := fun b hb hn => ⟨fun hx => by
   rcases hx with hx | ⟨id, o, x, g1, g2, g3⟩
   ·exact hn (.inl hx)
   ·rcases beside_get g1 with ⟨q1, o0, q2, rfl⟩ | ⟨q1, q2⟩
    ·rw [at0 q1 q2] at g3
     have := ha.new _ _ _ _ q2 g3
     omega
    ·rw [at1 q1] at g3
     exact hn (.inr ⟨id, o, x, q2, g2, g3⟩), ha.row b hb⟩
  live := fun id o' ho hg => by
   rcases beside_get ho with ⟨q1, o0, q2, rfl⟩ | ⟨q1, q2⟩
   ·have := ha.rel.iss _ _ q2
    rw [ha.iss] at this
    exact absurd hg (hf _ _ (by simp [shiftO]) (by simp [shiftO]; omega))
   ·exact ⟨o', q2, rfl, at1 q1, Nat.le_refl _, rfl⟩
  old := fun id o b x ho hx hb => by
   rcases beside_get ho with ⟨q1, o0, q2, rfl⟩ | ⟨q1, q2⟩
   ·rw [at0 q1 q2] at hx
    have := ha.new _ _ _ _ q2 hx
    omega
   ·rw [at1 q1] at hx; exact ⟨o, x, q2, hx⟩ }
 refine ⟨⟨fun g => (h1.glob g).mono e, fun id o ho => ?_, fun id o ho hx => ?_, fun id o b base ho hx => ?_, fun i j oi oj b x y hi hj hx hy => ?_, fun b hb => Nat.lt_of_lt_of_le (h1.sub b hb) ha.size⟩, e⟩
 ·rcases beside_get ho with ⟨q1, o0, q2, rfl⟩ | ⟨q1, q2⟩
  ·have := ha.rel.iss _ _ q2
   rw [ha.iss] at this
   exact .inr (by simp [shiftO]; omega)
  ·exact .inl (h1.iss _ _ q2)
 ·rcases beside_get ho with ⟨q1, o0, q2, rfl⟩ | ⟨q1, q2⟩
  ·rw [at0 q1 q2] at hx
   have := ha.rel.none_ _ _ q2 hx
   simp [shiftO, this, shiftVs]
  ·rw [at1 q1] at hx; exact h1.none_ _ _ q2 hx
 ·rcases beside_get ho with ⟨q1, o0, q2, rfl⟩ | ⟨q1, q2⟩
  ·rw [at0 q1 q2] at hx
   obtain ⟨g1, gr⟩ := ha.rel.obj _ _ _ _ q2 hx
   refine ⟨fun hS => g1 (.inl hS), ?_⟩
   have gr0 := gr
   unfold RowAt at gr
   split at gr
   ·rename_i s pos hcs
    have : (shiftO n c o0).cells = [.itc s pos] := by simp [shiftO, hcs, shiftVs, shiftV]
    rw [this]; exact gr
   ·rename_i ks vs bs clock hcs
    have : (shiftO n c o0).cells = [.mpc ks (shiftVs n c vs) bs clock] := by simp [shiftO, hcs, shiftVs, shiftV]
    rw [this]
    obtain ⟨gb, es, ge, gm⟩ := gr
    refine ⟨gb, es, ge, gm.lk, by rw [shiftVs_eq]; simpa using gm.lv, gm.lb, fun j k x hk hx => (gm.key j k x hk hx).mono fun b _ hb => ⟨fun hx => hb (besideM_av hx), rfl⟩, fun j v x hv hx => ?_, gm.born⟩
    rw [shiftVs_eq, List.getElem?_map] at hv
    cases hc : vs[j]? with
    | none => simp [hc] at hv
    | some u => simp [hc] at hv; subst hv; exact (gm.val j u x hc hx).shift h1 ha hf
   ·rename_i mid mg since seen last hcs
    have : (shiftO n c o0).cells = [.itm (mid + n) (mg + c) since seen last] := by simp [shiftO, hcs, shiftVs, shiftV]
    rw [this]
    obtain ⟨gb, bm, ge, gm⟩ := gr
    exact ⟨gb, bm, ge, gm.shift h1 ha hf⟩
   obtain ⟨cs, T, fz, g2, g3, g4, g5⟩ := gr
   refine CellsAt.row ⟨cs, T, fz, g2, g3, by simpa [shiftO, shiftVs_eq] using g4, fun j v hv => ?_⟩
   simp only [shiftO, shiftVs_eq, List.getElem?_map] at hv
   cases hc : o0.cells[j]? with
   | none => simp [hc] at hv
   | some u =>
    simp [hc] at hv; subst hv
    obtain ⟨t1, z, t2, t3⟩ := g5 j u hc
    exact ⟨(shiftV_one n c u).trans t1, z, t2, t3.shift h1 ha hf⟩
  ·rw [at1 q1] at hx
   exact h1.other e q2 hx (ha.row b (lt1 q2 hx))
 ·rcases beside_get hi with ⟨p1, o0, p2, rfl⟩ | ⟨p1, p2⟩ <;> rcases beside_get hj with ⟨q1, o1, q2, rfl⟩ | ⟨q1, q2⟩
  ·rw [at0 p1 p2] at hx; rw [at0 q1 q2] at hy
   have := ha.rel.inj _ _ _ _ b x y p2 q2 hx hy
   omega
  ·rw [at0 p1 p2] at hx; rw [at1 q1] at hy
   have h3 := ha.new _ _ _ _ p2 hx
   have h4 := lt1 q2 hy
   omega
  ·rw [at1 p1] at hx; rw [at0 q1 q2] at hy
   have h3 := ha.new _ _ _ _ q2 hy
   have h4 := lt1 p2 hx
   omega
  ·rw [at1 p1] at hx; rw [at1 q1] at hy
   exact h1.inj _ _ _ _ b x y p2 q2 hx hy

/-- Memory that a callee sees that is handed data alone. -/
def bareM (w : World) : M := ⟨fun _ => none, fun _ => none, fun _ g => g < 0, w⟩

theorem bareM_av {T : Nat → Prop} {w : World} {b : Nat} : (bareM w).av T b ↔ T b := by
 constructor
 ·rintro (h | ⟨id, o, x, h1, _⟩)
  ·exact h
  ·simp [bareM] at h1
 ·exact .inl

theorem bareM_glob [Gl] {S : Nat → Prop} {m : M} (hR : Rel S m) (g : Nat) : RV (m.av S) (bareM m.w) (Gl.gv g) (.pointer (some ⟨g, 0, none⟩)) := by
 have h := hR.glob g
 rcases Gl.ok g with hg | ⟨ds, hg⟩
 ·rw [hg]; exact .any _
 ·rw [hg] at h ⊢
  cases h with
  | vref f h1 h2 =>
   refine .vref f (fun j d hd => ⟨fun hb => (h1 j d hd).1 (bareM_av.1 hb), (h1 j d hd).2⟩) fun j d hd => ?_
   exact (h2 j d hd).mono fun b _ hb => ⟨fun hx => hb (bareM_av.1 hx), rfl⟩

theorem bareM_rel [Gl] {T : Nat → Prop} {w : World} (hgl : ∀ g, RV T (bareM w) (Gl.gv g) (.pointer (some ⟨g, 0, none⟩))) (h : ∀ b, T b → b < w.heap.size) : Rel T (bareM w) :=
 ⟨hgl, fun id o h => by simp [bareM] at h, fun id o h => by simp [bareM] at h, fun id o b base h => by simp [bareM] at h, fun i j oi oj b x y h => by simp [bareM] at h, h⟩

theorem apart_of [Gl] {m1 m0 : M} {k : Nat} (h1 : Rel S m1) (h2 : Rel (m1.av S) m0) (h3 : Evo (m1.av S) (bareM m1.w) m0) (h4 : m0.iss = fun _ g => g < k) : Apart S m1 m0 k := by
 refine ⟨h2, h4, h3.size, fun b hb => ?_, fun id o b x ho hx => ?_, h3.rest⟩
 ·by_cases hS : m1.av S b
  ·exact h3.keepS b hb hS
  ·exact (h3.keep b hb (fun h => hS (bareM_av.1 h))).2
 ·rcases Nat.lt_or_ge b m1.w.heap.size with h | h
  ·obtain ⟨o0, y, g1, _⟩ := h3.old id o b x ho hx h
   simp [bareM] at g1
  ·exact h

/-- A call does what the abstract machine says. -/
theorem callR_sound [Gl] {cfg : Cfg} {call : CallF} (hc : CallOK P call) {hp : Hp} {n c : Nat} {f : FuncId} {vs : List V} {xs : List Value} {r : Res} (h : callR cfg call hp n c f vs = some r) (ht : Tops hp n)
  (hag : Agree hp.get m.h r.rd) (hall : r.all = true → m.h = hp.get ∧ m.iss = fun _ g => g < c) (hf : Fresh m c r.dc) (hR : Rel S m) (hv : RVs S m vs xs) :
  Calls P f xs.toArray m.w (fun e w' => ∃ x m', e = .returned x ∧ m'.w = w' ∧ After S m c r x m') := by
 unfold callR at h
 split at h
 ·rename_i ws ids hcl
  split at h
  ·rename_i r0 hr0
   -- the arguments, closed
   have hids : r.rd = ids := by
    split at h <;> (simp only [Option.some.injEq] at h; subst h; rfl)
   rw [hids] at hag
   have hro : roOf hp.get ids = roOf m.h ids := roOf_loc hag
   have hcl' : closeArgs m.h vs = some (ws, ids) := by
    by_cases hthr : cfg.thr f = true
    ·rw [if_pos hthr] at hcl
     exact closeVs_loc hcl fun v w a g1 g2 => closeA_noLook_any g1
    ·rw [if_neg hthr] at hcl
     exact closeVs_loc hcl fun v w a g1 g2 => closeA_loc g1 (hag.mono g2)
   obtain ⟨m1, e1, hb⟩ := ros hR ids
   have hws : RVs S m1 ws xs := closeVs_sound (fun g1 g2 g3 => closeA_sound hR g1 g2 hb g3) hcl' hv (fun i hi => hi)
   have hsh : ws.all V.shut2 = true := closeVs_shut (fun v w r h => closeA_shut h) hcl'
   have hws0 : RVs (m1.av S) (bareM m1.w) ws xs := by
    refine ⟨hws.1, fun j a b ha hb' => (hws.2 j a b ha hb').shut2 (fun x y g => ?_) (List.all_eq_true.1 hsh a (List.mem_of_getElem? ha))⟩
    exact g.mono fun b _ hn => ⟨fun hx => hn (bareM_av.1 hx), rfl⟩
   have hcall := hc.ok hr0 (fun _ _ => rfl) (S := m1.av S) (m := bareM m1.w) rfl rfl (bareM_rel (bareM_glob hb.rel) fun b hb' => hb.rel.av_lt hb') hws0
   rw [show (bareM m1.w).w = m.w from hb.w] at hcall
   refine Calls.mono hcall ?_
   rintro e w' ⟨x, m0, rfl, rfl, k1, k2, k3, k4, k5⟩
   have ha := apart_of hb.rel k1 k2 k5
   split at h
   ·rename_i q hq
    simp only [Option.some.injEq] at h; subst h
    cases hfl : r0.v.flat with
    | true =>
     obtain ⟨g1, g2⟩ := hR.grown (w' := m0.w) (by rw [← hb.w]; exact ha.size) (fun b hb' => by rw [← hb.w] at hb' ⊢; exact ha.row b hb') (by rw [← hb.w]; exact ha.rest)
     exact ⟨x, { m with w := m0.w }, rfl, rfl, g1, g2, k3.flat hfl, by simp [hfl, hupd], (iss_zero m c).symm⟩
    | false =>
     obtain ⟨g1, g2⟩ := hb.rel.grown ha.size ha.row ha.rest
     refine ⟨x, { m1 with w := m0.w }, rfl, rfl, g1, hb.evo.trans g2, k3.shut (fun x y g => ?_) (closeT_noLook hq), ?_, ?_⟩
     ·exact g.mono fun b _ hn => ⟨fun hx => hn (.inl hx), rfl⟩
     ·simp only [hfl]; rw [hro]; exact e1
     ·simp only [hb.iss]; exact (iss_zero m c).symm
   ·simp only [Option.some.injEq] at h; subst h
    have hf1 : ∀ id g, c ≤ g → g < c + r0.c → ¬ m1.iss id g := fun id g q1 q2 => by rw [hb.iss]; exact hf id g q1 q2
    obtain ⟨g1, g2⟩ := besideM_ok (n := n) hb.rel ha hf1
    refine ⟨x, besideM n c r0.c m1 m0, rfl, rfl, g1, hb.evo.trans g2, k3.shift hb.rel ha hf1, ?_, ?_⟩
    ·show beside n c m0.h m1.h = _
     rw [hupd_append, hro, ← e1, hupd_shiftH (hc.log hr0 (fun _ _ => rfl)).top, k4]
    ·show (fun id g => m1.iss id g ∨ _) = _
     rw [hb.iss]
  ·simp at h
 ·rename_i hcl
  split at h
  ·rename_i r0 hr0
   simp only [Option.some.injEq] at h; subst h
   obtain ⟨hh, hi⟩ := hall rfl
   obtain ⟨l1, l2, l3, l4, l5⟩ := hc.log hr0 ht
   refine Calls.mono (hc.ok hr0 ht hh hi hR hv) ?_
   rintro e w' ⟨x, m', rfl, rfl, k1, k2, k3, k4, k5⟩
   refine ⟨x, m', rfl, rfl, k1, k2, k3, ?_, ?_⟩
   ·rw [k4]
    funext id
    rw [hupd_wrOf, hh]
    by_cases hm : id ∈ r0.wl ++ (List.range (r0.n - n)).map (n + ·)
    ·cases hg : r0.hp.get id with
     | some o => simp [hm]
     | none =>
      simp
      rcases Nat.lt_or_ge id n with hlt | hge
      ·exact (l5 id hlt hg).symm
      ·exact (ht id hge).symm
    ·rw [if_neg (fun h => hm h.1)]
     simp only [List.mem_append, List.mem_map, List.mem_range, not_or, not_exists, not_and] at hm
     rcases Nat.lt_or_ge id n with hlt | hge
     ·exact l4 id hlt hm.1
     ·rw [ht id hge]
      refine l3 id ?_
      rcases Nat.lt_or_ge id r0.n with h1 | h1
      ·exact absurd (show n + (id - n) = id by omega) (hm.2 (id - n) (by omega))
      ·exact h1
   ·rw [k5, hi]
    funext id g
    apply propext
    show g < r0.c ↔ g < c ∨ (c ≤ g ∧ g < c + (r0.c - c))
    omega
  ·simp at h

end

end Go.Ac
end
