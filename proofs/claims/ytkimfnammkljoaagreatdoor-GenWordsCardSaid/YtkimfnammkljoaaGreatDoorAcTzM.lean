/- The machine for closed calls, with a table of calls that are known. No conditions. -/
import Derived.Test.YtkimfnammkljoaaGreatDoorAcMlM
set_option linter.unusedVariables false
set_option linter.unusedSimpArgs false
section
namespace Go.Ac
variable {P : Program} {cfg : Cfg}

/-! ### Equality of values, as a Bool -/
theorem nbt {a b : Nat} : (Nat.beq a b = true) = (a = b) := propext ⟨Nat.eq_of_beq_eq_true, fun h => by rw [h]; exact Nat.beq_refl b⟩
def beqC : Value → Value → Bool
 | .pointer none, .pointer none => true
 | .map none, .map none => true
 | .nilFunc, .nilFunc => true
 | .nilIface, .nilIface => true
 | _, _ => false
theorem beqC_ok {a b : Value} (h : beqC a b = true) : a = b := by
 unfold beqC at h
 split at h <;> first | rfl | cases h
mutual
def beqD : D → D → Bool
 | .bool a, .bool b => a == b
 | .int k m, .int k2 n => decide (k = k2) && decide (m = n)
 | .str a, .str b => decide (a = b)
 | .slice a, .slice b => beqDss a b
 | .sym a, .sym b => Nat.beq a b
 | _, _ => false
def beqDs : List D → List D → Bool
 | [], [] => true
 | a :: r, b :: s => beqD a b && beqDs r s
 | _, _ => false
def beqDss : List (List D) → List (List D) → Bool
 | [], [] => true
 | a :: r, b :: s => beqDs a b && beqDss r s
 | _, _ => false
end
mutual
theorem beqD_ok : ∀ (a b : D), beqD a b = true → a = b
 | .bool a, .bool b, h => by simp only [beqD, beq_iff_eq] at h; rw [h]
 | .int k m, .int k2 n, h => by simp only [beqD, Bool.and_eq_true, decide_eq_true_eq] at h; rw [h.1, h.2]
 | .str a, .str b, h => by simp only [beqD, decide_eq_true_eq] at h; rw [h]
 | .slice a, .slice b, h => by simp only [beqD] at h; rw [beqDss_ok a b h]
 | .sym a, .sym b, h => by rw [Nat.eq_of_beq_eq_true (show Nat.beq a b = true from h)]
 | .bool _, .int .., h | .bool _, .str _, h | .bool _, .slice _, h | .bool _, .sym _, h => by simp [beqD] at h
 | .int .., .bool .., h | .int .., .str _, h | .int .., .slice _, h | .int .., .sym _, h => by simp [beqD] at h
 | .str .., .bool .., h | .str .., .int .., h | .str .., .slice _, h | .str _, .sym _, h => by simp [beqD] at h
 | .slice .., .bool .., h | .slice .., .int .., h | .slice .., .str _, h | .slice _, .sym _, h => by simp [beqD] at h
 | .sym _, .bool _, h | .sym _, .int .., h | .sym _, .str _, h | .sym _, .slice _, h => by simp [beqD] at h
theorem beqDs_ok : ∀ (a b : List D), beqDs a b = true → a = b
 | [], [], _ => rfl
 | a :: r, b :: s, h => by simp only [beqDs, Bool.and_eq_true] at h; rw [beqD_ok a b h.1, beqDs_ok r s h.2]
 | [], _ :: _, h | _ :: _, [], h => by simp [beqDs] at h
theorem beqDss_ok : ∀ (a b : List (List D)), beqDss a b = true → a = b
 | [], [], _ => rfl
 | a :: r, b :: s, h => by simp only [beqDss, Bool.and_eq_true] at h; rw [beqDs_ok a b h.1, beqDss_ok r s h.2]
 | [], _ :: _, h | _ :: _, [], h => by simp [beqDss] at h
end
mutual
def beqV : V → V → Bool
 | .any, .any => true
 | .undef, .undef => true
 | .d a, .d b => beqD a b
 | .con a, .con b => beqC a b
 | .full a, .full b => beqDss a b
 | .agg a, .agg b => beqVs a b
 | .ptr a b c, .ptr a2 b2 c2 => Nat.beq a a2 && Nat.beq b b2 && Nat.beq c c2
 | .osl a b c d e f, .osl a2 b2 c2 d2 e2 f2 => Nat.beq a a2 && Nat.beq b b2 && Nat.beq c c2 && Nat.beq d d2 && Nat.beq e e2 && decide (f = f2)
 | .vref a, .vref b => beqDs a b
 | .fn f a, .fn g b => Nat.beq f g && beqVs a b
 | .tuple a, .tuple b => beqVs a b
 | .it a b, .it a2 b2 => Nat.beq a a2 && Nat.beq b b2
 | .mp a b, .mp a2 b2 => Nat.beq a a2 && Nat.beq b b2
 | .itc a b, .itc a2 b2 => decide (a = a2) && Nat.beq b b2
 | .mpc a b c d, .mpc a2 b2 c2 d2 => beqDs a a2 && beqVs b b2 && decide (c = c2) && Nat.beq d d2
 | .ifc t a, .ifc u b => Nat.beq t u && beqV a b
 | .mv f a, .mv g b => Nat.beq f g && beqV a b
 | .yd a b, .yd a2 b2 => Nat.beq a a2 && Nat.beq b b2
 | .mpa a b d, .mpa a2 b2 d2 => beqDss a a2 && beqVs b b2 && Nat.beq d d2
 | .mpq a b d, .mpq a2 b2 d2 => beqDs a a2 && beqVs b b2 && Nat.beq d d2
 | .itm a b c d e, .itm a2 b2 c2 d2 e2 => Nat.beq a a2 && Nat.beq b b2 && Nat.beq c c2 && decide (d = d2) && Nat.beq e e2
 | _, _ => false
def beqVs : List V → List V → Bool
 | [], [] => true
 | a :: r, b :: s => beqV a b && beqVs r s
 | _, _ => false
end
mutual
theorem beqV_ok : ∀ (a b : V), beqV a b = true → a = b
 | a, b, h => by
  cases a <;> cases b <;> simp only [beqV, Bool.and_eq_true, decide_eq_true_eq, nbt, Bool.false_eq_true] at h <;> first
   | rfl
   | (rw [beqD_ok _ _ h]; done)
   | (rw [beqC_ok h]; done)
   | (rw [beqDss_ok _ _ h]; done)
   | (rw [beqDs_ok _ _ h]; done)
   | (rw [beqVs_ok _ _ h]; done)
   | (obtain ⟨⟨⟨h1, h2⟩, h3⟩, h4⟩ := h; rw [beqDs_ok _ _ h1, beqVs_ok _ _ h2, h3, h4]; done)
   | (obtain ⟨h1, h2⟩ := h; rw [beqVs_ok _ _ h2, h1]; done)
   | (obtain ⟨h1, h2⟩ := h; rw [beqV_ok _ _ h2, h1]; done)
   | (obtain ⟨⟨h1, h2⟩, h3⟩ := h; rw [beqDss_ok _ _ h1, beqVs_ok _ _ h2, h3]; done)
   | (obtain ⟨⟨h1, h2⟩, h3⟩ := h; rw [beqDs_ok _ _ h1, beqVs_ok _ _ h2, h3]; done)
   | (simp only [h]; done)
theorem beqVs_ok : ∀ (a b : List V), beqVs a b = true → a = b
 | [], [], _ => rfl
 | a :: r, b :: s, h => by simp only [beqVs, Bool.and_eq_true] at h; rw [beqV_ok a b h.1, beqVs_ok r s h.2]
 | [], _ :: _, h | _ :: _, [], h => by simp [beqVs] at h
end
mutual
theorem beqD_refl : ∀ a : D, beqD a a = true
 | .bool a => by simp [beqD]
 | .int k n => by simp [beqD]
 | .str a => by simp [beqD]
 | .slice a => by simp only [beqD]; exact beqDss_refl a
 | .sym k => Nat.beq_refl k
theorem beqDs_refl : ∀ a : List D, beqDs a a = true
 | [] => rfl
 | a :: r => by simp only [beqDs, beqD_refl a, beqDs_refl r, Bool.and_self]
theorem beqDss_refl : ∀ a : List (List D), beqDss a a = true
 | [] => rfl
 | a :: r => by simp only [beqDss, beqDs_refl a, beqDss_refl r, Bool.and_self]
end
def apartB : List D → Bool
 | [] => true
 | a :: r => r.all (fun b => match keyEq a b with | some false => true | _ => false) && apartB r
theorem apartB_ok : ∀ {l : List D}, apartB l = true → l.Pairwise fun a b => keyEq a b = some false
 | [], _ => .nil
 | a :: r, h => by
  simp only [apartB, Bool.and_eq_true, List.all_eq_true] at h
  refine .cons (fun b hb => ?_) (apartB_ok h.2)
  have := h.1 b hb
  split at this
  ·rename_i h9; exact h9
  ·cases this
def eraseP (a : D × V) : List (D × V) → Option (List (D × V))
 | [] => none
 | b :: r => match beqD a.1 b.1 && beqV a.2 b.2 with
  | true => some r
  | false => match eraseP a r with
   | some q => some (b :: q)
   | none => none
theorem eraseP_ok {a : D × V} : ∀ {l r : List (D × V)}, eraseP a l = some r → l.Perm (a :: r)
 | [], r, h => by cases h
 | b :: l, r, h => by
  simp only [eraseP] at h
  split at h
  ·rename_i hb
   simp only [Option.some.injEq] at h; subst h
   simp only [Bool.and_eq_true] at hb
   obtain ⟨a1, a2⟩ := a; obtain ⟨b1, b2⟩ := b
   obtain rfl : a1 = b1 := beqD_ok _ _ hb.1
   obtain rfl : a2 = b2 := beqV_ok _ _ hb.2
   exact .refl _
  ·split at h
   ·rename_i q hq
    simp only [Option.some.injEq] at h; subst h
    exact ((eraseP_ok hq).cons b).trans (List.Perm.swap ..)
   ·cases h
def permB : List (D × V) → List (D × V) → Bool
 | [], l => l.isEmpty
 | a :: r, l => match eraseP a l with
  | some q => permB r q
  | none => false
theorem permB_ok : ∀ {l l' : List (D × V)}, permB l l' = true → l'.Perm l
 | [], l', h => by
  simp only [permB, List.isEmpty_iff] at h
  subst h; exact .refl _
 | a :: r, l', h => by
  simp only [permB] at h
  split at h
  ·rename_i q hq
   exact (eraseP_ok hq).trans ((permB_ok h).cons a)
  ·cases h
def qpB (ks : List D) (vs : List V) (ks' : List D) (vs' : List V) : Bool := Nat.beq ks.length vs.length && Nat.beq ks'.length vs'.length && apartB ks && permB (ks.zip vs) (ks'.zip vs')
theorem qpB_ok {ks ks' : List D} {vs vs' : List V} (h : qpB ks vs ks' vs' = true) : QP ks vs ks' vs' := by
 simp only [qpB, Bool.and_eq_true, nbt] at h
 exact ⟨permB_ok h.2, h.1.1.1, h.1.1.2, apartB_ok h.1.2⟩
def beqO (a b : Ob) : Bool := Nat.beq a.gen b.gen && (a.ro == b.ro) && beqVs a.cells b.cells
theorem beqO_ok {a b : Ob} (h : beqO a b = true) : a = b := by
 obtain ⟨g, r, c⟩ := a; obtain ⟨g2, r2, c2⟩ := b
 simp only [beqO, Bool.and_eq_true, beq_iff_eq, nbt] at h
 rw [h.1.1, h.1.2, beqVs_ok _ _ h.2]

/-- Does the second object say no more than the first? -/
def leO (b a : Ob) : Bool := beqO b a || (match b.cells, a.cells with
 | [.mpc ks vs _ c], [.mpq ks2 vs2 c2] => Nat.beq c c2 && Nat.beq b.gen a.gen && (b.ro == a.ro) && qpB ks2 vs2 ks vs
 | _, _ => false)
theorem leO_ok {b a : Ob} (h : leO b a = true) : ObLe b a := by
 simp only [leO, Bool.or_eq_true] at h
 rcases h with h | h
 ·exact .inl (beqO_ok h)
 ·split at h
  ·rename_i ks vs bs c ks2 vs2 c2 hb ha
   simp only [Bool.and_eq_true, nbt, beq_iff_eq] at h
   obtain ⟨⟨⟨rfl, h2⟩, h3⟩, h4⟩ := h
   refine .inr ⟨ks, vs, bs, c, ks2, vs2, hb, ?_, qpB_ok h4⟩
   obtain ⟨g, r, cl⟩ := a
   obtain ⟨g2, r2, cl2⟩ := b
   simp only at ha h2 h3
   subst h2; subst h3; subst ha
   rfl
  ·cases h

/-! ### All orders -/
def perms : Nat → List Nat → List (List Nat)
 | 0, _ => [[]]
 | m + 1, l => l.flatMap fun x => (perms m (l.erase x)).map (x :: ·)
theorem perms_mem : ∀ (m : Nat) (l p : List Nat), l.length = m → p.Perm l → p ∈ perms m l
 | 0, l, p, hm, hp => by
  obtain rfl := List.length_eq_zero_iff.1 hm
  rw [List.perm_nil.1 hp]; exact List.mem_singleton.2 rfl
 | m + 1, l, [], hm, hp => by have := hp.length_eq; simp at this; omega
 | m + 1, l, x :: p, hm, hp => by
  have hx : x ∈ l := hp.subset (List.mem_cons_self ..)
  refine List.mem_flatMap.2 ⟨x, hx, List.mem_map.2 ⟨p, perms_mem m _ p (by rw [List.length_erase_of_mem hx]; omega) ?_, rfl⟩⟩
  exact (hp.trans (List.perm_cons_erase hx)).cons_inv

/-! ### What is kept -/
def leE (x y : Env) : Bool := x.all fun p => match x.get p.1 with
 | .any => true
 | v => beqV (y.get p.1) v
def leH (x y : Hp) : Bool := x.all fun p => match x.get p.1, y.get p.1 with
 | some a, some b => leO b a
 | none, _ => true
 | _, none => false
def leN (n0 : Nat) (x y : Hp) : Bool := (List.range n0).all fun i => match x.get i, y.get i with
 | some a, some b => beqO a b
 | none, none => true
 | _, _ => false
def leS (y x : St) : Bool := leE x.env y.env && leH x.hp y.hp && leN y.n0 x.hp y.hp && Nat.beq y.n0 x.n0 && Nat.ble y.c x.c && y.wl.all fun i => x.wl.any (Nat.beq i)
theorem env_mem {t : Nat} : ∀ (e : Env), e.get t ≠ .any → ∃ p, p ∈ e ∧ p.1 = t
 | [], h => by simp [Env.get] at h
 | (k, v) :: r, h => by
  by_cases hk : k = t
  ·exact ⟨_, List.mem_cons_self .., hk⟩
  ·simp only [Env.get, beq_ff hk] at h
   obtain ⟨p, hp, he⟩ := env_mem r h
   exact ⟨p, List.mem_cons_of_mem _ hp, he⟩
theorem hp_mem {t : Nat} {o : Ob} : ∀ (e : Hp), e.get t = some o → ∃ p, p ∈ e ∧ p.1 = t
 | [], h => by simp [Hp.get] at h
 | (k, v) :: r, h => by
  by_cases hk : k = t
  ·exact ⟨_, List.mem_cons_self .., hk⟩
  ·simp only [Hp.get, beq_ff hk] at h
   obtain ⟨p, hp, he⟩ := hp_mem r h
   exact ⟨p, List.mem_cons_of_mem _ hp, he⟩
theorem leS_ok {y x : St} (h : leS y x = true) (hn : x.n0 ≤ x.n) (ht : ∀ id, x.n ≤ id → x.hp.get id = none) : LeSt y x := by
 simp only [leS, Bool.and_eq_true] at h
 obtain ⟨⟨⟨⟨⟨h1, h2⟩, h3⟩, h4⟩, h5⟩, h6⟩ := h
 refine ⟨fun t => ?_, fun id hid => ?_, fun id o ho => ?_, ht, hn, Nat.eq_of_beq_eq_true h4, Nat.le_of_ble_eq_true h5, fun i hi => ?_⟩
 ·cases Classical.em (x.env.get t = .any) with
  | inl h => exact .inr h
  | inr hne =>
   obtain ⟨p, hp, rfl⟩ := env_mem _ hne
   have := List.all_eq_true.1 h1 p hp
   split at this
   ·rename_i ha; exact absurd ha hne
   ·exact .inl (beqV_ok _ _ this).symm
 ·have := List.all_eq_true.1 h3 id (List.mem_range.2 hid)
  split at this
  ·rename_i ha hb; rw [ha, hb, beqO_ok this]
  ·rename_i ha hb; rw [ha, hb]
  ·cases this
 ·obtain ⟨p, hp, rfl⟩ := hp_mem _ ho
  have := List.all_eq_true.1 h2 p hp
  rw [ho] at this
  split at this
  ·rename_i a b ha hb
   cases ha
   exact ⟨b, hb, leO_ok this⟩
  ·rename_i ha; cases ha
  ·cases this
 ·have := List.all_eq_true.1 h6 i hi
  obtain ⟨j, hj, he⟩ := List.any_eq_true.1 this
  rw [Nat.eq_of_beq_eq_true he]; exact hj

/-! ### The run -/
def roundsM (f : List Nat → Option (Ex × St)) (i : Nat) : List (List Nat) → Option (List St)
 | [] => some []
 | p :: ps => match f p with
  | some (.exit j, y) => match Nat.beq j i with
   | true => match roundsM f i ps with
    | some l => some (y :: l)
    | none => none
   | false => none
  | _ => none
def maxC : List St → Nat
 | [] => 0
 | y :: r => max y.c (maxC r)
theorem maxC_le {B : Nat} : ∀ {l : List St}, (∀ y, y ∈ l → y.c ≤ B) → maxC l ≤ B
 | [], _ => Nat.zero_le _
 | y :: r, h => by
  have h1 := h y (List.mem_cons_self ..)
  have h2 := maxC_le (l := r) fun z hz => h z (List.mem_cons_of_mem _ hz)
  unfold maxC; omega
theorem roundsM_at {f : List Nat → Option (Ex × St)} {i : Nat} : ∀ {ps : List (List Nat)} {ys : List St}, roundsM f i ps = some ys → (∀ p, p ∈ ps → ∃ y, f p = some (.exit i, y) ∧ y ∈ ys) ∧ ∀ y, y ∈ ys → ∃ p, p ∈ ps ∧ f p = some (.exit i, y)
 | [], ys, h => by simp only [roundsM, Option.some.injEq] at h; subst h; exact jn (fun p hp => absurd hp List.not_mem_nil) (fun y hy => absurd hy List.not_mem_nil)
 | p :: ps, ys, h => by
  simp only [roundsM] at h
  split at h
  ·rename_i j y hf
   split at h
   ·rename_i hj
    have := Nat.eq_of_beq_eq_true hj
    subst this
    split at h
    ·rename_i l hl
     simp only [Option.some.injEq] at h
     subst h
     obtain ⟨h1, h2⟩ := roundsM_at hl
     refine ⟨fun q hq => ?_, fun z hz => ?_⟩
     ·rcases List.mem_cons.1 hq with rfl | hq
      ·exact ⟨y, hf, List.mem_cons_self ..⟩
      ·obtain ⟨z, hz, hm⟩ := h1 q hq
       exact ⟨z, hz, List.mem_cons_of_mem _ hm⟩
     ·rcases List.mem_cons.1 hz with rfl | hz
      ·exact ⟨p, List.mem_cons_self .., hf⟩
      ·obtain ⟨q, hq, he⟩ := h2 z hz
       exact ⟨q, List.mem_cons_of_mem _ hq, he⟩
    ·cases h
   ·cases h
  ·cases h
/-- Do all states hold the same object there? -/
def sameO (ys : List St) (k : Nat) (o : Option Ob) : Bool := ys.all fun y => match y.hp.get k, o with
 | some a, some b => beqO a b
 | none, none => true
 | _, _ => false
/-- Does some state hold another map there? -/
def diffO (ys : List St) (k : Nat) (o : Option Ob) : Bool := ys.any fun y => match y.hp.get k, o with
 | some a, some b => match a.cells, b.cells with
  | [.mpc ks _ _ _], [.mpc ks2 _ _ _] => !(beqDs ks ks2)
  | _, _ => false
 | _, _ => false
def looseH (ys : List St) (h0 : Hp) : Hp → Option Hp
 | [] => some []
 | (k, o) :: r => match looseH ys h0 r with
  | some q => match sameO ys k (h0.get k) with
   | true => some ((k, o) :: q)
   | false => match diffO ys k (h0.get k) with
    | true => some ((k, loosen o) :: q)
    | false => none
  | none => none
theorem sameO_ok {ys : List St} {k : Nat} {o : Option Ob} (h : sameO ys k o = true) {y : St} (hy : y ∈ ys) : y.hp.get k = o := by
 have := List.all_eq_true.1 h y hy
 cases hg : y.hp.get k with
 | none => cases o with
  | none => rfl
  | some b => rw [hg] at this; cases this
 | some a => cases o with
  | none => rw [hg] at this; cases this
  | some b => rw [hg] at this; rw [beqO_ok this]
theorem diffO_ok {ys : List St} {k : Nat} {o : Option Ob} (h : diffO ys k o = true) : ∃ y, y ∈ ys ∧ y.hp.get k ≠ o := by
 obtain ⟨y, hy, h⟩ := List.any_eq_true.1 h
 refine ⟨y, hy, fun he => ?_⟩
 rw [he] at h
 cases o with
 | none => cases h
 | some o =>
  simp only at h
  split at h
  ·rename_i h1 h2
   rw [h1] at h2
   simp only [List.cons.injEq, V.mpc.injEq, and_true] at h2
   rw [h2.1, beqDs_refl] at h
   cases h
  ·cases h
theorem looseH_ok {F : List Nat → Option (Ex × St)} {l : List Nat} {e : Ex} {s : St} {ys : List St} (h1 : ∀ q : List Nat, q.isPerm l = true → ∀ y, F q = some (e, y) → y ∈ ys) (h2 : ∀ y, y ∈ ys → ∃ q : List Nat, q.isPerm l = true ∧ F q = some (e, y)) :
  ∀ {h h' : Hp}, looseH ys s.hp h = some h' → agreeH F l e s h = h'
 | [], h', h => by simp only [looseH, Option.some.injEq] at h; subst h; rfl
 | (k, o) :: r, h', h => by
  simp only [looseH] at h
  split at h
  ·rename_i q hq
   have ih := looseH_ok h1 h2 hq
   have hc : agreeH F l e s ((k, o) :: r) = (@ite _ (∀ q : List Nat, q.isPerm l = true → ∀ y, F q = some (e, y) → y.hp.get k = s.hp.get k) (Classical.propDecidable _) (k, o) (k, loosen o)) :: agreeH F l e s r := rfl
   rw [hc, ih]
   split at h
   ·rename_i hs
    simp only [Option.some.injEq] at h; subst h
    rw [if_pos fun p hp y hy => sameO_ok hs (h1 p hp y hy)]
   ·split at h
    ·rename_i hd
     simp only [Option.some.injEq] at h; subst h
     rw [if_neg]
     intro hall
     obtain ⟨y, hy, hne⟩ := diffO_ok hd
     obtain ⟨p, hp, he⟩ := h2 y hy
     exact hne (hall p hp y he)
    ·cases h
  ·cases h
theorem looseH_none {ys : List St} {h0 : Hp} {t : Nat} : ∀ {h h' : Hp}, looseH ys h0 h = some h' → h.get t = none → h'.get t = none
 | [], h', h, _ => by simp only [looseH, Option.some.injEq] at h; subst h; rfl
 | (k, o) :: r, h', h, hn => by
  have hk : ¬ k = t := by
   rintro rfl
   simp only [Hp.get, Nat.beq_refl] at hn; cases hn
  simp only [Hp.get] at hn
  rw [beq_ff hk] at hn
  simp only [looseH] at h
  split at h
  ·rename_i q hq
   have ih := looseH_none hq hn
   split at h
   ·simp only [Option.some.injEq] at h; subst h
    simp only [Hp.get]; rw [beq_ff hk]; exact ih
   ·split at h
    ·simp only [Option.some.injEq] at h; subst h
     simp only [Hp.get]; rw [beq_ff hk]; exact ih
    ·cases h
  ·cases h
def mapM (f : List Nat → Option (Ex × St)) (s0 : St) (it : Nat) (l : List Nat) : Option (Ex × St) :=
 match f l with
 | some (.exit i, s) => match roundsM f i (perms l.length l) with
  | some ys => match looseH ys s.hp (Hp.drop it (Hp.trunc s0.n s.hp)) with
   | some h => match ys.all (fun y => leS y { env := s0.env, hp := h, n := s0.n, c := maxC ys, n0 := s.n0, wl := s.wl }) && Nat.ble s.n0 s0.n with
    | true => some (.exit i, { env := s0.env, hp := h, n := s0.n, c := maxC ys, n0 := s.n0, wl := s.wl })
    | false => none
   | none => none
  | none => none
 | _ => none
theorem mapM_ok {f : List Nat → Option (Ex × St)} {s0 : St} {it : Nat} {l : List Nat} {e : Ex} {x : St} (h : mapM f s0 it l = some (e, x)) (F : List Nat → Option (Ex × St)) (hF : ∀ p r, p.Perm l → f p = some r → F p = some r) : allOrd s0 it F l = some (e, x) := by
 unfold mapM at h
 split at h
 ·rename_i i s hfl
  split at h
  ·rename_i ys hys
   split at h
   rotate_left
   ·cases h
   rename_i hh hloose
   split at h
   ·rename_i hc
    simp only [Option.some.injEq, Prod.mk.injEq] at h
    obtain ⟨rfl, hx⟩ := h
    simp only [Bool.and_eq_true] at hc
    obtain ⟨hc1, hc2⟩ := hc
    rw [hx] at hc1
    obtain ⟨h1, h2⟩ := roundsM_at hys
    have hperm : ∀ (m : Nat) (l p : List Nat), l.length = m → p ∈ perms m l → p.Perm l := by
     intro m
     induction m with
     | zero => intro l p hl hp; obtain rfl := List.length_eq_zero_iff.1 hl; rw [List.mem_singleton.1 hp]
     | succ m ih =>
      intro l p hl hp
      obtain ⟨a, ha, hq⟩ := List.mem_flatMap.1 hp
      obtain ⟨q, hq2, rfl⟩ := List.mem_map.1 hq
      exact ((ih _ q (by rw [List.length_erase_of_mem ha]; omega) hq2).cons a).trans (List.perm_cons_erase ha).symm
    have hagree : agreeH F l (.exit i) s (Hp.drop it (Hp.trunc s0.n s.hp)) = hh := looseH_ok (fun q hq y hy => by
     have hq := List.isPerm_iff.1 hq
     obtain ⟨y', hy', hm⟩ := h1 q (perms_mem _ _ _ rfl hq)
     have := hF q _ hq hy'
     rw [hy] at this
     simp only [Option.some.injEq, Prod.mk.injEq, true_and] at this
     rw [this]; exact hm) (fun y hy => by
     obtain ⟨p, hp, he⟩ := h2 y hy
     have hpl := hperm _ _ _ rfl hp
     exact ⟨p, List.isPerm_iff.2 hpl, hF p _ hpl he⟩) hloose
    have hxo : ∀ C, ordSt s0 it F l (.exit i) s C = { x with c := C } := fun C => by rw [← hx]; unfold ordSt; rw [hagree]
    have hl : ∀ y, y ∈ ys → LeSt y x := fun y hy => leS_ok (List.all_eq_true.1 hc1 y hy) (by rw [← hx]; exact Nat.le_of_ble_eq_true hc2) (fun id hid => by
     rw [← hx] at hid ⊢
     have hid' : s0.n ≤ id := hid
     refine looseH_none hloose ?_
     rw [drop_get, trunc_get]
     split
     ·rfl
     ·rw [if_neg (by omega)])
    have hb : bndOrd F l (.exit i) (ordSt s0 it F l (.exit i) s x.c) := by
     rw [hxo]
     intro p hp
     have hp := List.isPerm_iff.1 hp
     obtain ⟨y, hy, hm⟩ := h1 p (perms_mem _ _ _ rfl hp)
     exact ⟨y, hF p _ hp hy, hl y hm⟩
    have hex : ∃ C, bndOrd F l (.exit i) (ordSt s0 it F l (.exit i) s C) := ⟨_, hb⟩
    have hleast : least hex = x.c := by
     refine Nat.le_antisymm (least_le hex hb) ?_
     have hs := least_spec hex
     rw [hxo] at hs
     have : x.c = maxC ys := by rw [← hx]
     rw [this]
     refine maxC_le fun y hy => ?_
     obtain ⟨p, hp, he⟩ := h2 y hy
     have hpl := hperm _ _ _ rfl hp
     obtain ⟨z, hz, hle⟩ := hs p (List.isPerm_iff.2 hpl)
     rw [hF p _ hpl he] at hz
     simp only [Option.some.injEq, Prod.mk.injEq, true_and] at hz
     subst hz
     exact hle.c
    unfold allOrd
    rw [hF l _ (List.Perm.refl l) hfl]
    simp only
    rw [dif_pos hex, hleast, hxo]
   ·cases h
  ·cases h
 ·cases h

def regM [Gl] (P : Program) (cfg : Cfg) (call : CallF) (fid rid : Nat) (ops : Array Oper) (s : St) : Option St :=
 match runT P cfg call fid rid ops.toList ops.toList s with
 | some (t, _) => some (keepSt (mats t (cfg.mat fid rid)) (cfg.keep fid rid))
 | none => none
/-- The rounds of one order come to an end. -/
theorem runOrd_ev {regT : St → Option St} {runT' : St → Option (Ex × St)} {reg : Nat → St → Option St} {run : Nat → St → Option (Ex × St)}
  (hreg : ∀ s u, regT s = some u → ∃ K, ∀ k, K ≤ k → reg k s = some u) (hrun : ∀ s r, runT' s = some r → ∃ K, ∀ k, K ≤ k → run k s = some r) {own : Bool} {t d : Nat} :
  ∀ (p : List Nat) (s : St) (r : Ex × St), runOrd regT runT' own t d p s = some r → ∃ K, ∀ k, K ≤ k → runOrd (reg k) (run k) own t d p s = some r := by
 have round : ∀ s r, roundR regT runT' s = some r → ∃ K, ∀ k, K ≤ k → roundR (reg k) (run k) s = some r := by
  intro s r h
  unfold roundR at h
  split at h
  ·rename_i u hu
   obtain ⟨K, hK⟩ := hreg s u hu
   obtain ⟨L, hL⟩ := hrun u r h
   refine ⟨max K L, fun k hk => ?_⟩
   unfold roundR
   rw [hK k (by omega)]
   exact hL k (by omega)
  ·cases h
 intro p
 induction p with
 | nil =>
  intro s r h
  simp only [runOrd] at h
  split at h
  ·rename_i I hI
   split at h
   ·rename_i ht
    split at h
    ·cases h
    ·rename_i q hq
     obtain ⟨K, hK⟩ := round _ _ h
     refine ⟨K, fun k hk => ?_⟩
     simp only [runOrd, hI, ht, hK k hk]
     obtain ⟨e, u⟩ := r
     cases e with
     | normal => exact absurd h (by intro hh; exact hq _ hh)
     | exit i => rfl
     | ret => rfl
   ·cases h
  ·cases h
 | cons b l ih =>
  intro s r h
  simp only [runOrd] at h
  split at h
  ·rename_i I hI
   split at h
   ·rename_i q hp hq
    split at h
    ·rename_i u hu
     obtain ⟨K, hK⟩ := round _ _ hu
     obtain ⟨L, hL⟩ := ih _ _ h
     refine ⟨max K L, fun k hk => ?_⟩
     simp only [runOrd, hI, hp, hq, hK k (by omega)]
     exact hL k (by omega)
    ·rename_i hnn
     obtain ⟨K, hK⟩ := round _ _ h
     refine ⟨K, fun k hk => ?_⟩
     simp only [runOrd, hI, hp, hq, hK k hk]
     obtain ⟨e, u⟩ := r
     cases e with
     | normal => exact absurd h (by intro hh; exact hnn _ hh)
     | exit i => rfl
     | ret => rfl
   ·cases h
  ·cases h
theorem uniform1 {α : Type} {Pr : α → Nat → Prop} (hm : ∀ x K K', K ≤ K' → Pr x K → Pr x K') (l : List α) (h : ∀ x, x ∈ l → ∃ K, Pr x K) : ∃ K, ∀ x, x ∈ l → Pr x K := by
 obtain ⟨K, _, hK⟩ := uniform (Pr := fun x K _ => Pr x K) (fun x K K' _ _ h _ hp => hm x K K' h hp) l fun x hx => by obtain ⟨K, hK⟩ := h x hx; exact ⟨K, 0, hK⟩
 exact ⟨K, hK⟩
theorem region_runs [Gl] {fid id : Nat} {ops : Array Oper} {s t : St} (h : Runs P cfg fid (.region id ops false) s .normal t) : ∃ K, ∀ k, K ≤ k → runRegion P cfg (callBy P cfg (execF P cfg k)) fid id ops false s = some t := by
 obtain ⟨K, hK⟩ := h
 refine ⟨K, fun k hk => ?_⟩
 have := hK (k + 1) (by omega)
 simp only [execF, Option.map_eq_some_iff] at this
 obtain ⟨x, hx, he⟩ := this
 simp only [Prod.mk.injEq, true_and] at he
 rw [← he]; exact hx
end Go.Ac
end

section
namespace Go.Ac
variable {P : Program} {cfg : Cfg}

/-- Calls that are known: what they come to. -/
abbrev Tab := FuncId → List V → Option CR
def TabOK [Gl] (P : Program) (cfg : Cfg) (T : Tab) : Prop := ∀ f vs r, T f vs = some r → lim P cfg f vs [] 0 0 = some r
def callQ [Gl] (T : Tab) (P : Program) (cfg : Cfg) (run : FuncId → Code → St → Option (Ex × St)) : CallF :=
 ⟨fun f vs hp n c => match hp with
  | [] => match n with
   | 0 => match c with
    | 0 => match T f vs with
     | some r => some r
     | none => callFn P cfg run f vs [] 0 0
    | c + 1 => callFn P cfg run f vs [] 0 (c + 1)
   | n + 1 => callFn P cfg run f vs [] (n + 1) c
  | p :: hp => callFn P cfg run f vs (p :: hp) n c, callYd run⟩
theorem callQ_under [Gl] {T : Tab} (hT : TabOK P cfg T) {run : FuncId → Code → St → Option (Ex × St)} (hr : ∀ f c s e t, run f c s = some (e, t) → Runs P cfg f c s e t) : Under P cfg (callQ T P cfg run) :=
 ⟨fun f vs hp n c r h => by
  simp only [callQ] at h
  split at h
  ·split at h
   ·split at h
    ·split at h
     ·rename_i hq
      simp only [Option.some.injEq] at h; subst h
      exact hT _ _ _ hq
     ·exact callFn_under hr h
    ·exact callFn_under hr h
   ·exact callFn_under hr h
  ·exact callFn_under hr h, fun _ _ _ _ _ _ _ h => callYd_under hr h⟩

/-! A loop over a map of at most one entry: there is one order. -/
def mapOne (f : List Nat → Option (Ex × St)) (s0 : St) (it : Nat) (l : List Nat) : Option (Ex × St) :=
 match f l with
 | some (.exit i, s) => match leE s0.env s.env && Nat.ble s.n0 s0.n && Nat.ble s.n0 it with
  | true => some (.exit i, { env := s0.env, hp := Hp.drop it (Hp.trunc s0.n s.hp), n := s0.n, c := s.c, n0 := s.n0, wl := s.wl })
  | false => none
 | _ => none
def mapW (f : List Nat → Option (Ex × St)) (s0 : St) (it : Nat) (l : List Nat) : Option (Ex × St) :=
 match l with
 | [] => mapOne f s0 it []
 | [a] => mapOne f s0 it [a]
 | a :: b :: r => mapM f s0 it (a :: b :: r)
theorem mapOne_ok {f : List Nat → Option (Ex × St)} {s0 : St} {it : Nat} {l : List Nat} {e : Ex} {x : St} (hl : ∀ q : List Nat, q.Perm l → q = l) (h : mapOne f s0 it l = some (e, x)) (F : List Nat → Option (Ex × St)) (hF : ∀ p r, p.Perm l → f p = some r → F p = some r) : allOrd s0 it F l = some (e, x) := by
 unfold mapOne at h
 split at h
 ·rename_i i s hfl
  split at h
  ·rename_i hc
   simp only [Bool.and_eq_true] at hc
   obtain ⟨⟨c1, c2⟩, c3⟩ := hc
   simp only [Option.some.injEq, Prod.mk.injEq] at h
   obtain ⟨rfl, hx⟩ := h
   have hFl := hF l _ (List.Perm.refl l) hfl
   have hq : ∀ q : List Nat, q.isPerm l = true → q = l := fun q h => hl q (List.isPerm_iff.1 h)
   have hagree : ∀ h : Hp, agreeH F l (.exit i) s h = h := by
    intro h
    unfold agreeH
    have : (fun p : Nat × Ob => @ite _ (∀ q : List Nat, q.isPerm l = true → ∀ y, F q = some (.exit i, y) → y.hp.get p.1 = s.hp.get p.1) (Classical.propDecidable _) p (p.1, loosen p.2)) = id := by
     funext p
     rw [if_pos]
     ·rfl
     ·intro q hp y hy
      rw [hq q hp, hFl] at hy
      simp only [Option.some.injEq, Prod.mk.injEq, true_and] at hy
      rw [hy]
    rw [this, List.map_id]
   have hxo : ∀ C, ordSt s0 it F l (.exit i) s C = { x with c := C } := fun C => by rw [← hx]; unfold ordSt; rw [hagree]
   have hle : LeSt s x := by
    rw [← hx]
    refine ⟨fun t => ?_, fun id hid => ?_, fun id o ho => ?_, fun id hid => ?_, Nat.le_of_ble_eq_true c2, rfl, Nat.le_refl _, fun i hi => hi⟩
    ·cases Classical.em (s0.env.get t = .any) with
     | inl h => exact .inr h
     | inr hne =>
      obtain ⟨p, hp, rfl⟩ := env_mem _ hne
      have := List.all_eq_true.1 c1 p hp
      split at this
      ·rename_i ha; exact absurd ha hne
      ·exact .inl (beqV_ok _ _ this).symm
    ·have h1 := Nat.le_of_ble_eq_true c2
     have h2 := Nat.le_of_ble_eq_true c3
     show (Hp.drop it (Hp.trunc s0.n s.hp)).get id = _
     rw [drop_get, if_neg (by omega), Hp.get_trunc _ _ _ (by omega)]
    ·have ho : (Hp.drop it (Hp.trunc s0.n s.hp)).get id = some o := ho
     rw [drop_get] at ho
     split at ho
     ·cases ho
     ·rw [trunc_get] at ho
      split at ho
      ·exact ⟨o, ho, .inl rfl⟩
      ·cases ho
    ·show (Hp.drop it (Hp.trunc s0.n s.hp)).get id = none
     have hid : s0.n ≤ id := hid
     rw [drop_get, trunc_get]
     split
     ·rfl
     ·rw [if_neg (by omega)]
   have hb : bndOrd F l (.exit i) (ordSt s0 it F l (.exit i) s x.c) := by
    rw [hxo]
    intro p hp
    rw [hq p hp]
    exact ⟨s, hFl, hle⟩
   have hex : ∃ C, bndOrd F l (.exit i) (ordSt s0 it F l (.exit i) s C) := ⟨_, hb⟩
   have hleast : least hex = x.c := by
    refine Nat.le_antisymm (least_le hex hb) ?_
    have hs := least_spec hex
    rw [hxo] at hs
    obtain ⟨z, hz, hz2⟩ := hs l (List.isPerm_iff.2 (List.Perm.refl l))
    rw [hFl] at hz
    simp only [Option.some.injEq, Prod.mk.injEq, true_and] at hz
    subst hz
    have := hz2.c
    rw [← hx]
    exact this
   unfold allOrd
   rw [hFl]
   simp only
   rw [dif_pos hex, hleast, hxo]
  ·cases h
 ·cases h
theorem mapW_ok {f : List Nat → Option (Ex × St)} {s0 : St} {it : Nat} {l : List Nat} {e : Ex} {x : St} (h : mapW f s0 it l = some (e, x)) (F : List Nat → Option (Ex × St)) (hF : ∀ p r, p.Perm l → f p = some r → F p = some r) : allOrd s0 it F l = some (e, x) := by
 unfold mapW at h
 split at h
 ·exact mapOne_ok (fun q hq => List.perm_nil.1 hq) h F hF
 ·exact mapOne_ok (fun q hq => List.perm_singleton.1 hq) h F hF
 ·exact mapM_ok h F hF

def execQ [Gl] (T : Tab) (P : Program) (cfg : Cfg) : Nat → FuncId → Code → St → Option (Ex × St)
 | 0, _, _, _ => none
 | k + 1, fid, c, s =>
  match c with
  | .skip => some (.normal, s)
  | .ret => some (.ret, s)
  | .exit id => some (.exit id, s)
  | .seq a b => match execQ T P cfg k fid a s with
   | some (.normal, s) => execQ T P cfg k fid b s
   | r => r
  | .cond q a b => match evalV s.env q with
   | .d (.bool true) => execQ T P cfg k fid a s
   | .d (.bool false) => execQ T P cfg k fid b s
   | _ => none
  | .block id b => match execQ T P cfg k fid b s with
   | some (.exit i, s) => match Nat.beq i id with | true => some (.normal, s) | false => some (.exit i, s)
   | r => r
  | .loop b => match nextLoop b with
   | none => match execQ T P cfg k fid b s with
    | some (.normal, t) => execQ T P cfg k fid (.loop b) (match cfg.own fid with | true => t | false => { t with hp := Hp.trunc s.n t.hp, n := s.n })
    | r => r
   | some (r, ops, t, d, rest) => match itAt s t with
    | some I => mapW (fun p => runOrd (regM P cfg (callQ T P cfg (execQ T P cfg k)) fid r (handed ops d)) (execQ T P cfg k fid rest) (cfg.own fid) t d p s) s I.id (todo I)
    | none => none
  | .region id ops draw => match runT P cfg (callQ T P cfg (execQ T P cfg k)) fid id ops.toList ops.toList s with
   | some (t, qs) => match checkM ops draw qs with
    | true => some (.normal, keepSt (mats t (cfg.mat fid id)) (cfg.keep fid id))
    | false => none
   | none => none
  | .rangeFunc g ps asg body => rangeR (callQ T P cfg (execQ T P cfg k)) fid (evalV s.env g) ps.toList asg body s
  | _ => none
theorem execQ_runs [Gl] {T : Tab} (hT : TabOK P cfg T) : ∀ (k : Nat) (fid : FuncId) (c : Code) (s : St) (e : Ex) (t : St), execQ T P cfg k fid c s = some (e, t) → Runs P cfg fid c s e t
 | 0, fid, c, s, e, t, h => by simp [execQ] at h
 | k + 1, fid, c, s, e, t, h => by
  have ih := execQ_runs hT k
  have region : ∀ (id : Nat) (ops : Array Oper) (draw : Bool) (s t' : St) (qs : List Tq), runT P cfg (callQ T P cfg (execQ T P cfg k)) fid id ops.toList ops.toList s = some (t', qs) → checkM ops draw qs = true → Runs P cfg fid (.region id ops draw) s .normal (keepSt (mats t' (cfg.mat fid id)) (cfg.keep fid id)) := by
   intro id ops draw s t' qs hr hc
   obtain ⟨h1, h2⟩ := runT_RT (callQ_under hT ih) hr
   obtain ⟨e', t'', hw, hq⟩ := WP.reg (Q := fun e u => e = .normal ∧ u = endR cfg fid id t') (hR := rfl) (hr := h1) (checkM_ok h2 hc) (ht := rfl) ⟨rfl, rfl⟩
   obtain ⟨rfl, rfl⟩ := hq
   exact hw
  cases c with
  | skip => simp [execQ] at h; obtain ⟨rfl, rfl⟩ := h; exact .skip
  | ret => simp [execQ] at h; obtain ⟨rfl, rfl⟩ := h; exact .ret
  | exit id => simp [execQ] at h; obtain ⟨rfl, rfl⟩ := h; exact .exit
  | seq a b =>
   simp only [execQ] at h
   split at h
   ·rename_i s' ha
    exact (ih _ _ _ _ _ ha).seq (ih _ _ _ _ _ h)
   ·rename_i hn
    exact (ih _ _ _ _ _ h).seq_out (by rintro rfl; exact hn _ h)
  | cond q a b =>
   simp only [execQ] at h
   split at h
   ·rename_i hq; exact .cond_true hq (ih _ _ _ _ _ h)
   ·rename_i hq; exact .cond_false hq (ih _ _ _ _ _ h)
   ·simp at h
  | block id b =>
   simp only [execQ] at h
   split at h
   ·rename_i i s' hb
    split at h
    ·rename_i hi
     have := Nat.eq_of_beq_eq_true hi
     subst this
     simp at h; obtain ⟨rfl, rfl⟩ := h
     exact .block_exit (ih _ _ _ _ _ hb)
    ·rename_i hi
     simp at h; obtain ⟨rfl, rfl⟩ := h
     exact .block_other (ih _ _ _ _ _ hb) (by rintro rfl; simp at hi)
   ·rename_i hn
    exact .block (ih _ _ _ _ _ h) (by rintro j rfl; exact hn _ _ h)
  | loop b =>
   simp only [execQ] at h
   split at h
   ·split at h
    ·rename_i t' hb
     refine .round (ih _ _ _ _ _ hb) ?_
     have := ih _ _ _ _ _ h
     unfold cut
     cases ho : cfg.own fid with
     | true => rw [ho] at this; exact this
     | false => rw [ho] at this; exact this
    ·rename_i hn
     exact .loop_out (ih _ _ _ _ _ h) (by rintro rfl; exact hn _ h)
   ·rename_i r ops ti d rest hnl
    split at h
    ·rename_i I hI
     have hev : ∀ p, p ∈ perms (todo I).length (todo I) → ∃ K, ∀ k', K ≤ k' → ∀ r', runOrd (regM P cfg (callQ T P cfg (execQ T P cfg k)) fid r (handed ops d)) (execQ T P cfg k fid rest) (cfg.own fid) ti d p s = some r' →
       runOrd (runRegion P cfg (callBy P cfg (execF P cfg k')) fid r (handed ops d) false) (execF P cfg k' fid rest) (cfg.own fid) ti d p s = some r' := by
      intro p _
      cases hp : runOrd (regM P cfg (callQ T P cfg (execQ T P cfg k)) fid r (handed ops d)) (execQ T P cfg k fid rest) (cfg.own fid) ti d p s with
      | none => exact ⟨0, fun k' _ r' hr' => by cases hr'⟩
      | some q =>
       obtain ⟨K, hK⟩ := runOrd_ev (reg := fun k' => runRegion P cfg (callBy P cfg (execF P cfg k')) fid r (handed ops d) false) (run := fun k' => execF P cfg k' fid rest)
        (fun s u hu => by
         unfold regM at hu
         split at hu
         ·rename_i t' qs hr
          simp only [Option.some.injEq] at hu
          subst hu
          exact region_runs (region r (handed ops d) false s t' qs hr rfl)
         ·cases hu)
        (fun s r hr => by obtain ⟨e, u⟩ := r; exact ih _ _ _ _ _ hr) p s q hp
       exact ⟨K, fun k' hk r' hr' => by cases hr'; exact hK k' hk⟩
     obtain ⟨K, hK⟩ := uniform1 (fun x K K' hKK hk k' hk' => hk k' (Nat.le_trans hKK hk')) _ hev
     refine ⟨K + 1, fun k' hk' => ?_⟩
     obtain ⟨j, rfl⟩ : ∃ j, k' = j + 1 := ⟨k' - 1, by omega⟩
     simp only [execF, hnl, hI]
     exact mapW_ok h _ fun p r' hp hr' => hK p (perms_mem _ _ _ rfl hp) j (by omega) r' hr'
    ·cases h
  | rangeFunc g ps asg body =>
   simp only [execQ] at h
   exact range_runs (callQ_under hT ih) h
  | region id ops draw =>
   simp only [execQ] at h
   split at h
   ·rename_i t' qs hr
    split at h
    ·rename_i hc
     simp only [Option.some.injEq, Prod.mk.injEq] at h; obtain ⟨rfl, rfl⟩ := h
     exact region id ops draw s t' qs hr hc
    ·simp at h
   ·simp at h
  | _ => simp [execQ] at h

/-! A table as a list. -/
structure Ent where
 f : Nat
 vs : List V
 r : CR
def tabL : List Ent → Tab
 | [], _, _ => none
 | e :: l, f, vs => match Nat.beq f e.f with
  | true => match beqVs vs e.vs with
   | true => some e.r
   | false => tabL l f vs
  | false => tabL l f vs
/-- An entry is right. -/
def Ent.ok [Gl] (P : Program) (cfg : Cfg) (e : Ent) : Prop := lim P cfg e.f e.vs [] 0 0 = some e.r
def EntsOK [Gl] (P : Program) (cfg : Cfg) : List Ent → Prop
 | [] => True
 | e :: l => Ent.ok P cfg e ∧ EntsOK P cfg l
theorem tabL_ok [Gl] : ∀ {l : List Ent}, EntsOK P cfg l → TabOK P cfg (tabL l)
 | [], _, _, _, _, h => by cases h
 | e :: l, hl, f, vs, r, h => by
  simp only [tabL] at h
  split at h
  ·rename_i hf
   split at h
   ·rename_i hv
    simp only [Option.some.injEq] at h; subst h
    rw [Nat.eq_of_beq_eq_true hf, beqVs_ok _ _ hv]
    exact hl.1
   ·exact tabL_ok hl.2 _ _ _ h
  ·exact tabL_ok hl.2 _ _ _ h
def beqHp : Hp → Hp → Bool
 | [], [] => true
 | (i, o) :: r, (j, q) :: s => Nat.beq i j && beqO o q && beqHp r s
 | _, _ => false
theorem beqHp_ok : ∀ {a b : Hp}, beqHp a b = true → a = b
 | [], [], _ => rfl
 | (i, o) :: r, (j, q) :: s, h => by
  simp only [beqHp, Bool.and_eq_true] at h
  rw [Nat.eq_of_beq_eq_true h.1.1, beqO_ok h.1.2, beqHp_ok h.2]
 | [], _ :: _, h | _ :: _, [], h => by simp [beqHp] at h
def beqNs : List Nat → List Nat → Bool
 | [], [] => true
 | a :: r, b :: s => Nat.beq a b && beqNs r s
 | _, _ => false
theorem beqNs_ok : ∀ {a b : List Nat}, beqNs a b = true → a = b
 | [], [], _ => rfl
 | a :: r, b :: s, h => by simp only [beqNs, Bool.and_eq_true] at h; rw [Nat.eq_of_beq_eq_true h.1, beqNs_ok h.2]
 | [], _ :: _, h | _ :: _, [], h => by simp [beqNs] at h
def beqCR : Option CR → CR → Bool
 | some a, b => beqV a.v b.v && beqHp a.hp b.hp && Nat.beq a.n b.n && Nat.beq a.c b.c && beqNs a.wl b.wl
 | none, _ => false
theorem beqCR_ok {a : Option CR} {b : CR} (h : beqCR a b = true) : a = some b := by
 cases a with
 | none => cases h
 | some a =>
  obtain ⟨v, hp, n, c, wl⟩ := a; obtain ⟨v2, hp2, n2, c2, wl2⟩ := b
  simp only [beqCR, Bool.and_eq_true, nbt] at h
  obtain ⟨⟨⟨⟨h1, h2⟩, h3⟩, h4⟩, h5⟩ := h
  rw [beqV_ok _ _ h1, beqHp_ok h2, h3, h4, beqNs_ok h5]
/-- An entry by the machine and the entries before it. -/
theorem ent_ok [Gl] {e : Ent} (l : List Ent) (hl : EntsOK P cfg l) (k : Nat) (h : beqCR ((callQ (tabL l) P cfg (execQ (tabL l) P cfg k)).fn e.f e.vs [] 0 0) e.r = true) : e.ok P cfg := by
 have := beqCR_ok h
 exact (callQ_under (tabL_ok hl) fun f c s e t h => execQ_runs (tabL_ok hl) k f c s e t h).fn _ _ _ _ _ _ this
/-- An entry that hands back data. -/
theorem Ent.ok.den [Gl] {e : Ent} (h : e.ok P cfg) {v : V} (hv : e.r.v = v) {w : V × List Nat} (hw : closeT noLook v = some w) : den P cfg e.f e.vs = some v := by
 subst hv
 exact den_of (lim_some h) (by rw [hw]; rfl)

/-! A part of the code by the machine: where a condition hangs on the input, the code is cut there. -/
def stQ (s : St) : Option (Ex × St) → St
 | some (_, t) => t
 | none => s
def isN : Option (Ex × St) → Bool
 | some (.normal, _) => true
 | _ => false
theorem WP.run [Gl] {T : Tab} (hT : TabOK P cfg T) (k : Nat) {fid : FuncId} {c : Code} {s : St} {Q : Ex → St → Prop} (h : isN (execQ T P cfg k fid c s) = true) (hq : Q .normal (stQ s (execQ T P cfg k fid c s))) : WP P cfg fid c s Q := by
 cases hx : execQ T P cfg k fid c s with
 | none => rw [hx] at h; cases h
 | some r =>
  obtain ⟨e, t⟩ := r
  rw [hx] at h hq
  cases e with
  | normal => exact ⟨_, _, execQ_runs hT _ _ _ _ _ _ hx, hq⟩
  | ret => cases h
  | exit i => cases h
/-- The end of a function that hands back data. -/
def chkRet (P : Program) (fn : Func) (v : V) : Option (Ex × St) → Bool
 | some (.ret, t) => match resultsV P t fn.results.toList with
  | some rs => match closeT t.hp.get (tup rs) with
   | some (w, _) => beqV w v
   | none => false
  | none => false
 | _ => false
theorem chkRet_ok [Gl] {T : Tab} (hT : TabOK P cfg T) {k : Nat} {fid : FuncId} {c : Code} {s : St} {fn : Func} {v : V} (h : chkRet P fn v (execQ T P cfg k fid c s) = true) : ∃ t, Runs P cfg fid c s .ret t ∧ retQ P fn v .ret t := by
 cases hx : execQ T P cfg k fid c s with
 | none => rw [hx] at h; cases h
 | some r =>
  obtain ⟨e, t⟩ := r
  rw [hx] at h
  cases e with
  | normal => cases h
  | exit i => cases h
  | ret =>
   refine ⟨t, execQ_runs hT _ _ _ _ _ _ hx, .inr rfl, ?_⟩
   simp only [chkRet] at h
   split at h
   ·rename_i rs hrs
    split at h
    ·rename_i w ids hc
     exact ⟨rs, ids, hrs, by rw [hc, beqV_ok _ _ h]⟩
    ·cases h
   ·cases h
theorem WP.fin [Gl] {T : Tab} (hT : TabOK P cfg T) (k : Nat) {fid : FuncId} {c : Code} {s : St} {fn : Func} {v : V} (h : chkRet P fn v (execQ T P cfg k fid c s) = true) : WP P cfg fid c s (retQ P fn v) := by
 obtain ⟨t, h1, h2⟩ := chkRet_ok hT h
 exact ⟨_, t, h1, h2⟩
theorem WP.finS [Gl] {T : Tab} (hT : TabOK P cfg T) (k : Nat) {fid : FuncId} {c b : Code} {s : St} {fn : Func} {v : V} (h : chkRet P fn v (execQ T P cfg k fid c s) = true) : WP P cfg fid c s (seqQ P cfg fid b (retQ P fn v)) := by
 obtain ⟨t, h1, h2⟩ := chkRet_ok hT h
 exact ⟨_, t, h1, h2⟩
end Go.Ac
end
