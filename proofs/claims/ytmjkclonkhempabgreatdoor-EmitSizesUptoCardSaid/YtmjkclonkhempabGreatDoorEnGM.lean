/- EmitSizes by data. -/
import Derived.Test.YtmjkclonkhempabGreatDoorAcMlM
set_option linter.unusedVariables false
set_option linter.unusedSimpArgs false
section
namespace Go.Ac
variable {P : Program} {cfg : Cfg}

/-! ### Equality of values, as a Bool -/
theorem nbt {a b : Nat} : (Nat.beq a b = true) = (a = b) := propext ⟨Nat.eq_of_beq_eq_true, fun h => by rw [h]; exact Nat.beq_refl b⟩
def beqC : Value → Value → Bool
 | .pointer none, .pointer none => true
 | .map none, .map none => true
 | .nilFunc, .nilFunc => true
 | .nilIface, .nilIface => true
 | _, _ => false
theorem beqC_ok {a b : Value} (h : beqC a b = true) : a = b := by
 unfold beqC at h
 split at h <;> first | rfl | cases h
mutual
def beqD : D → D → Bool
 | .bool a, .bool b => a == b
 | .int k m, .int k2 n => decide (k = k2) && decide (m = n)
 | .str a, .str b => decide (a = b)
 | .slice a, .slice b => beqDss a b
 | _, _ => false
def beqDs : List D → List D → Bool
 | [], [] => true
 | a :: r, b :: s => beqD a b && beqDs r s
 | _, _ => false
def beqDss : List (List D) → List (List D) → Bool
 | [], [] => true
 | a :: r, b :: s => beqDs a b && beqDss r s
 | _, _ => false
end
mutual
theorem beqD_ok : ∀ (a b : D), beqD a b = true → a = b
 | .bool a, .bool b, h => by simp only [beqD, beq_iff_eq] at h; rw [h]
 | .int k m, .int k2 n, h => by simp only [beqD, Bool.and_eq_true, decide_eq_true_eq] at h; rw [h.1, h.2]
 | .str a, .str b, h => by simp only [beqD, decide_eq_true_eq] at h; rw [h]
 | .slice a, .slice b, h => by simp only [beqD] at h; rw [beqDss_ok a b h]
 | .bool _, .int .., h | .bool _, .str _, h | .bool _, .slice _, h => by simp [beqD] at h
 | .int .., .bool .., h | .int .., .str _, h | .int .., .slice _, h => by simp [beqD] at h
 | .str .., .bool .., h | .str .., .int .., h | .str .., .slice _, h => by simp [beqD] at h
 | .slice .., .bool .., h | .slice .., .int .., h | .slice .., .str _, h => by simp [beqD] at h
theorem beqDs_ok : ∀ (a b : List D), beqDs a b = true → a = b
 | [], [], _ => rfl
 | a :: r, b :: s, h => by simp only [beqDs, Bool.and_eq_true] at h; rw [beqD_ok a b h.1, beqDs_ok r s h.2]
 | [], _ :: _, h | _ :: _, [], h => by simp [beqDs] at h
theorem beqDss_ok : ∀ (a b : List (List D)), beqDss a b = true → a = b
 | [], [], _ => rfl
 | a :: r, b :: s, h => by simp only [beqDss, Bool.and_eq_true] at h; rw [beqDs_ok a b h.1, beqDss_ok r s h.2]
 | [], _ :: _, h | _ :: _, [], h => by simp [beqDss] at h
end
mutual
def beqV : V → V → Bool
 | .any, .any => true
 | .undef, .undef => true
 | .d a, .d b => beqD a b
 | .con a, .con b => beqC a b
 | .full a, .full b => beqDss a b
 | .agg a, .agg b => beqVs a b
 | .ptr a b c, .ptr a2 b2 c2 => Nat.beq a a2 && Nat.beq b b2 && Nat.beq c c2
 | .osl a b c d e f, .osl a2 b2 c2 d2 e2 f2 => Nat.beq a a2 && Nat.beq b b2 && Nat.beq c c2 && Nat.beq d d2 && Nat.beq e e2 && decide (f = f2)
 | .vref a, .vref b => beqDs a b
 | .fn f a, .fn g b => Nat.beq f g && beqVs a b
 | .tuple a, .tuple b => beqVs a b
 | .it a b, .it a2 b2 => Nat.beq a a2 && Nat.beq b b2
 | .mp a b, .mp a2 b2 => Nat.beq a a2 && Nat.beq b b2
 | .itc a b, .itc a2 b2 => decide (a = a2) && Nat.beq b b2
 | .mpc a b c d, .mpc a2 b2 c2 d2 => beqDs a a2 && beqVs b b2 && decide (c = c2) && Nat.beq d d2
 | .itm a b c d e, .itm a2 b2 c2 d2 e2 => Nat.beq a a2 && Nat.beq b b2 && Nat.beq c c2 && decide (d = d2) && Nat.beq e e2
 | _, _ => false
def beqVs : List V → List V → Bool
 | [], [] => true
 | a :: r, b :: s => beqV a b && beqVs r s
 | _, _ => false
end
mutual
theorem beqV_ok : ∀ (a b : V), beqV a b = true → a = b
 | a, b, h => by
  cases a <;> cases b <;> simp only [beqV, Bool.and_eq_true, decide_eq_true_eq, nbt, Bool.false_eq_true] at h <;> first
   | rfl
   | (rw [beqD_ok _ _ h]; done)
   | (rw [beqC_ok h]; done)
   | (rw [beqDss_ok _ _ h]; done)
   | (rw [beqDs_ok _ _ h]; done)
   | (rw [beqVs_ok _ _ h]; done)
   | (obtain ⟨⟨⟨h1, h2⟩, h3⟩, h4⟩ := h; rw [beqDs_ok _ _ h1, beqVs_ok _ _ h2, h3, h4]; done)
   | (obtain ⟨h1, h2⟩ := h; rw [beqVs_ok _ _ h2, h1]; done)
   | (simp only [h]; done)
theorem beqVs_ok : ∀ (a b : List V), beqVs a b = true → a = b
 | [], [], _ => rfl
 | a :: r, b :: s, h => by simp only [beqVs, Bool.and_eq_true] at h; rw [beqV_ok a b h.1, beqVs_ok r s h.2]
 | [], _ :: _, h | _ :: _, [], h => by simp [beqVs] at h
end
def beqO (a b : Ob) : Bool := Nat.beq a.gen b.gen && (a.ro == b.ro) && beqVs a.cells b.cells
theorem beqO_ok {a b : Ob} (h : beqO a b = true) : a = b := by
 obtain ⟨g, r, c⟩ := a; obtain ⟨g2, r2, c2⟩ := b
 simp only [beqO, Bool.and_eq_true, beq_iff_eq, nbt] at h
 rw [h.1.1, h.1.2, beqVs_ok _ _ h.2]

/-! ### All orders -/
def perms : Nat → List Nat → List (List Nat)
 | 0, _ => [[]]
 | m + 1, l => l.flatMap fun x => (perms m (l.erase x)).map (x :: ·)
theorem perms_mem : ∀ (m : Nat) (l p : List Nat), l.length = m → p.Perm l → p ∈ perms m l
 | 0, l, p, hm, hp => by
  obtain rfl := List.length_eq_zero_iff.1 hm
  rw [List.perm_nil.1 hp]; exact List.mem_singleton.2 rfl
 | m + 1, l, [], hm, hp => by have := hp.length_eq; simp at this; omega
 | m + 1, l, x :: p, hm, hp => by
  have hx : x ∈ l := hp.subset (List.mem_cons_self ..)
  refine List.mem_flatMap.2 ⟨x, hx, List.mem_map.2 ⟨p, perms_mem m _ p (by rw [List.length_erase_of_mem hx]; omega) ?_, rfl⟩⟩
  exact (hp.trans (List.perm_cons_erase hx)).cons_inv

/-! ### What is kept -/
def leE (x y : Env) : Bool := x.all fun p => match x.get p.1 with
 | .any => true
 | v => beqV (y.get p.1) v
def leH (x y : Hp) : Bool := x.all fun p => match x.get p.1, y.get p.1 with
 | some a, some b => beqO b a
 | none, _ => true
 | _, none => false
def leN (n0 : Nat) (x y : Hp) : Bool := (List.range n0).all fun i => match x.get i, y.get i with
 | some a, some b => beqO a b
 | none, none => true
 | _, _ => false
def leS (y x : St) : Bool := leE x.env y.env && leH x.hp y.hp && leN y.n0 x.hp y.hp && Nat.beq y.n0 x.n0 && Nat.ble y.c x.c && y.wl.all fun i => x.wl.any (Nat.beq i)
theorem env_mem {t : Nat} : ∀ (e : Env), e.get t ≠ .any → ∃ p, p ∈ e ∧ p.1 = t
 | [], h => by simp [Env.get] at h
 | (k, v) :: r, h => by
  by_cases hk : k = t
  ·exact ⟨_, List.mem_cons_self .., hk⟩
  ·simp only [Env.get, beq_ff hk] at h
   obtain ⟨p, hp, he⟩ := env_mem r h
   exact ⟨p, List.mem_cons_of_mem _ hp, he⟩
theorem hp_mem {t : Nat} {o : Ob} : ∀ (e : Hp), e.get t = some o → ∃ p, p ∈ e ∧ p.1 = t
 | [], h => by simp [Hp.get] at h
 | (k, v) :: r, h => by
  by_cases hk : k = t
  ·exact ⟨_, List.mem_cons_self .., hk⟩
  ·simp only [Hp.get, beq_ff hk] at h
   obtain ⟨p, hp, he⟩ := hp_mem r h
   exact ⟨p, List.mem_cons_of_mem _ hp, he⟩
theorem leS_ok {y x : St} (h : leS y x = true) (hn : x.n0 ≤ x.n) (ht : ∀ id, x.n ≤ id → x.hp.get id = none) : LeSt y x := by
 simp only [leS, Bool.and_eq_true] at h
 obtain ⟨⟨⟨⟨⟨h1, h2⟩, h3⟩, h4⟩, h5⟩, h6⟩ := h
 refine ⟨fun t => ?_, fun id hid => ?_, fun id o ho => ?_, ht, hn, Nat.eq_of_beq_eq_true h4, Nat.le_of_ble_eq_true h5, fun i hi => ?_⟩
 ·cases Classical.em (x.env.get t = .any) with
  | inl h => exact .inr h
  | inr hne =>
   obtain ⟨p, hp, rfl⟩ := env_mem _ hne
   have := List.all_eq_true.1 h1 p hp
   split at this
   ·rename_i ha; exact absurd ha hne
   ·exact .inl (beqV_ok _ _ this).symm
 ·have := List.all_eq_true.1 h3 id (List.mem_range.2 hid)
  split at this
  ·rename_i ha hb; rw [ha, hb, beqO_ok this]
  ·rename_i ha hb; rw [ha, hb]
  ·cases this
 ·obtain ⟨p, hp, rfl⟩ := hp_mem _ ho
  have := List.all_eq_true.1 h2 p hp
  rw [ho] at this
  split at this
  ·rename_i a b ha hb
   cases ha
   rw [hb, beqO_ok this]
  ·rename_i ha; cases ha
  ·cases this
 ·have := List.all_eq_true.1 h6 i hi
  obtain ⟨j, hj, he⟩ := List.any_eq_true.1 this
  rw [Nat.eq_of_beq_eq_true he]; exact hj

/-! ### The run -/
def roundsM (f : List Nat → Option (Ex × St)) (i : Nat) : List (List Nat) → Option (List St)
 | [] => some []
 | p :: ps => match f p with
  | some (.exit j, y) => match Nat.beq j i with
   | true => match roundsM f i ps with
    | some l => some (y :: l)
    | none => none
   | false => none
  | _ => none
def maxC : List St → Nat
 | [] => 0
 | y :: r => max y.c (maxC r)
theorem maxC_le {B : Nat} : ∀ {l : List St}, (∀ y, y ∈ l → y.c ≤ B) → maxC l ≤ B
 | [], _ => Nat.zero_le _
 | y :: r, h => by
  have h1 := h y (List.mem_cons_self ..)
  have h2 := maxC_le (l := r) fun z hz => h z (List.mem_cons_of_mem _ hz)
  unfold maxC; omega
theorem roundsM_at {f : List Nat → Option (Ex × St)} {i : Nat} : ∀ {ps : List (List Nat)} {ys : List St}, roundsM f i ps = some ys → (∀ p, p ∈ ps → ∃ y, f p = some (.exit i, y) ∧ y ∈ ys) ∧ ∀ y, y ∈ ys → ∃ p, p ∈ ps ∧ f p = some (.exit i, y)
 | [], ys, h => by simp only [roundsM, Option.some.injEq] at h; subst h; exact jn (fun p hp => absurd hp List.not_mem_nil) (fun y hy => absurd hy List.not_mem_nil)
 | p :: ps, ys, h => by
  simp only [roundsM] at h
  split at h
  ·rename_i j y hf
   split at h
   ·rename_i hj
    have := Nat.eq_of_beq_eq_true hj
    subst this
    split at h
    ·rename_i l hl
     simp only [Option.some.injEq] at h
     subst h
     obtain ⟨h1, h2⟩ := roundsM_at hl
     refine ⟨fun q hq => ?_, fun z hz => ?_⟩
     ·rcases List.mem_cons.1 hq with rfl | hq
      ·exact ⟨y, hf, List.mem_cons_self ..⟩
      ·obtain ⟨z, hz, hm⟩ := h1 q hq
       exact ⟨z, hz, List.mem_cons_of_mem _ hm⟩
     ·rcases List.mem_cons.1 hz with rfl | hz
      ·exact ⟨p, List.mem_cons_self .., hf⟩
      ·obtain ⟨q, hq, he⟩ := h2 z hz
       exact ⟨q, List.mem_cons_of_mem _ hq, he⟩
    ·cases h
   ·cases h
  ·cases h
def mapM (f : List Nat → Option (Ex × St)) (s0 : St) (it : Nat) (l : List Nat) : Option (Ex × St) :=
 match f l with
 | some (.exit i, s) => match roundsM f i (perms l.length l) with
  | some ys => match ys.all (fun y => leS y { env := s0.env, hp := Hp.drop it (Hp.trunc s0.n s.hp), n := s0.n, c := maxC ys, n0 := s.n0, wl := s.wl }) && Nat.ble s.n0 s0.n with
   | true => some (.exit i, { env := s0.env, hp := Hp.drop it (Hp.trunc s0.n s.hp), n := s0.n, c := maxC ys, n0 := s.n0, wl := s.wl })
   | false => none
  | none => none
 | _ => none
theorem mapM_ok {f : List Nat → Option (Ex × St)} {s0 : St} {it : Nat} {l : List Nat} {e : Ex} {x : St} (h : mapM f s0 it l = some (e, x)) (F : List Nat → Option (Ex × St)) (hF : ∀ p r, p.Perm l → f p = some r → F p = some r) : allOrd s0 it F l = some (e, x) := by
 unfold mapM at h
 split at h
 ·rename_i i s hfl
  split at h
  ·rename_i ys hys
   split at h
   ·rename_i hc
    simp only [Option.some.injEq, Prod.mk.injEq] at h
    obtain ⟨rfl, hx⟩ := h
    simp only [Bool.and_eq_true] at hc
    obtain ⟨hc1, hc2⟩ := hc
    rw [hx] at hc1
    obtain ⟨h1, h2⟩ := roundsM_at hys
    have hxo : ∀ C, ordSt s0 it F l (.exit i) s C = { x with c := C } := fun C => by rw [← hx]; rfl
    have hl : ∀ y, y ∈ ys → LeSt y x := fun y hy => leS_ok (List.all_eq_true.1 hc1 y hy) (by rw [← hx]; exact Nat.le_of_ble_eq_true hc2) (fun id hid => by
     rw [← hx] at hid ⊢
     show (Hp.drop it (Hp.trunc s0.n s.hp)).get id = none
     have hid' : s0.n ≤ id := hid
     rw [drop_get, trunc_get]
     split
     ·rfl
     ·rw [if_neg (by omega)])
    have hb : bndOrd F l (.exit i) (ordSt s0 it F l (.exit i) s x.c) := by
     rw [hxo]
     intro p hp
     have hp := List.isPerm_iff.1 hp
     obtain ⟨y, hy, hm⟩ := h1 p (perms_mem _ _ _ rfl hp)
     exact ⟨y, hF p _ hp hy, hl y hm⟩
    have hex : ∃ C, bndOrd F l (.exit i) (ordSt s0 it F l (.exit i) s C) := ⟨_, hb⟩
    have hleast : least hex = x.c := by
     refine Nat.le_antisymm (least_le hex hb) ?_
     have hs := least_spec hex
     rw [hxo] at hs
     have : x.c = maxC ys := by rw [← hx]
     rw [this]
     refine maxC_le fun y hy => ?_
     obtain ⟨p, hp, he⟩ := h2 y hy
     have hperm : ∀ (m : Nat) (l p : List Nat), l.length = m → p ∈ perms m l → p.Perm l := by
      intro m
      induction m with
      | zero => intro l p hl hp; obtain rfl := List.length_eq_zero_iff.1 hl; rw [List.mem_singleton.1 hp]
      | succ m ih =>
       intro l p hl hp
       obtain ⟨a, ha, hq⟩ := List.mem_flatMap.1 hp
       obtain ⟨q, hq2, rfl⟩ := List.mem_map.1 hq
       exact ((ih _ q (by rw [List.length_erase_of_mem ha]; omega) hq2).cons a).trans (List.perm_cons_erase ha).symm
     have hpl := hperm _ _ _ rfl hp
     obtain ⟨z, hz, hle⟩ := hs p (List.isPerm_iff.2 hpl)
     rw [hF p _ hpl he] at hz
     simp only [Option.some.injEq, Prod.mk.injEq, true_and] at hz
     subst hz
     exact hle.c
    unfold allOrd
    rw [hF l _ (List.Perm.refl l) hfl]
    simp only
    rw [dif_pos hex, hleast, hxo]
   ·cases h
  ·cases h
 ·cases h

def regM [Gl] (P : Program) (cfg : Cfg) (call : CallF) (fid rid : Nat) (ops : Array Oper) (s : St) : Option St :=
 match runT P cfg call fid rid ops.toList ops.toList s with
 | some (t, _) => some (keepSt (mats t (cfg.mat fid rid)) (cfg.keep fid rid))
 | none => none
def execM [Gl] (P : Program) (cfg : Cfg) : Nat → FuncId → Code → St → Option (Ex × St)
 | 0, _, _, _ => none
 | k + 1, fid, c, s =>
  match c with
  | .skip => some (.normal, s)
  | .ret => some (.ret, s)
  | .exit id => some (.exit id, s)
  | .seq a b => match execM P cfg k fid a s with
   | some (.normal, s) => execM P cfg k fid b s
   | r => r
  | .cond q a b => match evalV s.env q with
   | .d (.bool true) => execM P cfg k fid a s
   | .d (.bool false) => execM P cfg k fid b s
   | _ => none
  | .block id b => match execM P cfg k fid b s with
   | some (.exit i, s) => match Nat.beq i id with | true => some (.normal, s) | false => some (.exit i, s)
   | r => r
  | .loop b => match nextLoop b with
   | none => match execM P cfg k fid b s with
    | some (.normal, t) => execM P cfg k fid (.loop b) (match cfg.own fid with | true => t | false => { t with hp := Hp.trunc s.n t.hp, n := s.n })
    | r => r
   | some (r, ops, t, d, rest) => match itAt s t with
    | some I => mapM (fun p => runOrd (regM P cfg (callBy P cfg (execM P cfg k)) fid r (handed ops d)) (execM P cfg k fid rest) (cfg.own fid) t d p s) s I.id (todo I)
    | none => none
  | .region id ops draw => match runT P cfg (callBy P cfg (execM P cfg k)) fid id ops.toList ops.toList s with
   | some (t, qs) => match checkM ops draw qs with
    | true => some (.normal, keepSt (mats t (cfg.mat fid id)) (cfg.keep fid id))
    | false => none
   | none => none
  | _ => none
def callM [Gl] (P : Program) (cfg : Cfg) (k : Nat) : CallF := callBy P cfg (execM P cfg k)

/-- The rounds of one order come to an end. -/
theorem runOrd_ev {regT : St → Option St} {runT' : St → Option (Ex × St)} {reg : Nat → St → Option St} {run : Nat → St → Option (Ex × St)}
  (hreg : ∀ s u, regT s = some u → ∃ K, ∀ k, K ≤ k → reg k s = some u) (hrun : ∀ s r, runT' s = some r → ∃ K, ∀ k, K ≤ k → run k s = some r) {own : Bool} {t d : Nat} :
  ∀ (p : List Nat) (s : St) (r : Ex × St), runOrd regT runT' own t d p s = some r → ∃ K, ∀ k, K ≤ k → runOrd (reg k) (run k) own t d p s = some r := by
 have round : ∀ s r, roundR regT runT' s = some r → ∃ K, ∀ k, K ≤ k → roundR (reg k) (run k) s = some r := by
  intro s r h
  unfold roundR at h
  split at h
  ·rename_i u hu
   obtain ⟨K, hK⟩ := hreg s u hu
   obtain ⟨L, hL⟩ := hrun u r h
   refine ⟨max K L, fun k hk => ?_⟩
   unfold roundR
   rw [hK k (by omega)]
   exact hL k (by omega)
  ·cases h
 intro p
 induction p with
 | nil =>
  intro s r h
  simp only [runOrd] at h
  split at h
  ·rename_i I hI
   split at h
   ·rename_i ht
    split at h
    ·cases h
    ·rename_i q hq
     obtain ⟨K, hK⟩ := round _ _ h
     refine ⟨K, fun k hk => ?_⟩
     simp only [runOrd, hI, ht, hK k hk]
     obtain ⟨e, u⟩ := r
     cases e with
     | normal => exact absurd h (by intro hh; exact hq _ hh)
     | exit i => rfl
     | ret => rfl
   ·cases h
  ·cases h
 | cons b l ih =>
  intro s r h
  simp only [runOrd] at h
  split at h
  ·rename_i I hI
   split at h
   ·rename_i q hp hq
    split at h
    ·rename_i u hu
     obtain ⟨K, hK⟩ := round _ _ hu
     obtain ⟨L, hL⟩ := ih _ _ h
     refine ⟨max K L, fun k hk => ?_⟩
     simp only [runOrd, hI, hp, hq, hK k (by omega)]
     exact hL k (by omega)
    ·rename_i hnn
     obtain ⟨K, hK⟩ := round _ _ h
     refine ⟨K, fun k hk => ?_⟩
     simp only [runOrd, hI, hp, hq, hK k hk]
     obtain ⟨e, u⟩ := r
     cases e with
     | normal => exact absurd h (by intro hh; exact hnn _ hh)
     | exit i => rfl
     | ret => rfl
   ·cases h
  ·cases h
theorem uniform1 {α : Type} {Pr : α → Nat → Prop} (hm : ∀ x K K', K ≤ K' → Pr x K → Pr x K') (l : List α) (h : ∀ x, x ∈ l → ∃ K, Pr x K) : ∃ K, ∀ x, x ∈ l → Pr x K := by
 obtain ⟨K, _, hK⟩ := uniform (Pr := fun x K _ => Pr x K) (fun x K K' _ _ h _ hp => hm x K K' h hp) l fun x hx => by obtain ⟨K, hK⟩ := h x hx; exact ⟨K, 0, hK⟩
 exact ⟨K, hK⟩
theorem region_runs [Gl] {fid id : Nat} {ops : Array Oper} {s t : St} (h : Runs P cfg fid (.region id ops false) s .normal t) : ∃ K, ∀ k, K ≤ k → runRegion P cfg (callBy P cfg (execF P cfg k)) fid id ops false s = some t := by
 obtain ⟨K, hK⟩ := h
 refine ⟨K, fun k hk => ?_⟩
 have := hK (k + 1) (by omega)
 simp only [execF, Option.map_eq_some_iff] at this
 obtain ⟨x, hx, he⟩ := this
 simp only [Prod.mk.injEq, true_and] at he
 rw [← he]; exact hx
theorem execM_runs [Gl] : ∀ (k : Nat) (fid : FuncId) (c : Code) (s : St) (e : Ex) (t : St), execM P cfg k fid c s = some (e, t) → Runs P cfg fid c s e t
 | 0, fid, c, s, e, t, h => by simp [execM] at h
 | k + 1, fid, c, s, e, t, h => by
  have ih := execM_runs k
  have region : ∀ (id : Nat) (ops : Array Oper) (draw : Bool) (s t' : St) (qs : List Tq), runT P cfg (callBy P cfg (execM P cfg k)) fid id ops.toList ops.toList s = some (t', qs) → checkM ops draw qs = true → Runs P cfg fid (.region id ops draw) s .normal (keepSt (mats t' (cfg.mat fid id)) (cfg.keep fid id)) := by
   intro id ops draw s t' qs hr hc
   obtain ⟨h1, h2⟩ := runT_RT (callBy_under ih) hr
   obtain ⟨e', t'', hw, hq⟩ := WP.reg (Q := fun e u => e = .normal ∧ u = endR cfg fid id t') (hR := rfl) (hr := h1) (checkM_ok h2 hc) (ht := rfl) ⟨rfl, rfl⟩
   obtain ⟨rfl, rfl⟩ := hq
   exact hw
  cases c with
  | skip => simp [execM] at h; obtain ⟨rfl, rfl⟩ := h; exact .skip
  | ret => simp [execM] at h; obtain ⟨rfl, rfl⟩ := h; exact .ret
  | exit id => simp [execM] at h; obtain ⟨rfl, rfl⟩ := h; exact .exit
  | seq a b =>
   simp only [execM] at h
   split at h
   ·rename_i s' ha
    exact (ih _ _ _ _ _ ha).seq (ih _ _ _ _ _ h)
   ·rename_i hn
    exact (ih _ _ _ _ _ h).seq_out (by rintro rfl; exact hn _ h)
  | cond q a b =>
   simp only [execM] at h
   split at h
   ·rename_i hq; exact .cond_true hq (ih _ _ _ _ _ h)
   ·rename_i hq; exact .cond_false hq (ih _ _ _ _ _ h)
   ·simp at h
  | block id b =>
   simp only [execM] at h
   split at h
   ·rename_i i s' hb
    split at h
    ·rename_i hi
     have := Nat.eq_of_beq_eq_true hi
     subst this
     simp at h; obtain ⟨rfl, rfl⟩ := h
     exact .block_exit (ih _ _ _ _ _ hb)
    ·rename_i hi
     simp at h; obtain ⟨rfl, rfl⟩ := h
     exact .block_other (ih _ _ _ _ _ hb) (by rintro rfl; simp at hi)
   ·rename_i hn
    exact .block (ih _ _ _ _ _ h) (by rintro j rfl; exact hn _ _ h)
  | loop b =>
   simp only [execM] at h
   split at h
   ·split at h
    ·rename_i t' hb
     refine .round (ih _ _ _ _ _ hb) ?_
     have := ih _ _ _ _ _ h
     unfold cut
     cases ho : cfg.own fid with
     | true => rw [ho] at this; exact this
     | false => rw [ho] at this; exact this
    ·rename_i hn
     exact .loop_out (ih _ _ _ _ _ h) (by rintro rfl; exact hn _ h)
   ·rename_i r ops ti d rest hnl
    split at h
    ·rename_i I hI
     have hev : ∀ p, p ∈ perms (todo I).length (todo I) → ∃ K, ∀ k', K ≤ k' → ∀ r', runOrd (regM P cfg (callBy P cfg (execM P cfg k)) fid r (handed ops d)) (execM P cfg k fid rest) (cfg.own fid) ti d p s = some r' →
       runOrd (runRegion P cfg (callBy P cfg (execF P cfg k')) fid r (handed ops d) false) (execF P cfg k' fid rest) (cfg.own fid) ti d p s = some r' := by
      intro p _
      cases hp : runOrd (regM P cfg (callBy P cfg (execM P cfg k)) fid r (handed ops d)) (execM P cfg k fid rest) (cfg.own fid) ti d p s with
      | none => exact ⟨0, fun k' _ r' hr' => by cases hr'⟩
      | some q =>
       obtain ⟨K, hK⟩ := runOrd_ev (reg := fun k' => runRegion P cfg (callBy P cfg (execF P cfg k')) fid r (handed ops d) false) (run := fun k' => execF P cfg k' fid rest)
        (fun s u hu => by
         unfold regM at hu
         split at hu
         ·rename_i t' qs hr
          simp only [Option.some.injEq] at hu
          subst hu
          exact region_runs (region r (handed ops d) false s t' qs hr rfl)
         ·cases hu)
        (fun s r hr => by obtain ⟨e, u⟩ := r; exact ih _ _ _ _ _ hr) p s q hp
       exact ⟨K, fun k' hk r' hr' => by cases hr'; exact hK k' hk⟩
     obtain ⟨K, hK⟩ := uniform1 (fun x K K' hKK hk k' hk' => hk k' (Nat.le_trans hKK hk')) _ hev
     refine ⟨K + 1, fun k' hk' => ?_⟩
     obtain ⟨j, rfl⟩ : ∃ j, k' = j + 1 := ⟨k' - 1, by omega⟩
     simp only [execF, hnl, hI]
     exact mapM_ok h _ fun p r' hp hr' => hK p (perms_mem _ _ _ rfl hp) j (by omega) r' hr'
    ·cases h
  | region id ops draw =>
   simp only [execM] at h
   split at h
   ·rename_i t' qs hr
    split at h
    ·rename_i hc
     simp only [Option.some.injEq, Prod.mk.injEq] at h; obtain ⟨rfl, rfl⟩ := h
     exact region id ops draw s t' qs hr hc
    ·simp at h
   ·simp at h
  | _ => simp [execM] at h
theorem callM_lim [Gl] {k : Nat} {f : FuncId} {vs : List V} {hp : Hp} {n c : Nat} {r : CR} (h : callM P cfg k f vs hp n c = some r) : lim P cfg f vs hp n c = some r :=
 callBy_under (fun f c s e t h => execM_runs k f c s e t h) f vs hp n c r h
theorem den_m [Gl] (k : Nat) {f : FuncId} {vs : List V} {v : V} (h : (match callM P cfg k f vs [] 0 0 with | some r => (match closeT noLook r.v with | some _ => some r.v | none => none) | none => none) = some v) : den P cfg f vs = some v := by
 split at h
 ·rename_i r hr
  have hl := lim_some (callM_lim hr)
  split at h
  ·rename_i w hw
   simp only [Option.some.injEq] at h
   subst h
   exact den_of hl (by rw [hw]; rfl)
  ·simp at h
 ·simp at h
end Go.Ac
end

section
set_option maxRecDepth 4000
namespace Go.Ac
open Go.Proofs
set_option maxRecDepth 100000 in
theorem awake_den : den Tryz.prog Ob.cfg 5 [] = some (dB true) := den_m 600 (by kernel_rfl)
theorem kf3 (r : Nat) : Ob.keep 3 r = Ob.k3 r := by kernel_rfl
attribute [local simp] kf3 Ob.k3
set_option maxHeartbeats 4000000 in
theorem emit_den (o : Oc) (nm inst : Tx) (hsz : o.sz ≤ 2097152) (hok : o.ok) : den Tryz.prog Ob.cfg 3 [aG o.cells, dS nm, dS inst] = some (dB true) := by
 have haw := awake_den
 obtain ⟨bl, hl⟩ := light4 o (by unfold MX; omega)
 have h1 := size6 o nm hsz hok
 have h2 := rsize7 o nm hsz hok
 have h3 := offset8 o nm inst hsz hok
 have h4 := roffset9 o nm inst hsz hok
 generalize siS o nm = p at h1 h2
 generalize ofS o nm inst = q at h3 h4
 simp only [aG, Oc.cells, List.map_cons, List.map_nil, dB, dI, dS] at haw hl h1 h2 h3 h4
 refine den_wp Tryz.func3 rfl (by kernel_rfl) rfl rfl ?_
 cases bl with
 | false =>
  refine wkc (jn @envOf.eq_1 (jn @envOf.eq_2 (jn @aG.eq_1 (jn @Oc.cells.eq_1 (jn @dL.eq_1 (jn @dS.eq_1 (jn @hl @haw))))))) ?_
  show retQ _ _ _ _ _
  exact ⟨.inr rfl, _, _, rfl, rfl⟩
 | true =>
  refine wkc (jn @envOf.eq_1 (jn @envOf.eq_2 (jn @aG.eq_1 (jn @Oc.cells.eq_1 (jn @dL.eq_1 (jn @dS.eq_1 (jn @hl (jn @haw (jn @h1 (jn @h2 (jn @h3 (jn @h4 @int_beq)))))))))))) ?_
  show retQ _ _ _ _ _
  exact ⟨.inr rfl, _, _, rfl, rfl⟩
end Go.Ac
end
