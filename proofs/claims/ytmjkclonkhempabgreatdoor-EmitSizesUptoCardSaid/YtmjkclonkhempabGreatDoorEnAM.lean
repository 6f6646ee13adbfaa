/- Sizes and offsets: the law's light, the reference's functions. -/
import Derived.Test.YtmjkclonkhempabGreatDoorEmPqM
set_option linter.unusedVariables false
set_option linter.unusedSimpArgs false
section
set_option maxRecDepth 4000
namespace Go.Ac
open Go.Proofs

theorem dup_nodup : ∀ (l p : List Tx), dupW p l = false → l.Nodup ∧ ∀ x, x ∈ l → x ∉ p
 | [], p, _ => ⟨List.nodup_nil, fun x h => by cases h⟩
 | x :: r, p, h => by
  rw [dupW, Bool.or_eq_false_iff] at h
  obtain ⟨h1, h2⟩ := dup_nodup r (p ++ [x]) h.2
  have h0 : x ∉ p := by simpa using h.1
  refine ⟨List.nodup_cons.2 ⟨fun hm => absurd (List.mem_append_right p (List.mem_singleton.2 rfl)) (h2 x hm), h1⟩, fun y hy => ?_⟩
  rcases List.mem_cons.1 hy with rfl | hy
  ·exact h0
  ·exact fun hp => h2 y hy (List.mem_append_left _ hp)
theorem sizeE_zero (en : List En) : sizeE en 0 = 0 := by
 unfold sizeE eAt inE; simp
theorem size_ne {en : List En} {t : Int} (h : 0 < sizeE en t) : t ≠ 0 := fun e => by rw [e, sizeE_zero] at h; omega
theorem known_size {en : List En} (hen : ∀ u, u ∈ en → enBad u = false) (t : Int) : knownE en t = decide (0 < sizeE en t) := by
 unfold knownE sizeE
 by_cases h1 : t = 1
 ·simp [h1]
 by_cases h2 : t = 2
 ·simp [h2]
 rw [if_neg h1, if_neg h2]
 cases hi : inE en t with
 | false => unfold eAt; rw [hi]; simp [h1, h2]
 | true =>
  have hlt : (t - 3).toNat < en.length := by unfold inE at hi; simp at hi; omega
  have he : eAt en t = en[(t - 3).toNat] := by unfold eAt; rw [hi, if_pos rfl]; simp [List.getD, hlt]
  have hb := hen _ (List.getElem_mem hlt)
  rw [he]
  unfold enBad at hb
  simp [h1, h2] at hb ⊢
  have := hb.1
  cases hq : en[(t - 3).toNat].tags with
  | nil => exact absurd hq this
  | cons a r => simp
theorem decls_ok {en : List En} : ∀ {l : List Dc}, declsW en l = 0 → ∀ d, d ∈ l → 0 < sizeE en d.t
 | [], _, d, h => by cases h
 | e :: r, h, d, hd => by
  rw [declsW] at h
  split at h
  ·cases h
  ·rename_i h1
   split at h
   ·cases h
   ·rcases List.mem_cons.1 hd with rfl | hd
    ·omega
    ·exact decls_ok h d hd
section
variable {α : Type}
theorem mget_rev (x : Tx) : ∀ (ds l : List (Tx × α)), mget (puts l ds) x = (mget ds.reverse x).or (mget l x)
 | [], l => by simp [puts, mget]
 | p :: r, l => by
  rw [puts, mget_rev x r, mget_put, List.reverse_cons, mget_app]
  by_cases h : x = p.1
  ·subst h
   rw [if_pos rfl]
   have : mget [p] p.1 = some p.2 := by simp [mget]
   rw [this]
   cases mget r.reverse p.1 <;> simp
  ·rw [if_neg h]
   have : mget [p] x = none := by
    have hd : decide (p.1 = x) = false := by simp; exact fun e => h e.symm
    simp [mget, List.find?_cons, hd]
   rw [this]
   cases mget r.reverse x <;> simp
theorem mget_mem {l : List (Tx × α)} {x : Tx} {v : α} (h : mget l x = some v) : (x, v) ∈ l := by
 unfold mget at h
 cases hf : List.find? (fun p => decide (p.1 = x)) l with
 | none => rw [hf] at h; cases h
 | some p =>
  rw [hf] at h
  have h1 := List.mem_of_find?_eq_some hf
  have h2 := List.find?_some hf
  simp at h h2
  rw [← h2, ← h]; exact h1
theorem mget_none {l : List (Tx × α)} {x : Tx} (h : mget l x = none) : ∀ v, (x, v) ∉ l := by
 intro v hm
 unfold mget at h
 simp at h
 exact h x v hm rfl
theorem nodup_val {l : List (Tx × α)} (hn : (l.map (·.1)).Nodup) {x : Tx} {v w : α} (h1 : (x, v) ∈ l) (h2 : (x, w) ∈ l) : v = w := by
 induction l with
 | nil => cases h1
 | cons p r ih =>
  rw [List.map_cons, List.nodup_cons] at hn
  rcases List.mem_cons.1 h1 with e1 | m1
  ·rcases List.mem_cons.1 h2 with e2 | m2
   ·rw [← e1] at e2; exact (Prod.mk.inj e2).2.symm
   ·exact absurd (List.mem_map.2 ⟨_, m2, by rw [← e1]⟩) hn.1
  ·rcases List.mem_cons.1 h2 with e2 | m2
   ·exact absurd (List.mem_map.2 ⟨_, m1, by rw [← e2]⟩) hn.1
   ·exact ih hn.2 m1 m2
theorem mget_nodup {l : List (Tx × α)} (hn : (l.map (·.1)).Nodup) (x : Tx) : mget l.reverse x = mget l x := by
 cases h : mget l x with
 | none =>
  cases h2 : mget l.reverse x with
  | none => rfl
  | some v => exact absurd (List.mem_reverse.1 (mget_mem h2)) (mget_none h v)
 | some v =>
  cases h2 : mget l.reverse x with
  | none => exact absurd (List.mem_reverse.2 (mget_mem h)) (mget_none h2 v)
  | some w => rw [nodup_val hn (List.mem_reverse.1 (mget_mem h2)) (mget_mem h)]
theorem mget_puts {l : List (Tx × α)} (hn : (l.map (·.1)).Nodup) (x : Tx) : mget (puts [] l) x = mget l x := by
 rw [mget_rev, mget_nodup hn]; simp [mget]
end
theorem mget_dV {l : List Dc} (h : ∀ d, d ∈ l → d.t ≠ 0) (x : Tx) : mget (dV l) x = if findD l x = 0 then none else some (findD l x) := by
 unfold mget dV findD
 rw [List.find?_map]
 rw [show ((fun p => decide (p.1 = x)) ∘ fun d : Dc => (d.nm, d.t)) = fun d : Dc => decide (d.nm = x) from rfl]
 cases hf : List.find? (fun d : Dc => decide (d.nm = x)) l with
 | none => rfl
 | some d =>
  have := h d (List.mem_of_find?_eq_some hf)
  simp [this]
theorem mget_dP {l : List Dc} (h : ∀ d, d ∈ l → d.t ≠ 0) (x : Tx) : mget (dP l) x = if findD l x = 0 then none else some true := by
 unfold mget dP findD
 rw [List.find?_map]
 rw [show ((fun p => decide (p.1 = x)) ∘ fun d : Dc => (d.nm, true)) = fun d : Dc => decide (d.nm = x) from rfl]
 cases hf : List.find? (fun d : Dc => decide (d.nm = x)) l with
 | none => rfl
 | some d =>
  have := h d (List.mem_of_find?_eq_some hf)
  simp [this]
theorem mget_mV {l : List Mm} (h : ∀ d, d ∈ l → d.t ≠ 0) (x : Tx) : mget (mV l) x = if findM l x = 0 then none else some (findM l x) := by
 unfold mget mV findM
 rw [List.find?_map]
 rw [show ((fun p => decide (p.1 = x)) ∘ fun d : Mm => (d.nm, d.t)) = fun d : Mm => decide (d.nm = x) from rfl]
 cases hf : List.find? (fun d : Mm => decide (d.nm = x)) l with
 | none => rfl
 | some d =>
  have := h d (List.mem_of_find?_eq_some hf)
  simp [this]
theorem findD_mem {l : List Dc} {x : Tx} (h : findD l x ≠ 0) : ∃ d, d ∈ l ∧ d.nm = x ∧ findD l x = d.t := by
 unfold findD at h ⊢
 cases hf : List.find? (fun d : Dc => decide (d.nm = x)) l with
 | none => rw [hf] at h; exact absurd rfl h
 | some d => exact ⟨d, List.mem_of_find?_eq_some hf, by simpa using List.find?_some hf, rfl⟩
theorem findD_any {l : List Dc} (h : ∀ d, d ∈ l → d.t ≠ 0) (x : Tx) : l.any (fun d => decide (d.nm = x)) = decide (findD l x ≠ 0) := by
 unfold findD
 cases hf : List.find? (fun d : Dc => decide (d.nm = x)) l with
 | none =>
  have := List.find?_eq_none.1 hf
  simp only [ne_eq, not_true_eq_false, decide_false]
  rw [List.any_eq_false]; exact this
 | some d =>
  have h1 := h d (List.mem_of_find?_eq_some hf)
  have h2 := List.find?_some hf
  simp only [ne_eq, h1, not_false_eq_true, decide_true]
  exact List.any_eq_true.2 ⟨d, List.mem_of_find?_eq_some hf, h2⟩
theorem findC_take {l : List Cl} {i : Nat} {x : Tx} (h : (findC (l.take i) x).2 = true) : findC l x = findC (l.take i) x := by
 unfold findC at *
 cases hf : List.find? (fun d : Cl => decide (d.nm = x)) (l.take i) with
 | none => rw [hf] at h; cases h
 | some d =>
  have : List.find? (fun d : Cl => decide (d.nm = x)) l = some d := by
   rw [← List.take_append_drop i l, List.find?_append, hf]; rfl
  rw [this]
set_option maxHeartbeats 1000000 in
/-- A class whose declarations are right. -/
theorem kf_of {o : Oc} {i : Nat} {c : Cl} (hok : c.ok) (hlen : c.inn.length ≤ MX) (h : declP o (o.cl.take i) c = 0) :
  KF o (o.cl.take i) c (puts (puts (puts [] (dV c.inn)) (dV c.out)) (dV c.loc)) (puts (puts [] (dP c.out)) (dP c.loc)) (puts [] (mV c.mems)) (puts [] (iV (o.cl.take i) c.ins)) := by
 unfold declP at h
 split at h
 ·rename_i hne; exact absurd h hne
 rename_i e1
 split at h
 ·rename_i hne; exact absurd h hne
 rename_i e2
 split at h
 ·rename_i hne; exact absurd h hne
 rename_i e3
 split at h
 ·cases h
 rename_i e4
 split at h
 ·cases h
 rename_i e5
 split at h
 ·cases h
 rename_i e6
 have s1 := decls_ok (show declsW o.en c.inn = 0 by simpa using e1)
 have s2 := decls_ok (show declsW o.en c.out = 0 by simpa using e2)
 have s3 := decls_ok (show declsW o.en c.loc = 0 by simpa using e3)
 have s4 : ∀ m, m ∈ c.mems → m.t ≠ 0 := fun m hm => by
  have : memOk o.en m = true := by
   cases hq : memOk o.en m with
   | true => rfl
   | false => exact absurd (List.any_eq_true.2 ⟨m, hm, by simp [hq]⟩) e4
  unfold memOk at this
  simp at this
  exact size_ne this.1
 have s6 : ∀ x, x ∈ c.ins → (findC (o.cl.take i) x.cl).2 = true := fun x hx => by
  cases hq : (findC (o.cl.take i) x.cl).2 with
  | true => rfl
  | false => exact absurd (List.any_eq_true.2 ⟨x, hx, by simp [hq]⟩) e6
 have z1 := fun d hd => size_ne (s1 d hd)
 have z2 := fun d hd => size_ne (s2 d hd)
 have z3 := fun d hd => size_ne (s3 d hd)
 have hnd := (dup_nodup c.names [] (by simpa using e5)).1
 unfold Cl.names at hnd
 obtain ⟨n1, nI, dI1⟩ := List.nodup_append.1 hnd
 obtain ⟨n2, nM, dM1⟩ := List.nodup_append.1 n1
 obtain ⟨n3, nL, dL1⟩ := List.nodup_append.1 n2
 obtain ⟨nN, nO, dO1⟩ := List.nodup_append.1 n3
 have hA : ((dV c.inn ++ dV c.out ++ dV c.loc).map (·.1)).Nodup := by
  simpa [dV, Function.comp_def] using n2
 rw [List.append_assoc] at hA
 have hP : ((dP c.out ++ dP c.loc).map (·.1)).Nodup := by
  have : (c.out.map Dc.nm ++ c.loc.map Dc.nm).Nodup := by
   rw [List.append_assoc] at n2
   exact (List.nodup_append.1 n2).2.1
  simpa [dP, Function.comp_def] using this
 have hset : ∀ x, setT c x ≠ 0 → findD c.inn x = 0 := by
  intro x hs
  by_cases hz : findD c.inn x = 0
  ·exact hz
  obtain ⟨d, hd, hdn, _⟩ := findD_mem hz
  have hx : x ∈ c.inn.map Dc.nm := List.mem_map.2 ⟨d, hd, hdn⟩
  unfold setT at hs
  split at hs
  ·obtain ⟨e, he, hen, _⟩ := findD_mem hs
   exact absurd rfl (dL1 x (List.mem_append_left _ hx) x (List.mem_map.2 ⟨e, he, hen⟩))
  ·rename_i hs2
   obtain ⟨e, he, hen, _⟩ := findD_mem hs2
   exact absurd rfl (dO1 x hx x (List.mem_map.2 ⟨e, he, hen⟩))
 have hpos : ∀ x, getT c x ≠ 0 → 0 < sizeE o.en (getT c x) := by
  intro x hg
  unfold getT at hg ⊢
  split at hg
  ·rename_i h0
   rw [if_pos h0]
   unfold setT at hg ⊢
   split at hg
   ·rename_i h1
    rw [if_pos h1]
    obtain ⟨d, hd, _, e⟩ := findD_mem hg
    rw [e]; exact s3 d hd
   ·rename_i h1
    rw [if_neg h1]
    obtain ⟨d, hd, _, e⟩ := findD_mem h1
    rw [e]; exact s2 d hd
  ·rename_i h0
   rw [if_neg h0]
   obtain ⟨d, hd, _, e⟩ := findD_mem h0
   rw [e]; exact s1 d hd
 refine ⟨fun x => ?_, fun x => ?_, fun x => ?_, fun x => ?_, ⟨findD_any z1, fun x hs => ?_, getT_i64 hok, hlen⟩, hpos⟩
 ·rw [← puts_app, ← puts_app, mget_puts hA, mget_app, mget_app, mget_dV z1, mget_dV z2, mget_dV z3]
  unfold getT setT
  by_cases h1 : findD c.inn x = 0 <;> by_cases h2 : findD c.out x = 0 <;> by_cases h3 : findD c.loc x = 0 <;> simp [h1, h2, h3]
 ·rw [← puts_app, mget_puts hP, mget_app, mget_dP z2, mget_dP z3]
  unfold setT
  by_cases h2 : findD c.out x = 0 <;> by_cases h3 : findD c.loc x = 0 <;> simp [h2, h3]
 ·rw [mget_puts (by simpa [mV, Function.comp_def] using nM), mget_mV s4]
 ·rw [mget_puts (by simpa [iV, Function.comp_def] using nI)]
  unfold mget iV findI
  rw [List.find?_map]
  rw [show ((fun p => decide (p.1 = x)) ∘ fun d : Ii => (d.nm, (findC (o.cl.take i) d.cl).1)) = fun d : Ii => decide (d.nm = x) from rfl]
  cases hf : List.find? (fun d : Ii => decide (d.nm = x)) c.ins with
  | none => rfl
  | some d =>
   have := s6 d (List.mem_of_find?_eq_some hf)
   have h2 := findC_take this
   simp only [Option.map_some, h2, this, if_true]
 ·unfold getT; rw [if_pos (hset x hs)]
theorem classP_eq (o : Oc) (i : Nat) (c : Cl) : classP o (o.cl.take i) c = classW o i c := by
 unfold classP classW headW declP
 cases (o.cl.take i).any (fun d => decide (d.nm = c.nm)) <;> simp
end Go.Ac
end

section
set_option maxRecDepth 4000
namespace Go.Ac
open Go.Proofs
mutual
/-- An instance of a class that is checked, with memories of their types. -/
def Trn.ok (o : Oc) : Trn → Prop
 | .mk c ms sb => c ∈ o.cl ∧ tyM o.en c ms ∧ okS o sb c.ins
def okS (o : Oc) : List Trn → List Ii → Prop
 | [], is => is = []
 | t :: ts, [] => False
 | t :: ts, i :: is => findC o.cl i.cl = (t.c, true) ∧ t.ok o ∧ okS o ts is
end
/-- What is known of a class that is checked. -/
structure CWf (o : Oc) (c : Cl) : Prop where
 nd : c.names.Nodup
 set : ∀ x, setT c x ≠ 0 → getT c x = setT c x
 pos : ∀ x, getT c x ≠ 0 → 0 < sizeE o.en (getT c x)
 inn : ∀ d, d ∈ c.inn → getT c d.nm = d.t ∧ d.t ≠ 0
 out : ∀ d, d ∈ c.out → getT c d.nm = d.t ∧ d.t ≠ 0
 mem : ∀ m, m ∈ c.mems → findM c.mems m.nm = m.t ∧ m.t ≠ 0 ∧ hasE o.en m.t m.ini = true
 step : wtL o c c.step
structure Es.ok (o : Oc) (c : Cl) (n : Nat) (s : Es) : Prop where
 v : tyV o.en c s.vs
 m : tyM o.en c s.ms
 b : okS o s.sb c.ins
 h : htL s.sb = n
section
variable {o : Oc} (hw : ∀ c, c ∈ o.cl → CWf o c)
include hw
theorem target_ok {c : Cl} (hc : CWf o c) {cx : List Pr} {bf : List Y} {nm : Tx} {t : Int} (h : targetW ⟨o, c, bf, cx⟩ nm t = 0) : setT c nm ≠ 0 ∧ getT c nm = t := by
 have _ := hw
 unfold targetW at h
 split at h
 ·simp at h
 rename_i h1
 split at h
 ·simp at h
 split at h
 ·simp at h
 rename_i h2
 exact ⟨h1, (hc.set nm h1).trans (Decidable.not_not.1 h2)⟩
/-- What a checked statement is. -/
theorem wtY.cases {c : Cl} (hc : CWf o c) {y : Y} (h : wtY o c y) :
  (y.k = 1 ∧ ∃ t, wtX o c y.r t ∧ setT c y.nm ≠ 0 ∧ getT c y.nm = t) ∨ (y.k = 2 ∧ wtX o c y.r (findM c.mems y.nm) ∧ findM c.mems y.nm ≠ 0) ∨
  (y.k = 3 ∧ getT c y.nm ≠ 0 ∧ getT c y.nm ≠ 2 ∧ (y.brs.length : Int) = sizeE o.en (getT c y.nm) ∧ ∀ b, b ∈ y.brs → wtL o c b) ∨
  (y.k = 4 ∧ (findI c.ins o.cl y.nm).2 = true ∧ y.args.length = (findI c.ins o.cl y.nm).1.inn.length ∧ y.outs.length = (findI c.ins o.cl y.nm).1.out.length ∧ ∃ cx bf, argsW ⟨o, c, bf, cx⟩ y.args (findI c.ins o.cl y.nm).1.inn = 0 ∧ outsW ⟨o, c, bf, cx⟩ [] y.outs (findI c.ins o.cl y.nm).1.out = 0) ∨
  (y.k = 5 ∧ (findI c.ins o.cl y.nm).2 = true) := by
 obtain ⟨cx, bf, h⟩ := h
 rw [stmtW_eq] at h
 split at h
 ·simp at h
 rename_i hf
 split at h
 ·rename_i k1
  split at h
  ·rename_i h1; exact absurd h h1
  rename_i h1
  have := target_ok hw hc h
  exact .inl ⟨k1, _, wtX_of (Decidable.not_not.1 h1), this.1, this.2⟩
 split at h
 ·rename_i _ k2
  split at h
  ·rename_i h1; exact absurd h h1
  rename_i h1
  split at h
  ·simp at h
  rename_i h2
  split at h
  ·simp at h
  rename_i h3
  refine .inr (.inl ⟨k2, ?_, h2⟩)
  rw [Decidable.not_not.1 h3]
  exact wtX_of (Decidable.not_not.1 h1)
 split at h
 ·rename_i _ _ k3
  split at h
  ·simp at h
  rename_i h1
  split at h
  ·simp at h
  split at h
  ·simp at h
  rename_i h2
  split at h
  ·simp at h
  rename_i h3
  exact .inr (.inr (.inl ⟨k3, h1, fun e => h2 (.inr e), Decidable.not_not.1 h3, wtB_of o c cx bf y.nm y.brs 0 h⟩))
 split at h
 ·rename_i _ _ _ k4
  unfold callW at h
  split at h
  ·simp at h
  rename_i h1
  split at h
  ·simp at h
  rename_i h2
  split at h
  ·rename_i h3; exact absurd h h3
  rename_i h3
  exact .inr (.inr (.inr (.inl ⟨k4, by simpa using h1, Decidable.not_not.1 fun e => h2 (.inl e), Decidable.not_not.1 fun e => h2 (.inr e), cx, bf, Decidable.not_not.1 h3, h⟩)))
 rename_i k1 k2 k3 k4
 split at h
 ·simp at h
 rename_i h1
 refine .inr (.inr (.inr (.inr ⟨?_, by simpa using h1⟩)))
 unfold fieldsE at hf
 rw [if_neg (by rintro (h | h); exact k1 h; exact k2 h), if_neg k3, if_neg k4] at hf
 split at hf
 ·assumption
 ·simp at hf
end
end Go.Ac
end

section
set_option maxRecDepth 4000
namespace Go.Ac
open Go.Proofs
theorem allW_at (o : Oc) : ∀ (l : List Cl) (i k : Nat) (c : Cl), allW o i l = 0 → l[k]? = some c → classW o (i + k) c = 0
 | [], i, k, c, h, hk => by simp at hk
 | x :: r, i, k, c, h, hk => by
  rw [allW] at h
  split at h
  ·rename_i hn; exact absurd h hn
  rename_i hn
  cases k with
  | zero => simp at hk; subst hk; exact Decidable.not_not.1 hn
  | succ k =>
   have := allW_at o r (i + 1) k c h (by simpa using hk)
   rwa [show i + (k + 1) = i + 1 + k by omega]
theorem any_false {α : Type} {l : List α} {p : α → Bool} (h : ¬ l.any p = true) : ∀ x, x ∈ l → p x = false := fun x hx => by
 cases hp : p x with
 | false => rfl
 | true => exact absurd (List.any_eq_true.2 ⟨x, hx, hp⟩) h
end Go.Ac
end

section
set_option maxRecDepth 4000
namespace Go.Ac
open Go.Proofs
/-- Where an instance lies: its object, its memories, the map of its instances. -/
structure Pb where
 x : Nat
 gx : Nat
 im : Nat
 gm : Nat
 ii : Nat
 gi : Nat
end Go.Ac
end

section
set_option maxRecDepth 4000
namespace Go.Ac
open Go.Proofs
theorem findC_at {l : List Cl} {x : Tx} (h : (findC l x).2 = true) : ∃ j : Nat, j < l.length ∧ l[j]? = some (findC l x).1 := by
 unfold findC at h ⊢
 cases hf : l.find? (fun d => decide (d.nm = x)) with
 | none => rw [hf] at h; cases h
 | some d =>
  obtain ⟨j, hj⟩ := List.mem_iff_getElem?.1 (List.mem_of_find?_eq_some hf)
  exact ⟨j, (List.getElem?_eq_some_iff.1 hj).1, hj⟩
/-- The classes of instances come earlier. -/
theorem ins_before {o : Oc} (h : checkRef o = 0) {i : Nat} {c : Cl} (hi : o.cl[i]? = some c) : ∀ d, d ∈ c.ins → ∃ j : Nat, j < i ∧ o.cl[j]? = some (findC o.cl d.cl).1 ∧ (findC o.cl d.cl).2 = true := by
 unfold checkRef at h
 split at h
 ·simp at h
 split at h
 ·simp at h
 have hk := allW_at o o.cl 0 i c h hi
 rw [Nat.zero_add] at hk
 unfold classW at hk
 split at hk
 ·rename_i hn; exact absurd hk hn
 rename_i hh
 clear hk
 have hh := Decidable.not_not.1 hh
 unfold headW at hh
 split at hh
 ·simp at hh
 split at hh
 ·rename_i hn; exact absurd hh hn
 split at hh
 ·rename_i hn; exact absurd hh hn
 split at hh
 ·rename_i hn; exact absurd hh hn
 split at hh
 ·simp at hh
 split at hh
 ·simp at hh
 split at hh
 ·simp at hh
 rename_i e6
 intro d hd
 have h1 := any_false e6 d hd
 have h2 : (findC (o.cl.take i) d.cl).2 = true := by simpa using h1
 have h3 := findC_take h2
 obtain ⟨j, hj, hja⟩ := findC_at h2
 rw [List.length_take] at hj
 refine ⟨j, by omega, ?_, by rw [h3]; exact h2⟩
 rw [h3, ← hja, List.getElem?_take, if_pos (by omega)]
end Go.Ac
end

section
set_option maxRecDepth 4000
namespace Go.Ac
open Go.Proofs
/-! ### Memory taken over -/
def shO (n c : Nat) (o : Ob) : Ob := ⟨o.gen + c, o.ro, shiftVs n c o.cells⟩
theorem shiftH_eq (n c : Nat) (l : List (Nat × Ob)) : shiftH n c l = l.map fun p => (p.1 + n, shO n c p.2) := rfl
theorem Hp.get_sets_mem : ∀ (wr : List (Nat × Ob)) (h : Hp) (j : Nat) (o : Ob), (∀ p, p ∈ wr → p.1 = j → p.2 = o) → (∃ p, p ∈ wr ∧ p.1 = j) → (Hp.sets h wr).get j = some o
 | [], h, j, o, _, hx => by obtain ⟨p, hp, _⟩ := hx; cases hp
 | (k, x) :: r, h, j, o, ho, hx => by
  simp only [Hp.sets]
  by_cases hr : ∃ p, p ∈ r ∧ p.1 = j
  ·exact Hp.get_sets_mem r _ j o (fun p hp => ho p (List.mem_cons_of_mem _ hp)) hr
  ·rw [Hp.get_sets_ne r _ j fun p hp he => hr ⟨p, hp, he⟩]
   obtain ⟨p, hp, he⟩ := hx
   rcases List.mem_cons.1 hp with rfl | hp
   ·simp only at he
    subst he
    rw [Hp.get_set_self, ← ho _ (List.mem_cons_self ..) rfl]
   ·exact absurd ⟨p, hp, he⟩ hr
theorem import_new {hp : Hp} {look : Look} {n c m id : Nat} {o : Ob} (h : id < m) (ho : look id = some o) : (hp.sets (shiftH n c (wrOf look (List.range m)))).get (id + n) = some (shO n c o) := by
 refine Hp.get_sets_mem _ _ _ _ (fun p hp hid => ?_) ⟨(id + n, shO n c o), ?_, rfl⟩
 ·rw [shiftH_eq, List.mem_map] at hp
  obtain ⟨x, hx, rfl⟩ := hp
  have h2 := (mem_wrOf2.1 hx).2
  have h3 : x.1 = id := by simp only at hid; omega
  rw [h3, ho] at h2
  rw [Option.some.inj h2]
 ·rw [shiftH_eq, List.mem_map]
  exact ⟨(id, o), mem_wrOf2.2 ⟨List.mem_range.2 h, ho⟩, rfl⟩
theorem import_old {hp : Hp} {look : Look} {n c m id : Nat} (h : id < n) : (hp.sets (shiftH n c (wrOf look (List.range m)))).get id = hp.get id := by
 refine Hp.get_sets_ne _ _ _ (fun p hp hid => ?_)
 rw [shiftH_eq, List.mem_map] at hp
 obtain ⟨x, hx, rfl⟩ := hp
 simp only at hid; omega
theorem addNew_zero (wl : List Nat) : ∀ l : List (Nat × Ob), addNew 0 wl l = wl
 | [] => rfl
 | (k, o) :: r => by
  have : Nat.blt k 0 = false := by cases k <;> rfl
  simp only [addNew, this]; exact addNew_zero wl r
attribute [local simp] addNew_zero
theorem shiftVs_map {α : Type} (n c : Nat) (e : α → V) (h : ∀ a, shiftV n c (e a) = e a) : ∀ l : List (Tx × α), shiftVs n c (l.map fun p => e p.2) = l.map fun p => e p.2
 | [] => rfl
 | p :: r => by
  simp only [List.map_cons, shiftVs, h]
  rw [shiftVs_map n c e h r]
theorem shift_mpC {α : Type} (n c g : Nat) (e : α → V) (h : ∀ a, shiftV n c (e a) = e a) (l : List (Tx × α)) : shO n c ⟨g, false, [mpC e l]⟩ = ⟨g + c, false, [mpC e l]⟩ := by
 unfold shO
 simp only [mpC, shiftVs, shiftV]
 rw [shiftVs_map n c e h l]
/-- The class object, taken over at place n. -/
theorem KG.import {hp : Hp} {n c1 : Nat} {o : Oc} {ea : List Cl} {x : Cl} {lv lm : List (Tx × Int)} {lp : List (Tx × Bool)} :
  KG (5 + n) (5 + c1) (1 + n) (1 + c1) (2 + n) (2 + c1) (3 + n) (3 + c1) (4 + n) (4 + c1) o ea x lv lp lm [] (hp.sets (shiftH n c1 (wrOf (nHp o.en ea x lv lp lm).get (List.range 6)))) (n + 6) := by
 refine ⟨?_, ?_, ?_, ?_, ?_, by omega, by omega, by omega, by omega, by omega⟩
 ·rw [import_new (by omega) (o := kO o.en ea x) rfl]
  simp [shO, kO, shiftVs, shiftV]
 ·rw [import_new (by omega) (o := ⟨1, false, [mpC eI lv]⟩) rfl, shift_mpC _ _ _ _ (fun a => rfl)]
 ·rw [import_new (by omega) (o := ⟨2, false, [mpC eBo lp]⟩) rfl, shift_mpC _ _ _ _ (fun a => rfl)]
 ·rw [import_new (by omega) (o := ⟨3, false, [mpC eI lm]⟩) rfl, shift_mpC _ _ _ _ (fun a => rfl)]
 ·rw [import_new (by omega) (o := ⟨4, false, [mpC eC []]⟩) rfl]
  simp [shO, mpC, shiftVs, shiftV]
theorem kf21 (r : Nat) : Ob.keep 21 r = Ob.k21 r := by kernel_rfl
attribute [local simp] kf21 Ob.k21
set_option maxHeartbeats 8000000 in
theorem check_den (o : Oc) (hsz : o.sz ≤ 2097152) (hok : o.ok) : den Tryz.prog Ob.cfg 21 [aG o.cells] = some (dI (checkRef o)) := by
 unfold Oc.sz at hsz
 have k1 := len_szE o.en
 have k2 := len_szC o.cl
 refine den_wp Tryz.func21 rfl (by kernel_rfl) rfl rfl ?_
 unfold checkRef
 by_cases c1 : 24 < o.en.length
 ·rw [if_pos c1]
  have c1' : ((24 : Int) < o.en.length) = True := eq_true (by omega)
  have c1'' := eq_true c1
  refine wkcitv (jn @aG.eq_1 (jn @Oc.cells.eq_1 (jn @dI.eq_1 (jn @dL.eq_1 (jn @c1' @c1''))))) ?_
  show retQ _ _ _ _ _
  exact ⟨.inr rfl, _, _, rfl, rfl⟩
 rw [if_neg c1]
 have c1' : ((24 : Int) < o.en.length) = False := eq_false (by omega)
 have c1'' := eq_false c1
 refine wkcitv (jn @aG.eq_1 (jn @Oc.cells.eq_1 (jn @dI.eq_1 (jn @dL.eq_1 (jn @c1' @c1''))))) ?_
 apply WP.loop' (I := fun D s => ∃ k : Nat, k + D = o.en.length ∧ (o.en.take k).all (fun u => !enBad u) = true ∧ SE [(1, .ptr 0 0 0), (13, dL (encE o.en)), (14, dI o.en.length), (15, dI k)] [(0, ⟨0, false, o.cells.map .d⟩)] 1 s) (d := o.en.length)
 ·exact ⟨0, by simp, by simp, SE.mk (by simp [dI, dL]) (by simp [Oc.cells])⟩
 rintro D _ ⟨k, hk, hno, cc, rfl⟩
 refine wkitv (jn @dI.eq_1 (jn @dL.eq_1 @Oc.cells.eq_1)) ?_
 show WP _ _ _ _ _ _
 refine WP.cond _ rfl (fun hb => ?_) (fun hb => ?_)
 ·simp at hb
  have hb' : k < o.en.length := by omega
  obtain ⟨d, hd, hdm, hix⟩ := at_lt hb'
  have hd' := encE_at hd
  have hwk := w_succ hb' (by omega)
  have hs := all_snoc (p := fun u => !enBad u) hd
  by_cases e1 : d.tags = []
  ·rw [if_pos (List.any_eq_true.2 ⟨d, hdm, by simp [enBad, e1]⟩)]
   refine wkcitv (jn @dI.eq_1 (jn @dL.eq_1 (jn @Oc.cells.eq_1 (jn @hix (jn @hd' (jn @En.cells.eq_1 (jn @encS_len (jn @len0 (jn @e1 (jn @fillV.eq_1 @fillV.eq_2)))))))))) ?_
   show retQ _ _ _ _ _
   exact ⟨.inr rfl, _, _, rfl, rfl⟩
  by_cases e2 : 16 < d.tags.length
  ·have e2' : ((16 : Int) < d.tags.length) = True := eq_true (by omega)
   have e2'' := eq_true e2
   rw [if_pos (List.any_eq_true.2 ⟨d, hdm, by simp [enBad, e2]⟩)]
   refine wkcitv (jn @dI.eq_1 (jn @dL.eq_1 (jn @Oc.cells.eq_1 (jn @hix (jn @hd' (jn @En.cells.eq_1 (jn @encS_len (jn @len0 (jn @int_beq (jn @e1 (jn @e2' (jn @e2'' (jn @fillV.eq_1 @fillV.eq_2))))))))))))) ?_
   show retQ _ _ _ _ _
   exact ⟨.inr rfl, _, _, rfl, rfl⟩
  ·have e2' : ((16 : Int) < d.tags.length) = False := eq_false (by omega)
   have e2'' := eq_false e2
   have hbd : enBad d = false := by unfold enBad; rw [dFalse e2]; simpa using e1
   rw [hbd] at hs
   refine wkcitv (jn @dI.eq_1 (jn @dL.eq_1 (jn @Oc.cells.eq_1 (jn @hix (jn @hd' (jn @En.cells.eq_1 (jn @encS_len (jn @len0 (jn @int_beq (jn @e1 (jn @e2' (jn @e2'' (jn @fillV.eq_1 @fillV.eq_2))))))))))))) ?_
   refine loop_next (by simp [hwk]; exact Is.rfl) ?_
   exact ⟨D - 1, by omega, k + 1, by omega, by rw [hs, hno]; rfl, SE.mk (by simp [dI, dL, hwk]) (by simp [Oc.cells])⟩
 simp at hb
 have hke : k = o.en.length := by omega
 rw [hke, List.take_length] at hno
 rw [if_neg (by rw [any_no (p := enBad) hno]; simp)]
 have hen : ∀ t, knownE o.en t = decide (0 < sizeE o.en t) := known_size fun u hu => by simpa using List.all_eq_true.1 hno u hu
 clear hno hke hb hk
 refine wkcitv (jn @dI.eq_1 (jn @dL.eq_1 @Oc.cells.eq_1)) ?_
 apply WP.loop' (I := fun D s => ∃ (k c' : Nat) (hp' : Hp), k + D = o.cl.length ∧ allW o k (o.cl.drop k) = allW o 0 o.cl ∧ hp'.get 0 = some ⟨0, false, o.cells.map .d⟩ ∧ s = ⟨[(1, .ptr 0 0 0), (31, dL (encC o.cl)), (32, dI o.cl.length), (33, dI k)], hp', 1, c', 0, []⟩) (d := o.cl.length)
 ·exact ⟨0, _, _, by simp, by simp, by simp [Oc.cells], st_eq (by simp [dI, dL]) rfl⟩
 rintro D _ ⟨k, c', hp', hk, hv, hx0, rfl⟩
 simp only [Oc.cells, List.map_cons, List.map_nil] at hx0
 refine wkitv (jn @dI.eq_1 @dL.eq_1) ?_
 show WP _ _ _ _ _ _
 refine WP.cond _ rfl (fun hb => ?_) (fun hb => ?_)
 ·simp at hb
  have hb' : k < o.cl.length := by omega
  obtain ⟨c, hc, hcm, hix⟩ := at_lt hb'
  have hc' := encC_at hc
  have hwk := w_succ hb' (by omega)
  have hcs := mem_szC hcm
  unfold Cl.sz at hcs
  have l1 := len_szD c.inn
  have l2 := len_szD c.out
  have l3 := len_szD c.loc
  have l4 := len_szM c.mems
  have l5 := len_szJ c.ins
  have hcok := hok c hcm
  have hsl := fun look e b z => slice_rows look e b z (encC_row o.cl) (j := k) (by rw [encC_len]; omega)
  have etk := encC_take o.cl k
  rw [drop_at hc, allW] at hv
  refine wkcitv (jn @dI.eq_1 (jn @dL.eq_1 (jn @Hp.get_set (jn @hx0 (jn @hix (jn @hc' (jn @Cl.cells.eq_1 (jn @fillV.eq_1 @fillV.eq_2)))))))) ?_
  apply WP.gen3
  intro hp1 c1 wl1 hhp hwl
  have hwl0 : wl1 = [] := hwl
  have hy0 : hp1.get 0 = some ⟨0, false, [V.d (.slice (encE o.en)), V.d (.slice (encC o.cl))]⟩ := by rw [hhp]; simp [Hp.get_set, hx0]
  obtain ⟨g1, hy1⟩ : ∃ g1, g1 = c' := ⟨_, rfl⟩
  have hy1 : hp1.get 1 = some ⟨c', false, [V.d (.str c.nm), V.d (.slice (encD c.inn)), V.d (.slice (encD c.out)), V.d (.slice (encD c.loc)), V.d (.slice (encM c.mems)), V.d (.slice (encJ c.ins)), V.d (.slice (encY c.step))]⟩ := by rw [hhp]; simp [Hp.get_set]
  subst hwl0
  clear hhp hwl
  obtain ⟨q, hI1, hqv, hqn, hqh⟩ := new29 o.en (o.cl.take k) c (by omega)
  have hI2 : closeT noLook q.v = none := by rw [hqv]; rfl
  have hI3 : shiftV 2 c1 q.v = .ptr 7 (5 + c1) 0 := by rw [hqv]; rfl
  obtain ⟨W1, hI4⟩ : ∃ W, shiftH 2 c1 (wrOf q.hp.get (List.range q.n)) = W := ⟨_, rfl⟩
  have hKG : KG 7 (5 + c1) 3 (1 + c1) 4 (2 + c1) 5 (3 + c1) 6 (4 + c1) o (o.cl.take k) c (puts (puts (puts [] (dV c.inn)) (dV c.out)) (dV c.loc)) (puts (puts [] (dP c.out)) (dP c.loc)) (puts [] (mV c.mems)) [] (hp1.sets W1) (2 + q.n) := by
   rw [← hI4, hqh, hqn]; exact KG.import (n := 2) (c1 := c1)
  have hfr0 : (hp1.sets W1).get 0 = hp1.get 0 := by rw [← hI4, import_old (by omega)]
  obtain ⟨q2, hT1, hqv2, hqn2, hT2, hki, hfr, _⟩ := (check30 (cc := c1 + q.c) hen (by rw [List.length_take]; unfold MX; omega) ⟨by omega⟩ hcok (by omega) (hp1.sets W1) (2 + q.n) ⟨by omega, by omega, by omega, by omega⟩ hKG (fun hz => kf_of hcok (by unfold MX; omega) hz)).caller (by intro j hj; simp at hj; omega)
  have hfr1 : ((hp1.sets W1).sets (tWr q2 (2 + q.n))).get 0 = some ⟨0, false, [V.d (.slice (encE o.en)), V.d (.slice (encC o.cl))]⟩ := by rw [hfr 0 (by omega) (by simp), hfr0, hy0]
  rw [classP_eq] at hqv2
  simp only [dL, dI, aG, Cl.cells, List.map_cons, List.map_nil] at hI1 hqv2
  by_cases c2 : classW o k c = 0
  case neg =>
   have c2' := eq_false c2
   rw [if_pos c2] at hv
   rw [← hv]
   refine wkcitv (jn @dI.eq_1 (jn @dL.eq_1 (jn @hy0 (jn @hy1 (jn @hsl (jn @etk (jn @hqv2 (jn @int_bne @c2')))))))) ?_
   show retQ _ _ _ _ _
   exact ⟨.inr rfl, _, _, rfl, rfl⟩
  rw [if_neg (by simp [c2])] at hv
  rw [c2] at hqv2
  refine wkcitv (jn @dI.eq_1 (jn @dL.eq_1 (jn @hy0 (jn @hy1 (jn @hsl (jn @etk (jn @hqv2 @int_bne))))))) ?_
  refine loop_next (by simp [hwk]; exact Is.rfl) ?_
  exact ⟨D - 1, by omega, k + 1, _, _, by omega, hv, by rw [Hp.get_trunc _ _ _ (by omega)]; exact hfr1, st_eq (by simp [dI, dL, hwk]) rfl⟩
 ·simp at hb
  have hke : k = o.cl.length := by omega
  rw [hke, List.drop_length, allW] at hv
  rw [← hv]
  refine wkcitv (jn @dI.eq_1 @dL.eq_1) ?_
  show retQ _ _ _ _ _
  exact ⟨.inr rfl, _, _, rfl, rfl⟩
end Go.Ac
end

section
set_option maxRecDepth 4000
namespace Go.Ac
open Go.Proofs
/-! ### Classes of instances -/
theorem findC_nm {l : List Cl} {x : Tx} (h : (findC l x).2 = true) : (findC l x).1.nm = x := by
 unfold findC at h ⊢
 cases hf : l.find? (fun d => decide (d.nm = x)) with
 | none => rw [hf] at h; cases h
 | some d => simpa using List.find?_some hf
theorem findC_ix {l : List Cl} {x : Tx} (h : (findC l x).2 = true) : ∃ j : Nat, ixP (fun d : Cl => decide (d.nm = x)) l = j ∧ l[j]? = some (findC l x).1 ∧ ∀ (k : Nat) (d : Cl), l[k]? = some d → d.nm = x → j ≤ k := by
 unfold findC at h ⊢
 cases hf : l.find? (fun d => decide (d.nm = x)) with
 | none => rw [hf] at h; cases h
 | some d =>
  have hf2 := hf
  rw [List.find?_eq_getElem?_findIdx] at hf2
  have hlt := (List.getElem?_eq_some_iff.1 hf2).1
  refine ⟨l.findIdx (fun d => decide (d.nm = x)), ?_, hf2, fun k e hk he => ?_⟩
  ·unfold ixP
   rw [List.findIdx?_eq_some_iff_findIdx_eq.2 ⟨hlt, rfl⟩]
  ·rcases Nat.lt_or_ge k (List.findIdx (fun d : Cl => decide (d.nm = x)) l) with hk2 | hk2
   ·exfalso
    have := List.not_of_lt_findIdx hk2
    obtain ⟨h1, h2⟩ := List.getElem?_eq_some_iff.1 hk
    rw [h2] at this
    simp [he] at this
   ·exact hk2
/-- The classes of instances, by their places. -/
theorem ins_ix {o : Oc} (h : checkRef o = 0) {i : Nat} {c : Cl} (hi : o.cl[i]? = some c) : ∀ d, d ∈ c.ins → ∃ j : Nat, j < i ∧ ixP (fun e : Cl => decide (e.nm = d.cl)) o.cl = j ∧ o.cl[j]? = some (findC o.cl d.cl).1 := by
 intro d hd
 obtain ⟨j, hj, hja, hjt⟩ := ins_before h hi d hd
 obtain ⟨j2, h1, h2, h3⟩ := findC_ix hjt
 have := h3 j _ hja (findC_nm hjt)
 exact ⟨j2, by omega, h1, h2⟩
end Go.Ac
end

section
set_option maxRecDepth 4000
namespace Go.Ac
open Go.Proofs
attribute [local simp] Hp.get_set addNew_zero get_trunc_lt
/-- No two classes have one name. -/
theorem cls_uniq {o : Oc} (h : checkRef o = 0) {i : Nat} {c : Cl} (hi : o.cl[i]? = some c) : findC o.cl c.nm = (c, true) := by
 have h' := h
 unfold checkRef at h
 split at h
 ·simp at h
 split at h
 ·simp at h
 have hk := allW_at o o.cl 0 i c h hi
 rw [Nat.zero_add] at hk
 unfold classW at hk
 split at hk
 ·rename_i hn; exact absurd hk hn
 rename_i hh
 clear hk
 have hh := Decidable.not_not.1 hh
 unfold headW at hh
 split at hh
 ·simp at hh
 rename_i e0
 have hlt := (List.getElem?_eq_some_iff.1 hi).1
 have e0 := any_false e0
 have hc2 : (findC o.cl c.nm).2 = true := by
  unfold findC
  cases hf : o.cl.find? (fun d => decide (d.nm = c.nm)) with
  | some d => rfl
  | none =>
   rw [List.find?_eq_none] at hf
   have := hf c (List.mem_of_getElem? hi)
   simp at this
 obtain ⟨j, _, hja, hmin⟩ := findC_ix hc2
 have hji := hmin i c hi rfl
 have hnm := findC_nm hc2
 have : j = i := by
  rcases Nat.lt_or_ge j i with hl | hl
  ·exfalso
   have hm : (findC o.cl c.nm).1 ∈ o.cl.take i := by
    rw [List.mem_take_iff_getElem]
    obtain ⟨g1, g2⟩ := List.getElem?_eq_some_iff.1 hja
    exact ⟨j, by omega, g2⟩
   have := e0 _ hm
   simp [hnm] at this
  ·omega
 subst this
 rw [hi] at hja
 exact Prod.ext (Option.some.inj hja).symm hc2

end Go.Ac
end

section
set_option maxRecDepth 4000
namespace Go.Ac
open Go.Proofs
/-! ### Sizes by names -/
/-- The size of a class's memory, cut at a bound, if those of other classes are known. -/
def szF (B : Int) (S : List (Tx × Int)) (m : Int) (l : List Ii) : Int := l.foldl (fun n d => min (n + gz S d.cl) B) m
def szK (B : Int) (S : List (Tx × Int)) (c : Cl) : Int := min (szF B S c.mems.length c.ins) B
/-- The sizes of all classes, by names. -/
def szL (B : Int) (l : List Cl) : List (Tx × Int) := l.foldl (fun S c => mput S c.nm (szK B S c)) []
/-- The same without a bound. -/
def tzF (S : List (Tx × Int)) (m : Int) (l : List Ii) : Int := l.foldl (fun n d => n + gz S d.cl) m
def tzL (l : List Cl) : List (Tx × Int) := l.foldl (fun S c => mput S c.nm (tzF S c.mems.length c.ins)) []
theorem szF_snoc (B : Int) (S : List (Tx × Int)) (m : Int) (l : List Ii) (d : Ii) : szF B S m (l ++ [d]) = min (szF B S m l + gz S d.cl) B := by unfold szF; rw [List.foldl_append]; rfl
theorem tzL_snoc (l : List Cl) (c : Cl) : tzL (l ++ [c]) = mput (tzL l) c.nm (tzF (tzL l) c.mems.length c.ins) := by unfold tzL; rw [List.foldl_append]; rfl
theorem szL_snoc (B : Int) (l : List Cl) (c : Cl) : szL B (l ++ [c]) = mput (szL B l) c.nm (szK B (szL B l) c) := by unfold szL; rw [List.foldl_append]; rfl
theorem tzF_ge {S : List (Tx × Int)} (hS : ∀ x, 0 ≤ gz S x) (l : List Ii) : ∀ m : Int, m ≤ tzF S m l := by
 induction l with
 | nil => intro m; exact Int.le_refl m
 | cons d r ih =>
  intro m
  have h1 := ih (m + gz S d.cl)
  have h2 := hS d.cl
  show m ≤ tzF S (m + gz S d.cl) r
  omega
theorem cap_add {m n s B : Int} (hn : 0 ≤ n) (hs : 0 ≤ s) (hB : 0 ≤ B) (e : min m B = min n B) : min (min (m + min s B) B) B = min (n + s) B := by
 simp only [Int.min_def] at e ⊢
 repeat' split at e
 all_goals (repeat' split)
 all_goals omega
/-- Sums that are cut at a bound. -/
theorem cap_fold {f g : Ii → Int} {B : Int} (hB : 0 ≤ B) : ∀ (l : List Ii), (∀ d, d ∈ l → 0 ≤ g d ∧ f d = min (g d) B) → ∀ m n : Int, 0 ≤ n → min m B = min n B → min (l.foldl (fun n d => min (n + f d) B) m) B = min (l.foldl (fun n d => n + g d) n) B
 | [], _, m, n, _, e => e
 | d :: r, h, m, n, hn, e => by
  obtain ⟨h1, h2⟩ := h d (List.mem_cons_self ..)
  have e2 := cap_add hn h1 hB e
  rw [← h2] at e2
  exact cap_fold hB r (fun d hd => h d (List.mem_cons_of_mem _ hd)) (min (m + f d) B) (n + g d) (by omega) e2
theorem cap_exact {f g : Ii → Int} {B : Int} : ∀ (l : List Ii), (∀ d, d ∈ l → 0 ≤ g d ∧ f d = min (g d) B) → ∀ m : Int, 0 ≤ m → l.foldl (fun n d => n + g d) m ≤ B → l.foldl (fun n d => min (n + f d) B) m = l.foldl (fun n d => n + g d) m
 | [], _, m, _, _ => rfl
 | d :: r, h, m, hm, hB => by
  obtain ⟨h1, h2⟩ := h d (List.mem_cons_self ..)
  have hr : ∀ e, e ∈ r → 0 ≤ g e ∧ f e = min (g e) B := fun d hd => h d (List.mem_cons_of_mem _ hd)
  have hge : ∀ (r : List Ii), (∀ e, e ∈ r → 0 ≤ g e) → ∀ m : Int, m ≤ r.foldl (fun n d => n + g d) m := by
   intro r
   induction r with
   | nil => intro _ m; exact Int.le_refl m
   | cons e r ih =>
    intro hr m
    have a1 := ih (fun e he => hr e (List.mem_cons_of_mem _ he)) (m + g e)
    have a2 := hr e (List.mem_cons_self ..)
    show m ≤ r.foldl (fun n d => n + g d) (m + g e)
    omega
  have h3 := hge r (fun e he => (hr e he).1) (m + g d)
  have hB' : r.foldl (fun n d => n + g d) (m + g d) ≤ B := hB
  have e : min (m + f d) B = m + g d := by rw [h2]; omega
  show r.foldl (fun n d => min (n + f d) B) (min (m + f d) B) = r.foldl (fun n d => n + g d) (m + g d)
  rw [e]
  exact cap_exact r hr _ (by omega) hB'
theorem gz_nil (x : Tx) : gz [] x = 0 := by rfl
theorem snoc_ind {α : Type} {p : List α → Prop} (h0 : p []) (hs : ∀ r c, p r → p (r ++ [c])) (l : List α) : p l := by
 rw [← List.reverse_reverse l]
 induction l.reverse with
 | nil => exact h0
 | cons c r ih => rw [List.reverse_cons]; exact hs _ _ ih
theorem tzL_nn (l : List Cl) : ∀ x, 0 ≤ gz (tzL l) x := by
 refine snoc_ind (p := fun l => ∀ x, 0 ≤ gz (tzL l) x) ?_ (fun r c ih => ?_) l
 ·intro x; rw [show tzL [] = [] from rfl, gz_nil]; exact Int.le_refl 0
 ·intro x
  rw [tzL_snoc, gz_put]
  split
  ·have := tzF_ge ih c.ins c.mems.length; omega
  ·exact ih x
theorem szL_cap {B : Int} (hB : 0 ≤ B) (l : List Cl) : ∀ x, gz (szL B l) x = min (gz (tzL l) x) B := by
 refine snoc_ind (p := fun l => ∀ x, gz (szL B l) x = min (gz (tzL l) x) B) ?_ (fun r c ih => ?_) l
 ·intro x; rw [show tzL [] = [] from rfl, show szL B [] = [] from rfl, gz_nil]; omega
 ·intro x
  rw [tzL_snoc, szL_snoc, gz_put, gz_put]
  split
  ·exact cap_fold (f := fun d => gz (szL B r) d.cl) (g := fun d => gz (tzL r) d.cl) hB c.ins (fun d _ => ⟨tzL_nn r d.cl, ih d.cl⟩) _ _ (by omega) rfl
  ·exact ih x
/-! ### Sizes by places -/
/-- The place of a class. -/
def clX (cl : List Cl) (x : Tx) : Nat := cl.findIdx fun d => decide (d.nm = x)
def rzF (B : Int) (cl : List Cl) (R : List Int) (m : Int) (l : List Ii) : Int := l.foldl (fun n d => min (n + R.getD (clX cl d.cl) 0) B) m
def rzL (B : Int) (cl : List Cl) (l : List Cl) : List Int := l.foldl (fun R c => R ++ [min (rzF B cl R c.mems.length c.ins) B]) []
theorem rzF_snoc (B : Int) (cl : List Cl) (R : List Int) (m : Int) (l : List Ii) (d : Ii) : rzF B cl R m (l ++ [d]) = min (rzF B cl R m l + R.getD (clX cl d.cl) 0) B := by unfold rzF; rw [List.foldl_append]; rfl
theorem rzL_snoc (B : Int) (cl l : List Cl) (c : Cl) : rzL B cl (l ++ [c]) = rzL B cl l ++ [min (rzF B cl (rzL B cl l) c.mems.length c.ins) B] := by unfold rzL; rw [List.foldl_append]; rfl
theorem rzL_len (B : Int) (cl l : List Cl) : (rzL B cl l).length = l.length := by
 refine snoc_ind (p := fun l => (rzL B cl l).length = l.length) rfl (fun r c ih => ?_) l
 rw [rzL_snoc, List.length_append, List.length_append, ih]; rfl
theorem clX_ix {l : List Cl} {x : Tx} {j : Nat} (h : ixP (fun d : Cl => decide (d.nm = x)) l = j) : clX l x = j := by
 unfold ixP at h
 cases hf : l.findIdx? (fun d => decide (d.nm = x)) with
 | none => rw [hf] at h; simp at h
 | some i =>
  rw [hf] at h
  have := List.findIdx?_eq_some_iff_findIdx_eq.1 hf
  unfold clX
  simp only at h
  omega
/-- Classes are found at their places. -/
theorem clX_at {o : Oc} (h : checkRef o = 0) {i : Nat} {c : Cl} (hi : o.cl[i]? = some c) : clX o.cl c.nm = i := by
 have h' := h
 unfold checkRef at h
 split at h
 ·simp at h
 split at h
 ·simp at h
 have hk := allW_at o o.cl 0 i c h hi
 rw [Nat.zero_add] at hk
 unfold classW at hk
 split at hk
 ·rename_i hn; exact absurd hk hn
 rename_i hh
 clear hk
 have hh := Decidable.not_not.1 hh
 unfold headW at hh
 split at hh
 ·simp at hh
 rename_i e0
 have e0 := any_false e0
 obtain ⟨j, g1, hja, hmin⟩ := findC_ix (l := o.cl) (x := c.nm) (by rw [cls_uniq h' hi])
 have hji := hmin i c hi rfl
 rw [cls_uniq h' hi] at hja
 rw [clX_ix g1]
 rcases Nat.lt_or_ge j i with hl | hl
 ·exfalso
  have hm : c ∈ o.cl.take i := by
   rw [List.mem_take_iff_getElem]
   obtain ⟨g1, g2⟩ := List.getElem?_eq_some_iff.1 hja
   exact ⟨j, by have := (List.getElem?_eq_some_iff.1 hi).1; omega, g2⟩
  have := e0 _ hm
  simp at this
 ·omega
theorem tzL_app {x : Tx} (a : List Cl) : ∀ (b : List Cl), x ∉ b.map Cl.nm → gz (tzL (a ++ b)) x = gz (tzL a) x := by
 refine snoc_ind (fun _ => by rw [List.append_nil]) fun r c ih hx => ?_
 rw [List.map_append, List.mem_append] at hx
 rw [← List.append_assoc, tzL_snoc, gz_put, if_neg, ih fun h => hx (.inl h)]
 intro e
 exact hx (.inr (by simp [e]))
/-- A class's size does not change later on. -/
theorem tzL_take {o : Oc} (h : checkRef o = 0) {j k : Nat} {c : Cl} (hj : o.cl[j]? = some c) (hk : j < k) : gz (tzL (o.cl.take k)) c.nm = gz (tzL o.cl) c.nm := by
 conv => rhs; rw [← List.take_append_drop k o.cl]
 rw [tzL_app]
 intro hm
 obtain ⟨d, hd, he⟩ := List.mem_map.1 hm
 obtain ⟨i, hi⟩ := List.mem_iff_getElem?.1 hd
 rw [List.getElem?_drop] at hi
 have h1 := clX_at h hj
 have h2 := clX_at h hi
 rw [he] at h2
 omega
/-- The class of an instance. -/
theorem ins_nm {o : Oc} (h : checkRef o = 0) {i : Nat} {c : Cl} (hi : o.cl[i]? = some c) : ∀ d, d ∈ c.ins → ∃ (j : Nat) (e : Cl), j < i ∧ o.cl[j]? = some e ∧ e.nm = d.cl ∧ clX o.cl d.cl = j := by
 intro d hd
 obtain ⟨j, hj, h1, h2⟩ := ins_ix h hi d hd
 obtain ⟨_, _, h3, h4⟩ := ins_before h hi d hd
 exact ⟨j, _, hj, h2, findC_nm h4, clX_ix h1⟩
/-- The size of a class's memory. -/
def tz (o : Oc) (nm : Tx) : Int := gz (tzL o.cl) nm
theorem tz_nn (o : Oc) (nm : Tx) : 0 ≤ tz o nm := tzL_nn _ _
def tzI (o : Oc) (m : Int) (l : List Ii) : Int := l.foldl (fun n d => n + tz o d.cl) m
theorem tz_at {o : Oc} (h : checkRef o = 0) {i : Nat} {c : Cl} (hi : o.cl[i]? = some c) : tz o c.nm = tzI o c.mems.length c.ins := by
 unfold tz
 rw [← tzL_take h hi (Nat.lt_succ_self i), take_snoc hi, tzL_snoc, gz_put, if_pos rfl]
 unfold tzF tzI tz
 have hg : ∀ d, d ∈ c.ins → gz (tzL (o.cl.take i)) d.cl = gz (tzL o.cl) d.cl := fun d hd => by
  obtain ⟨j, e, h1, h2, h3, _⟩ := ins_nm h hi d hd
  rw [← h3]; exact tzL_take h h2 h1
 generalize c.ins = l at hg
 generalize (c.mems.length : Int) = m
 induction l generalizing m with
 | nil => rfl
 | cons d r ih =>
  rw [List.foldl_cons, List.foldl_cons, hg d (List.mem_cons_self ..)]
  exact ih (fun d hd => hg d (List.mem_cons_of_mem _ hd)) _
/-- The reference's sizes. -/
theorem rzL_cap {o : Oc} (h : checkRef o = 0) {B : Int} (hB : 0 ≤ B) : ∀ (k : Nat), k ≤ o.cl.length → ∀ (j : Nat) (c : Cl), j < k → o.cl[j]? = some c → (rzL B o.cl (o.cl.take k)).getD j 0 = min (tz o c.nm) B
 | 0, _, j, c, hj, _ => by omega
 | k + 1, hk, j, c, hj, hc => by
  obtain ⟨d, hd⟩ : ∃ d, o.cl[k]? = some d := ⟨_, List.getElem?_eq_getElem (by omega)⟩
  have hl := rzL_len B o.cl (o.cl.take k)
  rw [List.length_take, Nat.min_eq_left (by omega)] at hl
  rw [take_snoc hd, rzL_snoc]
  by_cases hjk : j < k
  ·rw [List.getD_eq_getElem?_getD, List.getElem?_append_left (by omega), ← List.getD_eq_getElem?_getD]
   exact rzL_cap h hB k (by omega) j c hjk hc
  ·have : j = k := by omega
   subst this
   rw [hc] at hd
   have hd := Option.some.inj hd
   subst hd
   rw [List.getD_eq_getElem?_getD, List.getElem?_append_right (by omega), hl, Nat.sub_self, tz_at h hc]
   refine cap_fold (f := fun d => (rzL B o.cl (o.cl.take j)).getD (clX o.cl d.cl) 0) (g := fun d => tz o d.cl) hB c.ins (fun d hd => ⟨tz_nn o d.cl, ?_⟩) _ _ (by omega) rfl
   obtain ⟨i, e, h1, h2, h3, h4⟩ := ins_nm h hc d hd
   rw [h4, ← h3]
   exact rzL_cap h hB j (by omega) i e h1 h2
/-! ### Offsets -/
/-- The offset of an instance and its place, cut at a bound. -/
def offF (B : Int) (S : List (Tx × Int)) : Int → Nat → List Ii → Tx → Int × Int
 | n, _, [], _ => (0, -1)
 | n, i, d :: r, nm => if d.nm = nm then (n, i) else offF B S (min (n + gz S d.cl) B) (i + 1) r nm
theorem offF_none {B : Int} {S : List (Tx × Int)} {nm : Tx} : ∀ (l : List Ii) (n : Int) (i : Nat), (∀ d, d ∈ l → d.nm ≠ nm) → offF B S n i l nm = (0, -1)
 | [], n, i, _ => rfl
 | d :: r, n, i, h => by
  rw [offF, if_neg (h d (List.mem_cons_self ..))]
  exact offF_none r _ _ fun e he => h e (List.mem_cons_of_mem _ he)
theorem offF_at {B : Int} {S : List (Tx × Int)} {nm : Tx} {d : Ii} (hd : d.nm = nm) : ∀ (a b : List Ii) (n : Int) (i : Nat), (∀ e, e ∈ a → e.nm ≠ nm) → offF B S n i (a ++ d :: b) nm = (szF B S n a, ((i + a.length : Nat) : Int))
 | [], b, n, i, _ => by rw [List.nil_append, offF, if_pos hd]; rfl
 | e :: a, b, n, i, h => by
  rw [List.cons_append, offF, if_neg (h e (List.mem_cons_self ..)), offF_at hd a b _ _ fun x hx => h x (List.mem_cons_of_mem _ hx)]
  rw [List.length_cons, show i + 1 + a.length = i + (a.length + 1) by omega]
  rfl
theorem tzI_app (o : Oc) (m : Int) (a b : List Ii) : tzI o m (a ++ b) = tzI o (tzI o m a) b := by unfold tzI; rw [List.foldl_append]
theorem tzI_ge (o : Oc) (l : List Ii) : ∀ m : Int, m ≤ tzI o m l := by
 induction l with
 | nil => intro m; exact Int.le_refl m
 | cons d r ih =>
  intro m
  have h1 := ih (m + tz o d.cl)
  have h2 := tz_nn o d.cl
  show m ≤ tzI o (m + tz o d.cl) r
  omega
/-- Sizes that are within the bound are exact. -/
theorem szF_exact {o : Oc} {B : Int} (hB : 0 ≤ B) (l : List Ii) (m : Int) (hm : 0 ≤ m) (h : tzI o m l ≤ B) : szF B (szL B o.cl) m l = tzI o m l :=
 cap_exact (f := fun d => gz (szL B o.cl) d.cl) (g := fun d => tz o d.cl) l (fun d _ => ⟨tz_nn o d.cl, szL_cap hB o.cl d.cl⟩) m hm h
/-- The reference's offset. -/
def roF (R : List Int) (cl : List Cl) (m : Int) (l : List Ii) : Int := l.foldl (fun n d => n + R.getD (clX cl d.cl) 0) m
theorem roF_snoc (R : List Int) (cl : List Cl) (m : Int) (l : List Ii) (d : Ii) : roF R cl m (l ++ [d]) = roF R cl m l + R.getD (clX cl d.cl) 0 := by unfold roF; rw [List.foldl_append]; rfl
theorem roF_exact {o : Oc} (h : checkRef o = 0) {B : Int} (hB : 0 ≤ B) {i : Nat} {c : Cl} (hi : o.cl[i]? = some c) : ∀ (l : List Ii) (m : Int), (∀ d, d ∈ l → d ∈ c.ins) → 0 ≤ m → tzI o m l ≤ B → roF (rzL B o.cl o.cl) o.cl m l = tzI o m l
 | [], m, _, _, _ => rfl
 | d :: r, m, hl, hm, hB2 => by
  have h0 := tz_nn o d.cl
  have h1 := tzI_ge o r (m + tz o d.cl)
  have h2 : tzI o (m + tz o d.cl) r ≤ B := hB2
  obtain ⟨j, e, a1, a2, a3, a4⟩ := ins_nm h hi d (hl d (List.mem_cons_self ..))
  have h3 := rzL_cap h hB o.cl.length (Nat.le_refl _) j e (List.getElem?_eq_some_iff.1 a2).1 a2
  rw [List.take_length, a3] at h3
  show roF _ _ (m + (rzL B o.cl o.cl).getD (clX o.cl d.cl) 0) r = tzI o (m + tz o d.cl) r
  rw [a4, h3, show min (tz o d.cl) B = tz o d.cl by omega]
  exact roF_exact h hB hi r _ (fun e he => hl e (List.mem_cons_of_mem _ he)) (by omega) h2
end Go.Ac
end

section
set_option maxRecDepth 4000
namespace Go.Ac
open Go.Proofs
theorem kf10 (r : Nat) : Ob.keep 10 r = Ob.k10 r := by kernel_rfl
theorem kf4 (r : Nat) : Ob.keep 4 r = Ob.k4 r := by kernel_rfl
theorem kf16 (r : Nat) : Ob.keep 16 r = Ob.k16 r := by kernel_rfl
attribute [local simp] kf10 Ob.k10 kf4 Ob.k4 kf16 Ob.k16
set_option maxHeartbeats 2000000 in
theorem cases10 : ∀ (N : Nat) (l : List Y), szY l < N → szY l ≤ MX → ∃ n : Int, den Tryz.prog Ob.cfg 10 [dL (encY l)] = some (dI n) := by
 intro N
 induction N with
 | zero => intro l h; omega
 | succ N ih =>
 intro l hN hM
 have l1 := len_szY l
 unfold MX at hM
 refine den_ex Tryz.func10 rfl (by kernel_rfl) rfl (fun _ => rfl) ?_
 refine wkc (jn @dL.eq_1 (jn @dI.eq_1 (jn @envOf.eq_1 @envOf.eq_2))) ?_
 apply WP.loop' (I := fun D s => ∃ (j : Nat) (k : Int), j + D = l.length ∧ SE [(0, dL (encY l)), (3, dI k), (4, dI j)] [] 0 s) (d := l.length)
 ·exact ⟨0, _, by simp, SE.mk (by simp [dI, dL]; rfl) rfl⟩
 rintro D _ ⟨j, k, hj, cc, rfl⟩
 refine wk (jn @dI.eq_1 (jn @dL.eq_1 @encY_len)) ?_
 show WP _ _ _ _ _ _
 refine WP.cond _ rfl (fun hb => ?_) (fun hb => ?_)
 ·simp at hb
  have hb' : j < l.length := by omega
  obtain ⟨y, hy, hym, hix⟩ := at_lt hb'
  have hy' := encY_at hy
  have hw := w_succ hb' (by omega)
  have hyz := mem_szY hym
  have hys := Y.sz_eq y
  by_cases hk : y.k = 3
  ·have hk' := eq_true hk
   refine wkc (jn @dI.eq_1 (jn @dL.eq_1 (jn @hix (jn @hy' (jn @Y.cells_eq (jn @int_bne @hk')))))) ?_
   apply WP.loop' (I := fun D2 s => ∃ (i : Nat) (k2 : Int), i + D2 = y.brs.length ∧ SE [(0, dL (encY l)), (3, dI k2), (4, dI j), (5, dI i)] [] 0 s) (d := y.brs.length)
   ·exact ⟨0, _, by simp, SE.mk (by simp [dI, dL]; rfl) rfl⟩
   rintro D2 _ ⟨i, k2, hi, cc2, rfl⟩
   refine wk (jn @dI.eq_1 (jn @dL.eq_1 (jn @hix (jn @hy' (jn @Y.cells_eq @encB_len))))) ?_
   show WP _ _ _ _ _ _
   refine WP.cond _ rfl (fun hb => ?_) (fun hb => ?_)
   ·simp at hb
    have hb2 : i < y.brs.length := by omega
    obtain ⟨b, hbr, hbm, hix2⟩ := at_lt hb2
    have hbr' := encB_at hbr
    have hlb := len_szB y.brs
    have hw2 := w_succ hb2 (by omega)
    have hbz := mem_szB hbm
    obtain ⟨m, hm⟩ := ih b (by omega) (by unfold MX; omega)
    simp only [dL, dI] at hm
    refine wkc (jn @dI.eq_1 (jn @dL.eq_1 (jn @hix (jn @hy' (jn @Y.cells_eq (jn @hix2 (jn @hbr' @hm))))))) ?_
    refine loop_next (by simp [hw2]; exact Is.rfl) ?_
    exact ⟨D2 - 1, by omega, i + 1, _, by omega, SE.mk (by simp [dI, dL, hw2]; rfl) rfl⟩
   ·simp at hb
    refine wkc (jn @dI.eq_1 @dL.eq_1) ?_
    refine loop_next (by simp [hw]; exact Is.rfl) ?_
    exact ⟨D - 1, by omega, j + 1, _, by omega, SE.mk (by simp [dI, dL, hw]; rfl) rfl⟩
  ·have hk' := eq_false hk
   refine wkc (jn @dI.eq_1 (jn @dL.eq_1 (jn @hix (jn @hy' (jn @Y.cells_eq (jn @int_bne @hk')))))) ?_
   refine loop_next (by simp [hw]; exact Is.rfl) ?_
   exact ⟨D - 1, by omega, j + 1, _, by omega, SE.mk (by simp [dI, dL, hw]; rfl) rfl⟩
 ·simp at hb
  refine wkc (jn @dI.eq_1 @dL.eq_1) ?_
  exact ⟨_, .inr rfl, _, _, rfl, rfl⟩
set_option maxHeartbeats 2000000 in
theorem light4 (o : Oc) (hsz : o.sz ≤ MX) : ∃ b, den Tryz.prog Ob.cfg 4 [aG o.cells] = some (dB b) := by
 have k2 := len_szC o.cl
 unfold Oc.sz MX at hsz
 refine den_ex Tryz.func4 rfl (by kernel_rfl) rfl (fun _ => rfl) ?_
 refine wkc (jn @aG.eq_1 (jn @Oc.cells.eq_1 (jn @dI.eq_1 (jn @dL.eq_1 (jn @envOf.eq_1 @envOf.eq_2))))) ?_
 apply WP.loop' (I := fun D s => ∃ (j : Nat) (k : Int), j + D = o.cl.length ∧ SE [(1, .ptr 0 0 0), (3, dI k), (4, dI j)] [(0, ⟨0, false, o.cells.map .d⟩)] 1 s) (d := o.cl.length)
 ·exact ⟨0, _, by simp, SE.mk (by simp [dI, dL]; rfl) (by simp [Oc.cells])⟩
 rintro D _ ⟨j, k, hj, cc, rfl⟩
 refine wk (jn @dI.eq_1 (jn @dL.eq_1 (jn @Oc.cells.eq_1 @encC_len))) ?_
 show WP _ _ _ _ _ _
 refine WP.cond _ rfl (fun hb => ?_) (fun hb => ?_)
 ·simp at hb
  have hb' : j < o.cl.length := by omega
  obtain ⟨c, hc, hcm, hix⟩ := at_lt hb'
  have hc' := encC_at hc
  have hw := w_succ hb' (by omega)
  have hcs := mem_szC hcm
  unfold Cl.sz at hcs
  obtain ⟨m, hm⟩ := cases10 _ c.step (Nat.lt_succ_self _) (by unfold MX; omega)
  simp only [dL, dI] at hm
  repeat (first
 | apply WP.seq
 | (apply WP.reg; (case hR => dsimp only [prepL, prepO, List.map, gS, gZ]; exact iZ); (case hr => (repeat (first
 | (apply RT.op; simp [dI, dL, Oc.cells, hix, hc', Cl.cells, hm]; exact iZ; (try dsimp only [putEnv]) <;> exact rfl)
 | (apply RT.call; (iterate 2 simp; exact iZ); exact iZ; (iterate 4 simp [dI, dL, Oc.cells, hix, hc', Cl.cells, hm]; exact iZ); simp [Is]; (try dsimp only [putEnv]) <;> exact rfl; simp; exact iZ; simp; exact iZ)
 | (apply RT.wr; simp [dI, dL, Oc.cells, hix, hc', Cl.cells, hm]; exact iZ; (try dsimp only [putEnv]) <;> exact rfl; simp [dI, dL, Oc.cells, hix, hc', Cl.cells, hm]; exact iZ; (iterate 2 exact iZ); simp; exact iZ))); exact RT.nil); (case hc => first | (refine checkR_un [(0, 1), (0, 2), (0, 3), (1, 3), (2, 3), (0, 4), (0, 5), (0, 6), (0, 7), (0, 9), (1, 9), (2, 9), (3, 9), (4, 9), (5, 9), (6, 9), (7, 9), (8, 9), (0, 10), (1, 10), (2, 10), (3, 10), (4, 10), (5, 10), (6, 10), (7, 10), (8, 10), (0, 11), (1, 11), (2, 11), (3, 11), (4, 11), (5, 11), (6, 11), (7, 11), (8, 11), (9, 11), (10, 11), (0, 12), (1, 12), (2, 12), (3, 12), (4, 12), (5, 12), (6, 12), (7, 12), (8, 12), (0, 13), (1, 13), (2, 13), (3, 13), (4, 13), (5, 13), (6, 13), (7, 13), (8, 13), (0, 14), (1, 14), (2, 14), (3, 14), (4, 14), (5, 14), (6, 14), (7, 14), (8, 14), (0, 15), (1, 15), (2, 15), (3, 15), (4, 15), (5, 15), (6, 15), (7, 15), (8, 15)] (by kernel_rfl) (by kernel_rfl) rfl ?_; simp [memA, ]; done) | (show _ = _; kernel_rfl)); (case ht => simp [dI, dL, Oc.cells, hix, hc', Cl.cells, hm]; exact iZ))
 | apply WP.block | apply WP.skip | apply WP.exit | apply WP.ret | refine WP.condT rfl ?_ | refine WP.condF rfl ?_)
  refine loop_next (by simp [hw]; exact Is.rfl) ?_
  exact ⟨D - 1, by omega, j + 1, _, by omega, SE.mk (by simp [dI, dL, hw]; rfl) (by simp [Oc.cells])⟩
 ·simp at hb
  refine wkc (jn @dI.eq_1 (jn @dL.eq_1 @Oc.cells.eq_1)) ?_
  exact ⟨_, .inr rfl, _, _, rfl, rfl⟩
set_option maxHeartbeats 2000000 in
theorem find16 (o : Oc) (x : Tx) (hl : o.cl.length ≤ MX) : den Tryz.prog Ob.cfg 16 [aG o.cells, dS x] = some (dI (ixP (fun c : Cl => decide (c.nm = x)) o.cl)) := by
 unfold MX at hl
 refine den_wp Tryz.func16 rfl (by kernel_rfl) rfl rfl ?_
 refine wkc (jn @aG.eq_1 (jn @Oc.cells.eq_1 (jn @dI.eq_1 (jn @dL.eq_1 (jn @dS.eq_1 (jn @envOf.eq_1 @envOf.eq_2)))))) ?_
 apply WP.loop' (I := fun D s => ∃ j : Nat, j + D = o.cl.length ∧ (o.cl.take j).all (fun c : Cl => !decide (c.nm = x)) = true ∧ SE [(1, dS x), (2, .ptr 0 0 0), (5, dI j)] [(0, ⟨0, false, o.cells.map .d⟩)] 1 s) (d := o.cl.length)
 ·exact ⟨0, by simp, by simp, SE.mk (by simp [dI, dL, dS]) (by simp [Oc.cells])⟩
 rintro D _ ⟨j, hj, hno, cc, rfl⟩
 refine wk (jn @dI.eq_1 (jn @dL.eq_1 (jn @dS.eq_1 (jn @Oc.cells.eq_1 @encC_len)))) ?_
 show WP _ _ _ _ _ _
 refine WP.cond _ rfl (fun hb => ?_) (fun hb => ?_)
 ·simp at hb
  have hb' : j < o.cl.length := by omega
  obtain ⟨c, hc, hcm, hix⟩ := at_lt hb'
  have hc' := encC_at hc
  have hw := w_succ hb' (by omega)
  have hs := all_snoc (p := fun c : Cl => !decide (c.nm = x)) hc
  by_cases hq : c.nm = x
  ·have hq' := eq_true hq
   rw [ixP_some hno hc (decide_eq_true hq)]
   refine wkc (jn @dI.eq_1 (jn @dL.eq_1 (jn @dS.eq_1 (jn @Oc.cells.eq_1 (jn @hix (jn @hc' (jn @tx_beq (jn @hq' @Cl.cells.eq_1)))))))) ?_
   show retQ _ _ _ _ _
   exact ⟨.inr rfl, _, _, rfl, rfl⟩
  ·have hq' := eq_false hq
   refine wkc (jn @dI.eq_1 (jn @dL.eq_1 (jn @dS.eq_1 (jn @Oc.cells.eq_1 (jn @hix (jn @hc' (jn @tx_beq (jn @hq' @Cl.cells.eq_1)))))))) ?_
   refine loop_next (by simp [hw]; exact Is.rfl) ?_
   exact ⟨D - 1, by omega, j + 1, by omega, by rw [hs, hno, decide_eq_false hq]; rfl, SE.mk (by simp [dI, dL, dS, hw]) (by simp [Oc.cells])⟩
 ·simp at hb
  have hje : j = o.cl.length := by omega
  rw [hje, List.take_length] at hno
  rw [ixP_none hno]
  refine wkc (jn @dI.eq_1 (jn @dL.eq_1 @dS.eq_1)) ?_
  show retQ _ _ _ _ _
  exact ⟨.inr rfl, _, _, rfl, rfl⟩
end Go.Ac
end
