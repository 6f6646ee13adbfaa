/- Check, the program's: it gives what the reference gives. -/
import Derived.Test.YtkgekafdhehleaaGreatAcA
import Derived.Test.YtkgekafdhehleaaGreatAcB
import Derived.Test.YtkgekafdhehleaaGreatAcDM
import Derived.Test.YtkgekafdhehleaaGreatAcGM
import Derived.Test.YtkgekafdhehleaaGreatAcJM
import Derived.Test.YtkgekafdhehleaaGreatAcNM
import Derived.Test.YtkgekafdhehleaaGreatAcQM
import Derived.Test.YtkgekafdhehleaaGreatAcUM
import Derived.Test.YtkgekafdhehleaaGreatAcUcM
import Derived.Test.YtkgekafdhehleaaGreatAcTxM
import Derived.Test.YtkgekafdhehleaaGreatObHn
import Derived.Test.YtkgekafdhehleaaGreatObCM
import Derived.Test.YtkgekafdhehleaaGreatObD
import Derived.Test.YtkgekafdhehleaaGreatObE
import Derived.Test.YtkgekafdhehleaaGreatObRM
import Derived.Test.YtkgekafdhehleaaGreatObMM
import Derived.Test.YtkgekafdhehleaaGreatObOM
import Derived.Test.YtkgekafdhehleaaGreatObVM
import Derived.Test.YtkgekafdhehleaaGreatObMzM
import Derived.Test.YtkgekafdhehleaaGreatObPdM
import Derived.Test.YtkgekafdhehleaaGreatObPe
import Derived.Test.YtkgekafdhehleaaGreatObPgM
import Derived.Test.YtkgekafdhehleaaGreatObPjM
import Derived.Test.YtkgekafdhehleaaGreatObPlM
import Derived.Test.YtkgekafdhehleaaGreatObPoM
import Derived.Test.YtkgekafdhehleaaGreatObPqM
import Derived.Calls
import Derived.Orders
import Derived.Laws.World
import Derived.Laws.Sem
import Derived.Laws.Cells
import Derived.Laws.Append
import GoSem.ClaimData
import Derived.Laws.Tables
import Derived.Laws.Slices
import Derived.Laws.Strings
import Derived.Laws.Small
import Derived.KernelRfl
import Derived.Test.YtkgekafdhehleaaGreatChecked
import Derived.Test.YtkgekafdhehleaaGreatRows
import Derived.Deep.Slices
import Derived.ChangeArms
import Derived.RowKit3
import Derived.ReadAgain
import Derived.ChangeStays
set_option linter.unusedVariables false
set_option linter.unusedSimpArgs false
section
set_option maxRecDepth 4000
set_option linter.unusedSimpArgs false
set_option linter.unusedVariables false
namespace Go.Ac
open Go.Proofs

theorem dup_nodup : ∀ (l p : List Tx), dupW p l = false → l.Nodup ∧ ∀ x, x ∈ l → x ∉ p
  | [], p, _ => ⟨List.nodup_nil, fun x h => by cases h⟩
  | x :: r, p, h => by
    rw [dupW, Bool.or_eq_false_iff] at h
    obtain ⟨h1, h2⟩ := dup_nodup r (p ++ [x]) h.2
    have h0 : x ∉ p := by simpa using h.1
    refine ⟨List.nodup_cons.2 ⟨fun hm => absurd (List.mem_append_right p (List.mem_singleton.2 rfl)) (h2 x hm), h1⟩, fun y hy => ?_⟩
    rcases List.mem_cons.1 hy with rfl | hy
    · exact h0
    · exact fun hp => h2 y hy (List.mem_append_left _ hp)
theorem sizeE_zero (en : List En) : sizeE en 0 = 0 := by
  unfold sizeE eAt inE; simp
theorem size_ne {en : List En} {t : Int} (h : 0 < sizeE en t) : t ≠ 0 := fun e => by rw [e, sizeE_zero] at h; omega
theorem known_size {en : List En} (hen : ∀ u, u ∈ en → enBad u = false) (t : Int) : knownE en t = decide (0 < sizeE en t) := by
  unfold knownE sizeE
  by_cases h1 : t = 1
  · simp [h1]
  by_cases h2 : t = 2
  · simp [h2]
  rw [if_neg h1, if_neg h2]
  cases hi : inE en t with
  | false => unfold eAt; rw [hi]; simp [h1, h2]
  | true =>
    have hlt : (t - 3).toNat < en.length := by unfold inE at hi; simp at hi; omega
    have he : eAt en t = en[(t - 3).toNat] := by unfold eAt; rw [hi, if_pos rfl]; simp [List.getD, hlt]
    have hb := hen _ (List.getElem_mem hlt)
    rw [he]
    unfold enBad at hb
    simp [h1, h2] at hb ⊢
    have := hb.1
    cases hq : en[(t - 3).toNat].tags with
    | nil => exact absurd hq this
    | cons a r => simp
theorem decls_ok {en : List En} : ∀ {l : List Dc}, declsW en l = 0 → ∀ d, d ∈ l → 0 < sizeE en d.t
  | [], _, d, h => by cases h
  | e :: r, h, d, hd => by
    rw [declsW] at h
    split at h
    · cases h
    · rename_i h1
      split at h
      · cases h
      · rcases List.mem_cons.1 hd with rfl | hd
        · omega
        · exact decls_ok h d hd
section
variable {α : Type}
theorem mget_rev (x : Tx) : ∀ (ds l : List (Tx × α)), mget (puts l ds) x = (mget ds.reverse x).or (mget l x)
  | [], l => by simp [puts, mget]
  | p :: r, l => by
    rw [puts, mget_rev x r, mget_put, List.reverse_cons, mget_app]
    by_cases h : x = p.1
    · subst h
      rw [if_pos rfl]
      have : mget [p] p.1 = some p.2 := by simp [mget]
      rw [this]
      cases mget r.reverse p.1 <;> simp
    · rw [if_neg h]
      have : mget [p] x = none := by
        have hd : decide (p.1 = x) = false := by simp; exact fun e => h e.symm
        simp [mget, List.find?_cons, hd]
      rw [this]
      cases mget r.reverse x <;> simp
theorem mget_mem {l : List (Tx × α)} {x : Tx} {v : α} (h : mget l x = some v) : (x, v) ∈ l := by
  unfold mget at h
  cases hf : List.find? (fun p => decide (p.1 = x)) l with
  | none => rw [hf] at h; cases h
  | some p =>
    rw [hf] at h
    have h1 := List.mem_of_find?_eq_some hf
    have h2 := List.find?_some hf
    simp at h h2
    rw [← h2, ← h]; exact h1
theorem mget_none {l : List (Tx × α)} {x : Tx} (h : mget l x = none) : ∀ v, (x, v) ∉ l := by
  intro v hm
  unfold mget at h
  simp at h
  exact h x v hm rfl
theorem nodup_val {l : List (Tx × α)} (hn : (l.map (·.1)).Nodup) {x : Tx} {v w : α} (h1 : (x, v) ∈ l) (h2 : (x, w) ∈ l) : v = w := by
  induction l with
  | nil => cases h1
  | cons p r ih =>
    rw [List.map_cons, List.nodup_cons] at hn
    rcases List.mem_cons.1 h1 with e1 | m1
    · rcases List.mem_cons.1 h2 with e2 | m2
      · rw [← e1] at e2; exact (Prod.mk.inj e2).2.symm
      · exact absurd (List.mem_map.2 ⟨_, m2, by rw [← e1]⟩) hn.1
    · rcases List.mem_cons.1 h2 with e2 | m2
      · exact absurd (List.mem_map.2 ⟨_, m1, by rw [← e2]⟩) hn.1
      · exact ih hn.2 m1 m2
theorem mget_nodup {l : List (Tx × α)} (hn : (l.map (·.1)).Nodup) (x : Tx) : mget l.reverse x = mget l x := by
  cases h : mget l x with
  | none =>
    cases h2 : mget l.reverse x with
    | none => rfl
    | some v => exact absurd (List.mem_reverse.1 (mget_mem h2)) (mget_none h v)
  | some v =>
    cases h2 : mget l.reverse x with
    | none => exact absurd (List.mem_reverse.2 (mget_mem h)) (mget_none h2 v)
    | some w => rw [nodup_val hn (List.mem_reverse.1 (mget_mem h2)) (mget_mem h)]
theorem mget_puts {l : List (Tx × α)} (hn : (l.map (·.1)).Nodup) (x : Tx) : mget (puts [] l) x = mget l x := by
  rw [mget_rev, mget_nodup hn]; simp [mget]
end
theorem mget_dV {l : List Dc} (h : ∀ d, d ∈ l → d.t ≠ 0) (x : Tx) : mget (dV l) x = if findD l x = 0 then none else some (findD l x) := by
  unfold mget dV findD
  rw [List.find?_map]
  rw [show ((fun p => decide (p.1 = x)) ∘ fun d : Dc => (d.nm, d.t)) = fun d : Dc => decide (d.nm = x) from rfl]
  cases hf : List.find? (fun d : Dc => decide (d.nm = x)) l with
  | none => rfl
  | some d =>
    have := h d (List.mem_of_find?_eq_some hf)
    simp [this]
theorem mget_dP {l : List Dc} (h : ∀ d, d ∈ l → d.t ≠ 0) (x : Tx) : mget (dP l) x = if findD l x = 0 then none else some true := by
  unfold mget dP findD
  rw [List.find?_map]
  rw [show ((fun p => decide (p.1 = x)) ∘ fun d : Dc => (d.nm, true)) = fun d : Dc => decide (d.nm = x) from rfl]
  cases hf : List.find? (fun d : Dc => decide (d.nm = x)) l with
  | none => rfl
  | some d =>
    have := h d (List.mem_of_find?_eq_some hf)
    simp [this]
theorem mget_mV {l : List Mm} (h : ∀ d, d ∈ l → d.t ≠ 0) (x : Tx) : mget (mV l) x = if findM l x = 0 then none else some (findM l x) := by
  unfold mget mV findM
  rw [List.find?_map]
  rw [show ((fun p => decide (p.1 = x)) ∘ fun d : Mm => (d.nm, d.t)) = fun d : Mm => decide (d.nm = x) from rfl]
  cases hf : List.find? (fun d : Mm => decide (d.nm = x)) l with
  | none => rfl
  | some d =>
    have := h d (List.mem_of_find?_eq_some hf)
    simp [this]
theorem findD_mem {l : List Dc} {x : Tx} (h : findD l x ≠ 0) : ∃ d, d ∈ l ∧ d.nm = x ∧ findD l x = d.t := by
  unfold findD at h ⊢
  cases hf : List.find? (fun d : Dc => decide (d.nm = x)) l with
  | none => rw [hf] at h; exact absurd rfl h
  | some d => exact ⟨d, List.mem_of_find?_eq_some hf, by simpa using List.find?_some hf, rfl⟩
theorem findD_any {l : List Dc} (h : ∀ d, d ∈ l → d.t ≠ 0) (x : Tx) : l.any (fun d => decide (d.nm = x)) = decide (findD l x ≠ 0) := by
  unfold findD
  cases hf : List.find? (fun d : Dc => decide (d.nm = x)) l with
  | none =>
    have := List.find?_eq_none.1 hf
    simp only [ne_eq, not_true_eq_false, decide_false]
    rw [List.any_eq_false]; exact this
  | some d =>
    have h1 := h d (List.mem_of_find?_eq_some hf)
    have h2 := List.find?_some hf
    simp only [ne_eq, h1, not_false_eq_true, decide_true]
    exact List.any_eq_true.2 ⟨d, List.mem_of_find?_eq_some hf, h2⟩
theorem findC_take {l : List Cl} {i : Nat} {x : Tx} (h : (findC (l.take i) x).2 = true) : findC l x = findC (l.take i) x := by
  unfold findC at *
  cases hf : List.find? (fun d : Cl => decide (d.nm = x)) (l.take i) with
  | none => rw [hf] at h; cases h
  | some d =>
    have : List.find? (fun d : Cl => decide (d.nm = x)) l = some d := by
      rw [← List.take_append_drop i l, List.find?_append, hf]; rfl
    rw [this]
set_option maxHeartbeats 1000000 in
/-- A class whose declarations are right. -/
theorem kf_of {o : Oc} {i : Nat} {c : Cl} (hok : c.ok) (hlen : c.inn.length ≤ MX) (h : declP o (o.cl.take i) c = 0) :
    KF o (o.cl.take i) c (puts (puts (puts [] (dV c.inn)) (dV c.out)) (dV c.loc)) (puts (puts [] (dP c.out)) (dP c.loc)) (puts [] (mV c.mems)) (puts [] (iV (o.cl.take i) c.ins)) := by
  unfold declP at h
  split at h
  · rename_i hne; exact absurd h hne
  rename_i e1
  split at h
  · rename_i hne; exact absurd h hne
  rename_i e2
  split at h
  · rename_i hne; exact absurd h hne
  rename_i e3
  split at h
  · cases h
  rename_i e4
  split at h
  · cases h
  rename_i e5
  split at h
  · cases h
  rename_i e6
  have s1 := decls_ok (show declsW o.en c.inn = 0 by simpa using e1)
  have s2 := decls_ok (show declsW o.en c.out = 0 by simpa using e2)
  have s3 := decls_ok (show declsW o.en c.loc = 0 by simpa using e3)
  have s4 : ∀ m, m ∈ c.mems → m.t ≠ 0 := fun m hm => by
    have : memOk o.en m = true := by
      cases hq : memOk o.en m with
      | true => rfl
      | false => exact absurd (List.any_eq_true.2 ⟨m, hm, by simp [hq]⟩) e4
    unfold memOk at this
    simp at this
    exact size_ne this.1
  have s6 : ∀ x, x ∈ c.ins → (findC (o.cl.take i) x.cl).2 = true := fun x hx => by
    cases hq : (findC (o.cl.take i) x.cl).2 with
    | true => rfl
    | false => exact absurd (List.any_eq_true.2 ⟨x, hx, by simp [hq]⟩) e6
  have z1 := fun d hd => size_ne (s1 d hd)
  have z2 := fun d hd => size_ne (s2 d hd)
  have z3 := fun d hd => size_ne (s3 d hd)
  have hnd := (dup_nodup c.names [] (by simpa using e5)).1
  unfold Cl.names at hnd
  obtain ⟨n1, nI, dI1⟩ := List.nodup_append.1 hnd
  obtain ⟨n2, nM, dM1⟩ := List.nodup_append.1 n1
  obtain ⟨n3, nL, dL1⟩ := List.nodup_append.1 n2
  obtain ⟨nN, nO, dO1⟩ := List.nodup_append.1 n3
  have hA : ((dV c.inn ++ dV c.out ++ dV c.loc).map (·.1)).Nodup := by
    simpa [dV, Function.comp_def] using n2
  rw [List.append_assoc] at hA
  have hP : ((dP c.out ++ dP c.loc).map (·.1)).Nodup := by
    have : (c.out.map Dc.nm ++ c.loc.map Dc.nm).Nodup := by
      rw [List.append_assoc] at n2
      exact (List.nodup_append.1 n2).2.1
    simpa [dP, Function.comp_def] using this
  have hset : ∀ x, setT c x ≠ 0 → findD c.inn x = 0 := by
    intro x hs
    by_cases hz : findD c.inn x = 0
    · exact hz
    obtain ⟨d, hd, hdn, _⟩ := findD_mem hz
    have hx : x ∈ c.inn.map Dc.nm := List.mem_map.2 ⟨d, hd, hdn⟩
    unfold setT at hs
    split at hs
    · obtain ⟨e, he, hen, _⟩ := findD_mem hs
      exact absurd rfl (dL1 x (List.mem_append_left _ hx) x (List.mem_map.2 ⟨e, he, hen⟩))
    · rename_i hs2
      obtain ⟨e, he, hen, _⟩ := findD_mem hs2
      exact absurd rfl (dO1 x hx x (List.mem_map.2 ⟨e, he, hen⟩))
  have hpos : ∀ x, getT c x ≠ 0 → 0 < sizeE o.en (getT c x) := by
    intro x hg
    unfold getT at hg ⊢
    split at hg
    · rename_i h0
      rw [if_pos h0]
      unfold setT at hg ⊢
      split at hg
      · rename_i h1
        rw [if_pos h1]
        obtain ⟨d, hd, _, e⟩ := findD_mem hg
        rw [e]; exact s3 d hd
      · rename_i h1
        rw [if_neg h1]
        obtain ⟨d, hd, _, e⟩ := findD_mem h1
        rw [e]; exact s2 d hd
    · rename_i h0
      rw [if_neg h0]
      obtain ⟨d, hd, _, e⟩ := findD_mem h0
      rw [e]; exact s1 d hd
  refine ⟨fun x => ?_, fun x => ?_, fun x => ?_, fun x => ?_, ⟨findD_any z1, fun x hs => ?_, getT_i64 hok, hlen⟩, hpos⟩
  · rw [← puts_app, ← puts_app, mget_puts hA, mget_app, mget_app, mget_dV z1, mget_dV z2, mget_dV z3]
    unfold getT setT
    by_cases h1 : findD c.inn x = 0 <;> by_cases h2 : findD c.out x = 0 <;> by_cases h3 : findD c.loc x = 0 <;> simp [h1, h2, h3]
  · rw [← puts_app, mget_puts hP, mget_app, mget_dP z2, mget_dP z3]
    unfold setT
    by_cases h2 : findD c.out x = 0 <;> by_cases h3 : findD c.loc x = 0 <;> simp [h2, h3]
  · rw [mget_puts (by simpa [mV, Function.comp_def] using nM), mget_mV s4]
  · rw [mget_puts (by simpa [iV, Function.comp_def] using nI)]
    unfold mget iV findI
    rw [List.find?_map]
    rw [show ((fun p => decide (p.1 = x)) ∘ fun d : Ii => (d.nm, (findC (o.cl.take i) d.cl).1)) = fun d : Ii => decide (d.nm = x) from rfl]
    cases hf : List.find? (fun d : Ii => decide (d.nm = x)) c.ins with
    | none => rfl
    | some d =>
      have := s6 d (List.mem_of_find?_eq_some hf)
      have h2 := findC_take this
      simp only [Option.map_some, h2, this, if_true]
  · unfold getT; rw [if_pos (hset x hs)]
theorem classP_eq (o : Oc) (i : Nat) (c : Cl) : classP o (o.cl.take i) c = classW o i c := by
  unfold classP classW headW declP
  cases (o.cl.take i).any (fun d => decide (d.nm = c.nm)) <;> simp
end Go.Ac
end

section
set_option maxRecDepth 4000
set_option linter.unusedSimpArgs false
set_option linter.unusedVariables false
namespace Go.Ac
open Go.Proofs
/-! ### Memory taken over -/
def shO (n c : Nat) (o : Ob) : Ob := ⟨o.gen + c, o.ro, shiftVs n c o.cells⟩
theorem shiftH_eq (n c : Nat) (l : List (Nat × Ob)) : shiftH n c l = l.map fun p => (p.1 + n, shO n c p.2) := rfl
theorem Hp.get_sets_mem : ∀ (wr : List (Nat × Ob)) (h : Hp) (j : Nat) (o : Ob), (∀ p, p ∈ wr → p.1 = j → p.2 = o) → (∃ p, p ∈ wr ∧ p.1 = j) → (Hp.sets h wr).get j = some o
  | [], h, j, o, _, hx => by obtain ⟨p, hp, _⟩ := hx; cases hp
  | (k, x) :: r, h, j, o, ho, hx => by
    simp only [Hp.sets]
    by_cases hr : ∃ p, p ∈ r ∧ p.1 = j
    · exact Hp.get_sets_mem r _ j o (fun p hp => ho p (List.mem_cons_of_mem _ hp)) hr
    · rw [Hp.get_sets_ne r _ j fun p hp he => hr ⟨p, hp, he⟩]
      obtain ⟨p, hp, he⟩ := hx
      rcases List.mem_cons.1 hp with rfl | hp
      · simp only at he
        subst he
        rw [Hp.get_set_self, ← ho _ (List.mem_cons_self ..) rfl]
      · exact absurd ⟨p, hp, he⟩ hr
theorem import_new {hp : Hp} {look : Look} {n c m id : Nat} {o : Ob} (h : id < m) (ho : look id = some o) : (hp.sets (shiftH n c (wrOf look (List.range m)))).get (id + n) = some (shO n c o) := by
  refine Hp.get_sets_mem _ _ _ _ (fun p hp hid => ?_) ⟨(id + n, shO n c o), ?_, rfl⟩
  · rw [shiftH_eq, List.mem_map] at hp
    obtain ⟨x, hx, rfl⟩ := hp
    have h2 := (mem_wrOf2.1 hx).2
    have h3 : x.1 = id := by simp only at hid; omega
    rw [h3, ho] at h2
    rw [Option.some.inj h2]
  · rw [shiftH_eq, List.mem_map]
    exact ⟨(id, o), mem_wrOf2.2 ⟨List.mem_range.2 h, ho⟩, rfl⟩
theorem import_old {hp : Hp} {look : Look} {n c m id : Nat} (h : id < n) : (hp.sets (shiftH n c (wrOf look (List.range m)))).get id = hp.get id := by
  refine Hp.get_sets_ne _ _ _ (fun p hp hid => ?_)
  rw [shiftH_eq, List.mem_map] at hp
  obtain ⟨x, hx, rfl⟩ := hp
  simp only at hid; omega
theorem addNew_zero (wl : List Nat) : ∀ l : List (Nat × Ob), addNew 0 wl l = wl
  | [] => rfl
  | (k, o) :: r => by
    have : Nat.blt k 0 = false := by cases k <;> rfl
    simp only [addNew, this]; exact addNew_zero wl r
attribute [local simp] addNew_zero
theorem shiftVs_map {α : Type} (n c : Nat) (e : α → V) (h : ∀ a, shiftV n c (e a) = e a) : ∀ l : List (Tx × α), shiftVs n c (l.map fun p => e p.2) = l.map fun p => e p.2
  | [] => rfl
  | p :: r => by
    simp only [List.map_cons, shiftVs, h]
    rw [shiftVs_map n c e h r]
theorem shift_mpC {α : Type} (n c g : Nat) (e : α → V) (h : ∀ a, shiftV n c (e a) = e a) (l : List (Tx × α)) : shO n c ⟨g, false, [mpC e l]⟩ = ⟨g + c, false, [mpC e l]⟩ := by
  unfold shO
  simp only [mpC, shiftVs, shiftV]
  rw [shiftVs_map n c e h l]
/-- The class object, taken over at place n. -/
theorem KG.import {hp : Hp} {n c1 : Nat} {o : Oc} {ea : List Cl} {x : Cl} {lv lm : List (Tx × Int)} {lp : List (Tx × Bool)} :
    KG (5 + n) (5 + c1) (1 + n) (1 + c1) (2 + n) (2 + c1) (3 + n) (3 + c1) (4 + n) (4 + c1) o ea x lv lp lm [] (hp.sets (shiftH n c1 (wrOf (nHp o.en ea x lv lp lm).get (List.range 6)))) (n + 6) := by
  refine ⟨?_, ?_, ?_, ?_, ?_, by omega, by omega, by omega, by omega, by omega⟩
  · rw [import_new (by omega) (o := kO o.en ea x) rfl]
    simp [shO, kO, shiftVs, shiftV]
  · rw [import_new (by omega) (o := ⟨1, false, [mpC eI lv]⟩) rfl, shift_mpC _ _ _ _ (fun a => rfl)]
  · rw [import_new (by omega) (o := ⟨2, false, [mpC eBo lp]⟩) rfl, shift_mpC _ _ _ _ (fun a => rfl)]
  · rw [import_new (by omega) (o := ⟨3, false, [mpC eI lm]⟩) rfl, shift_mpC _ _ _ _ (fun a => rfl)]
  · rw [import_new (by omega) (o := ⟨4, false, [mpC eC []]⟩) rfl]
    simp [shO, mpC, shiftVs, shiftV]
theorem kf11 (r : Nat) : Ob.keep 11 r = Ob.k11 r := by kernel_rfl
attribute [local simp] kf11 Ob.k11
set_option maxHeartbeats 8000000 in
theorem check_den (o : Oc) (hsz : o.sz ≤ 2097152) (hok : o.ok) : den Tryz.prog Ob.cfg 11 [aG o.cells] = some (dI (checkRef o)) := by
  unfold Oc.sz at hsz
  have k1 := len_szE o.en
  have k2 := len_szC o.cl
  refine den_wp Tryz.func11 rfl (by kernel_rfl) rfl rfl ?_
  unfold checkRef
  by_cases c1 : 24 < o.en.length
  · rw [if_pos c1]
    have c1' : ((24 : Int) < o.en.length) = True := eq_true (by omega)
    have c1'' := eq_true c1
    refine wkcitv (And.intro @aG.eq_1 (And.intro @Oc.cells.eq_1 (And.intro @dI.eq_1 (And.intro @dL.eq_1 (And.intro @c1' @c1''))))) ?_
    show retQ _ _ _ _ _
    exact ⟨.inr rfl, _, _, rfl, rfl⟩
  rw [if_neg c1]
  have c1' : ((24 : Int) < o.en.length) = False := eq_false (by omega)
  have c1'' := eq_false c1
  refine wkcitv (And.intro @aG.eq_1 (And.intro @Oc.cells.eq_1 (And.intro @dI.eq_1 (And.intro @dL.eq_1 (And.intro @c1' @c1''))))) ?_
  apply WP.loop' (I := fun D s => ∃ k : Nat, k + D = o.en.length ∧ (o.en.take k).all (fun u => !enBad u) = true ∧ SE [(1, .ptr 0 0 0), (13, dL (encE o.en)), (14, dI o.en.length), (15, dI k)] [(0, ⟨0, false, o.cells.map .d⟩)] 1 s) (d := o.en.length)
  · exact ⟨0, by simp, by simp, SE.mk (by simp [dI, dL]) (by simp [Oc.cells])⟩
  rintro D _ ⟨k, hk, hno, cc, rfl⟩
  refine wkitv (And.intro @dI.eq_1 (And.intro @dL.eq_1 @Oc.cells.eq_1)) ?_
  show WP _ _ _ _ _ _
  refine WP.cond _ rfl (fun hb => ?_) (fun hb => ?_)
  · simp at hb
    have hb' : k < o.en.length := by omega
    obtain ⟨d, hd, hdm, hix⟩ := at_lt hb'
    have hd' := encE_at hd
    have hwk := w_succ hb' (by omega)
    have hs := all_snoc (p := fun u => !enBad u) hd
    by_cases e1 : d.tags = []
    · rw [if_pos (List.any_eq_true.2 ⟨d, hdm, by simp [enBad, e1]⟩)]
      refine wkcitv (And.intro @dI.eq_1 (And.intro @dL.eq_1 (And.intro @Oc.cells.eq_1 (And.intro @hix (And.intro @hd' (And.intro @En.cells.eq_1 (And.intro @encS_len (And.intro @len0 (And.intro @e1 (And.intro @fillV.eq_1 @fillV.eq_2)))))))))) ?_
      show retQ _ _ _ _ _
      exact ⟨.inr rfl, _, _, rfl, rfl⟩
    by_cases e2 : 16 < d.tags.length
    · have e2' : ((16 : Int) < d.tags.length) = True := eq_true (by omega)
      have e2'' := eq_true e2
      rw [if_pos (List.any_eq_true.2 ⟨d, hdm, by simp [enBad, e2]⟩)]
      refine wkcitv (And.intro @dI.eq_1 (And.intro @dL.eq_1 (And.intro @Oc.cells.eq_1 (And.intro @hix (And.intro @hd' (And.intro @En.cells.eq_1 (And.intro @encS_len (And.intro @len0 (And.intro @int_beq (And.intro @e1 (And.intro @e2' (And.intro @e2'' (And.intro @fillV.eq_1 @fillV.eq_2))))))))))))) ?_
      show retQ _ _ _ _ _
      exact ⟨.inr rfl, _, _, rfl, rfl⟩
    · have e2' : ((16 : Int) < d.tags.length) = False := eq_false (by omega)
      have e2'' := eq_false e2
      have hbd : enBad d = false := by unfold enBad; rw [dFalse e2]; simpa using e1
      rw [hbd] at hs
      refine wkcitv (And.intro @dI.eq_1 (And.intro @dL.eq_1 (And.intro @Oc.cells.eq_1 (And.intro @hix (And.intro @hd' (And.intro @En.cells.eq_1 (And.intro @encS_len (And.intro @len0 (And.intro @int_beq (And.intro @e1 (And.intro @e2' (And.intro @e2'' (And.intro @fillV.eq_1 @fillV.eq_2))))))))))))) ?_
      refine loop_next (by simp [hwk]; exact Is.rfl) ?_
      exact ⟨D - 1, by omega, k + 1, by omega, by rw [hs, hno]; rfl, SE.mk (by simp [dI, dL, hwk]) (by simp [Oc.cells])⟩
  simp at hb
  have hke : k = o.en.length := by omega
  rw [hke, List.take_length] at hno
  rw [if_neg (by rw [any_no (p := enBad) hno]; simp)]
  have hen : ∀ t, knownE o.en t = decide (0 < sizeE o.en t) := known_size fun u hu => by simpa using List.all_eq_true.1 hno u hu
  clear hno hke hb hk
  refine wkcitv (And.intro @dI.eq_1 (And.intro @dL.eq_1 @Oc.cells.eq_1)) ?_
  apply WP.loop' (I := fun D s => ∃ (k c' : Nat) (hp' : Hp), k + D = o.cl.length ∧ allW o k (o.cl.drop k) = allW o 0 o.cl ∧ hp'.get 0 = some ⟨0, false, o.cells.map .d⟩ ∧ s = ⟨[(1, .ptr 0 0 0), (31, dL (encC o.cl)), (32, dI o.cl.length), (33, dI k)], hp', 1, c', 0, []⟩) (d := o.cl.length)
  · exact ⟨0, _, _, by simp, by simp, by simp [Oc.cells], st_eq (by simp [dI, dL]) rfl⟩
  rintro D _ ⟨k, c', hp', hk, hv, hx0, rfl⟩
  simp only [Oc.cells, List.map_cons, List.map_nil] at hx0
  refine wkitv (And.intro @dI.eq_1 @dL.eq_1) ?_
  show WP _ _ _ _ _ _
  refine WP.cond _ rfl (fun hb => ?_) (fun hb => ?_)
  · simp at hb
    have hb' : k < o.cl.length := by omega
    obtain ⟨c, hc, hcm, hix⟩ := at_lt hb'
    have hc' := encC_at hc
    have hwk := w_succ hb' (by omega)
    have hcs := mem_szC hcm
    unfold Cl.sz at hcs
    have l1 := len_szD c.inn
    have l2 := len_szD c.out
    have l3 := len_szD c.loc
    have l4 := len_szM c.mems
    have l5 := len_szJ c.ins
    have hcok := hok c hcm
    have hsl := fun look e b z => slice_rows look e b z (encC_row o.cl) (j := k) (by rw [encC_len]; omega)
    have etk := encC_take o.cl k
    rw [drop_at hc, allW] at hv
    refine wkcitv (And.intro @dI.eq_1 (And.intro @dL.eq_1 (And.intro @Hp.get_set (And.intro @hx0 (And.intro @hix (And.intro @hc' (And.intro @Cl.cells.eq_1 (And.intro @fillV.eq_1 @fillV.eq_2)))))))) ?_
    apply WP.gen3
    intro hp1 c1 wl1 hhp hwl
    have hwl0 : wl1 = [] := hwl
    have hy0 : hp1.get 0 = some ⟨0, false, [V.d (.slice (encE o.en)), V.d (.slice (encC o.cl))]⟩ := by rw [hhp]; simp [Hp.get_set, hx0]
    obtain ⟨g1, hy1⟩ : ∃ g1, g1 = c' := ⟨_, rfl⟩
    have hy1 : hp1.get 1 = some ⟨c', false, [V.d (.str c.nm), V.d (.slice (encD c.inn)), V.d (.slice (encD c.out)), V.d (.slice (encD c.loc)), V.d (.slice (encM c.mems)), V.d (.slice (encJ c.ins)), V.d (.slice (encY c.step))]⟩ := by rw [hhp]; simp [Hp.get_set]
    subst hwl0
    clear hhp hwl
    obtain ⟨q, hI1, hqv, hqn, hqh⟩ := new29 o.en (o.cl.take k) c (by omega)
    have hI2 : closeT noLook q.v = none := by rw [hqv]; rfl
    have hI3 : shiftV 2 c1 q.v = .ptr 7 (5 + c1) 0 := by rw [hqv]; rfl
    obtain ⟨W1, hI4⟩ : ∃ W, shiftH 2 c1 (wrOf q.hp.get (List.range q.n)) = W := ⟨_, rfl⟩
    have hKG : KG 7 (5 + c1) 3 (1 + c1) 4 (2 + c1) 5 (3 + c1) 6 (4 + c1) o (o.cl.take k) c (puts (puts (puts [] (dV c.inn)) (dV c.out)) (dV c.loc)) (puts (puts [] (dP c.out)) (dP c.loc)) (puts [] (mV c.mems)) [] (hp1.sets W1) (2 + q.n) := by
      rw [← hI4, hqh, hqn]; exact KG.import (n := 2) (c1 := c1)
    have hfr0 : (hp1.sets W1).get 0 = hp1.get 0 := by rw [← hI4, import_old (by omega)]
    obtain ⟨q2, hT1, hqv2, hqn2, hT2, hki, hfr, _⟩ := (check30 (cc := c1 + q.c) hen (by rw [List.length_take]; unfold MX; omega) ⟨by omega⟩ hcok (by omega) (hp1.sets W1) (2 + q.n) ⟨by omega, by omega, by omega, by omega⟩ hKG (fun hz => kf_of hcok (by unfold MX; omega) hz)).caller (by intro j hj; simp at hj; omega)
    have hfr1 : ((hp1.sets W1).sets (tWr q2 (2 + q.n))).get 0 = some ⟨0, false, [V.d (.slice (encE o.en)), V.d (.slice (encC o.cl))]⟩ := by rw [hfr 0 (by omega) (by simp), hfr0, hy0]
    rw [classP_eq] at hqv2
    simp only [dL, dI, aG, Cl.cells, List.map_cons, List.map_nil] at hI1 hqv2
    by_cases c2 : classW o k c = 0
    case neg =>
      have c2' := eq_false c2
      rw [if_pos c2] at hv
      rw [← hv]
      refine wkcitv (And.intro @dI.eq_1 (And.intro @dL.eq_1 (And.intro @hy0 (And.intro @hy1 (And.intro @hsl (And.intro @etk (And.intro @hqv2 (And.intro @int_bne @c2')))))))) ?_
      show retQ _ _ _ _ _
      exact ⟨.inr rfl, _, _, rfl, rfl⟩
    rw [if_neg (by simp [c2])] at hv
    rw [c2] at hqv2
    refine wkcitv (And.intro @dI.eq_1 (And.intro @dL.eq_1 (And.intro @hy0 (And.intro @hy1 (And.intro @hsl (And.intro @etk (And.intro @hqv2 @int_bne))))))) ?_
    refine loop_next (by simp [hwk]; exact Is.rfl) ?_
    exact ⟨D - 1, by omega, k + 1, _, _, by omega, hv, by rw [Hp.get_trunc _ _ _ (by omega)]; exact hfr1, st_eq (by simp [dI, dL, hwk]) rfl⟩
  · simp at hb
    have hke : k = o.cl.length := by omega
    rw [hke, List.drop_length, allW] at hv
    rw [← hv]
    refine wkcitv (And.intro @dI.eq_1 @dL.eq_1) ?_
    show retQ _ _ _ _ _
    exact ⟨.inr rfl, _, _, rfl, rfl⟩
end Go.Ac
end
