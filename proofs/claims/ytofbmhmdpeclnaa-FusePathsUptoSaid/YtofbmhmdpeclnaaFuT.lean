/- Objects handed over by a call; the copy of a statement. -/
import Derived.Test.YtofbmhmdpeclnaaFuS
set_option linter.unusedVariables false
set_option linter.unusedSimpArgs false
set_option maxRecDepth 4000
set_option linter.unusedSimpArgs false
set_option linter.unusedVariables false
namespace Go.Ab
open Go.Proofs

/-- A call of a function that is handed the memory and hands it back. -/
theorem lim_wp {P : Program} {cfg : Cfg} {f : FuncId} {fn : Func} {body : Code} {vs : List V} {hp : Hp} {n c : Nat} {Q : V → St → Prop} (hf : P.funcs[f]? = some fn) (hb : fn.body = some body) (hok : (Nat.ble vs.length fn.ntmps && codeOK fn.ntmps body) = true)
    (hthr : cfg.thr f = true) (h : WP P cfg f body ⟨envOf 0 vs, hp, n, c, n, []⟩ (fun e t => (e = .normal ∨ e = .ret) ∧ ∃ rs, resultsV P t fn.results.toList = some rs ∧ Q (tup rs) t)) :
    ∃ v t, lim P cfg f vs hp n c = some ⟨v, t.hp, t.n, t.c, t.wl⟩ ∧ Q v t := by
  obtain ⟨e, t, ⟨K, hK⟩, he, rs, hrs, hq⟩ := h
  have hfin : finish (cfg.thr f) n t (tup rs) = some ⟨tup rs, t.hp, t.n, t.c, t.wl⟩ := by
    unfold finish
    rw [hthr]
    rfl
  refine ⟨tup rs, t, lim_of ⟨K, fun k hk => ?_⟩, hq⟩
  unfold callF callBy
  rw [hf]
  simp only [hb, hok]
  rw [show enter vs hp n c = ⟨envOf 0 vs, hp, n, c, n, []⟩ from rfl, hK k hk]
  rcases he with rfl | rfl <;> simp only [leave, hrs, hfin]

/-! ### Names moved -/
def shO (n c : Nat) (o : Ob) : Ob := ⟨o.gen + c, o.ro, shiftVs n c o.cells⟩

theorem shiftVs_app (n c : Nat) : ∀ a b : List V, shiftVs n c (a ++ b) = shiftVs n c a ++ shiftVs n c b
  | [], b => by simp [shiftVs]
  | x :: a, b => by simp [shiftVs, shiftVs_app n c a b]
theorem shiftVs_len (n c : Nat) : ∀ a : List V, (shiftVs n c a).length = a.length
  | [] => by simp [shiftVs]
  | x :: a => by simp [shiftVs, shiftVs_len n c a]
theorem shift_hd (n c : Nat) (y : Y) : shiftVs n c (hdY y) = hdY y := by simp [hdY, shiftVs, shiftV]

mutual
theorem TS.shift {look look' : Look} {n c : Nat} : ∀ {sc : List V} {y : Y} {i : List Nat}, TS look sc y i → (∀ id o, id ∈ i → look id = some o → look' (id + n) = some (shO n c o)) → TS look' (shiftVs n c sc) y (i.map (· + n))
  | _, _, _, .mk (y := y) (id := id) (g := g) (vs := vs) (i := i) h hb, hf => by
    rw [shiftVs_app, shift_hd, List.map_cons]
    simp only [shiftVs, shiftV]
    refine .mk (vs := shiftVs n c vs) ?_ (TB.shift hb fun id o hid ho => hf id o (List.mem_cons_of_mem _ hid) ho)
    exact hf id _ (List.mem_cons_self ..) h
theorem TC.shift {look look' : Look} {n c : Nat} : ∀ {cs : List V} {l : List Y} {i : List Nat}, TC look cs l i → (∀ id o, id ∈ i → look id = some o → look' (id + n) = some (shO n c o)) → TC look' (shiftVs n c cs) l (i.map (· + n))
  | _, _, _, .nil, hf => by simp only [shiftVs, List.map_nil]; exact .nil
  | _, _, _, .cons h h', hf => by
    rw [shiftVs_app, List.map_append]
    exact .cons (TS.shift h fun id o hid ho => hf id o (List.mem_append_left _ hid) ho) (TC.shift h' fun id o hid ho => hf id o (List.mem_append_right _ hid) ho)
theorem TB.shift {look look' : Look} {n c : Nat} : ∀ {vs : List V} {l : List (List Y)} {i : List Nat}, TB look vs l i → (∀ id o, id ∈ i → look id = some o → look' (id + n) = some (shO n c o)) → TB look' (shiftVs n c vs) l (i.map (· + n))
  | _, _, _, .nil, hf => by simp only [shiftVs, List.map_nil]; exact .nil
  | _, _, _, .cons h h', hf => by
    rw [List.map_append]
    simp only [shiftVs]
    exact .cons (TL.shift h fun id o hid ho => hf id o (List.mem_append_left _ hid) ho) (TB.shift h' fun id o hid ho => hf id o (List.mem_append_right _ hid) ho)
theorem TL.shift {look look' : Look} {n c : Nat} : ∀ {v : V} {l : List Y} {i : List Nat}, TL look v l i → (∀ id o, id ∈ i → look id = some o → look' (id + n) = some (shO n c o)) → TL look' (shiftV n c v) l (i.map (· + n))
  | _, _, _, .nil, hf => by simp only [shiftV, List.map_nil]; exact .nil
  | _, _, _, .osl (id := id) (g := g) (cs := cs) (l := l) (i := i) h hc, hf => by
    simp only [shiftV, List.map_cons]
    refine .osl (cs := shiftVs n c cs) ?_ (TC.shift hc fun id o hid ho => hf id o (List.mem_cons_of_mem _ hid) ho)
    exact hf id _ (List.mem_cons_self ..) h
end

theorem shiftH_eq (n c : Nat) (l : List (Nat × Ob)) : shiftH n c l = l.map fun p => (p.1 + n, shO n c p.2) := rfl

/-- What a caller finds once a call's memory has been taken over. -/
theorem import_new {hp : Hp} {look : Look} {n c m id : Nat} {o : Ob} (h : id < m) (ho : look id = some o) : (hp.sets (shiftH n c (wrOf look (List.range m)))).get (id + n) = some (shO n c o) := by
  refine Hp.get_sets_mem _ _ _ _ (fun p hp hid => ?_) ⟨(id + n, shO n c o), ?_, rfl⟩
  · rw [shiftH_eq, List.mem_map] at hp
    obtain ⟨x, hx, rfl⟩ := hp
    have h2 := (mem_wrOf2.1 hx).2
    have h3 : x.1 = id := by simp only at hid; omega
    rw [h3, ho] at h2
    rw [Option.some.inj h2]
  · rw [shiftH_eq, List.mem_map]
    exact ⟨(id, o), mem_wrOf2.2 ⟨List.mem_range.2 h, ho⟩, rfl⟩
theorem import_old {hp : Hp} {look : Look} {n c m id : Nat} (h : id < n) : (hp.sets (shiftH n c (wrOf look (List.range m)))).get id = hp.get id := by
  refine Hp.get_sets_ne _ _ _ (fun p hp hid => ?_)
  rw [shiftH_eq, List.mem_map] at hp
  obtain ⟨x, hx, rfl⟩ := hp
  simp only at hid; omega
theorem import_keys {look : Look} {n c m k : Nat} (h : k ∈ (shiftH n c (wrOf look (List.range m))).map (·.1)) : n ≤ k ∧ k < n + m := by
  rw [List.mem_map] at h
  obtain ⟨p, hp, rfl⟩ := h
  rw [shiftH_eq, List.mem_map] at hp
  obtain ⟨x, hx, rfl⟩ := hp
  have := List.mem_range.1 (mem_wrOf2.1 hx).1
  simp only; omega

theorem TS.one {look : Look} {sc : List V} {y : Y} {i : List Nat} (h : TS look sc y i) : sc.all V.one = true := by cases h; rfl
theorem TS.names {look : Look} {sc : List V} {y : Y} {i : List Nat} (h : TS look sc y i) : closeT noLook (.agg sc) = none := by
  cases h with
  | mk h hb =>
    rename_i id g vs i
    have : close1 noLook (.osl id g 0 y.brs.length 1 (some y.brs.length)) = none := rfl
    simp only [closeT, close]
    have h2 : ∀ a : List V, closeVs (close1 noLook) (a ++ [.osl id g 0 y.brs.length 1 (some y.brs.length)]) = none := by
      intro a
      induction a with
      | nil => simp only [List.nil_append, closeVs, this]
      | cons x a ih => simp only [List.cons_append, closeVs, ih]; split <;> simp_all
    rw [h2]

theorem Hp.get_set (h : Hp) (k t : Nat) (o : Ob) : (Hp.set h k o).get t = if k = t then some o else h.get t := by
  split
  · rename_i hk; subst hk; exact Hp.get_set_self h k o
  · rename_i hk; exact Hp.get_set_ne h k t o hk
end Go.Ab
