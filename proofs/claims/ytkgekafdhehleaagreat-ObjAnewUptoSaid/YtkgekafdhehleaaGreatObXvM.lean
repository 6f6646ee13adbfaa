/- A step under way lies in memory. -/
import Derived.Test.YtkgekafdhehleaaGreatAcMlM
set_option linter.unusedVariables false
set_option linter.unusedSimpArgs false
section
set_option maxRecDepth 4000
namespace Go.Ac
open Go.Proofs
attribute [local simp] Hp.get_set Ag_set Ag_refl Ag_trunc get_trunc_lt
mutual
/-- What Reset writes. -/
def wset : Trn → Pt → List Nat
 | .mk c ms sb, .mk a ps => (if c.mems = [] then [] else [a.im]) ++ wsL sb ps
def wsL : List Trn → List Pt → List Nat
 | t :: ts, p :: ps => wset t p ++ wsL ts ps
 | [], _ => []
 | _ :: _, [] => []
end
theorem wsL_mem : ∀ (l : List Trn) (ps : List Pt) (k : Nat), k ∈ wsL l ps ↔ ∃ (i : Nat) (t : Trn) (p : Pt), l[i]? = some t ∧ ps[i]? = some p ∧ k ∈ wset t p
 | [], ps, q => by rw [wsL]; simp
 | t :: r, [], q => by rw [wsL]; simp
 | t :: r, p :: ps, q => by
  rw [wsL, List.mem_append, wsL_mem r ps q]
  constructor
  ·rintro (h | ⟨i, u, v, h1, h2, h3⟩)
   ·exact ⟨0, t, p, rfl, rfl, h⟩
   ·exact ⟨i + 1, u, v, by simpa using h1, by simpa using h2, h3⟩
  ·rintro ⟨i, u, v, h1, h2, h3⟩
   cases i with
   | zero => simp at h1 h2; subst h1; subst h2; exact .inl h3
   | succ i => exact .inr ⟨i, u, v, by simpa using h1, by simpa using h2, h3⟩
mutual
theorem wset_mids : ∀ (t : Trn) (p : Pt) (k : Nat), k ∈ wset t p → k ∈ mids p
 | .mk c ms sb, .mk a ps, k, h => by
  rw [wset, List.mem_append] at h
  rw [mids, List.mem_cons]
  rcases h with h | h
  ·split at h
   ·cases h
   ·exact .inl (by simpa using h)
  ·exact .inr (wsL_mids sb ps k h)
theorem wsL_mids : ∀ (l : List Trn) (ps : List Pt) (k : Nat), k ∈ wsL l ps → k ∈ midsL ps
 | [], ps, k, h => by rw [wsL] at h; cases h
 | t :: r, [], k, h => by rw [wsL] at h; cases h
 | t :: r, p :: ps, k, h => by
  rw [wsL, List.mem_append] at h
  rw [midsL, List.mem_append]
  rcases h with h | h
  ·exact .inl (wset_mids t p k h)
  ·exact .inr (wsL_mids r ps k h)
end
mutual
theorem init_same : ∀ (t : Trn) (p : Pt) (e : Nat × Ob), e ∈ meC t.init p → e.1 ∉ wset t p → e ∈ meC t p
 | .mk c ms sb, .mk a ps, e, h, hn => by
  rw [Trn.init, meC, List.mem_cons] at h
  rw [wset, List.mem_append] at hn
  rw [meC, List.mem_cons]
  rcases h with h | h
  ·left
   by_cases hm : c.mems = []
   ·rw [h, hm]; rfl
   ·rw [if_neg hm] at hn
    exact absurd (.inl (by rw [h]; simp)) hn
  ·exact .inr (initL_same sb ps e h fun h2 => hn (.inr h2))
theorem initL_same : ∀ (l : List Trn) (ps : List Pt) (e : Nat × Ob), e ∈ meL (initL l) ps → e.1 ∉ wsL l ps → e ∈ meL l ps
 | [], ps, e, h, hn => by rw [initL] at h; exact h
 | t :: r, [], e, h, hn => by rw [initL, meL] at h; cases h
 | t :: r, p :: ps, e, h, hn => by
  rw [initL, meL, List.mem_append] at h
  rw [wsL, List.mem_append] at hn
  rw [meL, List.mem_append]
  rcases h with h | h
  ·exact .inl (init_same t p e h fun h2 => hn (.inl h2))
  ·exact .inr (initL_same r ps e h fun h2 => hn (.inr h2))
end
theorem tWr_mem {r : CR} {n0 k : Nat} (hn : r.n = n0) : k ∈ (tWr r n0).map (·.1) ↔ k ∈ r.wl ∧ (r.hp.get k).isSome = true := by
 unfold tWr
 rw [hn, Nat.sub_self, List.range_zero, List.map_nil, List.append_nil]
 generalize r.wl = l
 induction l with
 | nil => simp [wrOf]
 | cons i l ih =>
  simp only [wrOf]
  cases hi : r.hp.get i with
  | none =>
   simp only [ih, List.mem_cons]
   constructor
   ·rintro ⟨h1, h2⟩; exact ⟨.inr h1, h2⟩
   ·rintro ⟨h1 | h1, h2⟩
    ·subst h1; rw [hi] at h2; cases h2
    ·exact ⟨h1, h2⟩
  | some o =>
   simp only [List.map_cons, List.mem_cons, ih]
   constructor
   ·rintro (h1 | ⟨h1, h2⟩)
    ·subst h1; exact ⟨.inl rfl, by rw [hi]; rfl⟩
    ·exact ⟨.inr h1, h2⟩
   ·rintro ⟨h1 | h1, h2⟩
    ·exact .inl h1
    ·exact .inr ⟨h1, h2⟩
theorem tWr_get {r : CR} {n0 k : Nat} {hp0 : Hp} (hn : r.n = n0) : (hp0.sets (tWr r n0)).get k = if k ∈ r.wl ∧ (r.hp.get k).isSome = true then r.hp.get k else hp0.get k := by
 unfold tWr
 rw [hn, Nat.sub_self, List.range_zero, List.map_nil, List.append_nil]
 exact Hp.get_sets_wrOf _ _ _
theorem pair_nodup {α : Type} : ∀ {l : List (Nat × α)} {x y : Nat × α}, (l.map Prod.fst).Nodup → x ∈ l → y ∈ l → x.1 = y.1 → x.2 = y.2
 | [], x, y, _, h, _, _ => by cases h
 | z :: r, x, y, hn, hx, hy, he => by
  rw [List.map_cons, List.nodup_cons] at hn
  rcases List.mem_cons.1 hx with hx2 | hx2
  ·rcases List.mem_cons.1 hy with hy2 | hy2
   ·rw [hx2, hy2]
   ·rw [hx2] at he; exact absurd (List.mem_map.2 ⟨y, hy2, he.symm⟩) hn.1
  ·rcases List.mem_cons.1 hy with hy2 | hy2
   ·rw [hy2] at he; exact absurd (List.mem_map.2 ⟨x, hx2, he⟩) hn.1
   ·exact pair_nodup hn.2 hx2 hy2 he
theorem range_mp {α : Type} (e : α → V) (l : List (Tx × α)) {id g n c : Nat} {ro : Bool} {look : Look} (h : look id = some ⟨g, ro, [mpC e l]⟩) :
  rangeMV look n c (.mp id g) = some ⟨.it n c, [(n, ⟨c, false, [.itm id g l.length [] l.length]⟩)], [id], 1, 1, false⟩ := by
 unfold rangeMV
 have hl : live look id g = some ⟨g, ro, [mpC e l]⟩ := by unfold live; rw [h]; simp
 simp only [hl, mpC]
theorem entryIt_mp {α : Type} (e : α → V) (l : List (Tx × α)) {id g mid mg since : Nat} {ro ro' : Bool} {seen : List Nat} {b : Nat} {x : Tx} {v : α} {look : Look} (h : look id = some ⟨g, ro, [.itm mid mg since (seen ++ [b]) l.length]⟩) (h2 : look mid = some ⟨mg, ro', [mpC e l]⟩) (hb : l[b]? = some (x, v)) :
  entryItV look (.it id g) = some ⟨.tuple [.d (.str x), e v], [], [id, mid], 0, 0, false⟩ := by
 unfold entryItV
 have hl : live look id g = some ⟨g, ro, [.itm mid mg since (seen ++ [b]) l.length]⟩ := by unfold live; rw [h]; simp
 have hl2 : live look mid mg = some ⟨mg, ro', [mpC e l]⟩ := by unfold live; rw [h2]; simp
 have hlt := (List.getElem?_eq_some_iff.1 hb).1
 simp only [hl, hl2, List.getLast?_append, List.getLast?_singleton, Option.some_or, mpC, decide_true, findB_mp _ _ hlt, List.getElem?_map, hb, Option.map_some]
theorem itAt_mp {α : Type} (e : α → V) (l : List (Tx × α)) {s : St} {t id g mid mg : Nat} {seen : List Nat} {ro' : Bool} (h1 : s.env.get t = .it id g) (h2 : s.hp.get id = some ⟨g, false, [.itm mid mg l.length seen l.length]⟩) (h3 : s.hp.get mid = some ⟨mg, ro', [mpC e l]⟩) (h4 : id < s.n) :
  itAt s t = some ⟨id, g, mid, mg, l.length, seen, l.map fun p => .str p.1, l.map fun p => e p.2, List.range l.length⟩ := by
 unfold itAt
 have hl : live s.hp.get id g = some ⟨g, false, [.itm mid mg l.length seen l.length]⟩ := by unfold live; rw [h2]; simp
 have hl2 : live s.hp.get mid mg = some ⟨mg, ro', [mpC e l]⟩ := by unfold live; rw [h3]; simp
 have hb : (List.range l.length).all (fun b => decide (b < l.length)) = true := by simp [List.all_eq_true]
 have hn : decide (List.range l.length).Nodup = true := by simp [List.nodup_range]
 have hi : Nat.blt id s.n = true := by rw [Nat.blt_eq]; exact h4
 simp only [h1, hl, hl2, mpC, decide_true, hb, hn, hi]
theorem pickR_mp {α : Type} (e : α → V) (l : List (Tx × α)) {id g mid mg : Nat} {seen : List Nat} {b : Nat} {x : Tx} {v : α} (hb : l[b]? = some (x, v)) :
  pickR ⟨id, g, mid, mg, l.length, seen, l.map fun p => .str p.1, l.map fun p => e p.2, List.range l.length⟩ b = some ⟨.tuple [.d (.bool true), .d (.str x), e v], [(id, ⟨g, false, [.itm mid mg l.length (seen ++ [b]) l.length]⟩)], [], 0, 0, false⟩ := by
 have hlt := (List.getElem?_eq_some_iff.1 hb).1
 unfold pickR
 simp only [findB_mp _ _ hlt, List.getElem?_map, hb, Option.map_some]
theorem handed2 (a b : Oper) (d : Nat) : handed #[a, b] d = #[⟨some d, .move (.tmp d), 0, "", #[], none⟩, b] := rfl
/-- What Reset does. -/
def ResetAt (en : List En) (t : Trn) (p : Pt) : Prop := ∀ hp n cc, Lies en t p hp n →
 ∃ q, lim Tryz.prog Ob.cfg 23 [.ptr p.a.x p.a.gx 0] hp n cc = some q ∧ q.v = .tuple [] ∧ q.n = n ∧ (∀ i, i ∈ q.wl ↔ i ∈ wset t p) ∧ (∀ k, k < n → k ∉ wset t p → q.hp.get k = hp.get k) ∧ ∀ e, e ∈ meC t.init p → q.hp.get e.1 = some e.2
theorem kf23 (r : Nat) : Ob.keep 23 r = Ob.k23 r := by kernel_rfl
attribute [local simp] kf23 Ob.k23
set_option maxHeartbeats 4000000 in
theorem reset_all {o : Oc} (hL : ∀ c, c ∈ o.cl → CLen c) (en : List En) : ∀ (N : Nat) (t : Trn) (p : Pt), t.ht < N → t.ok o → ResetAt en t p := by
 intro N
 induction N with
 | zero => intro t p h; omega
 | succ N ih =>
 intro t p hN hok hp n cc hK
 obtain ⟨c, ms, sb⟩ := t
 obtain ⟨a, ps⟩ := p
 have hxo := hK.st (a.x, oO a.gx en c a.im a.gm a.ii a.gi) (by rw [stC]; simp)
 have hio := hK.st (a.ii, ⟨a.gi, false, [mpC eP (insL c ps)]⟩) (by rw [stC]; simp)
 have hmo := hK.me (a.im, ⟨a.gm, false, [mpC eI ms]⟩) (by rw [meC]; simp)
 obtain ⟨lx, hco⟩ := hxo
 obtain ⟨li, hii⟩ := hio
 obtain ⟨lm, him⟩ := hmo
 simp only at lx hco li hii lm him
 have hnd := hK.nd
 unfold Pt.nd at hnd
 rw [sids, mids, List.nodup_append] at hnd
 obtain ⟨nd1, nd2, nd3⟩ := hnd
 have nxm : a.x ≠ a.im := fun e => nd3 a.x (by simp) a.im (by simp) e
 have nim : a.ii ≠ a.im := fun e => nd3 a.ii (by simp) a.im (by simp) e
 have nsub : ∀ k, k ∈ midsL ps → k ≠ a.x ∧ k ≠ a.ii ∧ k ≠ a.im := fun k hk => ⟨fun e => nd3 a.x (by simp) k (by simp [hk]) e.symm, fun e => nd3 a.ii (by simp) k (by simp [hk]) e.symm, fun e => by rw [List.nodup_cons] at nd2; rw [e] at hk; exact nd2.1 hk⟩
 rw [Trn.ok] at hok
 have hcl := (hL c hok.1).sum
 have nc := nf lx
 have ni := nf li
 have nm := nf lm
 have lm1 : (a.im < n + 1) = True := eq_true (by omega)
 have lm2 : (a.im < n) = True := eq_true lm
 have nxm' := eq_false nxm
 have nxm2 := eq_false (Ne.symm nxm)
 have hcx := hco
 simp only [oO] at hcx
 have main : ∃ (v : V) (u : St), lim Tryz.prog Ob.cfg 23 [.ptr a.x a.gx 0] hp n cc = some ⟨v, Hp.trunc n u.hp, n, u.c, u.wl⟩ ∧ (v = .tuple [] ∧ (∀ i, i ∈ u.wl ↔ i ∈ wset (.mk c ms sb) (.mk a ps)) ∧ (∀ k, k < n → k ∉ wset (.mk c ms sb) (.mk a ps) → u.hp.get k = hp.get k) ∧ ∀ e, e ∈ meC (Trn.init (.mk c ms sb)) (.mk a ps) → u.hp.get e.1 = some e.2) := by
  refine lim_wpD (Q := fun v u => v = .tuple [] ∧ (∀ i, i ∈ u.wl ↔ i ∈ wset (.mk c ms sb) (.mk a ps)) ∧ (∀ k, k < n → k ∉ wset (.mk c ms sb) (.mk a ps) → u.hp.get k = hp.get k) ∧ ∀ e, e ∈ meC (Trn.init (.mk c ms sb)) (.mk a ps) → u.hp.get e.1 = some e.2) Tryz.func23 rfl (by kernel_rfl) rfl ?_
  refine wkcektv (jn @envOf.eq_1 (jn @envOf.eq_2 (jn @dI.eq_1 (jn @dL.eq_1 (jn @hcx @nc))))) ?_
  apply WP.loop' (I := fun D s => ∃ (i c' : Nat) (wl : List Nat) (hp' : Hp), i + D = c.mems.length ∧ hp'.get a.im = some ⟨a.gm, false, [mpC eI (puts ms (mI (c.mems.take i)))]⟩ ∧ (∀ k, k < n → (k ≠ a.im ∨ i = 0) → hp'.get k = hp.get k) ∧ (∀ k, k ∈ wl ↔ k = a.im ∧ 0 < i) ∧ s = ⟨[(0, .ptr a.x a.gx 0), (12, dL (encM c.mems)), (13, dI c.mems.length), (14, dI i)], hp', n, c', n, wl⟩) (d := c.mems.length)
  ·exact ⟨0, _, _, _, by simp, by simp [him, mI, puts], fun k h1 h2 => rfl, by simp, st_eq (by simp [dI, dL]) rfl⟩
  rintro D _ ⟨i, c', wl, hp', hi, hm', hfr, hwl, rfl⟩
  have hcx' := (hfr _ lx (.inl nxm)).trans hcx
  refine wkektv (jn @dI.eq_1 @dL.eq_1) ?_
  show WP _ _ _ _ _ _
  refine WP.cond _ rfl (fun hb => ?_) (fun hb => ?_)
  ·simp at hb
   have hb' : i < c.mems.length := by omega
   obtain ⟨d, hd, hdm, hix⟩ := at_lt hb'
   have hd' := encM_at hd
   have hwj := w_succ hb' (by omega)
   have hins := fun (look : Look) (sz by_ : Nat) (zr : Option (List V)) (h : look a.im = some ⟨a.gm, false, [mpC eI (puts ms (mI (c.mems.take i)))]⟩) => insert_mp eI (puts ms (mI (c.mems.take i))) d.ini (w := .d (.int .i64 d.ini)) (sz := sz) (by_ := by_) (zr := zr) (x := d.nm) rfl h
   refine wkcektv (jn @dI.eq_1 (jn @dL.eq_1 (jn @hix (jn @hd' (jn @Mm.cells.eq_1 (jn @fillV.eq_1 (jn @fillV.eq_2 (jn @hcx' (jn @nc (jn @nm (jn @hm' (jn @lm1 @hins)))))))))))) ?_
   refine loop_next (by simp [-addNew, hwj]; exact Is.rfl) ?_
   have hps : puts ms (mI (c.mems.take (i + 1))) = mput (puts ms (mI (c.mems.take i))) d.nm d.ini := by rw [take_snoc hd]; unfold mI; rw [List.map_append]; exact puts_snoc _ _ _
   refine ⟨D - 1, by omega, i + 1, _, _, _, by omega, ?_, fun k h1 h2 => ?_, fun k => ?_, st_eq (by simp [dI, dL, hwj]) rfl⟩
   ·rw [hps]; simp [nm, lm]
   ·have h3 : (n = k) = False := eq_false (by omega)
    have h5 : k ≠ a.im := by rcases h2 with h | h; exact h; omega
    have h4 : (a.im = k) = False := eq_false (Ne.symm h5)
    simp [h1, h3, h4, hfr k h1 (.inl h5)]
   ·simp only [mem_addNew, List.map_cons, List.map_nil, List.mem_cons, List.not_mem_nil, or_false, hwl k]
    omega
  simp at hb
  have hie : i = c.mems.length := by omega
  rw [hie, List.take_length] at hm'
  have hii' := (hfr _ li (.inl nim)).trans hii
  have hrg := fun (look : Look) (n' c'' : Nat) (h : look a.ii = some ⟨a.gi, false, [mpC eP (insL c ps)]⟩) => range_mp eP (insL c ps) (n := n') (c := c'') h
  refine wkcektv (jn @dI.eq_1 (jn @dL.eq_1 (jn @hcx' (jn @nc (jn @ni (jn @hii' (jn @isMapK.eq_1 (jn @isMapK.eq_2 @hrg)))))))) ?_
  rw [Trn.init]
  have hfit := hK.fit
  rw [fit] at hfit
  obtain ⟨hsl, hfl⟩ := hfit
  have hpl := fitL_len sb ps hfl
  have hlen : (insL c ps).length = ps.length := by unfold insL; simp; omega
  have hinit : fitL (initL sb) ps := by rw [← fitL_bare, initL_bare, fitL_bare]; exact hfl
  have hLat : ∀ (j : Nat) (q : Pt), ps[j]? = some q → ∃ x, (insL c ps)[j]? = some (x, (q.a.x, q.a.gx)) := by
   intro j q hq
   have hj := (List.getElem?_eq_some_iff.1 hq).1
   refine ⟨(c.ins[j]'(by omega)).nm, ?_⟩
   unfold insL
   rw [List.getElem?_zip_eq_some]
   refine ⟨by simp [List.getElem?_map, List.getElem?_eq_getElem (show j < c.ins.length by omega)], by simp [List.getElem?_map, hq]⟩
  generalize hG : (fun k => match (meL (initL sb) ps).find? (fun e => decide (e.1 = k)) with | some e => some e.2 | none => hp'.get k : Nat → Option Ob) = G
  have hGm : ∀ e, e ∈ meL (initL sb) ps → G e.1 = some e.2 := by
   intro e he
   have hk := meL_keys (initL sb) ps hinit
   rw [List.nodup_cons] at nd2
   have hnk : ((meL (initL sb) ps).map Prod.fst).Nodup := by rw [hk]; exact nd2.2
   rw [← hG]
   simp only
   cases hf : (meL (initL sb) ps).find? (fun x => decide (x.1 = e.1)) with
   | none =>
    rw [List.find?_eq_none] at hf
    have := hf e he
    simp at this
   | some x =>
    have hx1 : x.1 = e.1 := by simpa using List.find?_some hf
    have hxm := List.mem_of_find?_eq_some hf
    simp only
    congr 1
    exact pair_nodup hnk hxm he hx1
  have hGn : ∀ k, k ∉ midsL ps → G k = hp'.get k := by
   intro k hk
   rw [← meL_keys (initL sb) ps hinit] at hk
   rw [← hG]
   simp only
   cases hf : (meL (initL sb) ps).find? (fun x => decide (x.1 = k)) with
   | none => rfl
   | some x =>
    have hx1 : x.1 = k := by simpa using List.find?_some hf
    exact absurd (List.mem_map.2 ⟨x, List.mem_of_find?_eq_some hf, hx1⟩) hk
  clear hG
  generalize hsome : insL c ps = L at *
  refine WP.mapLoop (it := n) (hn := rfl) (Inv := fun l u => ∃ (seen : List Nat) (c2 : Nat) (wl2 : List Nat) (hp2 : Hp), l.Perm ((List.range L.length).filter fun b => !seen.contains b) ∧ hp2.get n = some ⟨c', false, [.itm a.ii a.gi L.length seen L.length]⟩ ∧ (∀ k, k < n → (¬ ∃ (j : Nat) (t : Trn) (p : Pt), j ∈ seen ∧ sb[j]? = some t ∧ ps[j]? = some p ∧ k ∈ wset t p) → hp2.get k = hp'.get k) ∧
   (∀ (j : Nat) (t : Trn) (p : Pt), sb[j]? = some t → ps[j]? = some p → ∀ e, e ∈ meC (if j ∈ seen then t.init else t) p → hp2.get e.1 = some e.2) ∧ (∀ k, k ∈ wl2 ↔ k ∈ wl ∨ ∃ (j : Nat) (t : Trn) (p : Pt), j ∈ seen ∧ sb[j]? = some t ∧ ps[j]? = some p ∧ k ∈ wset t p) ∧
   u = ⟨[(31, .it n c')], hp2, n + 1, c2, n, wl2⟩) (E := .exit 2) (U := fun t => Env.get [(31, .it n c')] t) (G := G) (W := fun k => k ∈ wl ∨ k ∈ wsL sb ps) (by simp) (itAt_mp eP L (id := n) (g := c') (mid := a.ii) (mg := a.gi) (seen := []) (ro' := false) rfl (by simp) (by simp [ni, hii']) (Nat.lt_succ_self n)) (Nat.le_succ n) (Nat.le_refl n) (fun _ => rfl) ?_ rfl ?_ ?_
  ·rintro l u ⟨seen, c2, wl2, hp2, hperm, hit, hfr2, hme2, hwl2, rfl⟩
   have hout : ∀ k, k ∉ midsL ps → ¬ ∃ (j : Nat) (t : Trn) (p : Pt), j ∈ seen ∧ sb[j]? = some t ∧ ps[j]? = some p ∧ k ∈ wset t p := by
    rintro k hk ⟨j, t, p, _, _, h2, h3⟩
    exact hk (mids_at ps j p h2 k (wset_mids t p k h3))
   have hii2 : hp2.get a.ii = some ⟨a.gi, false, [mpC eP L]⟩ := (hfr2 _ li (hout _ fun h => (nsub _ h).2.1 rfl)).trans hii'
   refine ⟨_, itAt_mp eP L (id := n) (g := c') (mid := a.ii) (mg := a.gi) (seen := seen) (ro' := false) rfl hit hii2 (Nat.lt_succ_self n), hperm.symm, fun hl => ?_, fun x hx => ?_⟩
   ·rw [handed2]
    show WP _ _ _ _ ⟨(32, .tuple [.d (.bool false)]) :: [(31, .it n c')], hp2, n + 1, c2, n, wl2⟩ _
    refine wkcektv True.intro ?_
    have hall : ∀ j, j < L.length → j ∈ seen := by
     intro j hj
     rw [hl] at hperm
     have := List.perm_nil.1 hperm.symm
     rw [List.filter_eq_nil_iff] at this
     simpa using this j (List.mem_range.2 hj)
    show FinS _ _ _ _ _ _ _ (Ex.exit 2) _
    refine ⟨rfl, fun t => ?_, fun id h1 h2 => ?_, rfl, fun k => ?_⟩
    ·by_cases ht : t = 31
     ·subst ht; right; rfl
     ·left
      simp only [Env.get]
      rw [beq_ff (fun e => ht e.symm)]
    ·have h1' : id < n := by have : id < n + 1 := h1; omega
     show hp2.get id = G id
     by_cases hm : id ∈ midsL ps
     ·obtain ⟨j, p, hj, hk⟩ := mids_of ps id hm
      have hjl := (List.getElem?_eq_some_iff.1 hj).1
      have hjs : sb[j]? = some (sb[j]'(by omega)) := List.getElem?_eq_getElem (by omega)
      have hji : (initL sb)[j]? = some (sb[j]'(by omega)).init := by rw [initL_map, List.getElem?_map, hjs]; rfl
      rw [← meC_keys _ p (fitL_at _ ps j _ p hinit hji hj)] at hk
      obtain ⟨e, he, rfl⟩ := List.mem_map.1 hk
      rw [hGm e ((meL_mem _ _ _).2 ⟨j, _, p, hji, hj, he⟩)]
      exact hme2 j _ p hjs hj e (by rw [if_pos (hall j (by omega))]; exact he)
     ·rw [hGn id hm]
      exact hfr2 id h1' (hout id hm)
    ·show k ∈ wl2 ↔ _
     rw [hwl2 k, wsL_mem]
     refine or_congr Iff.rfl ⟨?_, ?_⟩
     ·rintro ⟨j, t, p, _, h2, h3, h4⟩; exact ⟨j, t, p, h2, h3, h4⟩
     ·rintro ⟨j, t, p, h2, h3, h4⟩
      have hjl := (List.getElem?_eq_some_iff.1 h3).1
      exact ⟨j, t, p, hall j (by omega), h2, h3, h4⟩
   ·have hxf : x ∈ (List.range L.length).filter fun b => !seen.contains b := hperm.subset hx
    rw [List.mem_filter] at hxf
    have hxl := List.mem_range.1 hxf.1
    have hxn : x ∉ seen := by simpa using hxf.2
    have hq : ps[x]? = some (ps[x]'(by omega)) := List.getElem?_eq_getElem (by omega)
    have hts : sb[x]? = some (sb[x]'(by omega)) := List.getElem?_eq_getElem (by omega)
    generalize (ps[x]'(by omega)) = q at hq
    generalize (sb[x]'(by omega)) = t at hts
    obtain ⟨xn, hLx⟩ := hLat x q hq
    refine ⟨_, pickR_mp eP L hLx, ?_⟩
    rw [handed2]
    generalize hh3 : hp2.set n ⟨c', false, [.itm a.ii a.gi L.length (seen ++ [x]) L.length]⟩ = hp3
    show WP _ _ _ _ ⟨(32, .tuple [.d (.bool true), .d (.str xn), eP (q.a.x, q.a.gx)]) :: [(31, .it n c')], hp2.set n ⟨c', false, [.itm a.ii a.gi L.length (seen ++ [x]) L.length]⟩, n + 1, c2, n, addNew n wl2 [(n, ⟨c', false, [.itm a.ii a.gi L.length (seen ++ [x]) L.length]⟩)]⟩ _
    rw [hh3]
    have g3 : ∀ k, k < n → hp3.get k = hp2.get k := fun k hk => by rw [← hh3, Hp.get_set_ne _ _ _ _ (by omega)]
    have g3n : hp3.get n = some ⟨c', false, [.itm a.ii a.gi L.length (seen ++ [x]) L.length]⟩ := by rw [← hh3]; exact Hp.get_set_self ..
    have hii3 : hp3.get a.ii = some ⟨a.gi, false, [mpC eP L]⟩ := (g3 _ li).trans hii2
    obtain ⟨q', hq', hLt⟩ := hK.sub (i := x) (u := t) hts
    have : q' = q := by
     have h1 : ps[x]? = some q' := hq'
     rw [hq] at h1; simpa using h1.symm
    subst this
    have hLt3 : Lies en t q' hp3 (n + 1) := by
     refine ⟨hLt.fit, hLt.nd, fun e he => ?_, fun e he => ?_⟩
     ·obtain ⟨h1, h2⟩ := hLt.st e he
      have hs : e.1 ∈ sids q' := by rw [← stC_keys en t q' hLt.fit]; exact List.mem_map.2 ⟨e, he, rfl⟩
      have hs2 : e.1 ∈ sidsL ps := sids_at ps x q' hq _ hs
      have hnm : e.1 ∉ midsL ps := fun h => nd3 e.1 (by simp [hs2]) e.1 (by simp [h]) rfl
      have hni : e.1 ≠ a.im := fun h => nd3 e.1 (by simp [hs2]) a.im (by simp) h
      refine ⟨by omega, ?_⟩
      rw [g3 _ h1, hfr2 _ h1 (hout _ hnm), hfr _ h1 (.inl hni)]
      exact h2
     ·obtain ⟨h1, h2⟩ := hLt.me e he
      exact ⟨by omega, by rw [g3 _ h1]; exact hme2 x t q' hts hq e (by rw [if_neg hxn]; exact he)⟩
    have hht : t.ht < N := by
     have := htL_mem (List.mem_of_getElem? hts)
     rw [Trn.ht] at hN
     omega
    obtain ⟨d', hd', _, htok⟩ := okS_at o sb c.ins x t hok.2.2 hts
    obtain ⟨r, hT1, hrv, hrn, hrw, hrf, hrm⟩ := ih t q' hht htok hp3 (n + 1) c2 hLt3
    have hT2 : ∀ k, k ∈ (tWr r (n + 1)).map (·.1) → k < n + 1 + (r.n - (n + 1)) := by
     intro k hk
     obtain ⟨h1, h2⟩ := (tWr_mem hrn).1 hk
     have := hLt3.mids_lt k (wset_mids t q' k ((hrw k).1 h1))
     omega
    have hen := fun (look : Look) (h : look n = some ⟨c', false, [.itm a.ii a.gi L.length (seen ++ [x]) L.length]⟩) (h2 : look a.ii = some ⟨a.gi, false, [mpC eP L]⟩) => entryIt_mp eP L h h2 hLx
    refine wkcektv (jn @g3n (jn @hii3 (jn @hen (jn @eP.eq_1 @hrn)))) ?_
    have hqlt : ∀ k, k ∈ wset t q' → k < n := fun k hk => hLt.mids_lt k (wset_mids t q' k hk)
    have gk : ∀ k, k < n + 1 → (hp3.sets (tWr r (n + 1))).get k = if k ∈ wset t q' then r.hp.get k else hp3.get k := by
     intro k hk
     rw [tWr_get hrn]
     by_cases hw : k ∈ wset t q'
     ·have hm := wset_mids t q' k hw
      rw [← meC_keys t.init q' (by rw [← fit_bare, init_bare, fit_bare]; exact hLt.fit)] at hm
      obtain ⟨e, he, rfl⟩ := List.mem_map.1 hm
      rw [if_pos hw, if_pos ⟨(hrw _).2 hw, by rw [hrm e he]; rfl⟩]
     ·rw [if_neg hw, if_neg fun h => hw ((hrw k).1 h.1)]
    have hmem : ∀ (k : Nat), (∃ (j : Nat) (t : Trn) (p : Pt), j ∈ seen ++ [x] ∧ sb[j]? = some t ∧ ps[j]? = some p ∧ k ∈ wset t p) ↔ (∃ (j : Nat) (t : Trn) (p : Pt), j ∈ seen ∧ sb[j]? = some t ∧ ps[j]? = some p ∧ k ∈ wset t p) ∨ k ∈ wset t q' := by
     intro k
     constructor
     ·rintro ⟨j, t2, p2, h1, h2, h3, h4⟩
      rcases List.mem_append.1 h1 with h1 | h1
      ·exact .inl ⟨j, t2, p2, h1, h2, h3, h4⟩
      ·rw [List.mem_singleton] at h1
       subst h1
       rw [hts] at h2; rw [hq] at h3
       simp only [Option.some.injEq] at h2 h3
       subst h2; subst h3
       exact .inr h4
     ·rintro (⟨j, t2, p2, h1, h2, h3, h4⟩ | h)
      ·exact ⟨j, t2, p2, List.mem_append_left _ h1, h2, h3, h4⟩
      ·exact ⟨x, t, q', by simp, hts, hq, h⟩
    refine Or.inl ⟨rfl, seen ++ [x], _, _, Hp.trunc (n + 1) (hp3.sets (tWr r (n + 1))), ?_, ?_, fun k h1 h2 => ?_, fun j t2 p2 h1 h2 e he => ?_, fun k => ?_, rfl⟩
    ·have h1 := hperm.erase x
     refine h1.trans ?_
     rw [List.Nodup.erase_eq_filter (List.Pairwise.filter _ List.nodup_range), List.filter_filter]
     refine List.Perm.of_eq (List.filter_congr fun b _ => ?_)
     simp only [List.contains_eq_mem, List.mem_append, List.mem_singleton]
     by_cases h2 : b = x <;> by_cases h3 : b ∈ seen <;> simp [h2, h3]
    ·rw [Hp.get_trunc _ _ _ (Nat.lt_succ_self n), gk n (Nat.lt_succ_self n), if_neg fun h => Nat.lt_irrefl n (hqlt n h)]
     exact g3n
    ·rw [hmem k] at h2
     rw [Hp.get_trunc _ _ _ (by omega), gk k (by omega), if_neg fun h => h2 (.inr h), g3 k h1]
     exact hfr2 k h1 fun h => h2 (.inl h)
    ·by_cases hjx : j = x
     ·subst hjx
      rw [hts] at h1; rw [hq] at h2
      simp only [Option.some.injEq] at h1 h2
      subst h1; subst h2
      rw [if_pos (by simp)] at he
      have hfi : fit t.init q' := by rw [← fit_bare, init_bare, fit_bare]; exact hLt.fit
      have hm : e.1 ∈ mids q' := by rw [← meC_keys t.init q' hfi]; exact List.mem_map.2 ⟨e, he, rfl⟩
      have hlt := hLt.mids_lt _ hm
      rw [Hp.get_trunc _ _ _ (by omega), gk _ (by omega)]
      split
      ·exact hrm e he
      ·rename_i hw
       rw [← hrf _ (by omega) hw]; exact hrm e he
     ·have hfj := fitL_at sb ps j t2 p2 hfl h1 h2
      have hm : e.1 ∈ mids p2 := by
       split at he
       ·rw [← meC_keys t2.init p2 (by rw [← fit_bare, init_bare, fit_bare]; exact hfj)]; exact List.mem_map.2 ⟨e, he, rfl⟩
       ·rw [← meC_keys t2 p2 hfj]; exact List.mem_map.2 ⟨e, he, rfl⟩
      have hlt : e.1 < n := hK.mids_lt _ (by rw [mids]; exact List.mem_cons_of_mem _ (mids_at ps j p2 h2 _ hm))
      rw [List.nodup_cons] at nd2
      have hno := mids_dj ps nd2.2 j x p2 q' h2 hq hjx e.1 hm
      rw [Hp.get_trunc _ _ _ (by omega), gk _ (by omega), if_neg fun h => hno (wset_mids t q' _ h), g3 _ hlt]
      refine hme2 j t2 p2 h1 h2 e ?_
      have : (j ∈ seen ++ [x]) = (j ∈ seen) := by simp [hjx]
      simp only [this] at he
      exact he
    ·rw [hmem k, mem_addNew, mem_addNew, hwl2 k, tWr_mem hrn, hrw k]
     simp only [List.map_cons, List.map_nil, List.mem_singleton]
     constructor
     ·rintro ((h | ⟨h, h2⟩) | ⟨h, h2, h3⟩)
      ·rcases h with h | h
       ·exact .inl h
       ·exact .inr (.inl h)
      ·omega
      ·exact .inr (.inr h2)
     ·rintro (h | h | h)
      ·exact .inl (.inl (.inl h))
      ·exact .inl (.inl (.inr h))
      ·refine .inr ⟨hqlt k h, h, ?_⟩
       have hm := wset_mids t q' k h
       rw [← meC_keys t.init q' (by rw [← fit_bare, init_bare, fit_bare]; exact hLt.fit)] at hm
       obtain ⟨e, he, rfl⟩ := List.mem_map.1 hm
       rw [hrm e he]; rfl
  ·refine ⟨[], _, _, _, ?_, by simp, fun k h1 _ => ?_, fun j t p h1 h2 e he => ?_, fun k => ?_, rfl⟩
   ·exact List.Perm.refl _
   ·rw [Hp.get_set_ne _ _ _ _ (by omega)]
   ·rw [if_neg (by simp)] at he
    have hin : e ∈ meC (.mk c ms sb) (.mk a ps) := by rw [meC]; exact List.mem_cons_of_mem _ ((meL_mem _ _ _).2 ⟨j, t, p, h1, h2, he⟩)
    obtain ⟨g1, g2⟩ := hK.me e hin
    have hm : e.1 ∈ mids p := by rw [← meC_keys t p (fitL_at sb ps j t p hfl h1 h2)]; exact List.mem_map.2 ⟨e, he, rfl⟩
    rw [Hp.get_set_ne _ _ _ _ (by omega), hfr _ g1 (.inl (nsub _ (mids_at ps j p h2 _ hm)).2.2)]
    exact g2
   ·rw [mem_addNew]
    simp only [List.map_cons, List.map_nil, List.mem_singleton, List.not_mem_nil, false_and, exists_false, or_false]
    constructor
    ·rintro (h | ⟨h1, h2⟩)
     ·exact h
     ·omega
    ·exact fun h => .inl h
  ·intro env hpf cf wlf henv _ hpf' hwlf
   have him2 : a.im ∉ midsL ps := fun h => (nsub _ h).2.2 rfl
   have hgf : ∀ k, k < n → hpf.get k = G k := fun k hk => by
    rw [hpf' k, if_neg (by omega), if_pos (show k < n + 1 by omega)]
   show (Ex.normal = Ex.normal ∨ _) ∧ _
   refine ⟨.inl rfl, [], .tuple [], [], rfl, rfl, rfl, rfl, fun k => ?_, fun k h1 h2 => ?_, fun e he => ?_⟩
   ·show k ∈ wlf ↔ _
    rw [hwlf k, wset, List.mem_append, hwl k]
    by_cases hm0 : c.mems = []
    ·rw [if_pos hm0]
     rw [hm0] at hie
     simp at hie
     simp [hie]
    ·have : 0 < c.mems.length := List.length_pos_iff.2 hm0
     rw [if_neg hm0]
     simp [show 0 < i by omega]
   ·show hpf.get k = _
    rw [hgf k h1]
    rw [wset, List.mem_append] at h2
    by_cases hm : k ∈ midsL ps
    ·rw [← meL_keys (initL sb) ps hinit] at hm
     obtain ⟨e, he, rfl⟩ := List.mem_map.1 hm
     have h3 := initL_same sb ps e he fun h => h2 (.inr h)
     rw [hGm e he]
     exact ((hK.me e (by rw [meC]; exact List.mem_cons_of_mem _ h3)).2).symm
    ·rw [hGn k hm]
     refine hfr k h1 ?_
     by_cases hk : k = a.im
     ·right
      by_cases hm0 : c.mems = []
      ·rw [hie, hm0]; rfl
      ·exact absurd (.inl (by rw [if_neg hm0, hk]; simp)) h2
     ·exact .inl hk
   ·show hpf.get e.1 = _
    rw [meC, List.mem_cons] at he
    rcases he with he | he
    ·subst he
     rw [hgf _ lm, hGn _ him2]; exact hm'
    ·have hk : e.1 ∈ midsL ps := by rw [← meL_keys (initL sb) ps hinit]; exact List.mem_map.2 ⟨e, he, rfl⟩
     rw [hgf _ (hK.mids_lt _ (by rw [mids]; exact List.mem_cons_of_mem _ hk)), hGm e he]
 obtain ⟨v, u, h1, rfl, h3, h4, h5⟩ := main
 refine ⟨_, h1, rfl, rfl, h3, fun k hk hw => ?_, fun e he => ?_⟩
 ·show (Hp.trunc n u.hp).get k = _
  rw [Hp.get_trunc _ _ _ hk]; exact h4 k hk hw
 ·show (Hp.trunc n u.hp).get e.1 = _
  have hfi : fit (Trn.init (.mk c ms sb)) (.mk a ps) := by rw [← fit_bare, init_bare, fit_bare]; exact hK.fit
  have hm : e.1 ∈ mids (.mk a ps) := by rw [← meC_keys _ _ hfi]; exact List.mem_map.2 ⟨e, he, rfl⟩
  rw [Hp.get_trunc _ _ _ (hK.mids_lt _ hm)]; exact h5 e he
end Go.Ac
end

section
set_option maxRecDepth 4000
namespace Go.Ac
open Go.Proofs
theorem Lies.upS {en : List En} {t u : Trn} {p : Pt} {hp hp' : Hp} {n : Nat} (h : Lies en t p hp n) (hb : u.bare = t.bare) (hf : ∀ k, k < n → k ∈ sids p → hp'.get k = hp.get k) (hm : ∀ q, q ∈ meC u p → hp'.get q.1 = some q.2) : Lies en u p hp' n := by
 have hfit : Go.Ac.fit u p := by rw [← fit_bare, hb, fit_bare]; exact h.fit
 refine ⟨hfit, h.nd, fun q hq => ?_, fun q hq => ?_⟩
 ·rw [← stC_bare, hb, stC_bare] at hq
  obtain ⟨h1, h2⟩ := h.st q hq
  exact ⟨h1, (hf _ h1 (by rw [← stC_keys en t p h.fit]; exact List.mem_map.2 ⟨q, hq, rfl⟩)).trans h2⟩
 ·refine ⟨h.mids_lt _ ?_, hm q hq⟩
  rw [← meC_keys u p hfit]; exact List.mem_map.2 ⟨q, hq, rfl⟩
/-- An instance and the variables of a step. -/
structure EA (en : List En) (c : Cl) (pb : Pb) (ps : List Pt) (v gv : Nat) (s : Es) (hp : Hp) (n : Nat) : Prop where
 li : Lies en (.mk c s.ms s.sb) (.mk pb ps) hp n
 va : hp.get v = some ⟨gv, false, [mpC eI s.vs]⟩
 lv : v < n
 ds : v ∉ sids (.mk pb ps)
 dm : v ∉ mids (.mk pb ps)
def paOf (pb : Pb) (v gv : Nat) : Pa := ⟨pb.x, pb.gx, pb.im, pb.gm, pb.ii, pb.gi, v, gv⟩
section
variable {en : List En} {c : Cl} {pb : Pb} {ps : List Pt} {v gv : Nat} {s : Es} {hp hp' : Hp} {n n' : Nat}
theorem EA.mono (h : EA en c pb ps v gv s hp n) (ha : Ag n hp hp') (hn : n ≤ n') : EA en c pb ps v gv s hp' n' :=
 ⟨h.li.mono ha hn, (ha _ h.lv).trans h.va, Nat.lt_of_lt_of_le h.lv hn, h.ds, h.dm⟩
theorem EA.ob (h : EA en c pb ps v gv s hp n) : pb.x < n ∧ hp.get pb.x = some (oO pb.gx en c pb.im pb.gm pb.ii pb.gi) := h.li.st (pb.x, oO pb.gx en c pb.im pb.gm pb.ii pb.gi) (by rw [stC]; simp)
theorem EA.io (h : EA en c pb ps v gv s hp n) : pb.ii < n ∧ hp.get pb.ii = some ⟨pb.gi, false, [mpC eP (insL c ps)]⟩ := h.li.st (pb.ii, ⟨pb.gi, false, [mpC eP (insL c ps)]⟩) (by rw [stC]; simp)
theorem EA.mo (h : EA en c pb ps v gv s hp n) : pb.im < n ∧ hp.get pb.im = some ⟨pb.gm, false, [mpC eI s.ms]⟩ := h.li.me (pb.im, ⟨pb.gm, false, [mpC eI s.ms]⟩) (by rw [meC]; simp)
theorem EA.ra (h : EA en c pb ps v gv s hp n) : RA (paOf pb v gv) en c s.ms s.vs hp n := ⟨h.ob.2, h.mo.2, h.va, h.ob.1, h.mo.1, h.lv⟩
theorem EA.vne (h : EA en c pb ps v gv s hp n) : v ≠ pb.x ∧ v ≠ pb.ii ∧ v ≠ pb.im := by
 have h1 := h.ds
 have h2 := h.dm
 rw [sids] at h1
 rw [mids] at h2
 exact ⟨fun e => h1 (by simp [e]), fun e => h1 (by simp [e]), fun e => h2 (by simp [e])⟩
theorem EA.mlt (h : EA en c pb ps v gv s hp n) : ∀ k, k ∈ mids (.mk pb ps) → k < n := h.li.mids_lt
/-- A variable is set. -/
theorem EA.setV (h : EA en c pb ps v gv s hp n) {vs' : List (Tx × Int)} (hg : ∀ id, id < n → hp'.get id = if id = v then some ⟨gv, false, [mpC eI vs']⟩ else hp.get id) : EA en c pb ps v gv { s with vs := vs' } hp' n := by
 refine ⟨h.li.upS rfl (fun k hk hs => ?_) fun q hq => ?_, ?_, h.lv, h.ds, h.dm⟩
 ·rw [hg k hk, if_neg (fun e : k = v => h.ds (by rw [← e]; exact hs))]
 ·obtain ⟨h1, h2⟩ := h.li.me q hq
  rw [hg _ h1, if_neg, h2]
  intro e
  have : q.1 ∈ mids (.mk pb ps) := by rw [← meC_keys _ _ h.li.fit]; exact List.mem_map.2 ⟨q, hq, rfl⟩
  exact h.dm (e ▸ this)
 ·rw [hg v h.lv, if_pos rfl]
/-- A memory is set. -/
theorem EA.setM (h : EA en c pb ps v gv s hp n) {ms' : List (Tx × Int)} (hg : ∀ id, id < n → hp'.get id = if id = pb.im then some ⟨pb.gm, false, [mpC eI ms']⟩ else hp.get id) : EA en c pb ps v gv { s with ms := ms' } hp' n := by
 have hnm : pb.im ∉ midsL ps := by
  have := h.li.nd
  unfold Pt.nd at this
  rw [mids, List.nodup_append, List.nodup_cons] at this
  exact this.2.1.1
 have hfit := h.li.fit
 rw [fit] at hfit
 refine ⟨h.li.upd (by rw [Trn.bare, Trn.bare]) (fun k hk hm => ?_) fun q hq => ?_, ?_, h.lv, h.ds, h.dm⟩
 ·rw [hg k hk, if_neg]
  intro e; exact hm (by rw [mids]; simp [e])
 ·rw [meC, List.mem_cons] at hq
  rcases hq with hq | hq
  ·subst hq; rw [hg _ h.mo.1, if_pos rfl]
  ·obtain ⟨h1, h2⟩ := h.li.me q (by rw [meC]; exact List.mem_cons_of_mem _ hq)
   rw [hg _ h1, if_neg, h2]
   intro e
   have : q.1 ∈ midsL ps := by rw [← meL_keys s.sb ps hfit.2]; exact List.mem_map.2 ⟨q, hq, rfl⟩
   rw [e] at this; exact hnm this
 ·rw [hg v h.lv, if_neg h.vne.2.2]; exact h.va
/-- An instance that it contains has changed. -/
theorem EA.setS (h : EA en c pb ps v gv s hp n) {i : Nat} {t u : Trn} {q : Pt} (ht : s.sb[i]? = some t) (hq : ps[i]? = some q) (hb : u.bare = t.bare) (hf : ∀ id, id < n → id ∉ mids q → hp'.get id = hp.get id) (hm : ∀ e, e ∈ meC u q → hp'.get e.1 = some e.2) : EA en c pb ps v gv { s with sb := s.sb.set i u } hp' n := by
 have hnd : (pb.im :: midsL ps).Nodup := by
  have := h.li.nd
  unfold Pt.nd at this
  rw [mids, List.nodup_append] at this
  exact this.2.1
 rw [List.nodup_cons] at hnd
 have hfit := h.li.fit
 rw [fit] at hfit
 refine ⟨h.li.upd (by rw [Trn.bare, Trn.bare, set_bare ht hb]) (fun k hk hm => hf k hk fun h2 => hm (by rw [mids]; exact List.mem_cons_of_mem _ (mids_at ps i q hq k h2))) fun e he => ?_, ?_, h.lv, h.ds, h.dm⟩
 ·rw [meC, List.mem_cons] at he
  rcases he with he | he
  ·subst he
   rw [hf _ h.mo.1 fun h2 => hnd.1 (mids_at ps i q hq _ h2)]; exact h.mo.2
  ·obtain ⟨j, t2, p2, h1, h2, h3⟩ := (meL_mem _ _ _).1 he
   rw [List.getElem?_set] at h1
   split at h1
   ·rename_i hij
    subst hij
    split at h1
    ·simp only [Option.some.injEq] at h1
     subst h1
     rw [hq] at h2
     simp only [Option.some.injEq] at h2
     subst h2
     exact hm e h3
    ·cases h1
   ·rename_i hij
    obtain ⟨g1, g2⟩ := h.li.me e (by rw [meC]; exact List.mem_cons_of_mem _ ((meL_mem _ _ _).2 ⟨j, t2, p2, h1, h2, h3⟩))
    have hk : e.1 ∈ mids p2 := by rw [← meC_keys t2 p2 (fitL_at s.sb ps j t2 p2 hfit.2 h1 h2)]; exact List.mem_map.2 ⟨e, h3, rfl⟩
    rw [hf _ g1 (mids_dj ps hnd.2 j i p2 q h2 hq (fun e => hij e.symm) _ hk)]
    exact g2
 ·rw [hf v h.lv fun h2 => h.dm (by rw [mids]; exact List.mem_cons_of_mem _ (mids_at ps i q hq v h2))]; exact h.va
/-- All has changed. -/
theorem EA.setA (h : EA en c pb ps v gv s hp n) {s' : Es} (hb : bareL s'.sb = bareL s.sb) (hf : ∀ id, id < n → id ≠ v → id ∉ mids (.mk pb ps) → hp'.get id = hp.get id) (hv : hp'.get v = some ⟨gv, false, [mpC eI s'.vs]⟩) (hm : ∀ e, e ∈ meC (.mk c s'.ms s'.sb) (.mk pb ps) → hp'.get e.1 = some e.2) : EA en c pb ps v gv s' hp' n := by
 refine ⟨h.li.upS (by rw [Trn.bare, Trn.bare, hb]) (fun k hk hs => hf k hk (fun e => h.ds (e ▸ hs)) fun hm2 => ?_) hm, hv, h.lv, h.ds, h.dm⟩
 exact (List.nodup_append.1 h.li.nd).2.2 _ hs _ hm2 rfl
end
end Go.Ac
end
