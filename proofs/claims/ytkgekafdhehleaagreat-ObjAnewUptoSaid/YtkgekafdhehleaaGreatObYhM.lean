/- Memories that are loaded (plain). -/
import Derived.Test.YtkgekafdhehleaaGreatObXzM
set_option linter.unusedVariables false
set_option linter.unusedSimpArgs false
section
set_option maxRecDepth 4000
namespace Go.Ac
open Go.Proofs
attribute [local simp] Hp.get_set Ag_set Ag_refl Ag_trunc get_trunc_lt
mutual
/-- The types of the memories of an instance and of those that it contains. -/
def typT : Trn → List Int
 | .mk c ms sb => c.mems.map (fun d => d.t) ++ typL sb
def typL : List Trn → List Int
 | [] => []
 | t :: r => typT t ++ typL r
end
theorem typL_take : ∀ (l : List Trn) (i : Nat) (t : Trn), l[i]? = some t → typL (l.take (i + 1)) = typL (l.take i) ++ typT t
 | [], i, t, h => by simp at h
 | x :: r, 0, t, h => by simp at h; subst h; simp [typL]
 | x :: r, i + 1, t, h => by
  rw [List.take_succ_cons, List.take_succ_cons, typL, typL, typL_take r i t (by simpa using h), List.append_assoc]
theorem typL_le : ∀ (l : List Trn) (i : Nat), (typL (l.take i)).length ≤ (typL l).length
 | [], i => by simp
 | x :: r, 0 => by simp [typL]
 | x :: r, i + 1 => by rw [List.take_succ_cons, typL, typL, List.length_append, List.length_append]; have := typL_le r i; omega
theorem kf55 (r : Nat) : Ob.keep 55 r = Ob.k55 r := by kernel_rfl
attribute [local simp] kf55 Ob.k55
set_option maxHeartbeats 8000000 in
theorem types55 {o : Oc} (hO : OW o) : ∀ (N : Nat) (t : Trn) (p : Pt), t.ht < N → t.ok o → (typT t).length ≤ 17592186044416 → ∀ hp n cc, Lies o.en t p hp n → QuietV Tryz.prog Ob.cfg 55 [.ptr p.a.x p.a.gx 0] hp n cc (dL (encI (typT t))) := by
 intro N
 induction N with
 | zero => intro t p h; omega
 | succ N ih =>
 intro t p hht hok hml hp n cc hK
 obtain ⟨c, ms, sb⟩ := t
 obtain ⟨pb, ps⟩ := p
 rw [Trn.ok] at hok
 rw [Trn.ht] at hht
 rw [typT] at hml ⊢
 rw [List.length_append, List.length_map] at hml
 have hc := hok.1
 have hcl := (hO.len c hc).sum
 have hxo := hK.st (pb.x, oO pb.gx o.en c pb.im pb.gm pb.ii pb.gi) (by rw [stC]; simp)
 obtain ⟨lx, hob⟩ := hxo
 simp only [oO] at lx hob
 obtain ⟨li, hio⟩ := hK.st (pb.ii, ⟨pb.gi, false, [mpC eP (insL c ps)]⟩) (by rw [stC]; simp)
 obtain ⟨lm, hmo⟩ := hK.me (pb.im, ⟨pb.gm, false, [mpC eI ms]⟩) (by rw [meC]; simp)
 simp only at li hio lm hmo
 have nx := nf lx
 have ni := nf li
 have nm := nf lm
 show QuietV Tryz.prog Ob.cfg 55 [.ptr pb.x pb.gx 0] hp n cc _
 refine quietC_wp Tryz.func55 rfl (by kernel_rfl) rfl ?_
 refine wkcv (jn @envOf.eq_1 (jn @envOf.eq_2 (jn @dI.eq_1 (jn @dL.eq_1 (jn @fillV.eq_1 (jn @fillV.eq_2 (jn @hob @nx))))))) ?_
 apply WP.loop' (I := fun D st => ∃ (j g c' : Nat) (hp' : Hp) (L : List Int), j + D = c.mems.length ∧ L = (c.mems.take j).map (fun d => d.t) ∧ Ag n hp hp' ∧ hp'.get n = some ⟨g, false, fl (encI L)⟩ ∧
  st = ⟨[(0, .ptr pb.x pb.gx 0), (3, .osl n g 0 j 1 none), (12, dL (encM c.mems)), (13, dI c.mems.length), (14, dI j)], hp', n + 1, c', n, []⟩) (d := c.mems.length)
 ·exact ⟨0, _, _, _, [], by simp, by simp, by simp, by simp [fl, encI]; rfl, st_eq (by simp [dI, dL]) rfl⟩
 rintro D _ ⟨j, g, c', hp', L, hj, hL, hag, hx, rfl⟩
 have hagt := eq_true hag
 have hob' := (hag _ lx).trans hob
 refine wkv (jn @dI.eq_1 @dL.eq_1) ?_
 show WP _ _ _ _ _ _
 refine WP.cond _ rfl (fun hb => ?_) (fun hb => ?_)
 ·simp at hb
  have hb' : j < c.mems.length := by omega
  obtain ⟨d, hd, hdm, hix⟩ := at_lt hb'
  have hd' := encM_at hd
  have hwj := w_succ hb' (by omega)
  have hsn := take_snoc hd
  have hLl : L.length = j := by rw [hL]; simp; omega
  have hLs : (c.mems.take (j + 1)).map (fun d => d.t) = L ++ [d.t] := by rw [hsn, hL]; simp
  have r2 := fl_len (encI_row L)
  have r3 := fl_take (encI_row L)
  have r4 := fl_snoc (encI L) [.int .i64 (d.t)]
  have r5 := encI_snoc L (d.t)
  have f5 : fitsB (j + 1) 8 = true := by simp [fitsB]; omega
  rw [r5] at r4
  rw [encI_len, hLl, Nat.mul_one] at r2 r3
  simp only [List.map_cons, List.map_nil] at r4
  refine wkcv (jn @dI.eq_1 (jn @dL.eq_1 (jn @hix (jn @hd' (jn @Mm.cells.eq_1 (jn @fillV.eq_1 (jn @fillV.eq_2 (jn @hob' (jn @nx (jn @nm (jn @hx (jn @closeParts.eq_1 (jn @closeParts.eq_2 (jn @cl2.eq_def (jn @toD_dep (jn @toD_d (jn @nble_d (jn @f5 (jn @r2 (jn @r3 @r4)))))))))))))))))))) ?_
  refine loop_next (by simp [hwj]; exact Is.rfl) ?_
  exact ⟨D - 1, by omega, j + 1, _, _, _, _, by omega, hLs.symm, by simp [hag], by simp; rfl, st_eq (by simp [dI, dL, hwj]) rfl⟩
 simp at hb
 have hje : j = c.mems.length := by omega
 rw [hje, List.take_length] at hL
 refine wkcv (jn @dI.eq_1 (jn @dL.eq_1 (jn @hob' @nx))) ?_
 have hLl : L.length = j := by rw [hL, hje]; simp
 have hfit := hK.fit
 rw [fit] at hfit
 have hsl := hfit.1
 have hpl := fitL_len sb ps hfit.2
 have hnd : (c.ins.map Ii.nm).Nodup := by
  have := (hO.wf c hc).nd
  unfold Cl.names at this
  exact (List.nodup_append.1 this).2.1
 obtain ⟨z, hz⟩ := zt37
 apply WP.loop' (I := fun D2 st => ∃ (i g2 m c5 : Nat) (hp5 : Hp) (L5 : List Int), i + D2 = c.ins.length ∧ L5 = L ++ typL (sb.take i) ∧ m = L5.length ∧ Ag n hp hp5 ∧ hp5.get n = some ⟨g2, false, fl (encI L5)⟩ ∧
  st = ⟨[(0, .ptr pb.x pb.gx 0), (3, .osl n g2 0 m 1 none), (28, dL (encJ c.ins)), (29, dI c.ins.length), (30, dI i)], hp5, n + 1, c5, n, []⟩) (d := c.ins.length)
 ·exact ⟨0, g, j, _, _, L, by simp, by simp [typL], hLl.symm, hag, hx, st_eq (by simp [dI, dL]) rfl⟩
 rintro D2 _ ⟨i, g2, m, c5, hp5, L5, hi5, hL5, hm5, hag5, hx5, rfl⟩
 have hagt5 := eq_true hag5
 have hob5 := (hag5 _ lx).trans hob
 have hio5 := (hag5 _ li).trans hio
 refine wkv (jn @dI.eq_1 @dL.eq_1) ?_
 show WP _ _ _ _ _ _
 refine WP.cond _ rfl (fun hb => ?_) (fun hb => ?_)
 ·simp at hb
  have hb5 : i < c.ins.length := by omega
  obtain ⟨d, hd, hdm, hix⟩ := at_lt hb5
  have hd' := encJ_at hd
  have hwj := w_succ hb5 (by omega)
  have hts : sb[i]? = some (sb[i]'(by omega)) := List.getElem?_eq_getElem (by omega)
  generalize (sb[i]'(by omega)) = t at hts
  obtain ⟨q, hq, hLq⟩ := hK.sub (i := i) (u := t) hts
  have hq : ps[i]? = some q := hq
  obtain ⟨_, _, _, hto⟩ := okS_at o sb c.ins i t hok.2.2 hts
  have hixd := ix_nodup c.ins i d hnd hd
  have hget := insL_get c.ins ps d.nm q (by rw [hixd]; exact hb5) (by rw [hixd]; exact hq)
  have hlk : ∀ (look : Look) (sz by_ : Nat) (zr : Option (List V)), look pb.ii = some ⟨pb.gi, false, [mpC eP (insL c ps)]⟩ → lookupV look ⟨.str, sz, by_, zr⟩ (some z) (.mp pb.ii pb.gi) (.d (.str d.nm)) false = some ⟨.ptr q.a.x q.a.gx 0, [], [pb.ii], 0, 0, false⟩ := by
   intro look sz by_ zr h
   rw [lookup_mp eP (insL c ps) h]
   unfold insL
   rw [hget]; rfl
  have hht2 : t.ht < N := by have := htL_mem (List.mem_of_getElem? hts); omega
  have hmt := typL_take sb i t hts
  have hle := typL_le sb (i + 1)
  rw [hmt, List.length_append] at hle
  obtain ⟨F, G, hF⟩ := lim_fn (C := fun hp2 n2 => Ag n hp hp2 ∧ n ≤ n2) (P := Tryz.prog) (cfg := Ob.cfg) (f := 55) (vs := [.ptr q.a.x q.a.gx 0]) (v := dL (encI (typT t))) (fun hp2 n2 c2 hC => ih t q hht2 hto (by omega) hp2 n2 c2 (hLq.mono hC.1 hC.2))
  have hr := fun hp2 n2 c2 a b => hF hp2 n2 c2 ⟨a, b⟩
  simp only [dL] at hr
  have r2 := fl_len (encI_row L5)
  have r3 := fl_take (encI_row L5)
  rw [encI_len, ← hm5, Nat.mul_one] at r2 r3
  have f5 : fitsB (m + (typT t).length) 8 = true := by simp [fitsB]; rw [hm5, hL5, List.length_append]; omega
  refine wkcv (jn @dI.eq_1 (jn @dL.eq_1 (jn @hix (jn @hd' (jn @Ii.cells.eq_1 (jn @fillV.eq_1 (jn @fillV.eq_2 (jn @hob5 (jn @nx (jn @ni (jn @hio5 (jn @hlk (jn @hz (jn @hr (jn @hx5 (jn @hagt5 (jn @closeParts.eq_1 (jn @closeParts.eq_2 (jn @cl2.eq_def (jn @toD_dep (jn @toD_d (jn @nble_d (jn @f5 (jn @r2 (jn @r3 (jn @encI_len (jn @rowsOf_I @fl_encI_app))))))))))))))))))))))))))) ?_
  refine loop_next (by simp [hwj]; exact Is.rfl) ?_
  refine ⟨D2 - 1, by omega, i + 1, _, m + (typT t).length, _, _, L5 ++ typT t, by omega, by rw [hL5, hmt, List.append_assoc], by rw [List.length_append, ← hm5], by simp [hag5], by simp; rfl, st_eq (by simp [dI, dL, hwj]) rfl⟩
 simp at hb
 have hie : i = c.ins.length := by omega
 have hst : sb.take i = sb := List.take_of_length_le (by omega)
 rw [hst, hL] at hL5
 refine wkcv (jn @dI.eq_1 @dL.eq_1) ?_
 have hcl := close_fl (look := hp5.get) (id := n) (g := g2) (ro := false) (cap := none) (encI_row L5) hx5
 rw [encI_len, ← hm5] at hcl
 refine ⟨.inr rfl, rfl, _, [n], rfl, ?_, by simp [Nat.ble_eq]⟩
 show closeT hp5.get (.osl n g2 0 m 1 none) = _
 rw [hcl, hL5]
end Go.Ac
end

section
set_option maxRecDepth 4000
namespace Go.Ac
open Go.Proofs
/-- A new instance of a class. -/
def newT (o : Oc) : Nat → Cl → Trn
 | 0, c => .mk c [] []
 | k + 1, c => .mk c (puts [] (mI c.mems)) (c.ins.map fun i => newT o k (findC o.cl i.cl).1)
theorem puts_nd {α : Type} : ∀ (l a : List (Tx × α)), ((a ++ l).map Prod.fst).Nodup → puts a l = a ++ l
 | [], a, _ => by rw [puts, List.append_nil]
 | p :: r, a, h => by
  have hp : mput a p.1 p.2 = a ++ [p] := by
   unfold mput
   cases hf : List.findIdx? (fun q => decide (q.1 = p.1)) a with
   | none => rfl
   | some i =>
    exfalso
    obtain ⟨hi, hx⟩ := ixm_spec hf
    rw [List.map_append, List.nodup_append] at h
    exact h.2.2 _ (List.mem_map.2 ⟨_, List.getElem_mem hi, rfl⟩) p.1 (by simp) hx
  rw [puts, hp, puts_nd r (a ++ [p]) (by rw [List.append_assoc]; exact h), List.append_assoc]
  rfl
theorem findC_at {l : List Cl} {x : Tx} (h : (findC l x).2 = true) : ∃ j : Nat, j < l.length ∧ l[j]? = some (findC l x).1 := by
 unfold findC at h ⊢
 cases hf : l.find? (fun d => decide (d.nm = x)) with
 | none => rw [hf] at h; cases h
 | some d =>
  obtain ⟨j, hj⟩ := List.mem_iff_getElem?.1 (List.mem_of_find?_eq_some hf)
  exact ⟨j, (List.getElem?_eq_some_iff.1 hj).1, hj⟩
/-- The classes of instances come earlier. -/
theorem ins_before {o : Oc} (h : checkRef o = 0) {i : Nat} {c : Cl} (hi : o.cl[i]? = some c) : ∀ d, d ∈ c.ins → ∃ j : Nat, j < i ∧ o.cl[j]? = some (findC o.cl d.cl).1 ∧ (findC o.cl d.cl).2 = true := by
 unfold checkRef at h
 split at h
 ·simp at h
 split at h
 ·simp at h
 have hk := allW_at o o.cl 0 i c h hi
 rw [Nat.zero_add] at hk
 unfold classW at hk
 split at hk
 ·rename_i hn; exact absurd hk hn
 rename_i hh
 clear hk
 have hh := Decidable.not_not.1 hh
 unfold headW at hh
 split at hh
 ·simp at hh
 split at hh
 ·rename_i hn; exact absurd hh hn
 split at hh
 ·rename_i hn; exact absurd hh hn
 split at hh
 ·rename_i hn; exact absurd hh hn
 split at hh
 ·simp at hh
 split at hh
 ·simp at hh
 split at hh
 ·simp at hh
 rename_i e6
 intro d hd
 have h1 := any_false e6 d hd
 have h2 : (findC (o.cl.take i) d.cl).2 = true := by simpa using h1
 have h3 := findC_take h2
 obtain ⟨j, hj, hja⟩ := findC_at h2
 rw [List.length_take] at hj
 refine ⟨j, by omega, ?_, by rw [h3]; exact h2⟩
 rw [h3, ← hja, List.getElem?_take, if_pos (by omega)]
theorem newT_c (o : Oc) (k : Nat) (c : Cl) : (newT o k c).c = c := by cases k <;> rfl
/-- A new instance is in order. -/
theorem newT_ok {o : Oc} (h : checkRef o = 0) : ∀ (k i : Nat) (c : Cl), o.cl[i]? = some c → i < k → (newT o k c).ok o
 | 0, i, c, _, hk => by omega
 | k + 1, i, c, hi, hk => by
  have hc := List.mem_of_getElem? hi
  have hw := cwf_of h c hc
  have hmn : ((mI c.mems).map Prod.fst) = c.mems.map Mm.nm := by unfold mI; rw [List.map_map]; rfl
  have hnd : (c.mems.map Mm.nm).Nodup := by
   have := hw.nd
   unfold Cl.names at this
   exact (List.nodup_append.1 (List.nodup_append.1 this).1).2.1
  have hp : puts [] (mI c.mems) = mI c.mems := by
   have := puts_nd (mI c.mems) [] (by rw [List.nil_append, hmn]; exact hnd)
   simpa using this
  rw [newT, Trn.ok, hp]
  refine ⟨hc, ⟨hmn, fun nm hn => ?_⟩, ?_⟩
  ·obtain ⟨m, hm, rfl, he⟩ := findM_ne hn
   have g := hw.mem m hm
   have hv : gz (mI c.mems) m.nm = m.ini := by
    unfold gz mget mI
    have hf := find_nodup Mm.nm c.mems hnd m hm
    rw [List.find?_map]
    have : ((fun p : Tx × Int => decide (p.1 = m.nm)) ∘ fun d : Mm => (d.nm, d.ini)) = fun e : Mm => decide (e.nm = m.nm) := rfl
    rw [this, hf]; rfl
   rw [hv, g.1]; exact g.2.2
  ·have hb := ins_before h hi
   generalize c.ins = l at hb
   induction l with
   | nil => rw [List.map_nil, okS]
   | cons d r ih =>
    rw [List.map_cons, okS, newT_c]
    obtain ⟨j, hj, hja, hjt⟩ := hb d (List.mem_cons_self ..)
    exact ⟨Prod.ext rfl hjt, newT_ok h k j _ hja (by omega), ih fun e he => hb e (List.mem_cons_of_mem _ he)⟩
end Go.Ac
end

section
set_option maxRecDepth 4000
namespace Go.Ac
open Go.Proofs
/-! ### Memory taken over -/
def shO (n c : Nat) (o : Ob) : Ob := ⟨o.gen + c, o.ro, shiftVs n c o.cells⟩
theorem shiftH_eq (n c : Nat) (l : List (Nat × Ob)) : shiftH n c l = l.map fun p => (p.1 + n, shO n c p.2) := rfl
theorem Hp.get_sets_mem : ∀ (wr : List (Nat × Ob)) (h : Hp) (j : Nat) (o : Ob), (∀ p, p ∈ wr → p.1 = j → p.2 = o) → (∃ p, p ∈ wr ∧ p.1 = j) → (Hp.sets h wr).get j = some o
 | [], h, j, o, _, hx => by obtain ⟨p, hp, _⟩ := hx; cases hp
 | (k, x) :: r, h, j, o, ho, hx => by
  simp only [Hp.sets]
  by_cases hr : ∃ p, p ∈ r ∧ p.1 = j
  ·exact Hp.get_sets_mem r _ j o (fun p hp => ho p (List.mem_cons_of_mem _ hp)) hr
  ·rw [Hp.get_sets_ne r _ j fun p hp he => hr ⟨p, hp, he⟩]
   obtain ⟨p, hp, he⟩ := hx
   rcases List.mem_cons.1 hp with rfl | hp
   ·simp only at he
    subst he
    rw [Hp.get_set_self, ← ho _ (List.mem_cons_self ..) rfl]
   ·exact absurd ⟨p, hp, he⟩ hr
theorem import_new {hp : Hp} {look : Look} {n c m id : Nat} {o : Ob} (h : id < m) (ho : look id = some o) : (hp.sets (shiftH n c (wrOf look (List.range m)))).get (id + n) = some (shO n c o) := by
 refine Hp.get_sets_mem _ _ _ _ (fun p hp hid => ?_) ⟨(id + n, shO n c o), ?_, rfl⟩
 ·rw [shiftH_eq, List.mem_map] at hp
  obtain ⟨x, hx, rfl⟩ := hp
  have h2 := (mem_wrOf2.1 hx).2
  have h3 : x.1 = id := by simp only at hid; omega
  rw [h3, ho] at h2
  rw [Option.some.inj h2]
 ·rw [shiftH_eq, List.mem_map]
  exact ⟨(id, o), mem_wrOf2.2 ⟨List.mem_range.2 h, ho⟩, rfl⟩
theorem import_old {hp : Hp} {look : Look} {n c m id : Nat} (h : id < n) : (hp.sets (shiftH n c (wrOf look (List.range m)))).get id = hp.get id := by
 refine Hp.get_sets_ne _ _ _ (fun p hp hid => ?_)
 rw [shiftH_eq, List.mem_map] at hp
 obtain ⟨x, hx, rfl⟩ := hp
 simp only at hid; omega
theorem addNew_zero (wl : List Nat) : ∀ l : List (Nat × Ob), addNew 0 wl l = wl
 | [] => rfl
 | (k, o) :: r => by
  have : Nat.blt k 0 = false := by cases k <;> rfl
  simp only [addNew, this]; exact addNew_zero wl r
attribute [local simp] addNew_zero
theorem shiftVs_map {α : Type} (n c : Nat) (e : α → V) (h : ∀ a, shiftV n c (e a) = e a) : ∀ l : List (Tx × α), shiftVs n c (l.map fun p => e p.2) = l.map fun p => e p.2
 | [] => rfl
 | p :: r => by
  simp only [List.map_cons, shiftVs, h]
  rw [shiftVs_map n c e h r]
theorem shift_mpC {α : Type} (n c g : Nat) (e : α → V) (h : ∀ a, shiftV n c (e a) = e a) (l : List (Tx × α)) : shO n c ⟨g, false, [mpC e l]⟩ = ⟨g + c, false, [mpC e l]⟩ := by
 unfold shO
 simp only [mpC, shiftVs, shiftV]
 rw [shiftVs_map n c e h l]
/-- The class object, taken over at place n. -/
theorem KG.import {hp : Hp} {n c1 : Nat} {o : Oc} {ea : List Cl} {x : Cl} {lv lm : List (Tx × Int)} {lp : List (Tx × Bool)} :
  KG (5 + n) (5 + c1) (1 + n) (1 + c1) (2 + n) (2 + c1) (3 + n) (3 + c1) (4 + n) (4 + c1) o ea x lv lp lm [] (hp.sets (shiftH n c1 (wrOf (nHp o.en ea x lv lp lm).get (List.range 6)))) (n + 6) := by
 refine ⟨?_, ?_, ?_, ?_, ?_, by omega, by omega, by omega, by omega, by omega⟩
 ·rw [import_new (by omega) (o := kO o.en ea x) rfl]
  simp [shO, kO, shiftVs, shiftV]
 ·rw [import_new (by omega) (o := ⟨1, false, [mpC eI lv]⟩) rfl, shift_mpC _ _ _ _ (fun a => rfl)]
 ·rw [import_new (by omega) (o := ⟨2, false, [mpC eBo lp]⟩) rfl, shift_mpC _ _ _ _ (fun a => rfl)]
 ·rw [import_new (by omega) (o := ⟨3, false, [mpC eI lm]⟩) rfl, shift_mpC _ _ _ _ (fun a => rfl)]
 ·rw [import_new (by omega) (o := ⟨4, false, [mpC eC []]⟩) rfl]
  simp [shO, mpC, shiftVs, shiftV]
theorem kf11 (r : Nat) : Ob.keep 11 r = Ob.k11 r := by kernel_rfl
attribute [local simp] kf11 Ob.k11
set_option maxHeartbeats 8000000 in
theorem check_den (o : Oc) (hsz : o.sz ≤ 2097152) (hok : o.ok) : den Tryz.prog Ob.cfg 11 [aG o.cells] = some (dI (checkRef o)) := by
 unfold Oc.sz at hsz
 have k1 := len_szE o.en
 have k2 := len_szC o.cl
 refine den_wp Tryz.func11 rfl (by kernel_rfl) rfl rfl ?_
 unfold checkRef
 by_cases c1 : 24 < o.en.length
 ·rw [if_pos c1]
  have c1' : ((24 : Int) < o.en.length) = True := eq_true (by omega)
  have c1'' := eq_true c1
  refine wkcitv (jn @aG.eq_1 (jn @Oc.cells.eq_1 (jn @dI.eq_1 (jn @dL.eq_1 (jn @c1' @c1''))))) ?_
  show retQ _ _ _ _ _
  exact ⟨.inr rfl, _, _, rfl, rfl⟩
 rw [if_neg c1]
 have c1' : ((24 : Int) < o.en.length) = False := eq_false (by omega)
 have c1'' := eq_false c1
 refine wkcitv (jn @aG.eq_1 (jn @Oc.cells.eq_1 (jn @dI.eq_1 (jn @dL.eq_1 (jn @c1' @c1''))))) ?_
 apply WP.loop' (I := fun D s => ∃ k : Nat, k + D = o.en.length ∧ (o.en.take k).all (fun u => !enBad u) = true ∧ SE [(1, .ptr 0 0 0), (13, dL (encE o.en)), (14, dI o.en.length), (15, dI k)] [(0, ⟨0, false, o.cells.map .d⟩)] 1 s) (d := o.en.length)
 ·exact ⟨0, by simp, by simp, SE.mk (by simp [dI, dL]) (by simp [Oc.cells])⟩
 rintro D _ ⟨k, hk, hno, cc, rfl⟩
 refine wkitv (jn @dI.eq_1 (jn @dL.eq_1 @Oc.cells.eq_1)) ?_
 show WP _ _ _ _ _ _
 refine WP.cond _ rfl (fun hb => ?_) (fun hb => ?_)
 ·simp at hb
  have hb' : k < o.en.length := by omega
  obtain ⟨d, hd, hdm, hix⟩ := at_lt hb'
  have hd' := encE_at hd
  have hwk := w_succ hb' (by omega)
  have hs := all_snoc (p := fun u => !enBad u) hd
  by_cases e1 : d.tags = []
  ·rw [if_pos (List.any_eq_true.2 ⟨d, hdm, by simp [enBad, e1]⟩)]
   refine wkcitv (jn @dI.eq_1 (jn @dL.eq_1 (jn @Oc.cells.eq_1 (jn @hix (jn @hd' (jn @En.cells.eq_1 (jn @encS_len (jn @len0 (jn @e1 (jn @fillV.eq_1 @fillV.eq_2)))))))))) ?_
   show retQ _ _ _ _ _
   exact ⟨.inr rfl, _, _, rfl, rfl⟩
  by_cases e2 : 16 < d.tags.length
  ·have e2' : ((16 : Int) < d.tags.length) = True := eq_true (by omega)
   have e2'' := eq_true e2
   rw [if_pos (List.any_eq_true.2 ⟨d, hdm, by simp [enBad, e2]⟩)]
   refine wkcitv (jn @dI.eq_1 (jn @dL.eq_1 (jn @Oc.cells.eq_1 (jn @hix (jn @hd' (jn @En.cells.eq_1 (jn @encS_len (jn @len0 (jn @int_beq (jn @e1 (jn @e2' (jn @e2'' (jn @fillV.eq_1 @fillV.eq_2))))))))))))) ?_
   show retQ _ _ _ _ _
   exact ⟨.inr rfl, _, _, rfl, rfl⟩
  ·have e2' : ((16 : Int) < d.tags.length) = False := eq_false (by omega)
   have e2'' := eq_false e2
   have hbd : enBad d = false := by unfold enBad; rw [dFalse e2]; simpa using e1
   rw [hbd] at hs
   refine wkcitv (jn @dI.eq_1 (jn @dL.eq_1 (jn @Oc.cells.eq_1 (jn @hix (jn @hd' (jn @En.cells.eq_1 (jn @encS_len (jn @len0 (jn @int_beq (jn @e1 (jn @e2' (jn @e2'' (jn @fillV.eq_1 @fillV.eq_2))))))))))))) ?_
   refine loop_next (by simp [hwk]; exact Is.rfl) ?_
   exact ⟨D - 1, by omega, k + 1, by omega, by rw [hs, hno]; rfl, SE.mk (by simp [dI, dL, hwk]) (by simp [Oc.cells])⟩
 simp at hb
 have hke : k = o.en.length := by omega
 rw [hke, List.take_length] at hno
 rw [if_neg (by rw [any_no (p := enBad) hno]; simp)]
 have hen : ∀ t, knownE o.en t = decide (0 < sizeE o.en t) := known_size fun u hu => by simpa using List.all_eq_true.1 hno u hu
 clear hno hke hb hk
 refine wkcitv (jn @dI.eq_1 (jn @dL.eq_1 @Oc.cells.eq_1)) ?_
 apply WP.loop' (I := fun D s => ∃ (k c' : Nat) (hp' : Hp), k + D = o.cl.length ∧ allW o k (o.cl.drop k) = allW o 0 o.cl ∧ hp'.get 0 = some ⟨0, false, o.cells.map .d⟩ ∧ s = ⟨[(1, .ptr 0 0 0), (31, dL (encC o.cl)), (32, dI o.cl.length), (33, dI k)], hp', 1, c', 0, []⟩) (d := o.cl.length)
 ·exact ⟨0, _, _, by simp, by simp, by simp [Oc.cells], st_eq (by simp [dI, dL]) rfl⟩
 rintro D _ ⟨k, c', hp', hk, hv, hx0, rfl⟩
 simp only [Oc.cells, List.map_cons, List.map_nil] at hx0
 refine wkitv (jn @dI.eq_1 @dL.eq_1) ?_
 show WP _ _ _ _ _ _
 refine WP.cond _ rfl (fun hb => ?_) (fun hb => ?_)
 ·simp at hb
  have hb' : k < o.cl.length := by omega
  obtain ⟨c, hc, hcm, hix⟩ := at_lt hb'
  have hc' := encC_at hc
  have hwk := w_succ hb' (by omega)
  have hcs := mem_szC hcm
  unfold Cl.sz at hcs
  have l1 := len_szD c.inn
  have l2 := len_szD c.out
  have l3 := len_szD c.loc
  have l4 := len_szM c.mems
  have l5 := len_szJ c.ins
  have hcok := hok c hcm
  have hsl := fun look e b z => slice_rows look e b z (encC_row o.cl) (j := k) (by rw [encC_len]; omega)
  have etk := encC_take o.cl k
  rw [drop_at hc, allW] at hv
  refine wkcitv (jn @dI.eq_1 (jn @dL.eq_1 (jn @Hp.get_set (jn @hx0 (jn @hix (jn @hc' (jn @Cl.cells.eq_1 (jn @fillV.eq_1 @fillV.eq_2)))))))) ?_
  apply WP.gen3
  intro hp1 c1 wl1 hhp hwl
  have hwl0 : wl1 = [] := hwl
  have hy0 : hp1.get 0 = some ⟨0, false, [V.d (.slice (encE o.en)), V.d (.slice (encC o.cl))]⟩ := by rw [hhp]; simp [Hp.get_set, hx0]
  obtain ⟨g1, hy1⟩ : ∃ g1, g1 = c' := ⟨_, rfl⟩
  have hy1 : hp1.get 1 = some ⟨c', false, [V.d (.str c.nm), V.d (.slice (encD c.inn)), V.d (.slice (encD c.out)), V.d (.slice (encD c.loc)), V.d (.slice (encM c.mems)), V.d (.slice (encJ c.ins)), V.d (.slice (encY c.step))]⟩ := by rw [hhp]; simp [Hp.get_set]
  subst hwl0
  clear hhp hwl
  obtain ⟨q, hI1, hqv, hqn, hqh⟩ := new29 o.en (o.cl.take k) c (by omega)
  have hI2 : closeT noLook q.v = none := by rw [hqv]; rfl
  have hI3 : shiftV 2 c1 q.v = .ptr 7 (5 + c1) 0 := by rw [hqv]; rfl
  obtain ⟨W1, hI4⟩ : ∃ W, shiftH 2 c1 (wrOf q.hp.get (List.range q.n)) = W := ⟨_, rfl⟩
  have hKG : KG 7 (5 + c1) 3 (1 + c1) 4 (2 + c1) 5 (3 + c1) 6 (4 + c1) o (o.cl.take k) c (puts (puts (puts [] (dV c.inn)) (dV c.out)) (dV c.loc)) (puts (puts [] (dP c.out)) (dP c.loc)) (puts [] (mV c.mems)) [] (hp1.sets W1) (2 + q.n) := by
   rw [← hI4, hqh, hqn]; exact KG.import (n := 2) (c1 := c1)
  have hfr0 : (hp1.sets W1).get 0 = hp1.get 0 := by rw [← hI4, import_old (by omega)]
  obtain ⟨q2, hT1, hqv2, hqn2, hT2, hki, hfr, _⟩ := (check30 (cc := c1 + q.c) hen (by rw [List.length_take]; unfold MX; omega) ⟨by omega⟩ hcok (by omega) (hp1.sets W1) (2 + q.n) ⟨by omega, by omega, by omega, by omega⟩ hKG (fun hz => kf_of hcok (by unfold MX; omega) hz)).caller (by intro j hj; simp at hj; omega)
  have hfr1 : ((hp1.sets W1).sets (tWr q2 (2 + q.n))).get 0 = some ⟨0, false, [V.d (.slice (encE o.en)), V.d (.slice (encC o.cl))]⟩ := by rw [hfr 0 (by omega) (by simp), hfr0, hy0]
  rw [classP_eq] at hqv2
  simp only [dL, dI, aG, Cl.cells, List.map_cons, List.map_nil] at hI1 hqv2
  by_cases c2 : classW o k c = 0
  case neg =>
   have c2' := eq_false c2
   rw [if_pos c2] at hv
   rw [← hv]
   refine wkcitv (jn @dI.eq_1 (jn @dL.eq_1 (jn @hy0 (jn @hy1 (jn @hsl (jn @etk (jn @hqv2 (jn @int_bne @c2')))))))) ?_
   show retQ _ _ _ _ _
   exact ⟨.inr rfl, _, _, rfl, rfl⟩
  rw [if_neg (by simp [c2])] at hv
  rw [c2] at hqv2
  refine wkcitv (jn @dI.eq_1 (jn @dL.eq_1 (jn @hy0 (jn @hy1 (jn @hsl (jn @etk (jn @hqv2 @int_bne))))))) ?_
  refine loop_next (by simp [hwk]; exact Is.rfl) ?_
  exact ⟨D - 1, by omega, k + 1, _, _, by omega, hv, by rw [Hp.get_trunc _ _ _ (by omega)]; exact hfr1, st_eq (by simp [dI, dL, hwk]) rfl⟩
 ·simp at hb
  have hke : k = o.cl.length := by omega
  rw [hke, List.drop_length, allW] at hv
  rw [← hv]
  refine wkcitv (jn @dI.eq_1 @dL.eq_1) ?_
  show retQ _ _ _ _ _
  exact ⟨.inr rfl, _, _, rfl, rfl⟩
end Go.Ac
end

section
set_option maxRecDepth 4000
namespace Go.Ac
open Go.Proofs
def Pb.sh (n c : Nat) (a : Pb) : Pb := ⟨a.x + n, a.gx + c, a.im + n, a.gm + c, a.ii + n, a.gi + c⟩
mutual
/-- A place, moved. -/
def Pt.sh (n c : Nat) : Pt → Pt
 | .mk a ps => .mk (a.sh n c) (shL n c ps)
def shL (n c : Nat) : List Pt → List Pt
 | [] => []
 | p :: r => p.sh n c :: shL n c r
end
theorem shL_map (n c : Nat) : ∀ l, shL n c l = l.map (Pt.sh n c)
 | [] => by rw [shL]; rfl
 | p :: r => by rw [shL, shL_map n c r]; rfl
theorem Pt.sh_a (n c : Nat) (p : Pt) : (p.sh n c).a = p.a.sh n c := by cases p; rw [Pt.sh]; rfl
mutual
theorem mids_sh (n c : Nat) : ∀ p : Pt, mids (p.sh n c) = (mids p).map (· + n)
 | .mk a ps => by rw [Pt.sh, mids, mids, midsL_sh n c ps]; rfl
theorem midsL_sh (n c : Nat) : ∀ l : List Pt, midsL (shL n c l) = (midsL l).map (· + n)
 | [] => by rw [shL, midsL]; rfl
 | p :: r => by rw [shL, midsL, midsL, mids_sh n c p, midsL_sh n c r, List.map_append]
end
mutual
theorem sids_sh (n c : Nat) : ∀ p : Pt, sids (p.sh n c) = (sids p).map (· + n)
 | .mk a ps => by rw [Pt.sh, sids, sids, sidsL_sh n c ps]; rfl
theorem sidsL_sh (n c : Nat) : ∀ l : List Pt, sidsL (shL n c l) = (sidsL l).map (· + n)
 | [] => by rw [shL, sidsL]; rfl
 | p :: r => by rw [shL, sidsL, sidsL, sids_sh n c p, sidsL_sh n c r, List.map_append]
end
mutual
theorem fit_sh (n c : Nat) : ∀ (t : Trn) (p : Pt), fit t (p.sh n c) ↔ fit t p
 | .mk k ms sb, .mk a ps => by rw [Pt.sh, fit, fit, fitL_sh n c sb ps]
theorem fitL_sh (n c : Nat) : ∀ (l : List Trn) (ps : List Pt), fitL l (shL n c ps) ↔ fitL l ps
 | [], [] => by rw [shL]
 | [], p :: ps => by rw [shL, fitL, fitL]; simp
 | t :: r, [] => by rw [shL, fitL]
 | t :: r, p :: ps => by rw [shL, fitL, fitL, fit_sh n c t p, fitL_sh n c r ps]
end
theorem shO_mI (n c g : Nat) (ms : List (Tx × Int)) : shO n c ⟨g, false, [mpC eI ms]⟩ = ⟨g + c, false, [mpC eI ms]⟩ := shift_mpC _ _ _ _ (fun _ => rfl) _
theorem shO_oO (n c g : Nat) (en : List En) (k : Cl) (im gm ii gi : Nat) : shO n c (oO g en k im gm ii gi) = oO (g + c) en k (im + n) (gm + c) (ii + n) (gi + c) := by
 simp [shO, oO, shiftVs, shiftV]
theorem shVs_eP (n c : Nat) : ∀ l : List (Tx × (Nat × Nat)), shiftVs n c (l.map fun p => eP p.2) = (l.map fun q => (q.1, (q.2.1 + n, q.2.2 + c))).map fun p => eP p.2
 | [] => rfl
 | p :: r => by
  simp only [List.map_cons, shiftVs]
  rw [shVs_eP n c r]; rfl
theorem insL_sh (n c : Nat) (k : Cl) (ps : List Pt) : insL k (shL n c ps) = (insL k ps).map fun q => (q.1, (q.2.1 + n, q.2.2 + c)) := by
 unfold insL
 rw [shL_map, List.map_map]
 generalize k.ins.map Ii.nm = l
 induction l generalizing ps with
 | nil => simp
 | cons x r ih =>
  cases ps with
  | nil => simp
  | cons p ps => simp only [List.map_cons, List.zip_cons_cons, ih]; simp [Pt.sh_a, Pb.sh]
theorem shO_ins (n c g : Nat) (k : Cl) (ps : List Pt) : shO n c ⟨g, false, [mpC eP (insL k ps)]⟩ = ⟨g + c, false, [mpC eP (insL k (shL n c ps))]⟩ := by
 rw [insL_sh]
 unfold shO mpC
 simp only [shiftVs, shiftV]
 rw [shVs_eP]
 simp
mutual
theorem meC_sh (n c : Nat) : ∀ (t : Trn) (p : Pt), meC t (p.sh n c) = (meC t p).map fun q => (q.1 + n, shO n c q.2)
 | .mk k ms sb, .mk a ps => by rw [Pt.sh, meC, meC, meL_sh n c sb ps, List.map_cons, shO_mI]; rfl
theorem meL_sh (n c : Nat) : ∀ (l : List Trn) (ps : List Pt), meL l (shL n c ps) = (meL l ps).map fun q => (q.1 + n, shO n c q.2)
 | [], ps => by rw [meL, meL]; rfl
 | t :: r, [] => by rw [shL, meL]; rfl
 | t :: r, p :: ps => by rw [shL, meL, meL, meC_sh n c t p, meL_sh n c r ps, List.map_append]
end
mutual
theorem stC_sh (en : List En) (n c : Nat) : ∀ (t : Trn) (p : Pt), stC en t (p.sh n c) = (stC en t p).map fun q => (q.1 + n, shO n c q.2)
 | .mk k ms sb, .mk a ps => by rw [Pt.sh, stC, stC, stL_sh en n c sb ps, List.map_cons, List.map_cons, shO_oO, shO_ins]; rfl
theorem stL_sh (en : List En) (n c : Nat) : ∀ (l : List Trn) (ps : List Pt), stL en l (shL n c ps) = (stL en l ps).map fun q => (q.1 + n, shO n c q.2)
 | [], ps => by rw [stL, stL]; rfl
 | t :: r, [] => by rw [shL, stL]; rfl
 | t :: r, p :: ps => by rw [shL, stL, stL, stC_sh en n c t p, stL_sh en n c r ps, List.map_append]
end
theorem nodup_add (n : Nat) (l : List Nat) (h : l.Nodup) : (l.map (· + n)).Nodup := by
 induction l with
 | nil => simp
 | cons x r ih =>
  rw [List.nodup_cons] at h
  rw [List.map_cons, List.nodup_cons]
  refine ⟨fun hm => ?_, ih h.2⟩
  obtain ⟨y, hy, he⟩ := List.mem_map.1 hm
  have : y = x := by omega
  exact h.1 (this ▸ hy)
/-- An instance that a call has made, taken over. -/
theorem Lies.import {en : List En} {t : Trn} {p : Pt} {hq hp : Hp} {m n c : Nat} (h : Lies en t p hq m) : Lies en t (p.sh n c) (hp.sets (shiftH n c (wrOf hq.get (List.range m)))) (m + n) := by
 refine ⟨(fit_sh n c t p).2 h.fit, ?_, fun q hq' => ?_, fun q hq' => ?_⟩
 ·unfold Pt.nd
  rw [mids_sh, sids_sh, ← List.map_append]
  exact nodup_add n _ h.nd
 ·rw [stC_sh] at hq'
  obtain ⟨x, hx, rfl⟩ := List.mem_map.1 hq'
  obtain ⟨h1, h2⟩ := h.st x hx
  exact ⟨by simp only; omega, import_new h1 h2⟩
 ·rw [meC_sh] at hq'
  obtain ⟨x, hx, rfl⟩ := List.mem_map.1 hq'
  obtain ⟨h1, h2⟩ := h.me x hx
  exact ⟨by simp only; omega, import_new h1 h2⟩
theorem sh_ge (n c : Nat) (p : Pt) : ∀ k, k ∈ sids (p.sh n c) ++ mids (p.sh n c) → n ≤ k := by
 rw [mids_sh, sids_sh, ← List.map_append]
 intro k hk
 obtain ⟨x, _, rfl⟩ := List.mem_map.1 hk
 omega
/-- Instances that lie apart, all from a place on. -/
structure LL (en : List En) (l : List Trn) (ps : List Pt) (lo : Nat) (hp : Hp) (n : Nat) : Prop where
 fit : fitL l ps
 nd : (sidsL ps ++ midsL ps).Nodup
 lo : ∀ k, k ∈ sidsL ps ++ midsL ps → lo ≤ k ∧ k < n
 st : ∀ q, q ∈ stL en l ps → hp.get q.1 = some q.2
 me : ∀ q, q ∈ meL l ps → hp.get q.1 = some q.2
theorem LL.nil {en : List En} {lo : Nat} {hp : Hp} {n : Nat} : LL en [] [] lo hp n :=
 ⟨by rw [fitL], by simp [sidsL, midsL], fun k hk => by simp [sidsL, midsL] at hk, fun q hq => by simp [stL] at hq, fun q hq => by simp [meL] at hq⟩
theorem LL.same {en : List En} {l : List Trn} {ps : List Pt} {lo : Nat} {hp hp' : Hp} {n n' : Nat} (h : LL en l ps lo hp n) (hn : n ≤ n') (hg : ∀ k, lo ≤ k → k < n → hp'.get k = hp.get k) : LL en l ps lo hp' n' := by
 refine ⟨h.fit, h.nd, fun k hk => ⟨(h.lo k hk).1, Nat.lt_of_lt_of_le (h.lo k hk).2 hn⟩, fun q hq => ?_, fun q hq => ?_⟩
 ·have hk : q.1 ∈ sidsL ps := by rw [← stL_keys en l ps h.fit]; exact List.mem_map.2 ⟨q, hq, rfl⟩
  have := h.lo _ (List.mem_append_left _ hk)
  rw [hg _ this.1 this.2]; exact h.st q hq
 ·have hk : q.1 ∈ midsL ps := by rw [← meL_keys l ps h.fit]; exact List.mem_map.2 ⟨q, hq, rfl⟩
  have := h.lo _ (List.mem_append_right _ hk)
  rw [hg _ this.1 this.2]; exact h.me q hq
theorem fitL_snoc : ∀ (l : List Trn) (ps : List Pt) (t : Trn) (p : Pt), fitL l ps → fit t p → fitL (l ++ [t]) (ps ++ [p])
 | [], ps, t, p, h, h2 => by rw [fitL] at h; subst h; simp only [List.nil_append]; rw [fitL, fitL]; exact ⟨h2, rfl⟩
 | x :: r, [], t, p, h, h2 => by rw [fitL] at h; exact h.elim
 | x :: r, q :: ps, t, p, h, h2 => by rw [fitL] at h; rw [List.cons_append, List.cons_append, fitL]; exact ⟨h.1, fitL_snoc r ps t p h.2 h2⟩
theorem sidsL_app : ∀ a b : List Pt, sidsL (a ++ b) = sidsL a ++ sidsL b
 | [], b => by rw [sidsL]; rfl
 | p :: r, b => by rw [List.cons_append, sidsL, sidsL, sidsL_app r b, List.append_assoc]
theorem midsL_app : ∀ a b : List Pt, midsL (a ++ b) = midsL a ++ midsL b
 | [], b => by rw [midsL]; rfl
 | p :: r, b => by rw [List.cons_append, midsL, midsL, midsL_app r b, List.append_assoc]
theorem stL_snoc (en : List En) : ∀ (l : List Trn) (ps : List Pt) (t : Trn) (p : Pt), fitL l ps → stL en (l ++ [t]) (ps ++ [p]) = stL en l ps ++ stC en t p
 | [], ps, t, p, h => by rw [fitL] at h; subst h; simp [stL]
 | x :: r, [], t, p, h => by rw [fitL] at h; exact h.elim
 | x :: r, q :: ps, t, p, h => by rw [fitL] at h; rw [List.cons_append, List.cons_append, stL, stL, stL_snoc en r ps t p h.2, List.append_assoc]
theorem meL_snoc : ∀ (l : List Trn) (ps : List Pt) (t : Trn) (p : Pt), fitL l ps → meL (l ++ [t]) (ps ++ [p]) = meL l ps ++ meC t p
 | [], ps, t, p, h => by rw [fitL] at h; subst h; simp [meL]
 | x :: r, [], t, p, h => by rw [fitL] at h; exact h.elim
 | x :: r, q :: ps, t, p, h => by rw [fitL] at h; rw [List.cons_append, List.cons_append, meL, meL, meL_snoc r ps t p h.2, List.append_assoc]
theorem LL.snoc {en : List En} {l : List Trn} {ps : List Pt} {lo : Nat} {hp hp' : Hp} {n n' : Nat} {t : Trn} {p : Pt} (h : LL en l ps lo hp n) (hlo : lo ≤ n) (hL : Lies en t p hp' n') (hge : ∀ k, k ∈ sids p ++ mids p → n ≤ k) (hn : n ≤ n') (hg : ∀ k, lo ≤ k → k < n → hp'.get k = hp.get k) : LL en (l ++ [t]) (ps ++ [p]) lo hp' n' := by
 have h2 := h.same hn hg
 refine ⟨fitL_snoc _ _ _ _ h.fit hL.fit, ?_, fun k hk => ?_, fun q hq => ?_, fun q hq => ?_⟩
 ·rw [sidsL_app, midsL_app]
  have e1 : sidsL [p] = sids p := by simp [sidsL]
  have e2 : midsL [p] = mids p := by simp [midsL]
  rw [e1, e2]
  have a := h.nd
  have b := hL.nd
  unfold Pt.nd at b
  rw [List.nodup_append] at a b
  have lo1 : ∀ k, k ∈ sidsL ps → k < n := fun k hk => (h.lo k (List.mem_append_left _ hk)).2
  have lo2 : ∀ k, k ∈ midsL ps → k < n := fun k hk => (h.lo k (List.mem_append_right _ hk)).2
  have g1 : ∀ k, k ∈ sids p → n ≤ k := fun k hk => hge k (List.mem_append_left _ hk)
  have g2 : ∀ k, k ∈ mids p → n ≤ k := fun k hk => hge k (List.mem_append_right _ hk)
  rw [List.nodup_append, List.nodup_append, List.nodup_append]
  refine ⟨⟨a.1, b.1, fun x hx y hy => ?_⟩, ⟨a.2.1, b.2.1, fun x hx y hy => ?_⟩, fun x hx y hy => ?_⟩
  ·have := lo1 x hx; have := g1 y hy; omega
  ·have := lo2 x hx; have := g2 y hy; omega
  ·rcases List.mem_append.1 hx with hx | hx <;> rcases List.mem_append.1 hy with hy | hy
   ·exact a.2.2 x hx y hy
   ·have := lo1 x hx; have := g2 y hy; omega
   ·have := g1 x hx; have := lo2 y hy; omega
   ·exact b.2.2 x hx y hy
 ·rw [sidsL_app, midsL_app] at hk
  have e1 : sidsL [p] = sids p := by simp [sidsL]
  have e2 : midsL [p] = mids p := by simp [midsL]
  rw [e1, e2] at hk
  have f1 : ∀ k, k ∈ sids p → k < n' := fun k hk => by
   rw [← stC_keys en t p hL.fit] at hk
   obtain ⟨q, hq, rfl⟩ := List.mem_map.1 hk
   exact (hL.st q hq).1
  have f2 := hL.mids_lt
  simp only [List.mem_append] at hk
  rcases hk with (hk | hk) | (hk | hk)
  ·exact ⟨(h2.lo k (List.mem_append_left _ hk)).1, (h2.lo k (List.mem_append_left _ hk)).2⟩
  ·have := hge k (List.mem_append_left _ hk); exact ⟨by omega, f1 k hk⟩
  ·exact ⟨(h2.lo k (List.mem_append_right _ hk)).1, (h2.lo k (List.mem_append_right _ hk)).2⟩
  ·have := hge k (List.mem_append_right _ hk); exact ⟨by omega, f2 k hk⟩
 ·rw [stL_snoc en _ _ _ _ h.fit] at hq
  rcases List.mem_append.1 hq with hq | hq
  ·exact h2.st q hq
  ·exact (hL.st q hq).2
 ·rw [meL_snoc _ _ _ _ h.fit] at hq
  rcases List.mem_append.1 hq with hq | hq
  ·exact h2.me q hq
  ·exact (hL.me q hq).2
/-- An instance over those that it contains. -/
theorem LL.lies {en : List En} {c : Cl} {ms : List (Tx × Int)} {l : List Trn} {a : Pb} {ps : List Pt} {lo : Nat} {hp : Hp} {n : Nat} (h : LL en l ps lo hp n) (hl : l.length = c.ins.length) (h1 : a.x < lo) (h2 : a.im < lo) (h3 : a.ii < lo) (d1 : a.x ≠ a.im) (d2 : a.x ≠ a.ii) (d3 : a.im ≠ a.ii) (hlo : lo ≤ n)
  (hx : hp.get a.x = some (oO a.gx en c a.im a.gm a.ii a.gi)) (hi : hp.get a.ii = some ⟨a.gi, false, [mpC eP (insL c ps)]⟩) (hm : hp.get a.im = some ⟨a.gm, false, [mpC eI ms]⟩) : Lies en (.mk c ms l) (.mk a ps) hp n := by
 have k1 : ∀ k, k ∈ sidsL ps → lo ≤ k := fun k hk => (h.lo k (List.mem_append_left _ hk)).1
 have k2 : ∀ k, k ∈ midsL ps → lo ≤ k := fun k hk => (h.lo k (List.mem_append_right _ hk)).1
 refine ⟨by rw [Go.Ac.fit]; exact ⟨hl, h.fit⟩, ?_, fun q hq => ?_, fun q hq => ?_⟩
 ·unfold Pt.nd
  rw [sids, mids]
  have a0 := h.nd
  rw [List.nodup_append] at a0
  rw [List.nodup_append, List.nodup_cons, List.nodup_cons, List.nodup_cons]
  refine ⟨⟨fun hh => ?_, fun hh => ?_, a0.1⟩, ⟨fun hh => ?_, a0.2.1⟩, fun x hx y hy => ?_⟩
  ·rcases List.mem_cons.1 hh with hh | hh
   ·exact d2 hh
   ·have := k1 _ hh; omega
  ·have := k1 _ hh; omega
  ·have := k2 _ hh; omega
  ·rcases List.mem_cons.1 hx with rfl | hx
   ·rcases List.mem_cons.1 hy with rfl | hy
    ·exact d1
    ·have := k2 _ hy; omega
   rcases List.mem_cons.1 hx with rfl | hx
   ·rcases List.mem_cons.1 hy with rfl | hy
    ·exact fun e => d3 e.symm
    ·have := k2 _ hy; omega
   rcases List.mem_cons.1 hy with rfl | hy
   ·have := k1 _ hx; omega
   ·exact a0.2.2 x hx y hy
 ·rw [stC, List.mem_cons, List.mem_cons] at hq
  rcases hq with hq | hq | hq
  ·subst hq; exact ⟨by simp only; omega, hx⟩
  ·subst hq; exact ⟨by simp only; omega, hi⟩
  ·have hk : q.1 ∈ sidsL ps := by rw [← stL_keys en l ps h.fit]; exact List.mem_map.2 ⟨q, hq, rfl⟩
   exact ⟨(h.lo _ (List.mem_append_left _ hk)).2, h.st q hq⟩
 ·rw [meC, List.mem_cons] at hq
  rcases hq with hq | hq
  ·subst hq; exact ⟨by simp only; omega, hm⟩
  ·have hk : q.1 ∈ midsL ps := by rw [← meL_keys l ps h.fit]; exact List.mem_map.2 ⟨q, hq, rfl⟩
   exact ⟨(h.lo _ (List.mem_append_right _ hk)).2, h.me q hq⟩
theorem Lies.same2 {en : List En} {t : Trn} {p : Pt} {hp hp' : Hp} {n n' : Nat} (h : Lies en t p hp n) (hg : ∀ k, k ∈ sids p ++ mids p → hp'.get k = hp.get k) (hn : n ≤ n') : Lies en t p hp' n' := by
 refine ⟨h.fit, h.nd, fun q hq => ⟨Nat.lt_of_lt_of_le (h.st q hq).1 hn, ?_⟩, fun q hq => ⟨Nat.lt_of_lt_of_le (h.me q hq).1 hn, ?_⟩⟩
 ·rw [hg _ (List.mem_append_left _ (by rw [← stC_keys en t p h.fit]; exact List.mem_map.2 ⟨q, hq, rfl⟩))]; exact (h.st q hq).2
 ·rw [hg _ (List.mem_append_right _ (by rw [← meC_keys t p h.fit]; exact List.mem_map.2 ⟨q, hq, rfl⟩))]; exact (h.me q hq).2
/-- One more instance by its name. -/
theorem insL_snoc {c : Cl} {ps : List Pt} {p : Pt} {d : Ii} (hnd : (c.ins.map Ii.nm).Nodup) (hd : c.ins[ps.length]? = some d) : mput (insL c ps) d.nm (p.a.x, p.a.gx) = insL c (ps ++ [p]) := by
 have hz : insL c (ps ++ [p]) = insL c ps ++ [(d.nm, (p.a.x, p.a.gx))] := by
  unfold insL
  rw [List.map_append]
  have hlt := (List.getElem?_eq_some_iff.1 hd).1
  have e : c.ins.map Ii.nm = (c.ins.map Ii.nm).take ps.length ++ (c.ins.map Ii.nm).drop ps.length := (List.take_append_drop _ _).symm
  have e2 : (c.ins.map Ii.nm).drop ps.length = d.nm :: (c.ins.map Ii.nm).drop (ps.length + 1) := by
   rw [List.drop_eq_getElem_cons (by simpa using hlt)]
   have := (List.getElem?_eq_some_iff.1 hd).2
   rw [List.getElem_map, this]
  have l1 : ((c.ins.map Ii.nm).take ps.length).length = (ps.map fun p => (p.a.x, p.a.gx)).length := by simp; omega
  have e3 : (c.ins.map Ii.nm).zip (ps.map fun p => (p.a.x, p.a.gx)) = ((c.ins.map Ii.nm).take ps.length).zip (ps.map fun p => (p.a.x, p.a.gx)) := by
   conv => lhs; rw [e, ← List.append_nil (ps.map fun p => (p.a.x, p.a.gx)), List.zip_append l1, List.zip_nil_right, List.append_nil]
  rw [e3]
  conv => lhs; rw [e, List.zip_append l1, e2]
  simp
 rw [hz]
 unfold mput
 have hk : (insL c ps).map Prod.fst = (c.ins.map Ii.nm).take ps.length := by
  unfold insL
  have hlt := (List.getElem?_eq_some_iff.1 hd).1
  apply List.ext_getElem
  ·simp; omega
  ·intro i h1 h2; simp
 cases hf : List.findIdx? (fun q => decide (q.1 = d.nm)) (insL c ps) with
 | none => rfl
 | some i =>
  exfalso
  obtain ⟨hi, hx⟩ := ixm_spec hf
  have hm : d.nm ∈ (c.ins.map Ii.nm).take ps.length := by
   rw [← hk, List.mem_map]; exact ⟨_, List.getElem_mem hi, hx⟩
  obtain ⟨j, hj, hje⟩ := List.getElem_of_mem hm
  simp only [List.length_take, List.length_map] at hj
  have hlt := (List.getElem?_eq_some_iff.1 hd).1
  have hn := List.pairwise_iff_getElem.1 hnd j ps.length (by simp; omega) (by simpa using hlt) (by omega)
  have h5 := (List.getElem?_eq_some_iff.1 hd).2
  simp only [List.getElem_take, List.getElem_map] at hje hn
  rw [h5] at hn
  exact hn hje
/-! ### Classes of instances -/
theorem findC_nm {l : List Cl} {x : Tx} (h : (findC l x).2 = true) : (findC l x).1.nm = x := by
 unfold findC at h ⊢
 cases hf : l.find? (fun d => decide (d.nm = x)) with
 | none => rw [hf] at h; cases h
 | some d => simpa using List.find?_some hf
theorem findC_ix {l : List Cl} {x : Tx} (h : (findC l x).2 = true) : ∃ j : Nat, ixP (fun d : Cl => decide (d.nm = x)) l = j ∧ l[j]? = some (findC l x).1 ∧ ∀ (k : Nat) (d : Cl), l[k]? = some d → d.nm = x → j ≤ k := by
 unfold findC at h ⊢
 cases hf : l.find? (fun d => decide (d.nm = x)) with
 | none => rw [hf] at h; cases h
 | some d =>
  have hf2 := hf
  rw [List.find?_eq_getElem?_findIdx] at hf2
  have hlt := (List.getElem?_eq_some_iff.1 hf2).1
  refine ⟨l.findIdx (fun d => decide (d.nm = x)), ?_, hf2, fun k e hk he => ?_⟩
  ·unfold ixP
   rw [List.findIdx?_eq_some_iff_findIdx_eq.2 ⟨hlt, rfl⟩]
  ·rcases Nat.lt_or_ge k (List.findIdx (fun d : Cl => decide (d.nm = x)) l) with hk2 | hk2
   ·exfalso
    have := List.not_of_lt_findIdx hk2
    obtain ⟨h1, h2⟩ := List.getElem?_eq_some_iff.1 hk
    rw [h2] at this
    simp [he] at this
   ·exact hk2
/-- The classes of instances, by their places. -/
theorem ins_ix {o : Oc} (h : checkRef o = 0) {i : Nat} {c : Cl} (hi : o.cl[i]? = some c) : ∀ d, d ∈ c.ins → ∃ j : Nat, j < i ∧ ixP (fun e : Cl => decide (e.nm = d.cl)) o.cl = j ∧ o.cl[j]? = some (findC o.cl d.cl).1 := by
 intro d hd
 obtain ⟨j, hj, hja, hjt⟩ := ins_before h hi d hd
 obtain ⟨j2, h1, h2, h3⟩ := findC_ix hjt
 have := h3 j _ hja (findC_nm hjt)
 exact ⟨j2, by omega, h1, h2⟩
theorem newT_fuel {o : Oc} (h : checkRef o = 0) : ∀ (K k i : Nat) (c : Cl), k ≤ K → o.cl[i]? = some c → i < k → newT o k c = newT o (i + 1) c
 | 0, k, i, c, hk, _, hi => by omega
 | K + 1, 0, i, c, _, _, hi => by omega
 | K + 1, k + 1, i, c, hk, hc, hi => by
  by_cases hik : i = k
  ·rw [hik]
  rw [newT, newT]
  congr 1
  apply List.map_congr_left
  intro d hd
  obtain ⟨j, hj, hja, _⟩ := ins_before h hc d hd
  rw [newT_fuel h K k j _ (by omega) hja (by omega), newT_fuel h K i j _ (by omega) hja (by omega)]
end Go.Ac
end

section
set_option maxRecDepth 4000
namespace Go.Ac
open Go.Proofs
mutual
/-- An instance with other memories. -/
def loadT : Trn → List Int → Trn
 | .mk c ms sb, m => .mk c (puts ms ((c.mems.map Mm.nm).zip m)) (loadL sb (m.drop c.mems.length))
def loadL : List Trn → List Int → List Trn
 | [], _ => []
 | t :: r, m => loadT t m :: loadL r (m.drop (typT t).length)
end
mutual
theorem loadT_bare : ∀ (t : Trn) (m : List Int), (loadT t m).bare = t.bare
 | .mk c ms sb, m => by rw [loadT, Trn.bare, Trn.bare, loadL_bare sb]
theorem loadL_bare : ∀ (l : List Trn) (m : List Int), bareL (loadL l m) = bareL l
 | [], m => by rw [loadL]
 | t :: r, m => by rw [loadL, bareL, bareL, loadT_bare t, loadL_bare r]
end
theorem mput_mid {α : Type} (a ms : List (Tx × α)) (k : Tx) (v0 v : α) (h : k ∉ a.map Prod.fst) : mput (a ++ (k, v0) :: ms) k v = a ++ (k, v) :: ms := by
 have hf : List.findIdx? (fun p => decide (p.1 = k)) (a ++ (k, v0) :: ms) = some a.length := by
  rw [List.findIdx?_eq_some_iff_getElem]
  refine ⟨by simp, by simp, fun j hj => ?_⟩
  rw [List.getElem_append_left hj]
  have : a[j].1 ≠ k := fun e => h (List.mem_map.2 ⟨_, List.getElem_mem hj, e⟩)
  simp [this]
 unfold mput
 rw [hf]
 simp
theorem puts_over2 {α : Type} : ∀ (ms vs a : List (Tx × α)), ms.map Prod.fst = vs.map Prod.fst → ((a ++ ms).map Prod.fst).Nodup → puts (a ++ ms) vs = a ++ vs
 | [], [], a, _, _ => by rw [puts]
 | [], v :: vs, a, h, _ => by simp at h
 | m :: ms, [], a, h, _ => by simp at h
 | m :: ms, v :: vs, a, h, hn => by
  simp only [List.map_cons, List.cons.injEq] at h
  obtain ⟨k, v0⟩ := m
  obtain ⟨k', v1⟩ := v
  obtain ⟨rfl, h2⟩ := h
  rw [List.map_append, List.map_cons, List.nodup_append] at hn
  have hk : k ∉ a.map Prod.fst := fun hm => hn.2.2 k hm k (List.mem_cons_self ..) rfl
  rw [puts, mput_mid a ms k v0 v1 hk]
  have := puts_over2 ms vs (a ++ [(k, v1)]) h2 (by
   rw [List.append_assoc, List.map_append, List.map_append, List.map_cons, List.map_nil, List.singleton_append, List.nodup_append]
   exact hn)
  rw [List.append_assoc, List.append_assoc] at this
  exact this
theorem puts_over {α : Type} {ms vs : List (Tx × α)} (h : ms.map Prod.fst = vs.map Prod.fst) (hn : (ms.map Prod.fst).Nodup) : puts ms vs = vs := by
 have := puts_over2 ms vs [] h (by simpa using hn)
 simpa using this
theorem CWf.mn {o : Oc} {c : Cl} (h : CWf o c) : (c.mems.map Mm.nm).Nodup := by
 have := h.nd
 unfold Cl.names at this
 exact (List.nodup_append.1 (List.nodup_append.1 this).1).2.1
theorem gz_zip {l : List (Tx × Int)} (hn : (l.map Prod.fst).Nodup) : (l.map Prod.fst).map (gz l) = l.map Prod.snd := by
 rw [List.map_map]
 apply List.map_congr_left
 intro p hp
 have hf := find_nodup Prod.fst l hn p hp
 simp only [Function.comp, gz, mget, hf]
 rfl
section
variable {o : Oc} (hw : ∀ c, c ∈ o.cl → CWf o c)
include hw
mutual
theorem mem_len : ∀ (t : Trn), t.ok o → (memT t).length = (typT t).length
 | .mk c ms sb, h => by have _ := hw; rw [Trn.ok] at h; rw [memT, typT, List.length_append, List.length_append, List.length_map, List.length_map, memL_len sb c.ins h.2.2]
theorem memL_len : ∀ (l : List Trn) (is : List Ii), okS o l is → (memL l).length = (typL l).length
 | [], is, h => by have _ := hw; rw [memL, typL]
 | t :: r, [], h => by rw [okS] at h; exact h.elim
 | t :: r, i :: is, h => by rw [okS] at h; rw [memL, typL, List.length_append, List.length_append, mem_len t h.2.1, memL_len r is h.2.2]
end
mutual
theorem typ_bare : ∀ (t u : Trn), t.bare = u.bare → typT t = typT u
 | .mk c ms sb, .mk d ns sc, h => by
  have _ := hw
  rw [Trn.bare, Trn.bare] at h
  injection h with h1 h2 h3
  subst h1
  rw [typT, typT, typL_bare sb sc h3]
theorem typL_bare : ∀ (l k : List Trn), bareL l = bareL k → typL l = typL k
 | [], [], _ => by have _ := hw; rfl
 | [], u :: k, h => by rw [bareL, bareL] at h; cases h
 | t :: r, [], h => by rw [bareL, bareL] at h; cases h
 | t :: r, u :: k, h => by
  rw [bareL, bareL] at h
  injection h with h1 h2
  rw [typL, typL, typ_bare t u h1, typL_bare r k h2]
end
mutual
/-- The memories of another instance. -/
theorem load_mem : ∀ (t u : Trn) (rest : List Int), t.ok o → u.ok o → t.bare = u.bare → loadT t (memT u ++ rest) = u
 | .mk c ms sb, .mk d ns sc, rest, h1, h2, hb => by
  rw [Trn.bare, Trn.bare] at hb
  injection hb with e1 e2 e3
  subst e1
  rw [Trn.ok] at h1 h2
  have hn := (hw c h1.1).mn
  have k1 := h1.2.1.1
  have k2 := h2.2.1.1
  have hz : (c.mems.map Mm.nm).zip (memT (.mk c ns sc) ++ rest) = ns := by
   rw [memT]
   have e : c.mems.map (fun d => gz ns d.nm) = ns.map Prod.snd := by
    rw [← gz_zip (by rw [k2]; exact hn), k2, List.map_map]; rfl
   rw [e, ← k2, List.append_assoc]
   have l1 : (ns.map Prod.fst).length = (ns.map Prod.snd).length := by simp
   conv => lhs; rw [← List.append_nil (ns.map Prod.fst)]
   rw [List.zip_append l1, List.zip_nil_left, List.append_nil]
   exact (List.zip_map' ..).trans (by simp)
  rw [loadT, hz, puts_over (k1.trans k2.symm) (by rw [k1]; exact hn)]
  congr 1
  rw [memT, List.append_assoc, List.drop_append_of_le_length (by simp), List.drop_of_length_le (by simp), List.nil_append]
  exact loadL_mem sb sc c.ins rest h1.2.2 h2.2.2 e3
theorem loadL_mem : ∀ (l k : List Trn) (is : List Ii) (rest : List Int), okS o l is → okS o k is → bareL l = bareL k → loadL l (memL k ++ rest) = k
 | [], [], is, rest, _, _, _ => by rw [loadL]
 | [], u :: k, is, rest, _, _, h => by rw [bareL, bareL] at h; cases h
 | t :: r, [], is, rest, _, _, h => by rw [bareL, bareL] at h; cases h
 | t :: r, u :: k, [], rest, h1, _, _ => by rw [okS] at h1; exact h1.elim
 | t :: r, u :: k, i :: is, rest, h1, h2, hb => by
  rw [okS] at h1 h2
  rw [bareL, bareL] at hb
  injection hb with b1 b2
  have hl : (memT u).length = (typT t).length := by rw [mem_len hw u h2.2.1, typ_bare hw t u b1]
  rw [loadL, memL, List.append_assoc, load_mem t u _ h1.2.1 h2.2.1 b1, ← hl, List.drop_left, loadL_mem r k is rest h1.2.2 h2.2.2 b2]
end
mutual
theorem initT_same : ∀ (t u : Trn), t.ok o → u.ok o → t.bare = u.bare → t.init = u.init
 | .mk c ms sb, .mk d ns sc, h1, h2, hb => by
  rw [Trn.bare, Trn.bare] at hb
  injection hb with e1 e2 e3
  subst e1
  rw [Trn.ok] at h1 h2
  have hn := (hw c h1.1).mn
  have hmn : ((mI c.mems).map Prod.fst) = c.mems.map Mm.nm := by unfold mI; rw [List.map_map]; rfl
  rw [Trn.init, Trn.init, puts_over (h1.2.1.1.trans hmn.symm) (by rw [h1.2.1.1]; exact hn), puts_over (h2.2.1.1.trans hmn.symm) (by rw [h2.2.1.1]; exact hn), initTL_same sb sc c.ins h1.2.2 h2.2.2 e3]
theorem initTL_same : ∀ (l k : List Trn) (is : List Ii), okS o l is → okS o k is → bareL l = bareL k → initL l = initL k
 | [], [], is, _, _, _ => by have _ := hw; rfl
 | [], u :: k, is, _, _, h => by rw [bareL, bareL] at h; cases h
 | t :: r, [], is, _, _, h => by rw [bareL, bareL] at h; cases h
 | t :: r, u :: k, [], h1, _, _ => by rw [okS] at h1; exact h1.elim
 | t :: r, u :: k, i :: is, h1, h2, hb => by
  rw [okS] at h1 h2
  rw [bareL, bareL] at hb
  injection hb with b1 b2
  rw [initL, initL, initT_same t u h1.2.1 h2.2.1 b1, initTL_same r k is h1.2.2 h2.2.2 b2]
end
mutual
/-- Memories have their types. -/
theorem mem_ty : ∀ (t : Trn), t.ok o → ∀ (i : Nat) (u v : Int), (typT t)[i]? = some u → (memT t)[i]? = some v → hasE o.en u v = true
 | .mk c ms sb, h, i, u, v, h1, h2 => by
  rw [Trn.ok] at h
  have hcw := hw c h.1
  rw [typT] at h1
  rw [memT] at h2
  by_cases hi : i < c.mems.length
  ·rw [List.getElem?_append_left (by simpa using hi)] at h1 h2
   rw [List.getElem?_map, List.getElem?_eq_getElem hi] at h1 h2
   simp at h1 h2
   subst h1; subst h2
   obtain ⟨g1, g2, g3⟩ := hcw.mem c.mems[i] (List.getElem_mem hi)
   rw [← g1]
   exact h.2.1.2 _ (by rw [g1]; exact g2)
  ·rw [List.getElem?_append_right (by simpa using hi)] at h1 h2
   rw [List.length_map] at h1 h2
   exact memL_ty sb c.ins h.2.2 _ u v h1 h2
theorem memL_ty : ∀ (l : List Trn) (is : List Ii), okS o l is → ∀ (i : Nat) (u v : Int), (typL l)[i]? = some u → (memL l)[i]? = some v → hasE o.en u v = true
 | [], is, h, i, u, v, h1, h2 => by rw [typL] at h1; simp at h1
 | t :: r, [], h, i, u, v, h1, h2 => by rw [okS] at h; exact h.elim
 | t :: r, d :: is, h, i, u, v, h1, h2 => by
  rw [okS] at h
  rw [typL] at h1
  rw [memL] at h2
  have hl := mem_len hw t h.2.1
  by_cases hi : i < (typT t).length
  ·rw [List.getElem?_append_left hi] at h1
   rw [List.getElem?_append_left (by omega)] at h2
   exact mem_ty t h.2.1 i u v h1 h2
  ·rw [List.getElem?_append_right (by omega)] at h1
   rw [List.getElem?_append_right (by omega), hl] at h2
   exact memL_ty r is h.2.2 _ u v h1 h2
end
end
end Go.Ac
end
