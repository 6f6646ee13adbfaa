/- The entries by data: what they say is what the calls give. Condition: the symbols stand for the parts of a word (WR). -/
import Derived.Test.YtkimfnammkljoaaGreatDoorHdPoM
set_option linter.unusedVariables false
set_option linter.unusedSimpArgs false
section
set_option maxRecDepth 4000
set_option linter.unusedSectionVars false
namespace Go.Ac
open Go.Proofs
variable [GwR]
attribute [local simp] Hp.get_set Ag_set Ag_refl Ag_trunc get_trunc_lt
def gz (l : List (Tx × Int)) (x : Tx) : Int := (mget l x).getD 0
/-- What the value of an expression is, those of its arguments being known. -/
def evK (vs ms : List (Tx × Int)) (k o v : Int) (nm : Tx) (l : List Int) : Int :=
 if k = 1 then v else if k = 2 then gz vs nm else if k = 12 then gz ms nm
 else if k = 4 then (if l.getD 0 0 = 1 then l.getD 1 0 else l.getD 2 0) else (appE o l).1
mutual
/-- The value of an expression. -/
def evE (vs ms : List (Tx × Int)) : X → Int
 | .mk k o _ v nm args => evK vs ms k o v nm (evL vs ms args)
def evL (vs ms : List (Tx × Int)) : List X → List Int
 | [] => []
 | x :: r => evE vs ms x :: evL vs ms r
end
theorem evE_eq (vs ms : List (Tx × Int)) (x : X) : evE vs ms x = evK vs ms x.k x.o x.v x.nm (evL vs ms x.args) := by cases x; rw [evE]; rfl
theorem evL_map (vs ms : List (Tx × Int)) : ∀ l : List X, evL vs ms l = l.map (evE vs ms)
 | [] => by rw [evL]; rfl
 | x :: r => by rw [evL, evL_map vs ms r]; rfl
/-- The object of an instance. -/
def oO (g : Nat) (en : List En) (c : Cl) (im gm ii gi : Nat) : Ob := ⟨g, false, [V.d (.slice (encE en)), V.d (.str c.nm), V.d (.slice (encD c.inn)), V.d (.slice (encD c.out)), V.d (.slice (encD c.loc)), V.d (.slice (encM c.mems)), V.d (.slice (encJ c.ins)), V.d (.slice (encY c.step)), .mp im gm, .mp ii gi]⟩
/-- Where an instance and the variables of a step lie. -/
structure Pa where
 x : Nat
 gx : Nat
 im : Nat
 gm : Nat
 ii : Nat
 gi : Nat
 v : Nat
 gv : Nat
structure RA (a : Pa) (en : List En) (c : Cl) (ms vs : List (Tx × Int)) (hp : Hp) (n : Nat) : Prop where
 ob : hp.get a.x = some (oO a.gx en c a.im a.gm a.ii a.gi)
 me : hp.get a.im = some ⟨a.gm, false, [mpC eI ms]⟩
 va : hp.get a.v = some ⟨a.gv, false, [mpC eI vs]⟩
 lx : a.x < n
 lm : a.im < n
 lv : a.v < n
def rV (a : Pa) : V := .agg [.ptr a.x a.gx 0, .mp a.v a.gv]
section
variable {a : Pa} {en : List En} {c : Cl} {ms vs : List (Tx × Int)}
theorem RA.ag {hp hp' : Hp} {n n' : Nat} (h : RA a en c ms vs hp n) (ha : Ag n hp hp') (hn : n ≤ n') : RA a en c ms vs hp' n' := by
 obtain ⟨h1, h2, h3, l1, l2, l3⟩ := h
 rw [← ha _ l1] at h1
 rw [← ha _ l2] at h2
 rw [← ha _ l3] at h3
 exact ⟨h1, h2, h3, by omega, by omega, by omega⟩
def QR (a : Pa) (en : List En) (c : Cl) (ms vs : List (Tx × Int)) (f : FuncId) (xs : List V) (v : V) : Prop := ∀ hp n cc, RA a en c ms vs hp n → QuietV Tryz.prog Ob.cfg f xs hp n cc v
theorem QR.fn {f : FuncId} {xs : List V} {v : V} (h : QR a en c ms vs f xs v) {hp : Hp} {n : Nat} (hK : RA a en c ms vs hp n) :
  ∃ (F : Hp → Nat → Nat → Hp) (G : Hp → Nat → Nat → Nat), ∀ hp' n' cc, Ag n hp hp' → n ≤ n' → lim Tryz.prog Ob.cfg f xs hp' n' cc = some ⟨v, F hp' n' cc, n', G hp' n' cc, []⟩ := by
 obtain ⟨F, G, h1⟩ := lim_fn (C := fun hp' n' => Ag n hp hp' ∧ n ≤ n') (P := Tryz.prog) (cfg := Ob.cfg) (f := f) (vs := xs) (v := v) (fun hp' n' cc ha => h hp' n' cc (hK.ag ha.1 ha.2))
 exact ⟨F, G, fun hp' n' cc a b => h1 hp' n' cc ⟨a, b⟩⟩
theorem look_gz (l : List (Tx × Int)) {id g : Nat} {ro : Bool} {sz by_ : Nat} {zr : Option (List V)} {look : Look} {x : Tx} (h : look id = some ⟨g, ro, [mpC eI l]⟩) :
  lookupV look ⟨.str, sz, by_, zr⟩ (some (.d (.int .i64 0))) (.mp id g) (.d (.str x)) false = some ⟨.d (.int .i64 (gz l x)), [], [id], 0, 0, false⟩ := by
 rw [lookup_mp eI l h]
 unfold gz
 cases mget l x <;> rfl
theorem kf133 (r : Nat) : Ob.keep 133 r = Ob.k133 r := by kernel_rfl
theorem kf132 (r : Nat) : Ob.keep 132 r = Ob.k132 r := by kernel_rfl
attribute [local simp] kf133 Ob.k133 kf132 Ob.k132
set_option maxHeartbeats 2000000 in
theorem vals124 {N : Nat} (ih : ∀ x : X, x.sz < N → formE x = true → x.ok → QR a en c ms vs 132 [rV a, aG x.cells] (dI (evE vs ms x)))
  (l : List X) (hN : szX l < N) (hf : l.all formE = true) (hok : okX l) (hM : szX l ≤ 8388608) : QR a en c ms vs 133 [rV a, dL (encX l)] (dL (encI (evL vs ms l))) := by
 intro hp n cc hK
 have hlen := len_szX l
 rw [evL_map]
 refine quietC_wp Tryz.func133 rfl (by kernel_rfl) rfl ?_
 refine wkcv (jn @envOf.eq_1 (jn @envOf.eq_2 (jn @rV.eq_1 (jn @dL.eq_1 (jn @fillV.eq_1 (jn @fillV.eq_2 @encX_len)))))) ?_
 apply WP.loop' (I := fun D s => ∃ (j g c' : Nat) (hp' : Hp) (L : List Int), j + D = l.length ∧ L = (l.take j).map (evE vs ms) ∧ Ag n hp hp' ∧ hp'.get n = some ⟨cc, false, [.ptr a.x a.gx 0, .mp a.v a.gv]⟩ ∧ hp'.get (n + 1) = some ⟨g, false, fl (encI L)⟩ ∧
  s = ⟨[(2, .ptr n cc 0), (5, .osl (n + 1) g 0 j 1 none), (8, dL (encX l)), (9, dI l.length), (10, dI j)], hp', n + 2, c', n, []⟩) (d := l.length)
 ·exact ⟨0, cc + 1, _, _, [], by simp, by simp, by simp, by simp, by simp [fl, encI], st_eq (by simp [dI, dL]) rfl⟩
 rintro D _ ⟨j, g, c', hp', L, hj, hL, hag, hx0, hx1, rfl⟩
 have hagt := eq_true hag
 refine wkv (jn @dI.eq_1 @dL.eq_1) ?_
 show WP _ _ _ _ _ _
 refine WP.cond _ rfl (fun hb => ?_) (fun hb => ?_)
 ·simp at hb
  have hb' : j < l.length := by omega
  obtain ⟨d, hd, hdm, hix⟩ := at_lt hb'
  have hd' := encX_at hd
  have hwj := w_succ hb' (by omega)
  obtain ⟨F, G, hr⟩ := (ih d (by have := mem_szX hdm; omega) (List.all_eq_true.1 hf d hdm) ((okX_iff _).1 hok d hdm)).fn hK
  simp only [aG, rV, X.cells_eq, List.map_cons, List.map_nil, dI] at hr
  have hsn := take_snoc hd
  have hLl : L.length = j := by rw [hL]; simp; omega
  have hLs : (l.take (j + 1)).map (evE vs ms) = L ++ [evE vs ms d] := by rw [hsn, hL]; simp
  have r2 := fl_len (encI_row L)
  have r3 := fl_take (encI_row L)
  have r4 := fl_snoc (encI L) [.int .i64 (evE vs ms d)]
  have r5 := encI_snoc L (evE vs ms d)
  have f5 : fitsB (j + 1) 8 = true := by simp [fitsB]; omega
  rw [r5] at r4
  rw [encI_len, hLl, Nat.mul_one] at r2 r3
  simp only [List.map_cons, List.map_nil] at r4
  refine wkcv (jn @dI.eq_1 (jn @dL.eq_1 (jn @X.cells_eq (jn @hix (jn @hd' (jn @hr (jn @fillV.eq_1 (jn @fillV.eq_2 (jn @closeParts.eq_1 (jn @closeParts.eq_2 (jn @cl2.eq_def (jn @toD_dep (jn @toD_d (jn @nble_d (jn @f5 (jn @r2 (jn @r3 (jn @r4 (jn @hx0 (jn @hx1 @hagt)))))))))))))))))))) ?_
  refine loop_next (by simp [hwj]; exact Is.rfl) ?_
  exact ⟨D - 1, by omega, j + 1, _, _, _, _, by omega, hLs.symm, by simp [hag], by simp [hx0], by simp; rfl, st_eq (by simp [dI, dL, hwj]) rfl⟩
 ·simp at hb
  have hje : j = l.length := by omega
  rw [hje, List.take_length] at hL
  have hLl : L.length = j := by rw [hL, hje]; simp
  rw [← hL]
  refine wkcv (jn @dI.eq_1 @dL.eq_1) ?_
  have hcl := close_fl (look := hp'.get) (id := n + 1) (g := g) (ro := false) (cap := none) (encI_row L) hx1
  rw [encI_len, hLl] at hcl
  refine ⟨.inr rfl, rfl, _, [n + 1], rfl, ?_, by simp [Nat.ble_eq]⟩
  show closeT hp'.get (.osl (n + 1) g 0 j 1 none) = _
  rw [hcl]
theorem args3 {x : X} (hf : formE x = true) (q : x.k = 4) : x.args.length = 3 := by
 rw [formE_eq] at hf
 simp only [formN, q] at hf
 split at hf
 ·cases hf
 ·rename_i n hn
  simp at hn hf
  have h1 := hf.1
  rw [← hn.2] at h1
  omega
set_option maxHeartbeats 4000000 in
theorem value123 : ∀ (N : Nat), N ≤ 8388609 → ∀ x : X, x.sz < N → formE x = true → x.ok → QR a en c ms vs 132 [rV a, aG x.cells] (dI (evE vs ms x)) := by
 intro N
 induction N with
 | zero => intro _ x h; omega
 | succ N ih =>
 intro hNM x hN hf hok hp n cc hK
 obtain ⟨hf1, hf2, hf3⟩ := formE_l hf
 obtain ⟨hx1, hx2⟩ := X.ok_eq hok
 have hs0 := X.sz_eq x
 have hvs := vals124 (a := a) (en := en) (c := c) (ms := ms) (vs := vs) (N := N) (fun y h1 h2 h3 => ih (by omega) y h1 h2 h3) x.args (by omega) hf1 hx2 (by omega)
 have hob := hK.ob
 simp only [oO] at hob
 have nx := nf hK.lx
 have nm := nf hK.lm
 have nv := nf hK.lv
 obtain ⟨F, G, hr⟩ := hvs.fn hK
 simp only [rV, dL] at hr
 have hlv := fun (look : Look) (sz by_ : Nat) (zr : Option (List V)) (y : Tx) (h : look a.v = hp.get a.v) => look_gz vs (sz := sz) (by_ := by_) (zr := zr) (x := y) (h.trans hK.va)
 have hlm := fun (look : Look) (sz by_ : Nat) (zr : Option (List V)) (y : Tx) (h : look a.im = hp.get a.im) => look_gz ms (sz := sz) (by_ := by_) (zr := zr) (x := y) (h.trans hK.me)
 have hel : (evL vs ms x.args).length = x.args.length := by rw [evL_map]; simp
 refine quietV_wp Tryz.func132 rfl (by kernel_rfl) rfl (fun _ => rfl) ?_
 rw [evE_eq]
 rcases formE_k hf with q | q | q | q | q
 ·simp only [evK, q]
  refine wkcv (jn @envOf.eq_1 (jn @envOf.eq_2 (jn @rV.eq_1 (jn @aG.eq_1 (jn @X.cells_eq (jn @dI.eq_1 (jn @q @int_beq))))))) ?_
  exact ⟨.inr rfl, rfl, _, rfl, rfl⟩
 ·simp only [evK, q]
  refine wkcv (jn @envOf.eq_1 (jn @envOf.eq_2 (jn @rV.eq_1 (jn @aG.eq_1 (jn @X.cells_eq (jn @dI.eq_1 (jn @q (jn @int_beq (jn @zt3 (jn @nv @hlv)))))))))) ?_
  exact ⟨.inr rfl, rfl, _, rfl, rfl⟩
 ·simp only [evK, q]
  refine wkcv (jn @envOf.eq_1 (jn @envOf.eq_2 (jn @rV.eq_1 (jn @aG.eq_1 (jn @X.cells_eq (jn @dI.eq_1 (jn @q (jn @int_beq (jn @zt3 (jn @hob (jn @nx (jn @nm @hlm)))))))))))) ?_
  exact ⟨.inr rfl, rfl, _, rfl, rfl⟩
 ·have hap := apply148 x.o (evL vs ms x.args) (by rw [hel]; have := len_szX x.args; unfold MX; omega)
  simp only [dI, dL] at hap
  simp only [evK, q]
  refine wkcv (jn @envOf.eq_1 (jn @envOf.eq_2 (jn @rV.eq_1 (jn @aG.eq_1 (jn @X.cells_eq (jn @dI.eq_1 (jn @dL.eq_1 (jn @q (jn @int_beq (jn @hr @hap)))))))))) ?_
  exact ⟨.inr rfl, rfl, _, rfl, rfl⟩
 ·have h3 := args3 hf q
  simp only [evK, q]
  generalize evL vs ms x.args = L at *
  rw [h3] at hel
  obtain ⟨v0, v1, v2, rfl⟩ : ∃ v0 v1 v2, L = [v0, v1, v2] := by
   match L, hel with
   | [a, b, c], _ => exact ⟨a, b, c, rfl⟩
  simp only [encI, List.map_cons, List.map_nil] at hr
  simp only [List.getD_cons_zero, List.getD_cons_succ]
  have i0 : idx 0 3 = some 0 := rfl
  have i1 : idx 1 3 = some 1 := rfl
  have i2 : idx 2 3 = some 2 := rfl
  by_cases q0 : v0 = 1
  ·simp only [q0] at hr
   rw [q0]
   refine wkcv (jn @envOf.eq_1 (jn @envOf.eq_2 (jn @rV.eq_1 (jn @aG.eq_1 (jn @X.cells_eq (jn @dI.eq_1 (jn @dL.eq_1 (jn @q (jn @int_beq (jn @hr (jn @i0 @i1))))))))))) ?_
   exact ⟨.inr rfl, rfl, _, rfl, rfl⟩
  ·have q0' := eq_false q0
   rw [if_neg q0]
   refine wkcv (jn @envOf.eq_1 (jn @envOf.eq_2 (jn @rV.eq_1 (jn @aG.eq_1 (jn @X.cells_eq (jn @dI.eq_1 (jn @dL.eq_1 (jn @q (jn @int_beq (jn @hr (jn @i0 (jn @i2 @q0')))))))))))) ?_
   exact ⟨.inr rfl, rfl, _, rfl, rfl⟩
end
end Go.Ac
end

section
set_option linter.unusedSectionVars false
namespace Go.Ac
open Go.Proofs
variable [GwR]
/-- The counter of a word at an instant. -/
def kW (h l t : Nat) : Nat := if t < h then t else h + (t - h) % l
theorem kW_lt {h l : Nat} (hl : 0 < l) (t : Nat) : kW h l t < h + l := by
 unfold kW
 split
 ·omega
 ·have := Nat.mod_lt (t - h) hl; omega
theorem kW_zero {h l : Nat} : kW h l 0 = 0 := by
 unfold kW
 split
 ·rfl
 ·have : h = 0 := by omega
  subst this; simp
theorem mod_succ {l : Nat} (hl : 0 < l) (m : Nat) : (m + 1) % l = if m % l + 1 = l then 0 else m % l + 1 := by
 have h1 := Nat.mod_lt m hl
 have h2 := Nat.div_add_mod m l
 split
 ·rename_i h
  have : m + 1 = l * (m / l + 1) := by rw [Nat.mul_add]; omega
  rw [this, Nat.mul_mod_right]
 ·rename_i h
  have e : m + 1 = (m % l + 1) + l * (m / l) := by omega
  have e2 : (m + 1) % l = ((m % l + 1) + l * (m / l)) % l := congrArg (· % l) e
  rw [e2, Nat.add_mul_mod_self_left, Nat.mod_eq_of_lt (by omega)]
theorem kW_succ {h l : Nat} (hl : 0 < l) (t : Nat) : kW h l (t + 1) = if kW h l t + 1 = h + l then h else kW h l t + 1 := by
 by_cases h1 : t + 1 < h
 ·have e1 : kW h l (t + 1) = t + 1 := by unfold kW; rw [if_pos h1]
  have e2 : kW h l t = t := by unfold kW; rw [if_pos (by omega)]
  rw [e1, e2, if_neg (by omega)]
 ·by_cases h2 : t < h
  ·have e1 : kW h l (t + 1) = h := by unfold kW; rw [if_neg h1, show t + 1 - h = 0 by omega, Nat.zero_mod, Nat.add_zero]
   have e2 : kW h l t = t := by unfold kW; rw [if_pos h2]
   rw [e1, e2]
   split <;> omega
  ·have e1 : kW h l (t + 1) = h + (t - h + 1) % l := by unfold kW; rw [if_neg h1, show t + 1 - h = (t - h) + 1 by omega]
   have e2 : kW h l t = h + (t - h) % l := by unfold kW; rw [if_neg h2]
   rw [e1, e2, mod_succ hl]
   have := Nat.mod_lt (t - h) hl
   split <;> split <;> omega
/-! ### Values -/
theorem ev_num (vs ms : List (Tx × Int)) (v : Int) : evE vs ms (xNum v) = v := by rw [evE_eq]; simp [xNum, evK, evL, X.k, X.o, X.v, X.nm, X.args]
theorem ev_bl (vs ms : List (Tx × Int)) (b : Bool) : evE vs ms (xBl b) = if b = true then 1 else 0 := by rw [evE_eq]; simp [xBl, evK, evL, X.k, X.o, X.v, X.nm, X.args]
theorem ev_st (vs ms : List (Tx × Int)) (c : Tx) : evE vs ms (xSt c) = gz ms c := by rw [evE_eq]; simp [xSt, evK, evL, X.k, X.o, X.v, X.nm, X.args]
theorem ev_if (vs ms : List (Tx × Int)) (a b c : X) : evE vs ms (xIf a b c) = if evE vs ms a = 1 then evE vs ms b else evE vs ms c := by
 rw [evE_eq]; simp [xIf, evK, evL, X.k, X.o, X.v, X.nm, X.args]
theorem ev_op (vs ms : List (Tx × Int)) (o : Int) (a b : X) : evE vs ms (xOp o a b) = (appE o [evE vs ms a, evE vs ms b]).1 := by
 rw [evE_eq]; simp [xOp, evK, evL, X.k, X.o, X.v, X.nm, X.args]
theorem in_nat {k : Nat} (h : k ≤ 32767) : inW (k : Int) = true := by unfold inW; simp; omega
theorem app_lt {a b : Int} (ha : inW a = true) (hb : inW b = true) : (appE 13 [a, b]).1 = if a < b then 1 else 0 := by
 have h1 : grpE 13 = 4 := by decide
 have h2 : arE 13 = 2 := by decide
 simp [appE, h1, h2, ofR, ha, hb, hldE, trE]
theorem app_eq (a b : Int) : (appE 11 [a, b]).1 = if a = b then 1 else 0 := by
 have h1 : grpE 11 = 3 := by decide
 have h2 : arE 11 = 2 := by decide
 simp [appE, h1, h2, ofR, hldE, trE]
theorem app_add {a b : Int} (ha : inW a = true) (hb : inW b = true) (hc : inW (a + b) = true) : (appE 6 [a, b]).1 = a + b := by
 have h1 : grpE 6 = 2 := by decide
 have h2 : arE 6 = 2 := by decide
 have w : ∀ x : Int, inW x = true → wr x = x := by intro x hx; unfold inW at hx; unfold wr; simp at hx; omega
 simp [appE, h1, h2, ofR, ha, hb, cmpE]
 rw [w a ha, w b hb, w _ hc]
theorem ltX_ev (c : Tx) (vs ms : List (Tx × Int)) (k : Nat) (hk : gz ms c = (k : Int)) : ∀ (N lo : Nat) (s : List Bool), s.length ≤ N → lo ≤ k → k < lo + s.length → lo + s.length ≤ 32767 → evE vs ms (ltX c N lo s) = if s[k - lo]? = some true then 1 else 0
 | 0, lo, s, h1, h2, h3, _ => by omega
 | N + 1, lo, s, h1, h2, h3, h4 => by
  obtain ⟨b, hb⟩ : ∃ b, s[k - lo]? = some b := ⟨s[k - lo]'(by omega), List.getElem?_eq_getElem (by omega)⟩
  rw [ltX]
  by_cases ha : s.all (fun b => decide (b = hdB s)) = true
  ·rw [if_pos ha, ev_bl, hb]
   have hbb : b = hdB s := of_decide_eq_true (List.all_eq_true.1 ha b (List.mem_of_getElem? hb))
   rw [← hbb]
   cases b <;> simp
  ·have h2l : 2 ≤ s.length := by
    rcases s with _ | ⟨x, _ | ⟨y, r⟩⟩
    ·simp at h3; omega
    ·simp [hdB] at ha
    ·simp
   rw [if_neg ha, ev_if, ev_op, ev_st, ev_num, hk, app_lt (in_nat (by omega)) (in_nat (by omega))]
   by_cases hm : (k : Int) < ((lo + s.length / 2 : Nat) : Int)
   ·rw [if_pos hm, if_pos rfl, ltX_ev c vs ms k hk N lo (s.take (s.length / 2)) (by rw [List.length_take]; omega) h2 (by rw [List.length_take]; omega) (by rw [List.length_take]; omega), List.getElem?_take_of_lt (by omega)]
   ·rw [if_neg hm, if_neg (by decide), ltX_ev c vs ms k hk N (lo + s.length / 2) (s.drop (s.length / 2)) (by rw [List.length_drop]; omega) (by omega) (by rw [List.length_drop]; omega) (by rw [List.length_drop]; omega), List.getElem?_drop,
     show s.length / 2 + (k - (lo + s.length / 2)) = k - lo by omega]
/-! ### Types -/
theorem form_num (v : Int) : formE (xNum v) = true := by rw [formE_eq]; simp [xNum, formN, formL, X.k, X.o, X.t, X.v, X.nm, X.args]
theorem form_bl (b : Bool) : formE (xBl b) = true := by rw [formE_eq]; simp [xBl, formN, formL, X.k, X.o, X.t, X.v, X.nm, X.args]
theorem form_st (c : Tx) : formE (xSt c) = true := by rw [formE_eq]; simp [xSt, formN, formL, X.k, X.o, X.t, X.v, X.nm, X.args]
theorem form_if {a b c : X} (ha : formE a = true) (hb : formE b = true) (hc : formE c = true) : formE (xIf a b c) = true := by
 rw [formE_eq]; simp [xIf, formN, formL, X.k, X.o, X.t, X.v, X.nm, X.args, ha, hb, hc]
theorem form_op {o : Int} {a b : X} (ho : arE o = 2) (ha : formE a = true) (hb : formE b = true) : formE (xOp o a b) = true := by
 rw [formE_eq]; simp [xOp, formN, formL, X.k, X.o, X.t, X.v, X.nm, X.args, ha, hb, ho]
theorem kind_num (w : Pl) {v : Int} (h : inW v = true) : kindW w (xNum v) = (2, 0) := by
 rw [kindW_eq]; simp [xNum, kindsW, kindO, hasE, h, X.k, X.o, X.t, X.v, X.nm, X.args]
theorem kind_bl (w : Pl) (b : Bool) : kindW w (xBl b) = (1, 0) := by
 rw [kindW_eq]; cases b <;> simp [xBl, kindsW, kindO, hasE, sizeE, X.k, X.o, X.t, X.v, X.nm, X.args]
theorem kind_st (w : Pl) {c : Tx} (h : findM w.c.mems c = 2) : kindW w (xSt c) = (2, 0) := by
 rw [kindW_eq]; simp [xSt, kindsW, kindO, h, X.k, X.o, X.t, X.v, X.nm, X.args]
theorem kind_if (w : Pl) {a b c : X} {t : Int} (ha : kindW w a = (1, 0)) (hb : kindW w b = (t, 0)) (hc : kindW w c = (t, 0)) : kindW w (xIf a b c) = (t, 0) := by
 rw [kindW_eq]; simp [xIf, kindsW, kindO, ha, hb, hc, X.k, X.o, X.t, X.v, X.nm, X.args]
theorem kind_op (w : Pl) {o t : Int} {a b : X} (ha : kindW w a = (2, 0)) (hb : kindW w b = (2, 0)) (ho : resE o [2, 2] = (t, 0)) : kindW w (xOp o a b) = (t, 0) := by
 rw [kindW_eq]; simp [xOp, kindsW, kindO, ha, hb, ho, X.k, X.o, X.t, X.v, X.nm, X.args]
theorem ok_num {v : Int} (h : inW v = true) : (xNum v).ok := by
 unfold inW at h; simp at h
 simp [xNum, X.ok, okX, I64]; omega
theorem ok_bl (b : Bool) : (xBl b).ok := by cases b <;> simp [xBl, X.ok, okX, I64]
theorem ok_st (c : Tx) : (xSt c).ok := by simp [xSt, X.ok, okX, I64]
theorem ok_if {a b c : X} (ha : a.ok) (hb : b.ok) (hc : c.ok) : (xIf a b c).ok := by simp [xIf, X.ok, okX, I64, ha, hb, hc]
theorem ok_op {o : Int} {a b : X} (ho : I64 o) (ha : a.ok) (hb : b.ok) : (xOp o a b).ok := by
 unfold I64 at ho
 simp [xOp, X.ok, okX, I64, ha, hb, ho]
/-- What is wanted of an expression of type t. -/
structure XG (w : Pl) (t : Int) (x : X) : Prop where
 form : formE x = true
 kind : kindW w x = (t, 0)
 ok : x.ok
 o : x.o = 0
 nm : x.nm = []
 k : x.k = 1 ∨ x.k = 4
theorem ltX_ok (w : Pl) (c : Tx) (hm : findM w.c.mems c = 2) (hc : szT c ≤ 4) : ∀ (N lo : Nat) (s : List Bool), s.length ≤ N → 0 < s.length → lo + s.length ≤ 32767 → XG w 1 (ltX c N lo s) ∧ (ltX c N lo s).sz + 31 ≤ 38 * s.length
 | 0, lo, s, h1, h2, _ => by omega
 | N + 1, lo, s, h1, h2, h4 => by
  rw [ltX]
  by_cases ha : s.all (fun b => decide (b = hdB s)) = true
  ·rw [if_pos ha]
   exact ⟨⟨form_bl _, kind_bl _ _, ok_bl _, rfl, rfl, .inl rfl⟩, by rw [X.sz_eq]; simp [xBl, X.nm, X.args, szT, szX]; omega⟩
  ·have h2l : 2 ≤ s.length := by
    rcases s with _ | ⟨x, _ | ⟨y, r⟩⟩
    ·simp at h2
    ·simp [hdB] at ha
    ·simp
   rw [if_neg ha]
   obtain ⟨a1, a2⟩ := ltX_ok w c hm hc N lo (s.take (s.length / 2)) (by rw [List.length_take]; omega) (by rw [List.length_take]; omega) (by rw [List.length_take]; omega)
   obtain ⟨b1, b2⟩ := ltX_ok w c hm hc N (lo + s.length / 2) (s.drop (s.length / 2)) (by rw [List.length_drop]; omega) (by rw [List.length_drop]; omega) (by rw [List.length_drop]; omega)
   have hn : inW ((lo + s.length / 2 : Nat) : Int) = true := in_nat (by omega)
   refine ⟨⟨form_if (form_op (by decide) (form_st c) (form_num _)) a1.form b1.form, kind_if w (kind_op w (kind_st w hm) (kind_num w hn) (by decide)) a1.kind b1.kind, ok_if (ok_op (by unfold I64; omega) (ok_st c) (ok_num hn)) a1.ok b1.ok, rfl, rfl, .inr rfl⟩, ?_⟩
   rw [List.length_take] at a2
   rw [List.length_drop] at b2
   rw [X.sz_eq]
   simp [xIf, xOp, xSt, xNum, X.nm, X.args, szT, szX, X.sz] at hc ⊢
   omega
theorem stepX_ok (w : Pl) (c : Tx) (hm : findM w.c.mems c = 2) (hc : szT c ≤ 4) {h n : Nat} (hh : h ≤ 32767) (hn : 1 ≤ n) (hn2 : n ≤ 32767) : XG w 2 (stepX c h n) ∧ (stepX c h n).sz ≤ 200 := by
 have i1 : inW ((n : Int) - 1) = true := by unfold inW; simp; omega
 have i2 : inW (1 : Int) = true := by decide
 refine ⟨⟨form_if (form_op (by decide) (form_st c) (form_num _)) (form_num _) (form_op (by decide) (form_st c) (form_num _)), kind_if w (kind_op w (kind_st w hm) (kind_num w i1) (by decide)) (kind_num w (in_nat hh)) (kind_op w (kind_st w hm) (kind_num w i2) (by decide)),
  ok_if (ok_op (by unfold I64; omega) (ok_st c) (ok_num i1)) (ok_num (in_nat hh)) (ok_op (by unfold I64; omega) (ok_st c) (ok_num i2)), rfl, rfl, .inr rfl⟩, ?_⟩
 rw [X.sz_eq]
 simp [stepX, xIf, xOp, xSt, xNum, X.nm, X.args, szT, szX, X.sz] at hc ⊢
 omega
theorem stepX_ev (c : Tx) (vs ms : List (Tx × Int)) {h l t : Nat} (hl : 0 < l) (hn2 : h + l ≤ 32767) (hk : gz ms c = (kW h l t : Int)) : evE vs ms (stepX c h (h + l)) = (kW h l (t + 1) : Int) := by
 have hlt := kW_lt hl t (h := h)
 unfold stepX
 rw [ev_if, ev_op, ev_st, ev_num, ev_num, ev_op, ev_st, ev_num, hk, app_eq, kW_succ hl]
 by_cases e : kW h l t + 1 = h + l
 ·rw [if_pos (show ((kW h l t : Int) = ((h + l : Nat) : Int) - 1) by omega), if_pos rfl, if_pos e]
 ·rw [if_neg (show ¬ ((kW h l t : Int) = ((h + l : Nat) : Int) - 1) by omega), if_neg (by decide), if_neg e, app_add (in_nat (by omega)) (by decide) (by have := in_nat (k := kW h l t + 1) (by omega); simpa using this)]
  simp
/-! ### Lengths of a word -/
theorem take_len {α : Type} (p : α → Bool) : ∀ l : List α, (l.takeWhile p).length ≤ l.length
 | [] => by simp
 | x :: r => by
  have := take_len p r
  rw [List.takeWhile_cons]
  split <;> simp <;> omega
theorem drop_len {α : Type} (p : α → Bool) : ∀ l : List α, (l.dropWhile p).length ≤ l.length
 | [] => by simp
 | x :: r => by
  have := drop_len p r
  rw [List.dropWhile_cons]
  split <;> simp <;> omega
theorem prsT_len {s : Tx} {hd lp : List Bool} (h : prsT s = ((hd, lp), 0)) : hd.length ≤ 66 ∧ lp.length ≤ 66 ∧ 0 < lp.length := by
 unfold prsT at h
 split at h
 ·cases h
 rename_i h66
 have hd0 := drop_len isB s
 split at h
 ·cases h
 rename_i b r hbr
 rw [hbr] at hd0
 split at h
 ·cases h
 split at h
 ·cases h
 rename_i c z hcz
 split at h
 ·cases h
 rename_i hno
 simp only [Prod.mk.injEq] at h
 obtain ⟨⟨rfl, rfl⟩, _⟩ := h
 have t1 := take_len isB s
 have t2 := take_len isB r
 simp only [List.length_cons] at hd0
 refine ⟨by unfold runB; rw [List.length_map]; omega, by unfold runB; rw [List.length_map]; omega, ?_⟩
 apply Classical.byContradiction
 intro hz
 exact hno (.inr (.inr (List.eq_nil_of_length_eq_zero (by omega))))
theorem td_len {α : Type} (p : α → Bool) (l : List α) : (l.takeWhile p).length + (l.dropWhile p).length = l.length := by
 have := congrArg List.length (List.takeWhile_append_dropWhile (p := p) (l := l))
 rwa [List.length_append] at this
theorem prsT_sum {s : Tx} {hd lp : List Bool} (h : prsT s = ((hd, lp), 0)) : hd.length + lp.length ≤ 64 := by
 unfold prsT at h
 split at h
 ·cases h
 rename_i h66
 have hd0 := td_len isB s
 split at h
 ·cases h
 rename_i b r hbr
 rw [hbr] at hd0
 split at h
 ·cases h
 have hd1 := td_len isB r
 split at h
 ·cases h
 rename_i c z hcz
 rw [hcz] at hd1
 split at h
 ·cases h
 simp only [Prod.mk.injEq] at h
 obtain ⟨⟨rfl, rfl⟩, _⟩ := h
 simp only [List.length_cons] at hd0 hd1
 unfold runB
 rw [List.length_map, List.length_map]
 omega
theorem prsT_err (s : Tx) : (prsT s).2 = 0 ∨ ((prsT s).1 = ([], []) ∧ ((prsT s).2 = 3 ∨ (prsT s).2 = 5)) := by
 unfold prsT
 split
 ·exact .inr ⟨rfl, .inl rfl⟩
 split
 ·exact .inr ⟨rfl, .inr rfl⟩
 split
 ·exact .inr ⟨rfl, .inr rfl⟩
 split
 ·exact .inr ⟨rfl, .inr rfl⟩
 split
 ·exact .inr ⟨rfl, .inr rfl⟩
 ·exact .inl rfl
end Go.Ac
end

section
set_option maxRecDepth 4000
set_option linter.unusedSectionVars false
namespace Go.Ac
open Go.Proofs
variable [GwR]
attribute [local simp] Hp.get_set get_trunc_lt
theorem encX_row6 (l : List X) : ∀ r ∈ encX l, r.length = 6 := by rw [encX_map]; intro r hr; obtain ⟨x, _, rfl⟩ := List.mem_map.1 hr; rw [X.cells_eq]; rfl
theorem encX_snoc1 (l : List X) (x : X) : encX l ++ [x.cells] = encX (l ++ [x]) := by simp [encX_map]
theorem kf130 (r : Nat) : Ob.keep 130 r = Ob.k130 r := by kernel_rfl
attribute [local simp] kf130 Ob.k130
set_option maxHeartbeats 4000000 in
theorem copy122 : ∀ (N : Nat) (l : List X), szX l < N → szX l ≤ 8388608 → den Tryz.prog Ob.cfg 130 [dL (encX l)] = some (dL (encX l)) := by
 intro N
 induction N with
 | zero => intro l h; omega
 | succ N ih =>
 intro l hN hM
 have hlen := len_szX l
 refine den_wp Tryz.func130 rfl (by kernel_rfl) rfl rfl ?_
 refine wkc (jn @envOf.eq_1 (jn @envOf.eq_2 (jn @dL.eq_1 (jn @fillV.eq_1 (jn @fillV.eq_2 @encX_len))))) ?_
 apply WP.loop' (I := fun D s => ∃ (j g c' : Nat) (hp' : Hp), j + D = l.length ∧ hp'.get 0 = some ⟨g, false, fl (encX (l.take j))⟩ ∧
  s = ⟨[(3, .osl 0 g 0 j 6 none), (6, dL (encX l)), (7, dI l.length), (8, dI j)], hp', 1, c', 0, []⟩) (d := l.length)
 ·exact ⟨0, 0, _, _, by simp, by simp [fl, encX], st_eq (by simp [dI, dL]) rfl⟩
 rintro D _ ⟨j, g, c', hp', hj, hx, rfl⟩
 refine wk (jn @dI.eq_1 @dL.eq_1) ?_
 show WP _ _ _ _ _ _
 refine WP.cond _ rfl (fun hb => ?_) (fun hb => ?_)
 ·simp at hb
  have hb' : j < l.length := by omega
  obtain ⟨d, hd, hdm, hix⟩ := at_lt hb'
  have hd' := encX_at hd
  have hwj := w_succ hb' (by omega)
  have hs0 := X.sz_eq d
  have hms := mem_szX hdm
  have hc := ih d.args (by omega) (by omega)
  simp only [dL] at hc
  have hsn := take_snoc hd
  have hLl : (l.take j).length = j := by simp; omega
  have r2 := fl_len (encX_row6 (l.take j))
  have r3 := fl_take (encX_row6 (l.take j))
  have r4 := fl_snoc (encX (l.take j)) d.cells
  have r5 := encX_snoc1 (l.take j) d
  have f5 : fitsB (j + 1) 72 = true := by simp [fitsB]; omega
  rw [r5, ← hsn, X.cells_eq] at r4
  rw [encX_len, hLl] at r2 r3
  simp only [List.map_cons, List.map_nil] at r4
  refine wkc (jn @dI.eq_1 (jn @dL.eq_1 (jn @X.cells_eq (jn @hix (jn @hd' (jn @hc (jn @fillV.eq_1 (jn @fillV.eq_2 (jn @closeParts.eq_1 (jn @closeParts.eq_2 (jn @cl2.eq_def (jn @toD_dep (jn @toD_d (jn @nble_d (jn @f5 (jn @r2 (jn @r3 (jn @r4 @hx)))))))))))))))))) ?_
  refine loop_next (by simp [hwj]; exact Is.rfl) ?_
  exact ⟨D - 1, by omega, j + 1, _, _, _, by omega, by simp; rfl, st_eq (by simp [dI, dL, hwj]) rfl⟩
 ·simp at hb
  have hje : j = l.length := by omega
  rw [hje, List.take_length] at hx
  refine wkc (jn @dI.eq_1 @dL.eq_1) ?_
  have hcl := close_fl (look := hp'.get) (id := 0) (g := g) (ro := false) (cap := none) (encX_row6 l) hx
  rw [encX_len, ← hje] at hcl
  exact ⟨.inr rfl, _, [0], rfl, hcl⟩
end Go.Ac
end

section
namespace Go.Ac
variable {P : Program}
/-- The references of a value are among the marks given out. -/
inductive RF (I : Nat → Nat → Prop) : V → Prop
 | any : RF I .any
 | undef : RF I .undef
 | d {x : D} : RF I (.d x)
 | con {v : Value} : RF I (.con v)
 | full {r : List (List D)} : RF I (.full r)
 | vref {l : List D} : RF I (.vref l)
 | agg {cs : List V} (h : ∀ (j : Nat) (x : V), cs[j]? = some x → RF I x) : RF I (.agg cs)
 | tuple {cs : List V} (h : ∀ (j : Nat) (x : V), cs[j]? = some x → RF I x) : RF I (.tuple cs)
 | fn {f : FuncId} {cs : List V} (h : ∀ (j : Nat) (x : V), cs[j]? = some x → RF I x) : RF I (.fn f cs)
 | ptr {id g off : Nat} (h : I id g) : RF I (.ptr id g off)
 | osl {id g off len sz : Nat} {cap : Option Nat} (h : I id g) : RF I (.osl id g off len sz cap)
 | it {id g : Nat} (h : I id g) : RF I (.it id g)
 | mp {id g : Nat} (h : I id g) : RF I (.mp id g)
 | yd {id g : Nat} (h : I id g) : RF I (.yd id g)
 | ifc {t : Nat} {x : V} (h : RF I x) : RF I (.ifc t x)
 | mv {f : FuncId} {x : V} (h : RF I x) : RF I (.mv f x)

theorem RF.mono {I J : Nat → Nat → Prop} (h : ∀ id g, I id g → J id g) {x : V} (hx : RF I x) : RF J x := by
 induction hx with
 | any => exact .any
 | undef => exact .undef
 | d => exact .d
 | con => exact .con
 | full => exact .full
 | vref => exact .vref
 | agg _ ih => exact .agg ih
 | tuple _ ih => exact .tuple ih
 | fn _ ih => exact .fn ih
 | ptr hi => exact .ptr (h _ _ hi)
 | osl hi => exact .osl (h _ _ hi)
 | it hi => exact .it (h _ _ hi)
 | mp hi => exact .mp (h _ _ hi)
 | yd hi => exact .yd (h _ _ hi)
 | ifc _ ih => exact .ifc ih
 | mv _ ih => exact .mv ih
theorem at_size {α β : Type _} {xs : List α} {ys : Array β} (h : xs.length = ys.size) {j : Nat} {a : α} (ha : xs[j]? = some a) : ∃ b, ys[j]? = some b := by
 have := (List.getElem?_eq_some_iff.1 ha).1
 exact ⟨ys[j]'(by omega), Array.getElem?_eq_getElem (by omega)⟩
theorem RV.rf [Gl] {S : Nat → Prop} {m : M} {x : V} {v : Value} (h : RV S m x v) : RF m.iss x := by
 induction h with
 | any v => exact .any
 | undef => exact .undef
 | d h => exact .d
 | con v => exact .con
 | full h => exact .full
 | agg hl h ih =>
  exact .agg fun j x hx => by
   obtain ⟨y, hy⟩ := at_size hl hx
   exact ih j x y hx hy
 | ptr h1 h2 h => exact .ptr h1
 | osl h1 h2 h => exact .osl h1
 | it h1 h2 h => exact .it h1
 | mp h1 h2 h => exact .mp h1
 | vref f hf hr => exact .vref
 | fn hl h ih =>
  exact .fn fun j x hx => by
   obtain ⟨y, hy⟩ := at_size hl hx
   exact ih j x y hx hy
 | tuple hl h ih =>
  exact .tuple fun j x hx => by
   obtain ⟨y, hy⟩ := at_size hl hx
   exact ih j x y hx hy
 | ifc h ih => exact .ifc ih
 | mv h ih => exact .mv ih
 | yd h1 h2 h => exact .yd h1
theorem RV.less [Gl] {S : Nat → Prop} {m : M} {I : Nat → Nat → Prop} {x : V} {v : Value} (h : RV S m x v) : RF I x → RV S { m with iss := I } x v := by
 induction h with
 | any v => exact fun _ => .any v
 | undef => exact fun _ => .undef
 | d h => exact fun _ => .d h
 | con v => exact fun _ => .con v
 | full h => exact fun _ => .full h
 | agg hl h ih =>
  intro hi
  cases hi with
  | agg hi => exact .agg hl fun j x y hx hy => ih j x y hx hy (hi j x hx)
 | ptr h1 h2 h =>
  intro hi
  cases hi with
  | ptr hi => exact .ptr hi h2 h
 | osl h1 h2 h =>
  intro hi
  cases hi with
  | osl hi => exact .osl hi h2 h
 | it h1 h2 h =>
  intro hi
  cases hi with
  | it hi => exact .it hi h2 h
 | mp h1 h2 h =>
  intro hi
  cases hi with
  | mp hi => exact .mp hi h2 h
 | vref f hf hr => exact fun _ => .vref f hf hr
 | fn hl h ih =>
  intro hi
  cases hi with
  | fn hi => exact .fn hl fun j x y hx hy => ih j x y hx hy (hi j x hx)
 | tuple hl h ih =>
  intro hi
  cases hi with
  | tuple hi => exact .tuple hl fun j x y hx hy => ih j x y hx hy (hi j x hx)
 | ifc h ih =>
  intro hi
  cases hi with
  | ifc hi => exact .ifc (ih hi)
 | mv h ih =>
  intro hi
  cases hi with
  | mv hi => exact .mv (ih hi)
 | yd h1 h2 h =>
  intro hi
  cases hi with
  | yd hi => exact .yd hi h2 h
/-- The references of an object. -/
def RFr (I : Nat → Nat → Prop) (l : List V) : Prop :=
 match l with
 | [.itc _ _] => True
 | [.mpc _ vs _ _] => ∀ (j : Nat) (x : V), vs[j]? = some x → RF I x
 | [.mpa _ vs _] => ∀ (j : Nat) (x : V), vs[j]? = some x → RF I x
 | [.mpq _ vs _] => ∀ x, x ∈ vs → RF I x
 | [.itm mid mg _ _ _] => I mid mg
 | [.lp _ _ _ env _ _ _] => ∀ t, RF I (Env.get env t)
 | l => ∀ (j : Nat) (x : V), l[j]? = some x → RF I x
theorem RFr.mono {I J : Nat → Nat → Prop} (h : ∀ id g, I id g → J id g) {l : List V} (hx : RFr I l) : RFr J l := by
 cases l with
 | nil => exact fun j x hj => (hx j x hj).mono h
 | cons x r =>
  cases r with
  | cons y r => cases x <;> exact fun j x hj => (hx j x hj).mono h
  | nil =>
   cases x
   case itc => trivial
   case mpc => exact fun j x hj => (hx j x hj).mono h
   case mpa => exact fun j x hj => (hx j x hj).mono h
   case mpq => exact fun x hj => (hx x hj).mono h
   case itm => exact h _ _ hx
   case lp => exact fun t => (hx t).mono h
   all_goals exact fun j x hj => (hx j x hj).mono h
theorem mapAt_rf [Gl] {S : Nat → Prop} {m : M} {ks : List D} {vs : List V} {bs : List Nat} {es : Array MapEntry} (h : MapAt S m ks vs bs es) (j : Nat) (x : V) (hx : vs[j]? = some x) : RF m.iss x := by
 obtain ⟨y, hy⟩ := at_size h.lv hx
 exact (h.val j x y hx hy).rf
theorem QP.mem {ks : List D} {vs : List V} {ks' : List D} {vs' : List V} (h : QP ks vs ks' vs') {x : V} (hx : x ∈ vs) : x ∈ vs' := by
 obtain ⟨j, hj, rfl⟩ := List.getElem_of_mem hx
 have hk : j < ks.length := by rw [h.l]; exact hj
 have h1 : (ks[j], vs[j]) ∈ ks.zip vs := by
  have : (ks.zip vs)[j]'(by simp; omega) = (ks[j], vs[j]) := by simp
  rw [← this]; exact List.getElem_mem _
 have h2 := h.perm.symm.subset h1
 exact (List.of_mem_zip h2).2
theorem QP.mem' {ks : List D} {vs : List V} {ks' : List D} {vs' : List V} (h : QP ks vs ks' vs') {x : V} (hx : x ∈ vs') : x ∈ vs := by
 obtain ⟨j, hj, rfl⟩ := List.getElem_of_mem hx
 have hk : j < ks'.length := by rw [h.l']; exact hj
 have h1 : (ks'[j], vs'[j]) ∈ ks'.zip vs' := by
  have : (ks'.zip vs')[j]'(by simp; omega) = (ks'[j], vs'[j]) := by simp
  rw [← this]; exact List.getElem_mem _
 have h2 := h.perm.subset h1
 exact (List.of_mem_zip h2).2
theorem cells_rf [Gl] {S : Nat → Prop} {m : M} {l : List V} {b base : Nat} (h : CellsAt S m l b base) (j : Nat) (x : V) (hx : l[j]? = some x) : RF m.iss x := by
 obtain ⟨cs, T, fz, h1, h2, h3, h4⟩ := h
 obtain ⟨_, y, _, hy⟩ := h4 j x hx
 exact hy.rf
theorem RowAt.rf [Gl] {S : Nat → Prop} {m : M} {l : List V} {b base : Nat} (h : RowAt S m l b base) : RFr m.iss l := by
 cases l with
 | nil => exact cells_rf h
 | cons x r =>
  cases r with
  | cons y r => cases x <;> exact cells_rf h
  | nil =>
   cases x
   case itc => trivial
   case mpc =>
    obtain ⟨_, es, _, h⟩ := h
    exact fun j x hx => mapAt_rf h j x hx
   case mpa =>
    obtain ⟨_, es, _, h⟩ := h
    intro j x hx
    obtain ⟨y, hy⟩ := at_size h.lv hx
    exact (h.val j x y hx hy).rf
   case mpq =>
    obtain ⟨_, es, _, ks', vs', bs', h, hq⟩ := h
    intro x hx
    obtain ⟨j, hj⟩ := List.getElem?_of_mem (hq.mem hx)
    exact mapAt_rf h j x hj
   case itm =>
    obtain ⟨_, bm, _, h⟩ := h
    cases h with
    | mp h1 h2 h3 => exact h1
   case lp =>
    obtain ⟨_, r, _, h⟩ := h
    exact fun t => (h.env t).rf
   all_goals exact cells_rf h
theorem mapAt_less [Gl] {S : Nat → Prop} {m : M} {I : Nat → Nat → Prop} {ks : List D} {vs : List V} {bs : List Nat} {es : Array MapEntry} (h : MapAt S m ks vs bs es) (hi : ∀ (j : Nat) (x : V), vs[j]? = some x → RF I x) : MapAt S { m with iss := I } ks vs bs es :=
 ⟨h.lk, h.lv, h.lb, h.key, fun j v e hv he => (h.val j v e hv he).less (hi j v hv), h.born⟩
theorem cells_less [Gl] {S : Nat → Prop} {m : M} {I : Nat → Nat → Prop} {l : List V} {b base : Nat} (h : CellsAt S m l b base) (hi : ∀ (j : Nat) (x : V), l[j]? = some x → RF I x) : CellsAt S { m with iss := I } l b base := by
 obtain ⟨cs, T, fz, h1, h2, h3, h4⟩ := h
 refine ⟨cs, T, fz, h1, h2, h3, fun j v hv => ?_⟩
 obtain ⟨k1, x, k2, k3⟩ := h4 j v hv
 exact ⟨k1, x, k2, k3.less (hi j v hv)⟩
theorem RowAt.less [Gl] {S : Nat → Prop} {m : M} {I : Nat → Nat → Prop} {l : List V} {b base : Nat} (h : RowAt S m l b base) (hi : RFr I l) : RowAt S { m with iss := I } l b base := by
 cases l with
 | nil => exact cells_less h hi
 | cons x r =>
  cases r with
  | cons y r => cases x <;> exact cells_less h hi
  | nil =>
   cases x
   case itc => exact h
   case mpc =>
    obtain ⟨a, es, c, h⟩ := h
    exact ⟨a, es, c, mapAt_less h hi⟩
   case mpa =>
    obtain ⟨a, es, c, h⟩ := h
    refine ⟨a, es, c, ⟨h.lk, h.lv, fun j k e hk he => (h.key j k e hk he).less (.agg fun j x hx => ?_), fun j v e hv he => (h.val j v e hv he).less (hi j v hv)⟩⟩
    rw [List.getElem?_map] at hx
    cases hd : k[j]? with
    | none => rw [hd] at hx; cases hx
    | some d => rw [hd] at hx; cases hx; exact .d
   case mpq =>
    obtain ⟨a, es, c, ks', vs', bs', h, hq⟩ := h
    exact ⟨a, es, c, ks', vs', bs', mapAt_less h (fun j x hx => hi x (hq.mem' (List.mem_of_getElem? hx))), hq⟩
   case itm =>
    obtain ⟨a, bm, c, h⟩ := h
    exact ⟨a, bm, c, h.less (.mp hi)⟩
   case lp =>
    obtain ⟨a, r, c, h⟩ := h
    exact ⟨a, r, c, ⟨h.st, h.pend, h.ps, h.asg, h.body, fun t => (h.env t).less (hi t), h.ok⟩⟩
   all_goals exact cells_less h hi

/-- Fewer marks are counted as given out: those of what is there stay. -/
theorem Rel.fewer [Gl] {S : Nat → Prop} {m : M} (hR : Rel S m) {I : Nat → Nat → Prop} (h1 : ∀ id o, m.h id = some o → I id o.gen) (h2 : ∀ id o, m.h id = some o → RFr I o.cells) : Rel S { m with iss := I } := by
 refine ⟨fun g => (hR.glob g).less ?_, h1, hR.none_, fun id o b base ho ha => ⟨(hR.obj id o b base ho ha).1, (hR.obj id o b base ho ha).2.less (h2 id o ho)⟩, hR.inj, hR.sub⟩
 rcases Gl.ok g with h | ⟨ds, h⟩
 ·rw [h]; exact .any
 ·rw [h]; exact .vref
theorem Evo.less {S : Nat → Prop} {m m' : M} (h : Evo S m m') {I : Nat → Nat → Prop} (h1 : ∀ id g, m.iss id g → I id g) : Evo S m { m' with iss := I } :=
 ⟨h1, h.size, h.shape, h.keepS, h.keep, h.live, h.old, h.rest, h.dfr, h.lps⟩
theorem Rel.rf [Gl] {S : Nat → Prop} {m : M} (hR : Rel S m) {id : Nat} {o : Ob} (h : m.h id = some o) : RFr m.iss o.cells := by
 cases ha : m.at_ id with
 | none =>
  rw [hR.none_ id o h ha]
  intro j x hx
  simp at hx
 | some p => exact (hR.obj id o p.1 p.2 h ha).2.rf

/-- A call to which the memory is handed, told with symbols: hp1 is the memory without them; its result holds no references. -/
theorem handed_entry2 [Gl] {cfg : Cfg} (hN : Pre P cfg) (hm : P.follows .mixedOrders = true) {f : FuncId} {vs vs1 : List V} {K : Nat} {hp1 : Hp} {n c : Nat} {r1 r : Res} (hcall : callR cfg (callF P cfg K) hp1 n c f vs1 = some r1) (ht : Tops hp1 n) (e : EqVs vs vs1) (ev : EqV r1.v r.v) (hnr : ∀ I, RF I r1.v)
  (hrf : ∀ id o, hupd hp1.get r1.wr id = some o → ∃ o0, hp1.get id = some o0 ∧ o0.gen = o.gen ∧ ∀ I, RFr I o0.cells → RFr I o.cells)
  {S : Nat → Prop} {m : M} {xs : List Value} (hi : m.iss = fun _ g => g < c) (hin : ∀ id o, hp1.get id = some o → ∃ q, m.h id = some q ∧ EqOb q o) (hout : ∀ id o, hupd m.h r.wr id = some o → ∃ q, hupd hp1.get r1.wr id = some q ∧ EqOb q o) (hR : Rel S m) (hv : RVs S m vs xs) :
  Calls P f xs.toArray m.w (fun en w' => ∃ x m', en = .returned x ∧ m'.w = w' ∧ After S m c r x m') := by
 obtain ⟨b1, b2⟩ := hR.swap (h' := hp1.get) fun id o ho => by
  obtain ⟨q, hq, he⟩ := hin id o ho
  exact ⟨q, hq, (he S m _).1⟩
 have hv1 : RVs S { m with h := hp1.get } vs1 xs := e.imp ⟨hv.1, fun j a b ha hb => (hv.2 j a b ha hb).mono b2⟩
 refine Calls.mono (callR_sound (m := { m with h := hp1.get }) (callF_ok cfg hN hm K) hcall ht (fun _ _ => rfl) (fun _ => ⟨rfl, hi⟩) (fun id g h1 h2 h3 => by
  have h3 : m.iss id g := h3
  rw [hi] at h3
  exact absurd h3 (by show ¬ g < c; omega)) b1 hv1) ?_
 rintro en w' ⟨x, m0, rfl, rfl, k1, k2, k3, k4, k5⟩
 have k4 : m0.h = hupd hp1.get r1.wr := k4
 -- the marks
 have hI : ∀ id g, m.iss id g → (m.iss id g ∨ (c ≤ g ∧ g < c + r.dc)) := fun _ _ h => .inl h
 have l1 : Rel S { m0 with iss := fun id g => m.iss id g ∨ (c ≤ g ∧ g < c + r.dc) } := by
  refine k1.fewer (fun id o ho => ?_) (fun id o ho => ?_)
  ·rw [k4] at ho
   obtain ⟨o0, h0, hg, _⟩ := hrf id o ho
   rw [← hg]
   exact .inl (b1.iss id o0 h0)
  ·rw [k4] at ho
   obtain ⟨o0, h0, _, hf⟩ := hrf id o ho
   exact hf _ (by
    have q := b1.rf (show ({ m with h := hp1.get } : M).h id = some o0 from h0)
    have q : RFr m.iss o0.cells := q
    exact RFr.mono hI q)
 have l2 : Evo S { m with h := hp1.get } { m0 with iss := fun id g => m.iss id g ∨ (c ≤ g ∧ g < c + r.dc) } := k2.less hI
 obtain ⟨c1, c2⟩ := l1.swap (h' := hupd m.h r.wr) fun id o ho => by
  obtain ⟨q, hq, he⟩ := hout id o ho
  exact ⟨q, by show m0.h id = _; rw [k4]; exact hq, (he S _ _).1⟩
 refine ⟨x, { m0 with h := hupd m.h r.wr, iss := fun id g => m.iss id g ∨ (c ≤ g ∧ g < c + r.dc) }, rfl, rfl, c1, (b2.trans l2).trans c2, (ev _ _ x).1 ((k3.less (hnr _)).mono c2), rfl, rfl⟩

/-- A call to which the memory is handed, as an entry. -/
theorem prim_tab2 [Gl] {cfg : Cfg} (hN : Pre P cfg) (hm : P.follows .mixedOrders = true) {f : FuncId} {g : List V → Option (List Nat × (List (Option Ob) → Nat → Nat → Option Res))} (hb : ∃ fn, P.funcs[f]? = some fn ∧ fn.body.isSome = true)
  (ha : ∀ vs ids k, g vs = some (ids, k) → ∀ obs n c r, k obs n c = some r → r.all = true)
  (hg : ∀ vs ids k, g vs = some (ids, k) → ∀ (hp : Hp) n c r, Tops hp n → k (ids.map hp.get) n c = some r → ∃ K vs1 hp1 r1, callR cfg (callF P cfg K) hp1 n c f vs1 = some r1 ∧ Tops hp1 n ∧ EqVs vs vs1 ∧ EqV r1.v r.v ∧ (∀ I, RF I r1.v) ∧
   (∀ id o, hupd hp1.get r1.wr id = some o → ∃ o0, hp1.get id = some o0 ∧ o0.gen = o.gen ∧ ∀ I, RFr I o0.cells → RFr I o.cells) ∧
   (∀ id o, hp1.get id = some o → ∃ q, hp.get id = some q ∧ EqOb q o) ∧ (∀ id o, hupd hp.get r.wr id = some o → ∃ q, hupd hp1.get r1.wr id = some q ∧ EqOb q o)) : PrimAt P f (.tab g) := by
 refine ⟨hb, fun {S m n c vs xs r} hr hR hf hal hv => ?_⟩
 unfold primV at hr
 simp only at hr
 split at hr
 ·rename_i ids k hgv
  split at hr
  ·rename_i r1 hk
   simp only [Option.some.injEq] at hr; subst hr
   obtain ⟨⟨hp, hh, ht⟩, hi⟩ := hal (show r1.all = true from ha _ _ _ hgv _ _ _ _ hk)
   rw [hh] at hk
   obtain ⟨K, vs1, hp1, r0, h1, h2, h3, h4, h5, h6, h7, h8⟩ := hg vs ids k hgv hp n c r1 ht hk
   have := handed_entry2 hN hm h1 h2 h3 h4 h5 h6 (r := r1) hi (fun id o ho => by rw [hh]; exact h7 id o ho) (fun id o ho => h8 id o (by rw [← hh]; exact ho)) hR hv
   refine Calls.mono this ?_
   rintro en w' ⟨x, m', rfl, rfl, a⟩
   exact ⟨x, m', rfl, rfl, a⟩
  ·cases hr
 ·cases hr
/-- Two memories that hold the same, one told with symbols. -/
def SameH [Gl] (hp hp1 : Hp) : Prop := (∀ id o, hp1.get id = some o → ∃ q, hp.get id = some q ∧ EqOb q o) ∧ (∀ id o, hp.get id = some o → ∃ q, hp1.get id = some q ∧ EqOb q o)
theorem lim_callF [Gl] {cfg : Cfg} {f : FuncId} {vs : List V} {hp : Hp} {n c : Nat} {r : CR} (h : lim P cfg f vs hp n c = some r) : ∃ K, callF P cfg K f vs hp n c = some r := by
 unfold lim at h
 simp only at h
 split at h
 ·rename_i he
  simp only [Option.some.injEq] at h
  have := he.choose_spec
  rw [h] at this
  obtain ⟨K, hK⟩ := this
  exact ⟨K, hK K (Nat.le_refl _)⟩
 ·cases h
/-- A call that looks at memory, and gives data: what an entry must say. -/
structure LookOK [Gl] (P : Program) (cfg : Cfg) (f : FuncId) (vs : List V) (hp : Hp) (n c : Nat) (r : Res) (vs1 : List V) (hp1 : Hp) (v1 : V) : Prop where
 wr : r.wr = []
 al : r.all = true
 q : ∃ h' c', lim P cfg f vs1 hp1 n c = some ⟨v1, h', n, c', []⟩
 cl : closeArgs (if cfg.thr f then noLook else hp1.get) vs1 = none
 top : Tops hp1 n
 args : EqVs vs vs1
 val : EqV v1 r.v
 nr : ∀ I, RF I v1
 mem : SameH hp hp1
theorem prim_look [Gl] {cfg : Cfg} (hN : Pre P cfg) (hm : P.follows .mixedOrders = true) {f : FuncId} {g : List V → Option (List Nat × (List (Option Ob) → Nat → Nat → Option Res))} (hb : ∃ fn, P.funcs[f]? = some fn ∧ fn.body.isSome = true)
  (ha : ∀ vs ids k, g vs = some (ids, k) → ∀ obs n c r, k obs n c = some r → r.all = true)
  (hg : ∀ vs ids k, g vs = some (ids, k) → ∀ (hp : Hp) n c r, Tops hp n → k (ids.map hp.get) n c = some r → ∃ vs1 hp1 v1, LookOK P cfg f vs hp n c r vs1 hp1 v1) : PrimAt P f (.tab g) := by
 refine prim_tab2 hN hm hb ha fun vs ids k h1 hp n c r ht hk => ?_
 obtain ⟨vs1, hp1, v1, h⟩ := hg vs ids k h1 hp n c r ht hk
 obtain ⟨h', c', hq⟩ := h.q
 obtain ⟨K, hK⟩ := lim_callF hq
 refine ⟨K, vs1, hp1, ⟨v1, [], [], 0, c' - c, true⟩, ?_, h.top, h.args, h.val, h.nr, fun id o ho => ⟨o, ho, rfl, fun _ h => h⟩, h.mem.1, ?_⟩
 ·unfold callR
  rw [h.cl]
  simp only [hK, Nat.sub_self]
  rfl
 ·rw [h.wr]
  exact h.mem.2
end Go.Ac
end

section
set_option linter.unusedSectionVars false
namespace Go.Ac
open Go.Proofs
variable [GwR]
/-- The expression of a word's letters; that of its next number. -/
def xW (hd lp : List Bool) : X := ltX m1 (hd ++ lp).length 0 (hd ++ lp)
def yW (hd lp : List Bool) : X := stepX m1 hd.length (hd ++ lp).length
/-- The symbols stand for the parts of a word. -/
structure WR (s : Tx) (hd lp : List Bool) : Prop where
 prs : prsT s = ((hd, lp), 0)
 es : GwR.s = s
 eh : GwR.hd = encT hd
 el : GwR.lp = encT lp
 kd : GwR.kd = (xW hd lp).k
 ty : GwR.ty = (xW hd lp).t
 va : GwR.va = (xW hd lp).v
 ar : GwR.ar = encX (xW hd lp).args
 pn : GwR.pn = ((hd ++ lp).length : Int) - 1
 hn : GwR.hn = (hd.length : Int)
 bit : ∀ t, GwR.bit t = if (hd ++ lp)[kW hd.length lp.length t]? = some true then 1 else 0
 ks : ∀ t, GwR.ks t = (kW hd.length lp.length t : Int)
theorem cl_d (look : Look) (x : D) : close1 look (.d x) = some (.d x, []) := by
 show ofD (toD look depthD (.d x)) = _
 rw [toD_d]; rfl
theorem cl_ds (look : Look) : ∀ l : List D, closeVs (close1 look) (l.map .d) = some (l.map .d, [])
 | [] => rfl
 | x :: r => by simp only [List.map_cons, closeVs, cl_d, cl_ds look r, List.nil_append]
theorem cl_dd (look : Look) (x : D) : close look (.d x) = some (.d x, []) := cl_d look x
theorem EqDs.vs {a b : List D} (h : EqDs a b) : EqVs (a.map .d) (b.map .d) :=
 ⟨by simp [h.1], fun j x y hx hy => by
  rw [List.getElem?_map] at hx hy
  cases ha : a[j]? with
  | none => rw [ha] at hx; cases hx
  | some p =>
   cases hb : b[j]? with
   | none => rw [hb] at hy; cases hy
   | some q =>
    rw [ha] at hx; rw [hb] at hy
    cases hx; cases hy
    exact (h.2 j p q ha hb).v⟩
theorem EqDs.app {a a' b b' : List D} (h : EqDs a a') (hs : EqDs b b') : EqDs (a ++ b) (a' ++ b') :=
 ⟨by simp [h.1, hs.1], fun j x y hx hy => by
  rw [List.getElem?_append] at hx hy
  rw [← h.1] at hy
  split at hx
  ·rename_i hl
   rw [if_pos hl] at hy
   exact h.2 j x y hx hy
  ·rename_i hl
   rw [if_neg hl] at hy
   exact hs.2 _ x y hx hy⟩
theorem EqV.of {x y : D} (h : EqD x y) : EqV (.d x) (.d y) := h.v
theorem cInt_eq {x y : D} (h : EqD x y) : EqDs (cInt x) (cInt y) := .cons (.refl _) (.cons (.refl _) (.cons (.refl _) (.cons h (.cons (.refl _) (.cons (.refl _) .nil)))))
theorem cOp_eq (o : Nat) {a b c d : List D} (h : EqDs a b) (h' : EqDs c d) : EqDs (cOp o a c) (cOp o b d) :=
 .cons (.refl _) (.cons (.refl _) (.cons (.refl _) (.cons (.refl _) (.cons (.refl _) (.cons (EqR.slice (.cons h (.cons h' .nil))) .nil)))))
theorem cIf_eq {a b c d e f : List D} (h : EqDs a b) (h' : EqDs c d) (h'' : EqDs e f) : EqDs (cIf a c e) (cIf b d f) :=
 .cons (.refl _) (.cons (.refl _) (.cons (.refl _) (.cons (.refl _) (.cons (.refl _) (.cons (EqR.slice (.cons h (.cons h' (.cons h'' .nil)))) .nil)))))
theorem stm_eq (k : Nat) (nm : Tx) {a b : List D} (h : EqDs a b) : EqDs (stm k nm a) (stm k nm b) := .app (.app (.refl _) h) (.refl _)
def plW (hd lp : List Bool) : Cl := ⟨[102], [], [⟨[98], 1, []⟩], [], [⟨m1, 2, 0⟩], [], wdY hd lp [98] m1⟩
section
variable {s : Tx} {hd lp : List Bool}
theorem m1_sz : szT m1 ≤ 4 := by decide
theorem WR.len (h : WR s hd lp) : hd.length ≤ 66 ∧ lp.length ≤ 66 ∧ 0 < lp.length := prsT_len h.prs
theorem WR.s66 (h : WR s hd lp) : s.length ≤ 66 := by
 have h1 := h.prs
 unfold prsT at h1
 split at h1
 ·cases h1
 ·omega
theorem WR.x (h : WR s hd lp) (w : Pl) (hm : findM w.c.mems m1 = 2) : XG w 1 (xW hd lp) ∧ (xW hd lp).sz ≤ 5100 := by
 have hl := h.len
 obtain ⟨a, b⟩ := ltX_ok w m1 hm m1_sz (hd ++ lp).length 0 (hd ++ lp) (Nat.le_refl _) (by rw [List.length_append]; omega) (by rw [List.length_append]; omega)
 refine ⟨a, ?_⟩
 unfold xW
 rw [List.length_append] at b
 rw [List.length_append]
 omega
theorem WR.y (h : WR s hd lp) (w : Pl) (hm : findM w.c.mems m1 = 2) : XG w 2 (yW hd lp) ∧ (yW hd lp).sz ≤ 200 := by
 have hl := h.len
 exact stepX_ok w m1 hm m1_sz (by omega) (by rw [List.length_append]; omega) (by rw [List.length_append]; omega)
theorem plW_m (hd lp : List Bool) : findM (plW hd lp).mems m1 = 2 := by
 show findM [⟨m1, 2, 0⟩] m1 = 2
 decide
theorem WR.x' (h : WR s hd lp) : XG ⟨⟨[], []⟩, plW hd lp, [], []⟩ 1 (xW hd lp) ∧ (xW hd lp).sz ≤ 5100 := h.x _ (plW_m hd lp)
theorem WR.y' (h : WR s hd lp) : XG ⟨⟨[], []⟩, plW hd lp, [], []⟩ 2 (yW hd lp) ∧ (yW hd lp).sz ≤ 200 := h.y _ (plW_m hd lp)
theorem WR.row1 (h : WR s hd lp) : EqDs Go.Ac.row1 (xW hd lp).cells := by
 have hg := h.x'.1
 have e : (xW hd lp).cells = [.int .i64 GwR.kd, zi 0, .int .i64 GwR.ty, .int .i64 GwR.va, .str [], .slice GwR.ar] := by
  rw [X.cells_eq, hg.o, hg.nm, h.kd, h.ty, h.va, h.ar]; rfl
 rw [e]
 exact .cons (.sym rfl) (.cons (.refl _) (.cons (.sym rfl) (.cons (.sym rfl) (.cons (.refl _) (.cons (.sym rfl) .nil)))))
theorem yW_cells (h : WR s hd lp) : (yW hd lp).cells = cIf (cOp 11 cSt (cInt (.int .i64 GwR.pn))) (cInt (.int .i64 GwR.hn)) (cOp 6 cSt (cInt (zi 1))) := by
 rw [h.pn, h.hn]
 simp only [yW, stepX, xIf, xOp, xSt, xNum, X.cells, encX]
 rfl
theorem WR.row2 (h : WR s hd lp) : EqDs Go.Ac.row2 (yW hd lp).cells := by
 rw [yW_cells h]
 exact cIf_eq (cOp_eq 11 (.refl _) (cInt_eq (.sym rfl))) (cInt_eq (.sym rfl)) (cOp_eq 6 (.refl _) (cInt_eq (.refl _)))
theorem wdY_enc (hd lp : List Bool) : encY (wdY hd lp [98] m1) = [stm 1 [98] (xW hd lp).cells, stm 2 m1 (yW hd lp).cells] := by
 simp only [wdY, encY, Y.cells, encS, encX, encB, List.map_nil]
 rfl
theorem WR.step (h : WR s hd lp) : EqR [stm 1 [98] Go.Ac.row1, stm 2 m1 Go.Ac.row2] (encY (wdY hd lp [98] m1)) := by
 rw [wdY_enc]
 exact .cons (stm_eq 1 [98] h.row1) (.cons (stm_eq 2 m1 h.row2) .nil)
theorem WR.word (h : WR s hd lp) : EqV (aW hd lp) wordV :=
 EqVs.agg (.cons (EqD.sym (by rw [← h.eh]; rfl)).symm.v (.cons (EqD.sym (by rw [← h.el]; rfl)).symm.v .nil))
theorem row_of {es : List V} {r : List D} (h : isRow es r = true) : es = r.map .d := beqVs_ok _ _ h
/-! ### The entries -/
theorem ent37 (h : WR s hd lp) : ∀ vs v, p37 vs = some v → ∃ vs1 v1, DatOK Tryz.prog Ob.cfg 37 vs v vs1 v1 := by
 intro vs v hv
 unfold p37 at hv
 split at hv
 ·cases hv
  have h1 := parse30 s (by have := h.s66; omega)
  rw [h.prs] at h1
  refine ⟨[dS s], .tuple [aW hd lp, dI 0], h1, ?_, ?_, ?_, ?_⟩
  ·simp only [closeArgs, closeVs, closeA, cl_dd, dS, List.nil_append]
  ·simp only [closeT, closeVs, close, cl_d, cl_dd, aW, dI, List.nil_append]; rfl
  ·exact .cons (EqD.sym (by rw [← h.es]; rfl)).v .nil
  ·exact EqVs.tuple (.cons h.word (.cons (.refl _) .nil))
 ·cases hv
theorem ent86 (h : WR s hd lp) : ∀ vs v, p86 vs = some v → ∃ vs1 v1, DatOK Tryz.prog Ob.cfg 86 vs v vs1 v1 := by
 intro vs v hv
 have hl := h.len
 unfold p86 at hv
 split at hv
 ·cases hv
  have h1 := word58 hd lp [98] m1 (by rw [List.length_append]; omega) (by rw [List.length_append]; omega) (concat_den hd lp (by omega) (by omega))
  refine ⟨_, _, h1, ?_, ?_, ?_, ?_⟩
  ·simp only [closeArgs, closeVs, closeA, close, cl_d, cl_dd, dS, List.nil_append]
  ·simp only [closeT, cl_dd, dL]; rfl
  ·exact .cons h.word.symm (.cons (.refl _) (.cons (.refl _) .nil))
  ·exact (EqR.slice h.step).symm.v
 ·cases hv
theorem isRow_or {es : List V} (h : (isRow es row1 || isRow es row2) = true) : es = row1.map .d ∨ es = row2.map .d := by
 rw [Bool.or_eq_true] at h
 rcases h with h | h
 ·exact .inl (row_of h)
 ·exact .inr (row_of h)
theorem ent355 (h : WR s hd lp) : ∀ vs v, p355 vs = some v → ∃ vs1 v1, DatOK Tryz.prog Ob.cfg 355 vs v vs1 v1 := by
 have key : ∀ (r : List D) (x : X) (w : Pl) (t : Int), EqDs r x.cells → XG w t x → DatOK Tryz.prog Ob.cfg 355 [.agg (r.map .d)] (.d (.bool false)) [aG x.cells] (dB false) := by
  intro r x w t he hg
  have hz : zeroE x = false := by
   unfold zeroE
   rcases hg.k with e | e <;> rw [e] <;> rfl
  refine ⟨?_, ?_, ?_, ?_, ?_⟩
  ·have := empty150 x; rwa [hz] at this
  ·simp only [closeArgs, closeVs, closeA, close, aG, cl_ds, List.nil_append]
  ·simp only [closeT, cl_dd, dB]; rfl
  ·exact .cons (EqVs.agg he.vs) .nil
  ·exact .refl _
 intro vs v hv
 unfold p355 at hv
 split at hv
 ·split at hv
  ·rename_i hr
   cases hv
   rcases isRow_or hr with rfl | rfl
   ·exact ⟨_, _, key _ _ _ _ h.row1 h.x'.1⟩
   ·exact ⟨_, _, key _ _ _ _ h.row2 h.y'.1⟩
  ·cases hv
 ·cases hv
theorem ent418 (h : WR s hd lp) : ∀ vs v, p418 vs = some v → ∃ vs1 v1, DatOK Tryz.prog Ob.cfg 418 vs v vs1 v1 := by
 have key : ∀ (r : List D) (x : X) (w : Pl) (t : Int), EqDs r x.cells → XG w t x → x.sz ≤ 5100 → DatOK Tryz.prog Ob.cfg 418 [.agg (r.map .d)] (.d (.bool true)) [aG x.cells] (dB true) := by
  intro r x w t he hg hs
  refine ⟨?_, ?_, ?_, ?_, ?_⟩
  ·have := object173 (x.sz + 1) x (by omega) (by unfold MX; omega); rwa [hg.form] at this
  ·simp only [closeArgs, closeVs, closeA, close, aG, cl_ds, List.nil_append]
  ·simp only [closeT, cl_dd, dB]; rfl
  ·exact .cons (EqVs.agg he.vs) .nil
  ·exact .refl _
 intro vs v hv
 unfold p418 at hv
 split at hv
 ·split at hv
  ·rename_i hr
   cases hv
   rcases isRow_or hr with rfl | rfl
   ·exact ⟨_, _, key _ _ _ _ h.row1 h.x'.1 h.x'.2⟩
   ·exact ⟨_, _, key _ _ _ _ h.row2 h.y'.1 (by have := h.y'.2; omega)⟩
  ·cases hv
 ·cases hv
theorem map_d {a b : List D} (h : a.map V.d = b.map V.d) : a = b := by
 refine (List.map_inj_right (f := V.d) ?_).1 h
 intro x y e; cases e; rfl
theorem ent130 (h : WR s hd lp) : ∀ vs v, p130 vs = some v → ∃ vs1 v1, DatOK Tryz.prog Ob.cfg 130 vs v vs1 v1 := by
 have key : ∀ (r : List (List D)) (l : List X), EqR r (encX l) → szX l ≤ 5100 → DatOK Tryz.prog Ob.cfg 130 [.d (.slice r)] (.d (.slice r)) [dL (encX l)] (dL (encX l)) := by
  intro r l he hs
  refine ⟨copy122 (szX l + 1) l (by omega) (by omega), ?_, ?_, ?_, ?_⟩
  ·simp only [closeArgs, closeVs, closeA, cl_dd, dL, List.nil_append]
  ·simp only [closeT, cl_dd, dL]; rfl
  ·exact .cons (EqR.slice he).v .nil
  ·exact (EqR.slice he).symm.v
 intro vs v hv
 unfold p130 at hv
 split at hv
 ·split at hv
  ·cases hv
   exact ⟨_, _, key [] [] (by simp only [encX]; exact .nil) (by simp [szX])⟩
  ·rename_i r
   split at hv
   ·rename_i hr
    cases hv
    rw [Bool.or_eq_true] at hr
    rcases hr with hr | hr
    ·have := map_d (beqVs_ok _ _ hr)
     subst this
     exact ⟨_, _, key [Go.Ac.row1] [xW hd lp] (by simp only [encX]; exact .cons h.row1 .nil) (by simp only [szX]; have := h.x'.2; omega)⟩
    ·have := map_d (beqVs_ok _ _ hr)
     subst this
     exact ⟨_, _, key [Go.Ac.row2] [yW hd lp] (by simp only [encX]; exact .cons h.row2 .nil) (by simp only [szX]; have := h.y'.2; omega)⟩
   ·cases hv
  ·cases hv
 ·cases hv
  exact ⟨[.full []], .d (.slice []), den_t 1000 (by kernel_rfl), rfl, by simp only [closeT, cl_dd]; rfl, .refl _, .refl _⟩
 ·cases hv
end
end Go.Ac
end
