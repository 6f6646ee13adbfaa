/- Which operation has a word. -/
import Derived.Test.YtjkcpgkpmklcaaaGreatDoorCwD
set_option linter.unusedVariables false
set_option linter.unusedSimpArgs false
section
set_option maxRecDepth 20000
namespace Go.Ac
open Go.Proofs Go.Lib
theorem d36p (i K : Nat) (h : i < 10) (hK : K = i + 1) : List.drop i (List.take K ([48, 49, 50, 51, 52, 53, 54, 55, 56, 57, 97, 98, 99, 100, 101, 102, 103, 104, 105, 106, 107, 108, 109, 110, 111, 112, 113, 114, 115, 116, 117, 118, 119, 120, 121, 122] : List UInt8)) = decDigits i := by
 have : ∀ i : Fin 10, List.drop i.val (List.take (i.val + 1) ([48, 49, 50, 51, 52, 53, 54, 55, 56, 57, 97, 98, 99, 100, 101, 102, 103, 104, 105, 106, 107, 108, 109, 110, 111, 112, 113, 114, 115, 116, 117, 118, 119, 120, 121, 122] : List UInt8)) = [UInt8.ofNat (48 + i.val)] := by decide +kernel
 rw [hK, decDigits_one h]; exact this ⟨i, h⟩
theorem smp (i S K : Nat) (h1 : ¬ i < 10) (h2 : i < 100) (hS : S = i * 2) (hK : K = i * 2 + 2) : List.drop S (List.take K ([48, 48, 48, 49, 48, 50, 48, 51, 48, 52, 48, 53, 48, 54, 48, 55, 48, 56, 48, 57, 49, 48, 49, 49, 49, 50, 49, 51, 49, 52, 49, 53, 49, 54, 49, 55, 49, 56, 49, 57, 50, 48, 50, 49, 50, 50, 50, 51, 50, 52, 50, 53, 50, 54, 50, 55, 50, 56, 50, 57, 51, 48, 51, 49, 51, 50, 51, 51, 51, 52, 51, 53, 51, 54, 51, 55, 51, 56, 51, 57, 52, 48, 52, 49, 52, 50, 52, 51, 52, 52, 52, 53, 52, 54, 52, 55, 52, 56, 52, 57, 53, 48, 53, 49, 53, 50, 53, 51, 53, 52, 53, 53, 53, 54, 53, 55, 53, 56, 53, 57, 54, 48, 54, 49, 54, 50, 54, 51, 54, 52, 54, 53, 54, 54, 54, 55, 54, 56, 54, 57, 55, 48, 55, 49, 55, 50, 55, 51, 55, 52, 55, 53, 55, 54, 55, 55, 55, 56, 55, 57, 56, 48, 56, 49, 56, 50, 56, 51, 56, 52, 56, 53, 56, 54, 56, 55, 56, 56, 56, 57, 57, 48, 57, 49, 57, 50, 57, 51, 57, 52, 57, 53, 57, 54, 57, 55, 57, 56, 57, 57] : List UInt8)) = decDigits i := by
 have : ∀ i : Fin 100, List.drop (i.val * 2) (List.take (i.val * 2 + 2) ([48, 48, 48, 49, 48, 50, 48, 51, 48, 52, 48, 53, 48, 54, 48, 55, 48, 56, 48, 57, 49, 48, 49, 49, 49, 50, 49, 51, 49, 52, 49, 53, 49, 54, 49, 55, 49, 56, 49, 57, 50, 48, 50, 49, 50, 50, 50, 51, 50, 52, 50, 53, 50, 54, 50, 55, 50, 56, 50, 57, 51, 48, 51, 49, 51, 50, 51, 51, 51, 52, 51, 53, 51, 54, 51, 55, 51, 56, 51, 57, 52, 48, 52, 49, 52, 50, 52, 51, 52, 52, 52, 53, 52, 54, 52, 55, 52, 56, 52, 57, 53, 48, 53, 49, 53, 50, 53, 51, 53, 52, 53, 53, 53, 54, 53, 55, 53, 56, 53, 57, 54, 48, 54, 49, 54, 50, 54, 51, 54, 52, 54, 53, 54, 54, 54, 55, 54, 56, 54, 57, 55, 48, 55, 49, 55, 50, 55, 51, 55, 52, 55, 53, 55, 54, 55, 55, 55, 56, 55, 57, 56, 48, 56, 49, 56, 50, 56, 51, 56, 52, 56, 53, 56, 54, 56, 55, 56, 56, 56, 57, 57, 48, 57, 49, 57, 50, 57, 51, 57, 52, 57, 53, 57, 54, 57, 55, 57, 56, 57, 57] : List UInt8)) = [UInt8.ofNat (48 + i.val / 10), UInt8.ofNat (48 + i.val % 10)] := by decide +kernel
 rw [hS, hK, decDigits_two h1 h2]; exact this ⟨i, h2⟩
theorem small77 (i : Nat) (h : i < 100) : den Tryz.prog Cp.cfg 77 [dI i] = some (dS (decDigits i)) := by
 refine den_wp Tryz.func77 rfl (by kernel_rfl) rfl rfl ?_
 by_cases h1 : i < 10
 ·obtain ⟨K, hK⟩ : ∃ K, K = i + 1 := ⟨_, rfl⟩
  have w1 : IntKind.i64.wrap ((i : Int) + 1) = (K : Int) := by rw [w_id'] <;> omega
  have c1 : ((i : Int) < 10) = True := eq_true (by omega)
  have c2 : (i ≤ K) = True := eq_true (by omega)
  have c3 : (K ≤ 36) = True := eq_true (by omega)
  have hp := d36p i K h1 hK
  refine wkc (jn @envOf.eq_1 (jn @envOf.eq_2 (jn @dI.eq_1 (jn @w1 (jn @c1 (jn @c2 (jn @c3 (jn @hp (jn @sliceV.eq_def @bnd.eq_def))))))))) ?_
  show retQ _ _ _ _ _
  exact ⟨.inr rfl, _, _, rfl, rfl⟩
 ·obtain ⟨S, hS⟩ : ∃ S, S = i * 2 := ⟨_, rfl⟩
  obtain ⟨K, hK⟩ : ∃ K, K = i * 2 + 2 := ⟨_, rfl⟩
  have w1 : IntKind.i64.wrap ((i : Int) * 2) = (S : Int) := by rw [w_id'] <;> omega
  have w2 : IntKind.i64.wrap ((S : Int) + 2) = (K : Int) := by rw [w_id'] <;> omega
  have c1 : ((i : Int) < 10) = False := eq_false (by omega)
  have c2 : (S ≤ K) = True := eq_true (by omega)
  have c3 : (K ≤ 200) = True := eq_true (by omega)
  have hp := smp i S K h1 h hS hK
  refine wkc (jn @envOf.eq_1 (jn @envOf.eq_2 (jn @dI.eq_1 (jn @w1 (jn @w2 (jn @c1 (jn @c2 (jn @c3 (jn @hp (jn @sliceV.eq_def @bnd.eq_def)))))))))) ?_
  show retQ _ _ _ _ _
  exact ⟨.inr rfl, _, _, rfl, rfl⟩
theorem pow_tab (q : Nat) (h : q < 20) : List.drop q pow10Tab = D.int .u64 ((10 ^ q : Nat) : Int) :: List.drop (q + 1) pow10Tab := by
 have hl : pow10Tab.length = 20 := rfl
 have h2 : pow10Tab[q]? = some (D.int .u64 ((10 ^ q : Nat) : Int)) := by
  match q, h with
  | 0, _ => rfl
  | 1, _ => rfl
  | 2, _ => rfl
  | 3, _ => rfl
  | 4, _ => rfl
  | 5, _ => rfl
  | 6, _ => rfl
  | 7, _ => rfl
  | 8, _ => rfl
  | 9, _ => rfl
  | 10, _ => rfl
  | 11, _ => rfl
  | 12, _ => rfl
  | 13, _ => rfl
  | 14, _ => rfl
  | 15, _ => rfl
  | 16, _ => rfl
  | 17, _ => rfl
  | 18, _ => rfl
  | 19, _ => rfl
  | q + 20, h => exact absurd h (by omega)
 rw [List.drop_eq_getElem_cons (by omega)]
 congr 1
 rw [List.getElem?_eq_getElem (by omega)] at h2
 exact Option.some.inj h2
theorem digits78 (u : Nat) (h1 : 1 ≤ u) (h : u < 4294967296) : den Tryz.prog Cp.cfg 78 [.d (.int .u64 u)] = some (dI (nDigits u : Nat)) := by
 have hb := len98 u h
 obtain ⟨b, hbe⟩ : ∃ b, b = Lib.bitLen u := ⟨_, rfl⟩
 have hbl := bl_le u (by omega)
 have hl := log97 b (by omega)
 obtain ⟨hn, hq⟩ := numDigits_eq u h1 (by omega)
 rw [← hbe] at hb hn hq
 obtain ⟨q, hqe⟩ : ∃ q, q = l10 b := ⟨_, rfl⟩
 rw [← hqe] at hl hn hq
 have ht := pow_tab q (by omega)
 have hx : idx (q : Int) 20 = some q := idx_lt (by omega)
 obtain ⟨p, hp⟩ : ∃ p, p = 10 ^ q := ⟨_, rfl⟩
 rw [← hp] at ht hn
 have hbo := bool99 (decide (p ≤ u))
 have hw : IntKind.i64.wrap ((q : Int) + (if decide (p ≤ u) = true then 1 else 0)) = (nDigits u : Nat) := by
  rw [← hn]
  by_cases hc : p ≤ u
  ·rw [if_pos hc, if_pos (decide_eq_true hc), w_id'] <;> omega
  ·rw [if_neg hc, if_neg (by simpa using hc), w_id'] <;> omega
 obtain ⟨bv, hbv⟩ : ∃ bv : Int, bv = (if decide (p ≤ u) = true then 1 else 0) := ⟨_, rfl⟩
 rw [← hbv] at hbo hw
 simp only [dI, dB] at hb hl hbo
 refine den_wp Tryz.func78 rfl (by kernel_rfl) rfl rfl ?_
 refine wkc (jn @envOf.eq_1 (jn @envOf.eq_2 (jn @dI.eq_1 (jn @hb (jn @hl (jn @ht (jn @hx (jn @hbo (jn @hw (jn @ti140 @ti111)))))))))) ?_
 show retQ _ _ _ _ _
 exact ⟨.inr rfl, _, _, rfl, rfl⟩
end Go.Ac
end

section
set_option maxRecDepth 20000
namespace Go.Ac
open Go.Proofs Go.Lib
attribute [local simp] Hp.get_set

/-- A call that is handed a list of bytes to append to, and hands it back longer. -/
def ApK (f : FuncId) (vs : List V) (hp : Hp) (n c id : Nat) (bs : List V) : Prop :=
 ∃ q c2, lim Tryz.prog Cp.cfg f vs hp n c = some q ∧ q.v = .osl id c2 0 bs.length 1 none ∧ n ≤ q.n ∧ WI [id] n hp q.wl q.hp ∧ q.hp.get id = some ⟨c2, false, bs⟩
def apQ (fn : Func) (hp : Hp) (n id : Nat) (bs : List V) (e : Ex) (t : St) : Prop :=
 (e = .normal ∨ e = .ret) ∧ ∃ rs c2, resultsV Tryz.prog t fn.results.toList = some rs ∧ tup rs = .osl id c2 0 bs.length 1 none ∧ n ≤ t.n ∧ WI [id] n hp t.wl t.hp ∧ t.hp.get id = some ⟨c2, false, bs⟩
theorem ap_wp {f : FuncId} {fn : Func} {body : Code} {vs : List V} {hp : Hp} {n c id : Nat} {bs : List V} (hf : Tryz.prog.funcs[f]? = some fn) (hb : fn.body = some body) (hok : (Nat.ble vs.length fn.ntmps && codeOK fn.ntmps body) = true)
  (hthr : Cp.cfg.thr f = true) (h : WP Tryz.prog Cp.cfg f body ⟨envOf 0 vs, hp, n, c, n, []⟩ (apQ fn hp n id bs)) : ApK f vs hp n c id bs := by
 obtain ⟨w, t, h1, c2, h2⟩ := lim_wp (Q := fun w t => ∃ c2, w = .osl id c2 0 bs.length 1 none ∧ n ≤ t.n ∧ WI [id] n hp t.wl t.hp ∧ t.hp.get id = some ⟨c2, false, bs⟩) hf hb hok (h.mono fun e t ⟨he, rs, c2, a1, a2, a3, a4, a5⟩ => ⟨he, rs, a1, .inl hthr, c2, a2, a3, a4, a5⟩)
 exact ⟨_, c2, h1, h2⟩
theorem ApK.caller {f : FuncId} {vs : List V} {hp : Hp} {n c id : Nat} {bs : List V} (h : ApK f vs hp n c id bs) (hid : id < n) :
  ∃ q c2, lim Tryz.prog Cp.cfg f vs hp n c = some q ∧ q.v = .osl id c2 0 bs.length 1 none ∧ n ≤ q.n ∧ (∀ k, k ∈ (tWr q n).map (·.1) → k < n + (q.n - n)) ∧ (∀ k, k ∈ (tWr q n).map (·.1) → k ∈ [id] ∨ n ≤ k) ∧
   (∀ j, j < n → j ≠ id → (hp.sets (tWr q n)).get j = hp.get j) ∧ (hp.sets (tWr q n)).get id = some ⟨c2, false, bs⟩ := by
 obtain ⟨q, c2, h1, h2, h3, h4, h5⟩ := h
 have hids : ∀ j, j ∈ [id] → j < n := fun j hj => by simp at hj; omega
 refine ⟨q, c2, h1, h2, h3, fun k hk => by have := (tWr_keys h3 h4 hids hk).2; omega, fun k hk => (tWr_keys h3 h4 hids hk).1, fun j hj hn => tWr_old h4 hj (by simpa using hn), ?_⟩
 rw [tWr_same h4 (by omega) (by rw [h5]; rfl), h5]
theorem strRow_len (l : List UInt8) : (strRow l).length = l.length := by simp [strRow]
theorem z5_eq : zOf 5 = some [V.d (.int .u8 0)] := by kernel_rfl
theorem z122_eq : zOf 122 = some (List.replicate 24 (V.d (.int .u8 0))) := by kernel_rfl
section
variable {hp : Hp} {n c id g u : Nat} {bs : List V}
set_option maxHeartbeats 8000000 in
theorem appU66 (hu : u < 4294967296) (hid : id < n) (hget : hp.get id = some ⟨g, false, bs⟩) (hb : bs.length ≤ 100000000) : ApK 66 [.osl id g 0 bs.length 1 none, .d (.int .u64 u), dI 10] hp n c id (bs ++ strRow (decDigits u)) := by
 have hle : (decDigits u).length ≤ 10 := by rw [decDigits_length]; exact nDigits_le 9 u (by omega)
 have f1 : (id < n) = True := eq_true hid
 have f2 : (n = id) = False := eq_false (by omega)
 refine ap_wp Tryz.func66 rfl (by kernel_rfl) rfl ?_
 by_cases h1 : u < 100
 ·have hs := small77 u h1
  simp only [dS, dI] at hs
  have c1 : ((u : Int) < 100) = True := eq_true (by omega)
  have w1 : IntKind.i64.wrap (u : Int) = (u : Int) := by rw [w_id'] <;> omega
  have hfit : fitsB (bs.length + (decDigits u).length) 1 = true := by simp [fitsB]; omega
  refine wkcekt (jn @envOf.eq_1 (jn @envOf.eq_2 (jn @dI.eq_1 (jn @c1 (jn @w1 (jn @hs (jn @hget (jn @nble_d (jn @hfit (jn @ti50 (jn @ti9 (jn @ti111 @f1)))))))))))) ?_
  show apQ _ _ _ _ _ _ _
  refine ⟨.inr rfl, _, c, rfl, ?_, Nat.le_refl _, WI.refl.set (k := id) (.inl (by simp)), ?_⟩
  ·show V.osl id c 0 (bs.length + (decDigits u).length) 1 none = _
   rw [List.length_append, strRow_len]
  ·show (Hp.set _ _ _).get id = _
   rw [Hp.get_set_self]; rfl
 ·have c1 : ((u : Int) < 100) = False := eq_false (by omega)
  have hd := digits78 u (by omega) hu
  have hup := lt_pow_nDigits u
  have hpd := padV_dec u
  rw [decDigits_length] at hle
  have hN1 := nDigits_pos u
  obtain ⟨N, hN⟩ : ∃ N, N = nDigits u := ⟨_, rfl⟩
  rw [← hN] at hd hup hle hN1 hpd
  simp only [dI] at hd
  have g1 : (N ≤ 24) = True := eq_true (by omega)
  have hfit : fitsB (bs.length + N) 1 = true := by simp [fitsB]; omega
  refine wkcekt (jn @envOf.eq_1 (jn @envOf.eq_2 (jn @dI.eq_1 (jn @c1 (jn @hd (jn @ti50 (jn @ti122 (jn @ti111 (jn @f1 @z122_eq))))))))) ?_
  apply WP.gen
  intro hp1 wl1 h1 h2
  have k0 : hp1.get n = some ⟨c, false, [] ++ (List.replicate N (V.d (.int .u8 0)) ++ List.replicate (24 - N) (V.d (.int .u8 0)))⟩ := by
   rw [h1, List.nil_append, List.replicate_append_replicate, show N + (24 - N) = 24 by omega]
   simp [Hp.get_set, f2]
  have k1 : hp1.get id = some ⟨g, false, bs⟩ := by rw [h1]; simp [Hp.get_set, f2, hget]
  have k2 : ∃ cs, hp1.get n = some ⟨c, false, cs⟩ ∧ cs.length = 24 := ⟨_, k0, by simp; omega⟩
  have w1 : WI [id] n hp wl1 hp1 := by rw [h1, h2]; exact WI.refl.set (k := n) (.inr (Nat.le_refl _))
  obtain ⟨cs, k2, k3⟩ := k2
  clear h1 h2
  obtain ⟨r0, hT1, hv, hn, hT2, hki, hfr, hpz, hz, hsame⟩ := (fmt79 (hp := hp1) (n := n + 1) (c := c + 1) (id := n) (g := c) (off := 0) (nd := N) (u := u) (cap := some 24) (A := []) rfl (by simp) (by omega) hN1 hup (by omega) k0).caller (by intro j hj; simp at hj; omega)
  have e1 := hsame n (by omega) (by rw [hz]; rfl)
  rw [hz, List.nil_append] at e1
  obtain ⟨Z, hZ⟩ : ∃ Z, Z = padV N u ++ List.replicate (24 - N) (V.d (.int .u8 0)) := ⟨_, rfl⟩
  rw [← hZ] at e1
  have hZt : List.take N Z = strRow (decDigits u) := by rw [hZ, List.take_left' (padV_len N u), hpd]
  have hZl : (N ≤ 24) = True := eq_true (by omega)
  have hZ24 : Z.length = 24 := by rw [hZ]; simp [padV_len]; omega
  have e2 := hfr id (by omega) (by simp; omega)
  rw [k1] at e2
  have f3 : (id < n + 1) = True := eq_true (by omega)
  obtain ⟨dd, hdd⟩ : ∃ dd, dd = strRow (decDigits u) := ⟨_, rfl⟩
  rw [← hdd] at hZt ⊢
  have hdl : dd.length = N := by rw [hdd, strRow_len, decDigits_length, hN]
  refine wkcekt (jn @dI.eq_1 (jn @k2 (jn @k3 (jn @hv (jn @hn (jn @sliceV.eq_def (jn @bnd.eq_def (jn @g1 (jn @ti50 (jn @ti122 (jn @e1 (jn @e2 (jn @hZt (jn @hZl (jn @nble_d (jn @hfit (jn @f1 (jn @f3 @hZ24)))))))))))))))))) ?_
  show apQ _ _ _ _ _ _ _
  refine ⟨.inr rfl, _, c + 1 + (r0.c - (c + 1)), rfl, ?_, Nat.le_succ n, (w1.sets (wr := tWr r0 (n + 1)) fun p hp => ?_).set (k := id) (.inl (by simp)), ?_⟩
  ·show V.osl id _ 0 (bs.length + N) 1 none = _
   rw [List.length_append, hdl]
  ·have := hki p.1 (List.mem_map_of_mem hp)
   simp at this; right; omega
  ·show (Hp.set _ _ _).get id = _
   rw [Hp.get_set_self]
theorem u64i {i : Int} (h : NumOK i) (h0 : 0 ≤ i) : IntKind.u64.wrap i = (i.toNat : Int) := by
 obtain ⟨h1, h2⟩ := h
 rw [u64w] <;> omega
theorem u64n {i : Int} (h : NumOK i) (h0 : i < 0) : IntKind.u64.wrap (-(IntKind.u64.wrap i)) = (i.natAbs : Int) := by
 obtain ⟨h1, h2⟩ := h
 have e : IntKind.u64.wrap i = i + 18446744073709551616 := by
  simp [IntKind.wrap, IntKind.signed, IntKind.bits]; omega
 rw [e]
 simp [IntKind.wrap, IntKind.signed, IntKind.bits]; omega
set_option maxHeartbeats 8000000 in
theorem appI49 {i : Int} (hi : NumOK i) (hid : id < n) (hget : hp.get id = some ⟨g, false, bs⟩) (hb : bs.length ≤ 10000000) : ApK 49 [.osl id g 0 bs.length 1 none, dI i, dI 10] hp n c id (bs ++ strRow (dg i)) := by
 have f1 : (id < n) = True := eq_true hid
 have f2 : (n = id) = False := eq_false (by omega)
 have f3 : (id < n + 1) = True := eq_true (by omega)
 refine ap_wp Tryz.func49 rfl (by kernel_rfl) rfl ?_
 by_cases h0 : i < 0
 ·have c0 : (i < 0) = True := eq_true h0
  have hw := u64n hi h0
  have hfit : fitsB (bs.length + 1) 1 = true := by simp [fitsB]; omega
  refine wkcekt (jn @envOf.eq_1 (jn @envOf.eq_2 (jn @dI.eq_1 (jn @c0 (jn @hw (jn @hget (jn @nble_d (jn @hfit (jn @ti50 (jn @ti5 (jn @ti2 (jn @ti111 (jn @f1 (jn @f2 (jn @f3 (jn @fillV.eq_1 (jn @fillV.eq_2 (jn @Value.oneCell'.eq_def (jn @z5_eq (jn @closeParts.eq_1 (jn @closeParts.eq_2 @cl2.eq_def))))))))))))))))))))) ?_
  apply WP.gen
  intro hp1 wl1 h1 h2
  have k1 : hp1.get id = some ⟨c + 1, false, bs ++ [V.d (.int .u8 45)]⟩ := by rw [h1]; simp [Hp.get_set, f2]
  have w1 : WI [id] n hp wl1 hp1 := by rw [h1, h2]; exact (WI.refl.set (k := n) (.inr (Nat.le_refl _))).set (k := id) (.inl (by simp))
  clear h1 h2
  obtain ⟨bs1, hbs1⟩ : ∃ b, b = bs ++ [V.d (.int .u8 45)] := ⟨_, rfl⟩
  rw [← hbs1] at k1
  have hb1 : bs.length + 1 = bs1.length := by rw [hbs1]; simp
  rw [hb1]
  obtain ⟨r0, c2, hT1, hv, hn, hT2, hki, hfr, hz⟩ := (appU66 (u := i.natAbs) (c := c + 1 + 1) (n := n + 1) (by obtain ⟨_, _⟩ := hi; omega) (by omega) k1 (by omega)).caller (by omega)
  simp only [dI] at hT1
  refine wkcekt (jn @dI.eq_1 @hv) ?_
  show apQ _ _ _ _ _ _ _
  have he : bs1 ++ strRow (decDigits i.natAbs) = bs ++ strRow (dg i) := by
   rw [hbs1, List.append_assoc]
   congr 1
   unfold dg itoa
   rw [if_pos h0]; rfl
  rw [he] at hz
  refine ⟨.inr rfl, _, c2, rfl, ?_, ?_, (w1.sets (wr := tWr r0 (n + 1)) fun p hp => ?_), ?_⟩
  ·show V.osl id c2 0 (bs1.length + (decDigits i.natAbs).length) 1 none = _
   rw [← he, List.length_append, strRow_len]
  ·show n ≤ n + 1 + (r0.n - (n + 1))
   omega
  ·have := hki p.1 (List.mem_map_of_mem hp)
   simp at this
   rcases this with h | h
   ·exact .inl (by simp [h])
   ·right; omega
  ·exact hz
 ·have c0 : (i < 0) = False := eq_false h0
  have hw := u64i hi (by omega)
  refine wkcekt (jn @envOf.eq_1 (jn @envOf.eq_2 (jn @dI.eq_1 (jn @c0 (jn @hw (jn @ti2 @ti111)))))) ?_
  obtain ⟨r0, c2, hT1, hv, hn, hT2, hki, hfr, hz⟩ := (appU66 (u := i.toNat) (c := c) (by obtain ⟨_, _⟩ := hi; omega) hid hget (by omega)).caller hid
  simp only [dI] at hT1
  refine wkcekt (jn @dI.eq_1 @hv) ?_
  have he : strRow (decDigits i.toNat) = strRow (dg i) := by
   unfold dg itoa
   rw [if_neg h0]
  rw [he] at hz
  refine ⟨.inr rfl, _, c2, rfl, ?_, ?_, (WI.refl.sets (wr := tWr r0 n) fun p hp => ?_), hz⟩
  ·show V.osl id c2 0 (bs.length + (decDigits i.toNat).length) 1 none = _
   rw [← he, List.length_append, strRow_len]
  ·show n ≤ n + (r0.n - n)
   omega
  ·have := hki p.1 (List.mem_map_of_mem hp)
   simpa using this
set_option maxHeartbeats 4000000 in
theorem appI31 {i : Int} (hi : NumOK i) (hid : id < n) (hget : hp.get id = some ⟨g, false, bs⟩) (hb : bs.length ≤ 10000000) : ApK 31 [.osl id g 0 bs.length 1 none, dI i, dI 10] hp n c id (bs ++ strRow (dg i)) := by
 refine ap_wp Tryz.func31 rfl (by kernel_rfl) rfl ?_
 obtain ⟨r0, c2, hT1, hv, hn, hT2, hki, hfr, hz⟩ := (appI49 (c := c) hi hid hget hb).caller hid
 simp only [dI] at hT1
 refine wkcekt (jn @envOf.eq_1 (jn @envOf.eq_2 (jn @dI.eq_1 @hv))) ?_
 refine ⟨.inr rfl, _, c2, rfl, ?_, ?_, (WI.refl.sets (wr := tWr r0 n) fun p hp => ?_), hz⟩
 ·show V.osl id c2 0 (bs.length + (dg i).length) 1 none = _
  rw [List.length_append, strRow_len]
 ·show n ≤ n + (r0.n - n)
  omega
 ·have := hki p.1 (List.mem_map_of_mem hp)
  simpa using this
end
end Go.Ac
end

section
set_option maxRecDepth 20000
namespace Go.Ac
open Go.Proofs Go.Lib
attribute [local simp] Hp.get_set
theorem conv_bs {look : Look} {a b c d : Nat} {z z' : Option (List V)} {x : V} : convL Tryz.prog look ⟨.slice 5 1 1, a, b, z⟩ ⟨.str, c, d, z'⟩ x = bytesV Tryz.prog look 5 1 x := rfl
theorem conv_sb {look : Look} {a b c d : Nat} {z z' : Option (List V)} {x : V} : convL Tryz.prog look ⟨.str, c, d, z'⟩ ⟨.slice 5 1 1, a, b, z⟩ x = strBytes Tryz.prog 5 1 x := rfl
theorem toBytes_row : ∀ l : List UInt8, toBytes (strRow l) = some l
 | [] => rfl
 | b :: r => by
  have := toBytes_row r
  unfold strRow at this ⊢
  simp only [List.map_cons, toBytes, byteV, this]
  congr 2
  simp
theorem toBytes_cons (l : List UInt8) : toBytes (V.d (.int .u8 45) :: strRow l) = some (45 :: l) := toBytes_row (45 :: l)
set_option maxHeartbeats 8000000 in
theorem format91 {i : Int} (hi : NumOK i) : den Tryz.prog Cp.cfg 91 [dI i, dI 10] = some (dS (dg i)) := by
 refine den_wp Tryz.func91 rfl (by kernel_rfl) rfl rfl ?_
 by_cases h1 : 0 ≤ i ∧ i < 100
 ·have hs := small77 i.toNat (by omega)
  rw [show ((i.toNat : Nat) : Int) = i by omega] at hs
  simp only [dS, dI] at hs
  have c1 : (0 ≤ i) = True := eq_true h1.1
  have c2 : (i < 100) = True := eq_true h1.2
  have he : dg i = decDigits i.toNat := by unfold dg itoa; rw [if_neg (by omega)]
  rw [he]
  refine wkckt (jn @envOf.eq_1 (jn @envOf.eq_2 (jn @dI.eq_1 (jn @c1 (jn @c2 @hs))))) ?_
  show retQ _ _ _ _ _
  exact ⟨.inr rfl, _, _, rfl, rfl⟩
 ·obtain ⟨u, hu⟩ : ∃ u, u = i.natAbs := ⟨_, rfl⟩
  have hub : u < 4294967296 := by obtain ⟨_, _⟩ := hi; omega
  have hu1 : 1 ≤ u := by omega
  have hd := digits78 u hu1 hub
  have hup := lt_pow_nDigits u
  have hpd := padV_dec u
  have hle : nDigits u ≤ 10 := nDigits_le 9 u (by omega)
  have hN1 := nDigits_pos u
  have hdl := decDigits_length u
  obtain ⟨N, hN⟩ : ∃ N, N = nDigits u := ⟨_, rfl⟩
  rw [← hN] at hd hup hle hN1 hpd hdl
  simp only [dI] at hd
  obtain ⟨M, hM⟩ : ∃ M, M = 1 + N := ⟨_, rfl⟩
  have wM : IntKind.i64.wrap (1 + (N : Int)) = (M : Int) := by rw [w_id'] <;> omega
  have g1 : (1 ≤ M) = True := eq_true (by omega)
  have g2 : (M ≤ 24) = True := eq_true (by omega)
  have g3 : M - 1 = N := by omega
  have hX : [] ++ (List.replicate 1 (V.d (.int .u8 0)) ++ (List.replicate N (V.d (.int .u8 0)) ++ List.replicate (23 - N) (V.d (.int .u8 0)))) = List.replicate 24 (V.d (.int .u8 0)) := by
   rw [List.replicate_append_replicate, List.nil_append, List.replicate_append_replicate]; congr 1; omega
  by_cases h0 : i < 0
  ·have c1 : (0 ≤ i) = False := eq_false (by omega)
   have c3 : (i < 0) = True := eq_true h0
   have hw := u64n hi h0
   rw [← hu] at hw
   refine wkcekt (jn @envOf.eq_1 (jn @envOf.eq_2 (jn @dI.eq_1 (jn @c1 (jn @c3 (jn @hw (jn @hd (jn @z122_eq (jn @ti2 (jn @ti111 @ti122)))))))))) ?_
   apply WP.gen
   intro hp1 wl1 h1' h2'
   have k0 : hp1.get 0 = some ⟨0, false, [V.d (.int .u8 0)] ++ (List.replicate N (V.d (.int .u8 0)) ++ List.replicate (23 - N) (V.d (.int .u8 0)))⟩ := by
    rw [h1']
    exact congrArg (fun l => some (Ob.mk 0 false l)) hX.symm
   have k2 : ∃ cs, hp1.get 0 = some ⟨0, false, cs⟩ ∧ cs.length = 24 := ⟨_, k0, by simp; omega⟩
   obtain ⟨cs, k2, k3⟩ := k2
   clear h1' h2'
   obtain ⟨r0, hT1, hv, hn, hT2, hki, hfr, hpz, hz, hsame⟩ := (fmt79 (hp := hp1) (n := 1) (c := 1) (id := 0) (g := 0) (off := 1) (nd := N) (u := u) (cap := some 23) (A := [V.d (.int .u8 0)]) rfl (by simp) (by omega) hN1 hup (by omega) k0).caller (by intro j hj; simp at hj; omega)
   have e1 := hsame 0 (by omega) (by rw [hz]; rfl)
   rw [hz] at e1
   obtain ⟨Z, hZ⟩ : ∃ Z, Z = [V.d (.int .u8 0)] ++ (padV N u ++ List.replicate (23 - N) (V.d (.int .u8 0))) := ⟨_, rfl⟩
   rw [← hZ] at e1
   have hZ24 : Z.length = 24 := by rw [hZ]; simp [padV_len]; omega
   obtain ⟨Z2, hZ2⟩ : ∃ Z2, Z2 = V.d (.int .u8 45) :: Z.tail := ⟨_, rfl⟩
   have hZ2l : Z2.length = 24 := by rw [hZ2, List.length_cons, List.length_tail, hZ24]
   have hZ2t : List.take M Z2 = V.d (.int .u8 45) :: strRow (decDigits u) := by
    rw [hZ2, hZ, hM, Nat.add_comm 1 N, List.take_succ_cons, ← hpd]
    congr 1
    exact List.take_left' (padV_len N u)
   have hby := toBytes_cons (decDigits u)
   have he : dg i = 45 :: decDigits u := by unfold dg itoa; rw [if_pos h0, hu]
   rw [he]
   have hZ2' := hZ2.symm
   obtain ⟨R, hR⟩ : ∃ R, R = strRow (decDigits u) := ⟨_, rfl⟩
   rw [← hR] at hZ2t hby
   refine wkcekt (jn @dI.eq_1 (jn @c3 (jn @k2 (jn @k3 (jn @hv (jn @hn (jn @sliceV.eq_def (jn @bnd.eq_def (jn @wM (jn @g1 (jn @g2 (jn @g3 (jn @ti50 (jn @ti122 (jn @ti5 (jn @e1 (jn @hZ24 (jn @hZ2' (jn @hZ2l (jn @hZ2t (jn @hby (jn @bytesV.eq_def (jn @conv_bs @nble_d))))))))))))))))))))))) ?_
   show retQ _ _ _ _ _
   exact ⟨.inr rfl, _, _, rfl, rfl⟩
  ·have c1 : (0 ≤ i) = True := eq_true (by omega)
   have c2 : (i < 100) = False := eq_false (by omega)
   have c3 : (i < 0) = False := eq_false h0
   have hw := u64i hi (by omega)
   rw [show i.toNat = u by omega] at hw
   refine wkcekt (jn @envOf.eq_1 (jn @envOf.eq_2 (jn @dI.eq_1 (jn @c1 (jn @c2 (jn @c3 (jn @hw (jn @hd (jn @z122_eq (jn @ti2 (jn @ti111 @ti122))))))))))) ?_
   apply WP.gen
   intro hp1 wl1 h1' h2'
   have k0 : hp1.get 0 = some ⟨0, false, [V.d (.int .u8 0)] ++ (List.replicate N (V.d (.int .u8 0)) ++ List.replicate (23 - N) (V.d (.int .u8 0)))⟩ := by
    rw [h1']
    exact congrArg (fun l => some (Ob.mk 0 false l)) hX.symm
   have k2 : ∃ cs, hp1.get 0 = some ⟨0, false, cs⟩ ∧ cs.length = 24 := ⟨_, k0, by simp; omega⟩
   obtain ⟨cs, k2, k3⟩ := k2
   clear h1' h2'
   obtain ⟨r0, hT1, hv, hn, hT2, hki, hfr, hpz, hz, hsame⟩ := (fmt79 (hp := hp1) (n := 1) (c := 1) (id := 0) (g := 0) (off := 1) (nd := N) (u := u) (cap := some 23) (A := [V.d (.int .u8 0)]) rfl (by simp) (by omega) hN1 hup (by omega) k0).caller (by intro j hj; simp at hj; omega)
   have e1 := hsame 0 (by omega) (by rw [hz]; rfl)
   rw [hz] at e1
   obtain ⟨Z, hZ⟩ : ∃ Z, Z = [V.d (.int .u8 0)] ++ (padV N u ++ List.replicate (23 - N) (V.d (.int .u8 0))) := ⟨_, rfl⟩
   rw [← hZ] at e1
   have hZ24 : Z.length = 24 := by rw [hZ]; simp [padV_len]; omega
   have hZt : List.take N Z.tail = strRow (decDigits u) := by
    rw [hZ, ← hpd]
    exact List.take_left' (padV_len N u)
   have hby := toBytes_row (decDigits u)
   have he : dg i = decDigits u := by unfold dg itoa; rw [if_neg h0]; congr 1; omega
   rw [he]
   obtain ⟨R, hR⟩ : ∃ R, R = strRow (decDigits u) := ⟨_, rfl⟩
   rw [← hR] at hZt hby
   have g4 : (1 + N ≤ 24) = True := eq_true (by omega)
   refine wkcekt (jn @dI.eq_1 (jn @c3 (jn @k2 (jn @k3 (jn @hv (jn @hn (jn @sliceV.eq_def (jn @bnd.eq_def (jn @wM (jn @g1 (jn @g2 (jn @g3 (jn @g4 (jn @ti50 (jn @ti122 (jn @ti5 (jn @e1 (jn @hZ24 (jn @hZt (jn @hby (jn @bytesV.eq_def (jn @conv_bs @nble_d)))))))))))))))))))))) ?_
   show retQ _ _ _ _ _
   exact ⟨.inr rfl, _, _, rfl, rfl⟩
theorem itoa74 {i : Int} (hi : NumOK i) : den Tryz.prog Cp.cfg 74 [dI i] = some (dS (dg i)) := by
 have hd := format91 hi
 simp only [dI, dS] at hd
 refine den_wp Tryz.func74 rfl (by kernel_rfl) rfl rfl ?_
 refine wkckt (jn @envOf.eq_1 (jn @envOf.eq_2 (jn @dI.eq_1 @hd))) ?_
 show retQ _ _ _ _ _
 exact ⟨.inr rfl, _, _, rfl, rfl⟩
theorem itoa55 {i : Int} (hi : NumOK i) : den Tryz.prog Cp.cfg 55 [dI i] = some (dS (dg i)) := by
 have hd := itoa74 hi
 simp only [dI, dS] at hd
 refine den_wp Tryz.func55 rfl (by kernel_rfl) rfl rfl ?_
 refine wkckt (jn @envOf.eq_1 (jn @envOf.eq_2 (jn @dI.eq_1 @hd))) ?_
 show retQ _ _ _ _ _
 exact ⟨.inr rfl, _, _, rfl, rfl⟩
end Go.Ac
end

section
set_option maxRecDepth 20000
namespace Go.Ac
open Go.Proofs Go.Lib
attribute [local simp] Hp.get_set
def valD (acc : Nat) : List UInt8 → Nat
 | [] => acc
 | b :: r => valD (acc * 10 + (b.toNat - 48)) r
theorem valD_app (a b : List UInt8) (acc : Nat) : valD acc (a ++ b) = valD (valD acc a) b := by
 induction a generalizing acc with
 | nil => rfl
 | cons x r ih => exact ih _
theorem valD_dec (u : Nat) : valD 0 (decDigits u) = u := by
 induction u using Nat.strongRecOn with
 | _ u ih =>
  rw [decDigits]
  split
  ·rename_i h
   show 0 * 10 + ((UInt8.ofNat (48 + u)).toNat - 48) = u
   rw [UInt8.toNat_ofNat', Nat.mod_eq_of_lt (by omega)]; omega
  ·rename_i h
   rw [valD_app, ih (u / 10) (by omega)]
   show u / 10 * 10 + ((UInt8.ofNat (48 + u % 10)).toNat - 48) = u
   rw [UInt8.toNat_ofNat', Nat.mod_eq_of_lt (by omega)]; omega
theorem valD_le {acc : Nat} : ∀ l : List UInt8, acc ≤ valD acc l
 | [] => Nat.le_refl _
 | b :: r => Nat.le_trans (by omega) (valD_le (acc := acc * 10 + (b.toNat - 48)) r)
def rowB (l : List UInt8) : List (List D) := l.map fun b => [D.int .u8 (b.toNat : Int)]
theorem rowB_at {l : List UInt8} {i : Nat} {b : UInt8} (h : l[i]? = some b) : (rowB l)[i]? = some [.int .u8 (b.toNat : Int)] := by unfold rowB; simp [h]
theorem rowB_len (l : List UInt8) : (rowB l).length = l.length := by simp [rowB]
theorem rowB_eq (l : List UInt8) : l.map (fun b => [D.int .u8 (b.toNat : Int)]) = rowB l := rfl
theorem ti96 : mkTI Tryz.prog 96 = some ⟨.iface, 1, 16, zOf 96⟩ := by kernel_rfl
set_option maxHeartbeats 8000000 in
theorem atoi72 {i : Int} (hi : NumOK i) : den Tryz.prog Cp.cfg 72 [dS (dg i)] = some (.tuple [dI i, .con .nilIface]) := by
 refine den_wp Tryz.func72 rfl (by kernel_rfl) rfl rfl ?_
 have hlen := dg_len hi
 have hne := dg_ne i
 obtain ⟨u, hu⟩ : ∃ u, u = i.natAbs := ⟨_, rfl⟩
 obtain ⟨ds, hds⟩ : ∃ ds, ds = decDigits u := ⟨_, rfl⟩
 have hdc : ∀ b ∈ ds, 48 ≤ b.toNat ∧ b.toNat ≤ 57 := by rw [hds]; exact dec_c u
 have hval : valD 0 ds = u := by rw [hds]; exact valD_dec u
 have hub : u ≤ 2147483648 := by obtain ⟨_, _⟩ := hi; omega
 by_cases h0 : i < 0
 ·have he : dg i = 45 :: ds := by rw [hds]; unfold dg itoa; rw [if_pos h0, hu]
  rw [he] at hlen hne ⊢
  have hlen2 : ds.length ≤ 11 := by first | exact hlen | (simp only [List.length_cons] at hlen; omega)
  obtain ⟨L, hL⟩ : ∃ L, L = ds.length := ⟨_, rfl⟩
  have hdn : ds ≠ [] := by rw [hds]; exact dec_ne u
  have hL1 : 1 ≤ L := by
   have : ds.length ≠ 0 := fun h => hdn (List.length_eq_zero_iff.1 h)
   omega
  obtain ⟨b0, r0, hb0⟩ : ∃ b r, ds = b :: r := by
   cases ds with
   | nil => exact absurd rfl hdn
   | cons b r => exact ⟨b, r, rfl⟩
  have hbm := hdc b0 (by rw [hb0]; simp)
  have hL' := hL.symm
  have g1 : (L ≤ 140737488355328) = True := eq_true (by omega)
  obtain ⟨M, hM⟩ : ∃ M, M = L + 1 := ⟨_, rfl⟩
  obtain ⟨s0, hs0⟩ : ∃ s0, s0 = (45 : UInt8) :: ds := ⟨_, rfl⟩
  have hsl : s0.length = M := by rw [hs0, List.length_cons, ← hL, hM]
  rw [← hs0]
  have hget : s0[0]? = some 45 := by rw [hs0]; rfl
  have hget2 : ∀ h : 0 < s0.length, s0[0]'h = 45 := by subst hs0; intro h; rfl
  have hdr : s0.tail = ds := by rw [hs0]; rfl
  have hx0 : idx (0 : Int) M = some 0 := idx_lt (i := 0) (show 0 < M by omega)
  have c1 : (0 < (M : Int)) = True := eq_true (by omega)
  have c1' : (0 < M) = True := eq_true (by omega)
  have c3 : ((M : Int) < 19) = True := eq_true (by omega)
  have c7 : (1 ≤ M) = True := eq_true (by omega)
  have c8 : ((L : Int) < 1) = False := eq_false (by omega)
  have hu45 : ((UInt8.toNat 45 : Nat) : Int) = 45 := rfl
  have htk : List.take M s0 = s0 := by rw [← hsl, List.take_length]
  refine wkc (jn @envOf.eq_1 (jn @envOf.eq_2 (jn @dI.eq_1 (jn @dS.eq_1 (jn @hsl (jn @hL' (jn @hget (jn @hget2 (jn @hx0 (jn @c1 (jn @c1' (jn @c3 (jn @c7 (jn @c8 (jn @hu45 (jn @int_beq (jn @ti9 (jn @ti50 (jn @ti5 (jn @conv_sb (jn @strBytes.eq_def (jn @g1 (jn @rowB_eq (jn @sliceV.eq_def (jn @bnd.eq_def (jn @hdr @htk)))))))))))))))))))))))))) ?_
  apply WP.loop' (I := fun D st => ∃ j : Nat, j + D = L ∧ SE [(5, dS s0), (6, dI (valD 0 (ds.take j) : Nat)), (47, .d (.slice (rowB ds))), (48, dI L), (49, dI j)] [] 0 st) (d := L)
  ·exact ⟨0, by simp, SE.mk (by rw [rowB_len, hL']; rfl) rfl⟩
  rintro D _ ⟨j, hj, cc, rfl⟩
  refine wk (jn @dI.eq_1 @dS.eq_1) ?_
  show WP _ _ _ _ _ _
  refine WP.cond _ rfl (fun hb => ?_) (fun hb => ?_)
  ·simp at hb
   have hb' : j < L := hb
   obtain ⟨b, hb1⟩ : ∃ b, ds[j]? = some b := ⟨ds[j]'(by omega), by simp⟩
   have hbc := hdc b (List.mem_of_getElem? hb1)
   have hb2 := rowB_at hb1
   have hix := idx_lt hb'
   have hw := w_succ hb' (by omega)
   obtain ⟨q, hq⟩ : ∃ q, q = b.toNat - 48 := ⟨_, rfl⟩
   have w1 : IntKind.u8.wrap ((b.toNat : Int) - 48) = (q : Int) := by rw [show (b.toNat : Int) - 48 = ((q : Nat) : Int) by omega, u8w q (by omega)]
   have c6 : (9 < (q : Int)) = False := eq_false (by omega)
   have c6' : (9 < q) = False := eq_false (by omega)
   obtain ⟨a, ha⟩ : ∃ a, a = valD 0 (ds.take j) := ⟨_, rfl⟩
   have hau : a ≤ u := by
    rw [ha, ← hval]
    have : valD 0 ds = valD (valD 0 (ds.take j)) (ds.drop j) := by rw [← valD_app, List.take_append_drop]
    rw [this]; exact valD_le _
   obtain ⟨a2, ha2⟩ : ∃ a2, a2 = a * 10 + q := ⟨_, rfl⟩
   have hstep : valD 0 (ds.take (j + 1)) = a2 := by
    rw [List.take_add_one, hb1, valD_app, ← ha, ha2, hq]; rfl
   have w2 : IntKind.i64.wrap ((a : Int) * 10) = ((a : Int) * 10) := by rw [w_id'] <;> omega
   have w3 : IntKind.i64.wrap (q : Int) = (q : Int) := by rw [w_id'] <;> omega
   have w4 : IntKind.i64.wrap ((a : Int) * 10 + (q : Int)) = (a2 : Int) := by rw [w_id'] <;> omega
   rw [← ha]
   refine wkc (jn @dI.eq_1 (jn @dS.eq_1 (jn @hix (jn @hb2 (jn @w1 (jn @w2 (jn @w3 (jn @w4 (jn @c6 (jn @c6' (jn @hw (jn @rowB_len (jn @hL' (jn @ti5 @ti50)))))))))))))) ?_
   refine loop_next (by simp [hw]; exact Is.rfl) ?_
   exact ⟨D - 1, by omega, j + 1, by omega, SE.mk (by simp [dI, dS, hw, hstep]) rfl⟩
  ·simp at hb
   have hjL : j = L := by omega
   subst hjL
   rw [hL, List.take_length, hval]
   have w5 : IntKind.i64.wrap (-(u : Int)) = i := by rw [w_id'] <;> omega
   refine wkc (jn @dI.eq_1 (jn @dS.eq_1 (jn @hsl (jn @hget (jn @hget2 (jn @hx0 (jn @hu45 (jn @int_beq (jn @w5 @c1'))))))))) ?_
   show retQ _ _ _ _ _
   exact ⟨.inr rfl, _, _, rfl, rfl⟩
 ·have he : dg i = ds := by rw [hds]; unfold dg itoa; rw [if_neg h0]; congr 1; omega
  rw [he] at hlen hne ⊢
  have hlen2 : ds.length ≤ 11 := by first | exact hlen | (simp only [List.length_cons] at hlen; omega)
  obtain ⟨L, hL⟩ : ∃ L, L = ds.length := ⟨_, rfl⟩
  have hdn : ds ≠ [] := by rw [hds]; exact dec_ne u
  have hL1 : 1 ≤ L := by
   have : ds.length ≠ 0 := fun h => hdn (List.length_eq_zero_iff.1 h)
   omega
  obtain ⟨b0, r0, hb0⟩ : ∃ b r, ds = b :: r := by
   cases ds with
   | nil => exact absurd rfl hdn
   | cons b r => exact ⟨b, r, rfl⟩
  have hbm := hdc b0 (by rw [hb0]; simp)
  have hL' := hL.symm
  have g1 : (L ≤ 140737488355328) = True := eq_true (by omega)
  have hget : ds[0]? = some b0 := by rw [hb0]; rfl
  have hget2 : ∀ h : 0 < ds.length, ds[0]'h = b0 := by subst hb0; intro h; rfl
  have hx0 : idx (0 : Int) L = some 0 := idx_lt (i := 0) (show 0 < L by omega)
  have c1 : (0 < (L : Int)) = True := eq_true (by omega)
  have c1' : (0 < L) = True := eq_true (by omega)
  have c3 : ((L : Int) < 19) = True := eq_true (by omega)
  have c4 : ((b0.toNat : Int) = 45) = False := eq_false (by omega)
  have c5 : ((b0.toNat : Int) = 43) = False := eq_false (by omega)
  refine wkc (jn @envOf.eq_1 (jn @envOf.eq_2 (jn @dI.eq_1 (jn @dS.eq_1 (jn @hL' (jn @hget (jn @hget2 (jn @hx0 (jn @c1 (jn @c1' (jn @c3 (jn @c4 (jn @c5 (jn @int_beq (jn @ti9 (jn @ti50 (jn @ti5 (jn @conv_sb (jn @strBytes.eq_def (jn @g1 @rowB_eq)))))))))))))))))))) ?_
  apply WP.loop' (I := fun D st => ∃ j : Nat, j + D = L ∧ SE [(5, dS ds), (6, dI (valD 0 (ds.take j) : Nat)), (47, .d (.slice (rowB ds))), (48, dI L), (49, dI j)] [] 0 st) (d := L)
  ·exact ⟨0, by simp, SE.mk (by rw [rowB_len, hL']; rfl) rfl⟩
  rintro D _ ⟨j, hj, cc, rfl⟩
  refine wk (jn @dI.eq_1 @dS.eq_1) ?_
  show WP _ _ _ _ _ _
  refine WP.cond _ rfl (fun hb => ?_) (fun hb => ?_)
  ·simp at hb
   have hb' : j < L := hb
   obtain ⟨b, hb1⟩ : ∃ b, ds[j]? = some b := ⟨ds[j]'(by omega), by simp⟩
   have hbc := hdc b (List.mem_of_getElem? hb1)
   have hb2 := rowB_at hb1
   have hix := idx_lt hb'
   have hw := w_succ hb' (by omega)
   obtain ⟨q, hq⟩ : ∃ q, q = b.toNat - 48 := ⟨_, rfl⟩
   have w1 : IntKind.u8.wrap ((b.toNat : Int) - 48) = (q : Int) := by rw [show (b.toNat : Int) - 48 = ((q : Nat) : Int) by omega, u8w q (by omega)]
   have c6 : (9 < (q : Int)) = False := eq_false (by omega)
   have c6' : (9 < q) = False := eq_false (by omega)
   obtain ⟨a, ha⟩ : ∃ a, a = valD 0 (ds.take j) := ⟨_, rfl⟩
   have hau : a ≤ u := by
    rw [ha, ← hval]
    have : valD 0 ds = valD (valD 0 (ds.take j)) (ds.drop j) := by rw [← valD_app, List.take_append_drop]
    rw [this]; exact valD_le _
   obtain ⟨a2, ha2⟩ : ∃ a2, a2 = a * 10 + q := ⟨_, rfl⟩
   have hstep : valD 0 (ds.take (j + 1)) = a2 := by
    rw [List.take_add_one, hb1, valD_app, ← ha, ha2, hq]; rfl
   have w2 : IntKind.i64.wrap ((a : Int) * 10) = ((a : Int) * 10) := by rw [w_id'] <;> omega
   have w3 : IntKind.i64.wrap (q : Int) = (q : Int) := by rw [w_id'] <;> omega
   have w4 : IntKind.i64.wrap ((a : Int) * 10 + (q : Int)) = (a2 : Int) := by rw [w_id'] <;> omega
   rw [← ha]
   refine wkc (jn @dI.eq_1 (jn @dS.eq_1 (jn @hix (jn @hb2 (jn @w1 (jn @w2 (jn @w3 (jn @w4 (jn @c6 (jn @c6' (jn @hw (jn @rowB_len (jn @hL' (jn @ti5 @ti50)))))))))))))) ?_
   refine loop_next (by simp [hw]; exact Is.rfl) ?_
   exact ⟨D - 1, by omega, j + 1, by omega, SE.mk (by simp [dI, dS, hw, hstep]) rfl⟩
  ·simp at hb
   have hjL : j = L := by omega
   subst hjL
   rw [hL, List.take_length, hval]
   rw [show (u : Int) = i by omega]
   refine wkc (jn @dI.eq_1 (jn @dS.eq_1 (jn @hL' (jn @hget (jn @hget2 (jn @hx0 (jn @c4 (jn @int_beq @c1')))))))) ?_
   show retQ _ _ _ _ _
   exact ⟨.inr rfl, _, _, rfl, rfl⟩
theorem atoi54 {i : Int} (hi : NumOK i) : den Tryz.prog Cp.cfg 54 [dS (dg i)] = some (.tuple [dI i, .con .nilIface]) := by
 have hd := atoi72 hi
 simp only [dI, dS] at hd
 refine den_wp Tryz.func54 rfl (by kernel_rfl) rfl rfl ?_
 refine wkc (jn @envOf.eq_1 (jn @envOf.eq_2 (jn @dI.eq_1 (jn @dS.eq_1 (jn @hd @ti96))))) ?_
 show retQ _ _ _ _ _
 exact ⟨.inr rfl, _, _, rfl, rfl⟩
end Go.Ac
end

section
set_option maxRecDepth 8000
namespace Go.Ac
open Go.Proofs
attribute [local simp] encS_len
theorem at_ltS {l : List (List UInt8)} {j : Nat} (h : j < l.length) : ∃ x, l[j]? = some x ∧ x ∈ l ∧ (encS l)[j]? = some [.str x] := ⟨l[j], by simp, List.getElem_mem h, encS_at (by simp)⟩
set_option maxHeartbeats 4000000 in
theorem index71 (ws : List (List UInt8)) (h : [] ∉ ws) (hl : ws.length ≤ 10000000) : den Tryz.prog Cp.cfg 71 [dSl ws, dS []] = some (dI (-1)) := by
 refine den_wp Tryz.func71 rfl (by kernel_rfl) rfl rfl ?_
 refine wkckt (jn @envOf.eq_1 (jn @envOf.eq_2 (jn @dI.eq_1 (jn @dS.eq_1 (jn @dSl.eq_1 @ti59))))) ?_
 apply WP.loop' (I := fun D st => ∃ j : Nat, j + D = ws.length ∧ SE [(0, dSl ws), (1, dS []), (7, dI ws.length), (8, dI j)] [] 0 st) (d := ws.length)
 ·exact ⟨0, by simp, SE.mk (by simp [dI, dS, dSl]) rfl⟩
 rintro D _ ⟨j, hj, cc, rfl⟩
 refine wkkt (jn @dI.eq_1 (jn @dS.eq_1 @dSl.eq_1)) ?_
 show WP _ _ _ _ _ _
 refine WP.cond _ rfl (fun hb => ?_) (fun hb => ?_)
 ·simp at hb
  have hb' : j < ws.length := hb
  obtain ⟨x, hx, hxm, hx2⟩ := at_ltS hb'
  have hix := idx_lt hb'
  have hw := w_succ hb' (by omega)
  have hne : (([] : List UInt8) = x) = False := eq_false fun e => h (e ▸ hxm)
  refine wkckt (jn @dI.eq_1 (jn @dS.eq_1 (jn @dSl.eq_1 (jn @hix (jn @hx2 (jn @hw (jn @tx_beq (jn @hne @ti59)))))))) ?_
  refine loop_next (by simp [hw]; exact Is.rfl) ?_
  exact ⟨D - 1, by omega, j + 1, by omega, SE.mk (by simp [dI, dS, dSl, hw]) rfl⟩
 ·refine wkckt (@dI.eq_1) ?_
  show retQ _ _ _ _ _
  exact ⟨.inr rfl, _, _, rfl, rfl⟩
theorem contains53 (ws : List (List UInt8)) (h : [] ∉ ws) (hl : ws.length ≤ 10000000) : den Tryz.prog Cp.cfg 53 [dSl ws, dS []] = some (dB false) := by
 have hd := index71 ws h hl
 simp only [dI, dS, dSl] at hd
 refine den_wp Tryz.func53 rfl (by kernel_rfl) rfl rfl ?_
 refine wkckt (jn @envOf.eq_1 (jn @envOf.eq_2 (jn @dI.eq_1 (jn @dS.eq_1 (jn @dSl.eq_1 @hd))))) ?_
 show retQ _ _ _ _ _
 exact ⟨.inr rfl, _, _, rfl, rfl⟩

/-- A reader: its lines, where it stands. -/
def Rd (hp : Hp) (id g : Nat) (ls : List (List UInt8)) (k : Nat) : Prop := hp.get id = some ⟨g, false, [dSl ls, dI k, dI 0]⟩
section
variable {hp : Hp} {n c id g k : Nat} {ls : List (List UInt8)}
attribute [local simp] Hp.get_set
set_option maxHeartbeats 4000000 in
theorem done36 (hR : Rd hp id g ls k) (hid : id < n) (hk : k < 10000000) : Thr 36 [.ptr id g 0] hp n c (.tuple []) [id] (fun hp' => Rd hp' id g ls (k + 1)) := by
 have hw : IntKind.i64.wrap ((k : Int) + 1) = ((k + 1 : Nat) : Int) := by rw [w_id'] <;> omega
 have f1 : (id < n) = True := eq_true hid
 unfold Rd at hR
 simp only [dI, dSl] at hR
 refine thr_wp Tryz.func36 rfl (by kernel_rfl) rfl ?_
 refine wkcekt (jn @envOf.eq_1 (jn @envOf.eq_2 (jn @dI.eq_1 (jn @hR (jn @hw (jn @int_beq (jn @ti62 @f1))))))) ?_
 refine ⟨.inl rfl, [], [], rfl, rfl, rfl, WI.refl.set (k := id) (.inl (by simp)), ?_⟩
 show (Hp.trunc n _).get id = _
 rw [Hp.get_trunc _ _ _ hid]
 show (Hp.set _ _ _).get id = _
 rw [Hp.get_set_self]
 simp [dI, dSl]
set_option maxHeartbeats 4000000 in
theorem next33 (hR : Rd hp id g ls k) (hid : id < n) (hk : k + 1 < ls.length) (hl : ls.length ≤ 10000000) {ln : List UInt8} {ws : List (List UInt8)} (hln : ls[k]? = some ln) (hc : cutAt 32 ln = ws) (hne : [] ∉ ws) (hlen : ln.length ≤ 8388608) :
  Thr 33 [.ptr id g 0] hp n c (dSl ws) [] (fun _ => True) := by
 have hw : IntKind.i64.wrap ((ls.length : Int) - 1) = ((ls.length - 1 : Nat) : Int) := by rw [w_id'] <;> omega
 have f1 : (id < n) = True := eq_true hid
 have c1 : ((ls.length - 1 : Nat) ≤ k) = False := eq_false (by omega)
 have c1' : (((ls.length - 1 : Nat) : Int) ≤ (k : Int)) = False := eq_false (by omega)
 have hx2 := encS_at hln
 have hix : idx (k : Int) ls.length = some k := idx_lt (by omega)
 have hs := split18 ln 32 hlen
 rw [hc] at hs
 have hwl : ws.length ≤ 10000000 := by rw [← hc, cutAt_len]; have := count_le_len ln 32; omega
 have hcc := contains53 ws hne hwl
 simp only [dI, dS, dSl, dB] at hs hcc
 unfold Rd at hR
 simp only [dI, dSl] at hR
 refine thr_wp Tryz.func33 rfl (by kernel_rfl) rfl ?_
 refine wkcekt (jn @envOf.eq_1 (jn @envOf.eq_2 (jn @dI.eq_1 (jn @hR (jn @hw (jn @c1 (jn @c1' (jn @int_beq (jn @int_bne (jn @ti62 (jn @ti59 (jn @f1 (jn @hix (jn @hx2 (jn @hs @hcc))))))))))))))) ?_
 exact ⟨.inr rfl, _, [], rfl, rfl, rfl, WI.refl, trivial⟩
set_option maxHeartbeats 4000000 in
theorem more20 (hR : Rd hp id g ls k) (hid : id < n) (hk : k < ls.length) (hl : ls.length ≤ 10000000) (hlast : ls[ls.length - 1]? = some []) :
  Thr 20 [.ptr id g 0] hp n c (dB (decide (k + 1 < ls.length))) [] (fun _ => True) := by
 have hw : IntKind.i64.wrap ((ls.length : Int) - 1) = ((ls.length - 1 : Nat) : Int) := by rw [w_id'] <;> omega
 have f1 : (id < n) = True := eq_true hid
 unfold Rd at hR
 simp only [dI, dSl] at hR
 refine thr_wp Tryz.func20 rfl (by kernel_rfl) rfl ?_
 by_cases h : k + 1 < ls.length
 ·have c1 : (k < (ls.length - 1 : Nat)) = True := eq_true (by omega)
  have c1' : ((k : Int) < ((ls.length - 1 : Nat) : Int)) = True := eq_true (by omega)
  refine wkcekt (jn @envOf.eq_1 (jn @envOf.eq_2 (jn @dI.eq_1 (jn @hR (jn @hw (jn @c1 (jn @c1' (jn @int_beq (jn @int_bne (jn @ti62 (jn @ti59 @f1))))))))))) ?_
  rw [decide_eq_true h]
  exact ⟨.inr rfl, _, [], rfl, rfl, rfl, WI.refl, trivial⟩
 ·have c1 : (k < (ls.length - 1 : Nat)) = False := eq_false (by omega)
  have c1' : ((k : Int) < ((ls.length - 1 : Nat) : Int)) = False := eq_false (by omega)
  have hix : idx (k : Int) ls.length = some k := idx_lt (by omega)
  have hx2 := encS_at hlast
  rw [show ls.length - 1 = k by omega] at hx2
  refine wkcekt (jn @envOf.eq_1 (jn @envOf.eq_2 (jn @dI.eq_1 (jn @hR (jn @hw (jn @c1 (jn @c1' (jn @int_beq (jn @int_bne (jn @ti62 (jn @ti59 (jn @f1 (jn @hix (jn @hx2 @tx_beq)))))))))))))) ?_
  rw [decide_eq_false h]
  exact ⟨.inr rfl, _, [], rfl, rfl, rfl, WI.refl, trivial⟩
set_option maxHeartbeats 8000000 in
theorem numbers35 (hR : Rd hp id g ls k) (hid : id < n) (hk : k < 1000000) {l : List Int} (hl : ∀ x ∈ l, NumOK x) (hll : l.length ≤ 1000000) {many : Int} (hm : many = -1 ∨ many = l.length) :
  Thr 35 [.ptr id g 0, dSl (l.map dg), dI many] hp n c (dL l) [id] (fun hp' => Rd hp' id g ls (k + 1)) := by
 have f1 : (id < n) = True := eq_true hid
 have f2 : (n = id) = False := eq_false (by omega)
 have f4 : (id = n) = False := eq_false (by omega)
 have f3 : (id < n + 1) = True := eq_true (by omega)
 refine thr_wp Tryz.func35 rfl (by kernel_rfl) rfl ?_
 refine wkcekt (jn @envOf.eq_1 (jn @envOf.eq_2 (jn @dI.eq_1 (jn @dSl.eq_1 (jn @ti59 @ti22))))) ?_
 apply WP.loop' (I := fun D s => ∃ (j gn : Nat) (hp' : Hp) (c' : Nat) (wl' : List Nat), j + D = l.length ∧ hp'.get n = some ⟨gn, false, cI (l.take j)⟩ ∧ Rd hp' id g ls k ∧ WI [id] n hp wl' hp' ∧
  s = ⟨[(0, .ptr id g 0), (1, dSl (l.map dg)), (2, dI many), (7, .osl n gn 0 j 1 none), (12, dSl (l.map dg)), (13, dI l.length), (14, dI j)], hp', n + 1, c', n, wl'⟩) (d := l.length)
 ·refine ⟨0, c, _, _, [], by simp, Hp.get_set_self _ _ _, ?_, ⟨fun j h => by simp at h, fun j hj _ => Hp.get_set_ne _ _ _ _ (by omega)⟩, by rfl⟩
  unfold Rd at hR ⊢
  rw [Hp.get_set_ne _ _ _ _ (by omega)]; exact hR
 clear hR
 rintro D _ ⟨j, gn, hp', c', wl', hj, hC, hR, hwi, rfl⟩
 refine wkekt (jn @dI.eq_1 @dSl.eq_1) ?_
 show WP _ _ _ _ _ _
 refine WP.cond _ rfl (fun hb => ?_) (fun hb => ?_)
 ·simp at hb
  have hb' : j < l.length := hb
  obtain ⟨x, hx⟩ : ∃ x, l[j]? = some x := ⟨l[j], by simp⟩
  have hxo := hl x (List.mem_of_getElem? hx)
  have hx2 : (encS (l.map dg))[j]? = some [.str (dg x)] := encS_at (by simp [hx])
  have hix := idx_lt hb'
  have hw := w_succ hb' (by omega)
  have hA := atoi54 hxo
  have hI := itoa55 hxo
  have b1 : (x < -2147483648) = False := eq_false (by have := hxo.1; omega)
  have b2 : (2147483647 < x) = False := eq_false (by have := hxo.2; omega)
  have hfit : fitsB (j + 1) 8 = true := by simp [fitsB]; omega
  obtain ⟨C, hCe⟩ : ∃ C, C = cI (l.take j) := ⟨_, rfl⟩
  have hCl : C.length = j := by rw [hCe, cI_len]; simp; omega
  have hCt : List.take j C = C := List.take_of_length_le (by omega)
  have hCn : C ++ [V.d (.int .i64 x)] = cI (l.take (j + 1)) := by rw [hCe, List.take_add_one, hx, cI_app]; rfl
  rw [← hCe] at hC
  simp only [dI, dS] at hA hI
  refine wkcekt (jn @dI.eq_1 (jn @dS.eq_1 (jn @dSl.eq_1 (jn @hix (jn @hx2 (jn @hA (jn @hI (jn @b1 (jn @b2 (jn @tx_beq (jn @ti59 (jn @ti22 (jn @ti9 (jn @ti96 (jn @hC (jn @hCl (jn @hCt (jn @nble_d (jn @hfit (jn @f1 (jn @f2 (jn @f3 (jn @f4 (jn @fillV.eq_1 (jn @fillV.eq_2 (jn @Value.oneCell'.eq_def (jn @closeParts.eq_1 (jn @closeParts.eq_2 @cl2.eq_def)))))))))))))))))))))))))))) ?_
  refine loop_next (by simp [-addNew, hw]; exact Is.rfl) ?_
  refine ⟨D - 1, by omega, j + 1, c' + 1, _, _, _, by omega, ?_, ?_, ((hwi.set (k := n + 1) (.inr (by omega))).set (k := n) (.inr (Nat.le_refl _))).trunc (m := n + 1) (by omega), by rfl⟩
  ·rw [Hp.get_trunc _ _ _ (by omega), Hp.get_set_self, hCn]
  ·unfold Rd at hR ⊢
   rw [Hp.get_trunc _ _ _ (by omega), Hp.get_set_ne _ _ _ _ (by omega), Hp.get_set_ne _ _ _ _ (by omega)]; exact hR
 ·simp at hb
  have hjL : j = l.length := by omega
  subst hjL
  rw [List.take_length] at hC
  obtain ⟨r0, hT1, hv, hn, hT2, hki, hfr, hpz, hz, hsame⟩ := (done36 (n := n + 1) (c := c') hR (by omega) (by omega)).caller (by intro j hj; simp at hj; omega)
  have e1 := hfr n (by omega) (by simp; omega)
  rw [hC] at e1
  have hz1 := hsame id (by omega) (by unfold Rd at hz; rw [hz]; rfl)
  have fin : thrQ Tryz.f35 hp n (dL l) [id] (fun hp' => Rd hp' id g ls (k + 1)) Ex.ret ⟨[(6, .osl n gn 0 l.length 1 none)], hp'.sets (tWr r0 (n + 1)), n + 1, c' + (r0.c - c'), n, addNew n wl' (tWr r0 (n + 1))⟩ := by
   refine ⟨.inr rfl, [.osl n gn 0 l.length 1 none], [n], rfl, close_osl1 (l := l) (cs := cI l) (ro := false) e1 (List.take_of_length_le (by rw [cI_len]; exact Nat.le_refl _)) (by rw [cI_len]; exact Nat.le_refl _), by simp, (hwi.sets (wr := tWr r0 (n + 1)) fun p hp => ?_), ?_⟩
   ·have := hki p.1 (List.mem_map_of_mem hp)
    exact .inl this
   ·show (Hp.trunc n _).get id = _
    rw [Hp.get_trunc _ _ _ hid, hz1]; exact hz
  rcases hm with rfl | rfl
  ·refine wkcekt (jn @dI.eq_1 (jn @dS.eq_1 (jn @dSl.eq_1 (jn @int_bne (jn @hv @hn))))) ?_
   exact fin
  ·have c1 : (0 ≤ (l.length : Int)) = True := by simp
   refine wkcekt (jn @dI.eq_1 (jn @dS.eq_1 (jn @dSl.eq_1 (jn @int_bne (jn @hv (jn @hn @c1)))))) ?_
   exact fin
set_option maxHeartbeats 8000000 in
theorem list19 (hR : Rd hp id g ls k) (hid : id < n) (hk : k + 1 < ls.length) (hls : ls.length ≤ 1000000) {w : List UInt8} {l : List Int} (hw1 : 32 ∉ w) (hw2 : w ≠ []) (hln : ls[k]? = some (w ++ nums l)) (hlen : (w ++ nums l).length ≤ 8388608)
  (hl : ∀ x ∈ l, NumOK x) (hll : l.length ≤ 1000000) {many : Int} (hm : many = -1 ∨ many = l.length) :
  Thr 19 [.ptr id g 0, dS w, dI many] hp n c (dL l) [id] (fun hp' => Rd hp' id g ls (k + 1)) := by
 have hne : [] ∉ (w :: l.map dg) := by
  simp only [List.mem_cons, List.mem_map, not_or, not_exists, not_and]
  exact ⟨fun e => hw2 e.symm, fun x _ => dg_ne x⟩
 obtain ⟨r0, hT1, hv, hn, hT2, hki, hfr, _⟩ := (next33 (n := n) (c := c) hR hid hk (by omega) hln (cut_nums hw1) hne hlen).caller (by intro j hj; cases hj)
 simp only [dSl] at hv
 have hrow : (encS (w :: l.map dg)) = [.str w] :: encS (l.map dg) := rfl
 obtain ⟨E, hE⟩ : ∃ E, E = encS (w :: l.map dg) := ⟨_, rfl⟩
 have hE0 : E[0]? = some [.str w] := by rw [hE]; rfl
 have hE0g : ∀ h : 0 < E.length, E[0]'h = [.str w] := by subst hE; intro h; rfl
 have hEl : E.length = l.length + 1 := by rw [hE, encS_len]; simp
 have hEd : E.tail = encS (l.map dg) := by rw [hE]; rfl
 have hEt : List.take (l.length + 1) E = E := List.take_of_length_le (by omega)
 have hEa : (∀ x : List D, x ∈ E → x.length = 1) = True := by
  refine eq_true fun r hr => ?_
  rw [hE] at hr
  unfold encS at hr
  obtain ⟨x, _, rfl⟩ := List.mem_map.1 hr
  rfl
 have hx0 : idx (0 : Int) (l.length + 1) = some 0 := idx_lt (i := 0) (by omega)
 rw [← hE] at hv
 have e1 : ∀ j, j < n → (hp.sets (tWr r0 n)).get j = hp.get j := fun j hj => hfr j hj (by simp)
 have hR1 : Rd (hp.sets (tWr r0 n)) id g ls k := by unfold Rd at hR ⊢; rw [e1 id hid]; exact hR
 refine thr_wp Tryz.func19 rfl (by kernel_rfl) rfl ?_
 refine wkcekt (jn @envOf.eq_1 (jn @envOf.eq_2 (jn @dI.eq_1 (jn @dS.eq_1 (jn @hv (jn @hn (jn @hE0 (jn @hEl (jn @hx0 (jn @tx_beq @ti59)))))))))) ?_
 apply WP.gen
 intro hp1 wl1 h1 h2
 have hR2 : Rd hp1 id g ls k := h1 ▸ hR1
 have hwi : WI [id] n hp wl1 hp1 := by
  rw [h1, h2]
  exact WI.refl.sets fun p hp => by have := hki p.1 (List.mem_map_of_mem hp); simp at this
 clear h1 h2 hT1 hT2 hki hfr hv hn hR1 e1
 obtain ⟨r1, hT1, hv, hn, hT2, hki, hfr, hpz, hz, hsame⟩ := (numbers35 (n := n) (c := c + (r0.c - c)) hR2 hid (by omega) hl hll hm).caller (by intro j hj; simp at hj; omega)
 simp only [dI, dSl] at hT1
 simp only [dL] at hv
 have c1 : (1 ≤ l.length + 1) = True := by simp
 refine wkcekt (jn @dI.eq_1 (jn @hEl (jn @hEd (jn @hEt (jn @hEa (jn @sliceV.eq_def (jn @bnd.eq_def (jn @hv (jn @hn (jn @ti59 (jn @c1 (jn @hE0 (jn @hE0g (jn @hx0 @tx_beq)))))))))))))) ?_
 refine ⟨.inr rfl, [dL l], [], rfl, rfl, rfl, (hwi.sets (wr := tWr r1 n) fun p hp => .inl (hki p.1 (List.mem_map_of_mem hp))), ?_⟩
 show (Hp.trunc n _).get id = _
 rw [Hp.get_trunc _ _ _ hid, hsame id hid (by unfold Rd at hz; rw [hz]; rfl)]
 exact hz
end
end Go.Ac
end

section
set_option maxRecDepth 8000
namespace Go.Ac
open Go.Proofs
def opsRows : List (List D) := (List.range 11).map fun i => (opsTab.drop (i * 6)).take 6
def wordT (j : Nat) : List UInt8 := if j = 0 then [] else wordI (j : Int)
theorem opsRows_at {j : Nat} (h : j < 11) : ∃ a b c d e : Int, opsRows[j]? = some [.str (wordT j), .int .i64 a, .int .i64 b, .int .i64 c, .int .i64 d, .int .i64 e] := by
 match j, h with
 | 0, _ => exact ⟨_, _, _, _, _, rfl⟩
 | 1, _ => exact ⟨_, _, _, _, _, rfl⟩
 | 2, _ => exact ⟨_, _, _, _, _, rfl⟩
 | 3, _ => exact ⟨_, _, _, _, _, rfl⟩
 | 4, _ => exact ⟨_, _, _, _, _, rfl⟩
 | 5, _ => exact ⟨_, _, _, _, _, rfl⟩
 | 6, _ => exact ⟨_, _, _, _, _, rfl⟩
 | 7, _ => exact ⟨_, _, _, _, _, rfl⟩
 | 8, _ => exact ⟨_, _, _, _, _, rfl⟩
 | 9, _ => exact ⟨_, _, _, _, _, rfl⟩
 | 10, _ => exact ⟨_, _, _, _, _, rfl⟩
 | j + 11, h => exact absurd h (by omega)
theorem wordT_ne {j o : Nat} (h1 : 1 ≤ o) (h2 : o ≤ 10) (h3 : j < o) : wordT j ≠ wordT o := by
 have : ∀ o : Fin 11, ∀ j : Fin 11, j.val < o.val → wordT j.val ≠ wordT o.val := by decide +kernel
 exact this ⟨o, by omega⟩ ⟨j, by omega⟩ h3
theorem wordT_nil {o : Nat} (h1 : 1 ≤ o) (h2 : o ≤ 10) : wordT o ≠ [] := by
 have : ∀ o : Fin 11, 1 ≤ o.val → wordT o.val ≠ [] := by decide +kernel
 exact this ⟨o, by omega⟩ h1
section
variable {hp : Hp} {n c id g : Nat} {w : List UInt8} {rest : List (List UInt8)}
set_option maxHeartbeats 4000000 in
theorem word57 (hg : hp.get id = some ⟨g, false, [dSl (w :: rest)]⟩) (hid : id < n) (hw : w ≠ []) (x : List UInt8) (a b c' d e : Int) :
  Quiet Tryz.prog Cp.cfg 57 [.agg [.d (.str x), .d (.int .i64 a), .d (.int .i64 b), .d (.int .i64 c'), .d (.int .i64 d), .d (.int .i64 e)], .ptr id g 0] hp n c (.bool (decide (x = w))) := by
 have f2 : (n = id) = False := eq_false (by omega)
 have f1 : (id < n) = True := eq_true hid
 obtain ⟨E, hE⟩ : ∃ E, E = encS (w :: rest) := ⟨_, rfl⟩
 have hE0 : E[0]? = some [.str w] := by rw [hE]; rfl
 have hE0g : ∀ h : 0 < E.length, E[0]'h = [.str w] := by subst hE; intro h; rfl
 have hEl : E.length = rest.length + 1 := by rw [hE, encS_len]; simp
 have hx0 : idx (0 : Int) (rest.length + 1) = some 0 := idx_lt (i := 0) (by omega)
 have hwn : (w = []) = False := eq_false hw
 simp only [dSl, ← hE] at hg
 refine quiet_wp Tryz.func57 rfl (by kernel_rfl) rfl ?_
 by_cases hxw : x = w
 ·have hx : (x = w) = True := eq_true hxw
  refine wkcq (jn @envOf.eq_1 (jn @envOf.eq_2 (jn @Hp.get_set (jn @hg (jn @f1 (jn @f2 (jn @hE0 (jn @hE0g (jn @hEl (jn @hx0 (jn @tx_beq (jn @hx (jn @hwn (jn @ti54 (jn @ti59 @ti9))))))))))))))) ?_
  rw [decide_eq_true hxw]
  exact ⟨.inr rfl, rfl, _, rfl, rfl⟩
 ·have hx : (x = w) = False := eq_false hxw
  refine wkcq (jn @envOf.eq_1 (jn @envOf.eq_2 (jn @Hp.get_set (jn @hg (jn @f1 (jn @f2 (jn @hE0 (jn @hE0g (jn @hEl (jn @hx0 (jn @tx_beq (jn @hx (jn @hwn (jn @ti54 (jn @ti59 @ti9))))))))))))))) ?_
  rw [decide_eq_false hxw]
  exact ⟨.inr rfl, rfl, _, rfl, rfl⟩
set_option maxHeartbeats 8000000 in
theorem index56 {o : Nat} (h1 : 1 ≤ o) (h2 : o ≤ 10) (hg : hp.get id = some ⟨g, false, [dSl (wordT o :: rest)]⟩) (hid : id < n) :
  Quiet Tryz.prog Cp.cfg 56 [.d (.slice opsRows), .fn 57 [.ptr id g 0]] hp n c (.int .i64 o) := by
 refine quiet_wp Tryz.func56 rfl (by kernel_rfl) rfl ?_
 obtain ⟨R, hR⟩ : ∃ R, R = opsRows := ⟨_, rfl⟩
 have hRl : R.length = 11 := by rw [hR]; rfl
 rw [← hR]
 refine wkq (jn @envOf.eq_1 (jn @envOf.eq_2 (jn @ti101 @hRl))) ?_
 apply WP.loop' (I := fun d s => ∃ j : Nat, j + d = o ∧ SQ [(0, .d (.slice R)), (1, .fn 57 [.ptr id g 0]), (7, dI 11), (8, dI j)] hp n n s) (d := o)
 ·exact ⟨0, by simp, _, _, Ag.refl n hp, st_eq (by simp [dI]) rfl⟩
 rintro d _ ⟨j, hjd, hp', c1, hag, rfl⟩
 have hb' : j < 11 := by omega
 obtain ⟨a, b, c', d', e, hv⟩ := opsRows_at hb'
 rw [← hR] at hv
 have hix : idx (j : Int) 11 = some j := idx_lt hb'
 have hw := w_succ (show j < 11 by omega) (by omega)
 have hc0 : ((j : Int) < 11) = True := eq_true (by omega)
 obtain ⟨h5, h6, h4⟩ := Quiet.fn (fun c => word57 (n := n) (c := c) (by rw [hag id hid, hg]) hid (wordT_nil h1 h2) (wordT j) a b c' d' e)
 refine wkcq (jn @dI.eq_1 (jn @hc0 (jn @hix (jn @hv (jn @h4 (jn @ti101 (jn @ti54 @hRl))))))) ?_
 show WP _ _ _ _ _ _
 refine WP.cond _ rfl (fun hb => ?_) (fun hb => ?_)
 ·simp at hb
  have hjo : j = o := by
   rcases Nat.lt_or_ge j o with h | h
   ·exact absurd hb (wordT_ne h1 h2 h)
   ·omega
  subst hjo
  refine wkcq (@dI.eq_1) ?_
  exact ⟨.inr rfl, rfl, _, rfl, rfl⟩
 ·simp at hb
  have hjo : j ≠ o := fun e => hb (by rw [e])
  refine wkcq (@dI.eq_1) ?_
  refine loop_next (by simp [hw]; exact Is.rfl) ?_
  exact ⟨d - 1, by omega, j + 1, by omega, _, _, hag.trunc, st_eq (by simp [dI, hw]) rfl⟩
end
end Go.Ac
end
