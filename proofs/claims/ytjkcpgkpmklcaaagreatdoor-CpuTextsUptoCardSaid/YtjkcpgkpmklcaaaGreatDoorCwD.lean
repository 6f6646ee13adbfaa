/- Numbers as texts: the digits, pair by pair. (Printed by mkCwD.py.) -/
import Derived.Test.YtjkcpgkpmklcaaaGreatDoorCwWkM
set_option linter.unusedVariables false
set_option linter.unusedSimpArgs false
set_option maxRecDepth 20000
namespace Go.Ac
open Go.Proofs Go.Lib

/-- A digit as a byte; the last k digits. -/
def dv (w : Nat) : V := .d (.int .u8 ((48 + w % 10 : Nat) : Int))
def padV : Nat → Nat → List V
 | 0, _ => []
 | k + 1, u => dv (u / 10 ^ k) :: padV k u
theorem padV_len : ∀ k u, (padV k u).length = k
 | 0, _ => rfl
 | k + 1, u => by simp [padV, padV_len k u]
theorem padV_dg : ∀ k u, padV k u = (List.range k).map fun t => V.d (.int .u8 ((Go.Lib.dg u (k - 1 - t)).toNat : Int))
 | 0, _ => rfl
 | k + 1, u => by
  have hd : ((Go.Lib.dg u k).toNat : Int) = ((48 + u / 10 ^ k % 10 : Nat) : Int) := by
   unfold Go.Lib.dg
   rw [UInt8.toNat_ofNat', Nat.mod_eq_of_lt (by omega)]
  rw [List.range_succ_eq_map, List.map_cons, padV, padV_dg k u, List.map_map]
  congr 1
  ·show dv _ = V.d (.int .u8 ((Go.Lib.dg u (k + 1 - 1 - 0)).toNat : Int))
   rw [show k + 1 - 1 - 0 = k by omega, hd]; rfl
  ·refine List.map_congr_left fun t ht => ?_
   simp only [Function.comp]
   rw [show k + 1 - 1 - (t + 1) = k - 1 - t by omega]
theorem padV_dec (u : Nat) : padV (nDigits u) u = strRow (decDigits u) := by
 rw [padV_dg, decDigits_eq]
 unfold strRow
 rw [List.map_map]; rfl
theorem sml (x : Nat) (h : x < 200) : ([48, 48, 48, 49, 48, 50, 48, 51, 48, 52, 48, 53, 48, 54, 48, 55, 48, 56, 48, 57, 49, 48, 49, 49, 49, 50, 49, 51, 49, 52, 49, 53, 49, 54, 49, 55, 49, 56, 49, 57, 50, 48, 50, 49, 50, 50, 50, 51, 50, 52, 50, 53, 50, 54, 50, 55, 50, 56, 50, 57, 51, 48, 51, 49, 51, 50, 51, 51, 51, 52, 51, 53, 51, 54, 51, 55, 51, 56, 51, 57, 52, 48, 52, 49, 52, 50, 52, 51, 52, 52, 52, 53, 52, 54, 52, 55, 52, 56, 52, 57, 53, 48, 53, 49, 53, 50, 53, 51, 53, 52, 53, 53, 53, 54, 53, 55, 53, 56, 53, 57, 54, 48, 54, 49, 54, 50, 54, 51, 54, 52, 54, 53, 54, 54, 54, 55, 54, 56, 54, 57, 55, 48, 55, 49, 55, 50, 55, 51, 55, 52, 55, 53, 55, 54, 55, 55, 55, 56, 55, 57, 56, 48, 56, 49, 56, 50, 56, 51, 56, 52, 56, 53, 56, 54, 56, 55, 56, 56, 56, 57, 57, 48, 57, 49, 57, 50, 57, 51, 57, 52, 57, 53, 57, 54, 57, 55, 57, 56, 57, 57] : List UInt8)[x]? = some (sm x) := by
 have : ∀ x : Fin 200, ([48, 48, 48, 49, 48, 50, 48, 51, 48, 52, 48, 53, 48, 54, 48, 55, 48, 56, 48, 57, 49, 48, 49, 49, 49, 50, 49, 51, 49, 52, 49, 53, 49, 54, 49, 55, 49, 56, 49, 57, 50, 48, 50, 49, 50, 50, 50, 51, 50, 52, 50, 53, 50, 54, 50, 55, 50, 56, 50, 57, 51, 48, 51, 49, 51, 50, 51, 51, 51, 52, 51, 53, 51, 54, 51, 55, 51, 56, 51, 57, 52, 48, 52, 49, 52, 50, 52, 51, 52, 52, 52, 53, 52, 54, 52, 55, 52, 56, 52, 57, 53, 48, 53, 49, 53, 50, 53, 51, 53, 52, 53, 53, 53, 54, 53, 55, 53, 56, 53, 57, 54, 48, 54, 49, 54, 50, 54, 51, 54, 52, 54, 53, 54, 54, 54, 55, 54, 56, 54, 57, 55, 48, 55, 49, 55, 50, 55, 51, 55, 52, 55, 53, 55, 54, 55, 55, 55, 56, 55, 57, 56, 48, 56, 49, 56, 50, 56, 51, 56, 52, 56, 53, 56, 54, 56, 55, 56, 56, 56, 57, 57, 48, 57, 49, 57, 50, 57, 51, 57, 52, 57, 53, 57, 54, 57, 55, 57, 56, 57, 57] : List UInt8)[x.val]? = some (sm x.val) := by decide +kernel
 exact this ⟨x, h⟩
theorem smv_hi (p : Nat) (h : p < 100) : V.d (.int .u8 ((sm (p * 2)).toNat : Int)) = dv (p / 10) := by
 rw [sm_hi p h, UInt8.toNat_ofNat', Nat.mod_eq_of_lt (by omega)]
 unfold dv
 rw [Nat.mod_eq_of_lt (show p / 10 < 10 by omega)]
theorem smv_lo (p : Nat) (h : p < 100) : V.d (.int .u8 ((sm (p * 2 + 1)).toNat : Int)) = dv p := by
 rw [sm_lo p h, UInt8.toNat_ofNat', Nat.mod_eq_of_lt (by omega)]; rfl
theorem dv_mod (a b : Nat) (h : a % 10 = b % 10) : dv a = dv b := by unfold dv; rw [h]
/-- Two cells are written. -/
theorem put_one {A Y T : List V} {k : Nat} {b : V} (h : Y.length = k + 1) : List.take (A.length + k) (A ++ (Y ++ T)) ++ b :: List.drop (A.length + k + 1) (A ++ (Y ++ T)) = A ++ (Y.take k ++ (b :: T)) := by
 rw [List.take_append, List.take_of_length_le (by omega), show A.length + k - A.length = k by omega, List.take_append, show k - Y.length = 0 by omega, List.take_zero, List.append_nil,
  List.drop_append, List.drop_eq_nil_of_le (by omega), List.nil_append, show A.length + k + 1 - A.length = k + 1 by omega, List.drop_append, List.drop_eq_nil_of_le (by omega), List.nil_append, show k + 1 - Y.length = 0 by omega, List.drop_zero, List.append_assoc]
attribute [local simp] Hp.get_set

/-- Where the writing stands: k places are still to be filled. -/
def FB (hp' : Hp) (id g : Nat) (A B : List V) (nd k u : Nat) : Prop := ∃ Y : List V, Y.length = k ∧ hp'.get id = some ⟨g, false, A ++ (Y ++ (padV (nd - k) u ++ B))⟩

theorem u32w {n : Int} (h : 0 ≤ n) (h2 : n < 4294967296) : IntKind.u32.wrap n = n := by
 simp [IntKind.wrap, IntKind.signed, IntKind.bits]; omega
theorem u64w {n : Int} (h : 0 ≤ n) (h2 : n < 18446744073709551616) : IntKind.u64.wrap n = n := by
 simp [IntKind.wrap, IntKind.signed, IntKind.bits]; omega
section
variable {hp : Hp} {n c id g off nd u : Nat} {cap : Option Nat} {A B X : List V}
set_option maxHeartbeats 16000000 in
theorem fmt79 (hA : A.length = off) (hX : X.length = nd) (hnd : nd ≤ 10) (hnd1 : 1 ≤ nd) (hu : u < 10 ^ nd) (hid : id < n) (hget : hp.get id = some ⟨g, false, A ++ (X ++ B)⟩) :
  ThrK 79 [.osl id g off nd 1 cap, .d (.int .u64 u)] hp n c (.tuple []) [id] (fun hp' => hp'.get id = some ⟨g, false, A ++ (padV nd u ++ B)⟩) := by
 have f1 : (id < n) = True := eq_true hid
 refine thrK_wp Tryz.func79 rfl (by kernel_rfl) rfl ?_
 refine wkcek (jn @envOf.eq_1 (jn @envOf.eq_2 (jn @dI.eq_1 (jn @hget @ti50)))) ?_
 apply WP.loop' (I := fun D s => ∃ (k v : Nat) (hp' : Hp) (wl' : List Nat), k = D ∧ k ≤ nd ∧ FB hp' id g A B nd k u ∧ v = u / 10 ^ (nd - k) ∧ v < 10 ^ k ∧ WI [id] n hp wl' hp' ∧ s = ⟨[(0, .osl id g off nd 1 cap), (1, .d (.int .u64 v)), (4, dI k)], hp', n, c, n, wl'⟩) (d := nd)
 ·exact ⟨nd, u, hp, [], rfl, Nat.le_refl _, ⟨X, hX, by rw [Nat.sub_self]; exact hget⟩, by simp, hu, WI.refl, by rfl⟩
 rintro D _ ⟨k, v, hp', wl', rfl, hkn, ⟨Y0, hY0l, hG⟩, hv, hvk, hwi, rfl⟩
 refine wkek (@dI.eq_1) ?_
 show WP _ _ _ _ _ _
 refine WP.cond _ rfl (fun hb => ?_) (fun hb => ?_)
 ·simp at hb
  have hk8 : 8 ≤ k := by omega
  have hv10 : v < 10000000000 := Nat.lt_of_lt_of_le hvk (Nat.pow_le_pow_right (n := 10) (by omega) (show k ≤ 10 by omega))
  obtain ⟨m1, hm1⟩ : ∃ q, q = v % 100000000 := ⟨_, rfl⟩
  obtain ⟨m2, hm2⟩ : ∃ q, q = v / 100000000 := ⟨_, rfl⟩
  obtain ⟨x32, hx32⟩ : ∃ q, q = m1 / 10000 := ⟨_, rfl⟩
  obtain ⟨x10, hx10⟩ : ∃ q, q = m1 % 10000 := ⟨_, rfl⟩
  obtain ⟨p0, hp0⟩ : ∃ q, q = x10 % 100 := ⟨_, rfl⟩
  obtain ⟨p1, hp1⟩ : ∃ q, q = x10 / 100 := ⟨_, rfl⟩
  obtain ⟨p2, hp2⟩ : ∃ q, q = x32 % 100 := ⟨_, rfl⟩
  obtain ⟨p3, hp3⟩ : ∃ q, q = x32 / 100 := ⟨_, rfl⟩
  have e1 : (v : Int).tmod 100000000 = (m1 : Int) := by rw [Int.tmod_eq_emod_of_nonneg (by omega)]; omega
  have e2 : IntKind.u32.wrap (m1 : Int) = (m1 : Int) := by rw [u32w] <;> omega
  have e3 : IntKind.u64.wrap ((v : Int) / 100000000) = (m2 : Int) := by rw [u64w] <;> omega
  have e4 : IntKind.u32.wrap ((m1 : Int) / 10000) = (x32 : Int) := by rw [u32w] <;> omega
  have e5 : (m1 : Int).tmod 10000 = (x10 : Int) := by rw [Int.tmod_eq_emod_of_nonneg (by omega)]; omega
  have e6 : IntKind.u32.wrap ((x10 : Int) / 100) = (p1 : Int) := by rw [u32w] <;> omega
  have e7 : (x10 : Int).tmod 100 = (p0 : Int) := by rw [Int.tmod_eq_emod_of_nonneg (by omega)]; omega
  have e8 : IntKind.u32.wrap ((x32 : Int) / 100) = (p3 : Int) := by rw [u32w] <;> omega
  have e9 : (x32 : Int).tmod 100 = (p2 : Int) := by rw [Int.tmod_eq_emod_of_nonneg (by omega)]; omega
  obtain ⟨K0, hK0⟩ : ∃ q, q = k := ⟨_, rfl⟩
  obtain ⟨T0, hT0⟩ : ∃ T, T = padV (nd - k) u ++ B := ⟨_, rfl⟩
  rw [← hT0] at hG
  rw [← hK0] at hY0l
  obtain ⟨S0, hS0⟩ : ∃ q, q = p0 * 2 := ⟨_, rfl⟩
  have m0x : IntKind.u32.wrap ((p0 : Int) * 2) = (S0 : Int) := by rw [u32w] <;> omega
  obtain ⟨S1, hS1⟩ : ∃ q, q = p1 * 2 := ⟨_, rfl⟩
  have m1x : IntKind.u32.wrap ((p1 : Int) * 2) = (S1 : Int) := by rw [u32w] <;> omega
  obtain ⟨S2, hS2⟩ : ∃ q, q = p2 * 2 := ⟨_, rfl⟩
  have m2x : IntKind.u32.wrap ((p2 : Int) * 2) = (S2 : Int) := by rw [u32w] <;> omega
  obtain ⟨S3, hS3⟩ : ∃ q, q = p3 * 2 := ⟨_, rfl⟩
  have m3x : IntKind.u32.wrap ((p3 : Int) * 2) = (S3 : Int) := by rw [u32w] <;> omega
  refine wkcek (jn @dI.eq_1 (jn @e1 (jn @e2 (jn @e3 (jn @e4 (jn @e5 (jn @e6 (jn @e7 (jn @e8 (jn @e9 (jn @m0x (jn @m1x (jn @m2x (jn @m3x (jn @ti111 @ti141))))))))))))))) ?_
  obtain ⟨K0a, hK0a⟩ : ∃ q, q = K0 - 1 := ⟨_, rfl⟩
  obtain ⟨K1, hK1⟩ : ∃ q, q = K0 - 2 := ⟨_, rfl⟩
  have hw0a : IntKind.i64.wrap ((k : Int) - 1) = (K0a : Int) := by rw [w_id'] <;> omega
  have hw0b : IntKind.i64.wrap ((k : Int) - 2) = (K1 : Int) := by rw [w_id'] <;> omega
  have hx0a : idx (K0a : Int) nd = some K0a := idx_lt (by omega)
  have hx0b : idx (K1 : Int) nd = some K1 := idx_lt (by omega)
  obtain ⟨R0, hR0⟩ : ∃ q, q = p0 * 2 + 1 := ⟨_, rfl⟩
  have hr0 : IntKind.u32.wrap ((S0 : Int) + 1) = (R0 : Int) := by rw [u32w] <;> omega
  have hi0a : idx (R0 : Int) 200 = some R0 := idx_lt (by omega)
  have hi0b : idx (S0 : Int) 200 = some S0 := idx_lt (by omega)
  have hs0a := sml R0 (by omega)
  have hs0b := sml S0 (by omega)
  obtain ⟨Z0, hZ0⟩ : ∃ Z, Z = A ++ (Y0 ++ T0) := ⟨_, rfl⟩
  obtain ⟨Z0a, hZ0a⟩ : ∃ Z, Z = A ++ (Y0.take K0a ++ (V.d (.int .u8 ((sm R0).toNat : Int)) :: T0)) := ⟨_, rfl⟩
  obtain ⟨Y1, hY1⟩ : ∃ Y, Y = (Y0.take K0a).take K1 := ⟨_, rfl⟩
  obtain ⟨T1, hT1⟩ : ∃ T, T = V.d (.int .u8 ((sm S0).toNat : Int)) :: V.d (.int .u8 ((sm R0).toNat : Int)) :: T0 := ⟨_, rfl⟩
  have hY1l : Y1.length = K1 := by rw [hY1, List.length_take, List.length_take]; omega
  have hp0a := put_one (A := A) (Y := Y0) (T := T0) (k := K0a) (b := V.d (.int .u8 ((sm R0).toNat : Int))) (by omega)
  rw [← hZ0, ← hZ0a, hA] at hp0a
  have hp0b := put_one (A := A) (Y := Y0.take K0a) (T := V.d (.int .u8 ((sm R0).toNat : Int)) :: T0) (k := K1) (b := V.d (.int .u8 ((sm S0).toNat : Int))) (by rw [List.length_take]; omega)
  rw [← hZ0a, hA, ← hY1, ← hT1] at hp0b
  have hl0a : Nat.ble (off + K0a + 1) Z0.length = true := Nat.ble_eq_true_of_le (by rw [hZ0]; simp [hA, hY0l]; omega)
  have hl0b : Nat.ble (off + K1 + 1) Z0a.length = true := Nat.ble_eq_true_of_le (by rw [hZ0a]; simp [hA, hY0l]; omega)
  apply WP.gen
  intro hq0 wq0 hhq0 hwq0
  have hg0 : hq0.get id = some ⟨g, false, Z0⟩ := by rw [hhq0, hZ0]; exact hG
  have hwi0 : WI [id] n hp wq0 hq0 := by rw [hhq0, hwq0]; exact hwi
  clear hhq0 hwq0
  repeat (first
 | apply WP.seq
 | (apply WP.reg; (case hR => dsimp only [prepL, prepO, List.map, gS, gZ]; exact iZ); (case hr => (repeat (first
 | (apply RT.op; simp [-addNew, f1, hg0, hw0a, hw0b, hx0a, hx0b, hr0, hi0a, hi0b, hs0a, hs0b, hp0a, hp0b, hl0a, hl0b, ti50, ti141, dI]; exact iZ; (try dsimp only [putEnv]) <;> exact rfl)
 | (apply RT.call; (iterate 2 simp; exact iZ); exact iZ; (iterate 4 simp [-addNew, f1, hg0, hw0a, hw0b, hx0a, hx0b, hr0, hi0a, hi0b, hs0a, hs0b, hp0a, hp0b, hl0a, hl0b, ti50, ti141, dI]; exact iZ); simp [Is]; (try dsimp only [putEnv]) <;> exact rfl; simp; exact iZ; exact iZ)
 | (apply RT.wr; simp [-addNew, f1, hg0, hw0a, hw0b, hx0a, hx0b, hr0, hi0a, hi0b, hs0a, hs0b, hp0a, hp0b, hl0a, hl0b, ti50, ti141, dI]; exact iZ; (try dsimp only [putEnv]) <;> exact rfl; simp [-addNew, f1, hg0, hw0a, hw0b, hx0a, hx0b, hr0, hi0a, hi0b, hs0a, hs0b, hp0a, hp0b, hl0a, hl0b, ti50, ti141, dI]; exact iZ; (iterate 2 exact iZ); exact iZ))); exact RT.nil); (case hc => first | (refine checkR_un [(0, 1), (0, 2), (0, 3), (1, 3), (2, 3), (0, 4), (1, 4), (2, 4), (3, 4), (0, 5), (1, 5), (2, 5), (3, 5), (0, 6), (1, 6), (2, 6), (3, 6), (4, 6), (5, 6), (0, 7), (1, 7), (2, 7), (3, 7), (4, 7), (5, 7), (0, 8), (1, 8), (2, 8), (3, 8), (4, 8), (5, 8), (0, 9), (1, 9), (2, 9), (3, 9), (4, 9), (5, 9), (6, 9), (7, 9), (8, 9), (0, 10), (1, 10), (2, 10), (3, 10), (4, 10), (5, 10), (6, 10), (7, 10), (8, 10), (3, 11), (4, 11), (5, 11), (9, 11), (10, 11), (3, 12), (4, 12), (5, 12), (9, 12), (10, 12)] (by kernel_rfl) (by decide +kernel) rfl ?_; simp [memA, disj, Hp.get_set]; done) | (show _ = _; kernel_rfl)); (case ht => simp [-addNew, f1, hg0, hw0a, hw0b, hx0a, hx0b, hr0, hi0a, hi0b, hs0a, hs0b, hp0a, hp0b, hl0a, hl0b, ti50, ti141, dI]; exact iZ))
 | apply WP.block | apply WP.skip | apply WP.exit | apply WP.ret | refine WP.condT rfl ?_ | refine WP.condF rfl ?_)
  obtain ⟨K1a, hK1a⟩ : ∃ q, q = K1 - 1 := ⟨_, rfl⟩
  obtain ⟨K2, hK2⟩ : ∃ q, q = K1 - 2 := ⟨_, rfl⟩
  have hw1a : IntKind.i64.wrap ((k : Int) - 3) = (K1a : Int) := by rw [w_id'] <;> omega
  have hw1b : IntKind.i64.wrap ((k : Int) - 4) = (K2 : Int) := by rw [w_id'] <;> omega
  have hx1a : idx (K1a : Int) nd = some K1a := idx_lt (by omega)
  have hx1b : idx (K2 : Int) nd = some K2 := idx_lt (by omega)
  obtain ⟨R1, hR1⟩ : ∃ q, q = p1 * 2 + 1 := ⟨_, rfl⟩
  have hr1 : IntKind.u32.wrap ((S1 : Int) + 1) = (R1 : Int) := by rw [u32w] <;> omega
  have hi1a : idx (R1 : Int) 200 = some R1 := idx_lt (by omega)
  have hi1b : idx (S1 : Int) 200 = some S1 := idx_lt (by omega)
  have hs1a := sml R1 (by omega)
  have hs1b := sml S1 (by omega)
  obtain ⟨Z1, hZ1⟩ : ∃ Z, Z = A ++ (Y1 ++ T1) := ⟨_, rfl⟩
  obtain ⟨Z1a, hZ1a⟩ : ∃ Z, Z = A ++ (Y1.take K1a ++ (V.d (.int .u8 ((sm R1).toNat : Int)) :: T1)) := ⟨_, rfl⟩
  obtain ⟨Y2, hY2⟩ : ∃ Y, Y = (Y1.take K1a).take K2 := ⟨_, rfl⟩
  obtain ⟨T2, hT2⟩ : ∃ T, T = V.d (.int .u8 ((sm S1).toNat : Int)) :: V.d (.int .u8 ((sm R1).toNat : Int)) :: T1 := ⟨_, rfl⟩
  have hY2l : Y2.length = K2 := by rw [hY2, List.length_take, List.length_take]; omega
  have hp1a := put_one (A := A) (Y := Y1) (T := T1) (k := K1a) (b := V.d (.int .u8 ((sm R1).toNat : Int))) (by omega)
  rw [← hZ1, ← hZ1a, hA] at hp1a
  have hp1b := put_one (A := A) (Y := Y1.take K1a) (T := V.d (.int .u8 ((sm R1).toNat : Int)) :: T1) (k := K2) (b := V.d (.int .u8 ((sm S1).toNat : Int))) (by rw [List.length_take]; omega)
  rw [← hZ1a, hA, ← hY2, ← hT2] at hp1b
  have hl1a : Nat.ble (off + K1a + 1) Z1.length = true := Nat.ble_eq_true_of_le (by rw [hZ1]; simp [hA, hY1l]; omega)
  have hl1b : Nat.ble (off + K2 + 1) Z1a.length = true := Nat.ble_eq_true_of_le (by rw [hZ1a]; simp [hA, hY1l]; omega)
  apply WP.gen
  intro hq1 wq1 hhq1 hwq1
  have hg1 : hq1.get id = some ⟨g, false, Z1⟩ := by rw [hhq1, hZ1]; simp [Hp.get_set, hY1, hT1]
  have hwi1 : WI [id] n hp wq1 hq1 := by rw [hhq1, hwq1]; exact (hwi0.set (.inl (by simp))).set (.inl (by simp))
  clear hhq1 hwq1
  repeat (first
 | apply WP.seq
 | (apply WP.reg; (case hR => dsimp only [prepL, prepO, List.map, gS, gZ]; exact iZ); (case hr => (repeat (first
 | (apply RT.op; simp [-addNew, f1, hg1, hw1a, hw1b, hx1a, hx1b, hr1, hi1a, hi1b, hs1a, hs1b, hp1a, hp1b, hl1a, hl1b, ti50, ti141, dI]; exact iZ; (try dsimp only [putEnv]) <;> exact rfl)
 | (apply RT.call; (iterate 2 simp; exact iZ); exact iZ; (iterate 4 simp [-addNew, f1, hg1, hw1a, hw1b, hx1a, hx1b, hr1, hi1a, hi1b, hs1a, hs1b, hp1a, hp1b, hl1a, hl1b, ti50, ti141, dI]; exact iZ); simp [Is]; (try dsimp only [putEnv]) <;> exact rfl; simp; exact iZ; exact iZ)
 | (apply RT.wr; simp [-addNew, f1, hg1, hw1a, hw1b, hx1a, hx1b, hr1, hi1a, hi1b, hs1a, hs1b, hp1a, hp1b, hl1a, hl1b, ti50, ti141, dI]; exact iZ; (try dsimp only [putEnv]) <;> exact rfl; simp [-addNew, f1, hg1, hw1a, hw1b, hx1a, hx1b, hr1, hi1a, hi1b, hs1a, hs1b, hp1a, hp1b, hl1a, hl1b, ti50, ti141, dI]; exact iZ; (iterate 2 exact iZ); exact iZ))); exact RT.nil); (case hc => first | (refine checkR_un [(0, 1), (0, 2), (0, 3), (1, 3), (2, 3), (0, 4), (1, 4), (2, 4), (3, 4), (0, 5), (1, 5), (2, 5), (3, 5), (0, 6), (1, 6), (2, 6), (3, 6), (4, 6), (5, 6), (0, 7), (1, 7), (2, 7), (3, 7), (4, 7), (5, 7), (0, 8), (1, 8), (2, 8), (3, 8), (4, 8), (5, 8), (0, 9), (1, 9), (2, 9), (3, 9), (4, 9), (5, 9), (6, 9), (7, 9), (8, 9), (0, 10), (1, 10), (2, 10), (3, 10), (4, 10), (5, 10), (6, 10), (7, 10), (8, 10), (3, 11), (4, 11), (5, 11), (9, 11), (10, 11), (3, 12), (4, 12), (5, 12), (9, 12), (10, 12)] (by kernel_rfl) (by decide +kernel) rfl ?_; simp [memA, disj, Hp.get_set]; done) | (show _ = _; kernel_rfl)); (case ht => simp [-addNew, f1, hg1, hw1a, hw1b, hx1a, hx1b, hr1, hi1a, hi1b, hs1a, hs1b, hp1a, hp1b, hl1a, hl1b, ti50, ti141, dI]; exact iZ))
 | apply WP.block | apply WP.skip | apply WP.exit | apply WP.ret | refine WP.condT rfl ?_ | refine WP.condF rfl ?_)
  obtain ⟨K2a, hK2a⟩ : ∃ q, q = K2 - 1 := ⟨_, rfl⟩
  obtain ⟨K3, hK3⟩ : ∃ q, q = K2 - 2 := ⟨_, rfl⟩
  have hw2a : IntKind.i64.wrap ((k : Int) - 5) = (K2a : Int) := by rw [w_id'] <;> omega
  have hw2b : IntKind.i64.wrap ((k : Int) - 6) = (K3 : Int) := by rw [w_id'] <;> omega
  have hx2a : idx (K2a : Int) nd = some K2a := idx_lt (by omega)
  have hx2b : idx (K3 : Int) nd = some K3 := idx_lt (by omega)
  obtain ⟨R2, hR2⟩ : ∃ q, q = p2 * 2 + 1 := ⟨_, rfl⟩
  have hr2 : IntKind.u32.wrap ((S2 : Int) + 1) = (R2 : Int) := by rw [u32w] <;> omega
  have hi2a : idx (R2 : Int) 200 = some R2 := idx_lt (by omega)
  have hi2b : idx (S2 : Int) 200 = some S2 := idx_lt (by omega)
  have hs2a := sml R2 (by omega)
  have hs2b := sml S2 (by omega)
  obtain ⟨Z2, hZ2⟩ : ∃ Z, Z = A ++ (Y2 ++ T2) := ⟨_, rfl⟩
  obtain ⟨Z2a, hZ2a⟩ : ∃ Z, Z = A ++ (Y2.take K2a ++ (V.d (.int .u8 ((sm R2).toNat : Int)) :: T2)) := ⟨_, rfl⟩
  obtain ⟨Y3, hY3⟩ : ∃ Y, Y = (Y2.take K2a).take K3 := ⟨_, rfl⟩
  obtain ⟨T3, hT3⟩ : ∃ T, T = V.d (.int .u8 ((sm S2).toNat : Int)) :: V.d (.int .u8 ((sm R2).toNat : Int)) :: T2 := ⟨_, rfl⟩
  have hY3l : Y3.length = K3 := by rw [hY3, List.length_take, List.length_take]; omega
  have hp2a := put_one (A := A) (Y := Y2) (T := T2) (k := K2a) (b := V.d (.int .u8 ((sm R2).toNat : Int))) (by omega)
  rw [← hZ2, ← hZ2a, hA] at hp2a
  have hp2b := put_one (A := A) (Y := Y2.take K2a) (T := V.d (.int .u8 ((sm R2).toNat : Int)) :: T2) (k := K3) (b := V.d (.int .u8 ((sm S2).toNat : Int))) (by rw [List.length_take]; omega)
  rw [← hZ2a, hA, ← hY3, ← hT3] at hp2b
  have hl2a : Nat.ble (off + K2a + 1) Z2.length = true := Nat.ble_eq_true_of_le (by rw [hZ2]; simp [hA, hY2l]; omega)
  have hl2b : Nat.ble (off + K3 + 1) Z2a.length = true := Nat.ble_eq_true_of_le (by rw [hZ2a]; simp [hA, hY2l]; omega)
  apply WP.gen
  intro hq2 wq2 hhq2 hwq2
  have hg2 : hq2.get id = some ⟨g, false, Z2⟩ := by rw [hhq2, hZ2]; simp [Hp.get_set, hY2, hT2]
  have hwi2 : WI [id] n hp wq2 hq2 := by rw [hhq2, hwq2]; exact (hwi1.set (.inl (by simp))).set (.inl (by simp))
  clear hhq2 hwq2
  repeat (first
 | apply WP.seq
 | (apply WP.reg; (case hR => dsimp only [prepL, prepO, List.map, gS, gZ]; exact iZ); (case hr => (repeat (first
 | (apply RT.op; simp [-addNew, f1, hg2, hw2a, hw2b, hx2a, hx2b, hr2, hi2a, hi2b, hs2a, hs2b, hp2a, hp2b, hl2a, hl2b, ti50, ti141, dI]; exact iZ; (try dsimp only [putEnv]) <;> exact rfl)
 | (apply RT.call; (iterate 2 simp; exact iZ); exact iZ; (iterate 4 simp [-addNew, f1, hg2, hw2a, hw2b, hx2a, hx2b, hr2, hi2a, hi2b, hs2a, hs2b, hp2a, hp2b, hl2a, hl2b, ti50, ti141, dI]; exact iZ); simp [Is]; (try dsimp only [putEnv]) <;> exact rfl; simp; exact iZ; exact iZ)
 | (apply RT.wr; simp [-addNew, f1, hg2, hw2a, hw2b, hx2a, hx2b, hr2, hi2a, hi2b, hs2a, hs2b, hp2a, hp2b, hl2a, hl2b, ti50, ti141, dI]; exact iZ; (try dsimp only [putEnv]) <;> exact rfl; simp [-addNew, f1, hg2, hw2a, hw2b, hx2a, hx2b, hr2, hi2a, hi2b, hs2a, hs2b, hp2a, hp2b, hl2a, hl2b, ti50, ti141, dI]; exact iZ; (iterate 2 exact iZ); exact iZ))); exact RT.nil); (case hc => first | (refine checkR_un [(0, 1), (0, 2), (0, 3), (1, 3), (2, 3), (0, 4), (1, 4), (2, 4), (3, 4), (0, 5), (1, 5), (2, 5), (3, 5), (0, 6), (1, 6), (2, 6), (3, 6), (4, 6), (5, 6), (0, 7), (1, 7), (2, 7), (3, 7), (4, 7), (5, 7), (0, 8), (1, 8), (2, 8), (3, 8), (4, 8), (5, 8), (0, 9), (1, 9), (2, 9), (3, 9), (4, 9), (5, 9), (6, 9), (7, 9), (8, 9), (0, 10), (1, 10), (2, 10), (3, 10), (4, 10), (5, 10), (6, 10), (7, 10), (8, 10), (3, 11), (4, 11), (5, 11), (9, 11), (10, 11), (3, 12), (4, 12), (5, 12), (9, 12), (10, 12)] (by kernel_rfl) (by decide +kernel) rfl ?_; simp [memA, disj, Hp.get_set]; done) | (show _ = _; kernel_rfl)); (case ht => simp [-addNew, f1, hg2, hw2a, hw2b, hx2a, hx2b, hr2, hi2a, hi2b, hs2a, hs2b, hp2a, hp2b, hl2a, hl2b, ti50, ti141, dI]; exact iZ))
 | apply WP.block | apply WP.skip | apply WP.exit | apply WP.ret | refine WP.condT rfl ?_ | refine WP.condF rfl ?_)
  obtain ⟨K3a, hK3a⟩ : ∃ q, q = K3 - 1 := ⟨_, rfl⟩
  obtain ⟨K4, hK4⟩ : ∃ q, q = K3 - 2 := ⟨_, rfl⟩
  have hw3a : IntKind.i64.wrap ((k : Int) - 7) = (K3a : Int) := by rw [w_id'] <;> omega
  have hw3b : IntKind.i64.wrap ((k : Int) - 8) = (K4 : Int) := by rw [w_id'] <;> omega
  have hx3a : idx (K3a : Int) nd = some K3a := idx_lt (by omega)
  have hx3b : idx (K4 : Int) nd = some K4 := idx_lt (by omega)
  obtain ⟨R3, hR3⟩ : ∃ q, q = p3 * 2 + 1 := ⟨_, rfl⟩
  have hr3 : IntKind.u32.wrap ((S3 : Int) + 1) = (R3 : Int) := by rw [u32w] <;> omega
  have hi3a : idx (R3 : Int) 200 = some R3 := idx_lt (by omega)
  have hi3b : idx (S3 : Int) 200 = some S3 := idx_lt (by omega)
  have hs3a := sml R3 (by omega)
  have hs3b := sml S3 (by omega)
  obtain ⟨Z3, hZ3⟩ : ∃ Z, Z = A ++ (Y3 ++ T3) := ⟨_, rfl⟩
  obtain ⟨Z3a, hZ3a⟩ : ∃ Z, Z = A ++ (Y3.take K3a ++ (V.d (.int .u8 ((sm R3).toNat : Int)) :: T3)) := ⟨_, rfl⟩
  obtain ⟨Y4, hY4⟩ : ∃ Y, Y = (Y3.take K3a).take K4 := ⟨_, rfl⟩
  obtain ⟨T4, hT4⟩ : ∃ T, T = V.d (.int .u8 ((sm S3).toNat : Int)) :: V.d (.int .u8 ((sm R3).toNat : Int)) :: T3 := ⟨_, rfl⟩
  have hY4l : Y4.length = K4 := by rw [hY4, List.length_take, List.length_take]; omega
  have hp3a := put_one (A := A) (Y := Y3) (T := T3) (k := K3a) (b := V.d (.int .u8 ((sm R3).toNat : Int))) (by omega)
  rw [← hZ3, ← hZ3a, hA] at hp3a
  have hp3b := put_one (A := A) (Y := Y3.take K3a) (T := V.d (.int .u8 ((sm R3).toNat : Int)) :: T3) (k := K4) (b := V.d (.int .u8 ((sm S3).toNat : Int))) (by rw [List.length_take]; omega)
  rw [← hZ3a, hA, ← hY4, ← hT4] at hp3b
  have hl3a : Nat.ble (off + K3a + 1) Z3.length = true := Nat.ble_eq_true_of_le (by rw [hZ3]; simp [hA, hY3l]; omega)
  have hl3b : Nat.ble (off + K4 + 1) Z3a.length = true := Nat.ble_eq_true_of_le (by rw [hZ3a]; simp [hA, hY3l]; omega)
  apply WP.gen
  intro hq3 wq3 hhq3 hwq3
  have hg3 : hq3.get id = some ⟨g, false, Z3⟩ := by rw [hhq3, hZ3]; simp [Hp.get_set, hY3, hT3]
  have hwi3 : WI [id] n hp wq3 hq3 := by rw [hhq3, hwq3]; exact (hwi2.set (.inl (by simp))).set (.inl (by simp))
  clear hhq3 hwq3
  have hw8 : IntKind.i64.wrap ((k : Int) - 8) = (K4 : Int) := by rw [w_id'] <;> omega
  repeat (first
 | apply WP.seq
 | (apply WP.reg; (case hR => dsimp only [prepL, prepO, List.map, gS, gZ]; exact iZ); (case hr => (repeat (first
 | (apply RT.op; simp [-addNew, f1, hg3, hw3a, hw3b, hx3a, hx3b, hr3, hi3a, hi3b, hs3a, hs3b, hp3a, hp3b, hl3a, hl3b, ti50, ti141, dI, hw8]; exact iZ; (try dsimp only [putEnv]) <;> exact rfl)
 | (apply RT.call; (iterate 2 simp; exact iZ); exact iZ; (iterate 4 simp [-addNew, f1, hg3, hw3a, hw3b, hx3a, hx3b, hr3, hi3a, hi3b, hs3a, hs3b, hp3a, hp3b, hl3a, hl3b, ti50, ti141, dI, hw8]; exact iZ); simp [Is]; (try dsimp only [putEnv]) <;> exact rfl; simp; exact iZ; exact iZ)
 | (apply RT.wr; simp [-addNew, f1, hg3, hw3a, hw3b, hx3a, hx3b, hr3, hi3a, hi3b, hs3a, hs3b, hp3a, hp3b, hl3a, hl3b, ti50, ti141, dI, hw8]; exact iZ; (try dsimp only [putEnv]) <;> exact rfl; simp [-addNew, f1, hg3, hw3a, hw3b, hx3a, hx3b, hr3, hi3a, hi3b, hs3a, hs3b, hp3a, hp3b, hl3a, hl3b, ti50, ti141, dI, hw8]; exact iZ; (iterate 2 exact iZ); exact iZ))); exact RT.nil); (case hc => first | (refine checkR_un [(0, 1), (0, 2), (0, 3), (1, 3), (2, 3), (0, 4), (1, 4), (2, 4), (3, 4), (0, 5), (1, 5), (2, 5), (3, 5), (0, 6), (1, 6), (2, 6), (3, 6), (4, 6), (5, 6), (0, 7), (1, 7), (2, 7), (3, 7), (4, 7), (5, 7), (0, 8), (1, 8), (2, 8), (3, 8), (4, 8), (5, 8), (0, 9), (1, 9), (2, 9), (3, 9), (4, 9), (5, 9), (6, 9), (7, 9), (8, 9), (0, 10), (1, 10), (2, 10), (3, 10), (4, 10), (5, 10), (6, 10), (7, 10), (8, 10), (3, 11), (4, 11), (5, 11), (9, 11), (10, 11), (3, 12), (4, 12), (5, 12), (9, 12), (10, 12)] (by kernel_rfl) (by decide +kernel) rfl ?_; simp [memA, disj, Hp.get_set]; done) | (show _ = _; kernel_rfl)); (case ht => simp [-addNew, f1, hg3, hw3a, hw3b, hx3a, hx3b, hr3, hi3a, hi3b, hs3a, hs3b, hp3a, hp3b, hl3a, hl3b, ti50, ti141, dI, hw8]; exact iZ))
 | apply WP.block | apply WP.skip | apply WP.exit | apply WP.ret | refine WP.condT rfl ?_ | refine WP.condF rfl ?_)
  apply blockQ_s
  refine loop_next (by simp [-addNew]; exact Is.rfl) ?_
  have hTe : T4 = padV (nd - K4) u ++ B := by
   have hpp : ∀ j, u / 10 ^ (nd - k + j) = v / 10 ^ j := fun j => by rw [hv, Nat.pow_add, Nat.div_div_eq_div_mul]
   rw [show nd - K4 = nd - k + 7 + 1 by omega]
   have s0 := smv_lo p0 (by omega)
   have s1 := smv_hi p0 (by omega)
   have s2 := smv_lo p1 (by omega)
   have s3 := smv_hi p1 (by omega)
   have s4 := smv_lo p2 (by omega)
   have s5 := smv_hi p2 (by omega)
   have s6 := smv_lo p3 (by omega)
   have s7 := smv_hi p3 (by omega)
   rw [hT4, hT3, hT2, hT1, hR0, hR1, hR2, hR3, hS0, hS1, hS2, hS3, s0, s1, s2, s3, s4, s5, s6, s7, hT0]
   simp only [padV, List.cons_append]
   rw [hpp 7, hpp 6, hpp 5, hpp 4, hpp 3, hpp 2, hpp 1, show nd - k = nd - k + 0 by rfl, hpp 0]
   rw [dv_mod p0 (v / 10 ^ 0) (by simp; omega), dv_mod (p0 / 10) (v / 10 ^ 1) (by simp; omega), dv_mod p1 (v / 10 ^ 2) (by simp; omega), dv_mod (p1 / 10) (v / 10 ^ 3) (by simp; omega), dv_mod p2 (v / 10 ^ 4) (by simp; omega), dv_mod (p2 / 10) (v / 10 ^ 5) (by simp; omega), dv_mod p3 (v / 10 ^ 6) (by simp; omega), dv_mod (p3 / 10) (v / 10 ^ 7) (by simp; omega)]
  refine ⟨K4, by omega, K4, m2, _, _, rfl, by omega, ⟨Y4, hY4l, ?_⟩, ?_, ?_, ((hwi3.set (k := id) (.inl (by simp))).set (k := id) (.inl (by simp))).trunc (m := n) (Nat.le_refl _), rfl⟩
  ·rw [Hp.get_trunc _ _ _ hid, ← hTe]; simp [Hp.get_set]
  ·rw [hm2, hv, show nd - K4 = nd - k + 8 by omega, Nat.pow_add, Nat.div_div_eq_div_mul]
  ·rw [hm2]
   have : v < 10 ^ K4 * 100000000 := by
    rw [show (100000000 : Nat) = 10 ^ 8 by rfl, ← Nat.pow_add, show K4 + 8 = k by omega]; exact hvk
   omega
 ·simp at hb
  have hk8 : k < 8 := by omega
  have hvv : v < 100000000 := Nat.lt_of_lt_of_le hvk (Nat.pow_le_pow_right (n := 10) (by omega) (show k ≤ 8 by omega))
  have e1 : IntKind.u32.wrap (v : Int) = (v : Int) := by rw [u32w] <;> omega
  refine wkcek (jn @dI.eq_1 (jn @e1 (jn @ti111 @ti141))) ?_
  show WP _ _ _ _ _ _
  refine WP.cond _ rfl (fun hb => ?_) (fun hb => ?_)
  ·simp at hb
   have hkr4 : 4 ≤ k := by omega
   obtain ⟨K10, hK10⟩ : ∃ q, q = k := ⟨_, rfl⟩
   obtain ⟨Y10, hY10⟩ : ∃ q, q = Y0 := ⟨_, rfl⟩
   have hY10l : Y10.length = K10 := by rw [hY10, hK10]; exact hY0l
   obtain ⟨T10, hT10⟩ : ∃ T, T = padV (nd - k) u ++ B := ⟨_, rfl⟩
   have hG0 : hp'.get id = some ⟨g, false, A ++ (Y10 ++ T10)⟩ := by rw [hY10, hT10]; exact hG
   have hvb : v < 100000000 := Nat.lt_of_lt_of_le hvk (Nat.pow_le_pow_right (n := 10) (by omega) (show k ≤ 8 by omega))
   obtain ⟨x10, hx10⟩ : ∃ q, q = v % 10000 := ⟨_, rfl⟩
   obtain ⟨V10, hV10⟩ : ∃ q, q = v / 10000 := ⟨_, rfl⟩
   obtain ⟨p0, hp0⟩ : ∃ q, q = x10 % 100 := ⟨_, rfl⟩
   obtain ⟨p1, hp1⟩ : ∃ q, q = x10 / 100 := ⟨_, rfl⟩
   obtain ⟨S10, hS10⟩ : ∃ q, q = p0 * 2 := ⟨_, rfl⟩
   obtain ⟨S11, hS11⟩ : ∃ q, q = p1 * 2 := ⟨_, rfl⟩
   have e5 : (v : Int).tmod 10000 = (x10 : Int) := by rw [Int.tmod_eq_emod_of_nonneg (by omega)]; omega
   have e6 : IntKind.u32.wrap ((v : Int) / 10000) = (V10 : Int) := by rw [u32w] <;> omega
   have e7 : IntKind.u32.wrap ((x10 : Int) / 100) = (p1 : Int) := by rw [u32w] <;> omega
   have e8 : (x10 : Int).tmod 100 = (p0 : Int) := by rw [Int.tmod_eq_emod_of_nonneg (by omega)]; omega
   have e9 : IntKind.u32.wrap ((p0 : Int) * 2) = (S10 : Int) := by rw [u32w] <;> omega
   have e10 : IntKind.u32.wrap ((p1 : Int) * 2) = (S11 : Int) := by rw [u32w] <;> omega
   refine wkcek (jn @dI.eq_1 (jn @e5 (jn @e6 (jn @e7 (jn @e8 (jn @e9 (jn @e10 @ti141))))))) ?_
   obtain ⟨K10a, hK10a⟩ : ∃ q, q = K10 - 1 := ⟨_, rfl⟩
   obtain ⟨K11, hK11⟩ : ∃ q, q = K10 - 2 := ⟨_, rfl⟩
   have hw10a : IntKind.i64.wrap ((k : Int) - 1) = (K10a : Int) := by rw [w_id'] <;> omega
   have hw10b : IntKind.i64.wrap ((k : Int) - 2) = (K11 : Int) := by rw [w_id'] <;> omega
   have hx10a : idx (K10a : Int) nd = some K10a := idx_lt (by omega)
   have hx10b : idx (K11 : Int) nd = some K11 := idx_lt (by omega)
   obtain ⟨R10, hR10⟩ : ∃ q, q = p0 * 2 + 1 := ⟨_, rfl⟩
   have hr10 : IntKind.u32.wrap ((S10 : Int) + 1) = (R10 : Int) := by rw [u32w] <;> omega
   have hi10a : idx (R10 : Int) 200 = some R10 := idx_lt (by omega)
   have hi10b : idx (S10 : Int) 200 = some S10 := idx_lt (by omega)
   have hs10a := sml R10 (by omega)
   have hs10b := sml S10 (by omega)
   obtain ⟨Z10, hZ10⟩ : ∃ Z, Z = A ++ (Y10 ++ T10) := ⟨_, rfl⟩
   obtain ⟨Z10a, hZ10a⟩ : ∃ Z, Z = A ++ (Y10.take K10a ++ (V.d (.int .u8 ((sm R10).toNat : Int)) :: T10)) := ⟨_, rfl⟩
   obtain ⟨Y11, hY11⟩ : ∃ Y, Y = (Y10.take K10a).take K11 := ⟨_, rfl⟩
   obtain ⟨T11, hT11⟩ : ∃ T, T = V.d (.int .u8 ((sm S10).toNat : Int)) :: V.d (.int .u8 ((sm R10).toNat : Int)) :: T10 := ⟨_, rfl⟩
   have hY11l : Y11.length = K11 := by rw [hY11, List.length_take, List.length_take]; omega
   have hp10a := put_one (A := A) (Y := Y10) (T := T10) (k := K10a) (b := V.d (.int .u8 ((sm R10).toNat : Int))) (by omega)
   rw [← hZ10, ← hZ10a, hA] at hp10a
   have hp10b := put_one (A := A) (Y := Y10.take K10a) (T := V.d (.int .u8 ((sm R10).toNat : Int)) :: T10) (k := K11) (b := V.d (.int .u8 ((sm S10).toNat : Int))) (by rw [List.length_take]; omega)
   rw [← hZ10a, hA, ← hY11, ← hT11] at hp10b
   have hl10a : Nat.ble (off + K10a + 1) Z10.length = true := Nat.ble_eq_true_of_le (by rw [hZ10]; simp [hA, hY10l]; omega)
   have hl10b : Nat.ble (off + K11 + 1) Z10a.length = true := Nat.ble_eq_true_of_le (by rw [hZ10a]; simp [hA, hY10l]; omega)
   apply WP.gen
   intro hq10 wq10 hhq10 hwq10
   have hg10 : hq10.get id = some ⟨g, false, Z10⟩ := by rw [hhq10, hZ10]; exact hG0
   have hwi10 : WI [id] n hp wq10 hq10 := by rw [hhq10, hwq10]; exact hwi
   clear hhq10 hwq10
   repeat (first
 | apply WP.seq
 | (apply WP.reg; (case hR => dsimp only [prepL, prepO, List.map, gS, gZ]; exact iZ); (case hr => (repeat (first
 | (apply RT.op; simp [-addNew, f1, hg10, hw10a, hw10b, hx10a, hx10b, hr10, hi10a, hi10b, hs10a, hs10b, hp10a, hp10b, hl10a, hl10b, ti50, ti141, dI]; exact iZ; (try dsimp only [putEnv]) <;> exact rfl)
 | (apply RT.call; (iterate 2 simp; exact iZ); exact iZ; (iterate 4 simp [-addNew, f1, hg10, hw10a, hw10b, hx10a, hx10b, hr10, hi10a, hi10b, hs10a, hs10b, hp10a, hp10b, hl10a, hl10b, ti50, ti141, dI]; exact iZ); simp [Is]; (try dsimp only [putEnv]) <;> exact rfl; simp; exact iZ; exact iZ)
 | (apply RT.wr; simp [-addNew, f1, hg10, hw10a, hw10b, hx10a, hx10b, hr10, hi10a, hi10b, hs10a, hs10b, hp10a, hp10b, hl10a, hl10b, ti50, ti141, dI]; exact iZ; (try dsimp only [putEnv]) <;> exact rfl; simp [-addNew, f1, hg10, hw10a, hw10b, hx10a, hx10b, hr10, hi10a, hi10b, hs10a, hs10b, hp10a, hp10b, hl10a, hl10b, ti50, ti141, dI]; exact iZ; (iterate 2 exact iZ); exact iZ))); exact RT.nil); (case hc => first | (refine checkR_un [(0, 1), (0, 2), (0, 3), (1, 3), (2, 3), (0, 4), (1, 4), (2, 4), (3, 4), (0, 5), (1, 5), (2, 5), (3, 5), (0, 6), (1, 6), (2, 6), (3, 6), (4, 6), (5, 6), (0, 7), (1, 7), (2, 7), (3, 7), (4, 7), (5, 7), (0, 8), (1, 8), (2, 8), (3, 8), (4, 8), (5, 8), (0, 9), (1, 9), (2, 9), (3, 9), (4, 9), (5, 9), (6, 9), (7, 9), (8, 9), (0, 10), (1, 10), (2, 10), (3, 10), (4, 10), (5, 10), (6, 10), (7, 10), (8, 10), (3, 11), (4, 11), (5, 11), (9, 11), (10, 11), (3, 12), (4, 12), (5, 12), (9, 12), (10, 12)] (by kernel_rfl) (by decide +kernel) rfl ?_; simp [memA, disj, Hp.get_set]; done) | (show _ = _; kernel_rfl)); (case ht => simp [-addNew, f1, hg10, hw10a, hw10b, hx10a, hx10b, hr10, hi10a, hi10b, hs10a, hs10b, hp10a, hp10b, hl10a, hl10b, ti50, ti141, dI]; exact iZ))
 | apply WP.block | apply WP.skip | apply WP.exit | apply WP.ret | refine WP.condT rfl ?_ | refine WP.condF rfl ?_)
   obtain ⟨K11a, hK11a⟩ : ∃ q, q = K11 - 1 := ⟨_, rfl⟩
   obtain ⟨K12, hK12⟩ : ∃ q, q = K11 - 2 := ⟨_, rfl⟩
   have hw11a : IntKind.i64.wrap ((k : Int) - 3) = (K11a : Int) := by rw [w_id'] <;> omega
   have hw11b : IntKind.i64.wrap ((k : Int) - 4) = (K12 : Int) := by rw [w_id'] <;> omega
   have hx11a : idx (K11a : Int) nd = some K11a := idx_lt (by omega)
   have hx11b : idx (K12 : Int) nd = some K12 := idx_lt (by omega)
   obtain ⟨R11, hR11⟩ : ∃ q, q = p1 * 2 + 1 := ⟨_, rfl⟩
   have hr11 : IntKind.u32.wrap ((S11 : Int) + 1) = (R11 : Int) := by rw [u32w] <;> omega
   have hi11a : idx (R11 : Int) 200 = some R11 := idx_lt (by omega)
   have hi11b : idx (S11 : Int) 200 = some S11 := idx_lt (by omega)
   have hs11a := sml R11 (by omega)
   have hs11b := sml S11 (by omega)
   obtain ⟨Z11, hZ11⟩ : ∃ Z, Z = A ++ (Y11 ++ T11) := ⟨_, rfl⟩
   obtain ⟨Z11a, hZ11a⟩ : ∃ Z, Z = A ++ (Y11.take K11a ++ (V.d (.int .u8 ((sm R11).toNat : Int)) :: T11)) := ⟨_, rfl⟩
   obtain ⟨Y12, hY12⟩ : ∃ Y, Y = (Y11.take K11a).take K12 := ⟨_, rfl⟩
   obtain ⟨T12, hT12⟩ : ∃ T, T = V.d (.int .u8 ((sm S11).toNat : Int)) :: V.d (.int .u8 ((sm R11).toNat : Int)) :: T11 := ⟨_, rfl⟩
   have hY12l : Y12.length = K12 := by rw [hY12, List.length_take, List.length_take]; omega
   have hp11a := put_one (A := A) (Y := Y11) (T := T11) (k := K11a) (b := V.d (.int .u8 ((sm R11).toNat : Int))) (by omega)
   rw [← hZ11, ← hZ11a, hA] at hp11a
   have hp11b := put_one (A := A) (Y := Y11.take K11a) (T := V.d (.int .u8 ((sm R11).toNat : Int)) :: T11) (k := K12) (b := V.d (.int .u8 ((sm S11).toNat : Int))) (by rw [List.length_take]; omega)
   rw [← hZ11a, hA, ← hY12, ← hT12] at hp11b
   have hl11a : Nat.ble (off + K11a + 1) Z11.length = true := Nat.ble_eq_true_of_le (by rw [hZ11]; simp [hA, hY11l]; omega)
   have hl11b : Nat.ble (off + K12 + 1) Z11a.length = true := Nat.ble_eq_true_of_le (by rw [hZ11a]; simp [hA, hY11l]; omega)
   apply WP.gen
   intro hq11 wq11 hhq11 hwq11
   have hg11 : hq11.get id = some ⟨g, false, Z11⟩ := by rw [hhq11, hZ11]; simp [Hp.get_set, hY11, hT11]
   have hwi11 : WI [id] n hp wq11 hq11 := by rw [hhq11, hwq11]; exact (hwi10.set (k := id) (.inl (by simp))).set (k := id) (.inl (by simp))
   clear hhq11 hwq11
   have hwl : IntKind.i64.wrap ((k : Int) - 4) = (K12 : Int) := by rw [w_id'] <;> omega
   repeat (first
 | apply WP.seq
 | (apply WP.reg; (case hR => dsimp only [prepL, prepO, List.map, gS, gZ]; exact iZ); (case hr => (repeat (first
 | (apply RT.op; simp [-addNew, f1, hg11, hw11a, hw11b, hx11a, hx11b, hr11, hi11a, hi11b, hs11a, hs11b, hp11a, hp11b, hl11a, hl11b, ti50, ti141, dI, hwl]; exact iZ; (try dsimp only [putEnv]) <;> exact rfl)
 | (apply RT.call; (iterate 2 simp; exact iZ); exact iZ; (iterate 4 simp [-addNew, f1, hg11, hw11a, hw11b, hx11a, hx11b, hr11, hi11a, hi11b, hs11a, hs11b, hp11a, hp11b, hl11a, hl11b, ti50, ti141, dI, hwl]; exact iZ); simp [Is]; (try dsimp only [putEnv]) <;> exact rfl; simp; exact iZ; exact iZ)
 | (apply RT.wr; simp [-addNew, f1, hg11, hw11a, hw11b, hx11a, hx11b, hr11, hi11a, hi11b, hs11a, hs11b, hp11a, hp11b, hl11a, hl11b, ti50, ti141, dI, hwl]; exact iZ; (try dsimp only [putEnv]) <;> exact rfl; simp [-addNew, f1, hg11, hw11a, hw11b, hx11a, hx11b, hr11, hi11a, hi11b, hs11a, hs11b, hp11a, hp11b, hl11a, hl11b, ti50, ti141, dI, hwl]; exact iZ; (iterate 2 exact iZ); exact iZ))); exact RT.nil); (case hc => first | (refine checkR_un [(0, 1), (0, 2), (0, 3), (1, 3), (2, 3), (0, 4), (1, 4), (2, 4), (3, 4), (0, 5), (1, 5), (2, 5), (3, 5), (0, 6), (1, 6), (2, 6), (3, 6), (4, 6), (5, 6), (0, 7), (1, 7), (2, 7), (3, 7), (4, 7), (5, 7), (0, 8), (1, 8), (2, 8), (3, 8), (4, 8), (5, 8), (0, 9), (1, 9), (2, 9), (3, 9), (4, 9), (5, 9), (6, 9), (7, 9), (8, 9), (0, 10), (1, 10), (2, 10), (3, 10), (4, 10), (5, 10), (6, 10), (7, 10), (8, 10), (3, 11), (4, 11), (5, 11), (9, 11), (10, 11), (3, 12), (4, 12), (5, 12), (9, 12), (10, 12)] (by kernel_rfl) (by decide +kernel) rfl ?_; simp [memA, disj, Hp.get_set]; done) | (show _ = _; kernel_rfl)); (case ht => simp [-addNew, f1, hg11, hw11a, hw11b, hx11a, hx11b, hr11, hi11a, hi11b, hs11a, hs11b, hp11a, hp11b, hl11a, hl11b, ti50, ti141, dI, hwl]; exact iZ))
 | apply WP.block | apply WP.skip | apply WP.exit | apply WP.ret | refine WP.condT rfl ?_ | refine WP.condF rfl ?_)
   apply WP.gen
   intro hq12 wq12 hhq12 hwq12
   have hTe : T12 = padV (nd - K12) u ++ B := by
    have hpp : ∀ j, u / 10 ^ (nd - k + j) = v / 10 ^ j := fun j => by rw [hv, Nat.pow_add, Nat.div_div_eq_div_mul]
    rw [show nd - K12 = nd - k + 3 + 1 by omega]
    have s0 := smv_lo p0 (by omega)
    have s1 := smv_hi p0 (by omega)
    have s2 := smv_lo p1 (by omega)
    have s3 := smv_hi p1 (by omega)
    rw [hT12, hT11, hR10, hR11, hS10, hS11, s0, s1, s2, s3, hT10]
    simp only [padV, List.cons_append]
    rw [hpp 3, hpp 2, hpp 1, show nd - k = nd - k + 0 by rfl, hpp 0]
    rw [dv_mod (p0) (v / 10 ^ 0) (by simp; omega), dv_mod (p0 / 10) (v / 10 ^ 1) (by simp; omega), dv_mod (p1) (v / 10 ^ 2) (by simp; omega), dv_mod (p1 / 10) (v / 10 ^ 3) (by simp; omega)]
   have hG12 : hq12.get id = some ⟨g, false, A ++ (Y12 ++ (padV (nd - K12) u ++ B))⟩ := by rw [hhq12, ← hTe]; simp [Hp.get_set]
   have hwi12 : WI [id] n hp wq12 hq12 := by rw [hhq12, hwq12]; exact (hwi11.set (k := id) (.inl (by simp))).set (k := id) (.inl (by simp))
   have hvv12 : V10 = u / 10 ^ (nd - K12) := by rw [hV10, hv, show nd - K12 = nd - k + 4 by omega, Nat.pow_add, Nat.div_div_eq_div_mul]
   have hvk12 : V10 < 10 ^ K12 := by
    rw [hV10]
    have : v < 10 ^ K12 * 10000 := by
     rw [show (10000 : Nat) = 10 ^ 4 by rfl, ← Nat.pow_add, show K12 + 4 = k by omega]; exact hvk
    omega
   clear hhq12 hwq12 hTe
   show WP _ _ _ _ _ _
   refine WP.cond _ rfl (fun hb => ?_) (fun hb => ?_)
   ·simp at hb
    have hkra2 : 2 ≤ K12 := by omega
    obtain ⟨K15, hK15⟩ : ∃ q, q = K12 := ⟨_, rfl⟩
    obtain ⟨Y15, hY15⟩ : ∃ q, q = Y12 := ⟨_, rfl⟩
    have hY15l : Y15.length = K15 := by rw [hY15, hK15]; exact hY12l
    obtain ⟨T15, hT15⟩ : ∃ T, T = padV (nd - K12) u ++ B := ⟨_, rfl⟩
    have hG0 : hq12.get id = some ⟨g, false, A ++ (Y15 ++ T15)⟩ := by rw [hY15, hT15]; exact hG12
    have hvb : V10 < 100000000 := Nat.lt_of_lt_of_le hvk12 (Nat.pow_le_pow_right (n := 10) (by omega) (show K12 ≤ 8 by omega))
    obtain ⟨V15, hV15⟩ : ∃ q, q = V10 / 100 := ⟨_, rfl⟩
    obtain ⟨p0, hp0⟩ : ∃ q, q = V10 % 100 := ⟨_, rfl⟩
    obtain ⟨S15, hS15⟩ : ∃ q, q = p0 * 2 := ⟨_, rfl⟩
    have e6 : IntKind.u32.wrap ((V10 : Int) / 100) = (V15 : Int) := by rw [u32w] <;> omega
    have e8 : (V10 : Int).tmod 100 = (p0 : Int) := by rw [Int.tmod_eq_emod_of_nonneg (by omega)]; omega
    have e9 : IntKind.u32.wrap ((p0 : Int) * 2) = (S15 : Int) := by rw [u32w] <;> omega
    refine wkcek (jn @dI.eq_1 (jn @e6 (jn @e8 (jn @e9 @ti141)))) ?_
    obtain ⟨K15a, hK15a⟩ : ∃ q, q = K15 - 1 := ⟨_, rfl⟩
    obtain ⟨K16, hK16⟩ : ∃ q, q = K15 - 2 := ⟨_, rfl⟩
    have hw15a : IntKind.i64.wrap ((K12 : Int) - 1) = (K15a : Int) := by rw [w_id'] <;> omega
    have hw15b : IntKind.i64.wrap ((K12 : Int) - 2) = (K16 : Int) := by rw [w_id'] <;> omega
    have hx15a : idx (K15a : Int) nd = some K15a := idx_lt (by omega)
    have hx15b : idx (K16 : Int) nd = some K16 := idx_lt (by omega)
    obtain ⟨R15, hR15⟩ : ∃ q, q = p0 * 2 + 1 := ⟨_, rfl⟩
    have hr15 : IntKind.u32.wrap ((S15 : Int) + 1) = (R15 : Int) := by rw [u32w] <;> omega
    have hi15a : idx (R15 : Int) 200 = some R15 := idx_lt (by omega)
    have hi15b : idx (S15 : Int) 200 = some S15 := idx_lt (by omega)
    have hs15a := sml R15 (by omega)
    have hs15b := sml S15 (by omega)
    obtain ⟨Z15, hZ15⟩ : ∃ Z, Z = A ++ (Y15 ++ T15) := ⟨_, rfl⟩
    obtain ⟨Z15a, hZ15a⟩ : ∃ Z, Z = A ++ (Y15.take K15a ++ (V.d (.int .u8 ((sm R15).toNat : Int)) :: T15)) := ⟨_, rfl⟩
    obtain ⟨Y16, hY16⟩ : ∃ Y, Y = (Y15.take K15a).take K16 := ⟨_, rfl⟩
    obtain ⟨T16, hT16⟩ : ∃ T, T = V.d (.int .u8 ((sm S15).toNat : Int)) :: V.d (.int .u8 ((sm R15).toNat : Int)) :: T15 := ⟨_, rfl⟩
    have hY16l : Y16.length = K16 := by rw [hY16, List.length_take, List.length_take]; omega
    have hp15a := put_one (A := A) (Y := Y15) (T := T15) (k := K15a) (b := V.d (.int .u8 ((sm R15).toNat : Int))) (by omega)
    rw [← hZ15, ← hZ15a, hA] at hp15a
    have hp15b := put_one (A := A) (Y := Y15.take K15a) (T := V.d (.int .u8 ((sm R15).toNat : Int)) :: T15) (k := K16) (b := V.d (.int .u8 ((sm S15).toNat : Int))) (by rw [List.length_take]; omega)
    rw [← hZ15a, hA, ← hY16, ← hT16] at hp15b
    have hl15a : Nat.ble (off + K15a + 1) Z15.length = true := Nat.ble_eq_true_of_le (by rw [hZ15]; simp [hA, hY15l]; omega)
    have hl15b : Nat.ble (off + K16 + 1) Z15a.length = true := Nat.ble_eq_true_of_le (by rw [hZ15a]; simp [hA, hY15l]; omega)
    apply WP.gen
    intro hq15 wq15 hhq15 hwq15
    have hg15 : hq15.get id = some ⟨g, false, Z15⟩ := by rw [hhq15, hZ15]; exact hG0
    have hwi15 : WI [id] n hp wq15 hq15 := by rw [hhq15, hwq15]; exact hwi12
    clear hhq15 hwq15
    have hwl : IntKind.i64.wrap ((K12 : Int) - 2) = (K16 : Int) := by rw [w_id'] <;> omega
    repeat (first
 | apply WP.seq
 | (apply WP.reg; (case hR => dsimp only [prepL, prepO, List.map, gS, gZ]; exact iZ); (case hr => (repeat (first
 | (apply RT.op; simp [-addNew, f1, hg15, hw15a, hw15b, hx15a, hx15b, hr15, hi15a, hi15b, hs15a, hs15b, hp15a, hp15b, hl15a, hl15b, ti50, ti141, dI, hwl]; exact iZ; (try dsimp only [putEnv]) <;> exact rfl)
 | (apply RT.call; (iterate 2 simp; exact iZ); exact iZ; (iterate 4 simp [-addNew, f1, hg15, hw15a, hw15b, hx15a, hx15b, hr15, hi15a, hi15b, hs15a, hs15b, hp15a, hp15b, hl15a, hl15b, ti50, ti141, dI, hwl]; exact iZ); simp [Is]; (try dsimp only [putEnv]) <;> exact rfl; simp; exact iZ; exact iZ)
 | (apply RT.wr; simp [-addNew, f1, hg15, hw15a, hw15b, hx15a, hx15b, hr15, hi15a, hi15b, hs15a, hs15b, hp15a, hp15b, hl15a, hl15b, ti50, ti141, dI, hwl]; exact iZ; (try dsimp only [putEnv]) <;> exact rfl; simp [-addNew, f1, hg15, hw15a, hw15b, hx15a, hx15b, hr15, hi15a, hi15b, hs15a, hs15b, hp15a, hp15b, hl15a, hl15b, ti50, ti141, dI, hwl]; exact iZ; (iterate 2 exact iZ); exact iZ))); exact RT.nil); (case hc => first | (refine checkR_un [(0, 1), (0, 2), (0, 3), (1, 3), (2, 3), (0, 4), (1, 4), (2, 4), (3, 4), (0, 5), (1, 5), (2, 5), (3, 5), (0, 6), (1, 6), (2, 6), (3, 6), (4, 6), (5, 6), (0, 7), (1, 7), (2, 7), (3, 7), (4, 7), (5, 7), (0, 8), (1, 8), (2, 8), (3, 8), (4, 8), (5, 8), (0, 9), (1, 9), (2, 9), (3, 9), (4, 9), (5, 9), (6, 9), (7, 9), (8, 9), (0, 10), (1, 10), (2, 10), (3, 10), (4, 10), (5, 10), (6, 10), (7, 10), (8, 10), (3, 11), (4, 11), (5, 11), (9, 11), (10, 11), (3, 12), (4, 12), (5, 12), (9, 12), (10, 12)] (by kernel_rfl) (by decide +kernel) rfl ?_; simp [memA, disj, Hp.get_set]; done) | (show _ = _; kernel_rfl)); (case ht => simp [-addNew, f1, hg15, hw15a, hw15b, hx15a, hx15b, hr15, hi15a, hi15b, hs15a, hs15b, hp15a, hp15b, hl15a, hl15b, ti50, ti141, dI, hwl]; exact iZ))
 | apply WP.block | apply WP.skip | apply WP.exit | apply WP.ret | refine WP.condT rfl ?_ | refine WP.condF rfl ?_)
    apply WP.gen
    intro hq16 wq16 hhq16 hwq16
    have hTe : T16 = padV (nd - K16) u ++ B := by
     have hpp : ∀ j, u / 10 ^ (nd - K12 + j) = V10 / 10 ^ j := fun j => by rw [hvv12, Nat.pow_add, Nat.div_div_eq_div_mul]
     rw [show nd - K16 = nd - K12 + 1 + 1 by omega]
     have s0 := smv_lo p0 (by omega)
     have s1 := smv_hi p0 (by omega)
     rw [hT16, hR15, hS15, s0, s1, hT15]
     simp only [padV, List.cons_append]
     rw [hpp 1, show nd - K12 = nd - K12 + 0 by rfl, hpp 0]
     rw [dv_mod (p0) (V10 / 10 ^ 0) (by simp; omega), dv_mod (p0 / 10) (V10 / 10 ^ 1) (by simp; omega)]
    have hG16 : hq16.get id = some ⟨g, false, A ++ (Y16 ++ (padV (nd - K16) u ++ B))⟩ := by rw [hhq16, ← hTe]; simp [Hp.get_set]
    have hwi16 : WI [id] n hp wq16 hq16 := by rw [hhq16, hwq16]; exact (hwi15.set (k := id) (.inl (by simp))).set (k := id) (.inl (by simp))
    have hvv16 : V15 = u / 10 ^ (nd - K16) := by rw [hV15, hvv12, show nd - K16 = nd - K12 + 2 by omega, Nat.pow_add, Nat.div_div_eq_div_mul]
    have hvk16 : V15 < 10 ^ K16 := by
     rw [hV15]
     have : V10 < 10 ^ K16 * 100 := by
      rw [show (100 : Nat) = 10 ^ 2 by rfl, ← Nat.pow_add, show K16 + 2 = K12 by omega]; exact hvk12
     omega
    clear hhq16 hwq16 hTe
    show WP _ _ _ _ _ _
    refine WP.cond _ rfl (fun hb => ?_) (fun hb => ?_)
    ·simp at hb
     have hzraa : 0 < K16 := by omega
     have hk1 : K16 = 1 := by omega
     have hv9 : V15 < 10 := by have := hvk16; rw [hk1] at this; simpa using this
     have w48 : IntKind.u32.wrap (48 + (V15 : Int)) = 48 + (V15 : Int) := by rw [u32w] <;> omega
     obtain ⟨Df, hDf⟩ : ∃ q, q = 48 + V15 := ⟨_, rfl⟩
     have w49 : IntKind.u8.wrap (48 + (V15 : Int)) = (Df : Int) := by rw [show 48 + (V15 : Int) = ((Df : Nat) : Int) by omega, u8w Df (by omega)]
     have hx0 : idx (0 : Int) nd = some 0 := idx_lt (i := 0) (show 0 < nd by omega)
     obtain ⟨Zf, hZf⟩ : ∃ Z, Z = A ++ (Y16 ++ (padV (nd - K16) u ++ B)) := ⟨_, rfl⟩
     have hG2 : hq16.get id = some ⟨g, false, Zf⟩ := by rw [hZf]; exact hG16
     have hpf := put_one (A := A) (Y := Y16) (T := padV (nd - K16) u ++ B) (k := 0) (b := V.d (.int .u8 (Df : Int))) (by have := hY16l; omega)
     rw [← hZf, hA, Nat.add_zero] at hpf
     have hlf : Nat.ble (off + 1) Zf.length = true := Nat.ble_eq_true_of_le (by rw [hZf]; simp [hA, hY16l]; omega)
     refine wkcek (jn @dI.eq_1 (jn @f1 (jn @w48 (jn @w49 (jn @hx0 (jn @hpf (jn @hlf (jn @hG2 (jn @ti50 (jn @ti141 @ti5)))))))))) ?_
     refine ⟨.inl rfl, [], rfl, rfl, rfl, hwi16.set (k := id) (.inl (by simp)), ?_⟩
     have hdd : V.d (.int .u8 (Df : Int)) = dv (V15) := by rw [hDf]; unfold dv; rw [Nat.mod_eq_of_lt hv9]
     show (Hp.set _ _ _).get id = _
     rw [Hp.get_set_self, hdd]
     obtain ⟨m, hm⟩ : ∃ m, nd = m + 1 := ⟨nd - 1, by omega⟩
     rw [hm, padV, show m + 1 - K16 = m by omega, hvv16, show nd - K16 = m by omega]; rfl
    ·simp at hb
     have hk0 : K16 = 0 := by omega
     have hY0 : Y16 = [] := List.length_eq_zero_iff.1 (hY16l.trans hk0)
     refine wkcek (@dI.eq_1) ?_
     refine ⟨.inl rfl, [], rfl, rfl, rfl, hwi16, ?_⟩
     have hG3 := hG16
     rw [hY0, hk0, Nat.sub_zero] at hG3
     exact hG3
   ·simp at hb
    have hkra2 : ¬ 2 ≤ K12 := by omega
    refine wkcek (@dI.eq_1) ?_
    show WP _ _ _ _ _ _
    refine WP.cond _ rfl (fun hb => ?_) (fun hb => ?_)
    ·simp at hb
     have hzrab : 0 < K12 := by omega
     have hk1 : K12 = 1 := by omega
     have hv9 : V10 < 10 := by have := hvk12; rw [hk1] at this; simpa using this
     have w48 : IntKind.u32.wrap (48 + (V10 : Int)) = 48 + (V10 : Int) := by rw [u32w] <;> omega
     obtain ⟨Df, hDf⟩ : ∃ q, q = 48 + V10 := ⟨_, rfl⟩
     have w49 : IntKind.u8.wrap (48 + (V10 : Int)) = (Df : Int) := by rw [show 48 + (V10 : Int) = ((Df : Nat) : Int) by omega, u8w Df (by omega)]
     have hx0 : idx (0 : Int) nd = some 0 := idx_lt (i := 0) (show 0 < nd by omega)
     obtain ⟨Zf, hZf⟩ : ∃ Z, Z = A ++ (Y12 ++ (padV (nd - K12) u ++ B)) := ⟨_, rfl⟩
     have hG2 : hq12.get id = some ⟨g, false, Zf⟩ := by rw [hZf]; exact hG12
     have hpf := put_one (A := A) (Y := Y12) (T := padV (nd - K12) u ++ B) (k := 0) (b := V.d (.int .u8 (Df : Int))) (by have := hY12l; omega)
     rw [← hZf, hA, Nat.add_zero] at hpf
     have hlf : Nat.ble (off + 1) Zf.length = true := Nat.ble_eq_true_of_le (by rw [hZf]; simp [hA, hY12l]; omega)
     refine wkcek (jn @dI.eq_1 (jn @f1 (jn @w48 (jn @w49 (jn @hx0 (jn @hpf (jn @hlf (jn @hG2 (jn @ti50 (jn @ti141 @ti5)))))))))) ?_
     refine ⟨.inl rfl, [], rfl, rfl, rfl, hwi12.set (k := id) (.inl (by simp)), ?_⟩
     have hdd : V.d (.int .u8 (Df : Int)) = dv (V10) := by rw [hDf]; unfold dv; rw [Nat.mod_eq_of_lt hv9]
     show (Hp.set _ _ _).get id = _
     rw [Hp.get_set_self, hdd]
     obtain ⟨m, hm⟩ : ∃ m, nd = m + 1 := ⟨nd - 1, by omega⟩
     rw [hm, padV, show m + 1 - K12 = m by omega, hvv12, show nd - K12 = m by omega]; rfl
    ·simp at hb
     have hk0 : K12 = 0 := by omega
     have hY0 : Y12 = [] := List.length_eq_zero_iff.1 (hY12l.trans hk0)
     refine wkcek (@dI.eq_1) ?_
     refine ⟨.inl rfl, [], rfl, rfl, rfl, hwi12, ?_⟩
     have hG3 := hG12
     rw [hY0, hk0, Nat.sub_zero] at hG3
     exact hG3
  ·simp at hb
   have hkr4 : ¬ 4 ≤ k := by omega
   refine wkcek (@dI.eq_1) ?_
   show WP _ _ _ _ _ _
   refine WP.cond _ rfl (fun hb => ?_) (fun hb => ?_)
   ·simp at hb
    have hkrb2 : 2 ≤ k := by omega
    obtain ⟨K20, hK20⟩ : ∃ q, q = k := ⟨_, rfl⟩
    obtain ⟨Y20, hY20⟩ : ∃ q, q = Y0 := ⟨_, rfl⟩
    have hY20l : Y20.length = K20 := by rw [hY20, hK20]; exact hY0l
    obtain ⟨T20, hT20⟩ : ∃ T, T = padV (nd - k) u ++ B := ⟨_, rfl⟩
    have hG0 : hp'.get id = some ⟨g, false, A ++ (Y20 ++ T20)⟩ := by rw [hY20, hT20]; exact hG
    have hvb : v < 100000000 := Nat.lt_of_lt_of_le hvk (Nat.pow_le_pow_right (n := 10) (by omega) (show k ≤ 8 by omega))
    obtain ⟨V20, hV20⟩ : ∃ q, q = v / 100 := ⟨_, rfl⟩
    obtain ⟨p0, hp0⟩ : ∃ q, q = v % 100 := ⟨_, rfl⟩
    obtain ⟨S20, hS20⟩ : ∃ q, q = p0 * 2 := ⟨_, rfl⟩
    have e6 : IntKind.u32.wrap ((v : Int) / 100) = (V20 : Int) := by rw [u32w] <;> omega
    have e8 : (v : Int).tmod 100 = (p0 : Int) := by rw [Int.tmod_eq_emod_of_nonneg (by omega)]; omega
    have e9 : IntKind.u32.wrap ((p0 : Int) * 2) = (S20 : Int) := by rw [u32w] <;> omega
    refine wkcek (jn @dI.eq_1 (jn @e6 (jn @e8 (jn @e9 @ti141)))) ?_
    obtain ⟨K20a, hK20a⟩ : ∃ q, q = K20 - 1 := ⟨_, rfl⟩
    obtain ⟨K21, hK21⟩ : ∃ q, q = K20 - 2 := ⟨_, rfl⟩
    have hw20a : IntKind.i64.wrap ((k : Int) - 1) = (K20a : Int) := by rw [w_id'] <;> omega
    have hw20b : IntKind.i64.wrap ((k : Int) - 2) = (K21 : Int) := by rw [w_id'] <;> omega
    have hx20a : idx (K20a : Int) nd = some K20a := idx_lt (by omega)
    have hx20b : idx (K21 : Int) nd = some K21 := idx_lt (by omega)
    obtain ⟨R20, hR20⟩ : ∃ q, q = p0 * 2 + 1 := ⟨_, rfl⟩
    have hr20 : IntKind.u32.wrap ((S20 : Int) + 1) = (R20 : Int) := by rw [u32w] <;> omega
    have hi20a : idx (R20 : Int) 200 = some R20 := idx_lt (by omega)
    have hi20b : idx (S20 : Int) 200 = some S20 := idx_lt (by omega)
    have hs20a := sml R20 (by omega)
    have hs20b := sml S20 (by omega)
    obtain ⟨Z20, hZ20⟩ : ∃ Z, Z = A ++ (Y20 ++ T20) := ⟨_, rfl⟩
    obtain ⟨Z20a, hZ20a⟩ : ∃ Z, Z = A ++ (Y20.take K20a ++ (V.d (.int .u8 ((sm R20).toNat : Int)) :: T20)) := ⟨_, rfl⟩
    obtain ⟨Y21, hY21⟩ : ∃ Y, Y = (Y20.take K20a).take K21 := ⟨_, rfl⟩
    obtain ⟨T21, hT21⟩ : ∃ T, T = V.d (.int .u8 ((sm S20).toNat : Int)) :: V.d (.int .u8 ((sm R20).toNat : Int)) :: T20 := ⟨_, rfl⟩
    have hY21l : Y21.length = K21 := by rw [hY21, List.length_take, List.length_take]; omega
    have hp20a := put_one (A := A) (Y := Y20) (T := T20) (k := K20a) (b := V.d (.int .u8 ((sm R20).toNat : Int))) (by omega)
    rw [← hZ20, ← hZ20a, hA] at hp20a
    have hp20b := put_one (A := A) (Y := Y20.take K20a) (T := V.d (.int .u8 ((sm R20).toNat : Int)) :: T20) (k := K21) (b := V.d (.int .u8 ((sm S20).toNat : Int))) (by rw [List.length_take]; omega)
    rw [← hZ20a, hA, ← hY21, ← hT21] at hp20b
    have hl20a : Nat.ble (off + K20a + 1) Z20.length = true := Nat.ble_eq_true_of_le (by rw [hZ20]; simp [hA, hY20l]; omega)
    have hl20b : Nat.ble (off + K21 + 1) Z20a.length = true := Nat.ble_eq_true_of_le (by rw [hZ20a]; simp [hA, hY20l]; omega)
    apply WP.gen
    intro hq20 wq20 hhq20 hwq20
    have hg20 : hq20.get id = some ⟨g, false, Z20⟩ := by rw [hhq20, hZ20]; exact hG0
    have hwi20 : WI [id] n hp wq20 hq20 := by rw [hhq20, hwq20]; exact hwi
    clear hhq20 hwq20
    have hwl : IntKind.i64.wrap ((k : Int) - 2) = (K21 : Int) := by rw [w_id'] <;> omega
    repeat (first
 | apply WP.seq
 | (apply WP.reg; (case hR => dsimp only [prepL, prepO, List.map, gS, gZ]; exact iZ); (case hr => (repeat (first
 | (apply RT.op; simp [-addNew, f1, hg20, hw20a, hw20b, hx20a, hx20b, hr20, hi20a, hi20b, hs20a, hs20b, hp20a, hp20b, hl20a, hl20b, ti50, ti141, dI, hwl]; exact iZ; (try dsimp only [putEnv]) <;> exact rfl)
 | (apply RT.call; (iterate 2 simp; exact iZ); exact iZ; (iterate 4 simp [-addNew, f1, hg20, hw20a, hw20b, hx20a, hx20b, hr20, hi20a, hi20b, hs20a, hs20b, hp20a, hp20b, hl20a, hl20b, ti50, ti141, dI, hwl]; exact iZ); simp [Is]; (try dsimp only [putEnv]) <;> exact rfl; simp; exact iZ; exact iZ)
 | (apply RT.wr; simp [-addNew, f1, hg20, hw20a, hw20b, hx20a, hx20b, hr20, hi20a, hi20b, hs20a, hs20b, hp20a, hp20b, hl20a, hl20b, ti50, ti141, dI, hwl]; exact iZ; (try dsimp only [putEnv]) <;> exact rfl; simp [-addNew, f1, hg20, hw20a, hw20b, hx20a, hx20b, hr20, hi20a, hi20b, hs20a, hs20b, hp20a, hp20b, hl20a, hl20b, ti50, ti141, dI, hwl]; exact iZ; (iterate 2 exact iZ); exact iZ))); exact RT.nil); (case hc => first | (refine checkR_un [(0, 1), (0, 2), (0, 3), (1, 3), (2, 3), (0, 4), (1, 4), (2, 4), (3, 4), (0, 5), (1, 5), (2, 5), (3, 5), (0, 6), (1, 6), (2, 6), (3, 6), (4, 6), (5, 6), (0, 7), (1, 7), (2, 7), (3, 7), (4, 7), (5, 7), (0, 8), (1, 8), (2, 8), (3, 8), (4, 8), (5, 8), (0, 9), (1, 9), (2, 9), (3, 9), (4, 9), (5, 9), (6, 9), (7, 9), (8, 9), (0, 10), (1, 10), (2, 10), (3, 10), (4, 10), (5, 10), (6, 10), (7, 10), (8, 10), (3, 11), (4, 11), (5, 11), (9, 11), (10, 11), (3, 12), (4, 12), (5, 12), (9, 12), (10, 12)] (by kernel_rfl) (by decide +kernel) rfl ?_; simp [memA, disj, Hp.get_set]; done) | (show _ = _; kernel_rfl)); (case ht => simp [-addNew, f1, hg20, hw20a, hw20b, hx20a, hx20b, hr20, hi20a, hi20b, hs20a, hs20b, hp20a, hp20b, hl20a, hl20b, ti50, ti141, dI, hwl]; exact iZ))
 | apply WP.block | apply WP.skip | apply WP.exit | apply WP.ret | refine WP.condT rfl ?_ | refine WP.condF rfl ?_)
    apply WP.gen
    intro hq21 wq21 hhq21 hwq21
    have hTe : T21 = padV (nd - K21) u ++ B := by
     have hpp : ∀ j, u / 10 ^ (nd - k + j) = v / 10 ^ j := fun j => by rw [hv, Nat.pow_add, Nat.div_div_eq_div_mul]
     rw [show nd - K21 = nd - k + 1 + 1 by omega]
     have s0 := smv_lo p0 (by omega)
     have s1 := smv_hi p0 (by omega)
     rw [hT21, hR20, hS20, s0, s1, hT20]
     simp only [padV, List.cons_append]
     rw [hpp 1, show nd - k = nd - k + 0 by rfl, hpp 0]
     rw [dv_mod (p0) (v / 10 ^ 0) (by simp; omega), dv_mod (p0 / 10) (v / 10 ^ 1) (by simp; omega)]
    have hG21 : hq21.get id = some ⟨g, false, A ++ (Y21 ++ (padV (nd - K21) u ++ B))⟩ := by rw [hhq21, ← hTe]; simp [Hp.get_set]
    have hwi21 : WI [id] n hp wq21 hq21 := by rw [hhq21, hwq21]; exact (hwi20.set (k := id) (.inl (by simp))).set (k := id) (.inl (by simp))
    have hvv21 : V20 = u / 10 ^ (nd - K21) := by rw [hV20, hv, show nd - K21 = nd - k + 2 by omega, Nat.pow_add, Nat.div_div_eq_div_mul]
    have hvk21 : V20 < 10 ^ K21 := by
     rw [hV20]
     have : v < 10 ^ K21 * 100 := by
      rw [show (100 : Nat) = 10 ^ 2 by rfl, ← Nat.pow_add, show K21 + 2 = k by omega]; exact hvk
     omega
    clear hhq21 hwq21 hTe
    show WP _ _ _ _ _ _
    refine WP.cond _ rfl (fun hb => ?_) (fun hb => ?_)
    ·simp at hb
     have hzrba : 0 < K21 := by omega
     have hk1 : K21 = 1 := by omega
     have hv9 : V20 < 10 := by have := hvk21; rw [hk1] at this; simpa using this
     have w48 : IntKind.u32.wrap (48 + (V20 : Int)) = 48 + (V20 : Int) := by rw [u32w] <;> omega
     obtain ⟨Df, hDf⟩ : ∃ q, q = 48 + V20 := ⟨_, rfl⟩
     have w49 : IntKind.u8.wrap (48 + (V20 : Int)) = (Df : Int) := by rw [show 48 + (V20 : Int) = ((Df : Nat) : Int) by omega, u8w Df (by omega)]
     have hx0 : idx (0 : Int) nd = some 0 := idx_lt (i := 0) (show 0 < nd by omega)
     obtain ⟨Zf, hZf⟩ : ∃ Z, Z = A ++ (Y21 ++ (padV (nd - K21) u ++ B)) := ⟨_, rfl⟩
     have hG2 : hq21.get id = some ⟨g, false, Zf⟩ := by rw [hZf]; exact hG21
     have hpf := put_one (A := A) (Y := Y21) (T := padV (nd - K21) u ++ B) (k := 0) (b := V.d (.int .u8 (Df : Int))) (by have := hY21l; omega)
     rw [← hZf, hA, Nat.add_zero] at hpf
     have hlf : Nat.ble (off + 1) Zf.length = true := Nat.ble_eq_true_of_le (by rw [hZf]; simp [hA, hY21l]; omega)
     refine wkcek (jn @dI.eq_1 (jn @f1 (jn @w48 (jn @w49 (jn @hx0 (jn @hpf (jn @hlf (jn @hG2 (jn @ti50 (jn @ti141 @ti5)))))))))) ?_
     refine ⟨.inl rfl, [], rfl, rfl, rfl, hwi21.set (k := id) (.inl (by simp)), ?_⟩
     have hdd : V.d (.int .u8 (Df : Int)) = dv (V20) := by rw [hDf]; unfold dv; rw [Nat.mod_eq_of_lt hv9]
     show (Hp.set _ _ _).get id = _
     rw [Hp.get_set_self, hdd]
     obtain ⟨m, hm⟩ : ∃ m, nd = m + 1 := ⟨nd - 1, by omega⟩
     rw [hm, padV, show m + 1 - K21 = m by omega, hvv21, show nd - K21 = m by omega]; rfl
    ·simp at hb
     have hk0 : K21 = 0 := by omega
     have hY0 : Y21 = [] := List.length_eq_zero_iff.1 (hY21l.trans hk0)
     refine wkcek (@dI.eq_1) ?_
     refine ⟨.inl rfl, [], rfl, rfl, rfl, hwi21, ?_⟩
     have hG3 := hG21
     rw [hY0, hk0, Nat.sub_zero] at hG3
     exact hG3
   ·simp at hb
    have hkrb2 : ¬ 2 ≤ k := by omega
    refine wkcek (@dI.eq_1) ?_
    show WP _ _ _ _ _ _
    refine WP.cond _ rfl (fun hb => ?_) (fun hb => ?_)
    ·simp at hb
     have hzrbb : 0 < k := by omega
     have hk1 : k = 1 := by omega
     have hv9 : v < 10 := by have := hvk; rw [hk1] at this; simpa using this
     have w48 : IntKind.u32.wrap (48 + (v : Int)) = 48 + (v : Int) := by rw [u32w] <;> omega
     obtain ⟨Df, hDf⟩ : ∃ q, q = 48 + v := ⟨_, rfl⟩
     have w49 : IntKind.u8.wrap (48 + (v : Int)) = (Df : Int) := by rw [show 48 + (v : Int) = ((Df : Nat) : Int) by omega, u8w Df (by omega)]
     have hx0 : idx (0 : Int) nd = some 0 := idx_lt (i := 0) (show 0 < nd by omega)
     obtain ⟨Zf, hZf⟩ : ∃ Z, Z = A ++ (Y0 ++ (padV (nd - k) u ++ B)) := ⟨_, rfl⟩
     have hG2 : hp'.get id = some ⟨g, false, Zf⟩ := by rw [hZf]; exact hG
     have hpf := put_one (A := A) (Y := Y0) (T := padV (nd - k) u ++ B) (k := 0) (b := V.d (.int .u8 (Df : Int))) (by have := hY0l; omega)
     rw [← hZf, hA, Nat.add_zero] at hpf
     have hlf : Nat.ble (off + 1) Zf.length = true := Nat.ble_eq_true_of_le (by rw [hZf]; simp [hA, hY0l]; omega)
     refine wkcek (jn @dI.eq_1 (jn @f1 (jn @w48 (jn @w49 (jn @hx0 (jn @hpf (jn @hlf (jn @hG2 (jn @ti50 (jn @ti141 @ti5)))))))))) ?_
     refine ⟨.inl rfl, [], rfl, rfl, rfl, hwi.set (k := id) (.inl (by simp)), ?_⟩
     have hdd : V.d (.int .u8 (Df : Int)) = dv (v) := by rw [hDf]; unfold dv; rw [Nat.mod_eq_of_lt hv9]
     show (Hp.set _ _ _).get id = _
     rw [Hp.get_set_self, hdd]
     obtain ⟨m, hm⟩ : ∃ m, nd = m + 1 := ⟨nd - 1, by omega⟩
     rw [hm, padV, show m + 1 - k = m by omega, hv, show nd - k = m by omega]; rfl
    ·simp at hb
     have hk0 : k = 0 := by omega
     have hY0 : Y0 = [] := List.length_eq_zero_iff.1 (hY0l.trans hk0)
     refine wkcek (@dI.eq_1) ?_
     refine ⟨.inl rfl, [], rfl, rfl, rfl, hwi, ?_⟩
     have hG3 := hG
     rw [hY0, hk0, Nat.sub_zero] at hG3
     exact hG3
end
end Go.Ac
