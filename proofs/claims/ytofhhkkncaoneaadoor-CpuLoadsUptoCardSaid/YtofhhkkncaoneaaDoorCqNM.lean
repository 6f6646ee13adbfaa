/- The machines: small functions. -/
import Derived.Test.YtofhhkkncaoneaaDoorAcBM
import Derived.Test.YtofhhkkncaoneaaDoorAcDM
import Derived.Test.YtofhhkkncaoneaaDoorAcGM
import Derived.Test.YtofhhkkncaoneaaDoorAcJM
import Derived.Test.YtofhhkkncaoneaaDoorAcMM
import Derived.Test.YtofhhkkncaoneaaDoorAcOM
import Derived.Test.YtofhhkkncaoneaaDoorAcSM
import Derived.Test.YtofhhkkncaoneaaDoorAcXM
import Derived.Test.YtofhhkkncaoneaaDoorAcUcM
import Derived.Test.YtofhhkkncaoneaaDoorAcThM
import Derived.Test.YtofhhkkncaoneaaDoorCpBM
import Derived.Test.YtofhhkkncaoneaaDoorCpD
import Derived.Test.YtofhhkkncaoneaaDoorCpIM
import Derived.Test.YtofhhkkncaoneaaDoorCpK
import Derived.Test.YtofhhkkncaoneaaDoorCrTM
import Derived.Test.YtofhhkkncaoneaaDoorCqFM
import Derived.Test.YtofhhkkncaoneaaDoorCqIM
import Derived.Calls
import Derived.Orders
import Derived.Laws.World
import Derived.Laws.Sem
import Derived.Laws.Cells
import Derived.Laws.Append
import GoSem.ClaimData
import Derived.Laws.Tables
import Derived.Laws.Slices
import Derived.Laws.Strings
import Derived.Laws.Small
import Derived.KernelRfl
import Derived.Test.YtofhhkkncaoneaaDoorChecked
import Derived.Lib.RuneCount
set_option linter.unusedVariables false
set_option linter.unusedSimpArgs false
section
set_option maxRecDepth 4000
set_option linter.unusedSimpArgs false
set_option linter.unusedVariables false
namespace Go.Ac
open Go.Proofs

theorem putAt_zero (l : List Int) (k : Nat) : putAt l k [] = l := by unfold putAt; simp
theorem putAt_step {l xs : List Int} {k j : Nat} {x : Int} (h : xs[j]? = some x) (hk : k + xs.length ≤ l.length) : (putAt l k (xs.take j)).set (k + j) x = putAt l k (xs.take (j + 1)) := by
  obtain ⟨hl, he⟩ := List.getElem?_eq_some_iff.1 h
  have h1 : (l.take k ++ xs.take j).length = k + j := by simp; omega
  have h2 : (xs.take j).length = j := by simp; omega
  have h3 : (xs.take (j + 1)).length = j + 1 := by simp; omega
  unfold putAt
  rw [List.set_append_right _ _ (by omega), h1, Nat.sub_self, h2, h3, List.take_add_one, h]
  have h4 : k + j < l.length := by omega
  rw [List.drop_eq_getElem_cons h4]
  simp [List.set_cons_zero, Nat.add_assoc]
section
variable {q : Rt} {hp0 hp1 : Hp} {n m idc gc g g0 g1 c1 mid mg base R D A B C : Nat} {K at_ : Int} {wl1 ids0 : List Nat} {regs outs : List Int} {ia : List V}

set_option maxHeartbeats 1000000 in
theorem rput_outs (hR : regs.length = R) (hRl : R ≤ 100000) (hD : D + outs.length ≤ R) (hx : hp1.get (n + 2) = some ⟨g1, false, [V.d (Ac.D.int IntKind.i64 9), V.d (Ac.D.int IntKind.i64 A), V.d (Ac.D.int IntKind.i64 B), V.d (Ac.D.int IntKind.i64 C), V.d (Ac.D.int IntKind.i64 D)]⟩) (h1 : hp1.get (n + 1) = some ⟨g, false, cI regs⟩) (hw : WI ids0 n hp0 wl1 hp1) (hm : n + 3 ≤ m) :
    WP Tryd.prog Cp.cfg 32 (inside Tryd.f32 5) ⟨[(0, .ptr idc gc 0), (2, dI base), (10, .ptr n g0 0), (11, .osl (n + 1) g 0 R 1 (some R)), (13, dI K), (14, dI at_), (15, .ptr (n + 2) g1 0), (18, dL outs), (20, dI 0)], hp1, m, c1, n, wl1⟩
      (fun e t => e = .exit 5 ∧ ∃ hp' c' wl', hp'.get (n + 1) = some ⟨g, false, cI (putAt regs D outs)⟩ ∧ (∀ t, t < m → t ≠ n + 1 → hp'.get t = hp1.get t) ∧ WI ids0 n hp0 wl' hp' ∧ ∃ tail, t = ⟨(0, .ptr idc gc 0) :: (2, dI base) :: (10, .ptr n g0 0) :: (11, .osl (n + 1) g 0 R 1 (some R)) :: (13, dI K) :: (14, dI at_) :: tail, hp', m, c', n, wl'⟩) := by
  refine WP.loop' (I := fun d s => ∃ j : Nat, j + d = outs.length ∧ ∃ hp' c' wl', hp'.get (n + 1) = some ⟨g, false, cI (putAt regs D (outs.take j))⟩ ∧ (∀ t, t < m → t ≠ n + 1 → hp'.get t = hp1.get t) ∧ WI ids0 n hp0 wl' hp' ∧ s = ⟨[(0, .ptr idc gc 0), (2, dI base), (10, .ptr n g0 0), (11, .osl (n + 1) g 0 R 1 (some R)), (13, dI K), (14, dI at_), (15, .ptr (n + 2) g1 0), (18, dL outs), (20, dI j)], hp', m, c', n, wl'⟩) (d := outs.length) ?_ ?_
  · exact ⟨0, by simp, hp1, c1, wl1, by rw [h1]; simp [putAt_zero], fun _ _ _ => rfl, hw, rfl⟩
  rintro d _ ⟨j, hj, hp', c', wl', a1, a2, a3, rfl⟩
  refine wkek (And.intro @dI.eq_1 @dL.eq_1) ?_
  show WP _ _ _ _ _ _
  refine WP.cond _ rfl (fun hb => ?_) (fun hb => ?_)
  · simp at hb
    have hb' : j < outs.length := hb
    have hv := rgv_at hb'
    have hv3 := encI_at hv
    have hs := putAt_step (l := regs) (k := D) hv (by omega)
    have hlen : (putAt regs D (outs.take j)).length = R := by rw [putAt_len (by simp; omega), hR]
    have hx' := (a2 (n + 2) (by omega) (by omega)).trans hx
    have jR : D + j < R := by omega
    have l1 : (D + j + 1 ≤ R) = True := by simp; omega
    have l2 : (n + 1 < m) = True := by simp; omega
    have hput := cI_put (l := putAt regs D (outs.take j)) (j := D + j) (by omega) (rgv outs j)
    rw [hs] at hput
    have hw2 := w_succ hb' (by omega)
    have hw3 : IntKind.i64.wrap ((D : Int) + j) = (D : Int) + j := by rw [w_id'] <;> omega
    refine wkcek (And.intro @dI.eq_1 (And.intro @dL.eq_1 (And.intro (idx_lt hb') (And.intro (idx_add jR) (And.intro @a1 (And.intro @hput (And.intro @cI_len (And.intro @nble_d (And.intro @hlen (And.intro @l1 (And.intro @l2 (And.intro @hx' (And.intro @hw3 @hv3))))))))))))) ?_
    refine loop_next (by simp [-addNew, hw2]; exact Is.rfl) ?_
    refine ⟨d - 1, by omega, j + 1, by omega, _, _, _, ?_, fun t x1 x2 => ?_, (a3.set (k := n + 1) (.inr (by omega))).trunc (m := m) (by omega), by rfl⟩
    · rw [Hp.get_trunc _ _ _ (by omega), Hp.get_set_self]
    · rw [Hp.get_trunc _ _ _ (by omega), Hp.get_set_ne _ _ _ _ (by omega), a2 t x1 x2]
  · simp at hb
    have hje : j = outs.length := by omega
    subst hje
    refine wkek True.intro ?_
    exact ⟨rfl, hp', c', wl', by rw [a1, List.take_length], a2, a3, _, by rfl⟩

set_option maxHeartbeats 1000000 in
theorem rput_init {mem : List Int} {q2 : Rt} {ro : Bool} {e0 e1 last : V} {cap : Option Nat} {g2 : Nat} (hml : mem.length ≤ 1000000) (hD : base + B + q2.ini.length ≤ mem.length) (hx : hp1.get (n + 2) = some ⟨g1, false, [V.d (Ac.D.int IntKind.i64 10), V.d (Ac.D.int IntKind.i64 A), V.d (Ac.D.int IntKind.i64 B), V.d (Ac.D.int IntKind.i64 0), V.d (Ac.D.int IntKind.i64 0)]⟩)
    (hg : hp1.get (n + 3) = some ⟨g2, false, [V.d (.str q2.nm), V.d (.slice (encI q2.inn)), V.d (.slice (encI q2.out)), V.d (.int IntKind.i64 q2.regs), V.d (.slice (encI q2.ini)), V.d (.slice (encC q2.code))]⟩) (hC : hp1.get idc = some ⟨gc, ro, [e0, e1, .osl mid mg 0 mem.length 1 cap, last]⟩)
    (h1 : hp1.get mid = some ⟨mg, false, cI mem⟩) (hw : WI ids0 n hp0 wl1 hp1) (hm : n + 4 ≤ m) (hids : mid ∈ ids0) (d2 : idc ≠ mid) (q1 : idc < n) (q2l : mid < n) :
    WP Tryd.prog Cp.cfg 32 (inside Tryd.f32 7) ⟨[(0, .ptr idc gc 0), (2, dI base), (10, .ptr n g0 0), (11, .osl (n + 1) g 0 R 1 (some R)), (13, dI K), (14, dI at_), (15, .ptr (n + 2) g1 0), (21, .ptr (n + 3) g2 0), (22, dI 0)], hp1, m, c1, n, wl1⟩
      (fun e t => e = .exit 7 ∧ ∃ hp' c' wl', hp'.get mid = some ⟨mg, false, cI (putAt mem (base + B) q2.ini)⟩ ∧ (∀ t, t < m → t ≠ mid → hp'.get t = hp1.get t) ∧ WI ids0 n hp0 wl' hp' ∧ ∃ tail, t = ⟨(0, .ptr idc gc 0) :: (2, dI base) :: (10, .ptr n g0 0) :: (11, .osl (n + 1) g 0 R 1 (some R)) :: (13, dI K) :: (14, dI at_) :: tail, hp', m, c', n, wl'⟩) := by
  refine WP.loop' (I := fun d s => ∃ j : Nat, j + d = q2.ini.length ∧ ∃ hp' c' wl', hp'.get mid = some ⟨mg, false, cI (putAt mem (base + B) (q2.ini.take j))⟩ ∧ (∀ t, t < m → t ≠ mid → hp'.get t = hp1.get t) ∧ WI ids0 n hp0 wl' hp' ∧ s = ⟨[(0, .ptr idc gc 0), (2, dI base), (10, .ptr n g0 0), (11, .osl (n + 1) g 0 R 1 (some R)), (13, dI K), (14, dI at_), (15, .ptr (n + 2) g1 0), (21, .ptr (n + 3) g2 0), (22, dI j)], hp', m, c', n, wl'⟩) (d := q2.ini.length) ?_ ?_
  · exact ⟨0, by simp, hp1, c1, wl1, by rw [h1]; simp [putAt_zero], fun _ _ _ => rfl, hw, rfl⟩
  rintro d _ ⟨j, hj, hp', c', wl', a1, a2, a3, rfl⟩
  have hg' := (a2 (n + 3) (by omega) (by omega)).trans hg
  refine wkek (And.intro @dI.eq_1 (And.intro @dL.eq_1 @hg')) ?_
  show WP _ _ _ _ _ _
  refine WP.cond _ rfl (fun hb => ?_) (fun hb => ?_)
  · simp at hb
    have hb' : j < q2.ini.length := hb
    have hv := rgv_at hb'
    have hv3 := encI_at hv
    have hs := putAt_step (l := mem) (k := base + B) hv (by omega)
    have hlen : (putAt mem (base + B) (q2.ini.take j)).length = mem.length := by rw [putAt_len (by simp; omega)]
    have hx' := (a2 (n + 2) (by omega) (by omega)).trans hx
    have hC' := (a2 idc (by omega) d2).trans hC
    have jR : base + B + j < mem.length := by omega
    have jR' := idx_add jR
    rw [Int.natCast_add] at jR'
    have l1 : (base + B + j + 1 ≤ mem.length) = True := by simp; omega
    have l2 : (mid < m) = True := by simp; omega
    have hput := cI_put (l := putAt mem (base + B) (q2.ini.take j)) (j := base + B + j) (by omega) (rgv q2.ini j)
    rw [hs] at hput
    have hw2 := w_succ hb' (by omega)
    have hw3 : IntKind.i64.wrap ((base : Int) + B) = (base : Int) + B := by rw [w_id'] <;> omega
    have hw4 : IntKind.i64.wrap ((base : Int) + B + j) = (base : Int) + B + j := by rw [w_id'] <;> omega
    refine wkcek (And.intro @dI.eq_1 (And.intro @dL.eq_1 (And.intro (idx_lt hb') (And.intro @jR' (And.intro @a1 (And.intro @hput (And.intro @cI_len (And.intro @nble_d (And.intro @hlen (And.intro @l1 (And.intro @l2 (And.intro @hx' (And.intro @hC' (And.intro @hg' (And.intro @hw3 (And.intro @hw4 @hv3)))))))))))))))) ?_
    refine loop_next (by simp [-addNew, hw2]; exact Is.rfl) ?_
    refine ⟨d - 1, by omega, j + 1, by omega, _, _, _, ?_, fun t x1 x2 => ?_, (a3.set (k := mid) (.inl hids)).trunc (m := m) (by omega), by rfl⟩
    · rw [Hp.get_trunc _ _ _ (by omega), Hp.get_set_self]
    · rw [Hp.get_trunc _ _ _ (by omega), Hp.get_set_ne _ _ _ _ (fun h => x2 h.symm), a2 t x1 x2]
  · simp at hb
    have hje : j = q2.ini.length := by omega
    subst hje
    refine wkek True.intro ?_
    exact ⟨rfl, hp', c', wl', by rw [a1, List.take_length], a2, a3, _, by rfl⟩
end
end Go.Ac
end

section
set_option maxRecDepth 4000
set_option linter.unusedSimpArgs false
set_option linter.unusedVariables false
namespace Go.Ac
open Go.Proofs

theorem blockQ_ex {i : Nat} {Q : Ex → St → Prop} {t : St} (h : Q .normal t) : blockQ i Q (.exit i) t := by
  simp only [blockQ, Nat.beq_refl]; exact h
/-- The reference's machine executes the routines below f as the plain machine does. -/
def RExecOK (im : Im) (f : Nat) : Prop := ∀ (k : Nat) (q : Rt), k < f → im.rs[k]? = some q → ∀ (hp : Hp) (n c idc gc mid mg base : Nat) (cap : Option Nat) (last v : V) (ins mem : List Int),
  CAt im hp idc gc [.osl mid mg 0 mem.length 1 cap, last] → hp.get mid = some ⟨mg, false, cI mem⟩ → idc ≠ mid → idc < n → mid < n → InV hp n v ins → ins.length = q.inn.length → base + q.ini.length ≤ mem.length → mem.length ≤ 1000000 →
  RCallAt hp n c idc gc mid mg k base v (callM im.rs f k base ins mem).1 (callM im.rs f k base ins mem).2.1 (callM im.rs f k base ins mem).2.2

section
variable {im : Im} {q : Rt} {hp0 : Hp} {n idc gc g g0 mid mg base R M k : Nat} {cap : Option Nat} {last : V}

set_option maxHeartbeats 4000000 in
theorem round_reset {f K at_ c' : Nat} {regs mem : List Int} {hp' : Hp} {wl' : List Nat} {ro : Bool} (A B : Nat) (p2 : Rt) (hq2 : im.rs[A]? = some p2) (hB : base + B + p2.ini.length ≤ mem.length) (hml : mem.length ≤ 1000000) (hi : q.code[at_]? = some ⟨10, A, B, 0, 0⟩) (hat : at_ < 1000000) (h5 : regs.length = R) (d2 : idc ≠ mid) (q1 : idc < n) (q2 : mid < n) (hC : hp0.get idc = some ⟨gc, ro, [V.d (.slice (encI im.enums)), V.d (.slice (encR im.rs)), .osl mid mg 0 mem.length 1 cap, last]⟩) (hF : RF q hp0 hp' n g0 g idc mid mg R regs mem) (gw : WI [mid] n hp0 wl' hp') : Round im q hp0 n idc gc g g0 mid mg base R f K at_ c' ⟨10, A, B, 0, 0⟩ regs mem hp' wl' := by
  have hix := idx_lt (by obtain ⟨h, _⟩ := List.getElem?_eq_some_iff.1 hi; exact h : at_ < q.code.length)
  have hi2 := encC_at hi
  obtain ⟨a1, a2, a3, a4, a5, a6, a7, a8, a9, b1, b2, b3, b4, b5, b6, b7, c1, c2, c3, e1, e2, e3, e4, e5⟩ := rpF d2 q1 q2
  have hx := hF.x
  have hr := hF.r
  have hm := hF.m
  have hc := hF.c.trans hC
  have hw : IntKind.i64.wrap ((at_ : Int) + 1) = ((at_ + 1 : Nat) : Int) := by rw [w_id'] <;> omega
  have w1 : IntKind.i64.wrap (IntKind.i64.wrap K + 1) = IntKind.i64.wrap ((K + 1 : Nat) : Int) := by rw [wrap_add]; rfl
  have hst : stepM im.rs (callM im.rs f) base at_ ⟨10, A, B, 0, 0⟩ regs mem = (at_ + 1, regs, putAt mem (base + B) p2.ini, 0) := by simp [stepM, rtAt_nat hq2]
  unfold Round rQ
  rw [hst]
  have hq' := encR_at hq2
  have hix2 := idx_lt (by obtain ⟨h, _⟩ := List.getElem?_eq_some_iff.1 hq2; exact h : A < im.rs.length)
  repeat (first
 | apply WP.seq
 | (apply WP.reg; (case hR => dsimp only [prepL, prepO, List.map, gS, gZ]; exact iZ); (case hr => (repeat (first
 | (apply RT.op; simp [dI, dB, -addNew, Hp.get_set, hx, hr, hm, hc, hix, hi2, I.cells, hw, w1, a1, a2, a3, a4, a5, a6, a7, b2, b3, b4, b5, b6, cI_len, nble_d, c1, c2, c3, hq', hix2, Rt.cells]; exact iZ; (try dsimp only [putEnv]) <;> exact rfl)
 | (apply RT.call; (iterate 2 simp; exact iZ); exact iZ; (iterate 4 simp [dI, dB, -addNew, Hp.get_set, hx, hr, hm, hc, hix, hi2, I.cells, hw, w1, a1, a2, a3, a4, a5, a6, a7, b2, b3, b4, b5, b6, cI_len, nble_d, c1, c2, c3, hq', hix2, Rt.cells]; exact iZ); simp [Is]; (try dsimp only [putEnv]) <;> exact rfl; simp; exact iZ; exact iZ)
 | (apply RT.callT (hd := hT1) (hk := hT2); (iterate 2 simp; exact iZ); exact iZ; (iterate 2 simp [dI, dB, -addNew, Hp.get_set, hx, hr, hm, hc, hix, hi2, I.cells, hw, w1, a1, a2, a3, a4, a5, a6, a7, b2, b3, b4, b5, b6, cI_len, nble_d, c1, c2, c3, hq', hix2, Rt.cells]; exact iZ); (try dsimp only [putEnv]) <;> exact rfl)
 | (apply RT.wr; simp [dI, dB, -addNew, Hp.get_set, hx, hr, hm, hc, hix, hi2, I.cells, hw, w1, a1, a2, a3, a4, a5, a6, a7, b2, b3, b4, b5, b6, cI_len, nble_d, c1, c2, c3, hq', hix2, Rt.cells]; exact iZ; (try dsimp only [putEnv]) <;> exact rfl; simp [dI, dB, -addNew, Hp.get_set, hx, hr, hm, hc, hix, hi2, I.cells, hw, w1, a1, a2, a3, a4, a5, a6, a7, b2, b3, b4, b5, b6, cI_len, nble_d, c1, c2, c3, hq', hix2, Rt.cells]; exact iZ; (iterate 2 exact iZ); exact iZ))); exact RT.nil); (case hc => first | (refine checkR_un [(0, 5), (1, 5), (2, 5), (3, 5), (4, 5), (0, 6), (1, 6), (2, 6), (3, 6), (4, 6), (0, 9), (1, 9), (2, 9), (3, 9), (4, 9), (5, 9), (6, 9), (7, 9), (8, 9)] (by kernel_rfl) (by kernel_rfl) rfl ?_; simp [memA, disj, e1, e2, e3, e4, e5]; done) | (show _ = _; kernel_rfl)); (case ht => simp [dI, dB, -addNew, Hp.get_set, hx, hr, hm, hc, hix, hi2, I.cells, hw, w1, a1, a2, a3, a4, a5, a6, a7, b2, b3, b4, b5, b6, cI_len, nble_d, c1, c2, c3, hq', hix2, Rt.cells]; exact iZ))
 | apply WP.block | apply WP.skip | apply WP.exit | apply WP.ret | refine WP.condT rfl ?_ | refine WP.condF rfl ?_)
  apply WP.gen
  intro hp1 wl1 hhp hwl
  have w2 : WI [mid] n hp0 wl1 hp1 := by
    rw [hhp, hwl]
    exact ((((gw.set (.inr (by omega))).set (.inr (by omega))).set (.inr (by omega))).set (.inr (by omega)))
  have hfr : ∀ j, j < n + 2 → hp1.get j = hp'.get j := fun j hj => by
    rw [hhp]
    have f1 : ¬ n + 2 = j := by omega
    have f2 : ¬ n + 2 + 1 = j := by omega
    simp [Hp.get_set, f1, f2]
  have k2 : hp1.get (n + 2) = some ⟨c', false, [V.d (Ac.D.int IntKind.i64 10), V.d (Ac.D.int IntKind.i64 A), V.d (Ac.D.int IntKind.i64 B), V.d (Ac.D.int IntKind.i64 0), V.d (Ac.D.int IntKind.i64 0)]⟩ := by rw [hhp]; simp [Hp.get_set, b4]
  have k3 : hp1.get (n + 3) = some ⟨c' + 1, false, [V.d (.str p2.nm), V.d (.slice (encI p2.inn)), V.d (.slice (encI p2.out)), V.d (.int IntKind.i64 p2.regs), V.d (.slice (encI p2.ini)), V.d (.slice (encC p2.code))]⟩ := by rw [hhp]; simp [Hp.get_set]
  clear hhp hwl
  refine WP.mono (rput_init hml hB k2 k3 ((hfr idc (by omega)).trans hc) ((hfr mid (by omega)).trans hm) w2 (Nat.le_refl _) (by simp) d2 q1 q2) ?_
  rintro e t ⟨rfl, hp2, c2, wl2, x1, x2, x3, tail, rfl⟩
  refine blockQ_ex (blockQ_nn ?_)
  refine ⟨rfl, _, _, _, hF.put ?_ ?_ ?_ x1, x3, _, _, ?_, by rfl⟩
  · rw [x2 _ (by omega) (by omega), hfr _ (by omega)]
  · rw [x2 _ (by omega) (by omega), hfr _ (by omega), hr]
  · rw [x2 _ (by omega) d2, hfr _ (by omega)]
  · omega
set_option maxHeartbeats 4000000 in
theorem round_call {f K at_ c' : Nat} {regs mem : List Int} {hp' : Hp} {wl' : List Nat} {ro : Bool} (A B C D : Nat) (p2 : Rt) (hq2 : im.rs[A]? = some p2) (hkf : A < f) (hE : RExecOK im f) (hL : CallOk im.rs f (callM im.rs f)) (hB : base + B + p2.ini.length ≤ mem.length) (hCr : C + p2.inn.length ≤ R) (hDr : D + p2.out.length ≤ R) (hR : R ≤ 100000) (hml : mem.length ≤ 1000000) (hi : q.code[at_]? = some ⟨9, A, B, C, D⟩) (hat : at_ < 1000000) (h5 : regs.length = R) (d2 : idc ≠ mid) (q1 : idc < n) (q2 : mid < n) (hC : hp0.get idc = some ⟨gc, ro, [V.d (.slice (encI im.enums)), V.d (.slice (encR im.rs)), .osl mid mg 0 mem.length 1 cap, last]⟩) (hF : RF q hp0 hp' n g0 g idc mid mg R regs mem) (gw : WI [mid] n hp0 wl' hp') : Round im q hp0 n idc gc g g0 mid mg base R f K at_ c' ⟨9, A, B, C, D⟩ regs mem hp' wl' := by
  have hix := idx_lt (by obtain ⟨h, _⟩ := List.getElem?_eq_some_iff.1 hi; exact h : at_ < q.code.length)
  have hi2 := encC_at hi
  obtain ⟨a1, a2, a3, a4, a5, a6, a7, a8, a9, b1, b2, b3, b4, b5, b6, b7, c1, c2, c3, e1, e2, e3, e4, e5⟩ := rpF d2 q1 q2
  have hx := hF.x
  have hr := hF.r
  have hm := hF.m
  have hc := hF.c.trans hC
  have hw : IntKind.i64.wrap ((at_ : Int) + 1) = ((at_ + 1 : Nat) : Int) := by rw [w_id'] <;> omega
  have w1 : IntKind.i64.wrap (IntKind.i64.wrap K + 1) = IntKind.i64.wrap ((K + 1 : Nat) : Int) := by rw [wrap_add]; rfl
  have hst : stepM im.rs (callM im.rs f) base at_ ⟨9, A, B, C, D⟩ regs mem = (at_ + 1, putAt regs D (callM im.rs f A (base + B) ((regs.drop C).take p2.inn.length) mem).1, (callM im.rs f A (base + B) ((regs.drop C).take p2.inn.length) mem).2.1, (callM im.rs f A (base + B) ((regs.drop C).take p2.inn.length) mem).2.2) := by simp [stepM, rtAt_nat hq2]
  unfold Round rQ
  rw [hst]
  have hp2l : p2.inn.length = ((regs.drop C).take p2.inn.length).length := by simp; omega
  have hq' := encR_at hq2
  have hix2 := idx_lt (by obtain ⟨h, _⟩ := List.getElem?_eq_some_iff.1 hq2; exact h : A < im.rs.length)
  have w3 : IntKind.i64.wrap ((base : Int) + B) = (base : Int) + B := by rw [w_id'] <;> omega
  have w4 : IntKind.i64.wrap ((C : Int) + p2.inn.length) = ((C + p2.inn.length : Nat) : Int) := by rw [w_id'] <;> omega
  have t2 : ((C : Int) + p2.inn.length).toNat = C + p2.inn.length := by omega
  have y1 : (0 ≤ (C : Int) + p2.inn.length) = True := by simp; omega
  have y2 : (C ≤ C + p2.inn.length) = True := by simp
  have y3 : (C + p2.inn.length ≤ R) = True := by simp; omega
  have y4 : fitsB p2.inn.length 8 = true := by simp [fitsB]; omega
  have y5 : (C + p2.inn.length ≤ regs.length) = True := by simp; omega
  have y6 : fitsB 0 8 = true := rfl
  have y7 : ((0 : Int) ≤ C) = True := by simp
  repeat (first
 | apply WP.seq
 | (apply WP.reg; (case hR => dsimp only [prepL, prepO, List.map, gS, gZ]; exact iZ); (case hr => (repeat (first
 | (apply RT.op; simp [dI, dB, -addNew, Hp.get_set, hx, hr, hm, hc, hix, hi2, I.cells, hw, w1, a1, a2, a3, a4, a5, a6, a7, b2, b3, b4, b5, b6, cI_len, nble_d, c1, c2, c3, hq', hix2, Rt.cells]; exact iZ; (try dsimp only [putEnv]) <;> exact rfl)
 | (apply RT.call; (iterate 2 simp; exact iZ); exact iZ; (iterate 4 simp [dI, dB, -addNew, Hp.get_set, hx, hr, hm, hc, hix, hi2, I.cells, hw, w1, a1, a2, a3, a4, a5, a6, a7, b2, b3, b4, b5, b6, cI_len, nble_d, c1, c2, c3, hq', hix2, Rt.cells]; exact iZ); simp [Is]; (try dsimp only [putEnv]) <;> exact rfl; simp; exact iZ; exact iZ)
 | (apply RT.callT (hd := hT1) (hk := hT2); (iterate 2 simp; exact iZ); exact iZ; (iterate 2 simp [dI, dB, -addNew, Hp.get_set, hx, hr, hm, hc, hix, hi2, I.cells, hw, w1, a1, a2, a3, a4, a5, a6, a7, b2, b3, b4, b5, b6, cI_len, nble_d, c1, c2, c3, hq', hix2, Rt.cells]; exact iZ); (try dsimp only [putEnv]) <;> exact rfl)
 | (apply RT.wr; simp [dI, dB, -addNew, Hp.get_set, hx, hr, hm, hc, hix, hi2, I.cells, hw, w1, a1, a2, a3, a4, a5, a6, a7, b2, b3, b4, b5, b6, cI_len, nble_d, c1, c2, c3, hq', hix2, Rt.cells]; exact iZ; (try dsimp only [putEnv]) <;> exact rfl; simp [dI, dB, -addNew, Hp.get_set, hx, hr, hm, hc, hix, hi2, I.cells, hw, w1, a1, a2, a3, a4, a5, a6, a7, b2, b3, b4, b5, b6, cI_len, nble_d, c1, c2, c3, hq', hix2, Rt.cells]; exact iZ; (iterate 2 exact iZ); exact iZ))); exact RT.nil); (case hc => first | (refine checkR_un [(0, 5), (1, 5), (2, 5), (3, 5), (4, 5), (0, 6), (1, 6), (2, 6), (3, 6), (4, 6), (0, 9), (1, 9), (2, 9), (3, 9), (4, 9), (5, 9), (6, 9), (7, 9), (8, 9)] (by kernel_rfl) (by kernel_rfl) rfl ?_; simp [memA, disj, e1, e2, e3, e4, e5]; done) | (show _ = _; kernel_rfl)); (case ht => simp [dI, dB, -addNew, Hp.get_set, hx, hr, hm, hc, hix, hi2, I.cells, hw, w1, a1, a2, a3, a4, a5, a6, a7, b2, b3, b4, b5, b6, cI_len, nble_d, c1, c2, c3, hq', hix2, Rt.cells]; exact iZ))
 | apply WP.block | apply WP.skip | apply WP.exit | apply WP.ret | refine WP.condT rfl ?_ | refine WP.condF rfl ?_)
  apply WP.gen
  intro hp1 wl1 hhp hwl
  have ww : WI [mid] n hp0 wl1 hp1 := by
    rw [hhp, hwl]
    exact ((((gw.set (.inr (by omega))).set (.inr (by omega))).set (.inr (by omega))).set (.inr (by omega)))
  have hfr : ∀ j, j < n + 2 → hp1.get j = hp'.get j := fun j hj => by
    rw [hhp]
    have f1 : ¬ n + 2 = j := by omega
    have f2 : ¬ n + 3 = j := by omega
    simp [Hp.get_set, f1, f2]
  have k2 : hp1.get (n + 2) = some ⟨c', false, [V.d (Ac.D.int IntKind.i64 9), V.d (Ac.D.int IntKind.i64 A), V.d (Ac.D.int IntKind.i64 B), V.d (Ac.D.int IntKind.i64 C), V.d (Ac.D.int IntKind.i64 D)]⟩ := by rw [hhp]; simp [Hp.get_set, b4]
  have k3 : hp1.get (n + 3) = some ⟨c' + 1, false, [V.d (.str p2.nm), V.d (.slice (encI p2.inn)), V.d (.slice (encI p2.out)), V.d (.int IntKind.i64 p2.regs), V.d (.slice (encI p2.ini)), V.d (.slice (encC p2.code))]⟩ := by rw [hhp]; simp [Hp.get_set]
  have k1 := (hfr (n + 1) (by omega)).trans hr
  have kc := (hfr idc (by omega)).trans hc
  have km := (hfr mid (by omega)).trans hm
  clear hhp hwl
  by_cases hm0 : p2.inn.length = 0
  · have hm0' : (p2.inn.length : Int) = 0 := by omega
    have hnn : p2.inn = [] := List.eq_nil_of_length_eq_zero hm0
    have y8 : (C ≤ R) = True := by simp; omega
    have y10 : (C ≤ regs.length) = True := by simp; omega
    have y9 : IntKind.i64.wrap (C : Int) = C := by rw [w_id'] <;> omega
    refine wkcekt (And.intro @dI.eq_1 (And.intro @k1 (And.intro @k2 (And.intro @k3 (And.intro @cI_len (And.intro @nble_d (And.intro @w4 (And.intro @t2 (And.intro @y1 (And.intro @y2 (And.intro @y3 (And.intro @y4 (And.intro @y5 (And.intro @y6 (And.intro @y7 (And.intro @sliceV.eq_def (And.intro @bnd.eq_def (And.intro @closeParts.eq_1 (And.intro @closeParts.eq_2 (And.intro @fillV.eq_1 (And.intro @fillV.eq_2 (And.intro @Hp.get_set (And.intro @hnn (And.intro @y8 (And.intro @y9 @y10))))))))))))))))))))))))) ?_
    apply WP.gen
    intro hp3 wl3 hhp3 hwl3
    have w3' : WI [mid] n hp0 wl3 hp3 := by
      rw [hhp3, hwl3]
      exact (ww.set (.inr (by omega))).set (.inr (by omega))
    have hfr3 : ∀ j, j < n + 4 → hp3.get j = hp1.get j := fun j hj => by
      rw [hhp3]
      have f1 : ¬ n + 4 = j := by omega
      have f2 : ¬ n + 4 + 1 = j := by omega
      simp [Hp.get_set, f1, f2]
    have hinv : InV hp3 (n + 5) (.osl (n + 4) (c' + 2) 0 0 1 (some 0)) ((regs.drop C).take p2.inn.length) := by
      have hz : ((regs.drop C).take p2.inn.length).length = 0 := by omega
      refine .inr ⟨n + 4, c' + 2, 0, some 0, [], by omega, by rw [hz], ?_, ?_, by rw [hz]; simp⟩
      · rw [hhp3, Hp.get_set_self]; rfl
      · rw [List.eq_nil_of_length_eq_zero hz]; rfl
    clear hhp3 hwl3
    have hlenC := hL A p2 (base + B) ((regs.drop C).take p2.inn.length) mem hkf hq2 hp2l.symm (by omega)
    have hx3 := hE A p2 hkf hq2 hp3 (n + 5) (c' + 3) idc gc mid mg (base + B) cap last _ ((regs.drop C).take p2.inn.length) mem ⟨ro, ((hfr3 idc (by omega)).trans kc)⟩ ((hfr3 mid (by omega)).trans km) d2 (by omega) (by omega) hinv hp2l.symm (by omega) hml
    obtain ⟨res, hres⟩ : ∃ r, r = callM im.rs f A (base + B) ((regs.drop C).take p2.inn.length) mem := ⟨_, rfl⟩
    rw [← hres] at hx3 hlenC ⊢
    unfold RCallAt at hx3
    obtain ⟨r0, hT1, hv, hn, hT2, hki, hfr2, hpz, hmz, hsame⟩ := hx3.caller (by intro j hj; simp at hj; omega)
    simp only [Int.natCast_add] at hT1
    simp only [dI, dL] at hv
    have j2 := (hfr3 (n + 2) (by omega)).trans k2
    have w5 : IntKind.i64.wrap (IntKind.i64.wrap ((K : Int) + 1) + IntKind.i64.wrap (res.2.2 : Int)) = IntKind.i64.wrap ((K + 1 + res.2.2 : Nat) : Int) := by rw [wrap_add2]; rfl
    refine wkcekt (And.intro @dI.eq_1 (And.intro @j2 (And.intro @w3 (And.intro @hv (And.intro @hn @w5))))) ?_
    apply WP.gen
    intro hp4 wl4 hhp4 hwl4
    have hfr4 : ∀ j, j < n + 5 → j ≠ mid → hp4.get j = hp3.get j := fun j hj hne => by rw [hhp4]; exact hfr2 j hj (by simp [hne])
    have km4 : hp4.get mid = some ⟨mg, false, cI res.2.1⟩ := by rw [hhp4, hsame mid (by omega) (by rw [hmz]; rfl), hmz]
    have w4' : WI [mid] n hp0 wl4 hp4 := by
      rw [hhp4, hwl4]
      exact w3'.sets fun p hp => .inl (hki _ (List.mem_map.2 ⟨p, hp, rfl⟩))
    clear hhp4 hwl4
    refine WP.mono (rput_outs (regs := regs) (outs := res.1) h5 hR (by omega) ((hfr4 (n + 2) (by omega) (by omega)).trans j2) ((hfr4 (n + 1) (by omega) (by omega)).trans ((hfr3 (n + 1) (by omega)).trans k1)) w4' (by omega)) ?_
    rintro e t ⟨rfl, hp5, c5, wl5, x1, x2, x3, tail, rfl⟩
    refine blockQ_ex (blockQ_nn ?_)
    refine ⟨rfl, _, _, _, hF.put ?_ x1 ?_ ?_, x3, _, _, ?_, by rfl⟩
    · rw [x2 _ (by omega) (by omega), hfr4 _ (by omega) (by omega), hfr3 _ (by omega), hfr _ (by omega)]
    · rw [x2 _ (by omega) (by omega), hfr4 _ (by omega) d2, hfr3 _ (by omega), hfr _ (by omega)]
    · rw [x2 _ (by omega) (by omega), km4]
    · omega
  · have y8 : (0 < p2.inn.length) = True := by simp; omega
    have y9 : (p2.inn.length ≤ 0) = False := eq_false (by omega)
    refine wkcekt (And.intro @dI.eq_1 (And.intro @k1 (And.intro @k2 (And.intro @k3 (And.intro @cI_len (And.intro @nble_d (And.intro @w4 (And.intro @t2 (And.intro @y1 (And.intro @y2 (And.intro @y3 (And.intro @y4 (And.intro @y5 (And.intro @y6 (And.intro @y7 (And.intro @sliceV.eq_def (And.intro @bnd.eq_def (And.intro @closeParts.eq_1 (And.intro @closeParts.eq_2 (And.intro @fillV.eq_1 (And.intro @fillV.eq_2 (And.intro @Hp.get_set (And.intro @y8 (And.intro @y9 @hm0)))))))))))))))))))))))) ?_
    apply WP.gen
    intro hp3 wl3 hhp3 hwl3
    have w3' : WI [mid] n hp0 wl3 hp3 := by
      rw [hhp3, hwl3]
      exact (ww.set (.inr (by omega))).set (.inr (by omega))
    have hfr3 : ∀ j, j < n + 4 → hp3.get j = hp1.get j := fun j hj => by
      rw [hhp3]
      have f1 : ¬ n + 4 = j := by omega
      have f2 : ¬ n + 4 + 1 = j := by omega
      simp [Hp.get_set, f1, f2]
    have hinv : InV hp3 (n + 4 + 1 + 1) (.osl (n + 4 + 1) (c' + 2 + 1) 0 p2.inn.length 1 none) ((regs.drop C).take p2.inn.length) := by
      refine .inr ⟨n + 4 + 1, c' + 2 + 1, 0, none, (regs.drop C).take p2.inn.length, by omega, by rw [← hp2l], ?_, ?_, by omega⟩
      · rw [hhp3, Hp.get_set_self, cI_drop, cI_takeN]
      · rw [← hp2l, List.drop_zero, List.take_take, Nat.min_self]
    clear hhp3 hwl3
    have hlenC := hL A p2 (base + B) ((regs.drop C).take p2.inn.length) mem hkf hq2 hp2l.symm (by omega)
    have hx3 := hE A p2 hkf hq2 hp3 (n + 4 + 1 + 1) (c' + 2 + 1 + 1) idc gc mid mg (base + B) cap last _ ((regs.drop C).take p2.inn.length) mem ⟨ro, ((hfr3 idc (by omega)).trans kc)⟩ ((hfr3 mid (by omega)).trans km) d2 (by omega) (by omega) hinv hp2l.symm (by omega) hml
    obtain ⟨res, hres⟩ : ∃ r, r = callM im.rs f A (base + B) ((regs.drop C).take p2.inn.length) mem := ⟨_, rfl⟩
    rw [← hres] at hx3 hlenC ⊢
    unfold RCallAt at hx3
    obtain ⟨r0, hT1, hv, hn, hT2, hki, hfr2, hpz, hmz, hsame⟩ := hx3.caller (by intro j hj; simp at hj; omega)
    simp only [Int.natCast_add] at hT1
    simp only [dI, dL] at hv
    have j2 := (hfr3 (n + 2) (by omega)).trans k2
    have w5 : IntKind.i64.wrap (IntKind.i64.wrap ((K : Int) + 1) + IntKind.i64.wrap (res.2.2 : Int)) = IntKind.i64.wrap ((K + 1 + res.2.2 : Nat) : Int) := by rw [wrap_add2]; rfl
    refine wkcekt (And.intro @dI.eq_1 (And.intro @j2 (And.intro @w3 (And.intro @hv (And.intro @hn @w5))))) ?_
    apply WP.gen
    intro hp4 wl4 hhp4 hwl4
    have hfr4 : ∀ j, j < n + 4 + 1 + 1 → j ≠ mid → hp4.get j = hp3.get j := fun j hj hne => by rw [hhp4]; exact hfr2 j hj (by simp [hne])
    have km4 : hp4.get mid = some ⟨mg, false, cI res.2.1⟩ := by rw [hhp4, hsame mid (by omega) (by rw [hmz]; rfl), hmz]
    have w4' : WI [mid] n hp0 wl4 hp4 := by
      rw [hhp4, hwl4]
      exact w3'.sets fun p hp => .inl (hki _ (List.mem_map.2 ⟨p, hp, rfl⟩))
    clear hhp4 hwl4
    refine WP.mono (rput_outs (regs := regs) (outs := res.1) h5 hR (by omega) ((hfr4 (n + 2) (by omega) (by omega)).trans j2) ((hfr4 (n + 1) (by omega) (by omega)).trans ((hfr3 (n + 1) (by omega)).trans k1)) w4' (by omega)) ?_
    rintro e t ⟨rfl, hp5, c5, wl5, x1, x2, x3, tail, rfl⟩
    refine blockQ_ex (blockQ_nn ?_)
    refine ⟨rfl, _, _, _, hF.put ?_ x1 ?_ ?_, x3, _, _, ?_, by rfl⟩
    · rw [x2 _ (by omega) (by omega), hfr4 _ (by omega) (by omega), hfr3 _ (by omega), hfr _ (by omega)]
    · rw [x2 _ (by omega) (by omega), hfr4 _ (by omega) d2, hfr3 _ (by omega), hfr _ (by omega)]
    · rw [x2 _ (by omega) (by omega), km4]
    · omega
end
end Go.Ac
end

section
set_option maxRecDepth 4000
set_option linter.unusedSimpArgs false
set_option linter.unusedVariables false
namespace Go.Ac
open Go.Proofs

theorem close_oslO {look : Look} {id g off m : Nat} {ro : Bool} {l : List Int} {cap : Option Nat} (hl : look id = some ⟨g, ro, cI l⟩) (hn : off + m ≤ l.length) : close look (.osl id g off m 1 cap) = some (dL ((l.drop off).take m), [id]) := by
  show ofD (toD look depthD _) = _
  rw [toD_dep]
  have h1 : live look id g = some ⟨g, ro, cI l⟩ := by simp [live, hl]
  rw [h1]
  have h2 : ((l.drop off).take m).length = m := by simp; omega
  have h3 := chunkI ((l.drop off).take m)
  rw [h2] at h3
  simp only [Nat.mul_one, cI_drop, cI_takeN, toDs_ci, nble_d, cI_len, hn, decide_true, h3]
  rfl
section
variable {im : Im} {q : Rt} {hp0 : Hp} {n idc gc g g0 mid mg base R k : Nat} {cap : Option Nat} {last : V}

theorem round_any {f K at_ c' L : Nat} {regs mem : List Int} {hp' : Hp} {wl' : List Nat} {ro : Bool} {i : I} (hcode : OkI im.rs k R q.ini.length at_ L i) (hkf : k ≤ f) (hE : RExecOK im f) (hL : CallOk im.rs f (callM im.rs f)) (hR : R ≤ 100000) (hb : base + q.ini.length ≤ mem.length) (hml : mem.length ≤ 1000000) (hi : q.code[at_]? = some i)
    (hat : at_ < 1000000) (h5 : regs.length = R) (d2 : idc ≠ mid) (q1 : idc < n) (q2 : mid < n) (hC : hp0.get idc = some ⟨gc, ro, [V.d (.slice (encI im.enums)), V.d (.slice (encR im.rs)), .osl mid mg 0 mem.length 1 cap, last]⟩) (hF : RF q hp0 hp' n g0 g idc mid mg R regs mem) (gw : WI [mid] n hp0 wl' hp') :
    Round im q hp0 n idc gc g g0 mid mg base R f K at_ c' i regs mem hp' wl' := by
  cases hcode with
  | load A b hA h1 h2 => exact round_load A b hA hi hat h5 d2 q1 q2 hC hF gw
  | move A B hA hB => exact round_move A B hA hB hi hat h5 d2 q1 q2 hC hF gw
  | read A B hA hB => exact round_read A B hA (by omega) hml hi hat h5 d2 q1 q2 hC hF gw
  | write A B hA hB => exact round_write A B (by omega) hB hml hi hat h5 d2 q1 q2 hC hF gw
  | unary A B d hA hB hd => exact round_unary A B d hA hB hd hi hat h5 d2 q1 q2 hC hF gw
  | apply A B C d hA hB hC' h1 h2 => exact round_apply A B C d hA hB hC' h1 h2 hi hat h5 d2 q1 q2 hC hF gw
  | jump B h1 h2 => exact round_jump B hi hat h5 d2 q1 q2 hC hF gw
  | zero A B hA h1 h2 => exact round_zero A B hA hi hat h5 d2 q1 q2 hC hF gw
  | call A B C D p hp hA hB hC' hD => exact round_call A B C D p hp (by omega) hE hL (by omega) hC' hD hR hml hi hat h5 d2 q1 q2 hC hF gw
  | reset A B p hp hA hB => exact round_reset A B p hp (by omega) hml hi hat h5 d2 q1 q2 hC hF gw
end
section
variable {im : Im} {hp : Hp} {n c idc gc mid mg base : Nat} {cap : Option Nat} {v last : V} {ins mem : List Int} {k : Nat} {q : Rt}

set_option maxHeartbeats 4000000 in
theorem rexec_ok {f : Nat} (hkf : k ≤ f) (hq : im.rs[k]? = some q) (hOk : OkM im.rs) (hE : RExecOK im f) (hil : ins.length = q.inn.length) (hql : q.code.length ≤ 900000)
    (hC : CAt im hp idc gc [.osl mid mg 0 mem.length 1 cap, last]) (hm : hp.get mid = some ⟨mg, false, cI mem⟩) (d2 : idc ≠ mid) (q1 : idc < n) (q2 : mid < n) (hv : InV hp n v ins)
    (hbm : base + q.ini.length ≤ mem.length) (hml : mem.length ≤ 1000000) :
    RCallAt hp n c idc gc mid mg k base v (callM im.rs (f + 1) k base ins mem).1 (callM im.rs (f + 1) k base ins mem).2.1 (callM im.rs (f + 1) k base ins mem).2.2 := by
  have hr := hOk k q hq
  have hio := hr.io
  have hhi := hr.hi
  obtain ⟨R, hR⟩ : ∃ R : Nat, q.regs = R := ⟨q.regs.toNat, by omega⟩
  have hqr : q.regs.toNat = R := by omega
  have hg : im.rs.getD k rtZ = q := by simp [List.getD, hq]
  have hcallM : callM im.rs (f + 1) k base ins mem = (((loopM im.rs (callM im.rs f) q base q.code.length 0 (ins ++ List.replicate (R - ins.length) 0) mem 0).1.drop q.inn.length).take q.out.length, (loopM im.rs (callM im.rs f) q base q.code.length 0 (ins ++ List.replicate (R - ins.length) 0) mem 0).2) := by
    simp only [callM, hg, hR, Int.toNat_natCast]
  have hfit : fitsB R 8 = true := by simp [fitsB]; omega
  have g1 : (0 ≤ (R : Int)) = True := by simp
  have g2 : ((R : Int) ≤ 9223372036854775807) = True := by simp; omega
  obtain ⟨ro, hC⟩ := hC
  have hq' := encR_at hq
  have hix := idx_lt (by obtain ⟨h, _⟩ := List.getElem?_eq_some_iff.1 hq; exact h : k < im.rs.length)
  have f1 : (n = idc) = False := by simp; omega
  have hn1 : Nat.beq n idc = false := nbeq_ne (by omega)
  refine thr_wp Tryd.func32 rfl (by kernel_rfl) rfl ?_
  refine wkcek (And.intro @envOf.eq_1 (And.intro @envOf.eq_2 (And.intro @dI.eq_1 (And.intro @Hp.get_set (And.intro @f1 (And.intro @hC (And.intro @Rt.cells.eq_1 (And.intro @hq' (And.intro @hix (And.intro @cI_len (And.intro @nble_d (And.intro @hR (And.intro @hfit (And.intro @g1 (And.intro @g2 (And.intro @makeV.eq_def (And.intro @rep_flat @cI_rep))))))))))))))))) ?_
  apply WP.gen
  intro hp1 wl1 hhp hwl
  have hwi : WI [mid] n hp wl1 hp1 := by
    rw [hhp, hwl]
    exact (((WI.refl.set (.inr (by omega))).set (.inr (by omega))).set (.inr (by omega)))
  have hfr : ∀ j, j < n → hp1.get j = hp.get j := fun j hj => by
    rw [hhp]
    have f1 : ¬ n = j := by omega
    have f2 : ¬ n + 1 = j := by omega
    simp [Hp.get_set, f1, f2]
  have z2 : (n + 1 = n) = False := by simp
  have k0 : hp1.get n = some ⟨c, false, [V.d (D.str q.nm), V.d (D.slice (encI q.inn)), V.d (D.slice (encI q.out)), V.d (D.int IntKind.i64 ↑R), V.d (D.slice (encI q.ini)), V.d (D.slice (encC q.code))]⟩ := by rw [hhp]; simp [Hp.get_set, z2]
  have k1 : hp1.get (n + 1) = some ⟨c + 1, false, cI (List.replicate R 0)⟩ := by rw [hhp]; simp [Hp.get_set, z2]
  clear hhp hwl
  have hcopy : WP Tryd.prog Cp.cfg 32 (inside Tryd.f32 0) ⟨[(0, .ptr idc gc 0), (2, dI base), (3, v), (10, .ptr n c 0), (11, .osl (n + 1) (c + 1) 0 R 1 (some R)), (12, dI 0)], hp1, n + 2, c + 2, n, wl1⟩
      (fun e t => e = .exit 0 ∧ ∃ hp' c' wl', Copied hp1 hp' n (c + 1) (insAt ins R ins.length) ∧ WI [mid] n hp wl' hp' ∧ t = ⟨[(0, .ptr idc gc 0), (2, dI base), (3, v), (10, .ptr n c 0), (11, .osl (n + 1) (c + 1) 0 R 1 (some R)), (12, dI ins.length), (37, dB false)], hp', n + 2, c', n, wl'⟩) := by
    rcases hv with rfl | ⟨rid, rg, off, cap, l, h1, rfl, h2, h3, h4⟩
    · exact rcopy_dL (by omega) (by omega) k1 hwi
    · exact rcopy_osl h1 ((hfr rid h1).trans h2) h3 h4 (by omega) (by omega) k1 hwi
  refine WP.mono hcopy ?_
  rintro e t ⟨rfl, hp2, c2, wl2, ⟨x1, x2⟩, x3, rfl⟩
  refine blockQ_ex ?_
  have hins : insAt ins R ins.length = ins ++ List.replicate (R - ins.length) 0 := by unfold insAt; rw [List.take_length]
  obtain ⟨regs0, hregs0⟩ : ∃ l, l = ins ++ List.replicate (R - ins.length) 0 := ⟨_, rfl⟩
  have hrl : regs0.length = R := by rw [hregs0]; simp; omega
  rw [hins, ← hregs0] at x1
  rw [← hregs0] at hcallM
  refine wkcek (@dI.eq_1) ?_
  obtain ⟨L, hL⟩ : ∃ L, L = q.code.length := ⟨_, rfl⟩
  obtain ⟨T, hT⟩ : ∃ T, T = loopM im.rs (callM im.rs f) q base q.code.length 0 regs0 mem 0 := ⟨_, rfl⟩
  rw [← hT] at hcallM
  rw [← hL] at hql
  have hcallok : CallOk im.rs f (callM im.rs f) := callM_ok hOk f
  apply WP.loop' (I := fun d s => ∃ (at_ d' : Nat) (regs mem' : List Int) (K : Nat) (hp' : Hp) (c' : Nat) (wl' : List Nat) (tail : Env), at_ ≤ L ∧ L ≤ at_ + d' ∧ d = L - at_ ∧ T = loopM im.rs (callM im.rs f) q base d' at_ regs mem' K ∧ regs.length = R ∧ mem'.length = mem.length ∧
    RF q hp hp' n c (c + 1) idc mid mg R regs mem' ∧ WI [mid] n hp wl' hp' ∧
    s = ⟨(0, .ptr idc gc 0) :: (2, dI base) :: (10, .ptr n c 0) :: (11, .osl (n + 1) (c + 1) 0 R 1 (some R)) :: (13, dI (IntKind.i64.wrap K)) :: (14, dI at_) :: tail, hp', n + 2, c', n, wl'⟩) (d := L)
  · refine ⟨0, L, regs0, mem, 0, hp2, c2, wl2, [], Nat.zero_le _, by simp, by simp, by rw [hT, hL], hrl, rfl, ⟨?_, x1, ?_, ?_⟩, x3, by rfl⟩
    · rw [x2 _ (by omega) (by omega), k0]
    · rw [x2 _ (by omega) (by omega), hfr _ q1]
    · rw [x2 _ (by omega) (by omega), hfr _ q2, hm]
  clear hcopy hwi hfr k0 k1 x1 x2 x3 hregs0 hins
  rintro d _ ⟨at_, d', regs, mem', K, hp', c', wl', tail, h1, h2, h3, h4, h5, h6, hF, gw, rfl⟩
  have hx := hF.x
  refine wkek (And.intro @dI.eq_1 @hx) ?_
  show WP _ _ _ _ _ _
  refine WP.cond _ rfl (fun hb => ?_) (fun hb => ?_)
  · simp at hb
    have hb' : at_ < q.code.length := hb
    obtain ⟨i, hi1, him, hix⟩ := at_lt hb'
    have hcode := hr.code at_ i hi1
    rw [hqr, ← hL] at hcode
    have hls := loopM_step (f := callM im.rs f) (rs := im.rs) (base := base) hi1 regs mem' K (d' - 1)
    rw [show d' - 1 + 1 = d' by omega, ← h4] at hls
    have hsok := stepM_ok (base := base) (mem := mem') hcode (fun j q' b i m hj => hcallok j q' b i m (by omega)) h5 (by omega) (by omega)
    have hround := round_any (base := base) (mem := mem') (g := c + 1) (g0 := c) (K := K) (c' := c') (cap := cap) (last := last) (ro := ro) hcode hkf hE hcallok (by omega) (by omega) (by omega) hi1 (by omega) h5 d2 q1 q2 (by rw [h6]; exact hC) hF gw
    unfold Round at hround
    apply WP.skip
    apply WP.block
    have hd : decide (at_ < q.code.length) = true := by simp [hb']
    simp only [hd]
    refine WP.mono hround ?_
    rintro e t ⟨rfl, hp3, c3, wl3, hF3, gw3, n3, tail3, hn3, rfl⟩
    refine blockQ_nn ?_
    refine loop_next (t' := ⟨_, Hp.trunc (n + 2) hp3, n + 2, c3, n, wl3⟩) (by simp; exact Is.rfl) ?_
    have ht : ∀ j, j < n + 2 → (Hp.trunc (n + 2) hp3).get j = hp3.get j := fun j hj => Hp.get_trunc _ _ _ hj
    refine ⟨L - (stepM im.rs (callM im.rs f) base at_ i regs mem').1, by omega, (stepM im.rs (callM im.rs f) base at_ i regs mem').1, d' - 1, _, _, _, _, _, _, tail3, hsok.2.2.2, by omega, rfl, hls, hsok.1, hsok.2.1.trans h6, hF3.put (ht _ (by omega)) ((ht _ (by omega)).trans hF3.r) (ht _ (by omega)) ((ht _ (by omega)).trans hF3.m), gw3.trunc (by omega), by rfl⟩
  · simp at hb
    have hdl : q.code.length ≤ at_ := by simpa [hL] using hb
    rw [loopM_end hdl] at h4
    rw [h4] at hcallM
    rw [hcallM]
    have hrg := hF.r
    have hli : IntKind.i64.wrap ((q.inn.length : Int) + q.out.length) = ((q.inn.length + q.out.length : Nat) : Int) := by rw [w_id'] <;> omega
    have t1 : ((q.inn.length : Int) + q.out.length).toNat = q.inn.length + q.out.length := by omega
    have p1 : (0 ≤ (q.inn.length : Int) + q.out.length) = True := eq_true (by omega)
    have l1 : (q.inn.length + q.out.length ≤ R) = True := eq_true (by omega)
    have l2 : (q.inn.length ≤ q.inn.length + q.out.length) = True := eq_true (by omega)
    refine wkcek (And.intro @dI.eq_1 (And.intro @hx (And.intro @hrg (And.intro @hli (And.intro @t1 (And.intro @p1 (And.intro @l1 (And.intro @l2 (And.intro @sliceV.eq_def (And.intro @bnd.eq_def (And.intro @h5 (And.intro @cI_len @nble_d)))))))))))) ?_
    have hcl := close_oslO (look := hp'.get) (m := q.out.length) (off := q.inn.length) (cap := some (R - q.inn.length)) hrg (by omega)
    refine ⟨.inr rfl, _, [n + 1], rfl, ?_, by simp [nble_d, V.flat, V.flat2, V.flat1, D.flat, dL], gw, (Hp.get_trunc _ _ _ q2).trans hF.m⟩
    show closeT hp'.get (V.tuple [V.osl (n + 1) (c + 1) q.inn.length q.out.length 1 (some (R - q.inn.length)), dI (IntKind.i64.wrap ↑K)]) = _
    simp only [closeT, closeVs, hcl]
    rfl
/-- The reference's machine executes all routines of an image that has passed the check as the plain machine does. -/
theorem rexec_all {im : Im} (hOk : OkM im.rs) (hcl : ∀ q ∈ im.rs, q.code.length ≤ 900000) : ∀ f, RExecOK im f
  | 0 => fun k q hk => by omega
  | f + 1 => fun k q hk hq hp n c idc gc mid mg base cap last v ins mem hC hm d2 q1 q2 hv hil hbm hml =>
    rexec_ok (by omega) hq hOk (rexec_all hOk hcl f) hil (hcl q (List.mem_of_getElem? hq)) hC hm d2 q1 q2 hv hbm hml
end
end Go.Ac
end

section
set_option maxRecDepth 4000
set_option linter.unusedSimpArgs false
set_option linter.unusedVariables false
namespace Go.Ac
open Go.Proofs

/-- A machine: its object and its memory. -/
structure Mc (im : Im) (hp : Hp) (idc gc mid mg : Nat) (mem : List Int) (cnt : Int) : Prop where
  c : ∃ cap, mem.length ≤ cap.getD mem.length ∧ hp.get idc = some ⟨gc, false, [V.d (.slice (encI im.enums)), V.d (.slice (encR im.rs)), .osl mid mg 0 mem.length 1 cap, dI cnt]⟩
  m : hp.get mid = some ⟨mg, false, cI mem⟩
  ne : idc ≠ mid
theorem Mc.same {im : Im} {hp hp' : Hp} {idc gc mid mg : Nat} {mem : List Int} {cnt : Int} (h : Mc im hp idc gc mid mg mem cnt) (h1 : hp'.get idc = hp.get idc) (h2 : hp'.get mid = hp.get mid) : Mc im hp' idc gc mid mg mem cnt := by
  obtain ⟨⟨cap, hc, h3⟩, h4, h5⟩ := h
  exact ⟨⟨cap, hc, h1.trans h3⟩, h2.trans h4, h5⟩
/-- A value of a type. -/
def fitsV (en : List Int) (t v : Int) : Bool := if t = 1 then decide (v = 0) || decide (v = 1) else if t = 2 then decide (-32768 ≤ v) && decide (v ≤ 32767) else decide (0 ≤ v) && decide (v < rgv en (t - 3))
theorem closeT_agg {look : Look} (r : Rt) : closeT look (aR r) = some (aR r, []) := rfl
section
variable {im : Im} {hp : Hp} {n c idc gc mid mg : Nat} {mem : List Int} {cnt : Int}

set_option maxHeartbeats 1000000 in
theorem main_c {q : Rt} {o3 o4 : V} (hC : hp.get idc = some ⟨gc, false, [V.d (.slice (encI im.enums)), V.d (.slice (encR im.rs)), o3, o4]⟩) (q1 : idc < n) (hq : im.rs[im.rs.length - 1]? = some q) (hl : im.rs.length ≤ 1000000) : Thr 27 [.ptr idc gc 0] hp n c (aR q) [] (fun _ => True) := by
  have hlt : im.rs.length - 1 < im.rs.length := by obtain ⟨h, _⟩ := List.getElem?_eq_some_iff.1 hq; exact h
  have hq' := encR_at hq
  have hix := idx_lt hlt
  have hw : IntKind.i64.wrap ((im.rs.length : Int) - 1) = ((im.rs.length - 1 : Nat) : Int) := by rw [w_id'] <;> omega
  have f1 : (n = idc) = False := eq_false (by omega)
  refine thr_wp Tryd.func27 rfl (by kernel_rfl) rfl ?_
  refine wkcenkt (And.intro @envOf.eq_1 (And.intro @envOf.eq_2 (And.intro @dI.eq_1 (And.intro @Hp.get_set (And.intro @f1 (And.intro @hC (And.intro @hw (And.intro @hix (And.intro @hq' @Rt.cells.eq_1))))))))) ?_
  refine ⟨.inr rfl, _, [], by simp [resultsV, resultV, Hp.get_set]; rfl, closeT_agg q, rfl, ((WI.refl.set (.inr (by omega))).set (.inr (by omega))), trivial⟩
theorem main_ok {q : Rt} (hM : Mc im hp idc gc mid mg mem cnt) (q1 : idc < n) (hq : im.rs[im.rs.length - 1]? = some q) (hl : im.rs.length ≤ 1000000) : Thr 27 [.ptr idc gc 0] hp n c (aR q) [] (fun _ => True) := by
  obtain ⟨⟨cap, hcap, hC⟩, hm, d2⟩ := hM
  exact main_c hC q1 hq hl

set_option maxHeartbeats 1000000 in
theorem rmain_c {q : Rt} {o3 o4 : V} (hC : hp.get idc = some ⟨gc, false, [V.d (.slice (encI im.enums)), V.d (.slice (encR im.rs)), o3, o4]⟩) (q1 : idc < n) (hq : im.rs[im.rs.length - 1]? = some q) (hl : im.rs.length ≤ 1000000) : Thr 30 [.ptr idc gc 0] hp n c (aR q) [] (fun _ => True) := by
  have hlt : im.rs.length - 1 < im.rs.length := by obtain ⟨h, _⟩ := List.getElem?_eq_some_iff.1 hq; exact h
  have hq' := encR_at hq
  have hix := idx_lt hlt
  have hw : IntKind.i64.wrap ((im.rs.length : Int) - 1) = ((im.rs.length - 1 : Nat) : Int) := by rw [w_id'] <;> omega
  have f1 : (n = idc) = False := eq_false (by omega)
  refine thr_wp Tryd.func30 rfl (by kernel_rfl) rfl ?_
  refine wkcenkt (And.intro @envOf.eq_1 (And.intro @envOf.eq_2 (And.intro @dI.eq_1 (And.intro @Hp.get_set (And.intro @f1 (And.intro @hC (And.intro @hw (And.intro @hix (And.intro @hq' @Rt.cells.eq_1))))))))) ?_
  refine ⟨.inr rfl, _, [], by simp [resultsV, resultV, Hp.get_set]; rfl, closeT_agg q, rfl, ((WI.refl.set (.inr (by omega))).set (.inr (by omega))), trivial⟩
theorem rmain_ok {q : Rt} (hM : Mc im hp idc gc mid mg mem cnt) (q1 : idc < n) (hq : im.rs[im.rs.length - 1]? = some q) (hl : im.rs.length ≤ 1000000) : Thr 30 [.ptr idc gc 0] hp n c (aR q) [] (fun _ => True) := by
  obtain ⟨⟨cap, hcap, hC⟩, hm, d2⟩ := hM
  exact rmain_c hC q1 hq hl

set_option maxHeartbeats 1000000 in
theorem fits_ok (hM : Mc im hp idc gc mid mg mem cnt) (q1 : idc < n) (t v : Int) (ht : typOK im.enums t = true) (hel : im.enums.length ≤ 1000000) : Thr 28 [.ptr idc gc 0, dI t, dI v] hp n c (dB (fitsV im.enums t v)) [] (fun _ => True) := by
  obtain ⟨⟨cap, hcap, hC⟩, hm, d2⟩ := hM
  have hin := in_den v
  simp only [dI, dB] at hin
  refine thr_wp Tryd.func28 rfl (by kernel_rfl) rfl ?_
  by_cases h1 : t = 1
  · subst h1
    by_cases v0 : v = 0
    · subst v0
      refine wkcenkt (And.intro @envOf.eq_1 (And.intro @envOf.eq_2 @dI.eq_1)) ?_
      exact ⟨.inr rfl, _, [], rfl, rfl, rfl, WI.refl, trivial⟩
    · refine wkcenkt (And.intro @envOf.eq_1 (And.intro @envOf.eq_2 (And.intro @dI.eq_1 (And.intro @v0 @int_beq)))) ?_
      refine ⟨.inr rfl, _, [], rfl, ?_, rfl, WI.refl, trivial⟩
      simp [fitsV, v0]; rfl
  by_cases h2 : t = 2
  · subst h2
    by_cases v0 : -32768 ≤ v
    · have v0' : (-32768 ≤ v) = True := eq_true v0
      refine wkcenkt (And.intro @envOf.eq_1 (And.intro @envOf.eq_2 (And.intro @dI.eq_1 (And.intro @hin @v0')))) ?_
      refine ⟨.inr rfl, _, [], rfl, ?_, rfl, WI.refl, trivial⟩
      simp [fitsV, v0']; rfl
    · have v0' : (-32768 ≤ v) = False := eq_false v0
      refine wkcenkt (And.intro @envOf.eq_1 (And.intro @envOf.eq_2 (And.intro @dI.eq_1 (And.intro @hin @v0')))) ?_
      refine ⟨.inr rfl, _, [], rfl, ?_, rfl, WI.refl, trivial⟩
      simp [fitsV, v0']; rfl
  have ht3 : 3 ≤ t ∧ t - 3 < im.enums.length := by
    simp [typOK, h1, h2] at ht; exact ht
  obtain ⟨k, hk⟩ : ∃ k : Nat, t - 3 = k := ⟨(t - 3).toNat, by omega⟩
  have hkl : k < im.enums.length := by omega
  have hw : IntKind.i64.wrap (t - 3) = (k : Int) := by rw [w_id'] <;> omega
  have hix := idx_lt hkl
  have he := encI_at (rgv_at hkl)
  by_cases v0 : 0 ≤ v
  · have v0' : (0 ≤ v) = True := eq_true v0
    refine wkcenkt (And.intro @envOf.eq_1 (And.intro @envOf.eq_2 (And.intro @dI.eq_1 (And.intro @h1 (And.intro @h2 (And.intro @int_beq (And.intro @v0' (And.intro @hC (And.intro @hw (And.intro @hix @he)))))))))) ?_
    refine ⟨.inr rfl, _, [], rfl, ?_, rfl, WI.refl, trivial⟩
    simp [fitsV, h1, h2, v0', hk]; rfl
  · have v0' : (0 ≤ v) = False := eq_false v0
    refine wkcenkt (And.intro @envOf.eq_1 (And.intro @envOf.eq_2 (And.intro @dI.eq_1 (And.intro @h1 (And.intro @h2 (And.intro @int_beq (And.intro @v0' (And.intro @hC (And.intro @hw (And.intro @hix @he)))))))))) ?_
    refine ⟨.inr rfl, _, [], rfl, ?_, rfl, WI.refl, trivial⟩
    simp [fitsV, h1, h2, v0']; rfl

set_option maxHeartbeats 1000000 in
theorem rfits_ok (hM : Mc im hp idc gc mid mg mem cnt) (q1 : idc < n) (t v : Int) (ht : typOK im.enums t = true) (hel : im.enums.length ≤ 1000000) : Thr 31 [.ptr idc gc 0, dI t, dI v] hp n c (dB (fitsV im.enums t v)) [] (fun _ => True) := by
  obtain ⟨⟨cap, hcap, hC⟩, hm, d2⟩ := hM
  have hin := in_den v
  simp only [dI, dB] at hin
  refine thr_wp Tryd.func31 rfl (by kernel_rfl) rfl ?_
  by_cases h1 : t = 1
  · subst h1
    by_cases v0 : v = 0
    · subst v0
      refine wkcenkt (And.intro @envOf.eq_1 (And.intro @envOf.eq_2 @dI.eq_1)) ?_
      exact ⟨.inr rfl, _, [], rfl, rfl, rfl, WI.refl, trivial⟩
    · refine wkcenkt (And.intro @envOf.eq_1 (And.intro @envOf.eq_2 (And.intro @dI.eq_1 (And.intro @v0 @int_beq)))) ?_
      refine ⟨.inr rfl, _, [], rfl, ?_, rfl, WI.refl, trivial⟩
      simp [fitsV, v0]; rfl
  by_cases h2 : t = 2
  · subst h2
    by_cases v0 : -32768 ≤ v
    · have v0' : (-32768 ≤ v) = True := eq_true v0
      refine wkcenkt (And.intro @envOf.eq_1 (And.intro @envOf.eq_2 (And.intro @dI.eq_1 (And.intro @hin @v0')))) ?_
      refine ⟨.inr rfl, _, [], rfl, ?_, rfl, WI.refl, trivial⟩
      simp [fitsV, v0']; rfl
    · have v0' : (-32768 ≤ v) = False := eq_false v0
      refine wkcenkt (And.intro @envOf.eq_1 (And.intro @envOf.eq_2 (And.intro @dI.eq_1 (And.intro @hin @v0')))) ?_
      refine ⟨.inr rfl, _, [], rfl, ?_, rfl, WI.refl, trivial⟩
      simp [fitsV, v0']; rfl
  have ht3 : 3 ≤ t ∧ t - 3 < im.enums.length := by
    simp [typOK, h1, h2] at ht; exact ht
  obtain ⟨k, hk⟩ : ∃ k : Nat, t - 3 = k := ⟨(t - 3).toNat, by omega⟩
  have hkl : k < im.enums.length := by omega
  have hw : IntKind.i64.wrap (t - 3) = (k : Int) := by rw [w_id'] <;> omega
  have hix := idx_lt hkl
  have he := encI_at (rgv_at hkl)
  by_cases v0 : 0 ≤ v
  · have v0' : (0 ≤ v) = True := eq_true v0
    refine wkcenkt (And.intro @envOf.eq_1 (And.intro @envOf.eq_2 (And.intro @dI.eq_1 (And.intro @h1 (And.intro @h2 (And.intro @int_beq (And.intro @v0' (And.intro @hC (And.intro @hw (And.intro @hix @he)))))))))) ?_
    refine ⟨.inr rfl, _, [], rfl, ?_, rfl, WI.refl, trivial⟩
    simp [fitsV, h1, h2, v0', hk]; rfl
  · have v0' : (0 ≤ v) = False := eq_false v0
    refine wkcenkt (And.intro @envOf.eq_1 (And.intro @envOf.eq_2 (And.intro @dI.eq_1 (And.intro @h1 (And.intro @h2 (And.intro @int_beq (And.intro @v0' (And.intro @hC (And.intro @hw (And.intro @hix @he)))))))))) ?_
    refine ⟨.inr rfl, _, [], rfl, ?_, rfl, WI.refl, trivial⟩
    simp [fitsV, h1, h2, v0']; rfl

theorem count_ok (hM : Mc im hp idc gc mid mg mem cnt) (q1 : idc < n) : Thr 16 [.ptr idc gc 0] hp n c (dI cnt) [] (fun _ => True) := by
  obtain ⟨⟨cap, hcap, hC⟩, hm, d2⟩ := hM
  refine thr_wp Tryd.func16 rfl (by kernel_rfl) rfl ?_
  refine wkcenkt (And.intro @envOf.eq_1 (And.intro @envOf.eq_2 (And.intro @dI.eq_1 @hC))) ?_
  exact ⟨.inr rfl, _, [], rfl, rfl, rfl, WI.refl, trivial⟩

theorem rcount_ok (hM : Mc im hp idc gc mid mg mem cnt) (q1 : idc < n) : Thr 17 [.ptr idc gc 0] hp n c (dI cnt) [] (fun _ => True) := by
  obtain ⟨⟨cap, hcap, hC⟩, hm, d2⟩ := hM
  refine thr_wp Tryd.func17 rfl (by kernel_rfl) rfl ?_
  refine wkcenkt (And.intro @envOf.eq_1 (And.intro @envOf.eq_2 (And.intro @dI.eq_1 @hC))) ?_
  exact ⟨.inr rfl, _, [], rfl, rfl, rfl, WI.refl, trivial⟩

theorem memory_ok (hM : Mc im hp idc gc mid mg mem cnt) (q1 : idc < n) (q2 : mid < n) (hml : mem.length ≤ 1000000) : Thr 14 [.ptr idc gc 0] hp n c (dL mem) [] (fun _ => True) := by
  obtain ⟨⟨cap, hcap, hC⟩, hm, d2⟩ := hM
  have hfit : fitsB mem.length 8 = true := by simp [fitsB]; omega
  refine thr_wp Tryd.func14 rfl (by kernel_rfl) rfl ?_
  refine wkcenkt (And.intro @envOf.eq_1 (And.intro @envOf.eq_2 (And.intro @dI.eq_1 (And.intro @hC (And.intro @hm (And.intro @cI_len (And.intro @nble_d @cI_take))))))) ?_
  have hcl := close_osl1 (look := (hp.set n ⟨c, false, cI mem⟩).get) (cap := none) (Hp.get_set_self ..) (cI_take mem) (by rw [cI_len]; exact Nat.le_refl _)
  exact ⟨.inr rfl, _, [n], rfl, hcl, by simp [nble_d], WI.refl.set (.inr (Nat.le_refl _)), trivial⟩
theorem rmemory_ok (hM : Mc im hp idc gc mid mg mem cnt) (q1 : idc < n) (q2 : mid < n) (hml : mem.length ≤ 1000000) : Thr 15 [.ptr idc gc 0] hp n c (dL mem) [] (fun _ => True) := by
  obtain ⟨⟨cap, hcap, hC⟩, hm, d2⟩ := hM
  have hfit : fitsB mem.length 8 = true := by simp [fitsB]; omega
  have f1 : (n = idc) = False := eq_false (by omega)
  have f2 : (n = mid) = False := eq_false (by omega)
  have y6 : fitsB 0 8 = true := rfl
  refine thr_wp Tryd.func15 rfl (by kernel_rfl) rfl ?_
  by_cases hz : mem.length = 0
  · have hzz : mem = [] := List.eq_nil_of_length_eq_zero hz
    subst hzz
    refine wkcenkt (And.intro @envOf.eq_1 (And.intro @envOf.eq_2 (And.intro @dI.eq_1 (And.intro @hC (And.intro @hm (And.intro @cI_len (And.intro @nble_d (And.intro @cI_take (And.intro @closeParts.eq_1 (And.intro @closeParts.eq_2 (And.intro @fillV.eq_1 (And.intro @fillV.eq_2 (And.intro @Hp.get_set (And.intro @f1 (And.intro @f2 @y6))))))))))))))) ?_
    refine ⟨.inr rfl, _, [n], rfl, ?_, by simp [nble_d], ((WI.refl.set (.inr (by omega))).set (.inr (by omega))), trivial⟩
    exact close_osl1 (l := []) (Hp.get_set_self ..) rfl (Nat.le_refl _)
  · have y8 : (0 < mem.length) = True := eq_true (by omega)
    have y9 : (mem.length ≤ 0) = False := eq_false (by omega)
    have y10 : (mem = []) = False := eq_false (fun h => hz (by rw [h]; rfl))
    refine wkcenkt (And.intro @envOf.eq_1 (And.intro @envOf.eq_2 (And.intro @dI.eq_1 (And.intro @hC (And.intro @hm (And.intro @cI_len (And.intro @nble_d (And.intro @cI_take (And.intro @closeParts.eq_1 (And.intro @closeParts.eq_2 (And.intro @fillV.eq_1 (And.intro @fillV.eq_2 (And.intro @Hp.get_set (And.intro @f1 (And.intro @f2 (And.intro @y6 (And.intro @hfit (And.intro @y8 (And.intro @y9 (And.intro @y10 @hz)))))))))))))))))))) ?_
    refine ⟨.inr rfl, _, [n + 1], rfl, ?_, by simp [nble_d], ((WI.refl.set (.inr (by omega))).set (.inr (by omega))), trivial⟩
    exact close_osl1 (Hp.get_set_self ..) (cI_take mem) (by rw [cI_len]; exact Nat.le_refl _)
end
end Go.Ac
end
