/- The reference's machine: one round over a routine's code, all operations but calls and resets. -/
import Derived.Test.YtjkcpgkpmklcaaaGreatDoorCwWkM
set_option linter.unusedVariables false
set_option linter.unusedSimpArgs false
section
set_option maxRecDepth 4000
namespace Go.Ac
open Go.Proofs

/-- What a step comes to. -/
def StepAt (hp : Hp) (n c idc gc rid rg mid mg kid kg base M : Nat) (cap : Option Nat) (regs mem : List Int) (cnt : Int) (at_ : Nat) (i : I) (at' : Nat) (regs' mem' : List Int) (cnt' : Int) : Prop :=
 Thr 40 [.ptr idc gc 0, .agg [.osl rid rg 0 regs.length 1 (some regs.length), .osl mid mg base M 1 cap, .ptr kid kg 0], dI at_, aI i] hp n c (dI at') [rid, mid, kid] (fun hp' => Mst hp' rid rg mid mg kid kg regs' mem' cnt')

theorem cI_take (l : List Int) : (cI l).take l.length = cI l := by rw [← cI_len, List.take_length]
theorem cI_putAt (l : List Int) (k : Nat) (xs : List Int) : List.take k (cI l) ++ (cI xs ++ List.drop (k + xs.length) (cI l)) = cI (putAt l k xs) := by
 unfold cI putAt; simp
/-- Facts of places that lie apart. -/
structure ApF (n rid mid kid : Nat) : Prop where
 a1 : (n = rid) = False
 a2 : (n + 1 = rid) = False
 a3 : (n + 2 = rid) = False
 a4 : (n = mid) = False
 a5 : (n + 1 = mid) = False
 a6 : (n + 2 = mid) = False
 a7 : (n = kid) = False
 a8 : (n + 1 = kid) = False
 a9 : (n + 2 = kid) = False
 b1 : (rid = mid) = False
 b2 : (mid = rid) = False
 b3 : (rid = kid) = False
 b4 : (kid = rid) = False
 b5 : (mid = kid) = False
 b6 : (kid = mid) = False
 c1 : (rid < n + 1 + 1) = True
 c2 : (mid < n + 1 + 1) = True
 c3 : (rid < n + 1 + 1 + 1) = True
 e1 : Nat.beq (n + 2) rid = false
 e2 : Nat.beq (n + 2) n = false
 e3 : Nat.beq (n + 2) (n + 1) = false
theorem Ap.f {n idc rid mid kid : Nat} (h : Ap n idc rid mid kid) : ApF n rid mid kid := by
 obtain ⟨h1, h2, h3, h4, h5, h6, h7, h8, h9, h10⟩ := h
 refine ⟨?_, ?_, ?_, ?_, ?_, ?_, ?_, ?_, ?_, ?_, ?_, ?_, ?_, ?_, ?_, ?_, ?_, ?_, nbeq_ne (by omega), nbeq_ne (by omega), nbeq_ne (by omega)⟩ <;> simp <;> omega

section
variable {im : Im} {hp : Hp} {n c idc gc rid rg mid mg kid kg base M : Nat} {cap : Option Nat} {regs mem : List Int} {cnt : Int} {at_ : Nat}

set_option maxHeartbeats 1000000 in
theorem step_load (hA : Ap n idc rid mid kid) (hM : Mst hp rid rg mid mg kid kg regs mem cnt) (hat : at_ < 1000000) (A : Nat) (b : Int) (h1 : A < regs.length) : StepAt hp n c idc gc rid rg mid mg kid kg base M cap regs mem cnt at_ ⟨1, A, b, 0, 0⟩ (at_ + 1) (regs.set A b) mem cnt := by
 have hw : IntKind.i64.wrap ((at_ : Int) + 1) = ((at_ + 1 : Nat) : Int) := by rw [w_id'] <;> omega
 obtain ⟨a1, a2, a3, a4, a5, a6, a7, a8, a9, b1, b2, b3, b4, b5, b6, c1, c2, c3, e1, e2, e3⟩ := hA.f
 have q1 := hA.lr
 have q2 := hA.lm
 have q3 := hA.lk
 have hr := hM.r
 have hm := hM.m
 have hk := hM.k
 have h1' : (A + 1 ≤ regs.length) = True := by simp; omega
 refine thr_wp Tryz.func40 rfl (by kernel_rfl) rfl ?_
 refine wkcek (jn @envOf.eq_1 (jn @envOf.eq_2 (jn @aI.eq_1 (jn @I.cells.eq_1 (jn @dI.eq_1 (jn @Hp.get_set (jn @a1 (jn @a2 (jn @a3 (jn @a4 (jn @a5 (jn @a6 (jn @hr (jn @hm (jn @cI_len (jn @nble_d (jn @c1 (jn @c2 (jn @c3 (jn (idx_lt h1) (jn (cI_put h1) @h1'))))))))))))))))))))) ?_
 exact ⟨.inr rfl, _, _, rfl, by rw [hw]; rfl, rfl, (((WI.refl.set (.inr (by omega))).set (.inr (by omega))).set (.inl (by simp))), ⟨by rw [Hp.get_trunc _ _ _ (by omega)]; simp [Hp.get_set, a1, a2, a3, a4, a5, a6, a7, a8, a9, b1, b2, b3, b4, b5, b6, hr, hm, hk], by rw [Hp.get_trunc _ _ _ (by omega)]; simp [Hp.get_set, a1, a2, a3, a4, a5, a6, a7, a8, a9, b1, b2, b3, b4, b5, b6, hr, hm, hk], by rw [Hp.get_trunc _ _ _ (by omega)]; simp [Hp.get_set, a1, a2, a3, a4, a5, a6, a7, a8, a9, b1, b2, b3, b4, b5, b6, hr, hm, hk]⟩⟩

set_option maxHeartbeats 1000000 in
theorem step_move (hA : Ap n idc rid mid kid) (hM : Mst hp rid rg mid mg kid kg regs mem cnt) (hat : at_ < 1000000) (A B : Nat) (h1 : A < regs.length) (h2 : B < regs.length) : StepAt hp n c idc gc rid rg mid mg kid kg base M cap regs mem cnt at_ ⟨2, A, B, 0, 0⟩ (at_ + 1) (regs.set A (rgv regs B)) mem cnt := by
 have hw : IntKind.i64.wrap ((at_ : Int) + 1) = ((at_ + 1 : Nat) : Int) := by rw [w_id'] <;> omega
 obtain ⟨a1, a2, a3, a4, a5, a6, a7, a8, a9, b1, b2, b3, b4, b5, b6, c1, c2, c3, e1, e2, e3⟩ := hA.f
 have q1 := hA.lr
 have q2 := hA.lm
 have q3 := hA.lk
 have hr := hM.r
 have hm := hM.m
 have hk := hM.k
 have h1' : (A + 1 ≤ regs.length) = True := by simp; omega
 have h2' := cI_at (rgv_at h2)
 refine thr_wp Tryz.func40 rfl (by kernel_rfl) rfl ?_
 refine wkcek (jn @envOf.eq_1 (jn @envOf.eq_2 (jn @aI.eq_1 (jn @I.cells.eq_1 (jn @dI.eq_1 (jn @Hp.get_set (jn @a1 (jn @a2 (jn @a3 (jn @a4 (jn @a5 (jn @a6 (jn @hr (jn @hm (jn @cI_len (jn @nble_d (jn @c1 (jn @c2 (jn @c3 (jn (idx_lt h1) (jn (idx_lt h2) (jn (cI_put h1) (jn @h1' @h2'))))))))))))))))))))))) ?_
 exact ⟨.inr rfl, _, _, rfl, by rw [hw]; rfl, rfl, (((WI.refl.set (.inr (by omega))).set (.inr (by omega))).set (.inl (by simp))), ⟨by rw [Hp.get_trunc _ _ _ (by omega)]; simp [Hp.get_set, a1, a2, a3, a4, a5, a6, a7, a8, a9, b1, b2, b3, b4, b5, b6, hr, hm, hk], by rw [Hp.get_trunc _ _ _ (by omega)]; simp [Hp.get_set, a1, a2, a3, a4, a5, a6, a7, a8, a9, b1, b2, b3, b4, b5, b6, hr, hm, hk], by rw [Hp.get_trunc _ _ _ (by omega)]; simp [Hp.get_set, a1, a2, a3, a4, a5, a6, a7, a8, a9, b1, b2, b3, b4, b5, b6, hr, hm, hk]⟩⟩

set_option maxHeartbeats 1000000 in
theorem step_read (hA : Ap n idc rid mid kid) (hM : Mst hp rid rg mid mg kid kg regs mem cnt) (hat : at_ < 1000000) (A B : Nat) (h1 : A < regs.length) (h2 : B < M) (h3 : base + M ≤ mem.length) : StepAt hp n c idc gc rid rg mid mg kid kg base M cap regs mem cnt at_ ⟨3, A, B, 0, 0⟩ (at_ + 1) (regs.set A (rgv mem (base + (B : Int)))) mem cnt := by
 have hw : IntKind.i64.wrap ((at_ : Int) + 1) = ((at_ + 1 : Nat) : Int) := by rw [w_id'] <;> omega
 obtain ⟨a1, a2, a3, a4, a5, a6, a7, a8, a9, b1, b2, b3, b4, b5, b6, c1, c2, c3, e1, e2, e3⟩ := hA.f
 have q1 := hA.lr
 have q2 := hA.lm
 have q3 := hA.lk
 have hr := hM.r
 have hm := hM.m
 have hk := hM.k
 have h1' : (A + 1 ≤ regs.length) = True := by simp; omega
 have h2' := cI_at (rgv_at (l := mem) (j := base + B) (by omega))
 rw [Int.natCast_add] at h2'
 refine thr_wp Tryz.func40 rfl (by kernel_rfl) rfl ?_
 refine wkcek (jn @envOf.eq_1 (jn @envOf.eq_2 (jn @aI.eq_1 (jn @I.cells.eq_1 (jn @dI.eq_1 (jn @Hp.get_set (jn @a1 (jn @a2 (jn @a3 (jn @a4 (jn @a5 (jn @a6 (jn @hr (jn @hm (jn @cI_len (jn @nble_d (jn @c1 (jn @c2 (jn @c3 (jn (idx_lt h1) (jn (idx_lt h2) (jn (cI_put h1) (jn @h1' @h2'))))))))))))))))))))))) ?_
 exact ⟨.inr rfl, _, _, rfl, by rw [hw]; rfl, rfl, (((WI.refl.set (.inr (by omega))).set (.inr (by omega))).set (.inl (by simp))), ⟨by rw [Hp.get_trunc _ _ _ (by omega)]; simp [Hp.get_set, a1, a2, a3, a4, a5, a6, a7, a8, a9, b1, b2, b3, b4, b5, b6, hr, hm, hk], by rw [Hp.get_trunc _ _ _ (by omega)]; simp [Hp.get_set, a1, a2, a3, a4, a5, a6, a7, a8, a9, b1, b2, b3, b4, b5, b6, hr, hm, hk], by rw [Hp.get_trunc _ _ _ (by omega)]; simp [Hp.get_set, a1, a2, a3, a4, a5, a6, a7, a8, a9, b1, b2, b3, b4, b5, b6, hr, hm, hk]⟩⟩

set_option maxHeartbeats 1000000 in
theorem step_write (hA : Ap n idc rid mid kid) (hM : Mst hp rid rg mid mg kid kg regs mem cnt) (hat : at_ < 1000000) (A B : Nat) (h1 : A < M) (h2 : B < regs.length) (h3 : base + M ≤ mem.length) : StepAt hp n c idc gc rid rg mid mg kid kg base M cap regs mem cnt at_ ⟨4, A, B, 0, 0⟩ (at_ + 1) regs (mem.set (base + A) (rgv regs B)) cnt := by
 have hw : IntKind.i64.wrap ((at_ : Int) + 1) = ((at_ + 1 : Nat) : Int) := by rw [w_id'] <;> omega
 obtain ⟨a1, a2, a3, a4, a5, a6, a7, a8, a9, b1, b2, b3, b4, b5, b6, c1, c2, c3, e1, e2, e3⟩ := hA.f
 have q1 := hA.lr
 have q2 := hA.lm
 have q3 := hA.lk
 have hr := hM.r
 have hm := hM.m
 have hk := hM.k
 have h1' : (base + A + 1 ≤ mem.length) = True := by simp; omega
 have h2' := cI_at (rgv_at h2)
 have h4 : base + A < mem.length := by omega
 refine thr_wp Tryz.func40 rfl (by kernel_rfl) rfl ?_
 refine wkcek (jn @envOf.eq_1 (jn @envOf.eq_2 (jn @aI.eq_1 (jn @I.cells.eq_1 (jn @dI.eq_1 (jn @Hp.get_set (jn @a1 (jn @a2 (jn @a3 (jn @a4 (jn @a5 (jn @a6 (jn @hr (jn @hm (jn @cI_len (jn @nble_d (jn @c1 (jn @c2 (jn @c3 (jn (idx_lt h1) (jn (idx_lt h2) (jn (cI_put h4) (jn @h1' @h2'))))))))))))))))))))))) ?_
 exact ⟨.inr rfl, _, _, rfl, by rw [hw]; rfl, rfl, (((WI.refl.set (.inr (by omega))).set (.inr (by omega))).set (.inl (by simp))), ⟨by rw [Hp.get_trunc _ _ _ (by omega)]; simp [Hp.get_set, a1, a2, a3, a4, a5, a6, a7, a8, a9, b1, b2, b3, b4, b5, b6, hr, hm, hk], by rw [Hp.get_trunc _ _ _ (by omega)]; simp [Hp.get_set, a1, a2, a3, a4, a5, a6, a7, a8, a9, b1, b2, b3, b4, b5, b6, hr, hm, hk], by rw [Hp.get_trunc _ _ _ (by omega)]; simp [Hp.get_set, a1, a2, a3, a4, a5, a6, a7, a8, a9, b1, b2, b3, b4, b5, b6, hr, hm, hk]⟩⟩

set_option maxHeartbeats 1000000 in
theorem step_jump (hA : Ap n idc rid mid kid) (hM : Mst hp rid rg mid mg kid kg regs mem cnt) (hat : at_ < 1000000) (B : Nat) : StepAt hp n c idc gc rid rg mid mg kid kg base M cap regs mem cnt at_ ⟨7, 0, B, 0, 0⟩ B regs mem cnt := by
 have hw : IntKind.i64.wrap ((at_ : Int) + 1) = ((at_ + 1 : Nat) : Int) := by rw [w_id'] <;> omega
 obtain ⟨a1, a2, a3, a4, a5, a6, a7, a8, a9, b1, b2, b3, b4, b5, b6, c1, c2, c3, e1, e2, e3⟩ := hA.f
 have q1 := hA.lr
 have q2 := hA.lm
 have q3 := hA.lk
 have hr := hM.r
 have hm := hM.m
 have hk := hM.k
 refine thr_wp Tryz.func40 rfl (by kernel_rfl) rfl ?_
 refine wkcek (jn @envOf.eq_1 (jn @envOf.eq_2 (jn @aI.eq_1 (jn @I.cells.eq_1 (jn @dI.eq_1 (jn @Hp.get_set (jn @a1 (jn @a2 (jn @a3 (jn @a4 (jn @a5 (jn @a6 (jn @hr (jn @hm (jn @cI_len (jn @nble_d (jn @c1 (jn @c2 @c3)))))))))))))))))) ?_
 exact ⟨.inr rfl, _, _, rfl, rfl, rfl, ((WI.refl.set (.inr (by omega))).set (.inr (by omega))), ⟨by rw [Hp.get_trunc _ _ _ (by omega)]; simp [Hp.get_set, a1, a2, a3, a4, a5, a6, a7, a8, a9, b1, b2, b3, b4, b5, b6, hr, hm, hk], by rw [Hp.get_trunc _ _ _ (by omega)]; simp [Hp.get_set, a1, a2, a3, a4, a5, a6, a7, a8, a9, b1, b2, b3, b4, b5, b6, hr, hm, hk], by rw [Hp.get_trunc _ _ _ (by omega)]; simp [Hp.get_set, a1, a2, a3, a4, a5, a6, a7, a8, a9, b1, b2, b3, b4, b5, b6, hr, hm, hk]⟩⟩

set_option maxHeartbeats 1000000 in
theorem step_zero (hA : Ap n idc rid mid kid) (hM : Mst hp rid rg mid mg kid kg regs mem cnt) (hat : at_ < 1000000) (A B : Nat) (h1 : A < regs.length) : StepAt hp n c idc gc rid rg mid mg kid kg base M cap regs mem cnt at_ ⟨8, A, B, 0, 0⟩ (if rgv regs A = 0 then B else at_ + 1) regs mem cnt := by
 have hw : IntKind.i64.wrap ((at_ : Int) + 1) = ((at_ + 1 : Nat) : Int) := by rw [w_id'] <;> omega
 obtain ⟨a1, a2, a3, a4, a5, a6, a7, a8, a9, b1, b2, b3, b4, b5, b6, c1, c2, c3, e1, e2, e3⟩ := hA.f
 have q1 := hA.lr
 have q2 := hA.lm
 have q3 := hA.lk
 have hr := hM.r
 have hm := hM.m
 have hk := hM.k
 have h1' := cI_at (rgv_at h1)
 refine thr_wp Tryz.func40 rfl (by kernel_rfl) rfl ?_
 by_cases hz : rgv regs A = 0
 ·have hz' : (rgv regs A == 0) = true := by simp [hz]
  refine wkcek (jn @envOf.eq_1 (jn @envOf.eq_2 (jn @aI.eq_1 (jn @I.cells.eq_1 (jn @dI.eq_1 (jn @Hp.get_set (jn @a1 (jn @a2 (jn @a3 (jn @a4 (jn @a5 (jn @a6 (jn @hr (jn @hm (jn @cI_len (jn @nble_d (jn @c1 (jn @c2 (jn @c3 (jn (idx_lt h1) (jn @h1' (jn @hz' @hz)))))))))))))))))))))) ?_
  rw [if_pos hz]
  exact ⟨.inr rfl, _, _, rfl, rfl, rfl, ((WI.refl.set (.inr (by omega))).set (.inr (by omega))), ⟨by rw [Hp.get_trunc _ _ _ (by omega)]; simp [Hp.get_set, a1, a2, a3, a4, a5, a6, a7, a8, a9, b1, b2, b3, b4, b5, b6, hr, hm, hk], by rw [Hp.get_trunc _ _ _ (by omega)]; simp [Hp.get_set, a1, a2, a3, a4, a5, a6, a7, a8, a9, b1, b2, b3, b4, b5, b6, hr, hm, hk], by rw [Hp.get_trunc _ _ _ (by omega)]; simp [Hp.get_set, a1, a2, a3, a4, a5, a6, a7, a8, a9, b1, b2, b3, b4, b5, b6, hr, hm, hk]⟩⟩
 ·refine wkcek (jn @envOf.eq_1 (jn @envOf.eq_2 (jn @aI.eq_1 (jn @I.cells.eq_1 (jn @dI.eq_1 (jn @Hp.get_set (jn @a1 (jn @a2 (jn @a3 (jn @a4 (jn @a5 (jn @a6 (jn @hr (jn @hm (jn @cI_len (jn @nble_d (jn @c1 (jn @c2 (jn @c3 (jn (idx_lt h1) (jn @h1' (jn @hz @int_beq)))))))))))))))))))))) ?_
  rw [if_neg hz]
  exact ⟨.inr rfl, _, _, rfl, by rw [hw]; rfl, rfl, ((WI.refl.set (.inr (by omega))).set (.inr (by omega))), ⟨by rw [Hp.get_trunc _ _ _ (by omega)]; simp [Hp.get_set, a1, a2, a3, a4, a5, a6, a7, a8, a9, b1, b2, b3, b4, b5, b6, hr, hm, hk], by rw [Hp.get_trunc _ _ _ (by omega)]; simp [Hp.get_set, a1, a2, a3, a4, a5, a6, a7, a8, a9, b1, b2, b3, b4, b5, b6, hr, hm, hk], by rw [Hp.get_trunc _ _ _ (by omega)]; simp [Hp.get_set, a1, a2, a3, a4, a5, a6, a7, a8, a9, b1, b2, b3, b4, b5, b6, hr, hm, hk]⟩⟩

set_option maxHeartbeats 1000000 in
theorem step_unary (hA : Ap n idc rid mid kid) (hM : Mst hp rid rg mid mg kid kg regs mem cnt) (hat : at_ < 1000000) (A B : Nat) (d : Int) (h1 : A < regs.length) (h2 : B < regs.length) (h4 : d = 1 ∨ d = 2) : StepAt hp n c idc gc rid rg mid mg kid kg base M cap regs mem cnt at_ ⟨5, A, B, d, 0⟩ (at_ + 1) (regs.set A (apR d [rgv regs B])) mem cnt := by
 have hw : IntKind.i64.wrap ((at_ : Int) + 1) = ((at_ + 1 : Nat) : Int) := by rw [w_id'] <;> omega
 obtain ⟨a1, a2, a3, a4, a5, a6, a7, a8, a9, b1, b2, b3, b4, b5, b6, c1, c2, c3, e1, e2, e3⟩ := hA.f
 have q1 := hA.lr
 have q2 := hA.lm
 have q3 := hA.lk
 have hr := hM.r
 have hm := hM.m
 have hk := hM.k
 have h1' : (A + 1 ≤ regs.length) = True := by simp; omega
 have h2' := cI_at (rgv_at h2)
 have hd := mapply_den d (by rcases h4 with rfl | rfl <;> simp [IsOp]) [rgv regs B] (by rcases h4 with rfl | rfl <;> rfl)
 simp only [dI, dL, encI, ni, List.map_cons, List.map_nil] at hd
 refine thr_wp Tryz.func40 rfl (by kernel_rfl) rfl ?_
 repeat (first
 | apply WP.seq
 | (apply WP.reg; (case hR => dsimp only [prepL, prepO, List.map, gS, gZ]; exact iZ); (case hr => (repeat (first
 | (apply RT.op; simp [envOf, aI, I.cells, dI, Hp.get_set, a1, a2, a3, a4, a5, a6, hr, hm, cI_len, nble_d, c1, c2, c3, -addNew, idx_lt h1, idx_lt h2, cI_put h1, h1', h2', hd, toD_dep, toDs, chunk, closeParts, cl2, fillV]; exact iZ; (try dsimp only [putEnv]) <;> exact rfl)
 | (apply RT.call; (iterate 2 simp; exact iZ); exact iZ; (iterate 4 simp [envOf, aI, I.cells, dI, Hp.get_set, a1, a2, a3, a4, a5, a6, hr, hm, cI_len, nble_d, c1, c2, c3, -addNew, idx_lt h1, idx_lt h2, cI_put h1, h1', h2', hd, toD_dep, toDs, chunk, closeParts, cl2, fillV]; exact iZ); simp [Is]; (try dsimp only [putEnv]) <;> exact rfl; simp; exact iZ; exact iZ)
 | (apply RT.wr; simp [envOf, aI, I.cells, dI, Hp.get_set, a1, a2, a3, a4, a5, a6, hr, hm, cI_len, nble_d, c1, c2, c3, -addNew, idx_lt h1, idx_lt h2, cI_put h1, h1', h2', hd, toD_dep, toDs, chunk, closeParts, cl2, fillV]; exact iZ; (try dsimp only [putEnv]) <;> exact rfl; simp [envOf, aI, I.cells, dI, Hp.get_set, a1, a2, a3, a4, a5, a6, hr, hm, cI_len, nble_d, c1, c2, c3, -addNew, idx_lt h1, idx_lt h2, cI_put h1, h1', h2', hd, toD_dep, toDs, chunk, closeParts, cl2, fillV]; exact iZ; (iterate 2 exact iZ); exact iZ))); exact RT.nil); (case hc => first | (refine checkR_un [(0, 2), (1, 2), (0, 3), (1, 3), (0, 4), (1, 4), (2, 4), (3, 4), (0, 5), (1, 5), (2, 5), (3, 5), (0, 6), (1, 6), (2, 6), (3, 6), (4, 6), (5, 6), (0, 7), (1, 7), (2, 7), (3, 7), (4, 7), (5, 7), (0, 8), (1, 8), (2, 8), (3, 8), (4, 8), (5, 8), (6, 8), (7, 8), (0, 9), (1, 9), (2, 9), (3, 9), (4, 9), (5, 9), (6, 9), (7, 9), (0, 10), (1, 10), (2, 10), (3, 10), (4, 10), (5, 10), (0, 11), (1, 11), (2, 11), (3, 11), (4, 11), (5, 11), (0, 12), (1, 12), (2, 12), (3, 12), (4, 12), (5, 12), (0, 13), (1, 13), (2, 13), (3, 13)] (by kernel_rfl) (by decide +kernel) rfl ?_; simp [memA, disj, e1, e2, e3]; done) | (show _ = _; kernel_rfl)); (case ht => simp [envOf, aI, I.cells, dI, Hp.get_set, a1, a2, a3, a4, a5, a6, hr, hm, cI_len, nble_d, c1, c2, c3, -addNew, idx_lt h1, idx_lt h2, cI_put h1, h1', h2', hd, toD_dep, toDs, chunk, closeParts, cl2, fillV]; exact iZ))
 | apply WP.block | apply WP.skip | apply WP.exit | apply WP.ret | refine WP.condT rfl ?_ | refine WP.condF rfl ?_)
 exact ⟨.inr rfl, _, _, rfl, by rw [hw]; rfl, rfl, ((((WI.refl.set (.inr (by omega))).set (.inr (by omega))).set (.inr (by omega))).set (.inl (by simp))), ⟨by rw [Hp.get_trunc _ _ _ (by omega)]; simp [Hp.get_set, a1, a2, a3, a4, a5, a6, a7, a8, a9, b1, b2, b3, b4, b5, b6, hr, hm, hk], by rw [Hp.get_trunc _ _ _ (by omega)]; simp [Hp.get_set, a1, a2, a3, a4, a5, a6, a7, a8, a9, b1, b2, b3, b4, b5, b6, hr, hm, hk], by rw [Hp.get_trunc _ _ _ (by omega)]; simp [Hp.get_set, a1, a2, a3, a4, a5, a6, a7, a8, a9, b1, b2, b3, b4, b5, b6, hr, hm, hk]⟩⟩

set_option maxHeartbeats 1000000 in
theorem step_apply (hA : Ap n idc rid mid kid) (hM : Mst hp rid rg mid mg kid kg regs mem cnt) (hat : at_ < 1000000) (A B C : Nat) (d : Int) (h1 : A < regs.length) (h2 : B < regs.length) (h3 : C < regs.length) (h4 : 3 ≤ d) (h5 : d ≤ 16) : StepAt hp n c idc gc rid rg mid mg kid kg base M cap regs mem cnt at_ ⟨6, A, B, C, d⟩ (at_ + 1) (regs.set A (apR d [rgv regs B, rgv regs C])) mem cnt := by
 have hw : IntKind.i64.wrap ((at_ : Int) + 1) = ((at_ + 1 : Nat) : Int) := by rw [w_id'] <;> omega
 obtain ⟨a1, a2, a3, a4, a5, a6, a7, a8, a9, b1, b2, b3, b4, b5, b6, c1, c2, c3, e1, e2, e3⟩ := hA.f
 have q1 := hA.lr
 have q2 := hA.lm
 have q3 := hA.lk
 have hr := hM.r
 have hm := hM.m
 have hk := hM.k
 have h1' : (A + 1 ≤ regs.length) = True := by simp; omega
 have h2' := cI_at (rgv_at h2)
 have h3' := cI_at (rgv_at h3)
 have hd := mapply_den d (isOp_of (by omega) h5) [rgv regs B, rgv regs C] (by unfold ar; rw [if_neg (by omega)]; rfl)
 simp only [dI, dL, encI, ni, List.map_cons, List.map_nil] at hd
 refine thr_wp Tryz.func40 rfl (by kernel_rfl) rfl ?_
 repeat (first
 | apply WP.seq
 | (apply WP.reg; (case hR => dsimp only [prepL, prepO, List.map, gS, gZ]; exact iZ); (case hr => (repeat (first
 | (apply RT.op; simp [envOf, aI, I.cells, dI, Hp.get_set, a1, a2, a3, a4, a5, a6, hr, hm, cI_len, nble_d, c1, c2, c3, -addNew, idx_lt h1, idx_lt h2, idx_lt h3, cI_put h1, h1', h2', h3', hd, toD_dep, toDs, chunk, closeParts, cl2, fillV]; exact iZ; (try dsimp only [putEnv]) <;> exact rfl)
 | (apply RT.call; (iterate 2 simp; exact iZ); exact iZ; (iterate 4 simp [envOf, aI, I.cells, dI, Hp.get_set, a1, a2, a3, a4, a5, a6, hr, hm, cI_len, nble_d, c1, c2, c3, -addNew, idx_lt h1, idx_lt h2, idx_lt h3, cI_put h1, h1', h2', h3', hd, toD_dep, toDs, chunk, closeParts, cl2, fillV]; exact iZ); simp [Is]; (try dsimp only [putEnv]) <;> exact rfl; simp; exact iZ; exact iZ)
 | (apply RT.wr; simp [envOf, aI, I.cells, dI, Hp.get_set, a1, a2, a3, a4, a5, a6, hr, hm, cI_len, nble_d, c1, c2, c3, -addNew, idx_lt h1, idx_lt h2, idx_lt h3, cI_put h1, h1', h2', h3', hd, toD_dep, toDs, chunk, closeParts, cl2, fillV]; exact iZ; (try dsimp only [putEnv]) <;> exact rfl; simp [envOf, aI, I.cells, dI, Hp.get_set, a1, a2, a3, a4, a5, a6, hr, hm, cI_len, nble_d, c1, c2, c3, -addNew, idx_lt h1, idx_lt h2, idx_lt h3, cI_put h1, h1', h2', h3', hd, toD_dep, toDs, chunk, closeParts, cl2, fillV]; exact iZ; (iterate 2 exact iZ); exact iZ))); exact RT.nil); (case hc => first | (refine checkR_un [(0, 2), (1, 2), (0, 3), (1, 3), (0, 4), (1, 4), (2, 4), (3, 4), (0, 5), (1, 5), (2, 5), (3, 5), (0, 6), (1, 6), (2, 6), (3, 6), (4, 6), (5, 6), (0, 7), (1, 7), (2, 7), (3, 7), (4, 7), (5, 7), (0, 8), (1, 8), (2, 8), (3, 8), (4, 8), (5, 8), (6, 8), (7, 8), (0, 9), (1, 9), (2, 9), (3, 9), (4, 9), (5, 9), (6, 9), (7, 9), (0, 10), (1, 10), (2, 10), (3, 10), (4, 10), (5, 10), (0, 11), (1, 11), (2, 11), (3, 11), (4, 11), (5, 11), (0, 12), (1, 12), (2, 12), (3, 12), (4, 12), (5, 12), (6, 12), (7, 12), (8, 12), (9, 12), (10, 12), (11, 12), (0, 13), (1, 13), (2, 13), (3, 13), (4, 13), (5, 13), (6, 13), (7, 13), (8, 13), (9, 13), (10, 13), (11, 13), (0, 14), (1, 14), (2, 14), (3, 14), (4, 14), (5, 14), (6, 14), (7, 14), (8, 14), (9, 14), (10, 14), (11, 14), (12, 14), (13, 14), (0, 15), (1, 15), (2, 15), (3, 15), (4, 15), (5, 15), (6, 15), (7, 15), (8, 15), (9, 15), (10, 15), (11, 15), (12, 15), (13, 15), (0, 16), (1, 16), (2, 16), (3, 16), (4, 16), (5, 16), (6, 16), (7, 16), (8, 16), (9, 16), (10, 16), (11, 16), (0, 17), (1, 17), (2, 17), (3, 17), (4, 17), (5, 17), (6, 17), (7, 17), (8, 17), (9, 17), (10, 17), (11, 17), (0, 18), (1, 18), (2, 18), (3, 18), (4, 18), (5, 18), (0, 19), (1, 19), (2, 19), (3, 19)] (by kernel_rfl) (by decide +kernel) rfl ?_; simp [memA, disj, e1, e2, e3]; done) | (show _ = _; kernel_rfl)); (case ht => simp [envOf, aI, I.cells, dI, Hp.get_set, a1, a2, a3, a4, a5, a6, hr, hm, cI_len, nble_d, c1, c2, c3, -addNew, idx_lt h1, idx_lt h2, idx_lt h3, cI_put h1, h1', h2', h3', hd, toD_dep, toDs, chunk, closeParts, cl2, fillV]; exact iZ))
 | apply WP.block | apply WP.skip | apply WP.exit | apply WP.ret | refine WP.condT rfl ?_ | refine WP.condF rfl ?_)
 exact ⟨.inr rfl, _, _, rfl, by rw [hw]; rfl, rfl, ((((WI.refl.set (.inr (by omega))).set (.inr (by omega))).set (.inr (by omega))).set (.inl (by simp))), ⟨by rw [Hp.get_trunc _ _ _ (by omega)]; simp [Hp.get_set, a1, a2, a3, a4, a5, a6, a7, a8, a9, b1, b2, b3, b4, b5, b6, hr, hm, hk], by rw [Hp.get_trunc _ _ _ (by omega)]; simp [Hp.get_set, a1, a2, a3, a4, a5, a6, a7, a8, a9, b1, b2, b3, b4, b5, b6, hr, hm, hk], by rw [Hp.get_trunc _ _ _ (by omega)]; simp [Hp.get_set, a1, a2, a3, a4, a5, a6, a7, a8, a9, b1, b2, b3, b4, b5, b6, hr, hm, hk]⟩⟩

set_option maxHeartbeats 1000000 in
theorem step_reset (hA : Ap n idc rid mid kid) (hM : Mst hp rid rg mid mg kid kg regs mem cnt) (hat : at_ < 1000000) (A B : Nat) (q : Rt) (hq : im.rs[A]? = some q) (hC : ∃ rest, CAt im hp idc gc rest) (h1 : B + q.ini.length ≤ M) (h3 : base + M ≤ mem.length) (hcap : (M ≤ cap.getD M) = True) : StepAt hp n c idc gc rid rg mid mg kid kg base M cap regs mem cnt at_ ⟨10, A, B, 0, 0⟩ (at_ + 1) regs (putAt mem (base + B) q.ini) cnt := by
 have hw : IntKind.i64.wrap ((at_ : Int) + 1) = ((at_ + 1 : Nat) : Int) := by rw [w_id'] <;> omega
 obtain ⟨a1, a2, a3, a4, a5, a6, a7, a8, a9, b1, b2, b3, b4, b5, b6, c1, c2, c3, e1, e2, e3⟩ := hA.f
 have q1 := hA.lr
 have q2 := hA.lm
 have q3 := hA.lk
 have hr := hM.r
 have hm := hM.m
 have hk := hM.k
 obtain ⟨rest, ro, hC⟩ := hC
 have hq' := encR_at hq
 have hix := idx_lt (by obtain ⟨h, _⟩ := List.getElem?_eq_some_iff.1 hq; exact h : A < im.rs.length)
 have hmin : min q.ini.length (M - B) = q.ini.length := by omega
 have g1 : (n = idc) = False := by have := hA.lc; simp; omega
 have g2 : (n + 1 = idc) = False := by have := hA.lc; simp; omega
 have g3 : (B ≤ M) = True := by simp; omega
 have g4 : (base + B + (M - B) ≤ mem.length) = True := by simp; omega
 refine thr_wp Tryz.func40 rfl (by kernel_rfl) rfl ?_
 refine wkcek (jn @envOf.eq_1 (jn @envOf.eq_2 (jn @aI.eq_1 (jn @I.cells.eq_1 (jn @dI.eq_1 (jn @Hp.get_set (jn @a1 (jn @a2 (jn @a3 (jn @a4 (jn @a5 (jn @a6 (jn @hr (jn @hm (jn @cI_len (jn @nble_d (jn @c1 (jn @c2 (jn @c3 (jn @hq' (jn @hix (jn @hmin (jn @hC (jn @Rt.cells.eq_1 (jn @copyV.eq_def (jn @sliceV.eq_def (jn @bnd.eq_def (jn @rowsI (jn @g1 (jn @g2 (jn @g3 (jn @g4 (jn @hcap (jn @cI_take @cI_putAt)))))))))))))))))))))))))))))))))) ?_
 exact ⟨.inr rfl, _, _, rfl, by rw [hw]; rfl, rfl, (((WI.refl.set (.inr (by omega))).set (.inr (by omega))).set (.inl (by simp))), ⟨by rw [Hp.get_trunc _ _ _ (by omega)]; simp [Hp.get_set, a1, a2, a3, a4, a5, a6, a7, a8, a9, b1, b2, b3, b4, b5, b6, hr, hm, hk], by rw [Hp.get_trunc _ _ _ (by omega)]; simp [Hp.get_set, a1, a2, a3, a4, a5, a6, a7, a8, a9, b1, b2, b3, b4, b5, b6, hr, hm, hk], by rw [Hp.get_trunc _ _ _ (by omega)]; simp [Hp.get_set, a1, a2, a3, a4, a5, a6, a7, a8, a9, b1, b2, b3, b4, b5, b6, hr, hm, hk]⟩⟩

end
end Go.Ac
end

section
set_option maxRecDepth 4000
namespace Go.Ac
open Go.Proofs

/-- Where the inputs of a routine are read. -/
def InV (hp : Hp) (n : Nat) (v : V) (ins : List Int) : Prop := v = dL ins ∨ ∃ (rid rg off : Nat) (cap : Option Nat) (l : List Int), rid < n ∧ v = .osl rid rg off ins.length 1 cap ∧ hp.get rid = some ⟨rg, false, cI l⟩ ∧ (l.drop off).take ins.length = ins ∧ off + ins.length ≤ l.length
/-- What an execution comes to. -/
def ExecAt (hp : Hp) (n c idc gc mid mg kid kg base : Nat) (cap : Option Nat) (q : Rt) (v : V) (y : Int) (outs mem' : List Int) (k : Nat) : Prop :=
 Thr 26 [.ptr idc gc 0, aR q, .osl mid mg base q.ini.length 1 cap, v, .ptr kid kg 0] hp n c (dL outs) [mid, kid] (fun hp' => hp'.get mid = some ⟨mg, false, cI mem'⟩ ∧ hp'.get kid = some ⟨kg, false, [dI (IntKind.i64.wrap (y + k))]⟩)
def capOf (l : List V) (m : Nat) : Option Nat := if l.isEmpty then none else some m
theorem capOf_le (l : List V) (m : Nat) : (m ≤ (capOf l m).getD m) = True := by
 unfold capOf; split <;> simp
section
variable {im : Im} {hp : Hp} {n c idc gc rid rg mid mg kid kg base M : Nat} {cap : Option Nat} {regs mem : List Int} {y : Int}

set_option maxHeartbeats 2000000 in
theorem call_ok (hA : Ap n idc rid mid kid) (hM : Mst hp rid rg mid mg kid kg regs mem (IntKind.i64.wrap y)) (A B C D : Nat) (q : Rt) (hq : im.rs[A]? = some q) (hC : ∃ rest, CAt im hp idc gc rest) (hm : mem.length ≤ 1000000) (hrl : regs.length ≤ 1000000)
  (h1 : B + q.ini.length ≤ M) (h2 : C + q.inn.length ≤ regs.length) (h3 : D + q.out.length ≤ regs.length) (h4 : base + M ≤ mem.length) (hcap : (M ≤ cap.getD M) = True) (outs mem' : List Int) (k : Nat) (hol : outs.length = q.out.length)
  (hE : ∀ hp1 n1 c1, n ≤ n1 → (∀ j, j < n → hp1.get j = hp.get j) → ExecAt hp1 n1 c1 idc gc mid mg kid kg (base + B) (capOf (cI mem) q.ini.length) q (.osl rid rg C q.inn.length 1 (capOf (cI regs) q.inn.length)) y outs mem' k) :
  Thr 59 [.ptr idc gc 0, .agg [.osl rid rg 0 regs.length 1 (some regs.length), .osl mid mg base M 1 cap, .ptr kid kg 0], aI ⟨9, A, B, C, D⟩] hp n c (.tuple []) [rid, mid, kid] (fun hp' => Mst hp' rid rg mid mg kid kg (putAt regs D outs) mem' (IntKind.i64.wrap (y + k))) := by
 obtain ⟨a1, a2, a3, a4, a5, a6, a7, a8, a9, b1, b2, b3, b4, b5, b6, c1, c2, c3, e1, e2, e3⟩ := hA.f
 have q1 := hA.lr
 have q2 := hA.lm
 have q3 := hA.lk
 have q4 := hA.lc
 have hr := hM.r
 have hmm := hM.m
 have hk := hM.k
 obtain ⟨rest, ro, hC⟩ := hC
 have hq' := encR_at hq
 have hix := idx_lt (by obtain ⟨h, _⟩ := List.getElem?_eq_some_iff.1 hq; exact h : A < im.rs.length)
 have g1 : (n = idc) = False := by simp; omega
 have g2 : (n + 1 = idc) = False := by simp; omega
 have g3 : (n + 2 = idc) = False := by simp; omega
 refine thr_wp Tryz.func59 rfl (by kernel_rfl) rfl ?_
 have e4 : Nat.beq (n + 2) idc = false := nbeq_ne (by omega)
 repeat (first
 | apply WP.seq
 | (apply WP.reg; (case hR => dsimp only [prepL, prepO, List.map, gS, gZ]; exact iZ); (case hr => (repeat (first
 | (apply RT.op; simp [envOf, aI, I.cells, dI, Hp.get_set, a1, a2, a3, a4, a5, a6, hr, hmm, cI_len, nble_d, c1, c2, c3, -addNew, hC, g1, g2, g3, hq', hix, Rt.cells]; exact iZ; (try dsimp only [putEnv]) <;> exact rfl)
 | (apply RT.call; (iterate 2 simp; exact iZ); exact iZ; (iterate 4 simp [envOf, aI, I.cells, dI, Hp.get_set, a1, a2, a3, a4, a5, a6, hr, hmm, cI_len, nble_d, c1, c2, c3, -addNew, hC, g1, g2, g3, hq', hix, Rt.cells]; exact iZ); simp [Is]; (try dsimp only [putEnv]) <;> exact rfl; simp; exact iZ; exact iZ)
 | (apply RT.callT (hd := hT1) (hk := hT2); (iterate 2 simp; exact iZ); exact iZ; (iterate 2 simp [envOf, aI, I.cells, dI, Hp.get_set, a1, a2, a3, a4, a5, a6, hr, hmm, cI_len, nble_d, c1, c2, c3, -addNew, hC, g1, g2, g3, hq', hix, Rt.cells]; exact iZ); (try dsimp only [putEnv]) <;> exact rfl)
 | (apply RT.wr; simp [envOf, aI, I.cells, dI, Hp.get_set, a1, a2, a3, a4, a5, a6, hr, hmm, cI_len, nble_d, c1, c2, c3, -addNew, hC, g1, g2, g3, hq', hix, Rt.cells]; exact iZ; (try dsimp only [putEnv]) <;> exact rfl; simp [envOf, aI, I.cells, dI, Hp.get_set, a1, a2, a3, a4, a5, a6, hr, hmm, cI_len, nble_d, c1, c2, c3, -addNew, hC, g1, g2, g3, hq', hix, Rt.cells]; exact iZ; (iterate 2 exact iZ); exact iZ))); exact RT.nil); (case hc => first | (refine checkR_un [(0, 5), (1, 5), (2, 5), (3, 5), (4, 5), (0, 6), (1, 6), (2, 6), (3, 6), (4, 6)] (by kernel_rfl) (by decide +kernel) rfl ?_; simp [memA, disj, e2, e3, e4]; done) | (show _ = _; kernel_rfl)); (case ht => simp [envOf, aI, I.cells, dI, Hp.get_set, a1, a2, a3, a4, a5, a6, hr, hmm, cI_len, nble_d, c1, c2, c3, -addNew, hC, g1, g2, g3, hq', hix, Rt.cells]; exact iZ))
 | apply WP.block | apply WP.skip | apply WP.exit | apply WP.ret | refine WP.condT rfl ?_ | refine WP.condF rfl ?_)
 apply WP.gen
 intro hp1 wl1 hhp hwl
 have hwi : WI [rid, mid, kid] n hp wl1 hp1 := by
  rw [hhp, hwl]
  exact ((((WI.refl.set (.inr (by omega))).set (.inr (by omega))).set (.inr (by omega))).set (.inr (by omega)))
 have hfr : ∀ j, j < n → hp1.get j = hp.get j := fun j hj => by
  rw [hhp]
  have f1 : ¬ n = j := by omega
  have f2 : ¬ n + 1 = j := by omega
  have f3 : ¬ n + 1 + 1 = j := by omega
  simp [Hp.get_set, f1, f2, f3]
 have z1 : (n + 1 + 1 = n) = False := by simp; omega
 have z2 : (n + 1 = n) = False := by simp
 have k0 : hp1.get n = some ⟨c, false, [V.osl rid rg 0 regs.length 1 (some regs.length), V.osl mid mg base M 1 cap, V.ptr kid kg 0]⟩ := by rw [hhp]; simp [Hp.get_set, z1, z2]
 have k1 : hp1.get (n + 1) = some ⟨c + 1, false, [V.d (Ac.D.int IntKind.i64 9), V.d (Ac.D.int IntKind.i64 ↑A), V.d (Ac.D.int IntKind.i64 ↑B), V.d (Ac.D.int IntKind.i64 ↑C), V.d (Ac.D.int IntKind.i64 ↑D)]⟩ := by rw [hhp]; simp [Hp.get_set]
 have k2 : hp1.get (n + 1 + 1) = some ⟨c + 1 + 1, false, [V.d (Ac.D.str q.nm), V.d (Ac.D.slice (encI q.inn)), V.d (Ac.D.slice (encI q.out)), V.d (Ac.D.int IntKind.i64 q.regs), V.d (Ac.D.slice (encI q.ini)), V.d (Ac.D.slice (encC q.code))]⟩ := by rw [hhp]; simp [Hp.get_set]
 have kr := (hfr rid q1).trans hr
 have km := (hfr mid q2).trans hmm
 have kk := (hfr kid q3).trans hk
 clear hhp hwl
 obtain ⟨r0, hT1, hv, hn, hT2, hki, hfr2, hp2, ⟨hm2, hk2⟩, hsame⟩ := (hE hp1 (n + 3) (c + 3) (by omega) hfr).caller (by intro j hj; simp at hj; omega)
 simp only [aR, Rt.cells, List.map_cons, List.map_nil, capOf] at hT1
 simp only [dL] at hv
 have w1 : IntKind.i64.wrap ((B : Int) + q.ini.length) = ((B + q.ini.length : Nat) : Int) := by rw [w_id'] <;> omega
 have w2 : IntKind.i64.wrap ((C : Int) + q.inn.length) = ((C + q.inn.length : Nat) : Int) := by rw [w_id'] <;> omega
 have t1 : ((B : Int) + q.ini.length).toNat = B + q.ini.length := by omega
 have t2 : ((C : Int) + q.inn.length).toNat = C + q.inn.length := by omega
 have p1 : (0 ≤ (B : Int) + q.ini.length) = True := by simp; omega
 have p2 : (0 ≤ (C : Int) + q.inn.length) = True := by simp; omega
 have l1 : (B ≤ B + q.ini.length) = True := by simp
 have l2 : (B + q.ini.length ≤ cap.getD M) = True := by simp at hcap ⊢; omega
 have l3 : (C + q.inn.length ≤ regs.length) = True := by simp; omega
 refine wkcekt (jn @dI.eq_1 (jn @k0 (jn @k1 (jn @k2 (jn @kr (jn @km (jn @kk (jn @sliceV.eq_def (jn @bnd.eq_def (jn @w1 (jn @w2 (jn @t1 (jn @t2 (jn @p1 (jn @p2 (jn @l1 (jn @l2 (jn @l3 (jn @hv (jn @hn (jn @cI_len (jn @nble_d @copyV.eq_def)))))))))))))))))))))) ?_
 apply WP.gen
 intro hp4 wl4 hhp4 hwl4
 have hwi4 : WI [rid, mid, kid] n hp wl4 hp4 := by
  rw [hhp4, hwl4]
  exact hwi.sets fun p hp => by
   have := hki _ (List.mem_map.2 ⟨p, hp, rfl⟩)
   simp only [List.mem_cons, List.not_mem_nil, or_false] at this ⊢
   rcases this with h | h <;> simp [h]
 have hfr4 : ∀ j, j < n + 3 → j ≠ mid → j ≠ kid → hp4.get j = hp1.get j := fun j hj x1 x2 => by
  rw [hhp4]; exact hfr2 j hj (by simp [x1, x2])
 have m4 : hp4.get mid = some ⟨mg, false, cI mem'⟩ := by rw [hhp4, hsame mid (by omega) (by rw [hm2]; rfl), hm2]
 have kd4 : hp4.get kid = some ⟨kg, false, [dI (IntKind.i64.wrap (y + k))]⟩ := by rw [hhp4, hsame kid (by omega) (by rw [hk2]; rfl), hk2]
 have r4 : hp4.get rid = some ⟨rg, false, cI regs⟩ := by rw [hfr4 rid (by omega) hA.nrm hA.nrk, kr]
 have n0 : hp4.get n = _ := (hfr4 n (by omega) (by omega) (by omega)).trans k0
 have n1 : hp4.get (n + 1) = _ := (hfr4 (n + 1) (by omega) (by omega) (by omega)).trans k1
 clear hhp4 hwl4 hsame hfr2 hT1 hT2
 have l4 : (D ≤ regs.length) = True := by simp; omega
 have l5 : (D + (regs.length - D) ≤ regs.length) = True := by simp; omega
 have hmin : min outs.length (regs.length - D) = outs.length := by omega
 have c4 : (rid < n + 3) = True := by simp; omega
 refine wkcekt (jn @dI.eq_1 (jn @n0 (jn @n1 (jn @r4 (jn @sliceV.eq_def (jn @bnd.eq_def (jn @l4 (jn @l5 (jn @hmin (jn @rowsI (jn @cI_len (jn @nble_d (jn @copyV.eq_def (jn @cI_take (jn @cI_putAt @c4))))))))))))))) ?_
 have gr : ∀ o j, j < n → (Hp.trunc n (hp4.set rid o)).get j = if rid = j then some o else hp4.get j := fun o j hj => by rw [Hp.get_trunc _ _ _ hj, Hp.get_set]
 exact ⟨.inl rfl, _, _, rfl, rfl, rfl, hwi4.set (.inl (by simp)), ⟨by rw [gr _ _ q1, if_pos rfl], by rw [gr _ _ q2, if_neg hA.nrm, m4], by rw [gr _ _ q3, if_neg hA.nrk, kd4]⟩⟩
end
end Go.Ac
end

section
set_option maxRecDepth 4000
namespace Go.Ac
open Go.Proofs

section
variable {im : Im} {hp : Hp} {n c idc gc rid rg mid mg kid kg base M : Nat} {cap : Option Nat} {regs mem : List Int} {y : Int} {at_ : Nat}

set_option maxHeartbeats 1000000 in
theorem step_call (hA : Ap n idc rid mid kid) (hM : Mst hp rid rg mid mg kid kg regs mem (IntKind.i64.wrap y)) (hat : at_ < 1000000) (A B C D : Nat) (regs' mem' : List Int) (y' : Int)
  (hE : ∀ hp1 n1 c1, n ≤ n1 → (∀ j, j < n → hp1.get j = hp.get j) → Thr 59 [.ptr idc gc 0, .agg [.osl rid rg 0 regs.length 1 (some regs.length), .osl mid mg base M 1 cap, .ptr kid kg 0], aI ⟨9, A, B, C, D⟩] hp1 n1 c1 (.tuple []) [rid, mid, kid] (fun hp' => Mst hp' rid rg mid mg kid kg regs' mem' y')) :
  StepAt hp n c idc gc rid rg mid mg kid kg base M cap regs mem (IntKind.i64.wrap y) at_ ⟨9, A, B, C, D⟩ (at_ + 1) regs' mem' y' := by
 have hw : IntKind.i64.wrap ((at_ : Int) + 1) = ((at_ + 1 : Nat) : Int) := by rw [w_id'] <;> omega
 obtain ⟨a1, a2, a3, a4, a5, a6, a7, a8, a9, b1, b2, b3, b4, b5, b6, c1, c2, c3, e1, e2, e3⟩ := hA.f
 have q1 := hA.lr
 have q2 := hA.lm
 have q3 := hA.lk
 refine thr_wp Tryz.func40 rfl (by kernel_rfl) rfl ?_
 refine wkcekt (jn @envOf.eq_1 (jn @envOf.eq_2 (jn @aI.eq_1 (jn @I.cells.eq_1 (jn @dI.eq_1 (jn @Hp.get_set (jn @cI_len @nble_d))))))) ?_
 apply WP.gen
 intro hp1 wl1 hhp hwl
 have hwi : WI [rid, mid, kid] n hp wl1 hp1 := by
  rw [hhp, hwl]
  exact (WI.refl.set (.inr (by omega))).set (.inr (by omega))
 have hfr : ∀ j, j < n → hp1.get j = hp.get j := fun j hj => by
  rw [hhp]
  have f1 : ¬ n = j := by omega
  have f2 : ¬ n + 1 = j := by omega
  simp [Hp.get_set, f1, f2]
 have z2 : (n + 1 = n) = False := by simp
 have k0 : hp1.get n = some ⟨c, false, [V.osl rid rg 0 regs.length 1 (some regs.length), V.osl mid mg base M 1 cap, V.ptr kid kg 0]⟩ := by rw [hhp]; simp [Hp.get_set, z2]
 have k1 : hp1.get (n + 1) = some ⟨c + 1, false, [V.d (Ac.D.int IntKind.i64 9), V.d (Ac.D.int IntKind.i64 ↑A), V.d (Ac.D.int IntKind.i64 ↑B), V.d (Ac.D.int IntKind.i64 ↑C), V.d (Ac.D.int IntKind.i64 ↑D)]⟩ := by rw [hhp]; simp [Hp.get_set]
 clear hhp hwl
 obtain ⟨r0, hT1, hv, hn, hT2, hki, hfr2, hp2, hM2, hsame⟩ := (hE hp1 (n + 2) (c + 2) (by omega) hfr).caller (by intro j hj; simp at hj; omega)
 simp only [aI, I.cells, List.map_cons, List.map_nil] at hT1
 refine wkcekt (jn @dI.eq_1 (jn @k0 (jn @k1 (jn @hv @hn)))) ?_
 have m1 := (hsame rid (by omega) (by rw [hM2.r]; rfl)).trans hM2.r
 have m2 := (hsame mid (by omega) (by rw [hM2.m]; rfl)).trans hM2.m
 have m3 := (hsame kid (by omega) (by rw [hM2.k]; rfl)).trans hM2.k
 exact ⟨.inr rfl, _, _, rfl, by rw [hw]; rfl, rfl, hwi.sets fun p hp => .inl (hki _ (List.mem_map.2 ⟨p, hp, rfl⟩)), ⟨by rw [Hp.get_trunc _ _ _ q1, m1], by rw [Hp.get_trunc _ _ _ q2, m2], by rw [Hp.get_trunc _ _ _ q3, m3]⟩⟩
end
def ExecOK (im : Im) (f : Nat) : Prop := ∀ (k : Nat) (q : Rt), k < f → im.rs[k]? = some q → ∀ (hp : Hp) (n c idc gc mid mg kid kg base : Nat) (cap : Option Nat) (v : V) (ins mem : List Int) (y : Int),
 (∃ rest, CAt im hp idc gc rest) → hp.get mid = some ⟨mg, false, cI mem⟩ → hp.get kid = some ⟨kg, false, [dI (IntKind.i64.wrap y)]⟩ → mid ≠ kid → idc ≠ mid → idc ≠ kid → idc < n → mid < n → kid < n → InV hp n v ins → ins.length = q.inn.length →
 base + q.ini.length ≤ mem.length → mem.length ≤ 1000000 → (q.ini.length ≤ cap.getD q.ini.length) = True →
 ExecAt hp n c idc gc mid mg kid kg base cap q v y (callM im.rs f k base ins mem).1 (callM im.rs f k base ins mem).2.1 (callM im.rs f k base ins mem).2.2
section
variable {im : Im} {hp : Hp} {n c idc gc rid rg mid mg kid kg base M R : Nat} {cap : Option Nat} {regs mem : List Int} {y : Int} {at_ : Nat}

theorem step_any (hA : Ap n idc rid mid kid) (hM : Mst hp rid rg mid mg kid kg regs mem (IntKind.i64.wrap y)) (hat : at_ < 1000000) {f k L : Nat} {i : I} (hi : OkI im.rs k R M at_ L i) (hkf : k ≤ f) (hE : ExecOK im f) (hL : CallOk im.rs f (callM im.rs f)) (hR : regs.length = R)
  (hC : ∃ rest, CAt im hp idc gc rest) (hm : mem.length ≤ 1000000) (hrl : regs.length ≤ 1000000) (h4 : base + M ≤ mem.length) (hcap : (M ≤ cap.getD M) = True) :
  StepAt hp n c idc gc rid rg mid mg kid kg base M cap regs mem (IntKind.i64.wrap y) at_ i (stepM im.rs (callM im.rs f) base at_ i regs mem).1 (stepM im.rs (callM im.rs f) base at_ i regs mem).2.1 (stepM im.rs (callM im.rs f) base at_ i regs mem).2.2.1 (IntKind.i64.wrap (y + (stepM im.rs (callM im.rs f) base at_ i regs mem).2.2.2)) := by
 subst hR
 cases hi with
 | load A b hA' h1 h2 => simpa [stepM] using step_load hA hM hat A b hA'
 | move A B hA' hB => simpa [stepM] using step_move hA hM hat A B hA' hB
 | read A B hA' hB => simpa [stepM] using step_read hA hM hat A B hA' hB h4
 | write A B hA' hB => simpa [stepM] using step_write hA hM hat A B hA' hB h4
 | unary A B d hA' hB hd => simpa [stepM] using step_unary hA hM hat A B d hA' hB hd
 | apply A B C d hA' hB hC' h1 h2 => simpa [stepM] using step_apply hA hM hat A B C d hA' hB hC' h1 h2
 | jump B h1 h2 => simpa [stepM] using step_jump hA hM hat B
 | zero A B hA' h1 h2 => simpa [stepM] using step_zero hA hM hat A B hA'
 | call A B C D q hq hA' hB hC' hD =>
  have hlen := hL A q (base + B) ((regs.drop C).take q.inn.length) mem (by omega) hq (by simp; omega) (by omega)
  have e : stepM im.rs (callM im.rs f) base at_ ⟨9, A, B, C, D⟩ regs mem = (at_ + 1, putAt regs D (callM im.rs f A (base + B) ((regs.drop C).take q.inn.length) mem).1, (callM im.rs f A (base + B) ((regs.drop C).take q.inn.length) mem).2.1, (callM im.rs f A (base + B) ((regs.drop C).take q.inn.length) mem).2.2) := by
   simp [stepM, rtAt_nat hq]
  rw [e]
  refine step_call hA hM hat A B C D _ _ _ fun hp1 n1 c1 hn1 hfr1 => ?_
  have hA1 : Ap n1 idc rid mid kid := by
   obtain ⟨h1, h2, h3, h4, h5, h6, h7, h8, h9, h10⟩ := hA
   exact ⟨h1, h2, h3, h4, h5, h6, by omega, by omega, by omega, by omega⟩
  have hM1 := hM.same (hfr1 rid hA.lr) (hfr1 mid hA.lm) (hfr1 kid hA.lk)
  have hC1 : ∃ rest, CAt im hp1 idc gc rest := by
   obtain ⟨rest, ro, h⟩ := hC
   exact ⟨rest, ro, (hfr1 idc hA.lc).trans h⟩
  refine call_ok hA1 hM1 A B C D q hq hC1 hm hrl hB hC' hD h4 hcap _ _ _ hlen.1 fun hp2 n2 c2 hn2 hfr2 => ?_
  have hM2 := hM1.same (hfr2 rid hA1.lr) (hfr2 mid hA1.lm) (hfr2 kid hA1.lk)
  have hC2 : ∃ rest, CAt im hp2 idc gc rest := by
   obtain ⟨rest, ro, h⟩ := hC1
   exact ⟨rest, ro, (hfr2 idc hA1.lc).trans h⟩
  have hil : ((regs.drop C).take q.inn.length).length = q.inn.length := by simp; omega
  refine hE A q (by omega) hq hp2 n2 c2 idc gc mid mg kid kg (base + B) _ _ ((regs.drop C).take q.inn.length) mem y hC2 hM2.m hM2.k hA.nmk hA.ncm hA.nck (by have := hA1.lc; omega) (by have := hA1.lm; omega) (by have := hA1.lk; omega) (.inr ⟨rid, rg, C, _, regs, by have := hA1.lr; omega, by rw [hil], hM2.r, by rw [hil], by rw [hil]; omega⟩) hil (by omega) hm (capOf_le _ _)
 | reset A B q hq hA' hB =>
  have e : stepM im.rs (callM im.rs f) base at_ ⟨10, A, B, 0, 0⟩ regs mem = (at_ + 1, regs, putAt mem (base + B) q.ini, 0) := by
   simp [stepM, rtAt_nat hq]
  rw [e]
  simpa using step_reset hA hM hat A B q hq hC hB h4 hcap
end
end Go.Ac
end

section
set_option maxRecDepth 4000
namespace Go.Ac
open Go.Proofs

theorem blockQ_nn {i : Nat} {Q : Ex → St → Prop} {t : St} (h : Q .normal t) : blockQ i Q .normal t := h
theorem rep_flat (m : Nat) (x : V) : (List.replicate m [x]).flatten = List.replicate m x := by
 induction m with
 | zero => rfl
 | succ m ih => simp [List.replicate_succ, ih]
theorem cI_rep (m : Nat) : List.replicate m (V.d (D.int .i64 0)) = cI (List.replicate m 0) := by unfold cI; simp [dI]
theorem cI_drop (l : List Int) (k : Nat) : List.drop k (cI l) = cI (l.drop k) := by unfold cI; simp
theorem cI_takeN (l : List Int) (k : Nat) : List.take k (cI l) = cI (l.take k) := by unfold cI; simp
theorem InV.rows {hp hp' : Hp} {n : Nat} {v : V} {ins : List Int} (h : InV hp n v ins) (hs : ∀ j, j < n → hp'.get j = hp.get j) : ∃ rx, rowsOf hp'.get 1 v = some (ins.length, cI ins, rx) := by
 rcases h with rfl | ⟨rid, rg, off, cap, l, h1, rfl, h2, h3, h4⟩
 ·exact ⟨[], rowsI _ _⟩
 ·refine ⟨[rid], ?_⟩
  rw [rowsOf_osl]
  have : live hp'.get rid rg = some ⟨rg, false, cI l⟩ := by simp [live, hs rid h1, h2]
  rw [this]
  have h5 : Nat.ble (off + ins.length * 1) (cI l).length = true := by rw [nble_d, cI_len]; simp; omega
  simp only [nbeq_self, h5]
  rw [cI_drop, cI_takeN, Nat.mul_one, h3]
theorem wrap_add (a b : Int) : IntKind.i64.wrap (IntKind.i64.wrap a + b) = IntKind.i64.wrap (a + b) := by
 simp [IntKind.wrap, IntKind.signed, IntKind.bits]
 omega
section
variable {im : Im} {hp : Hp} {n c idc gc mid mg kid kg base : Nat} {cap : Option Nat} {v : V} {ins mem : List Int} {y : Int} {k : Nat} {q : Rt}

set_option maxHeartbeats 4000000 in
theorem exec_ok {f : Nat} (hkf : k ≤ f) (hq : im.rs[k]? = some q) (hOk : OkM im.rs) (hE : ExecOK im f) (hil : ins.length = q.inn.length) (hql : q.code.length ≤ 900000)
  (hC : ∃ rest, CAt im hp idc gc rest) (hm : hp.get mid = some ⟨mg, false, cI mem⟩) (hk : hp.get kid = some ⟨kg, false, [dI (IntKind.i64.wrap y)]⟩) (d1 : mid ≠ kid) (d2 : idc ≠ mid) (d3 : idc ≠ kid) (q1 : idc < n) (q2 : mid < n) (q3 : kid < n) (hv : InV hp n v ins)
  (hbm : base + q.ini.length ≤ mem.length) (hml : mem.length ≤ 1000000) (hcap : (q.ini.length ≤ cap.getD q.ini.length) = True) :
  ExecAt hp n c idc gc mid mg kid kg base cap q v y (callM im.rs (f + 1) k base ins mem).1 (callM im.rs (f + 1) k base ins mem).2.1 (callM im.rs (f + 1) k base ins mem).2.2 := by
 have hr := hOk k q hq
 have hio := hr.io
 have hhi := hr.hi
 obtain ⟨R, hR⟩ : ∃ R : Nat, q.regs = R := ⟨q.regs.toNat, by omega⟩
 have hg : im.rs.getD k rtZ = q := by simp [List.getD, hq]
 have hcallM : callM im.rs (f + 1) k base ins mem = (((loopM im.rs (callM im.rs f) q base q.code.length 0 (ins ++ List.replicate (R - ins.length) 0) mem 0).1.drop q.inn.length).take q.out.length, (loopM im.rs (callM im.rs f) q base q.code.length 0 (ins ++ List.replicate (R - ins.length) 0) mem 0).2) := by
  simp only [callM, hg, hR, Int.toNat_natCast]
 have hfit : fitsB R 8 = true := by simp [fitsB]; omega
 have g1 : (0 ≤ (R : Int)) = True := by simp
 have g2 : ((R : Int) ≤ 9223372036854775807) = True := by simp; omega
 refine thr_wp Tryz.func26 rfl (by kernel_rfl) rfl ?_
 refine wkcenkt (jn @envOf.eq_1 (jn @envOf.eq_2 (jn @aR.eq_1 (jn @Rt.cells.eq_1 (jn @dI.eq_1 (jn @Hp.get_set (jn @cI_len (jn @nble_d (jn @hR (jn @hfit (jn @g1 (jn @g2 (jn @makeV.eq_def (jn @rep_flat (jn @cI_rep (jn @fillV.eq_1 (jn @fillV.eq_2 @Value.oneCell'.eq_def))))))))))))))))) ?_
 apply WP.gen
 intro hp1 wl1 hhp hwl
 have hwi : WI [mid, kid] n hp wl1 hp1 := by
  rw [hhp, hwl]
  exact ((((WI.refl.set (.inr (by omega))).set (.inr (by omega))).set (.inr (by omega))).set (.inr (by omega)))
 have hfr : ∀ j, j < n → hp1.get j = hp.get j := fun j hj => by
  rw [hhp]
  have f1 : ¬ n = j := by omega
  have f2 : ¬ n + 1 = j := by omega
  have f3 : ¬ n + 1 + 1 = j := by omega
  simp [Hp.get_set, f1, f2, f3]
 have z1 : (n + 1 + 1 = n) = False := by simp; omega
 have z2 : (n + 1 = n) = False := by simp
 have k0 : hp1.get n = some ⟨c, false, [V.d (D.str q.nm), V.d (D.slice (encI q.inn)), V.d (D.slice (encI q.out)), V.d (D.int IntKind.i64 ↑R), V.d (D.slice (encI q.ini)), V.d (D.slice (encC q.code))]⟩ := by rw [hhp]; simp [Hp.get_set, z1, z2]
 have k1 : hp1.get (n + 1) = some ⟨c + 1, false, cI (List.replicate R 0)⟩ := by rw [hhp]; simp [Hp.get_set, z1, z2]
 have k2 : hp1.get (n + 1 + 1) = some ⟨c + 1 + 1, false, [V.osl (n + 1) (c + 1) 0 R 1 (some R), V.osl mid mg base q.ini.length 1 cap, V.ptr kid kg 0]⟩ := by rw [hhp]; simp [Hp.get_set, z1, z2]
 obtain ⟨rx, hrows⟩ := hv.rows hfr
 obtain ⟨rest, ro, hC⟩ := hC
 have kc := (hfr idc q1).trans hC
 have km := (hfr mid q2).trans hm
 have kk := (hfr kid q3).trans hk
 clear hhp hwl
 have hmin : min ins.length R = ins.length := by omega
 have hcp : cI ins ++ List.drop ins.length (cI (List.replicate R 0)) = cI (ins ++ List.replicate (R - ins.length) 0) := by
  rw [cI_drop, List.drop_replicate, cI_app]
 have c4 : (n + 1 < n + 3) = True := by simp
 obtain ⟨regs0, hregs0⟩ : ∃ l, l = ins ++ List.replicate (R - ins.length) 0 := ⟨_, rfl⟩
 have hrl : regs0.length = R := by rw [hregs0]; simp; omega
 rw [← hregs0] at hcp hcallM
 refine wkcenkt (jn @dI.eq_1 (jn @k0 (jn @k1 (jn @k2 (jn @kc (jn @hrows (jn @hmin (jn @hcp (jn @copyV.eq_def (jn @cI_len (jn @nble_d (jn @cI_take @c4)))))))))))) ?_
 obtain ⟨L, hL⟩ : ∃ L, L = q.code.length := ⟨_, rfl⟩
 obtain ⟨T, hT⟩ : ∃ T, T = loopM im.rs (callM im.rs f) q base q.code.length 0 regs0 mem 0 := ⟨_, rfl⟩
 rw [← hT] at hcallM
 have hqr : q.regs.toNat = R := by omega
 rw [← hL] at hql
 apply WP.loop' (I := fun d s => ∃ (at_ d' : Nat) (regs mem' : List Int) (K : Nat) (hp' : Hp) (c' : Nat) (wl' : List Nat), at_ ≤ L ∧ L ≤ at_ + d' ∧ d = L - at_ ∧ T = loopM im.rs (callM im.rs f) q base d' at_ regs mem' K ∧ regs.length = R ∧ mem'.length = mem.length ∧
  hp'.get n = some ⟨c, false, [V.d (D.str q.nm), V.d (D.slice (encI q.inn)), V.d (D.slice (encI q.out)), V.d (D.int IntKind.i64 ↑R), V.d (D.slice (encI q.ini)), V.d (D.slice (encC q.code))]⟩ ∧ hp'.get (n + 1 + 1) = some ⟨c + 1 + 1, false, [V.osl (n + 1) (c + 1) 0 R 1 (some R), V.osl mid mg base q.ini.length 1 cap, V.ptr kid kg 0]⟩ ∧
  hp'.get idc = hp.get idc ∧ Mst hp' (n + 1) (c + 1) mid mg kid kg regs mem' (IntKind.i64.wrap (y + K)) ∧ WI [mid, kid] n hp wl' hp' ∧
  s = ⟨[(0, .ptr idc gc 0), (4, .ptr kid kg 0), (6, .ptr n c 0), (11, .ptr (n + 1 + 1) (c + 1 + 1) 0), (12, dI at_)], hp', n + 3, c', n, wl'⟩) (d := L)
 ·have gs : ∀ o j, (hp1.set (n + 1) o).get j = if n + 1 = j then some o else hp1.get j := fun o j => Hp.get_set ..
  refine ⟨0, L, regs0, mem, 0, _, _, _, Nat.zero_le _, by simp, by simp, by rw [hT, hL], hrl, rfl, ?_, ?_, ?_, ⟨?_, ?_, ?_⟩, hwi.set (k := n + 1) (.inr (by omega)), by rfl⟩
  ·rw [gs, if_neg (by omega), k0]
  ·rw [gs, if_neg (by omega), k2]
  ·rw [gs, if_neg (by omega), hfr idc q1]
  ·rw [gs, if_pos rfl]
  ·rw [gs, if_neg (by omega), km]
  ·rw [gs, if_neg (by omega), kk]; simp
 clear hwi hfr k0 k1 k2 kc km kk hrows hv hcp hregs0
 rintro d _ ⟨at_, d', regs, mem', K, hp', c', wl', h1, h2, h3, h4, h5, h6, g0, g2, gcc, gM, gw, rfl⟩
 have gr := gM.r
 have gm := gM.m
 have gk := gM.k
 simp only [dI] at gk
 refine wkenkt (jn @dI.eq_1 (jn @g0 @g2)) ?_
 show WP _ _ _ _ _ _
 refine WP.cond _ rfl (fun hb => ?_) (fun hb => ?_)
 ·simp at hb
  have hb' : at_ < q.code.length := hb
  obtain ⟨i, hi1, him, hix⟩ := at_lt hb'
  have hi2 := encC_at hi1
  have e1 : IntKind.i64.wrap (IntKind.i64.wrap (y + K) + 1) = IntKind.i64.wrap (y + ((K + 1 : Nat) : Int)) := by rw [wrap_add]; congr 1; push_cast; omega
  have c5 : (kid < n + 3) = True := by simp; omega
  refine wkcenkt (jn @dI.eq_1 (jn @g0 (jn @g2 (jn @gr (jn @gm (jn @gk (jn @e1 @c5))))))) ?_
  apply WP.gen
  intro hp2 wl2 hhp2 hwl2
  have gs : ∀ o j, (hp'.set kid o).get j = if kid = j then some o else hp'.get j := fun o j => Hp.get_set ..
  have w2 : WI [mid, kid] n hp wl2 hp2 := by rw [hhp2, hwl2]; exact gw.set (.inl (by simp))
  have x0 := g0
  have x2 := g2
  rw [← show hp2.get n = hp'.get n by rw [hhp2, gs, if_neg (by omega)]] at x0
  rw [← show hp2.get (n + 1 + 1) = hp'.get (n + 1 + 1) by rw [hhp2, gs, if_neg (by omega)]] at x2
  have xc : hp2.get idc = hp.get idc := by rw [hhp2, gs, if_neg (fun h => d3 h.symm), gcc]
  have xM : Mst hp2 (n + 1) (c + 1) mid mg kid kg regs mem' (IntKind.i64.wrap (y + ((K + 1 : Nat) : Int))) := ⟨by rw [hhp2, gs, if_neg (by omega), gr], by rw [hhp2, gs, if_neg (fun h => d1 h.symm), gm], by rw [hhp2, gs, if_pos rfl]; simp [dI]⟩
  clear hhp2 hwl2 g0 g2 gr gm gk gM gw gs
  have hAp : Ap (n + 3) idc (n + 1) mid kid := ⟨by omega, by omega, d1, by omega, d2, d3, by omega, by omega, by omega, by omega⟩
  have hcode := hr.code at_ i hi1
  rw [hqr, ← hL] at hcode
  have hcallok : CallOk im.rs f (callM im.rs f) := callM_ok hOk f
  have hst := step_any (c := c') (gc := gc) (base := base) (cap := cap) hAp xM (by omega) hcode hkf hE hcallok h5 ⟨rest, ro, xc.trans hC⟩ (by omega) (by omega) (by omega) hcap
  have hsok := stepM_ok (base := base) (mem := mem') hcode (fun j q' b i m hj => hcallok j q' b i m (by omega)) h5 (by omega) (by omega)
  have hls := loopM_step (f := callM im.rs f) (rs := im.rs) (base := base) hi1 regs mem' K (d' - 1)
  rw [show d' - 1 + 1 = d' by omega, ← h4] at hls
  obtain ⟨st, hsd⟩ : ∃ st, st = stepM im.rs (callM im.rs f) base at_ i regs mem' := ⟨_, rfl⟩
  rw [← hsd] at hst hsok hls
  unfold StepAt at hst
  obtain ⟨r0, hT1, hv, hn, hT2, hki, hfr2, hp3, hM2, hsame⟩ := hst.caller (by intro j hj; simp at hj; omega)
  simp only [aI, I.cells, List.map_cons, List.map_nil, h5] at hT1
  simp only [dI] at hv
  refine wkcenkt (jn @dI.eq_1 (jn @x0 (jn @x2 (jn @hix (jn @hi2 (jn @I.cells.eq_1 (jn @hv @hn))))))) ?_
  refine blockQ_nn ?_
  refine loop_next (by simp [-addNew]; exact Is.rfl) ?_
  have ht : ∀ j, j < n + 3 → (Hp.trunc (n + 3) (hp2.sets (tWr r0 (n + 3)))).get j = (hp2.sets (tWr r0 (n + 3))).get j := fun j hj => Hp.get_trunc _ _ _ hj
  refine ⟨L - st.1, by omega, st.1, d' - 1, st.2.1, st.2.2.1, K + 1 + st.2.2.2, _, _, _, hsok.2.2.2, by omega, rfl, hls, hsok.1, hsok.2.1.trans h6, ?_, ?_, ?_, ⟨?_, ?_, ?_⟩, (w2.sets (wr := tWr r0 (n + 3)) fun p hp => ?_).trunc (m := n + 3) (by omega), rfl⟩
  ·rw [ht _ (by omega), hfr2 _ (by omega) (by simp; omega), x0]
  ·rw [ht _ (by omega), hfr2 _ (by omega) (by simp; omega), x2]
  ·rw [ht _ (by omega), hfr2 _ (by omega) (by simp; omega), xc]
  ·rw [ht _ (by omega), hsame _ (by omega) (by rw [hM2.r]; rfl), hM2.r]
  ·rw [ht _ (by omega), hsame _ (by omega) (by rw [hM2.m]; rfl), hM2.m]
  ·rw [ht _ (by omega), hsame _ (by omega) (by rw [hM2.k]; rfl), hM2.k]
   have : y + ((K + 1 : Nat) : Int) + (st.2.2.2 : Int) = y + ((K + 1 + st.2.2.2 : Nat) : Int) := by push_cast; omega
   rw [this]
  ·have := hki _ (List.mem_map.2 ⟨p, hp, rfl⟩)
   simp only [List.mem_cons, List.not_mem_nil, or_false] at this ⊢
   rcases this with h | h | h
   ·exact .inr (by omega)
   ·exact .inl (.inl h)
   ·exact .inl (.inr h)
 ·simp at hb
  have hdl : q.code.length ≤ at_ := by simpa [hL] using hb
  rw [loopM_end hdl] at h4
  rw [h4] at hcallM
  rw [hcallM]
  have hli : IntKind.i64.wrap ((q.inn.length : Int) + q.out.length) = ((q.inn.length + q.out.length : Nat) : Int) := by rw [w_id'] <;> omega
  have t1 : ((q.inn.length : Int) + q.out.length).toNat = q.inn.length + q.out.length := by omega
  have p1 : (0 ≤ (q.inn.length : Int) + q.out.length) = True := by simp; omega
  have l1 : (q.inn.length + q.out.length ≤ R) = True := by simp; omega
  have l2 : (q.inn.length ≤ q.inn.length + q.out.length) = True := by simp
  refine wkcenkt (jn @dI.eq_1 (jn @g0 (jn @g2 (jn @gr (jn @gm (jn @hli (jn @t1 (jn @p1 (jn @l1 (jn @l2 (jn @sliceV.eq_def (jn @bnd.eq_def (jn @h5 (jn @cI_len @nble_d)))))))))))))) ?_
  have hol : ((regs.drop q.inn.length).take q.out.length).length = q.out.length := by simp; omega
  have hcl := close_osl1 (look := (hp'.set (n + 3) ⟨c', false, List.take q.out.length (List.drop q.inn.length (cI regs))⟩).get) (id := n + 3) (g := c') (ro := false) (cs := List.take q.out.length (List.drop q.inn.length (cI regs))) (l := (regs.drop q.inn.length).take q.out.length) (cap := none) (Hp.get_set_self ..)
   (by rw [hol, cI_drop, cI_takeN, cI_takeN, List.take_take, Nat.min_self]) (by rw [hol, cI_drop, cI_takeN, cI_len, hol]; exact Nat.le_refl _)
  rw [hol] at hcl
  have ht : ∀ o j, j < n → (Hp.trunc n (hp'.set (n + 3) o)).get j = hp'.get j := fun o j hj => by rw [Hp.get_trunc _ _ _ hj, Hp.get_set_ne _ _ _ _ (by omega)]
  exact ⟨.inr rfl, _, [n + 3], rfl, hcl, by simp [nble_d], gw.set (k := n + 3) (.inr (by omega)), by rw [ht _ _ q2, gm], by rw [ht _ _ q3, gk]; rfl⟩
end
/-- All routines of an image that has passed the check are executed as the plain machine says. -/
theorem exec_all {im : Im} (hOk : OkM im.rs) (hcl : ∀ q ∈ im.rs, q.code.length ≤ 900000) : ∀ f, ExecOK im f
 | 0 => fun k q hk => by omega
 | f + 1 => fun k q hk hq hp n c idc gc mid mg kid kg base cap v ins mem y hC hm hkk d1 d2 d3 q1 q2 q3 hv hil hbm hml hcap =>
  exec_ok (by omega) hq hOk (exec_all hOk hcl f) hil (hcl q (List.mem_of_getElem? hq)) hC hm hkk d1 d2 d3 q1 q2 q3 hv hbm hml hcap
end Go.Ac
end

section
set_option maxRecDepth 4000
namespace Go.Ac
open Go.Proofs

/-- What lies where while a routine is executed. -/
structure RF (q : Rt) (hp0 hp' : Hp) (n g0 g idc mid mg : Nat) (R : Nat) (regs mem : List Int) : Prop where
 x : hp'.get n = some ⟨g0, false, [V.d (D.str q.nm), V.d (D.slice (encI q.inn)), V.d (D.slice (encI q.out)), V.d (D.int IntKind.i64 ↑R), V.d (D.slice (encI q.ini)), V.d (D.slice (encC q.code))]⟩
 r : hp'.get (n + 1) = some ⟨g, false, cI regs⟩
 c : hp'.get idc = hp0.get idc
 m : hp'.get mid = some ⟨mg, false, cI mem⟩
theorem RF.put {q : Rt} {hp0 hp' hp'' : Hp} {n g0 g idc mid mg R : Nat} {regs mem regs' mem' : List Int} (h : RF q hp0 hp' n g0 g idc mid mg R regs mem) (h1 : hp''.get n = hp'.get n) (h2 : hp''.get (n + 1) = some ⟨g, false, cI regs'⟩) (h3 : hp''.get idc = hp'.get idc) (h4 : hp''.get mid = some ⟨mg, false, cI mem'⟩) : RF q hp0 hp'' n g0 g idc mid mg R regs' mem' :=
 ⟨h1.trans h.x, h2, h3.trans h.c, h4⟩
/-- Places that lie apart. -/
structure RpF (n idc mid : Nat) : Prop where
 a1 : (n + 2 = n) = False
 a2 : (n + 2 = n + 1) = False
 a3 : (n + 2 = idc) = False
 a4 : (n + 2 = mid) = False
 a5 : (n + 1 = n) = False
 a6 : (n + 1 = idc) = False
 a7 : (n + 1 = mid) = False
 a8 : (mid = n) = False
 a9 : (mid = n + 1) = False
 b1 : (mid = idc) = False
 b2 : (n + 2 + 1 = n) = False
 b3 : (n + 2 + 1 = n + 1) = False
 b4 : (n + 2 + 1 = n + 2) = False
 b5 : (n + 2 + 1 = idc) = False
 b6 : (n + 2 + 1 = mid) = False
 b7 : (mid = n + 2) = False
 c1 : (n + 1 < n + 2 + 1) = True
 c2 : (mid < n + 2 + 1) = True
 c3 : (n + 1 < n + 2 + 1 + 1) = True
 e1 : Nat.beq (n + 2 + 1) n = false
 e2 : Nat.beq (n + 2 + 1) (n + 1) = false
 e3 : Nat.beq (n + 2 + 1) (n + 2) = false
 e4 : Nat.beq (n + 2 + 1) idc = false
 e5 : Nat.beq (n + 2) idc = false
section
variable {im : Im} {q : Rt} {hp0 : Hp} {n idc gc g g0 mid mg base R M k : Nat} {cap : Option Nat} {last : V}

end
end Go.Ac
end
