/- The law of a word's text by data: the text is too long, or it is a word. Condition: the symbols stand for the text (and the parts of the word). -/
import Derived.Test.YtkimfnammkljoaaGreatDoorHeE
import Derived.Test.YtkimfnammkljoaaGreatDoorGwU3
import Derived.Test.YtkimfnammkljoaaGreatDoorGwAdM
set_option linter.unusedVariables false
set_option linter.unusedSimpArgs false
set_option maxRecDepth 8000
set_option linter.unusedSectionVars false
namespace Go.Ac.Gw
open Go Go.Ac Go.Proofs
variable [GwR]
theorem t3_ok : TabOK Tryz.prog cfg2 (tabL [E1, E2, E9, E11, E12]) := tabL_ok ⟨e1, e2, e9, e11, e12, trivial⟩
theorem ti53 : mkTI Tryz.prog 53 = some ⟨.slice 64 1 24, 1, 24, zOf 53⟩ := by kernel_rfl
theorem ti39 : mkTI Tryz.prog 39 = some ⟨.struct [(0, 1, false), (1, 1, false)], 2, 48, zOf 39⟩ := by kernel_rfl
theorem k3 (r : Nat) : cfg2.keep 3 r = keep2 3 r := rfl
theorem fz3 (r : Nat) : cfg2.fz 3 r = (false, false) := rfl
theorem m3 (r : Nat) : cfg2.mat 3 r = [] := rfl
theorem p8 : cfg2.prim 8 = none := rfl
theorem p7 : cfg2.prim 7 = none := rfl
theorem th8 : cfg2.thr 8 = false := by kernel_rfl
theorem th7 : cfg2.thr 7 = false := by kernel_rfl
def S3b (N : Nat) (want : List (List D)) (t : Nat) (b : Bool) : St := { S3 N want t with env := [(16, .d (i t)), (14, .ptr 13 13 0), (12, .d (.slice want)), (11, .osl 8 8 0 N 1 (some N)), (100, .d (.bool b))] }
theorem qS_of {n c : Nat} {x : Option (Ex × St)} {e : Env} {h : Hp} (hq : qS n c x = (e, h, true)) : ∃ (m : Nat) (hp : Hp), x = some (.normal, ⟨e, hp, m, c, 0, []⟩) ∧ Hp.trunc n hp = h := by
 unfold qS at hq
 split at hq
 ·rename_i u
  obtain ⟨e1, hp, m, c1, n0, wl⟩ := u
  simp only [Prod.mk.injEq, Bool.and_eq_true] at hq
  obtain ⟨rfl, h2, ⟨h3, h4⟩, h5⟩ := hq
  have h3 := Nat.eq_of_beq_eq_true h3
  have h4 := Nat.eq_of_beq_eq_true h4
  have h5 := List.isEmpty_iff.1 h5
  subst h3; subst h4; subst h5
  exact ⟨m, hp, rfl, h2⟩
 ·simp at hq
theorem toDs_rep (f : V → Option (D × List Nat)) {x : V} {y : D} (h : f x = some (y, [])) : ∀ N : Nat, toDs f (List.replicate N x) = some (List.replicate N y, [])
 | 0 => rfl
 | N + 1 => by simp only [List.replicate_succ, toDs, h, toDs_rep f h N, List.nil_append]
theorem chunk_rep (y : D) : ∀ N : Nat, chunk 1 N (List.replicate N y) = List.replicate N [y]
 | 0 => rfl
 | N + 1 => by
  have := chunk_rep y N
  simp only [List.replicate_succ, chunk, List.take_succ_cons, List.take_zero, List.drop_succ_cons, List.drop_zero, this]
theorem cl_rows (look : Look) (N : Nat) (h : look 8 = some ⟨8, false, List.replicate N (.full [])⟩) : closeArgs look [.agg [.d l0, .d d8], .d (.str [102]), .osl 8 8 0 N 1 (some N)] = some ([.agg [.d l0, .d d8], .d (.str [102]), .d (.slice (List.replicate N [.slice []]))], [8]) := by
 have e1 : toD look depthD (.osl 8 8 0 N 1 (some N)) = some (.slice (List.replicate N [.slice []]), [8]) := by
  rw [toD_dep]
  have hf : ∀ f, toD look f (.full []) = some (.slice [], []) := fun f => by cases f <;> rfl
  simp only [live, h, nbeq_self, Nat.zero_add, Nat.mul_one, List.drop_zero, List.length_replicate, List.take_length, List.take_replicate, Nat.min_self, toDs_rep _ (hf _), chunk_rep]
  have : Nat.ble N N = true := by simp
  simp only [this]
  rw [chunk_rep]
 have e2 : close look (.osl 8 8 0 N 1 (some N)) = some (.d (.slice (List.replicate N [.slice []])), [8]) := by
  show ofD (toD look depthD (.osl 8 8 0 N 1 (some N))) = _
  rw [e1]; rfl
 have e3 : close1 look (.d l0) = some (.d l0, []) := cl_d look l0
 have e4 : close1 look (.d d8) = some (.d d8, []) := cl_d look d8
 have e5 : close look (.d (.str [102])) = some (.d (.str [102]), []) := cl_d look _
 simp only [closeArgs, closeVs, closeA, close, e3, e4, List.nil_append] at e2 e5 ⊢
 simp only [e2, e5, List.nil_append, List.append_nil]
attribute [local simp] Hp.get_set get_trunc_lt ti53 ti39 k3 keep2 fz3 m3 p8 p7 th8 th7
attribute [-simp] closeArgs closeVs closeA close close1 toD ofD roOf V.flat V.flat2 V.flat1 D.flat
set_option maxHeartbeats 4000000 in
theorem word (n : Nat) (hn : n < 256) (hs : GwR.s.length ≤ 80) : den Tryz.prog cfg2 3 [.d (.sym 0), .d (.int .u8 n)] = some (.d (.bool true)) := by
 refine den_wp Tryz.func3 rfl (by kernel_rfl) rfl rfl ?_
 refine WP.seq (WP.run noT_ok 2000 (by kernel_rfl) ?_)
 refine WP.seq (WP.seq (WP.run noT_ok 2000 (by kernel_rfl) ?_))
 refine WP.cond (decide ((GwR.s.length : Int) > 80)) (by kernel_rfl) (fun hb => ?_) (fun hb => ?_)
 ·exfalso
  have := of_decide_eq_true hb
  omega
 refine WP.skip ?_
 refine WP.seq (WP.run noT_ok 2000 (by kernel_rfl) ?_)
 refine WP.seq (WP.run noT_ok 2000 (by kernel_rfl) ?_)
 refine WP.seq (WP.run t3_ok 2000 (by kernel_rfl) ?_)
 refine WP.seq (WP.run t3_ok 2000 (by kernel_rfl) ?_)
 refine WP.seq (WP.run noT_ok 2000 (by kernel_rfl) ?_)
 generalize hσ : stQ _ _ = σ
 have g1 : σ.env.get 1 = .d (.int .u8 (n : Int)) := by rw [← hσ]; kernel_rfl
 have g6 : σ.env.get 6 = .ptr 5 5 0 := by rw [← hσ]; kernel_rfl
 have g9 : σ.env.get 9 = .ptr 7 7 0 := by rw [← hσ]; kernel_rfl
 have g10 : σ.env.get 10 = .d (.int .i64 0) := by rw [← hσ]; kernel_rfl
 have gh : σ.hp = H3a := by rw [← hσ]; kernel_rfl
 have gn : σ.n = 8 := by rw [← hσ]; kernel_rfl
 have gc : σ.c = 8 := by rw [← hσ]; kernel_rfl
 have g0 : σ.n0 = 0 := by rw [← hσ]; kernel_rfl
 have gw : σ.wl = [] := by rw [← hσ]; kernel_rfl
 have he := congrArg St.env hσ
 clear hσ
 obtain ⟨e, hp, n1, c, n0, wl⟩ := σ
 simp only at g1 g6 g9 g10 gh gn gc g0 gw he
 subst gh; subst gn; subst gc; subst g0; subst gw
 show WP _ _ _ _ _ _
 obtain ⟨N, hN⟩ : ∃ N, n % 130 = N := ⟨_, rfl⟩
 have hN2 : N < 130 := by omega
 have w1 : Int.tmod (n : Int) 130 = (N : Int) := by rw [← hN]; rfl
 have w2 : IntKind.i64.wrap (N : Int) = (N : Int) := by rw [w_id] <;> omega
 have f1 : fitsB N 24 = true := by unfold fitsB; simp; omega
 have hm : makeV 8 8 ⟨.slice 64 1 24, 1, 24, zOf 53⟩ (some ⟨.slice 3 1 8, 1, 24, some [V.full []]⟩) (.d (.int .i64 (N : Int))) (.d (.int .i64 (N : Int))) = some ⟨.osl 8 8 0 N 1 (some N), [(8, ⟨8, false, List.replicate N (.full [])⟩)], [], 1, 1, false⟩ := by
  unfold makeV
  simp [f1]
  omega
 refine wkc (jn @g1 (jn @w1 (jn @w2 @hm))) ?_
 obtain ⟨hp9, h9⟩ : ∃ hp9, hp9 = H3a.set 8 ⟨8, false, List.replicate N (.full [])⟩ := ⟨_, rfl⟩
 rw [← h9]
 have q5 : hp9.get 5 = some ⟨5, false, [.full [], .osl 4 4 0 1 5 (some 1)]⟩ := by rw [h9]; kernel_rfl
 have q8 : hp9.get 8 = some ⟨8, false, List.replicate N (.full [])⟩ := by rw [h9]; kernel_rfl
 have hc8 : closeArgs hp9.get [.agg [.full [], .osl 4 4 0 1 5 (some 1)]] = some ([.agg [.d l0, .d d6]], [4, 0, 2, 1]) := by rw [h9]; kernel_rfl
 have hd8 : den Tryz.prog cfg2 8 [.agg [.d l0, .d d6]] = some (.agg [.d l0, .d d8]) := Ent.ok.den e2 rfl (w := (_, _)) (by simp only [closeT, close, closeVs, cl_d]; rfl)
 have hd7 : den Tryz.prog cfg2 7 [.agg [.d l0, .d d8], .d (.str [102]), .d (.slice (List.replicate N [.slice []]))] = some (.tuple [.d (.slice (wantD N)), .d (.int .i64 0)]) := by
  have := run7 (List.replicate N [.slice []]) (by rw [List.length_replicate]; exact hN2) (by rw [List.length_replicate])
  rw [List.length_replicate] at this
  exact this
 have hro : roOf hp9.get [4, 0, 2, 1] = [(4, (H3a.get 4).getD default), (0, (H3a.get 0).getD default), (2, (H3a.get 2).getD default), (1, (H3a.get 1).getD default)] := by rw [h9]; kernel_rfl
 obtain ⟨o4, ho4⟩ : ∃ o, o = (H3a.get 4).getD default := ⟨_, rfl⟩
 obtain ⟨o0, ho0⟩ : ∃ o, o = (H3a.get 0).getD default := ⟨_, rfl⟩
 obtain ⟨o2, ho2⟩ : ∃ o, o = (H3a.get 2).getD default := ⟨_, rfl⟩
 obtain ⟨o1, ho1⟩ : ∃ o, o = (H3a.get 1).getD default := ⟨_, rfl⟩
 rw [← ho4, ← ho0, ← ho2, ← ho1] at hro
 have hro8 : ∀ look : Look, look 8 = some ⟨8, false, List.replicate N (.full [])⟩ → roOf look [8] = [(8, ⟨8, true, List.replicate N (.full [])⟩)] := fun look h => by simp only [roOf, h]
 have fA : V.flat (.agg [.d l0, .d d8]) = false := rfl
 have fB : V.flat (.tuple [.d (.slice (wantD N)), .d (.int .i64 0)]) = false := rfl
 refine wkc (jn @fA (jn @fB (jn @g6 (jn @q5 (jn @q8 (jn @hc8 (jn @hd8 (jn @hd7 (jn @hro (jn @hro8 @cl_rows)))))))))) ?_
 subst ho4; subst ho0; subst ho2; subst ho1; subst h9
 rw [← he]
 clear he g1 g6 g9 g10 e
 refine WP.run t3_ok 2000 (by kernel_rfl) ?_
 show WP _ _ _ _ _ _
 refine WP.seq (WP.seq (WP.run noT_ok 2000 (by kernel_rfl) ?_))
 refine WP.cond (((wantD N).length : Int) != (N : Int)) (by kernel_rfl) (fun hb => ?_) (fun hb => ?_)
 ·exfalso
  rw [wantD_len] at hb
  simp at hb
 refine WP.skip ?_
 refine WP.seq (WP.seq (WP.run noT_ok 2000 (by kernel_rfl) ?_))
 refine WP.block ?_
 refine WP.loop' (I := fun d1 st => ∃ (t : Nat), t + d1 = N ∧ st = S3 N (wantD N) t) (d := N) ⟨0, by omega, by kernel_rfl⟩ ?_
 rintro d0 _ ⟨t, hD, rfl⟩
 refine WP.seq (WP.seq (WP.run noT_ok 2000 (by kernel_rfl) ?_))
 generalize hs : stQ _ _ = σ
 have hs : σ = S3b N (wantD N) t (decide ((t : Int) < (N : Int))) := hs.symm.trans (by kernel_rfl)
 subst hs
 refine WP.cond (decide ((t : Int) < (N : Int))) rfl (fun hb => ?_) (fun hb => ?_)
 ·rw [hb]
  have htN : t < N := by have := of_decide_eq_true hb; omega
  refine WP.skip ?_
  have hR := u3_130 t (by omega) N ((wantD N).drop (t + 1))
  rw [← wantD_take (show t + 1 ≤ N by omega)] at hR
  obtain ⟨m, hp, hx, htr⟩ := qS_of hR
  refine WP.run noT_ok 2000 ?_ ?_
  ·show isN (execQ noT _ cfg2 2000 3 round3 (S3c N (wantD N) t)) = true
   rw [hx]; rfl
  show loopQ _ _ _ _ _ _ (stQ _ (execQ noT _ cfg2 2000 3 round3 (S3c N (wantD N) t)))
  rw [hx]
  refine loop_next (t' := S3 N (wantD N) (t + 1)) ?_ ⟨d0 - 1, by omega, t + 1, by omega, rfl⟩
  show cut cfg2 3 _ _ = _
  show (⟨_, Hp.trunc 15 hp, 15, _, _, _⟩ : St) = _
  rw [htr]
  rfl
 ·rw [hb]
  refine WP.exit ?_
  show WP _ _ _ _ _ _
  exact WP.fin t3_ok 2000 (by kernel_rfl)
end Go.Ac.Gw
