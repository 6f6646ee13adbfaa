/- Calls, the reference's. -/
import Derived.Test.YtkgekafdhehleaaGreatAcA
import Derived.Test.YtkgekafdhehleaaGreatAcB
import Derived.Test.YtkgekafdhehleaaGreatAcDM
import Derived.Test.YtkgekafdhehleaaGreatAcGM
import Derived.Test.YtkgekafdhehleaaGreatAcJM
import Derived.Test.YtkgekafdhehleaaGreatAcNM
import Derived.Test.YtkgekafdhehleaaGreatAcQM
import Derived.Test.YtkgekafdhehleaaGreatAcUM
import Derived.Test.YtkgekafdhehleaaGreatAcUcM
import Derived.Test.YtkgekafdhehleaaGreatObHn
import Derived.Test.YtkgekafdhehleaaGreatObCM
import Derived.Test.YtkgekafdhehleaaGreatObD
import Derived.Test.YtkgekafdhehleaaGreatObE
import Derived.Test.YtkgekafdhehleaaGreatObRM
import Derived.Test.YtkgekafdhehleaaGreatObMM
import Derived.Test.YtkgekafdhehleaaGreatObOM
import Derived.Calls
import Derived.Orders
import Derived.Laws.World
import Derived.Laws.Sem
import Derived.Laws.Cells
import Derived.Laws.Append
import GoSem.ClaimData
import Derived.Laws.Tables
import Derived.Laws.Slices
import Derived.Laws.Strings
import Derived.Laws.Small
import Derived.KernelRfl
import Derived.Test.YtkgekafdhehleaaGreatChecked
import Derived.Test.YtkgekafdhehleaaGreatRows
import Derived.Deep.Slices
import Derived.ChangeArms
import Derived.RowKit3
import Derived.ReadAgain
import Derived.ChangeStays
set_option linter.unusedVariables false
set_option linter.unusedSimpArgs false
section
set_option maxRecDepth 4000
set_option linter.unusedSimpArgs false
set_option linter.unusedVariables false
namespace Go.Ac
open Go.Proofs
def readyW (w : Pl) (nm : Tx) : Bool := decide (findD w.c.inn nm ≠ 0) || asL nm true w.cx w.bf
def kindO (w : Pl) (k o t v : Int) (nm : Tx) (l : List Int) : Int × Int :=
  if k = 1 then (if hasE w.o.en t v then (t, 0) else (0, 10))
  else if k = 2 then (if getT w.c nm = 0 then (0, 6) else if readyW w nm then (getT w.c nm, 0) else (0, 22))
  else if k = 12 then (if findM w.c.mems nm = 0 then (0, 6) else (findM w.c.mems nm, 0))
  else if k = 3 then resE o l
  else if l.getD 0 0 ≠ 1 ∨ l.getD 1 0 ≠ l.getD 2 0 then (0, 10) else (l.getD 1 0, 0)
mutual
/-- The type of an expression, or its first error. -/
def kindW (w : Pl) : X → Int × Int
  | .mk k o t v nm args => if (kindsW w args).2 ≠ 0 then (0, (kindsW w args).2) else kindO w k o t v nm (kindsW w args).1
def kindsW (w : Pl) : List X → List Int × Int
  | [] => ([], 0)
  | x :: r => if (kindW w x).2 ≠ 0 then ([], (kindW w x).2) else if (kindsW w r).2 ≠ 0 then ([], (kindsW w r).2) else ((kindW w x).1 :: (kindsW w r).1, 0)
end
theorem kindW_eq (w : Pl) (x : X) : kindW w x = if (kindsW w x.args).2 ≠ 0 then (0, (kindsW w x.args).2) else kindO w x.k x.o x.t x.v x.nm (kindsW w x.args).1 := by cases x; rw [kindW]; rfl
def okK (w : Pl) (x : X) : Bool := decide ((kindW w x).2 = 0)
theorem kindsW_bad (w : Pl) : ∀ {l : List X} {j : Nat} {d : X}, (l.take j).all (okK w) = true → l[j]? = some d → (kindW w d).2 ≠ 0 → kindsW w l = ([], (kindW w d).2)
  | [], j, d, _, h, _ => by simp at h
  | x :: r, 0, d, _, h, hb => by simp at h; subst h; rw [kindsW, if_pos hb]
  | x :: r, j + 1, d, hn, h, hb => by
    simp only [List.take_succ_cons, List.all_cons, Bool.and_eq_true] at hn
    have h1 : (kindW w x).2 = 0 := by simpa [okK] using hn.1
    have h2 := kindsW_bad w hn.2 (by simpa using h) hb
    rw [kindsW, if_neg (by simp [h1]), h2, if_pos hb]
theorem kindsW_ok (w : Pl) : ∀ {l : List X}, l.all (okK w) = true → kindsW w l = (l.map (fun x => (kindW w x).1), 0)
  | [], _ => by rw [kindsW]; rfl
  | x :: r, hn => by
    simp only [List.all_cons, Bool.and_eq_true] at hn
    have h1 : (kindW w x).2 = 0 := by simpa [okK] using hn.1
    rw [kindsW, if_neg (by simp [h1]), kindsW_ok w hn.2, if_neg (by simp)]; rfl
/-- A place of which the lists are not too long. -/
structure WOK (w : Pl) : Prop where
  inn : w.c.inn.length ≤ MX
  out : w.c.out.length ≤ MX
  loc : w.c.loc.length ≤ MX
  mems : w.c.mems.length ≤ MX
  ins : w.c.ins.length ≤ MX
  cl : w.o.cl.length ≤ MX
  bf : w.cx.length + szY w.bf ≤ 8388608
theorem X.ok_eq {x : X} (h : x.ok) : I64 x.t ∧ okX x.args := by cases x; rw [X.ok] at h; exact ⟨h.2.2.1, h.2.2.2.2⟩
theorem formE_k {x : X} (h : formE x = true) : x.k = 1 ∨ x.k = 2 ∨ x.k = 12 ∨ x.k = 3 ∨ x.k = 4 := by
  rw [formE_eq] at h
  unfold formN at h
  by_cases q1 : x.k = 1; · exact .inl q1
  by_cases q2 : x.k = 2; · exact .inr (.inl q2)
  by_cases q3 : x.k = 12; · exact .inr (.inr (.inl q3))
  by_cases q4 : x.k = 3; · exact .inr (.inr (.inr (.inl q4)))
  by_cases q5 : x.k = 4; · exact .inr (.inr (.inr (.inr q5)))
  simp [q1, q2, q3, q4, q5] at h
theorem formE_l {x : X} (h : formE x = true) : x.args.all formE = true ∧ (x.k = 4 → x.args.length = 3) ∧ x.args.length ≤ 3 := by
  rw [formE_eq] at h
  split at h
  · cases h
  rename_i n hn
  rw [Bool.and_eq_true, formL_all] at h
  have hl := of_decide_eq_true h.1
  have hr := arE_le x.o
  refine ⟨h.2, fun hk => ?_, ?_⟩
  · unfold formN at hn
    rw [hk] at hn
    simp at hn
    obtain ⟨_, hn⟩ := hn
    omega
  · unfold formN at hn
    split at hn
    · split at hn <;> simp at hn; omega
    split at hn
    · split at hn <;> simp at hn; omega
    split at hn
    · split at hn <;> simp at hn; omega
    split at hn
    · split at hn <;> simp at hn; omega
    · cases hn
theorem encI_row (l : List Int) : ∀ r ∈ encI l, r.length = 1 := by unfold encI; intro r hr; obtain ⟨x, _, rfl⟩ := List.mem_map.1 hr; rfl
theorem encI_snoc (l : List Int) (v : Int) : encI l ++ [[.int .i64 v]] = encI (l ++ [v]) := by unfold encI; simp
theorem kf147 (r : Nat) : Ob.keep 147 r = Ob.k147 r := by kernel_rfl
theorem kf144 (r : Nat) : Ob.keep 144 r = Ob.k144 r := by kernel_rfl
attribute [local simp] kf147 Ob.k147 kf144 Ob.k144
set_option maxHeartbeats 1000000 in
theorem ready147 (w : Pl) (x : Tx) (hw : WOK w) : den Tryz.prog Ob.cfg 147 [aG w.cells, dS x] = some (dB (readyW w x)) := by
  have a1 := find161 w.c.inn x hw.inn
  have a2 := some33 x true _ w.bf w.cx (Nat.lt_succ_self _) hw.bf
  simp only [dL, dS, dI, dB] at a1 a2
  refine den_wp Tryz.func147 rfl (by kernel_rfl) rfl rfl ?_
  unfold readyW
  by_cases h : findD w.c.inn x = 0
  · rw [h] at a1 ⊢
    refine wkc (And.intro @aG.eq_1 (And.intro @Pl.cells.eq_1 (And.intro @dL.eq_1 (And.intro @dS.eq_1 (And.intro @a1 @a2))))) ?_
    show retQ _ _ _ _ _
    exact ⟨.inr rfl, _, _, rfl, rfl⟩
  · rw [dTrue h]
    refine wkc (And.intro @aG.eq_1 (And.intro @Pl.cells.eq_1 (And.intro @dL.eq_1 (And.intro @dS.eq_1 (And.intro @a1 (And.intro @a2 (And.intro @int_bne @h))))))) ?_
    show retQ _ _ _ _ _
    exact ⟨.inr rfl, _, _, rfl, rfl⟩

set_option maxHeartbeats 4000000 in
theorem kind144 (w : Pl) (hw : WOK w) : ∀ (N : Nat) (x : X), x.sz < N → formE x = true → x.ok → den Tryz.prog Ob.cfg 144 [aG w.cells, aG x.cells] = some (.tuple [dI (kindW w x).1, dI (kindW w x).2]) := by
  intro N
  induction N with
  | zero => intro x h; omega
  | succ N ih =>
  intro x hN hf hok
  obtain ⟨hf1, hf2, hf3⟩ := formE_l hf
  obtain ⟨hx1, hx2⟩ := X.ok_eq hok
  have hs0 := X.sz_eq x
  refine den_wp Tryz.func144 rfl (by kernel_rfl) rfl rfl ?_
  rw [kindW_eq]
  refine wkc (And.intro @aG.eq_1 (And.intro @Pl.cells.eq_1 (And.intro @X.cells_eq @dL.eq_1))) ?_
  apply WP.loop' (I := fun D s => ∃ j g : Nat, j + D = x.args.length ∧ (x.args.take j).all (okK w) = true ∧ ∃ (c' : Nat) (L : List Int), L = (x.args.take j).map (fun y => (kindW w y).1) ∧ s = ⟨[(2, .ptr 0 0 0), (3, .ptr 1 1 0), (6, .osl 2 g 0 j 1 none), (7, dI j)], [(0, ⟨0, false, w.cells.map .d⟩), (1, ⟨1, false, x.cells.map .d⟩), (2, ⟨g, false, fl (encI L)⟩)], 3, c', 0, []⟩) (d := x.args.length)
  · exact ⟨0, 2, by simp, by simp, 3, [], by simp, by simp [Pl.cells, X.cells_eq]; exact ⟨rfl, rfl⟩⟩
  rintro D _ ⟨j, g, hj, hno, c', L, hL, rfl⟩
  refine wk (And.intro @dI.eq_1 (And.intro @dL.eq_1 (And.intro @Pl.cells.eq_1 (And.intro @X.cells_eq @encX_len)))) ?_
  show WP _ _ _ _ _ _
  refine WP.cond _ rfl (fun hb => ?_) (fun hb => ?_)
  · simp at hb
    have hb' : j < x.args.length := by omega
    obtain ⟨d, hd, hdm, hix⟩ := at_lt hb'
    have hd' := encX_at hd
    have hwj := w_succ hb' (by omega)
    have hs := all_snoc (p := okK w) hd
    have hr := ih d (by have := mem_szX hdm; omega) (List.all_eq_true.1 hf1 d hdm) ((okX_iff _).1 hx2 d hdm)
    simp only [aG, Pl.cells, X.cells_eq, List.map_cons, List.map_nil, dI] at hr
    by_cases hz : (kindW w d).2 = 0
    · rw [hz] at hr
      have hsn := take_snoc hd
      have hLl : L.length = j := by rw [hL]; simp; omega
      have hLs : (x.args.take (j + 1)).map (fun y => (kindW w y).1) = L ++ [(kindW w d).1] := by rw [hsn, hL]; simp
      have r2 := fl_len (encI_row L)
      have r3 := fl_take (encI_row L)
      have r4 := fl_snoc (encI L) [.int .i64 (kindW w d).1]
      have r5 := encI_snoc L (kindW w d).1
      have f5 : fitsB (j + 1) 8 = true := by simp [fitsB]; omega
      rw [r5] at r4
      rw [encI_len, hLl, Nat.mul_one] at r2 r3
      simp only [List.map_cons, List.map_nil] at r4
      refine wkc (And.intro @dI.eq_1 (And.intro @dL.eq_1 (And.intro @Pl.cells.eq_1 (And.intro @X.cells_eq (And.intro @encX_len (And.intro @hix (And.intro @hd' (And.intro @hr (And.intro @fillV.eq_1 (And.intro @fillV.eq_2 (And.intro @toD_dep (And.intro @nble_d (And.intro @f5 (And.intro @r2 (And.intro @r3 @r4))))))))))))))) ?_
      refine loop_next (by simp [hwj]; exact Is.rfl) ?_
      exact ⟨D - 1, by omega, j + 1, _, by omega, by rw [hs, hno]; simp [okK, hz], _, _, hLs.symm, by simp [Pl.cells, X.cells_eq, hwj]; exact ⟨⟨rfl, rfl⟩, rfl, rfl⟩⟩
    · have hz' := eq_false hz
      rw [kindsW_bad w hno hd hz, if_pos hz]
      refine wkc (And.intro @dI.eq_1 (And.intro @dL.eq_1 (And.intro @Pl.cells.eq_1 (And.intro @X.cells_eq (And.intro @encX_len (And.intro @hix (And.intro @hd' (And.intro @hr (And.intro @hz' @int_bne))))))))) ?_
      exact ⟨.inr rfl, _, _, rfl, rfl⟩
  · simp at hb
    have hje : j = x.args.length := by omega
    rw [hje, List.take_length] at hno
    have hks := kindsW_ok w hno
    rw [hks, if_neg (by simp)]
    have hx : (x.args.take x.args.length).map (fun y => (kindW w y).1) = x.args.map (fun y => (kindW w y).1) := by rw [List.take_length]
    rw [hje, hx] at hL
    rw [← hL]
    have hLl : L.length = x.args.length := by rw [hL]; simp
    subst hje
    clear hL hx
    rcases formE_k hf with q | q | q | q | q
    · have hh := has53 w.o.en x.t x.v hx1
      simp only [dL, dI, dB] at hh
      cases hz : hasE w.o.en x.t x.v with
      | true =>
        rw [hz] at hh
        simp only [kindO, q, hz]
        refine wkc (And.intro @dI.eq_1 (And.intro @dL.eq_1 (And.intro @Pl.cells.eq_1 (And.intro @X.cells_eq (And.intro @q @hh))))) ?_
        exact ⟨.inr rfl, _, _, rfl, rfl⟩
      | false =>
        rw [hz] at hh
        simp only [kindO, q, hz]
        refine wkc (And.intro @dI.eq_1 (And.intro @dL.eq_1 (And.intro @Pl.cells.eq_1 (And.intro @X.cells_eq (And.intro @q @hh))))) ?_
        exact ⟨.inr rfl, _, _, rfl, rfl⟩
    · have hg := get146 w x.nm hw.out hw.loc hw.inn
      have hr := ready147 w x.nm hw
      simp only [aG, Pl.cells, List.map_cons, List.map_nil, dS, dI, dB] at hg hr
      by_cases hz : getT w.c x.nm = 0
      · rw [hz] at hg
        simp only [kindO, q, hz]
        refine wkc (And.intro @dI.eq_1 (And.intro @dL.eq_1 (And.intro @Pl.cells.eq_1 (And.intro @X.cells_eq (And.intro @q @hg))))) ?_
        exact ⟨.inr rfl, _, _, rfl, rfl⟩
      have hz' := eq_false hz
      cases hy : readyW w x.nm with
      | true =>
        rw [hy] at hr
        simp only [kindO, q, hz', hy]
        refine wkc (And.intro @dI.eq_1 (And.intro @dL.eq_1 (And.intro @Pl.cells.eq_1 (And.intro @X.cells_eq (And.intro @q (And.intro @hg (And.intro @hr (And.intro @hz' @int_beq)))))))) ?_
        exact ⟨.inr rfl, _, _, rfl, rfl⟩
      | false =>
        rw [hy] at hr
        simp only [kindO, q, hz', hy]
        refine wkc (And.intro @dI.eq_1 (And.intro @dL.eq_1 (And.intro @Pl.cells.eq_1 (And.intro @X.cells_eq (And.intro @q (And.intro @hg (And.intro @hr (And.intro @hz' @int_beq)))))))) ?_
        exact ⟨.inr rfl, _, _, rfl, rfl⟩
    · have hg := mem117 w x.nm hw.mems
      simp only [aG, Pl.cells, List.map_cons, List.map_nil, dS, dI, dB] at hg
      by_cases hz : findM w.c.mems x.nm = 0
      · rw [hz] at hg
        simp only [kindO, q, hz]
        refine wkc (And.intro @dI.eq_1 (And.intro @dL.eq_1 (And.intro @Pl.cells.eq_1 (And.intro @X.cells_eq (And.intro @q @hg))))) ?_
        exact ⟨.inr rfl, _, _, rfl, rfl⟩
      have hz' := eq_false hz
      simp only [kindO, q, hz']
      refine wkc (And.intro @dI.eq_1 (And.intro @dL.eq_1 (And.intro @Pl.cells.eq_1 (And.intro @X.cells_eq (And.intro @q (And.intro @hg (And.intro @hz' @int_beq))))))) ?_
      exact ⟨.inr rfl, _, _, rfl, rfl⟩
    · have hg := res160 x.o L
      have r2 := fl_len (encI_row L)
      have r3 := fl_take (encI_row L)
      have r4 := chunk_flat (encI_row L)
      rw [encI_len, Nat.mul_one] at r2 r3
      rw [encI_len] at r4
      rw [hLl] at r2 r3 r4
      simp only [dL, dI] at hg
      simp only [kindO, q]
      refine wkc (And.intro @dI.eq_1 (And.intro @dL.eq_1 (And.intro @Pl.cells.eq_1 (And.intro @X.cells_eq (And.intro @q (And.intro @hg (And.intro @closeParts.eq_1 (And.intro @closeParts.eq_2 (And.intro @toD_dep (And.intro @toD_d (And.intro @toDs_fl (And.intro @r2 (And.intro @r3 (And.intro @r4 @nble_d)))))))))))))) ?_
      exact ⟨.inr rfl, _, _, rfl, rfl⟩
    · rw [hf2 q] at hLl ⊢
      obtain ⟨a, b, c, rfl⟩ : ∃ a b c, L = [a, b, c] := by
        match L, hLl with
        | [a, b, c], _ => exact ⟨a, b, c, rfl⟩
      have e : fl (encI [a, b, c]) = [.d (.int .i64 a), .d (.int .i64 b), .d (.int .i64 c)] := rfl
      rw [e]
      by_cases c1 : a = 1
      case neg =>
        have c1' := eq_false c1
        simp only [kindO, q]
        rw [show (if ([a, b, c].getD 0 0 ≠ 1 ∨ [a, b, c].getD 1 0 ≠ [a, b, c].getD 2 0) then ((0 : Int), (10 : Int)) else ([a, b, c].getD 1 0, 0)) = (0, 10) by simp [c1]]
        refine wkc (And.intro @dI.eq_1 (And.intro @dL.eq_1 (And.intro @Pl.cells.eq_1 (And.intro @X.cells_eq (And.intro @q (And.intro @c1' (And.intro @int_bne @idx.eq_def))))))) ?_
        exact ⟨.inr rfl, _, _, rfl, rfl⟩
      by_cases c2 : b = c
      case neg =>
        have c2' := eq_false c2
        simp only [kindO, q]
        rw [show (if ([a, b, c].getD 0 0 ≠ 1 ∨ [a, b, c].getD 1 0 ≠ [a, b, c].getD 2 0) then ((0 : Int), (10 : Int)) else ([a, b, c].getD 1 0, 0)) = (0, 10) by simp [c2]]
        refine wkc (And.intro @dI.eq_1 (And.intro @dL.eq_1 (And.intro @Pl.cells.eq_1 (And.intro @X.cells_eq (And.intro @q (And.intro @c1 (And.intro @c2' (And.intro @int_bne @idx.eq_def)))))))) ?_
        exact ⟨.inr rfl, _, _, rfl, rfl⟩
      simp only [kindO, q]
      rw [show (if ([a, b, c].getD 0 0 ≠ 1 ∨ [a, b, c].getD 1 0 ≠ [a, b, c].getD 2 0) then ((0 : Int), (10 : Int)) else ([a, b, c].getD 1 0, 0)) = (b, 0) by simp [c1, c2]]
      subst c1 c2
      refine wkc (And.intro @dI.eq_1 (And.intro @dL.eq_1 (And.intro @Pl.cells.eq_1 (And.intro @X.cells_eq (And.intro @q (And.intro @int_bne @idx.eq_def)))))) ?_
      exact ⟨.inr rfl, _, _, rfl, rfl⟩
end Go.Ac
end

section
set_option maxRecDepth 4000
set_option linter.unusedSimpArgs false
set_option linter.unusedVariables false
namespace Go.Ac
open Go.Proofs
def callsE (y : Y) : Bool := decide (y.outs ≠ []) || decide (y.args ≠ [])
def fieldsE (y : Y) : Bool :=
  if y.k = 1 ∨ y.k = 2 then decide (y.t = 0) && !callsE y && decide (y.brs = [])
  else if y.k = 3 then zeroE y.r && !callsE y
  else if y.k = 4 then decide (y.t = 0) && zeroE y.r && decide (y.brs = [])
  else if y.k = 5 then decide (y.t = 0) && zeroE y.r && !callsE y && decide (y.brs = []) else false
def exprW (w : Pl) (x : X) : Int × Int := if formE x then kindW w x else (0, 5)
def targetW (w : Pl) (nm : Tx) (t : Int) : Int := if setT w.c nm = 0 then 6 else if asL nm false w.cx w.bf then 7 else if setT w.c nm ≠ t then 10 else 0
theorem lt0 {α : Type} (l : List α) : ((0 : Int) < (l.length : Int)) = (l ≠ []) := by cases l <;> simp <;> omega
theorem lt0n {α : Type} (l : List α) : (0 < l.length) = (l ≠ []) := by cases l <;> simp
theorem kf114 (r : Nat) : Ob.keep 114 r = Ob.k114 r := by kernel_rfl
theorem kf115 (r : Nat) : Ob.keep 115 r = Ob.k115 r := by kernel_rfl
theorem kf116 (r : Nat) : Ob.keep 116 r = Ob.k116 r := by kernel_rfl
attribute [local simp] kf114 Ob.k114 kf115 Ob.k115 kf116 Ob.k116

set_option maxHeartbeats 4000000 in
theorem fields_0 (y : Y) (e1 : y.outs ≠ []) : den Tryz.prog Ob.cfg 114 [aG y.cells] = some (dB (fieldsE y)) := by
  have hzr := zero142 y.r
  simp only [aG, X.cells_eq, List.map_cons, List.map_nil, dB] at hzr
  refine den_wp Tryz.func114 rfl (by kernel_rfl) rfl rfl ?_
  by_cases q1 : y.k = 1
  · skip
    by_cases d1 : y.t = 0
    case neg =>
      have d1' := eq_false d1
      rw [show fieldsE y = false by simp [fieldsE, callsE, e1, q1, d1]]
      refine wkc (And.intro @aG.eq_1 (And.intro @Y.cells_eq (And.intro @dL.eq_1 (And.intro @dB.eq_1 (And.intro @int_beq (And.intro @len0 (And.intro @lt0 (And.intro @lt0n (And.intro @encS_len (And.intro @encX_len (And.intro @encB_len (And.intro @hzr (And.intro @e1 (And.intro @q1 @d1')))))))))))))) ?_
      show retQ _ _ _ _ _
      exact ⟨.inr rfl, _, _, rfl, rfl⟩
    have d1' := eq_true d1
    rw [show fieldsE y = false by simp [fieldsE, callsE, e1, q1, d1]]
    refine wkc (And.intro @aG.eq_1 (And.intro @Y.cells_eq (And.intro @dL.eq_1 (And.intro @dB.eq_1 (And.intro @int_beq (And.intro @len0 (And.intro @lt0 (And.intro @lt0n (And.intro @encS_len (And.intro @encX_len (And.intro @encB_len (And.intro @hzr (And.intro @e1 (And.intro @q1 @d1')))))))))))))) ?_
    show retQ _ _ _ _ _
    exact ⟨.inr rfl, _, _, rfl, rfl⟩
  by_cases q2 : y.k = 2
  · skip
    by_cases d1 : y.t = 0
    case neg =>
      have d1' := eq_false d1
      rw [show fieldsE y = false by simp [fieldsE, callsE, e1, q2, d1]]
      refine wkc (And.intro @aG.eq_1 (And.intro @Y.cells_eq (And.intro @dL.eq_1 (And.intro @dB.eq_1 (And.intro @int_beq (And.intro @len0 (And.intro @lt0 (And.intro @lt0n (And.intro @encS_len (And.intro @encX_len (And.intro @encB_len (And.intro @hzr (And.intro @e1 (And.intro @q2 @d1')))))))))))))) ?_
      show retQ _ _ _ _ _
      exact ⟨.inr rfl, _, _, rfl, rfl⟩
    have d1' := eq_true d1
    rw [show fieldsE y = false by simp [fieldsE, callsE, e1, q2, d1]]
    refine wkc (And.intro @aG.eq_1 (And.intro @Y.cells_eq (And.intro @dL.eq_1 (And.intro @dB.eq_1 (And.intro @int_beq (And.intro @len0 (And.intro @lt0 (And.intro @lt0n (And.intro @encS_len (And.intro @encX_len (And.intro @encB_len (And.intro @hzr (And.intro @e1 (And.intro @q2 @d1')))))))))))))) ?_
    show retQ _ _ _ _ _
    exact ⟨.inr rfl, _, _, rfl, rfl⟩
  by_cases q3 : y.k = 3
  · skip
    by_cases d3 : zeroE y.r = true
    case neg =>
      have d3' : zeroE y.r = false := by simpa using d3
      rw [show fieldsE y = false by simp [fieldsE, callsE, e1, q3, d3']]
      refine wkc (And.intro @aG.eq_1 (And.intro @Y.cells_eq (And.intro @dL.eq_1 (And.intro @dB.eq_1 (And.intro @int_beq (And.intro @len0 (And.intro @lt0 (And.intro @lt0n (And.intro @encS_len (And.intro @encX_len (And.intro @encB_len (And.intro @hzr (And.intro @e1 (And.intro @q3 @d3')))))))))))))) ?_
      show retQ _ _ _ _ _
      exact ⟨.inr rfl, _, _, rfl, rfl⟩
    have d3' := d3
    rw [show fieldsE y = false by simp [fieldsE, callsE, e1, q3, d3]]
    refine wkc (And.intro @aG.eq_1 (And.intro @Y.cells_eq (And.intro @dL.eq_1 (And.intro @dB.eq_1 (And.intro @int_beq (And.intro @len0 (And.intro @lt0 (And.intro @lt0n (And.intro @encS_len (And.intro @encX_len (And.intro @encB_len (And.intro @hzr (And.intro @e1 (And.intro @q3 @d3')))))))))))))) ?_
    show retQ _ _ _ _ _
    exact ⟨.inr rfl, _, _, rfl, rfl⟩
  by_cases q4 : y.k = 4
  · skip
    by_cases d1 : y.t = 0
    case neg =>
      have d1' := eq_false d1
      rw [show fieldsE y = false by simp [fieldsE, callsE, e1, q4, d1]]
      refine wkc (And.intro @aG.eq_1 (And.intro @Y.cells_eq (And.intro @dL.eq_1 (And.intro @dB.eq_1 (And.intro @int_beq (And.intro @len0 (And.intro @lt0 (And.intro @lt0n (And.intro @encS_len (And.intro @encX_len (And.intro @encB_len (And.intro @hzr (And.intro @e1 (And.intro @q4 @d1')))))))))))))) ?_
      show retQ _ _ _ _ _
      exact ⟨.inr rfl, _, _, rfl, rfl⟩
    have d1' := eq_true d1
    by_cases d3 : zeroE y.r = true
    case neg =>
      have d3' : zeroE y.r = false := by simpa using d3
      rw [show fieldsE y = false by simp [fieldsE, callsE, e1, q4, d1, d3']]
      refine wkc (And.intro @aG.eq_1 (And.intro @Y.cells_eq (And.intro @dL.eq_1 (And.intro @dB.eq_1 (And.intro @int_beq (And.intro @len0 (And.intro @lt0 (And.intro @lt0n (And.intro @encS_len (And.intro @encX_len (And.intro @encB_len (And.intro @hzr (And.intro @e1 (And.intro @q4 (And.intro @d1' @d3'))))))))))))))) ?_
      show retQ _ _ _ _ _
      exact ⟨.inr rfl, _, _, rfl, rfl⟩
    have d3' := d3
    by_cases d2 : y.brs = []
    case neg =>
      have d2' := eq_false d2
      rw [show fieldsE y = false by simp [fieldsE, callsE, e1, q4, d1, d3, d2]]
      refine wkc (And.intro @aG.eq_1 (And.intro @Y.cells_eq (And.intro @dL.eq_1 (And.intro @dB.eq_1 (And.intro @int_beq (And.intro @len0 (And.intro @lt0 (And.intro @lt0n (And.intro @encS_len (And.intro @encX_len (And.intro @encB_len (And.intro @hzr (And.intro @e1 (And.intro @q4 (And.intro @d1' (And.intro @d3' @d2')))))))))))))))) ?_
      show retQ _ _ _ _ _
      exact ⟨.inr rfl, _, _, rfl, rfl⟩
    have d2' := eq_true d2
    rw [show fieldsE y = true by simp [fieldsE, callsE, e1, q4, d1, d3, d2]]
    refine wkc (And.intro @aG.eq_1 (And.intro @Y.cells_eq (And.intro @dL.eq_1 (And.intro @dB.eq_1 (And.intro @int_beq (And.intro @len0 (And.intro @lt0 (And.intro @lt0n (And.intro @encS_len (And.intro @encX_len (And.intro @encB_len (And.intro @hzr (And.intro @e1 (And.intro @q4 (And.intro @d1' (And.intro @d3' @d2')))))))))))))))) ?_
    show retQ _ _ _ _ _
    exact ⟨.inr rfl, _, _, rfl, rfl⟩
  by_cases q5 : y.k = 5
  · skip
    by_cases d1 : y.t = 0
    case neg =>
      have d1' := eq_false d1
      rw [show fieldsE y = false by simp [fieldsE, callsE, e1, q5, d1]]
      refine wkc (And.intro @aG.eq_1 (And.intro @Y.cells_eq (And.intro @dL.eq_1 (And.intro @dB.eq_1 (And.intro @int_beq (And.intro @len0 (And.intro @lt0 (And.intro @lt0n (And.intro @encS_len (And.intro @encX_len (And.intro @encB_len (And.intro @hzr (And.intro @e1 (And.intro @q5 @d1')))))))))))))) ?_
      show retQ _ _ _ _ _
      exact ⟨.inr rfl, _, _, rfl, rfl⟩
    have d1' := eq_true d1
    by_cases d3 : zeroE y.r = true
    case neg =>
      have d3' : zeroE y.r = false := by simpa using d3
      rw [show fieldsE y = false by simp [fieldsE, callsE, e1, q5, d1, d3']]
      refine wkc (And.intro @aG.eq_1 (And.intro @Y.cells_eq (And.intro @dL.eq_1 (And.intro @dB.eq_1 (And.intro @int_beq (And.intro @len0 (And.intro @lt0 (And.intro @lt0n (And.intro @encS_len (And.intro @encX_len (And.intro @encB_len (And.intro @hzr (And.intro @e1 (And.intro @q5 (And.intro @d1' @d3'))))))))))))))) ?_
      show retQ _ _ _ _ _
      exact ⟨.inr rfl, _, _, rfl, rfl⟩
    have d3' := d3
    rw [show fieldsE y = false by simp [fieldsE, callsE, e1, q5, d1, d3]]
    refine wkc (And.intro @aG.eq_1 (And.intro @Y.cells_eq (And.intro @dL.eq_1 (And.intro @dB.eq_1 (And.intro @int_beq (And.intro @len0 (And.intro @lt0 (And.intro @lt0n (And.intro @encS_len (And.intro @encX_len (And.intro @encB_len (And.intro @hzr (And.intro @e1 (And.intro @q5 (And.intro @d1' @d3'))))))))))))))) ?_
    show retQ _ _ _ _ _
    exact ⟨.inr rfl, _, _, rfl, rfl⟩
  rw [show fieldsE y = false by simp [fieldsE, callsE, e1, q1, q2, q3, q4, q5]]
  refine wkc (And.intro @aG.eq_1 (And.intro @Y.cells_eq (And.intro @dL.eq_1 (And.intro @dB.eq_1 (And.intro @int_beq (And.intro @len0 (And.intro @lt0 (And.intro @lt0n (And.intro @encS_len (And.intro @encX_len (And.intro @encB_len (And.intro @hzr (And.intro @e1 (And.intro @q1 (And.intro @q2 (And.intro @q3 (And.intro @q4 @q5))))))))))))))))) ?_
  show retQ _ _ _ _ _
  exact ⟨.inr rfl, _, _, rfl, rfl⟩
set_option maxHeartbeats 4000000 in
theorem fields_1 (y : Y) (e1 : y.outs = []) (e2 : y.args ≠ []) : den Tryz.prog Ob.cfg 114 [aG y.cells] = some (dB (fieldsE y)) := by
  have hzr := zero142 y.r
  simp only [aG, X.cells_eq, List.map_cons, List.map_nil, dB] at hzr
  refine den_wp Tryz.func114 rfl (by kernel_rfl) rfl rfl ?_
  by_cases q1 : y.k = 1
  · skip
    by_cases d1 : y.t = 0
    case neg =>
      have d1' := eq_false d1
      rw [show fieldsE y = false by simp [fieldsE, callsE, e1, e2, q1, d1]]
      refine wkc (And.intro @aG.eq_1 (And.intro @Y.cells_eq (And.intro @dL.eq_1 (And.intro @dB.eq_1 (And.intro @int_beq (And.intro @len0 (And.intro @lt0 (And.intro @lt0n (And.intro @encS_len (And.intro @encX_len (And.intro @encB_len (And.intro @hzr (And.intro @e1 (And.intro @e2 (And.intro @q1 @d1'))))))))))))))) ?_
      show retQ _ _ _ _ _
      exact ⟨.inr rfl, _, _, rfl, rfl⟩
    have d1' := eq_true d1
    rw [show fieldsE y = false by simp [fieldsE, callsE, e1, e2, q1, d1]]
    refine wkc (And.intro @aG.eq_1 (And.intro @Y.cells_eq (And.intro @dL.eq_1 (And.intro @dB.eq_1 (And.intro @int_beq (And.intro @len0 (And.intro @lt0 (And.intro @lt0n (And.intro @encS_len (And.intro @encX_len (And.intro @encB_len (And.intro @hzr (And.intro @e1 (And.intro @e2 (And.intro @q1 @d1'))))))))))))))) ?_
    show retQ _ _ _ _ _
    exact ⟨.inr rfl, _, _, rfl, rfl⟩
  by_cases q2 : y.k = 2
  · skip
    by_cases d1 : y.t = 0
    case neg =>
      have d1' := eq_false d1
      rw [show fieldsE y = false by simp [fieldsE, callsE, e1, e2, q2, d1]]
      refine wkc (And.intro @aG.eq_1 (And.intro @Y.cells_eq (And.intro @dL.eq_1 (And.intro @dB.eq_1 (And.intro @int_beq (And.intro @len0 (And.intro @lt0 (And.intro @lt0n (And.intro @encS_len (And.intro @encX_len (And.intro @encB_len (And.intro @hzr (And.intro @e1 (And.intro @e2 (And.intro @q2 @d1'))))))))))))))) ?_
      show retQ _ _ _ _ _
      exact ⟨.inr rfl, _, _, rfl, rfl⟩
    have d1' := eq_true d1
    rw [show fieldsE y = false by simp [fieldsE, callsE, e1, e2, q2, d1]]
    refine wkc (And.intro @aG.eq_1 (And.intro @Y.cells_eq (And.intro @dL.eq_1 (And.intro @dB.eq_1 (And.intro @int_beq (And.intro @len0 (And.intro @lt0 (And.intro @lt0n (And.intro @encS_len (And.intro @encX_len (And.intro @encB_len (And.intro @hzr (And.intro @e1 (And.intro @e2 (And.intro @q2 @d1'))))))))))))))) ?_
    show retQ _ _ _ _ _
    exact ⟨.inr rfl, _, _, rfl, rfl⟩
  by_cases q3 : y.k = 3
  · skip
    by_cases d3 : zeroE y.r = true
    case neg =>
      have d3' : zeroE y.r = false := by simpa using d3
      rw [show fieldsE y = false by simp [fieldsE, callsE, e1, e2, q3, d3']]
      refine wkc (And.intro @aG.eq_1 (And.intro @Y.cells_eq (And.intro @dL.eq_1 (And.intro @dB.eq_1 (And.intro @int_beq (And.intro @len0 (And.intro @lt0 (And.intro @lt0n (And.intro @encS_len (And.intro @encX_len (And.intro @encB_len (And.intro @hzr (And.intro @e1 (And.intro @e2 (And.intro @q3 @d3'))))))))))))))) ?_
      show retQ _ _ _ _ _
      exact ⟨.inr rfl, _, _, rfl, rfl⟩
    have d3' := d3
    rw [show fieldsE y = false by simp [fieldsE, callsE, e1, e2, q3, d3]]
    refine wkc (And.intro @aG.eq_1 (And.intro @Y.cells_eq (And.intro @dL.eq_1 (And.intro @dB.eq_1 (And.intro @int_beq (And.intro @len0 (And.intro @lt0 (And.intro @lt0n (And.intro @encS_len (And.intro @encX_len (And.intro @encB_len (And.intro @hzr (And.intro @e1 (And.intro @e2 (And.intro @q3 @d3'))))))))))))))) ?_
    show retQ _ _ _ _ _
    exact ⟨.inr rfl, _, _, rfl, rfl⟩
  by_cases q4 : y.k = 4
  · skip
    by_cases d1 : y.t = 0
    case neg =>
      have d1' := eq_false d1
      rw [show fieldsE y = false by simp [fieldsE, callsE, e1, e2, q4, d1]]
      refine wkc (And.intro @aG.eq_1 (And.intro @Y.cells_eq (And.intro @dL.eq_1 (And.intro @dB.eq_1 (And.intro @int_beq (And.intro @len0 (And.intro @lt0 (And.intro @lt0n (And.intro @encS_len (And.intro @encX_len (And.intro @encB_len (And.intro @hzr (And.intro @e1 (And.intro @e2 (And.intro @q4 @d1'))))))))))))))) ?_
      show retQ _ _ _ _ _
      exact ⟨.inr rfl, _, _, rfl, rfl⟩
    have d1' := eq_true d1
    by_cases d3 : zeroE y.r = true
    case neg =>
      have d3' : zeroE y.r = false := by simpa using d3
      rw [show fieldsE y = false by simp [fieldsE, callsE, e1, e2, q4, d1, d3']]
      refine wkc (And.intro @aG.eq_1 (And.intro @Y.cells_eq (And.intro @dL.eq_1 (And.intro @dB.eq_1 (And.intro @int_beq (And.intro @len0 (And.intro @lt0 (And.intro @lt0n (And.intro @encS_len (And.intro @encX_len (And.intro @encB_len (And.intro @hzr (And.intro @e1 (And.intro @e2 (And.intro @q4 (And.intro @d1' @d3')))))))))))))))) ?_
      show retQ _ _ _ _ _
      exact ⟨.inr rfl, _, _, rfl, rfl⟩
    have d3' := d3
    by_cases d2 : y.brs = []
    case neg =>
      have d2' := eq_false d2
      rw [show fieldsE y = false by simp [fieldsE, callsE, e1, e2, q4, d1, d3, d2]]
      refine wkc (And.intro @aG.eq_1 (And.intro @Y.cells_eq (And.intro @dL.eq_1 (And.intro @dB.eq_1 (And.intro @int_beq (And.intro @len0 (And.intro @lt0 (And.intro @lt0n (And.intro @encS_len (And.intro @encX_len (And.intro @encB_len (And.intro @hzr (And.intro @e1 (And.intro @e2 (And.intro @q4 (And.intro @d1' (And.intro @d3' @d2'))))))))))))))))) ?_
      show retQ _ _ _ _ _
      exact ⟨.inr rfl, _, _, rfl, rfl⟩
    have d2' := eq_true d2
    rw [show fieldsE y = true by simp [fieldsE, callsE, e1, e2, q4, d1, d3, d2]]
    refine wkc (And.intro @aG.eq_1 (And.intro @Y.cells_eq (And.intro @dL.eq_1 (And.intro @dB.eq_1 (And.intro @int_beq (And.intro @len0 (And.intro @lt0 (And.intro @lt0n (And.intro @encS_len (And.intro @encX_len (And.intro @encB_len (And.intro @hzr (And.intro @e1 (And.intro @e2 (And.intro @q4 (And.intro @d1' (And.intro @d3' @d2'))))))))))))))))) ?_
    show retQ _ _ _ _ _
    exact ⟨.inr rfl, _, _, rfl, rfl⟩
  by_cases q5 : y.k = 5
  · skip
    by_cases d1 : y.t = 0
    case neg =>
      have d1' := eq_false d1
      rw [show fieldsE y = false by simp [fieldsE, callsE, e1, e2, q5, d1]]
      refine wkc (And.intro @aG.eq_1 (And.intro @Y.cells_eq (And.intro @dL.eq_1 (And.intro @dB.eq_1 (And.intro @int_beq (And.intro @len0 (And.intro @lt0 (And.intro @lt0n (And.intro @encS_len (And.intro @encX_len (And.intro @encB_len (And.intro @hzr (And.intro @e1 (And.intro @e2 (And.intro @q5 @d1'))))))))))))))) ?_
      show retQ _ _ _ _ _
      exact ⟨.inr rfl, _, _, rfl, rfl⟩
    have d1' := eq_true d1
    by_cases d3 : zeroE y.r = true
    case neg =>
      have d3' : zeroE y.r = false := by simpa using d3
      rw [show fieldsE y = false by simp [fieldsE, callsE, e1, e2, q5, d1, d3']]
      refine wkc (And.intro @aG.eq_1 (And.intro @Y.cells_eq (And.intro @dL.eq_1 (And.intro @dB.eq_1 (And.intro @int_beq (And.intro @len0 (And.intro @lt0 (And.intro @lt0n (And.intro @encS_len (And.intro @encX_len (And.intro @encB_len (And.intro @hzr (And.intro @e1 (And.intro @e2 (And.intro @q5 (And.intro @d1' @d3')))))))))))))))) ?_
      show retQ _ _ _ _ _
      exact ⟨.inr rfl, _, _, rfl, rfl⟩
    have d3' := d3
    rw [show fieldsE y = false by simp [fieldsE, callsE, e1, e2, q5, d1, d3]]
    refine wkc (And.intro @aG.eq_1 (And.intro @Y.cells_eq (And.intro @dL.eq_1 (And.intro @dB.eq_1 (And.intro @int_beq (And.intro @len0 (And.intro @lt0 (And.intro @lt0n (And.intro @encS_len (And.intro @encX_len (And.intro @encB_len (And.intro @hzr (And.intro @e1 (And.intro @e2 (And.intro @q5 (And.intro @d1' @d3')))))))))))))))) ?_
    show retQ _ _ _ _ _
    exact ⟨.inr rfl, _, _, rfl, rfl⟩
  rw [show fieldsE y = false by simp [fieldsE, callsE, e1, e2, q1, q2, q3, q4, q5]]
  refine wkc (And.intro @aG.eq_1 (And.intro @Y.cells_eq (And.intro @dL.eq_1 (And.intro @dB.eq_1 (And.intro @int_beq (And.intro @len0 (And.intro @lt0 (And.intro @lt0n (And.intro @encS_len (And.intro @encX_len (And.intro @encB_len (And.intro @hzr (And.intro @e1 (And.intro @e2 (And.intro @q1 (And.intro @q2 (And.intro @q3 (And.intro @q4 @q5)))))))))))))))))) ?_
  show retQ _ _ _ _ _
  exact ⟨.inr rfl, _, _, rfl, rfl⟩
set_option maxHeartbeats 4000000 in
theorem fields_2 (y : Y) (e1 : y.outs = []) (e2 : y.args = []) : den Tryz.prog Ob.cfg 114 [aG y.cells] = some (dB (fieldsE y)) := by
  have hzr := zero142 y.r
  simp only [aG, X.cells_eq, List.map_cons, List.map_nil, dB] at hzr
  refine den_wp Tryz.func114 rfl (by kernel_rfl) rfl rfl ?_
  by_cases q1 : y.k = 1
  · skip
    by_cases d1 : y.t = 0
    case neg =>
      have d1' := eq_false d1
      rw [show fieldsE y = false by simp [fieldsE, callsE, e1, e2, q1, d1]]
      refine wkc (And.intro @aG.eq_1 (And.intro @Y.cells_eq (And.intro @dL.eq_1 (And.intro @dB.eq_1 (And.intro @int_beq (And.intro @len0 (And.intro @lt0 (And.intro @lt0n (And.intro @encS_len (And.intro @encX_len (And.intro @encB_len (And.intro @hzr (And.intro @e1 (And.intro @e2 (And.intro @q1 @d1'))))))))))))))) ?_
      show retQ _ _ _ _ _
      exact ⟨.inr rfl, _, _, rfl, rfl⟩
    have d1' := eq_true d1
    by_cases d2 : y.brs = []
    case neg =>
      have d2' := eq_false d2
      rw [show fieldsE y = false by simp [fieldsE, callsE, e1, e2, q1, d1, d2]]
      refine wkc (And.intro @aG.eq_1 (And.intro @Y.cells_eq (And.intro @dL.eq_1 (And.intro @dB.eq_1 (And.intro @int_beq (And.intro @len0 (And.intro @lt0 (And.intro @lt0n (And.intro @encS_len (And.intro @encX_len (And.intro @encB_len (And.intro @hzr (And.intro @e1 (And.intro @e2 (And.intro @q1 (And.intro @d1' @d2')))))))))))))))) ?_
      show retQ _ _ _ _ _
      exact ⟨.inr rfl, _, _, rfl, rfl⟩
    have d2' := eq_true d2
    rw [show fieldsE y = true by simp [fieldsE, callsE, e1, e2, q1, d1, d2]]
    refine wkc (And.intro @aG.eq_1 (And.intro @Y.cells_eq (And.intro @dL.eq_1 (And.intro @dB.eq_1 (And.intro @int_beq (And.intro @len0 (And.intro @lt0 (And.intro @lt0n (And.intro @encS_len (And.intro @encX_len (And.intro @encB_len (And.intro @hzr (And.intro @e1 (And.intro @e2 (And.intro @q1 (And.intro @d1' @d2')))))))))))))))) ?_
    show retQ _ _ _ _ _
    exact ⟨.inr rfl, _, _, rfl, rfl⟩
  by_cases q2 : y.k = 2
  · skip
    by_cases d1 : y.t = 0
    case neg =>
      have d1' := eq_false d1
      rw [show fieldsE y = false by simp [fieldsE, callsE, e1, e2, q2, d1]]
      refine wkc (And.intro @aG.eq_1 (And.intro @Y.cells_eq (And.intro @dL.eq_1 (And.intro @dB.eq_1 (And.intro @int_beq (And.intro @len0 (And.intro @lt0 (And.intro @lt0n (And.intro @encS_len (And.intro @encX_len (And.intro @encB_len (And.intro @hzr (And.intro @e1 (And.intro @e2 (And.intro @q2 @d1'))))))))))))))) ?_
      show retQ _ _ _ _ _
      exact ⟨.inr rfl, _, _, rfl, rfl⟩
    have d1' := eq_true d1
    by_cases d2 : y.brs = []
    case neg =>
      have d2' := eq_false d2
      rw [show fieldsE y = false by simp [fieldsE, callsE, e1, e2, q2, d1, d2]]
      refine wkc (And.intro @aG.eq_1 (And.intro @Y.cells_eq (And.intro @dL.eq_1 (And.intro @dB.eq_1 (And.intro @int_beq (And.intro @len0 (And.intro @lt0 (And.intro @lt0n (And.intro @encS_len (And.intro @encX_len (And.intro @encB_len (And.intro @hzr (And.intro @e1 (And.intro @e2 (And.intro @q2 (And.intro @d1' @d2')))))))))))))))) ?_
      show retQ _ _ _ _ _
      exact ⟨.inr rfl, _, _, rfl, rfl⟩
    have d2' := eq_true d2
    rw [show fieldsE y = true by simp [fieldsE, callsE, e1, e2, q2, d1, d2]]
    refine wkc (And.intro @aG.eq_1 (And.intro @Y.cells_eq (And.intro @dL.eq_1 (And.intro @dB.eq_1 (And.intro @int_beq (And.intro @len0 (And.intro @lt0 (And.intro @lt0n (And.intro @encS_len (And.intro @encX_len (And.intro @encB_len (And.intro @hzr (And.intro @e1 (And.intro @e2 (And.intro @q2 (And.intro @d1' @d2')))))))))))))))) ?_
    show retQ _ _ _ _ _
    exact ⟨.inr rfl, _, _, rfl, rfl⟩
  by_cases q3 : y.k = 3
  · skip
    by_cases d3 : zeroE y.r = true
    case neg =>
      have d3' : zeroE y.r = false := by simpa using d3
      rw [show fieldsE y = false by simp [fieldsE, callsE, e1, e2, q3, d3']]
      refine wkc (And.intro @aG.eq_1 (And.intro @Y.cells_eq (And.intro @dL.eq_1 (And.intro @dB.eq_1 (And.intro @int_beq (And.intro @len0 (And.intro @lt0 (And.intro @lt0n (And.intro @encS_len (And.intro @encX_len (And.intro @encB_len (And.intro @hzr (And.intro @e1 (And.intro @e2 (And.intro @q3 @d3'))))))))))))))) ?_
      show retQ _ _ _ _ _
      exact ⟨.inr rfl, _, _, rfl, rfl⟩
    have d3' := d3
    rw [show fieldsE y = true by simp [fieldsE, callsE, e1, e2, q3, d3]]
    refine wkc (And.intro @aG.eq_1 (And.intro @Y.cells_eq (And.intro @dL.eq_1 (And.intro @dB.eq_1 (And.intro @int_beq (And.intro @len0 (And.intro @lt0 (And.intro @lt0n (And.intro @encS_len (And.intro @encX_len (And.intro @encB_len (And.intro @hzr (And.intro @e1 (And.intro @e2 (And.intro @q3 @d3'))))))))))))))) ?_
    show retQ _ _ _ _ _
    exact ⟨.inr rfl, _, _, rfl, rfl⟩
  by_cases q4 : y.k = 4
  · skip
    by_cases d1 : y.t = 0
    case neg =>
      have d1' := eq_false d1
      rw [show fieldsE y = false by simp [fieldsE, callsE, e1, e2, q4, d1]]
      refine wkc (And.intro @aG.eq_1 (And.intro @Y.cells_eq (And.intro @dL.eq_1 (And.intro @dB.eq_1 (And.intro @int_beq (And.intro @len0 (And.intro @lt0 (And.intro @lt0n (And.intro @encS_len (And.intro @encX_len (And.intro @encB_len (And.intro @hzr (And.intro @e1 (And.intro @e2 (And.intro @q4 @d1'))))))))))))))) ?_
      show retQ _ _ _ _ _
      exact ⟨.inr rfl, _, _, rfl, rfl⟩
    have d1' := eq_true d1
    by_cases d3 : zeroE y.r = true
    case neg =>
      have d3' : zeroE y.r = false := by simpa using d3
      rw [show fieldsE y = false by simp [fieldsE, callsE, e1, e2, q4, d1, d3']]
      refine wkc (And.intro @aG.eq_1 (And.intro @Y.cells_eq (And.intro @dL.eq_1 (And.intro @dB.eq_1 (And.intro @int_beq (And.intro @len0 (And.intro @lt0 (And.intro @lt0n (And.intro @encS_len (And.intro @encX_len (And.intro @encB_len (And.intro @hzr (And.intro @e1 (And.intro @e2 (And.intro @q4 (And.intro @d1' @d3')))))))))))))))) ?_
      show retQ _ _ _ _ _
      exact ⟨.inr rfl, _, _, rfl, rfl⟩
    have d3' := d3
    by_cases d2 : y.brs = []
    case neg =>
      have d2' := eq_false d2
      rw [show fieldsE y = false by simp [fieldsE, callsE, e1, e2, q4, d1, d3, d2]]
      refine wkc (And.intro @aG.eq_1 (And.intro @Y.cells_eq (And.intro @dL.eq_1 (And.intro @dB.eq_1 (And.intro @int_beq (And.intro @len0 (And.intro @lt0 (And.intro @lt0n (And.intro @encS_len (And.intro @encX_len (And.intro @encB_len (And.intro @hzr (And.intro @e1 (And.intro @e2 (And.intro @q4 (And.intro @d1' (And.intro @d3' @d2'))))))))))))))))) ?_
      show retQ _ _ _ _ _
      exact ⟨.inr rfl, _, _, rfl, rfl⟩
    have d2' := eq_true d2
    rw [show fieldsE y = true by simp [fieldsE, callsE, e1, e2, q4, d1, d3, d2]]
    refine wkc (And.intro @aG.eq_1 (And.intro @Y.cells_eq (And.intro @dL.eq_1 (And.intro @dB.eq_1 (And.intro @int_beq (And.intro @len0 (And.intro @lt0 (And.intro @lt0n (And.intro @encS_len (And.intro @encX_len (And.intro @encB_len (And.intro @hzr (And.intro @e1 (And.intro @e2 (And.intro @q4 (And.intro @d1' (And.intro @d3' @d2'))))))))))))))))) ?_
    show retQ _ _ _ _ _
    exact ⟨.inr rfl, _, _, rfl, rfl⟩
  by_cases q5 : y.k = 5
  · skip
    by_cases d1 : y.t = 0
    case neg =>
      have d1' := eq_false d1
      rw [show fieldsE y = false by simp [fieldsE, callsE, e1, e2, q5, d1]]
      refine wkc (And.intro @aG.eq_1 (And.intro @Y.cells_eq (And.intro @dL.eq_1 (And.intro @dB.eq_1 (And.intro @int_beq (And.intro @len0 (And.intro @lt0 (And.intro @lt0n (And.intro @encS_len (And.intro @encX_len (And.intro @encB_len (And.intro @hzr (And.intro @e1 (And.intro @e2 (And.intro @q5 @d1'))))))))))))))) ?_
      show retQ _ _ _ _ _
      exact ⟨.inr rfl, _, _, rfl, rfl⟩
    have d1' := eq_true d1
    by_cases d3 : zeroE y.r = true
    case neg =>
      have d3' : zeroE y.r = false := by simpa using d3
      rw [show fieldsE y = false by simp [fieldsE, callsE, e1, e2, q5, d1, d3']]
      refine wkc (And.intro @aG.eq_1 (And.intro @Y.cells_eq (And.intro @dL.eq_1 (And.intro @dB.eq_1 (And.intro @int_beq (And.intro @len0 (And.intro @lt0 (And.intro @lt0n (And.intro @encS_len (And.intro @encX_len (And.intro @encB_len (And.intro @hzr (And.intro @e1 (And.intro @e2 (And.intro @q5 (And.intro @d1' @d3')))))))))))))))) ?_
      show retQ _ _ _ _ _
      exact ⟨.inr rfl, _, _, rfl, rfl⟩
    have d3' := d3
    by_cases d2 : y.brs = []
    case neg =>
      have d2' := eq_false d2
      rw [show fieldsE y = false by simp [fieldsE, callsE, e1, e2, q5, d1, d3, d2]]
      refine wkc (And.intro @aG.eq_1 (And.intro @Y.cells_eq (And.intro @dL.eq_1 (And.intro @dB.eq_1 (And.intro @int_beq (And.intro @len0 (And.intro @lt0 (And.intro @lt0n (And.intro @encS_len (And.intro @encX_len (And.intro @encB_len (And.intro @hzr (And.intro @e1 (And.intro @e2 (And.intro @q5 (And.intro @d1' (And.intro @d3' @d2'))))))))))))))))) ?_
      show retQ _ _ _ _ _
      exact ⟨.inr rfl, _, _, rfl, rfl⟩
    have d2' := eq_true d2
    rw [show fieldsE y = true by simp [fieldsE, callsE, e1, e2, q5, d1, d3, d2]]
    refine wkc (And.intro @aG.eq_1 (And.intro @Y.cells_eq (And.intro @dL.eq_1 (And.intro @dB.eq_1 (And.intro @int_beq (And.intro @len0 (And.intro @lt0 (And.intro @lt0n (And.intro @encS_len (And.intro @encX_len (And.intro @encB_len (And.intro @hzr (And.intro @e1 (And.intro @e2 (And.intro @q5 (And.intro @d1' (And.intro @d3' @d2'))))))))))))))))) ?_
    show retQ _ _ _ _ _
    exact ⟨.inr rfl, _, _, rfl, rfl⟩
  rw [show fieldsE y = false by simp [fieldsE, callsE, e1, e2, q1, q2, q3, q4, q5]]
  refine wkc (And.intro @aG.eq_1 (And.intro @Y.cells_eq (And.intro @dL.eq_1 (And.intro @dB.eq_1 (And.intro @int_beq (And.intro @len0 (And.intro @lt0 (And.intro @lt0n (And.intro @encS_len (And.intro @encX_len (And.intro @encB_len (And.intro @hzr (And.intro @e1 (And.intro @e2 (And.intro @q1 (And.intro @q2 (And.intro @q3 (And.intro @q4 @q5)))))))))))))))))) ?_
  show retQ _ _ _ _ _
  exact ⟨.inr rfl, _, _, rfl, rfl⟩
theorem fields114 (y : Y) : den Tryz.prog Ob.cfg 114 [aG y.cells] = some (dB (fieldsE y)) := by
  by_cases e1 : y.outs = []
  · by_cases e2 : y.args = []
    · exact fields_2 y e1 e2
    · exact fields_1 y e1 e2
  · exact fields_0 y e1
set_option maxHeartbeats 1000000 in
theorem expr115 (w : Pl) (hw : WOK w) (x : X) (hx : x.sz ≤ MX) (hok : x.ok) : den Tryz.prog Ob.cfg 115 [aG w.cells, aG x.cells] = some (.tuple [dI (exprW w x).1, dI (exprW w x).2]) := by
  have hf := form143 _ x (Nat.lt_succ_self _) hx
  refine den_wp Tryz.func115 rfl (by kernel_rfl) rfl rfl ?_
  unfold exprW
  cases hz : formE x with
  | true =>
    have hk := kind144 w hw _ x (Nat.lt_succ_self _) hz hok
    rw [hz] at hf
    simp only [aG, Pl.cells, X.cells_eq, List.map_cons, List.map_nil, dB, dI] at hf hk
    refine wkc (And.intro @aG.eq_1 (And.intro @Pl.cells.eq_1 (And.intro @X.cells_eq (And.intro @hf @hk)))) ?_
    exact ⟨.inr rfl, _, _, rfl, rfl⟩
  | false =>
    rw [hz] at hf
    simp only [aG, Pl.cells, X.cells_eq, List.map_cons, List.map_nil, dB, dI] at hf
    refine wkc (And.intro @aG.eq_1 (And.intro @Pl.cells.eq_1 (And.intro @X.cells_eq @hf))) ?_
    exact ⟨.inr rfl, _, _, rfl, rfl⟩
set_option maxHeartbeats 1000000 in
theorem target116 (w : Pl) (hw : WOK w) (nm : Tx) (t : Int) : den Tryz.prog Ob.cfg 116 [aG w.cells, dS nm, dI t] = some (dI (targetW w nm t)) := by
  have h1 := set145 w nm hw.out hw.loc
  have h2 := some33 nm false _ w.bf w.cx (Nat.lt_succ_self _) hw.bf
  simp only [aG, Pl.cells, List.map_cons, List.map_nil, dL, dS, dI, dB] at h1 h2
  refine den_wp Tryz.func116 rfl (by kernel_rfl) rfl rfl ?_
  unfold targetW
  by_cases c1 : setT w.c nm = 0
  · rw [if_pos c1]
    rw [c1] at h1
    refine wkc (And.intro @aG.eq_1 (And.intro @Pl.cells.eq_1 (And.intro @dS.eq_1 (And.intro @dI.eq_1 @h1)))) ?_
    show retQ _ _ _ _ _
    exact ⟨.inr rfl, _, _, rfl, rfl⟩
  rw [if_neg c1]
  have c1' := eq_false c1
  cases c2 : asL nm false w.cx w.bf with
  | true =>
    rw [c2] at h2
    refine wkc (And.intro @aG.eq_1 (And.intro @Pl.cells.eq_1 (And.intro @dS.eq_1 (And.intro @dI.eq_1 (And.intro @h1 (And.intro @h2 (And.intro @c1' @int_beq))))))) ?_
    show retQ _ _ _ _ _
    exact ⟨.inr rfl, _, _, rfl, rfl⟩
  | false =>
    rw [c2] at h2
    by_cases c3 : setT w.c nm = t
    · rw [show (if (false : Bool) = true then (7 : Int) else if setT w.c nm ≠ t then 10 else 0) = 0 by simp [c3]]
      have c3' := eq_true c3
      refine wkc (And.intro @aG.eq_1 (And.intro @Pl.cells.eq_1 (And.intro @dS.eq_1 (And.intro @dI.eq_1 (And.intro @h1 (And.intro @h2 (And.intro @c1' (And.intro @int_beq (And.intro @int_bne @c3'))))))))) ?_
      show retQ _ _ _ _ _
      exact ⟨.inr rfl, _, _, rfl, rfl⟩
    · rw [show (if (false : Bool) = true then (7 : Int) else if setT w.c nm ≠ t then 10 else 0) = 10 by simp [c3]]
      have c3' := eq_false c3
      refine wkc (And.intro @aG.eq_1 (And.intro @Pl.cells.eq_1 (And.intro @dS.eq_1 (And.intro @dI.eq_1 (And.intro @h1 (And.intro @h2 (And.intro @c1' (And.intro @int_beq (And.intro @int_bne @c3'))))))))) ?_
      show retQ _ _ _ _ _
      exact ⟨.inr rfl, _, _, rfl, rfl⟩
end Go.Ac
end

section
set_option maxRecDepth 4000
set_option linter.unusedSimpArgs false
set_option linter.unusedVariables false
namespace Go.Ac
open Go.Proofs
theorem drop_at {α : Type} {l : List α} {j : Nat} {x : α} (h : l[j]? = some x) : l.drop j = x :: l.drop (j + 1) := by
  obtain ⟨hj, rfl⟩ := List.getElem?_eq_some_iff.1 h
  exact List.drop_eq_getElem_cons hj
theorem encS_take (l : List Tx) (j : Nat) : (encS l).take j = encS (l.take j) := by unfold encS; rw [List.map_take]
theorem slice_rows (look : Look) (e b : Nat) (z : Option (List V)) {sz : Nat} {rows : List (List D)} (hr : ∀ r ∈ rows, r.length = sz) {j : Nat} (h : j ≤ rows.length) :
    sliceV look ⟨.slice e sz b, 1, 24, z⟩ (.d (.slice rows)) none (some (.d (.int .i64 j))) none = ret (.d (.slice (rows.take j))) := by
  have ha : rows.all (fun r => Nat.beq r.length sz) = true := by rw [List.all_eq_true]; intro r hm; rw [hr r hm]; exact nbeq_self sz
  have e1 : bnd none 0 = some 0 := rfl
  have e2 : bnd (some (V.d (.int .i64 (j : Int)))) rows.length = some j := by
    unfold bnd; simp
  unfold sliceV
  simp only [e1, e2, ha]
  rw [if_pos ⟨by omega, h, trivial⟩, List.drop_zero]
theorem encS_row (l : List Tx) : ∀ r ∈ encS l, r.length = 1 := by unfold encS; intro r hr; obtain ⟨x, _, rfl⟩ := List.mem_map.1 hr; rfl
def argE (w : Pl) (x : X) (d : Dc) : Int := if (exprW w x).2 ≠ 0 then (exprW w x).2 else if (exprW w x).1 ≠ d.t then 10 else 0
def argsW (w : Pl) : List X → List Dc → Int
  | x :: r, d :: s => if argE w x d ≠ 0 then argE w x d else argsW w r s
  | _, _ => 0
def outE (w : Pl) (pre : List Tx) (x : Tx) (d : Dc) : Int := if setT w.c x = 0 then 6 else if x ∈ pre then 7 else targetW w x d.t
def outsW (w : Pl) : List Tx → List Tx → List Dc → Int
  | pre, x :: r, d :: s => if outE w pre x d ≠ 0 then outE w pre x d else outsW w (pre ++ [x]) r s
  | _, _, _ => 0
def callW (w : Pl) (y : Y) : Int :=
  if (findI w.c.ins w.o.cl y.nm).2 = false then 6
  else if y.args.length ≠ (findI w.c.ins w.o.cl y.nm).1.inn.length ∨ y.outs.length ≠ (findI w.c.ins w.o.cl y.nm).1.out.length then 9
  else if argsW w y.args (findI w.c.ins w.o.cl y.nm).1.inn ≠ 0 then argsW w y.args (findI w.c.ins w.o.cl y.nm).1.inn
  else outsW w [] y.outs (findI w.c.ins w.o.cl y.nm).1.out
theorem argsW_nil (w : Pl) (l : List Dc) : argsW w [] l = 0 := by cases l <;> rw [argsW] <;> simp
theorem outsW_nil (w : Pl) (p : List Tx) (l : List Dc) : outsW w p [] l = 0 := by cases l <;> rw [outsW] <;> simp
theorem kf119 (r : Nat) : Ob.keep 119 r = Ob.k119 r := by kernel_rfl
attribute [local simp] kf119 Ob.k119
set_option maxHeartbeats 4000000 in
theorem call119 (w : Pl) (hw : WOK w) (y : Y) (hy0 : y.sz ≤ MX) (hok : okX y.args) : den Tryz.prog Ob.cfg 119 [aG w.cells, aG y.cells] = some (dI (callW w y)) := by
  have hc := callee120 w y.nm hw.ins hw.cl
  unfold MX at hy0
  rw [Y.sz_eq] at hy0
  have k1 := len_szX y.args
  have k2 := len_szS y.outs
  have hs5 := fun nm => set145 w nm hw.out hw.loc
  have ht6 := fun nm t => target116 w hw nm t
  unfold callW
  generalize hG : findI w.c.ins w.o.cl y.nm = G at hc ⊢
  obtain ⟨g, ok⟩ := G
  simp only [aG, Pl.cells, List.map_cons, List.map_nil, dL, dS, dI, dB] at hc hs5 ht6
  refine den_wp Tryz.func119 rfl (by kernel_rfl) rfl rfl ?_
  cases ok with
  | false =>
    refine wkc (And.intro @aG.eq_1 (And.intro @Pl.cells.eq_1 (And.intro @Y.cells_eq (And.intro @dL.eq_1 (And.intro @dS.eq_1 (And.intro @dI.eq_1 (And.intro @hc @Cl.cells.eq_1))))))) ?_
    show retQ _ _ _ _ _
    exact ⟨.inr rfl, _, _, rfl, rfl⟩
  | true =>
  rw [if_neg (by simp)]
  simp only [Cl.cells, List.map_cons, List.map_nil] at hc
  by_cases c1 : y.args.length = g.inn.length
  case neg =>
    have c1' : ((y.args.length : Int) = g.inn.length) = False := eq_false (by omega)
    have c1'' := eq_false c1
    rw [if_pos (.inl c1)]
    refine wkc (And.intro @aG.eq_1 (And.intro @Pl.cells.eq_1 (And.intro @Y.cells_eq (And.intro @dL.eq_1 (And.intro @dS.eq_1 (And.intro @dI.eq_1 (And.intro @hc (And.intro @int_bne (And.intro @encX_len (And.intro @encD_len (And.intro @c1' @c1''))))))))))) ?_
    show retQ _ _ _ _ _
    exact ⟨.inr rfl, _, _, rfl, rfl⟩
  have c1' : ((y.args.length : Int) = g.inn.length) = True := eq_true (by omega)
  by_cases c2 : y.outs.length = g.out.length
  case neg =>
    have c2' : ((y.outs.length : Int) = g.out.length) = False := eq_false (by omega)
    have c2'' := eq_false c2
    rw [if_pos (.inr c2)]
    refine wkc (And.intro @aG.eq_1 (And.intro @Pl.cells.eq_1 (And.intro @Y.cells_eq (And.intro @dL.eq_1 (And.intro @dS.eq_1 (And.intro @dI.eq_1 (And.intro @hc (And.intro @int_bne (And.intro @encX_len (And.intro @encS_len (And.intro @encD_len (And.intro @c1 (And.intro @c2' @c2''))))))))))))) ?_
    show retQ _ _ _ _ _
    exact ⟨.inr rfl, _, _, rfl, rfl⟩
  rw [if_neg (fun h => h.elim (fun h => h c1) (fun h => h c2))]
  refine wkc (And.intro @aG.eq_1 (And.intro @Pl.cells.eq_1 (And.intro @Y.cells_eq (And.intro @dL.eq_1 (And.intro @dS.eq_1 (And.intro @dI.eq_1 (And.intro @hc (And.intro @int_bne (And.intro @encX_len (And.intro @encS_len (And.intro @encD_len (And.intro @c1 @c2)))))))))))) ?_
  apply WP.loop' (I := fun D s => ∃ j : Nat, j + D = y.args.length ∧ argsW w (y.args.drop j) (g.inn.drop j) = argsW w y.args g.inn ∧ SE [(2, .ptr 0 0 0), (3, .ptr 1 1 0), (5, .ptr 2 2 0), (7, dI j)] [(0, ⟨0, false, w.cells.map .d⟩), (1, ⟨1, false, y.cells.map .d⟩), (2, ⟨2, false, g.cells.map .d⟩)] 3 s) (d := y.args.length)
  · exact ⟨0, by simp, by simp, SE.mk (by simp [dI]) (by simp [Pl.cells, Y.cells_eq, Cl.cells])⟩
  rintro D _ ⟨j, hj, hv, cc, rfl⟩
  refine wk (And.intro @dI.eq_1 (And.intro @dL.eq_1 (And.intro @Pl.cells.eq_1 (And.intro @Y.cells_eq (And.intro @Cl.cells.eq_1 @encX_len))))) ?_
  show WP _ _ _ _ _ _
  refine WP.cond _ rfl (fun hb => ?_) (fun hb => ?_)
  · simp at hb
    have hb' : j < y.args.length := by omega
    have hb2 : j < g.inn.length := by omega
    obtain ⟨x, hx, hxm, hix⟩ := at_lt hb'
    obtain ⟨d, hd, hdm, hid⟩ := at_lt hb2
    have hx' := encX_at hx
    have hd' := encD_at hd
    have hwj := w_succ hb' (by omega)
    have hxok := (okX_iff _).1 hok x hxm
    have hr := expr115 w hw x (by have := mem_szX hxm; unfold MX; omega) hxok
    simp only [aG, Pl.cells, X.cells_eq, List.map_cons, List.map_nil, dI] at hr
    rw [drop_at hx, drop_at hd, argsW] at hv
    by_cases hz : (exprW w x).2 = 0
    case neg =>
      have hz' := eq_false hz
      have ha : argE w x d = (exprW w x).2 := by unfold argE; rw [if_pos hz]
      rw [ha, if_pos hz] at hv
      rw [← hv, if_pos hz]
      refine wkc (And.intro @dI.eq_1 (And.intro @dL.eq_1 (And.intro @Pl.cells.eq_1 (And.intro @Y.cells_eq (And.intro @Cl.cells.eq_1 (And.intro @encX_len (And.intro @hix (And.intro @hx' (And.intro @X.cells_eq (And.intro @hr (And.intro @int_bne @hz'))))))))))) ?_
      show retQ _ _ _ _ _
      exact ⟨.inr rfl, _, _, rfl, rfl⟩
    rw [hz] at hr
    by_cases ht : (exprW w x).1 = d.t
    case neg =>
      have ht' := eq_false ht
      have ha : argE w x d = 10 := by unfold argE; rw [if_neg (by simp [hz]), if_pos ht]
      rw [ha, if_pos (by decide)] at hv
      rw [← hv, if_pos (by decide)]
      refine wkc (And.intro @dI.eq_1 (And.intro @dL.eq_1 (And.intro @Pl.cells.eq_1 (And.intro @Y.cells_eq (And.intro @Cl.cells.eq_1 (And.intro @encX_len (And.intro @encD_len (And.intro @hix (And.intro @hid (And.intro @hx' (And.intro @hd' (And.intro @X.cells_eq (And.intro @Dc.cells.eq_1 (And.intro @hr (And.intro @int_bne @ht'))))))))))))))) ?_
      show retQ _ _ _ _ _
      exact ⟨.inr rfl, _, _, rfl, rfl⟩
    have ha : argE w x d = 0 := by unfold argE; rw [if_neg (by simp [hz]), if_neg (by simp [ht])]
    rw [ha, if_neg (by decide)] at hv
    have ht' := eq_true ht
    refine wkc (And.intro @dI.eq_1 (And.intro @dL.eq_1 (And.intro @Pl.cells.eq_1 (And.intro @Y.cells_eq (And.intro @Cl.cells.eq_1 (And.intro @encX_len (And.intro @encD_len (And.intro @hix (And.intro @hid (And.intro @hx' (And.intro @hd' (And.intro @X.cells_eq (And.intro @Dc.cells.eq_1 (And.intro @hr (And.intro @int_bne @ht'))))))))))))))) ?_
    refine loop_next (by simp [hwj]; exact Is.rfl) ?_
    exact ⟨D - 1, by omega, j + 1, by omega, hv, SE.mk (by simp [dI, hwj]) (by simp [Pl.cells, Y.cells_eq, Cl.cells])⟩
  · simp at hb
    have hje : j = y.args.length := by omega
    rw [hje, List.drop_length, argsW_nil] at hv
    rw [← hv, if_neg (by decide)]
    refine wkc (And.intro @dI.eq_1 (And.intro @dL.eq_1 (And.intro @Pl.cells.eq_1 (And.intro @Y.cells_eq @Cl.cells.eq_1)))) ?_
    apply WP.loop' (I := fun D s => ∃ j : Nat, j + D = y.outs.length ∧ outsW w (y.outs.take j) (y.outs.drop j) (g.out.drop j) = outsW w [] y.outs g.out ∧ SE [(2, .ptr 0 0 0), (3, .ptr 1 1 0), (5, .ptr 2 2 0), (10, dI j)] [(0, ⟨0, false, w.cells.map .d⟩), (1, ⟨1, false, y.cells.map .d⟩), (2, ⟨2, false, g.cells.map .d⟩)] 3 s) (d := y.outs.length)
    · exact ⟨0, by simp, by simp, SE.mk (by simp [dI]) (by simp [Pl.cells, Y.cells_eq, Cl.cells])⟩
    clear hv hj hje hb
    rintro D2 _ ⟨j, hj, hv, cc2, rfl⟩
    refine wk (And.intro @dI.eq_1 (And.intro @dL.eq_1 (And.intro @Pl.cells.eq_1 (And.intro @Y.cells_eq (And.intro @Cl.cells.eq_1 @encS_len))))) ?_
    show WP _ _ _ _ _ _
    refine WP.cond _ rfl (fun hb => ?_) (fun hb => ?_)
    · simp at hb
      have hb' : j < y.outs.length := by omega
      have hb2 : j < g.out.length := by omega
      obtain ⟨x, hx, hxm, hix⟩ := at_lt hb'
      obtain ⟨d, hd, hdm, hid⟩ := at_lt hb2
      have hx' := encS_at hx
      have hd' := encD_at hd
      have hwj := w_succ hb' (by omega)
      have h5 := hs5 x
      have h6 := ht6 x d.t
      have h75 := has75 (y.outs.take j) x (by unfold MX; rw [List.length_take]; omega)
      simp only [dL, dS, dB] at h75
      rw [drop_at hx, drop_at hd, outsW] at hv
      have htk := take_snoc hx
      have hsl := fun look e b z => slice_rows look e b z (encS_row y.outs) (j := j) (by rw [encS_len]; omega)
      have etk := encS_take y.outs j
      by_cases c5 : setT w.c x = 0
      · have ha : outE w (y.outs.take j) x d = 6 := by unfold outE; rw [if_pos c5]
        rw [ha, if_pos (by decide)] at hv
        rw [← hv]
        rw [c5] at h5
        refine wkc (And.intro @dI.eq_1 (And.intro @dL.eq_1 (And.intro @Pl.cells.eq_1 (And.intro @Y.cells_eq (And.intro @Cl.cells.eq_1 (And.intro @encS_len (And.intro @hix (And.intro @hx' @h5)))))))) ?_
        show retQ _ _ _ _ _
        exact ⟨.inr rfl, _, _, rfl, rfl⟩
      have c5' := eq_false c5
      by_cases c7 : x ∈ y.outs.take j
      · have ha : outE w (y.outs.take j) x d = 7 := by unfold outE; rw [if_neg c5, if_pos c7]
        rw [ha, if_pos (by decide)] at hv
        rw [← hv]
        rw [dTrue c7] at h75
        refine wkc (And.intro @dI.eq_1 (And.intro @dL.eq_1 (And.intro @Pl.cells.eq_1 (And.intro @Y.cells_eq (And.intro @Cl.cells.eq_1 (And.intro @encS_len (And.intro @hix (And.intro @hx' (And.intro @h5 (And.intro @c5' (And.intro @int_beq (And.intro @hsl (And.intro @etk @h75))))))))))))) ?_
        show retQ _ _ _ _ _
        exact ⟨.inr rfl, _, _, rfl, rfl⟩
      rw [dFalse c7] at h75
      have ha : outE w (y.outs.take j) x d = targetW w x d.t := by unfold outE; rw [if_neg c5, if_neg c7]
      rw [ha, ← htk] at hv
      by_cases c6 : targetW w x d.t = 0
      case neg =>
        have c6' := eq_false c6
        rw [if_pos c6] at hv
        rw [← hv]
        refine wkc (And.intro @dI.eq_1 (And.intro @dL.eq_1 (And.intro @Pl.cells.eq_1 (And.intro @Y.cells_eq (And.intro @Cl.cells.eq_1 (And.intro @Dc.cells.eq_1 (And.intro @encS_len (And.intro @encD_len (And.intro @hix (And.intro @hx' (And.intro @hid (And.intro @hd' (And.intro @h5 (And.intro @h6 (And.intro @c5' (And.intro @c6' (And.intro @int_beq (And.intro @int_bne (And.intro @hsl (And.intro @etk @h75)))))))))))))))))))) ?_
        show retQ _ _ _ _ _
        exact ⟨.inr rfl, _, _, rfl, rfl⟩
      rw [if_neg (by simp [c6])] at hv
      rw [c6] at h6
      refine wkc (And.intro @dI.eq_1 (And.intro @dL.eq_1 (And.intro @Pl.cells.eq_1 (And.intro @Y.cells_eq (And.intro @Cl.cells.eq_1 (And.intro @Dc.cells.eq_1 (And.intro @encS_len (And.intro @encD_len (And.intro @hix (And.intro @hx' (And.intro @hid (And.intro @hd' (And.intro @h5 (And.intro @h6 (And.intro @c5' (And.intro @int_beq (And.intro @int_bne (And.intro @hsl (And.intro @etk @h75))))))))))))))))))) ?_
      refine loop_next (by simp [hwj]; exact Is.rfl) ?_
      exact ⟨D2 - 1, by omega, j + 1, by omega, hv, SE.mk (by simp [dI, hwj]) (by simp [Pl.cells, Y.cells_eq, Cl.cells])⟩
    · simp at hb
      have hje : j = y.outs.length := by omega
      rw [hje, List.drop_length, outsW_nil] at hv
      rw [← hv]
      refine wkc (And.intro @dI.eq_1 (And.intro @dL.eq_1 (And.intro @Pl.cells.eq_1 (And.intro @Y.cells_eq @Cl.cells.eq_1)))) ?_
      show retQ _ _ _ _ _
      exact ⟨.inr rfl, _, _, rfl, rfl⟩
end Go.Ac
end
