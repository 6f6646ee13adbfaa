/- The law's example; ObSames by data. -/
import Derived.Test.YtkgekafdhehleaaGreatAcA
import Derived.Test.YtkgekafdhehleaaGreatAcB
import Derived.Test.YtkgekafdhehleaaGreatAcDM
import Derived.Test.YtkgekafdhehleaaGreatAcJM
import Derived.Test.YtkgekafdhehleaaGreatAcThM
import Derived.Test.YtkgekafdhehleaaGreatAcTx
import Derived.Test.YtkgekafdhehleaaGreatObHn
import Derived.Test.YtkgekafdhehleaaGreatObRM
import Derived.Test.YtkgekafdhehleaaGreatObCM
import Derived.Test.YtkgekafdhehleaaGreatObD
import Derived.Test.YtkgekafdhehleaaGreatObE
import Derived.Test.YtkgekafdhehleaaGreatObGM
import Derived.Calls
import Derived.Orders
import Derived.Laws.World
import Derived.Laws.Sem
import Derived.Laws.Cells
import Derived.Laws.Append
import GoSem.ClaimData
import Derived.Laws.Tables
import Derived.Laws.Slices
import Derived.Laws.Strings
import Derived.Laws.Small
import Derived.KernelRfl
import Derived.Test.YtkgekafdhehleaaGreatChecked
set_option linter.unusedVariables false
set_option linter.unusedSimpArgs false
set_option maxRecDepth 4000
set_option linter.unusedSimpArgs false
set_option linter.unusedVariables false
namespace Go.Ac
open Go.Proofs

theorem awake_den : den Tryz.prog Ob.cfg 10 [] = some (dB true) := den_t 600 (by kernel_rfl)
theorem kf5 (r : Nat) : Ob.keep 5 r = Ob.k5 r := by kernel_rfl
attribute [local simp] kf5 Ob.k5
set_option maxHeartbeats 4000000 in
theorem sames_den (x y : Oc) (ha : x.sz ≤ MX) (hb : y.sz ≤ MX) : den Tryz.prog Ob.cfg 5 [aG x.cells, aG y.cells] = some (dB true) := by
  have haw := awake_den
  obtain ⟨b1, h1⟩ := heavy_den x ha
  obtain ⟨b2, h2⟩ := heavy_den y hb
  have s1 := same16 x y ha hb
  have s2 := rsame17 x y ha hb
  have s3 := same16 x x ha ha
  have s4 := same16 y x hb ha
  rw [eqB_self] at s3
  rw [eqB_comm] at s4
  simp only [aG, Oc.cells, List.map_cons, List.map_nil, dB] at haw h1 h2 s1 s2 s3 s4
  refine den_wp Tryz.func5 rfl (by kernel_rfl) rfl rfl ?_
  cases b1 with
  | true =>
    refine wkc (And.intro @aG.eq_1 (And.intro @Oc.cells.eq_1 (And.intro @h1 @haw))) ?_
    show retQ _ _ _ _ _
    exact ⟨.inr rfl, _, _, rfl, rfl⟩
  | false =>
  cases b2 with
  | true =>
    refine wkc (And.intro @aG.eq_1 (And.intro @Oc.cells.eq_1 (And.intro @h1 (And.intro @h2 @haw)))) ?_
    show retQ _ _ _ _ _
    exact ⟨.inr rfl, _, _, rfl, rfl⟩
  | false =>
  cases he : eqB x y with
  | true =>
    rw [he] at s1 s2 s4
    refine wkc (And.intro @aG.eq_1 (And.intro @Oc.cells.eq_1 (And.intro @h1 (And.intro @h2 (And.intro @haw (And.intro @s1 (And.intro @s2 (And.intro @s3 @s4)))))))) ?_
    show retQ _ _ _ _ _
    exact ⟨.inr rfl, _, _, rfl, rfl⟩
  | false =>
    rw [he] at s1 s2 s4
    refine wkc (And.intro @aG.eq_1 (And.intro @Oc.cells.eq_1 (And.intro @h1 (And.intro @h2 (And.intro @haw (And.intro @s1 (And.intro @s2 (And.intro @s3 @s4)))))))) ?_
    show retQ _ _ _ _ _
    exact ⟨.inr rfl, _, _, rfl, rfl⟩
end Go.Ac
