/- A closed run: entries of the table. No conditions. -/
import Derived.Test.YtkimfnammkljoaaGreatDoorHeHM
set_option linter.unusedVariables false
set_option linter.unusedSimpArgs false
section
namespace Go.Ac.Gw
open Go Go.Ac Go.Proofs
def H3a : Hp := [
 (0, ⟨0, true, [(.d (s [98])),(.d (i 1)),(.full [])]⟩),
 (1, ⟨1, true, [(.d (s [98]))]⟩),
 (2, ⟨2, true, [(.d (i 4)),(.osl 1 1 0 1 1 (some 1)),(.d (i 0)),(.d (i 0)),(.d (i 0)),(.d (i 0)),(.d s0),(.full []),(.d (i 0)),(.d (.sym 0)),(.full []),(.d s0),(.full [])]⟩),
 (3, ⟨3, false, [(.d (s [102])),(.full []),(.osl 0 0 0 1 3 (some 1)),(.full []),(.osl 2 2 0 1 13 (some 1))]⟩),
 (4, ⟨4, true, [(.d (s [102])),(.full []),(.osl 0 0 0 1 3 (some 1)),(.full []),(.osl 2 2 0 1 13 (some 1))]⟩),
 (5, ⟨5, false, [(.full []),(.osl 4 4 0 1 5 (some 1))]⟩),
 (6, ⟨6, false, [(.d (s [102])),(.d l0),(.d (.slice [[(s [98]),(i 1),l0]])),(.d l0),(.d (.slice [[(s [109,95,49]),(i 2),(i 0)]])),(.d l0),(.d (.slice [[(i 1),(s [98]),(i 0),(.sym 10),(i 0),(.sym 11),(.sym 12),s0,(.sym 13),l0,l0,l0],[(i 2),(s [109,95,49]),(i 0),(i 4),(i 0),(i 0),(i 0),s0,(.slice [[(i 3),(i 11),(i 0),(i 0),s0,(.slice [[(i 12),(i 0),(i 0),(i 0),(s [109,95,49]),l0],[(i 1),(i 0),(i 2),(.sym 14),s0,l0]])],[(i 1),(i 0),(i 2),(.sym 15),s0,l0],[(i 3),(i 6),(i 0),(i 0),s0,(.slice [[(i 12),(i 0),(i 0),(i 0),(s [109,95,49]),l0],[(i 1),(i 0),(i 2),(i 1),s0,l0]])]]),l0,l0,l0]]))]⟩),
 (7, ⟨7, false, [(.d l0),(.d (.slice [[(s [102]),l0,(.slice [[(s [98]),(i 1),l0]]),l0,(.slice [[(s [109,95,49]),(i 2),(i 0)]]),l0,(.slice [[(i 1),(s [98]),(i 0),(.sym 10),(i 0),(.sym 11),(.sym 12),s0,(.sym 13),l0,l0,l0],[(i 2),(s [109,95,49]),(i 0),(i 4),(i 0),(i 0),(i 0),s0,(.slice [[(i 3),(i 11),(i 0),(i 0),s0,(.slice [[(i 12),(i 0),(i 0),(i 0),(s [109,95,49]),l0],[(i 1),(i 0),(i 2),(.sym 14),s0,l0]])],[(i 1),(i 0),(i 2),(.sym 15),s0,l0],[(i 3),(i 6),(i 0),(i 0),s0,(.slice [[(i 12),(i 0),(i 0),(i 0),(s [109,95,49]),l0],[(i 1),(i 0),(i 2),(i 1),s0,l0]])]]),l0,l0,l0]])]]))]⟩)]
end Go.Ac.Gw
end

section
namespace Go.Ac.Gw
open Go Go.Ac Go.Proofs
variable [GwR]
theorem e12 : E12.ok Tryz.prog cfg2 := ent_ok [] trivial 1000000 (by kernel_rfl)
end Go.Ac.Gw
end
