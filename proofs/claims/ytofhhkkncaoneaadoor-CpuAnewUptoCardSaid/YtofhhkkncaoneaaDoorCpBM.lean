/- Images as data; the simp set of the walks. -/
import Derived.Test.YtofhhkkncaoneaaDoorAcBM
import Derived.Test.YtofhhkkncaoneaaDoorAcDM
import Derived.Test.YtofhhkkncaoneaaDoorAcGM
import Derived.Test.YtofhhkkncaoneaaDoorAcJM
import Derived.Test.YtofhhkkncaoneaaDoorAcMM
import Derived.Test.YtofhhkkncaoneaaDoorAcOM
import Derived.Test.YtofhhkkncaoneaaDoorAcSM
import Derived.Test.YtofhhkkncaoneaaDoorAcXM
import Derived.Test.YtofhhkkncaoneaaDoorAcUcM
import Derived.Calls
import Derived.Orders
import Derived.Laws.World
import Derived.Laws.Sem
import Derived.Laws.Cells
import Derived.Laws.Append
import GoSem.ClaimData
import Derived.Test.YtofhhkkncaoneaaDoorChecked
import Derived.KernelRfl
import Derived.Laws.Tables
import Derived.Laws.Slices
import Derived.Laws.Strings
import Derived.Laws.Small
set_option linter.unusedVariables false
set_option linter.unusedSimpArgs false
section
set_option linter.unusedVariables false
namespace Go.Ac
/-- The table of operations. -/
def opsTab : List D := [.str [], .int .i64 0, .int .i64 0, .int .i64 0, .int .i64 0, .int .i64 0, .str [108, 111, 97, 100], .int .i64 1, .int .i64 3, .int .i64 0, .int .i64 0, .int .i64 0, .str [109, 111, 118, 101], .int .i64 1, .int .i64 1, .int .i64 0, .int .i64 0, .int .i64 0, .str [114, 101, 97, 100], .int .i64 1, .int .i64 2, .int .i64 0, .int .i64 0, .int .i64 0, .str [119, 114, 105, 116, 101], .int .i64 2, .int .i64 1, .int .i64 0, .int .i64 0, .int .i64 0, .str [117, 110, 97, 114, 121], .int .i64 1, .int .i64 1, .int .i64 5, .int .i64 0, .int .i64 1, .str [97, 112, 112, 108, 121], .int .i64 1, .int .i64 1, .int .i64 1, .int .i64 5, .int .i64 2, .str [106, 117, 109, 112], .int .i64 0, .int .i64 4, .int .i64 0, .int .i64 0, .int .i64 0, .str [122, 101, 114, 111], .int .i64 1, .int .i64 4, .int .i64 0, .int .i64 0, .int .i64 0, .str [99, 97, 108, 108], .int .i64 6, .int .i64 7, .int .i64 8, .int .i64 9, .int .i64 0, .str [114, 101, 115, 101, 116], .int .i64 6, .int .i64 7, .int .i64 0, .int .i64 0, .int .i64 0]
instance : Gl := ⟨fun g => match g with | 0 => .vref opsTab | _ => .any, fun g => by cases g <;> simp⟩
def Cp.keep (f r : Nat) : Option (List Nat) := match f with
  | 3 => match r with
    | 0 => some [1, 2]
    | 1 => some [1, 2, 19]
    | 2 => some [4]
    | 3 => some [1, 2, 5, 6]
    | 4 => some [1, 5, 6, 7, 8]
    | 5 => some [1, 5, 7, 40]
    | 6 => some [4]
    | 7 => some [1, 5, 7, 9]
    | 8 => some [1, 5, 7, 9, 44]
    | 9 => some [1, 5, 7, 9]
    | 10 => some [1, 5, 7, 9, 10, 11]
    | 11 => some [1, 5, 7, 9, 10, 11, 12, 13]
    | 12 => some [1, 5, 7, 9, 88]
    | 13 => some [4]
    | 14 => some [5, 90]
    | 15 => some [5, 15]
    | 16 => some [5, 15]
    | 17 => some [4]
    | 18 => some [4]
    | _ => none
  | 4 => match r with
    | 0 => some [1, 2, 3]
    | 1 => some [1, 2, 3, 22]
    | 2 => some [6]
    | 3 => some [1, 2, 3, 7, 8]
    | 4 => some [1, 2, 7, 8, 9, 10]
    | 5 => some [1, 2, 7, 8, 9, 10, 43]
    | 6 => some [6]
    | 7 => some [1, 2, 7, 9, 11]
    | 8 => some [1, 2, 7, 9, 11, 61]
    | 9 => some [1, 2, 7, 9, 11]
    | 10 => some [1, 2, 7, 9, 11]
    | 11 => some [1, 2, 7, 9, 11]
    | 12 => some [2, 7, 9, 12]
    | 13 => some [2, 7, 9, 12, 13]
    | 14 => some [6]
    | _ => none
  | 5 => match r with
    | 0 => some [1, 2, 3]
    | 1 => some [1, 2, 3, 24]
    | 2 => some [6]
    | 3 => some [1, 2, 3, 7, 8]
    | 4 => some [1, 2, 7, 8, 9, 10]
    | 5 => some [1, 2, 7, 8, 9, 10, 49]
    | 6 => some [6]
    | 7 => some [1, 2, 7, 9, 11]
    | 8 => some [1, 2, 7, 9, 11, 12]
    | 9 => some [1, 2, 7, 9, 11, 12, 73]
    | 10 => some [1, 2, 7, 9, 11, 12]
    | 11 => some [1, 2, 7, 9, 11, 12]
    | 12 => some [2, 7, 9, 11, 86]
    | 13 => some [6]
    | 14 => some [2, 7, 9, 11, 13]
    | 15 => some [2, 7, 9, 11, 13, 90]
    | 16 => some [2, 7, 9, 11, 13]
    | 17 => some [2, 7, 9, 11, 13, 14, 15]
    | 18 => some [2, 7, 9, 11, 13, 14, 15, 16, 17]
    | 19 => some [2, 7, 9, 11, 13, 127]
    | 20 => some [6]
    | 21 => some [7, 11]
    | 22 => some [6]
    | _ => none
  | 6 => match r with
    | 0 => some [1, 2]
    | 1 => some [1, 2, 13]
    | 2 => some [4]
    | 3 => some [1, 2, 5, 6]
    | 4 => some [1, 2, 5, 6, 7, 8]
    | 5 => some [1, 2, 5, 7, 8, 34]
    | 6 => some [4]
    | 7 => some [1, 5, 7, 9]
    | 8 => some [1, 5, 7, 9, 51]
    | 9 => some [1, 5, 7, 9]
    | 10 => some [1, 5, 7, 9]
    | 11 => some [1, 5, 7, 9, 63]
    | 12 => some [4]
    | 13 => some [4]
    | _ => none
  | 7 => match r with
    | 0 => some [1, 2]
    | 1 => some [2, 23]
    | 2 => some [4]
    | 3 => some [2, 5, 6]
    | 4 => some [2, 5, 6, 7]
    | 5 => some [2, 5, 6, 7, 28]
    | 6 => some [2, 5, 6, 7]
    | 7 => some [2, 5, 6, 7, 8]
    | 8 => some [2, 5, 6, 7, 8]
    | 9 => some [2, 5, 6, 7, 8, 64]
    | 10 => some [4]
    | 11 => some [2, 5, 6, 7, 8, 9]
    | 12 => some [2, 5, 6, 7, 8, 9, 69]
    | 13 => some [2, 5, 6, 7, 8, 9]
    | 14 => some [2, 5, 6, 7, 8, 9, 78]
    | 15 => some [2, 5, 6, 7, 8, 9]
    | 16 => some [4]
    | _ => none
  | 8 => match r with
    | 0 => some []
    | 1 => some [1, 2]
    | 2 => some [1, 18]
    | 3 => some [0]
    | 4 => some [1, 3, 4]
    | 5 => some [1, 3, 4, 5, 6]
    | 6 => some [1, 3, 4, 5, 6, 7]
    | 7 => some [0]
    | _ => none
  | 9 => match r with
    | 0 => some [1]
    | 1 => some [1, 4]
    | 2 => some [1, 4, 9]
    | 3 => some [2, 3]
    | 4 => some [5]
    | 5 => some [5]
    | 6 => some [2, 3]
    | _ => none
  | 10 => match r with
    | 0 => some [1]
    | 1 => some [1, 4]
    | 2 => some [1, 4, 9]
    | 3 => some [2, 3]
    | 4 => some [5]
    | 5 => some [5]
    | 6 => some [2, 3]
    | _ => none
  | 11 => match r with
    | 0 => some [0, 1]
    | 1 => some [0, 1, 12]
    | 2 => some [4, 5]
    | 3 => some [0, 1, 6]
    | 4 => some [0, 1, 6, 20]
    | 5 => some [4, 5]
    | 6 => some [0, 1, 6, 21, 22, 23]
    | 7 => some [0, 1, 6, 21, 22, 23, 24]
    | 8 => some [0, 1, 6, 7, 8, 21, 22, 23]
    | 9 => some [0, 1, 6, 21, 22, 23, 36]
    | 10 => some [4, 5]
    | 11 => some [0, 1, 6, 21, 22, 23]
    | 12 => some [0, 1, 6, 9]
    | 13 => some [0, 9, 10]
    | 14 => some [10]
    | 15 => some [4, 5]
    | _ => none
  | 12 => match r with
    | 0 => some [0, 1]
    | 1 => some [0, 1, 11]
    | 2 => some [4, 5]
    | 3 => some [0, 1, 6]
    | 4 => some [0, 1, 6, 19]
    | 5 => some [4, 5]
    | 6 => some [0, 1, 6, 7]
    | 7 => some [0, 1, 6, 7, 23]
    | 8 => some [0, 1, 6, 7]
    | 9 => some [0, 1, 6, 7, 37]
    | 10 => some [4, 5]
    | 11 => some [0, 8, 9]
    | 12 => some [8]
    | 13 => some [4, 5]
    | _ => none
  | 13 => match r with
    | 0 => some [0, 1]
    | 1 => some [0, 1, 10]
    | 2 => some [4]
    | 3 => some [0, 1, 5]
    | 4 => some [0, 1, 5, 14]
    | 5 => some [0, 1, 5]
    | 6 => some [0, 1, 5, 25]
    | 7 => some [4]
    | 8 => some [4]
    | _ => none
  | 14 => match r with
    | 0 => some [0]
    | 1 => some [0, 4]
    | 2 => some [2]
    | 3 => some [2]
    | _ => none
  | 15 => match r with
    | 0 => some [0]
    | 1 => some [0, 4]
    | 2 => some [2]
    | 3 => some [2]
    | _ => none
  | 16 => match r with
    | 0 => some [0]
    | 1 => some [0, 4]
    | 2 => some [2]
    | 3 => some [2]
    | _ => none
  | 17 => match r with
    | 0 => some [0]
    | 1 => some [0, 4]
    | 2 => some [2]
    | 3 => some [2]
    | _ => none
  | 18 => match r with
    | 0 => some [0, 3]
    | 1 => some []
    | _ => none
  | 19 => match r with
    | 0 => some [0, 1]
    | 1 => some [0, 1, 7]
    | 2 => some [4]
    | 3 => some [0, 1, 10]
    | 4 => some [4]
    | 5 => some [0, 1, 19, 20, 21]
    | 6 => some [0, 1, 19, 20, 21, 22]
    | 7 => some [0, 1, 6, 19, 20, 21]
    | 8 => some [0, 1, 19, 20, 21, 27]
    | 9 => some [4]
    | 10 => some [0, 1, 19, 20, 21]
    | 11 => some []
    | 12 => some [4]
    | _ => none
  | 20 => match r with
    | 0 => some [0, 1]
    | 1 => some [0, 1, 7]
    | 2 => some [4]
    | 3 => some [0, 1, 15]
    | 4 => some [4]
    | 5 => some [0, 1, 5]
    | 6 => some [0, 1, 5, 19]
    | 7 => some [0, 1, 5]
    | 8 => some [0, 1, 5, 33]
    | 9 => some [4]
    | 10 => some []
    | 11 => some [4]
    | _ => none
  | 21 => match r with
    | 0 => some [1]
    | 1 => some [1, 4]
    | 2 => some [1, 4, 12]
    | 3 => some [2, 3]
    | 4 => some [1, 5]
    | 5 => some [5, 15, 16, 17]
    | 6 => some [5, 15, 16, 17, 18]
    | 7 => some [5, 7, 15, 16, 17]
    | 8 => some [5, 15, 16, 17]
    | 9 => some [5, 15, 16, 17]
    | 10 => some [8]
    | 11 => some [8, 35]
    | 12 => some [2, 3]
    | 13 => some [2, 3]
    | _ => none
  | 22 => match r with
    | 0 => some [1]
    | 1 => some [1, 14]
    | 2 => some [2]
    | 3 => some [1, 17]
    | 4 => some [2]
    | 5 => some [1, 21]
    | 6 => some [2]
    | 7 => some [1, 24, 25]
    | 8 => some [1, 24, 25, 26]
    | 9 => some [1, 3, 24, 25]
    | 10 => some [1, 4, 24, 25]
    | 11 => some [1, 4, 24, 25, 32]
    | 12 => some [2]
    | 13 => some [1, 24, 25]
    | 14 => some [2]
    | _ => none
  | 23 => match r with
    | 0 => some [0]
    | 1 => some [0, 1]
    | 2 => some [0]
    | _ => none
  | 24 => match r with
    | 0 => some [1, 2]
    | 1 => some [1, 2, 3]
    | 2 => some [2, 3, 11, 12, 13]
    | 3 => some [2, 3, 11, 12, 13, 14]
    | 4 => some [2, 3, 5, 11, 12, 13]
    | 5 => some [2, 3, 11, 12, 13]
    | 6 => some [2, 3, 11, 12, 13]
    | 7 => some [2]
    | _ => none
  | 25 => match r with
    | 0 => some [1]
    | 1 => some [1, 15]
    | 2 => some [2]
    | 3 => some [1, 3]
    | 4 => some [1, 3, 20]
    | 5 => some [1, 3]
    | 6 => some [1, 3, 36]
    | 7 => some [2]
    | 8 => some [1, 40]
    | 9 => some [2]
    | 10 => some [1, 4]
    | 11 => some [1, 4, 45]
    | 12 => some [1, 4]
    | 13 => some [1, 4, 5]
    | 14 => some [1, 4, 5, 52]
    | 15 => some [2]
    | 16 => some [2]
    | _ => none
  | 26 => match r with
    | 0 => some [0, 3]
    | 1 => some [0]
    | 2 => some []
    | _ => none
  | 27 => match r with
    | 0 => some [0, 2]
    | 1 => some [2]
    | _ => none
  | 28 => match r with
    | 0 => some [0, 1, 2]
    | 1 => some [0, 1, 2, 7]
    | 2 => some [0, 1, 2, 7, 8]
    | 3 => some [6]
    | 4 => some [0, 1, 2, 16]
    | 5 => some [6]
    | 6 => some [6]
    | _ => none
  | 29 => match r with
    | 0 => some [0, 2, 3, 4, 6]
    | 1 => some [0, 3, 4, 6, 11]
    | 2 => some [0, 4, 6, 11]
    | 3 => some [0, 4, 6, 11, 12]
    | 4 => some [0, 4, 6, 11, 12, 27]
    | 5 => some [0, 4, 6, 11, 12]
    | 6 => some [0, 4, 6, 11, 12]
    | 7 => some [10]
    | _ => none
  | 30 => match r with
    | 0 => some [0, 2]
    | 1 => some [2]
    | _ => none
  | 31 => match r with
    | 0 => some [0, 1, 2]
    | 1 => some [0, 1, 2, 8]
    | 2 => some [6]
    | 3 => some [0, 1, 2, 16]
    | 4 => some [6]
    | 5 => some [6]
    | _ => none
  | 32 => match r with
    | 0 => some [0, 1, 2, 3]
    | 1 => some [0, 2, 3, 10]
    | 2 => some [0, 2, 3, 10, 11]
    | 3 => some [0, 2, 3, 10, 11, 12]
    | 4 => some [0, 2, 3, 10, 11, 12, 37]
    | 5 => some [0, 2, 3, 10, 11, 12]
    | 6 => some [0, 2, 3, 10, 11, 12]
    | 7 => some [0, 2, 10, 11, 13]
    | 8 => some [0, 2, 10, 11, 13, 14]
    | 9 => some [0, 2, 10, 11, 13, 14, 51]
    | 10 => some [0, 2, 10, 11, 13, 14, 15]
    | 11 => some [0, 2, 10, 11, 13, 14, 15]
    | 12 => some [0, 2, 10, 11, 13, 14, 15]
    | 13 => some [0, 2, 10, 11, 13, 14, 15, 62]
    | 14 => some [0, 2, 10, 11, 13, 14, 15, 62, 63]
    | 15 => some [0, 2, 10, 11, 13, 14]
    | 16 => some [0, 2, 10, 11, 13, 14, 15, 62, 71]
    | 17 => some [0, 2, 10, 11, 13, 14]
    | 18 => some [0, 2, 10, 11, 13, 14, 15, 62, 82]
    | 19 => some [0, 2, 10, 11, 13, 14]
    | 20 => some [0, 2, 10, 11, 13, 14, 15, 62, 98]
    | 21 => some [0, 2, 10, 11, 13, 14]
    | 22 => some [0, 2, 10, 11, 13, 14, 15, 62, 114]
    | 23 => some [0, 2, 10, 11, 13, 14]
    | 24 => some [0, 2, 10, 11, 13, 14, 15, 62, 129]
    | 25 => some [0, 2, 10, 11, 13, 14]
    | 26 => some [0, 2, 10, 11, 13, 14, 15, 62, 149]
    | 27 => some [0, 2, 10, 11, 13, 14]
    | 28 => some [0, 2, 10, 11, 13, 14, 15, 62, 153]
    | 29 => some [0, 2, 10, 11, 13, 14, 15, 160]
    | 30 => some [0, 2, 10, 11, 13, 14]
    | 31 => some [0, 2, 10, 11, 13, 14, 15, 62, 163]
    | 32 => some [0, 2, 10, 11, 13, 14, 15, 16]
    | 33 => some [0, 2, 10, 11, 13, 14, 15, 17]
    | 34 => some [0, 2, 10, 11, 13, 14, 15, 18, 19]
    | 35 => some [0, 2, 10, 11, 13, 14, 15, 18]
    | 36 => some [0, 2, 10, 11, 13, 14, 15, 18, 20]
    | 37 => some [0, 2, 10, 11, 13, 14, 15, 18, 20, 204]
    | 38 => some [0, 2, 10, 11, 13, 14, 15, 18, 20]
    | 39 => some [0, 2, 10, 11, 13, 14, 15, 18, 20]
    | 40 => some [0, 2, 10, 11, 13, 14, 15, 217]
    | 41 => some [0, 2, 10, 11, 13, 14, 15, 21]
    | 42 => some [0, 2, 10, 11, 13, 14, 15, 21, 22]
    | 43 => some [0, 2, 10, 11, 13, 14, 15, 21, 22, 232]
    | 44 => some [0, 2, 10, 11, 13, 14, 15, 21, 22]
    | 45 => some [0, 2, 10, 11, 13, 14, 15, 21, 22]
    | 46 => some [8, 9]
    | _ => none
  | 33 => match r with
    | 0 => some [0]
    | 1 => some [0, 4]
    | 2 => some [2]
    | 3 => some [2]
    | _ => none
  | 34 => match r with
    | 0 => some [0]
    | 1 => some [2]
    | _ => none
  | 35 => match r with
    | 0 => some [1, 2]
    | 1 => some [1, 2, 5]
    | 2 => some [1, 2, 5, 6]
    | 3 => some [1, 2, 5, 6, 19]
    | 4 => some [1, 2, 5, 6]
    | 5 => some [1, 2, 5, 6, 7]
    | 6 => some [1, 2, 5, 6, 7, 8]
    | 7 => some [1, 2, 5, 6, 7, 8, 33]
    | 8 => some [1, 2, 5, 6, 7, 8, 33, 34]
    | 9 => some [1, 2, 5, 6, 8]
    | 10 => some [1, 2, 5, 6, 7, 8, 33, 41]
    | 11 => some [1, 2, 5, 6, 8]
    | 12 => some [1, 2, 5, 6, 7, 8, 50]
    | 13 => some [1, 2, 5, 6, 8]
    | 14 => some [1, 2, 5, 6]
    | 15 => some [4]
    | _ => none
  | 36 => match r with
    | 0 => some [0, 1]
    | 1 => some [4]
    | _ => none
  | 37 => match r with
    | 0 => some [0]
    | 1 => some [2]
    | _ => none
  | 38 => match r with
    | 0 => some [1, 2]
    | 1 => some [1, 2, 5]
    | 2 => some [1, 2, 5, 13]
    | 3 => some [4]
    | 4 => some [1, 2, 5, 18]
    | 5 => some [4]
    | 6 => some [1, 2, 5, 42]
    | 7 => some [4]
    | 8 => some [1, 2, 5, 51]
    | 9 => some [4]
    | 10 => some [1, 2, 5, 62]
    | 11 => some [4]
    | 12 => some [1, 2, 5, 67, 68, 69]
    | 13 => some [1, 2, 5, 67, 68, 69, 70]
    | 14 => some [1, 2, 5, 6, 7, 67, 68, 69]
    | 15 => some [1, 2, 5, 7, 67, 68, 69, 78]
    | 16 => some [4]
    | 17 => some [1, 2, 5, 67, 68, 69, 83]
    | 18 => some [4]
    | 19 => some [1, 2, 5, 67, 68, 69]
    | 20 => some [4]
    | _ => none
  | 39 => match r with
    | 0 => some [0]
    | 1 => some [0, 4]
    | 2 => some [2]
    | 3 => some [2]
    | _ => none
  | 40 => match r with
    | 0 => some [1, 2]
    | 1 => some [1, 2, 5]
    | 2 => some [1, 2, 5, 16]
    | 3 => some [4]
    | 4 => some [1, 2, 5, 43]
    | 5 => some [4]
    | 6 => some [1, 2, 5, 57]
    | 7 => some [4]
    | 8 => some [1, 2, 5, 67]
    | 9 => some [4]
    | 10 => some [1, 2, 5, 6]
    | 11 => some [1, 2, 5, 6, 72]
    | 12 => some [1, 2, 5, 6]
    | 13 => some [1, 2, 5, 6, 88]
    | 14 => some [4]
    | 15 => some [1, 2, 5, 7]
    | 16 => some [1, 2, 5, 7, 93]
    | 17 => some [1, 2, 5, 7]
    | 18 => some [1, 2, 5, 7, 106]
    | 19 => some [4]
    | 20 => some [1, 2, 5, 7, 115]
    | 21 => some [4]
    | 22 => some [4]
    | _ => none
  | 41 => match r with
    | 0 => some [0, 2, 5, 7]
    | 1 => some [0, 2, 5, 7, 10]
    | 2 => some [0, 2, 5, 7, 10, 11]
    | 3 => some [2]
    | 4 => some [0, 2, 5, 7, 10, 20]
    | 5 => some [2]
    | 6 => some [0, 2, 5, 7, 10, 33]
    | 7 => some [2]
    | 8 => some [0, 2, 5, 7, 10, 46]
    | 9 => some [2]
    | 10 => some [0, 2, 5, 7, 10, 59]
    | 11 => some [2]
    | 12 => some [0, 2, 5, 7, 10, 76]
    | 13 => some [2]
    | 14 => some [0, 2, 5, 7, 10, 99]
    | 15 => some [8]
    | 16 => some [0, 2, 5, 7, 10, 103]
    | 17 => some [2, 7, 111]
    | 18 => some [8]
    | 19 => some [0, 2, 5, 7, 10, 114]
    | 20 => some [2]
    | 21 => some [0, 2, 5, 7, 120]
    | 22 => some [2]
    | 23 => some [8]
    | _ => none
  | 42 => match r with
    | 0 => some [0, 1]
    | 1 => some [5, 6]
    | 2 => some [5, 14]
    | 3 => some [4]
    | 4 => some [4]
    | _ => none
  | 43 => match r with
    | 0 => some [0, 1]
    | 1 => some [0, 1, 7, 8]
    | 2 => some [0, 1, 7, 8, 9]
    | 3 => some [0, 1, 5, 7, 8]
    | 4 => some [0, 1, 5, 7, 8, 16]
    | 5 => some [4]
    | 6 => some [0, 1, 7, 8]
    | 7 => some [4]
    | _ => none
  | 44 => match r with
    | 0 => some [0]
    | 1 => some [2]
    | _ => none
  | 45 => match r with
    | 0 => some [0]
    | 1 => some [0, 3]
    | 2 => some [0, 3, 9, 10, 11]
    | 3 => some [0, 3, 9, 10, 11, 12]
    | 4 => some [0, 3, 5, 9, 10, 11]
    | 5 => some [0, 3, 9, 10, 11]
    | 6 => some [0, 3, 9, 10, 11, 20]
    | 7 => some [0, 3, 9, 10, 11]
    | 8 => some [0, 3, 9, 10, 11]
    | 9 => some [0, 6]
    | 10 => some [6, 25, 26, 27]
    | 11 => some [6, 25, 26, 27, 28]
    | 12 => some [6, 8, 25, 26, 27]
    | 13 => some [6, 25, 26, 27]
    | 14 => some [6, 25, 26, 27]
    | 15 => some [2]
    | _ => none
  | 46 => match r with
    | 0 => some [0, 1]
    | 1 => some [3]
    | _ => none
  | 47 => match r with
    | 0 => some [1, 2]
    | 1 => some [4]
    | _ => none
  | 48 => match r with
    | 0 => some [0]
    | 1 => some [2]
    | _ => none
  | 49 => match r with
    | 0 => some [1, 3, 5]
    | 1 => some [1, 3, 5, 7, 8]
    | 2 => some [1, 3, 5, 7, 8, 18]
    | 3 => some [6]
    | 4 => some [1, 3, 7, 8, 20, 21]
    | 5 => some [1, 3, 7, 8, 20, 21, 22]
    | 6 => some [1, 3, 7, 8, 9, 10, 20, 21]
    | 7 => some [1, 3, 7, 8, 10, 20, 21, 28]
    | 8 => some [1, 3, 7, 8, 10, 20, 21, 28, 29]
    | 9 => some [1, 3, 7, 8, 20, 21]
    | 10 => some [1, 3, 7, 8, 10, 20, 21, 28, 36]
    | 11 => some [1, 3, 7, 8, 20, 21]
    | 12 => some [1, 3, 7, 8, 10, 20, 21, 46]
    | 13 => some [1, 3, 7, 8, 20, 21]
    | 14 => some [1, 3, 7, 8, 20, 21]
    | 15 => some [6]
    | _ => none
  | 50 => match r with
    | 0 => some [1, 3, 5]
    | 1 => some [1, 3, 5, 7]
    | 2 => some [1, 3, 5, 7, 8]
    | 3 => some [1, 3, 5, 7, 8, 10]
    | 4 => some [1, 3, 5, 7, 8, 10, 25, 26]
    | 5 => some [1, 3, 5, 7, 8, 10, 25, 26, 27]
    | 6 => some [1, 3, 5, 7, 8, 10, 11, 12, 25, 26]
    | 7 => some [1, 3, 5, 7, 8, 10, 12, 25, 26, 33]
    | 8 => some [1, 3, 5, 7, 8, 10, 12, 25, 26, 33, 34]
    | 9 => some [1, 3, 5, 7, 8, 10, 25, 26]
    | 10 => some [1, 3, 5, 7, 8, 10, 12, 25, 26, 33, 43]
    | 11 => some [1, 3, 5, 7, 8, 10, 25, 26]
    | 12 => some [1, 3, 5, 7, 8, 10, 12, 25, 26, 33, 53]
    | 13 => some [1, 3, 5, 7, 8, 10, 25, 26]
    | 14 => some [1, 3, 5, 7, 8, 10, 12, 25, 26, 33, 64]
    | 15 => some [1, 3, 5, 7, 8, 10, 25, 26]
    | 16 => some [1, 3, 5, 7, 8, 10, 12, 25, 26, 33, 76]
    | 17 => some [1, 3, 5, 7, 8, 10, 25, 26]
    | 18 => some [1, 3, 5, 7, 8, 10, 12, 25, 26, 33, 92]
    | 19 => some [1, 3, 5, 7, 8, 10, 25, 26]
    | 20 => some [1, 3, 5, 7, 8, 10, 12, 25, 26, 107]
    | 21 => some [1, 3, 5, 7, 8, 10, 25, 26]
    | 22 => some [1, 3, 5, 7, 8, 10, 25, 26]
    | 23 => some [6]
    | _ => none
  | 51 => match r with
    | 0 => some [0]
    | 1 => some [0, 11]
    | 2 => some [2]
    | 3 => some [0, 3]
    | 4 => some [0, 3, 15]
    | 5 => some [0, 3]
    | 6 => some [0, 3, 4]
    | 7 => some [0, 3, 47]
    | 8 => some [2]
    | 9 => some [2]
    | _ => none
  | 52 => match r with
    | 0 => some [0, 1]
    | 1 => some [0, 1, 5]
    | 2 => some [0, 1, 5, 9]
    | 3 => some [0, 1, 5]
    | 4 => some [0, 1, 5, 26]
    | 5 => some [4]
    | 6 => some [4]
    | _ => none
  | 53 => match r with
    | 0 => some [1, 2, 3]
    | 1 => some [1, 2, 3, 16]
    | 2 => some [6]
    | 3 => some [1, 2, 3, 7]
    | 4 => some [1, 2, 3, 7, 8]
    | 5 => some [1, 2, 3, 7, 8, 18]
    | 6 => some [1, 2, 3, 7, 8]
    | 7 => some [1, 2, 3, 7, 8, 36]
    | 8 => some [6]
    | 9 => some [1, 2, 3, 38]
    | 10 => some [1, 2, 3, 38, 39]
    | 11 => some [6]
    | 12 => some [1, 2, 3, 38, 49]
    | 13 => some [6]
    | 14 => some [1, 2, 3, 38, 59]
    | 15 => some [1, 2, 3, 59]
    | 16 => some [6]
    | 17 => some [6]
    | _ => none
  | 54 => match r with
    | 0 => some [1, 3, 5]
    | 1 => some [1, 3, 5, 7]
    | 2 => some [1, 3, 5, 8, 9]
    | 3 => some [1, 3, 5, 8, 9, 22]
    | 4 => some [1, 3, 5, 8, 9, 22, 23]
    | 5 => some [6]
    | 6 => some [1, 3, 5, 8, 9, 22, 39]
    | 7 => some [1, 3, 5, 8, 9, 22, 39]
    | 8 => some [6]
    | 9 => some [1, 3, 5, 8, 9, 22, 52]
    | 10 => some [6]
    | 11 => some [1, 3, 5, 8, 9, 22, 64]
    | 12 => some [6]
    | 13 => some [1, 3, 5, 8, 9, 22, 76]
    | 14 => some [6]
    | 15 => some [1, 3, 5, 8, 9, 22, 94]
    | 16 => some [6]
    | 17 => some [1, 3, 5, 8, 9, 22, 100]
    | 18 => some [1, 3, 5, 8, 9, 100]
    | 19 => some [3, 5, 8, 9, 111]
    | 20 => some [6]
    | 21 => some [5, 8, 9, 10]
    | 22 => some [5, 8, 10, 125]
    | 23 => some [6]
    | 24 => some [6]
    | 25 => some [6]
    | _ => none
  | 55 => match r with
    | 0 => some [0, 1]
    | 1 => some [5]
    | 2 => some [4]
    | _ => none
  | 56 => match r with
    | 0 => some [0, 4, 5]
    | 1 => some [0, 4, 5, 6]
    | 2 => some [0, 4, 5, 6, 7, 8]
    | 3 => some [4, 5, 9]
    | 4 => some []
    | _ => none
  | 57 => match r with
    | 0 => some [0, 1]
    | 1 => some [0, 1, 9]
    | 2 => some [4, 5]
    | 3 => some [0, 1, 14]
    | 4 => some [4, 5]
    | 5 => some [0, 1, 6]
    | 6 => some [0, 1, 6, 18]
    | 7 => some [0, 1, 6]
    | 8 => some [0, 1, 6, 36]
    | 9 => some [4, 5]
    | 10 => some [0, 1, 6, 58]
    | 11 => some [4, 5]
    | 12 => some [0, 1, 60]
    | 13 => some [4, 5]
    | 14 => some [0, 1, 66]
    | 15 => some [4, 5]
    | 16 => some [4, 5]
    | _ => none
  | 58 => match r with
    | 0 => some [0, 1]
    | 1 => some [4]
    | _ => none
  | 59 => match r with
    | 0 => some [0]
    | 1 => some [2]
    | _ => none
  | 60 => match r with
    | 0 => some [0, 1]
    | 1 => some [0, 1, 6]
    | 2 => some [0, 1]
    | 3 => some [0, 1]
    | 4 => some [0, 1, 16]
    | 5 => some [0]
    | 6 => some [4]
    | _ => none
  | 61 => match r with
    | 0 => some [0, 2]
    | 1 => some [0, 2, 9]
    | 2 => some [2, 3]
    | 3 => some [2, 3]
    | _ => none
  | 62 => match r with
    | 0 => some [1, 2]
    | 1 => some [2]
    | _ => none
  | 63 => match r with
    | 0 => some [0]
    | 1 => some [0, 3]
    | 2 => some [2]
    | 3 => some [10]
    | 4 => some [2]
    | 5 => some [2]
    | _ => none
  | 64 => match r with
    | 0 => some [0, 1, 2]
    | 1 => some [6]
    | _ => none
  | 65 => match r with
    | 0 => some [1, 2, 4]
    | 1 => some [1, 2, 4, 13]
    | 2 => some [4]
    | 3 => some [4]
    | _ => none
  | 66 => match r with
    | 0 => some [0, 1]
    | 1 => some [0, 1, 5]
    | 2 => some [0, 1, 5, 9]
    | 3 => some [0, 1, 5]
    | 4 => some [0, 1, 5, 16]
    | 5 => some [4]
    | 6 => some [4]
    | _ => none
  | 67 => match r with
    | 0 => some [0]
    | 1 => some [0, 3]
    | 2 => some [0, 3, 10]
    | 3 => some [2]
    | 4 => some [2]
    | _ => none
  | 68 => match r with
    | 0 => some [1, 2]
    | 1 => some [2, 5]
    | 2 => some [2, 5, 6]
    | 3 => some [4]
    | 4 => some [2, 5, 10]
    | 5 => some [4]
    | 6 => some [2, 14]
    | 7 => some [4]
    | 8 => some [4]
    | _ => none
  | 69 => match r with
    | 0 => some [0, 1, 2]
    | 1 => some [6]
    | _ => none
  | 70 => match r with
    | 0 => some [0, 1]
    | 1 => some [0, 1, 6, 7]
    | 2 => some [0, 1, 6, 7, 17]
    | 3 => some [4, 5]
    | 4 => some [0, 1, 6, 7, 20]
    | 5 => some [4, 5]
    | 6 => some [0, 1, 6, 7, 25, 26, 27]
    | 7 => some [0, 1, 6, 7, 25, 26, 27, 28]
    | 8 => some [0, 1, 6, 7, 9, 25, 26, 27]
    | 9 => some [0, 1, 6, 7, 25, 26, 27, 53]
    | 10 => some [4, 5]
    | 11 => some [0, 1, 6, 7, 25, 26, 27]
    | 12 => some [0, 6, 10, 11]
    | 13 => some [0, 10, 11, 64]
    | 14 => some [4, 5]
    | 15 => some [4, 5]
    | _ => none
  | 71 => match r with
    | 0 => some [0]
    | 1 => some [0, 8]
    | 2 => some [2]
    | 3 => some [14]
    | 4 => some [2]
    | 5 => some [2]
    | _ => none
  | 72 => match r with
    | 0 => some [0]
    | 1 => some [2]
    | _ => none
  | 73 => match r with
    | 0 => some [0]
    | 1 => some [2]
    | _ => none
  | 74 => match r with
    | 0 => some [0]
    | 1 => some [2]
    | _ => none
  | 75 => match r with
    | 0 => some [0, 1, 2]
    | 1 => some [1, 2, 7]
    | 2 => some [1, 2, 7, 8]
    | 3 => some [6]
    | 4 => some [1, 2, 7, 13]
    | 5 => some [6]
    | 6 => some [1, 2, 7, 20]
    | 7 => some [6]
    | 8 => some [1, 2, 7, 26]
    | 9 => some [6]
    | 10 => some [1, 2, 7, 31]
    | 11 => some [6]
    | 12 => some [1, 2, 7, 36]
    | 13 => some [6]
    | 14 => some [1, 2, 7, 41]
    | 15 => some [6]
    | 16 => some [1, 2, 7, 46]
    | 17 => some [6]
    | 18 => some [1, 2, 7, 51]
    | 19 => some [6]
    | 20 => some [1, 2, 7, 57]
    | 21 => some [6]
    | 22 => some [1, 2, 7, 63]
    | 23 => some [6]
    | 24 => some [1, 2, 7, 69]
    | 25 => some [6]
    | 26 => some [1, 2, 75]
    | 27 => some [6]
    | 28 => some [6]
    | _ => none
  | 76 => match r with
    | 0 => some [0, 1]
    | 1 => some [4]
    | _ => none
  | 77 => match r with
    | 0 => some [0]
    | 1 => some [0, 3]
    | 2 => some [3, 4]
    | 3 => some [3, 4, 5]
    | 4 => some [3, 4, 7]
    | 5 => some [3, 4, 7]
    | 6 => some [3, 4, 7]
    | 7 => some [3, 4, 11]
    | 8 => some [3, 4, 13]
    | 9 => some [3, 4, 13]
    | 10 => some [3, 4, 13]
    | 11 => some [3, 4, 13]
    | 12 => some [3, 4, 13]
    | 13 => some [3, 4, 19]
    | 14 => some [3, 4, 19]
    | 15 => some [3, 4, 22]
    | 16 => some [3, 4, 22]
    | 17 => some [3, 4, 22]
    | 18 => some [3, 22]
    | 19 => some [3]
    | 20 => some [2, 3]
    | 21 => some [3]
    | 22 => some [2, 3]
    | 23 => some [2, 3]
    | 24 => some [2, 3]
    | 25 => some [2, 3]
    | _ => none
  | 78 => match r with
    | 0 => some [0, 1, 2]
    | 1 => some [1, 2, 7]
    | 2 => some [1, 2, 7, 8]
    | 3 => some [6]
    | 4 => some [1, 2, 7, 12]
    | 5 => some [6]
    | 6 => some [1, 2, 7, 17]
    | 7 => some [6]
    | 8 => some [1, 2, 7, 22]
    | 9 => some [6]
    | 10 => some [1, 2, 27]
    | 11 => some [6]
    | 12 => some [6]
    | _ => none
  | 79 => match r with
    | 0 => some [0]
    | 1 => some [3]
    | 2 => some [2]
    | 3 => some [2]
    | _ => none
  | 80 => match r with
    | 0 => some [0, 1, 2]
    | 1 => some [1, 2, 7]
    | 2 => some [1, 2, 7, 8]
    | 3 => some [6]
    | 4 => some [1, 2, 7, 12]
    | 5 => some [6]
    | 6 => some [1, 2, 7, 20]
    | 7 => some [6]
    | 8 => some [1, 2, 7, 28]
    | 9 => some [6]
    | 10 => some [1, 2, 7, 33]
    | 11 => some [1, 2, 7, 33]
    | 12 => some [6]
    | 13 => some [1, 2, 7, 39]
    | 14 => some [6]
    | 15 => some [1, 2, 7, 44]
    | 16 => some [6]
    | 17 => some [1, 2, 49]
    | 18 => some [6]
    | 19 => some [6]
    | _ => none
  | 81 => match r with
    | 0 => some [0]
    | 1 => some [3]
    | 2 => some [3, 7]
    | 3 => some [2]
    | 4 => some [3, 11]
    | 5 => some [2]
    | 6 => some [2]
    | _ => none
  | 82 => match r with
    | 0 => some [0]
    | 1 => some [3]
    | 2 => some [2]
    | 3 => some [2]
    | _ => none
  | 83 => match r with
    | 0 => some [0, 1]
    | 1 => some [4]
    | _ => none
  | 84 => match r with
    | 0 => some [0, 1]
    | 1 => some [4]
    | _ => none
  | 85 => match r with
    | 0 => some [0, 1]
    | 1 => some [4]
    | _ => none
  | 86 => match r with
    | 0 => some [0, 1]
    | 1 => some [0, 1, 7]
    | 2 => some [4]
    | 3 => some [4]
    | _ => none
  | 87 => match r with
    | 0 => some [0, 1]
    | 1 => some [0, 1, 7]
    | 2 => some [4]
    | 3 => some [4]
    | _ => none
  | 88 => match r with
    | 0 => some [0, 1, 2]
    | 1 => some [1, 2, 10]
    | 2 => some [1, 2, 10, 11, 12]
    | 3 => some [1, 2, 7, 8, 10]
    | 4 => some [1, 2, 7, 10, 19]
    | 5 => some [6]
    | 6 => some [6]
    | _ => none
  | 89 => match r with
    | 0 => some [0]
    | 1 => some [2]
    | _ => none
  | 90 => match r with
    | 0 => some [0, 1]
    | 1 => some [4]
    | _ => none
  | 91 => match r with
    | 0 => some [0, 1]
    | 1 => some [4]
    | _ => none
  | 92 => match r with
    | 0 => some [0, 1]
    | 1 => some [4]
    | _ => none
  | 93 => match r with
    | 0 => some [0, 1]
    | 1 => some [0, 1]
    | 2 => some [0, 1, 10]
    | 3 => some [4]
    | 4 => some [4]
    | _ => none
  | 94 => match r with
    | 0 => some [0, 1]
    | 1 => some [0, 1]
    | 2 => some [0, 1, 10]
    | 3 => some [4]
    | 4 => some [4]
    | _ => none
  | 95 => match r with
    | 0 => some [0]
    | 1 => some [2]
    | _ => none
  | _ => none
def Cp.mat (f r : Nat) : List (Nat × Option Nat × Nat) := match f with
  | 21 => match r with
    | 4 => [(5, none, 1)]
    | _ => []
  | 24 => match r with
    | 1 => [(3, some 1, 6)]
    | _ => []
  | _ => []
def Cp.fz (f r : Nat) : Bool × Bool := match f with
  | 32 => match r with
    | 6 => (true, true)
    | 15 => (true, true)
    | 17 => (true, true)
    | 19 => (true, true)
    | 21 => (true, true)
    | 23 => (true, true)
    | 25 => (true, true)
    | 39 => (true, true)
    | 45 => (true, true)
    | _ => (true, false)
  | 35 => match r with
    | 14 => (true, true)
    | _ => (true, false)
  | 41 => match r with
    | 3 => (true, true)
    | 5 => (true, true)
    | 7 => (true, true)
    | 9 => (true, true)
    | 11 => (true, true)
    | 13 => (true, true)
    | _ => (true, false)
  | _ => (true, false)
def Cp.thr (f : Nat) : Bool := match f with
  | 18 => true
  | 19 => true
  | 20 => true
  | 26 => true
  | 60 => true
  | _ => false
def Cp.own (f : Nat) : Bool := match f with
  | 45 => true
  | _ => false
def Cp.prim (f : Nat) : Option (Nat × Nat) := match f with
  | 33 => some (1, 8)
  | 39 => some (5, 40)
  | _ => none
def Cp.cfg : Cfg := { prim := Cp.prim, thr := Cp.thr, own := Cp.own, fz := Cp.fz, keep := Cp.keep, mat := Cp.mat }
end Go.Ac
end

section
set_option linter.unusedVariables false
namespace Go.Ac
open Go.Proofs

/-- An instruction. -/
structure I where
  op : Int
  a : Int
  b : Int
  c : Int
  d : Int
  deriving Inhabited, DecidableEq

/-- A routine. -/
structure Rt where
  nm : List UInt8
  inn : List Int
  out : List Int
  regs : Int
  ini : List Int
  code : List I
  deriving Inhabited

/-- An image. -/
structure Im where
  enums : List Int
  rs : List Rt
  deriving Inhabited

def ni (n : Int) : D := .int .i64 n
def dI (n : Int) : V := .d (.int .i64 n)
def dB (b : Bool) : V := .d (.bool b)
def dS (s : List UInt8) : V := .d (.str s)
def encI (l : List Int) : List (List D) := l.map fun n => [ni n]
def I.cells (i : I) : List D := [.int .i64 i.op, .int .i64 i.a, .int .i64 i.b, .int .i64 i.c, .int .i64 i.d]
def encC (l : List I) : List (List D) := l.map I.cells
def Rt.cells (r : Rt) : List D := [.str r.nm, .slice (encI r.inn), .slice (encI r.out), .int .i64 r.regs, .slice (encI r.ini), .slice (encC r.code)]
def encR (l : List Rt) : List (List D) := l.map Rt.cells
def encL (l : List (List Int)) : List (List D) := l.map fun r => [.slice (encI r)]
def Im.cells (im : Im) : List D := [.slice (encI im.enums), .slice (encR im.rs)]
def dL (l : List Int) : V := .d (.slice (encI l))
def aI (i : I) : V := .agg (i.cells.map .d)
def aR (r : Rt) : V := .agg (r.cells.map .d)
def aM (im : Im) : V := .agg (im.cells.map .d)

/-! ### Sizes -/
def MX : Nat := 4611686018427387904
def MB : Nat := 4194304
def Rt.sz (r : Rt) : Nat := r.nm.length + r.inn.length + r.out.length + r.ini.length + r.code.length * 6 + 6
def Im.sz (im : Im) : Nat := im.enums.length + (im.rs.map Rt.sz).sum + 2

theorem encI_len (l : List Int) : (encI l).length = l.length := by simp [encI]
theorem encC_len (l : List I) : (encC l).length = l.length := by simp [encC]
theorem encR_len (l : List Rt) : (encR l).length = l.length := by simp [encR]
theorem encL_len (l : List (List Int)) : (encL l).length = l.length := by simp [encL]
theorem encI_at {l : List Int} {i : Nat} {y : Int} (h : l[i]? = some y) : (encI l)[i]? = some [.int .i64 y] := by unfold encI; simp [h, ni]
theorem encC_at {l : List I} {i : Nat} {y : I} (h : l[i]? = some y) : (encC l)[i]? = some y.cells := by unfold encC; simp [h]
theorem encR_at {l : List Rt} {i : Nat} {y : Rt} (h : l[i]? = some y) : (encR l)[i]? = some y.cells := by unfold encR; simp [h]
theorem encL_at {l : List (List Int)} {i : Nat} {y : List Int} (h : l[i]? = some y) : (encL l)[i]? = some [.slice (encI y)] := by unfold encL; simp [h]
theorem sum_mem {α : Type} {f : α → Nat} : ∀ {l : List α} {x : α}, x ∈ l → f x ≤ (l.map f).sum
  | y :: r, x, h => by
    simp only [List.mem_cons] at h
    simp only [List.map_cons, List.sum_cons]
    rcases h with rfl | h
    · omega
    · have := sum_mem (f := f) h; omega
theorem sum_len {α : Type} {f : α → Nat} (hf : ∀ x, 1 ≤ f x) : ∀ {l : List α}, l.length ≤ (l.map f).sum
  | [] => by simp
  | y :: r => by have := sum_len hf (l := r); have := hf y; simp; omega
theorem Im.len_rs (im : Im) : im.rs.length ≤ im.sz := by
  have := sum_len (f := Rt.sz) (fun r => by unfold Rt.sz; omega) (l := im.rs)
  unfold Im.sz; omega
theorem Im.mem_rs {im : Im} {r : Rt} (h : r ∈ im.rs) : r.sz ≤ im.sz := by
  have := sum_mem (f := Rt.sz) h
  unfold Im.sz; omega

theorem idx_lt {i n : Nat} (h : i < n) : idx (i : Int) n = some i := by
  unfold idx
  rw [if_pos ⟨by omega, by omega⟩]
  simp
theorem nbeq_self (n : Nat) : Nat.beq n n = true := Nat.beq_refl n

/-! ### Types -/
noncomputable def zOf (t : TypeId) : Option (List V) := match mkTI Tryd.prog t with | some i => i.zero | none => none
theorem ti3 : mkTI Tryd.prog 3 = some ⟨.int .i64, 1, 8, zOf 3⟩ := by kernel_rfl
theorem ti4 : mkTI Tryd.prog 4 = some ⟨.bool, 1, 1, zOf 4⟩ := by kernel_rfl
theorem ti5 : mkTI Tryd.prog 5 = some ⟨.int .u8, 1, 1, zOf 5⟩ := by kernel_rfl
theorem ti9 : mkTI Tryd.prog 9 = some ⟨.str, 1, 16, zOf 9⟩ := by kernel_rfl
theorem ti21 : mkTI Tryd.prog 21 = some ⟨.int .i32, 1, 4, zOf 21⟩ := by kernel_rfl
theorem ti22 : mkTI Tryd.prog 22 = some ⟨.slice 3 1 8, 1, 24, zOf 22⟩ := by kernel_rfl
theorem ti23 : mkTI Tryd.prog 23 = some ⟨.slice 50 6 120, 1, 24, zOf 23⟩ := by kernel_rfl
theorem ti25 : mkTI Tryd.prog 25 = some ⟨.struct [(0, 1, false), (1, 1, false)], 2, 48, zOf 25⟩ := by kernel_rfl
theorem ti26 : mkTI Tryd.prog 26 = some ⟨.slice 22 1 24, 1, 24, zOf 26⟩ := by kernel_rfl
theorem ti29 : mkTI Tryd.prog 29 = some ⟨.ptr, 1, 8, zOf 29⟩ := by kernel_rfl
theorem ti30 : mkTI Tryd.prog 30 = some ⟨.int .i64, 1, 8, zOf 30⟩ := by kernel_rfl
theorem ti33 : mkTI Tryd.prog 33 = some ⟨.ptr, 1, 8, zOf 33⟩ := by kernel_rfl
theorem ti48 : mkTI Tryd.prog 48 = some ⟨.slice 52 5 40, 1, 24, zOf 48⟩ := by kernel_rfl
theorem ti50 : mkTI Tryd.prog 50 = some ⟨.struct [(0, 1, false), (1, 1, false), (2, 1, false), (3, 1, false), (4, 1, false), (5, 1, false)], 6, 120, zOf 50⟩ := by kernel_rfl
theorem ti52 : mkTI Tryd.prog 52 = some ⟨.struct [(0, 1, false), (1, 1, false), (2, 1, false), (3, 1, false), (4, 1, false)], 5, 40, zOf 52⟩ := by kernel_rfl
theorem ti56 : mkTI Tryd.prog 56 = some ⟨.struct [(0, 2, true), (2, 1, false), (3, 1, false)], 4, 80, zOf 56⟩ := by kernel_rfl
theorem ti58 : mkTI Tryd.prog 58 = some ⟨.struct [(0, 2, true), (2, 1, false), (3, 1, false)], 4, 80, zOf 58⟩ := by kernel_rfl
theorem ti62 : mkTI Tryd.prog 62 = some ⟨.ptr, 1, 8, zOf 62⟩ := by kernel_rfl
theorem ti72 : mkTI Tryd.prog 72 = some ⟨.struct [(0, 1, false), (1, 1, false), (2, 1, false)], 3, 56, zOf 72⟩ := by kernel_rfl
theorem ti86 : mkTI Tryd.prog 86 = some ⟨.array 4 3 1 false, 4, 32, zOf 86⟩ := by kernel_rfl
theorem ti88 : mkTI Tryd.prog 88 = some ⟨.struct [(0, 1, false), (1, 4, true), (5, 1, false)], 6, 56, zOf 88⟩ := by kernel_rfl
theorem ti100 : mkTI Tryd.prog 100 = some ⟨.array 11 88 6 true, 66, 616, zOf 100⟩ := by kernel_rfl
theorem ti101 : mkTI Tryd.prog 101 = some ⟨.slice 9 1 16, 1, 24, zOf 101⟩ := by kernel_rfl
def z0 : V := .d (.int .i64 0)
theorem z3_eq : zOf 3 = some [z0] := by kernel_rfl
theorem z9_eq : zOf 9 = some [.d (.str [])] := by kernel_rfl
theorem z22_eq : zOf 22 = some [.full []] := by kernel_rfl
theorem z25_eq : zOf 25 = some [.full [], .full []] := by kernel_rfl
theorem z50_eq : zOf 50 = some [.d (.str []), .full [], .full [], z0, .full [], .full []] := by kernel_rfl
theorem z52_eq : zOf 52 = some [z0, z0, z0, z0, z0] := by kernel_rfl
theorem z56_eq : zOf 56 = some [.full [], .full [], .full [], z0] := by kernel_rfl
theorem z58_eq : zOf 58 = some [.full [], .full [], .full [], z0] := by kernel_rfl
theorem z72_eq : zOf 72 = some [.full [], .full [], .con (.pointer none)] := by kernel_rfl
theorem z86_eq : zOf 86 = some [z0, z0, z0, z0] := by kernel_rfl
theorem z88_eq : zOf 88 = some [.d (.str []), z0, z0, z0, z0, z0] := by kernel_rfl
theorem gv0 : Gl.gv 0 = .vref opsTab := rfl

theorem prim_Cp (f : Nat) : Cp.cfg.prim f = Cp.prim f := rfl
theorem thr_Cp (f : Nat) : Cp.cfg.thr f = Cp.thr f := rfl
theorem fz_Cp (f r : Nat) : Cp.cfg.fz f r = Cp.fz f r := rfl
theorem own_Cp (f : Nat) : Cp.cfg.own f = Cp.own f := rfl
theorem keep_Cp (f r : Nat) : Cp.cfg.keep f r = Cp.keep f r := rfl
theorem mat_Cp (f r : Nat) : Cp.cfg.mat f r = Cp.mat f r := rfl
theorem rowsOf_osl (look : Look) (sz id g off len sz' : Nat) (cap : Option Nat) : rowsOf look sz (.osl id g off len sz' cap) = match live look id g, Nat.beq sz sz' with
    | some o, true => match Nat.ble (off + len * sz) o.cells.length with
      | true => some (len, (o.cells.drop off).take (len * sz), [id])
      | false => none
    | _, _ => none := rfl

attribute [simp] prim_Cp Cp.prim thr_Cp Cp.thr closeArgs closeA closeVs close close1 ofD toD V.flat V.flat2 V.flat1 D.flat evalV Env.get constV constV1 putEnv binV intBin strBin boolBin unV ti3 ti4 ti5 ti9 ti21 ti22 ti23 ti25 ti26 ti29 ti30 ti33 ti48 ti50 ti52 ti56 ti58 ti62 ti72 ti86 ti88 ti100 ti101
  indexAddrV indexV indexRows ret fieldAddrV fieldV partV loadV readV TI.agg lenV Env.keep
  z3_eq z9_eq z22_eq z25_eq z50_eq z52_eq z56_eq z58_eq z72_eq z86_eq z88_eq z0 gv0 nilOpd nilV nilR isEq checkNil
attribute [simp] opP opP0 wantedP step retR live nbeq_self newV cellsV V.one storeV cl1 roOf fz_Cp Cp.fz Hp.get Hp.set Hp.sets addNew idx_lt builtinV
attribute [simp] Hp.trunc_zero nblt_eq Hp.get_set_self Hp.trunc cut own_Cp Cp.own
attribute [simp] endR keepSt mats matOne keep_Cp mat_Cp Cp.keep Cp.mat callD rowsOf_osl appendV encI_len encC_len encR_len encL_len

theorem w_id' {n : Int} (h : -9223372036854775808 ≤ n) (h' : n ≤ 9223372036854775807) : IntKind.i64.wrap n = n := w_id h h'
theorem cloneOK : ∀ f p, Cp.cfg.prim f = some p → CloneAt Tryd.prog f p.1 p.2 := by
  intro f p h
  simp only [prim_Cp, Cp.prim] at h
  split at h
  · simp at h; subst h
    exact CloneAt.of (t := 22) (e := 3) Tryd.func33 rfl rfl rfl (by kernel_rfl) (by kernel_rfl) ⟨rfl, rfl, rfl⟩ ⟨rfl, rfl, rfl⟩ ⟨rfl, rfl, rfl⟩ ⟨rfl, rfl, rfl⟩ ⟨rfl, rfl, rfl⟩ ⟨rfl, rfl, rfl⟩ ⟨rfl, rfl, rfl⟩ ⟨rfl, rfl, rfl⟩
  · simp at h; subst h
    exact CloneAt.of (t := 48) (e := 52) Tryd.func39 rfl rfl rfl (by kernel_rfl) (by kernel_rfl) ⟨rfl, rfl, rfl⟩ ⟨rfl, rfl, rfl⟩ ⟨rfl, rfl, rfl⟩ ⟨rfl, rfl, rfl⟩ ⟨rfl, rfl, rfl⟩ ⟨rfl, rfl, rfl⟩ ⟨rfl, rfl, rfl⟩ ⟨rfl, rfl, rfl⟩
  · simp at h
end Go.Ac
end
