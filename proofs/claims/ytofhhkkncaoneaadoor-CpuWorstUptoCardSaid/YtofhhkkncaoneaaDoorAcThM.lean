/- The abstract machine: calls that are handed objects, and what they may write. No conditions. -/
import Derived.Test.YtofhhkkncaoneaaDoorAcBM
import Derived.Test.YtofhhkkncaoneaaDoorAcDM
import Derived.Test.YtofhhkkncaoneaaDoorAcGM
import Derived.Test.YtofhhkkncaoneaaDoorAcJM
import Derived.Test.YtofhhkkncaoneaaDoorAcMM
import Derived.Test.YtofhhkkncaoneaaDoorAcOM
import Derived.Test.YtofhhkkncaoneaaDoorAcSM
import Derived.Test.YtofhhkkncaoneaaDoorAcXM
import Derived.Test.YtofhhkkncaoneaaDoorAcUcM
import Derived.Calls
import Derived.Orders
import Derived.Laws.World
import Derived.Laws.Sem
import Derived.Laws.Cells
import Derived.Laws.Append
import GoSem.ClaimData
import Derived.Laws.Tables
import Derived.Laws.Slices
import Derived.Laws.Strings
import Derived.Laws.Small
set_option linter.unusedVariables false
set_option linter.unusedSimpArgs false
section
set_option linter.unusedVariables false
namespace Go.Ac
/-- The table of operations. -/
def opsTab : List D := [.str [], .int .i64 0, .int .i64 0, .int .i64 0, .int .i64 0, .int .i64 0, .str [108, 111, 97, 100], .int .i64 1, .int .i64 3, .int .i64 0, .int .i64 0, .int .i64 0, .str [109, 111, 118, 101], .int .i64 1, .int .i64 1, .int .i64 0, .int .i64 0, .int .i64 0, .str [114, 101, 97, 100], .int .i64 1, .int .i64 2, .int .i64 0, .int .i64 0, .int .i64 0, .str [119, 114, 105, 116, 101], .int .i64 2, .int .i64 1, .int .i64 0, .int .i64 0, .int .i64 0, .str [117, 110, 97, 114, 121], .int .i64 1, .int .i64 1, .int .i64 5, .int .i64 0, .int .i64 1, .str [97, 112, 112, 108, 121], .int .i64 1, .int .i64 1, .int .i64 1, .int .i64 5, .int .i64 2, .str [106, 117, 109, 112], .int .i64 0, .int .i64 4, .int .i64 0, .int .i64 0, .int .i64 0, .str [122, 101, 114, 111], .int .i64 1, .int .i64 4, .int .i64 0, .int .i64 0, .int .i64 0, .str [99, 97, 108, 108], .int .i64 6, .int .i64 7, .int .i64 8, .int .i64 9, .int .i64 0, .str [114, 101, 115, 101, 116], .int .i64 6, .int .i64 7, .int .i64 0, .int .i64 0, .int .i64 0]
instance : Gl := ⟨fun g => match g with | 0 => .vref opsTab | _ => .any, fun g => by cases g <;> simp⟩
def Cp.keep (f r : Nat) : Option (List Nat) := match f with
  | 3 => match r with
    | 0 => some [1, 2]
    | 1 => some [1, 2, 19]
    | 2 => some [4]
    | 3 => some [1, 2, 5, 6]
    | 4 => some [1, 5, 6, 7, 8]
    | 5 => some [1, 5, 7, 40]
    | 6 => some [4]
    | 7 => some [1, 5, 7, 9]
    | 8 => some [1, 5, 7, 9, 44]
    | 9 => some [1, 5, 7, 9]
    | 10 => some [1, 5, 7, 9, 10, 11]
    | 11 => some [1, 5, 7, 9, 10, 11, 12, 13]
    | 12 => some [1, 5, 7, 9, 88]
    | 13 => some [4]
    | 14 => some [5, 90]
    | 15 => some [5, 15]
    | 16 => some [5, 15]
    | 17 => some [4]
    | 18 => some [4]
    | _ => none
  | 4 => match r with
    | 0 => some [1, 2, 3]
    | 1 => some [1, 2, 3, 22]
    | 2 => some [6]
    | 3 => some [1, 2, 3, 7, 8]
    | 4 => some [1, 2, 7, 8, 9, 10]
    | 5 => some [1, 2, 7, 8, 9, 10, 43]
    | 6 => some [6]
    | 7 => some [1, 2, 7, 9, 11]
    | 8 => some [1, 2, 7, 9, 11, 61]
    | 9 => some [1, 2, 7, 9, 11]
    | 10 => some [1, 2, 7, 9, 11]
    | 11 => some [1, 2, 7, 9, 11]
    | 12 => some [2, 7, 9, 12]
    | 13 => some [2, 7, 9, 12, 13]
    | 14 => some [6]
    | _ => none
  | 5 => match r with
    | 0 => some [1, 2, 3]
    | 1 => some [1, 2, 3, 24]
    | 2 => some [6]
    | 3 => some [1, 2, 3, 7, 8]
    | 4 => some [1, 2, 7, 8, 9, 10]
    | 5 => some [1, 2, 7, 8, 9, 10, 49]
    | 6 => some [6]
    | 7 => some [1, 2, 7, 9, 11]
    | 8 => some [1, 2, 7, 9, 11, 12]
    | 9 => some [1, 2, 7, 9, 11, 12, 73]
    | 10 => some [1, 2, 7, 9, 11, 12]
    | 11 => some [1, 2, 7, 9, 11, 12]
    | 12 => some [2, 7, 9, 11, 86]
    | 13 => some [6]
    | 14 => some [2, 7, 9, 11, 13]
    | 15 => some [2, 7, 9, 11, 13, 90]
    | 16 => some [2, 7, 9, 11, 13]
    | 17 => some [2, 7, 9, 11, 13, 14, 15]
    | 18 => some [2, 7, 9, 11, 13, 14, 15, 16, 17]
    | 19 => some [2, 7, 9, 11, 13, 127]
    | 20 => some [6]
    | 21 => some [7, 11]
    | 22 => some [6]
    | _ => none
  | 6 => match r with
    | 0 => some [1, 2]
    | 1 => some [1, 2, 13]
    | 2 => some [4]
    | 3 => some [1, 2, 5, 6]
    | 4 => some [1, 2, 5, 6, 7, 8]
    | 5 => some [1, 2, 5, 7, 8, 34]
    | 6 => some [4]
    | 7 => some [1, 5, 7, 9]
    | 8 => some [1, 5, 7, 9, 51]
    | 9 => some [1, 5, 7, 9]
    | 10 => some [1, 5, 7, 9]
    | 11 => some [1, 5, 7, 9, 63]
    | 12 => some [4]
    | 13 => some [4]
    | _ => none
  | 7 => match r with
    | 0 => some [1, 2]
    | 1 => some [2, 23]
    | 2 => some [4]
    | 3 => some [2, 5, 6]
    | 4 => some [2, 5, 6, 7]
    | 5 => some [2, 5, 6, 7, 28]
    | 6 => some [2, 5, 6, 7]
    | 7 => some [2, 5, 6, 7, 8]
    | 8 => some [2, 5, 6, 7, 8]
    | 9 => some [2, 5, 6, 7, 8, 64]
    | 10 => some [4]
    | 11 => some [2, 5, 6, 7, 8, 9]
    | 12 => some [2, 5, 6, 7, 8, 9, 69]
    | 13 => some [2, 5, 6, 7, 8, 9]
    | 14 => some [2, 5, 6, 7, 8, 9, 78]
    | 15 => some [2, 5, 6, 7, 8, 9]
    | 16 => some [4]
    | _ => none
  | 8 => match r with
    | 0 => some []
    | 1 => some [1, 2]
    | 2 => some [1, 18]
    | 3 => some [0]
    | 4 => some [1, 3, 4]
    | 5 => some [1, 3, 4, 5, 6]
    | 6 => some [1, 3, 4, 5, 6, 7]
    | 7 => some [0]
    | _ => none
  | 9 => match r with
    | 0 => some [1]
    | 1 => some [1, 4]
    | 2 => some [1, 4, 9]
    | 3 => some [2, 3]
    | 4 => some [5]
    | 5 => some [5]
    | 6 => some [2, 3]
    | _ => none
  | 10 => match r with
    | 0 => some [1]
    | 1 => some [1, 4]
    | 2 => some [1, 4, 9]
    | 3 => some [2, 3]
    | 4 => some [5]
    | 5 => some [5]
    | 6 => some [2, 3]
    | _ => none
  | 11 => match r with
    | 0 => some [0, 1]
    | 1 => some [0, 1, 12]
    | 2 => some [4, 5]
    | 3 => some [0, 1, 6]
    | 4 => some [0, 1, 6, 20]
    | 5 => some [4, 5]
    | 6 => some [0, 1, 6, 21, 22, 23]
    | 7 => some [0, 1, 6, 21, 22, 23, 24]
    | 8 => some [0, 1, 6, 7, 8, 21, 22, 23]
    | 9 => some [0, 1, 6, 21, 22, 23, 36]
    | 10 => some [4, 5]
    | 11 => some [0, 1, 6, 21, 22, 23]
    | 12 => some [0, 1, 6, 9]
    | 13 => some [0, 9, 10]
    | 14 => some [10]
    | 15 => some [4, 5]
    | _ => none
  | 12 => match r with
    | 0 => some [0, 1]
    | 1 => some [0, 1, 11]
    | 2 => some [4, 5]
    | 3 => some [0, 1, 6]
    | 4 => some [0, 1, 6, 19]
    | 5 => some [4, 5]
    | 6 => some [0, 1, 6, 7]
    | 7 => some [0, 1, 6, 7, 23]
    | 8 => some [0, 1, 6, 7]
    | 9 => some [0, 1, 6, 7, 37]
    | 10 => some [4, 5]
    | 11 => some [0, 8, 9]
    | 12 => some [8]
    | 13 => some [4, 5]
    | _ => none
  | 13 => match r with
    | 0 => some [0, 1]
    | 1 => some [0, 1, 10]
    | 2 => some [4]
    | 3 => some [0, 1, 5]
    | 4 => some [0, 1, 5, 14]
    | 5 => some [0, 1, 5]
    | 6 => some [0, 1, 5, 25]
    | 7 => some [4]
    | 8 => some [4]
    | _ => none
  | 14 => match r with
    | 0 => some [0]
    | 1 => some [0, 4]
    | 2 => some [2]
    | 3 => some [2]
    | _ => none
  | 15 => match r with
    | 0 => some [0]
    | 1 => some [0, 4]
    | 2 => some [2]
    | 3 => some [2]
    | _ => none
  | 16 => match r with
    | 0 => some [0]
    | 1 => some [0, 4]
    | 2 => some [2]
    | 3 => some [2]
    | _ => none
  | 17 => match r with
    | 0 => some [0]
    | 1 => some [0, 4]
    | 2 => some [2]
    | 3 => some [2]
    | _ => none
  | 18 => match r with
    | 0 => some [0, 3]
    | 1 => some []
    | _ => none
  | 19 => match r with
    | 0 => some [0, 1]
    | 1 => some [0, 1, 7]
    | 2 => some [4]
    | 3 => some [0, 1, 10]
    | 4 => some [4]
    | 5 => some [0, 1, 19, 20, 21]
    | 6 => some [0, 1, 19, 20, 21, 22]
    | 7 => some [0, 1, 6, 19, 20, 21]
    | 8 => some [0, 1, 19, 20, 21, 27]
    | 9 => some [4]
    | 10 => some [0, 1, 19, 20, 21]
    | 11 => some []
    | 12 => some [4]
    | _ => none
  | 20 => match r with
    | 0 => some [0, 1]
    | 1 => some [0, 1, 7]
    | 2 => some [4]
    | 3 => some [0, 1, 15]
    | 4 => some [4]
    | 5 => some [0, 1, 5]
    | 6 => some [0, 1, 5, 19]
    | 7 => some [0, 1, 5]
    | 8 => some [0, 1, 5, 33]
    | 9 => some [4]
    | 10 => some []
    | 11 => some [4]
    | _ => none
  | 21 => match r with
    | 0 => some [1]
    | 1 => some [1, 4]
    | 2 => some [1, 4, 12]
    | 3 => some [2, 3]
    | 4 => some [1, 5]
    | 5 => some [5, 15, 16, 17]
    | 6 => some [5, 15, 16, 17, 18]
    | 7 => some [5, 7, 15, 16, 17]
    | 8 => some [5, 15, 16, 17]
    | 9 => some [5, 15, 16, 17]
    | 10 => some [8]
    | 11 => some [8, 35]
    | 12 => some [2, 3]
    | 13 => some [2, 3]
    | _ => none
  | 22 => match r with
    | 0 => some [1]
    | 1 => some [1, 14]
    | 2 => some [2]
    | 3 => some [1, 17]
    | 4 => some [2]
    | 5 => some [1, 21]
    | 6 => some [2]
    | 7 => some [1, 24, 25]
    | 8 => some [1, 24, 25, 26]
    | 9 => some [1, 3, 24, 25]
    | 10 => some [1, 4, 24, 25]
    | 11 => some [1, 4, 24, 25, 32]
    | 12 => some [2]
    | 13 => some [1, 24, 25]
    | 14 => some [2]
    | _ => none
  | 23 => match r with
    | 0 => some [0]
    | 1 => some [0, 1]
    | 2 => some [0]
    | _ => none
  | 24 => match r with
    | 0 => some [1, 2]
    | 1 => some [1, 2, 3]
    | 2 => some [2, 3, 11, 12, 13]
    | 3 => some [2, 3, 11, 12, 13, 14]
    | 4 => some [2, 3, 5, 11, 12, 13]
    | 5 => some [2, 3, 11, 12, 13]
    | 6 => some [2, 3, 11, 12, 13]
    | 7 => some [2]
    | _ => none
  | 25 => match r with
    | 0 => some [1]
    | 1 => some [1, 15]
    | 2 => some [2]
    | 3 => some [1, 3]
    | 4 => some [1, 3, 20]
    | 5 => some [1, 3]
    | 6 => some [1, 3, 36]
    | 7 => some [2]
    | 8 => some [1, 40]
    | 9 => some [2]
    | 10 => some [1, 4]
    | 11 => some [1, 4, 45]
    | 12 => some [1, 4]
    | 13 => some [1, 4, 5]
    | 14 => some [1, 4, 5, 52]
    | 15 => some [2]
    | 16 => some [2]
    | _ => none
  | 26 => match r with
    | 0 => some [0, 3]
    | 1 => some [0]
    | 2 => some []
    | _ => none
  | 27 => match r with
    | 0 => some [0, 2]
    | 1 => some [2]
    | _ => none
  | 28 => match r with
    | 0 => some [0, 1, 2]
    | 1 => some [0, 1, 2, 7]
    | 2 => some [0, 1, 2, 7, 8]
    | 3 => some [6]
    | 4 => some [0, 1, 2, 16]
    | 5 => some [6]
    | 6 => some [6]
    | _ => none
  | 29 => match r with
    | 0 => some [0, 2, 3, 4, 6]
    | 1 => some [0, 3, 4, 6, 11]
    | 2 => some [0, 4, 6, 11]
    | 3 => some [0, 4, 6, 11, 12]
    | 4 => some [0, 4, 6, 11, 12, 27]
    | 5 => some [0, 4, 6, 11, 12]
    | 6 => some [0, 4, 6, 11, 12]
    | 7 => some [10]
    | _ => none
  | 30 => match r with
    | 0 => some [0, 2]
    | 1 => some [2]
    | _ => none
  | 31 => match r with
    | 0 => some [0, 1, 2]
    | 1 => some [0, 1, 2, 8]
    | 2 => some [6]
    | 3 => some [0, 1, 2, 16]
    | 4 => some [6]
    | 5 => some [6]
    | _ => none
  | 32 => match r with
    | 0 => some [0, 1, 2, 3]
    | 1 => some [0, 2, 3, 10]
    | 2 => some [0, 2, 3, 10, 11]
    | 3 => some [0, 2, 3, 10, 11, 12]
    | 4 => some [0, 2, 3, 10, 11, 12, 37]
    | 5 => some [0, 2, 3, 10, 11, 12]
    | 6 => some [0, 2, 3, 10, 11, 12]
    | 7 => some [0, 2, 10, 11, 13]
    | 8 => some [0, 2, 10, 11, 13, 14]
    | 9 => some [0, 2, 10, 11, 13, 14, 51]
    | 10 => some [0, 2, 10, 11, 13, 14, 15]
    | 11 => some [0, 2, 10, 11, 13, 14, 15]
    | 12 => some [0, 2, 10, 11, 13, 14, 15]
    | 13 => some [0, 2, 10, 11, 13, 14, 15, 62]
    | 14 => some [0, 2, 10, 11, 13, 14, 15, 62, 63]
    | 15 => some [0, 2, 10, 11, 13, 14]
    | 16 => some [0, 2, 10, 11, 13, 14, 15, 62, 71]
    | 17 => some [0, 2, 10, 11, 13, 14]
    | 18 => some [0, 2, 10, 11, 13, 14, 15, 62, 82]
    | 19 => some [0, 2, 10, 11, 13, 14]
    | 20 => some [0, 2, 10, 11, 13, 14, 15, 62, 98]
    | 21 => some [0, 2, 10, 11, 13, 14]
    | 22 => some [0, 2, 10, 11, 13, 14, 15, 62, 114]
    | 23 => some [0, 2, 10, 11, 13, 14]
    | 24 => some [0, 2, 10, 11, 13, 14, 15, 62, 129]
    | 25 => some [0, 2, 10, 11, 13, 14]
    | 26 => some [0, 2, 10, 11, 13, 14, 15, 62, 149]
    | 27 => some [0, 2, 10, 11, 13, 14]
    | 28 => some [0, 2, 10, 11, 13, 14, 15, 62, 153]
    | 29 => some [0, 2, 10, 11, 13, 14, 15, 160]
    | 30 => some [0, 2, 10, 11, 13, 14]
    | 31 => some [0, 2, 10, 11, 13, 14, 15, 62, 163]
    | 32 => some [0, 2, 10, 11, 13, 14, 15, 16]
    | 33 => some [0, 2, 10, 11, 13, 14, 15, 17]
    | 34 => some [0, 2, 10, 11, 13, 14, 15, 18, 19]
    | 35 => some [0, 2, 10, 11, 13, 14, 15, 18]
    | 36 => some [0, 2, 10, 11, 13, 14, 15, 18, 20]
    | 37 => some [0, 2, 10, 11, 13, 14, 15, 18, 20, 204]
    | 38 => some [0, 2, 10, 11, 13, 14, 15, 18, 20]
    | 39 => some [0, 2, 10, 11, 13, 14, 15, 18, 20]
    | 40 => some [0, 2, 10, 11, 13, 14, 15, 217]
    | 41 => some [0, 2, 10, 11, 13, 14, 15, 21]
    | 42 => some [0, 2, 10, 11, 13, 14, 15, 21, 22]
    | 43 => some [0, 2, 10, 11, 13, 14, 15, 21, 22, 232]
    | 44 => some [0, 2, 10, 11, 13, 14, 15, 21, 22]
    | 45 => some [0, 2, 10, 11, 13, 14, 15, 21, 22]
    | 46 => some [8, 9]
    | _ => none
  | 33 => match r with
    | 0 => some [0]
    | 1 => some [0, 4]
    | 2 => some [2]
    | 3 => some [2]
    | _ => none
  | 34 => match r with
    | 0 => some [0]
    | 1 => some [2]
    | _ => none
  | 35 => match r with
    | 0 => some [1, 2]
    | 1 => some [1, 2, 5]
    | 2 => some [1, 2, 5, 6]
    | 3 => some [1, 2, 5, 6, 19]
    | 4 => some [1, 2, 5, 6]
    | 5 => some [1, 2, 5, 6, 7]
    | 6 => some [1, 2, 5, 6, 7, 8]
    | 7 => some [1, 2, 5, 6, 7, 8, 33]
    | 8 => some [1, 2, 5, 6, 7, 8, 33, 34]
    | 9 => some [1, 2, 5, 6, 8]
    | 10 => some [1, 2, 5, 6, 7, 8, 33, 41]
    | 11 => some [1, 2, 5, 6, 8]
    | 12 => some [1, 2, 5, 6, 7, 8, 50]
    | 13 => some [1, 2, 5, 6, 8]
    | 14 => some [1, 2, 5, 6]
    | 15 => some [4]
    | _ => none
  | 36 => match r with
    | 0 => some [0, 1]
    | 1 => some [4]
    | _ => none
  | 37 => match r with
    | 0 => some [0]
    | 1 => some [2]
    | _ => none
  | 38 => match r with
    | 0 => some [1, 2]
    | 1 => some [1, 2, 5]
    | 2 => some [1, 2, 5, 13]
    | 3 => some [4]
    | 4 => some [1, 2, 5, 18]
    | 5 => some [4]
    | 6 => some [1, 2, 5, 42]
    | 7 => some [4]
    | 8 => some [1, 2, 5, 51]
    | 9 => some [4]
    | 10 => some [1, 2, 5, 62]
    | 11 => some [4]
    | 12 => some [1, 2, 5, 67, 68, 69]
    | 13 => some [1, 2, 5, 67, 68, 69, 70]
    | 14 => some [1, 2, 5, 6, 7, 67, 68, 69]
    | 15 => some [1, 2, 5, 7, 67, 68, 69, 78]
    | 16 => some [4]
    | 17 => some [1, 2, 5, 67, 68, 69, 83]
    | 18 => some [4]
    | 19 => some [1, 2, 5, 67, 68, 69]
    | 20 => some [4]
    | _ => none
  | 39 => match r with
    | 0 => some [0]
    | 1 => some [0, 4]
    | 2 => some [2]
    | 3 => some [2]
    | _ => none
  | 40 => match r with
    | 0 => some [1, 2]
    | 1 => some [1, 2, 5]
    | 2 => some [1, 2, 5, 16]
    | 3 => some [4]
    | 4 => some [1, 2, 5, 43]
    | 5 => some [4]
    | 6 => some [1, 2, 5, 57]
    | 7 => some [4]
    | 8 => some [1, 2, 5, 67]
    | 9 => some [4]
    | 10 => some [1, 2, 5, 6]
    | 11 => some [1, 2, 5, 6, 72]
    | 12 => some [1, 2, 5, 6]
    | 13 => some [1, 2, 5, 6, 88]
    | 14 => some [4]
    | 15 => some [1, 2, 5, 7]
    | 16 => some [1, 2, 5, 7, 93]
    | 17 => some [1, 2, 5, 7]
    | 18 => some [1, 2, 5, 7, 106]
    | 19 => some [4]
    | 20 => some [1, 2, 5, 7, 115]
    | 21 => some [4]
    | 22 => some [4]
    | _ => none
  | 41 => match r with
    | 0 => some [0, 2, 5, 7]
    | 1 => some [0, 2, 5, 7, 10]
    | 2 => some [0, 2, 5, 7, 10, 11]
    | 3 => some [2]
    | 4 => some [0, 2, 5, 7, 10, 20]
    | 5 => some [2]
    | 6 => some [0, 2, 5, 7, 10, 33]
    | 7 => some [2]
    | 8 => some [0, 2, 5, 7, 10, 46]
    | 9 => some [2]
    | 10 => some [0, 2, 5, 7, 10, 59]
    | 11 => some [2]
    | 12 => some [0, 2, 5, 7, 10, 76]
    | 13 => some [2]
    | 14 => some [0, 2, 5, 7, 10, 99]
    | 15 => some [8]
    | 16 => some [0, 2, 5, 7, 10, 103]
    | 17 => some [2, 7, 111]
    | 18 => some [8]
    | 19 => some [0, 2, 5, 7, 10, 114]
    | 20 => some [2]
    | 21 => some [0, 2, 5, 7, 120]
    | 22 => some [2]
    | 23 => some [8]
    | _ => none
  | 42 => match r with
    | 0 => some [0, 1]
    | 1 => some [5, 6]
    | 2 => some [5, 14]
    | 3 => some [4]
    | 4 => some [4]
    | _ => none
  | 43 => match r with
    | 0 => some [0, 1]
    | 1 => some [0, 1, 7, 8]
    | 2 => some [0, 1, 7, 8, 9]
    | 3 => some [0, 1, 5, 7, 8]
    | 4 => some [0, 1, 5, 7, 8, 16]
    | 5 => some [4]
    | 6 => some [0, 1, 7, 8]
    | 7 => some [4]
    | _ => none
  | 44 => match r with
    | 0 => some [0]
    | 1 => some [2]
    | _ => none
  | 45 => match r with
    | 0 => some [0]
    | 1 => some [0, 3]
    | 2 => some [0, 3, 9, 10, 11]
    | 3 => some [0, 3, 9, 10, 11, 12]
    | 4 => some [0, 3, 5, 9, 10, 11]
    | 5 => some [0, 3, 9, 10, 11]
    | 6 => some [0, 3, 9, 10, 11, 20]
    | 7 => some [0, 3, 9, 10, 11]
    | 8 => some [0, 3, 9, 10, 11]
    | 9 => some [0, 6]
    | 10 => some [6, 25, 26, 27]
    | 11 => some [6, 25, 26, 27, 28]
    | 12 => some [6, 8, 25, 26, 27]
    | 13 => some [6, 25, 26, 27]
    | 14 => some [6, 25, 26, 27]
    | 15 => some [2]
    | _ => none
  | 46 => match r with
    | 0 => some [0, 1]
    | 1 => some [3]
    | _ => none
  | 47 => match r with
    | 0 => some [1, 2]
    | 1 => some [4]
    | _ => none
  | 48 => match r with
    | 0 => some [0]
    | 1 => some [2]
    | _ => none
  | 49 => match r with
    | 0 => some [1, 3, 5]
    | 1 => some [1, 3, 5, 7, 8]
    | 2 => some [1, 3, 5, 7, 8, 18]
    | 3 => some [6]
    | 4 => some [1, 3, 7, 8, 20, 21]
    | 5 => some [1, 3, 7, 8, 20, 21, 22]
    | 6 => some [1, 3, 7, 8, 9, 10, 20, 21]
    | 7 => some [1, 3, 7, 8, 10, 20, 21, 28]
    | 8 => some [1, 3, 7, 8, 10, 20, 21, 28, 29]
    | 9 => some [1, 3, 7, 8, 20, 21]
    | 10 => some [1, 3, 7, 8, 10, 20, 21, 28, 36]
    | 11 => some [1, 3, 7, 8, 20, 21]
    | 12 => some [1, 3, 7, 8, 10, 20, 21, 46]
    | 13 => some [1, 3, 7, 8, 20, 21]
    | 14 => some [1, 3, 7, 8, 20, 21]
    | 15 => some [6]
    | _ => none
  | 50 => match r with
    | 0 => some [1, 3, 5]
    | 1 => some [1, 3, 5, 7]
    | 2 => some [1, 3, 5, 7, 8]
    | 3 => some [1, 3, 5, 7, 8, 10]
    | 4 => some [1, 3, 5, 7, 8, 10, 25, 26]
    | 5 => some [1, 3, 5, 7, 8, 10, 25, 26, 27]
    | 6 => some [1, 3, 5, 7, 8, 10, 11, 12, 25, 26]
    | 7 => some [1, 3, 5, 7, 8, 10, 12, 25, 26, 33]
    | 8 => some [1, 3, 5, 7, 8, 10, 12, 25, 26, 33, 34]
    | 9 => some [1, 3, 5, 7, 8, 10, 25, 26]
    | 10 => some [1, 3, 5, 7, 8, 10, 12, 25, 26, 33, 43]
    | 11 => some [1, 3, 5, 7, 8, 10, 25, 26]
    | 12 => some [1, 3, 5, 7, 8, 10, 12, 25, 26, 33, 53]
    | 13 => some [1, 3, 5, 7, 8, 10, 25, 26]
    | 14 => some [1, 3, 5, 7, 8, 10, 12, 25, 26, 33, 64]
    | 15 => some [1, 3, 5, 7, 8, 10, 25, 26]
    | 16 => some [1, 3, 5, 7, 8, 10, 12, 25, 26, 33, 76]
    | 17 => some [1, 3, 5, 7, 8, 10, 25, 26]
    | 18 => some [1, 3, 5, 7, 8, 10, 12, 25, 26, 33, 92]
    | 19 => some [1, 3, 5, 7, 8, 10, 25, 26]
    | 20 => some [1, 3, 5, 7, 8, 10, 12, 25, 26, 107]
    | 21 => some [1, 3, 5, 7, 8, 10, 25, 26]
    | 22 => some [1, 3, 5, 7, 8, 10, 25, 26]
    | 23 => some [6]
    | _ => none
  | 51 => match r with
    | 0 => some [0]
    | 1 => some [0, 11]
    | 2 => some [2]
    | 3 => some [0, 3]
    | 4 => some [0, 3, 15]
    | 5 => some [0, 3]
    | 6 => some [0, 3, 4]
    | 7 => some [0, 3, 47]
    | 8 => some [2]
    | 9 => some [2]
    | _ => none
  | 52 => match r with
    | 0 => some [0, 1]
    | 1 => some [0, 1, 5]
    | 2 => some [0, 1, 5, 9]
    | 3 => some [0, 1, 5]
    | 4 => some [0, 1, 5, 26]
    | 5 => some [4]
    | 6 => some [4]
    | _ => none
  | 53 => match r with
    | 0 => some [1, 2, 3]
    | 1 => some [1, 2, 3, 16]
    | 2 => some [6]
    | 3 => some [1, 2, 3, 7]
    | 4 => some [1, 2, 3, 7, 8]
    | 5 => some [1, 2, 3, 7, 8, 18]
    | 6 => some [1, 2, 3, 7, 8]
    | 7 => some [1, 2, 3, 7, 8, 36]
    | 8 => some [6]
    | 9 => some [1, 2, 3, 38]
    | 10 => some [1, 2, 3, 38, 39]
    | 11 => some [6]
    | 12 => some [1, 2, 3, 38, 49]
    | 13 => some [6]
    | 14 => some [1, 2, 3, 38, 59]
    | 15 => some [1, 2, 3, 59]
    | 16 => some [6]
    | 17 => some [6]
    | _ => none
  | 54 => match r with
    | 0 => some [1, 3, 5]
    | 1 => some [1, 3, 5, 7]
    | 2 => some [1, 3, 5, 8, 9]
    | 3 => some [1, 3, 5, 8, 9, 22]
    | 4 => some [1, 3, 5, 8, 9, 22, 23]
    | 5 => some [6]
    | 6 => some [1, 3, 5, 8, 9, 22, 39]
    | 7 => some [1, 3, 5, 8, 9, 22, 39]
    | 8 => some [6]
    | 9 => some [1, 3, 5, 8, 9, 22, 52]
    | 10 => some [6]
    | 11 => some [1, 3, 5, 8, 9, 22, 64]
    | 12 => some [6]
    | 13 => some [1, 3, 5, 8, 9, 22, 76]
    | 14 => some [6]
    | 15 => some [1, 3, 5, 8, 9, 22, 94]
    | 16 => some [6]
    | 17 => some [1, 3, 5, 8, 9, 22, 100]
    | 18 => some [1, 3, 5, 8, 9, 100]
    | 19 => some [3, 5, 8, 9, 111]
    | 20 => some [6]
    | 21 => some [5, 8, 9, 10]
    | 22 => some [5, 8, 10, 125]
    | 23 => some [6]
    | 24 => some [6]
    | 25 => some [6]
    | _ => none
  | 55 => match r with
    | 0 => some [0, 1]
    | 1 => some [5]
    | 2 => some [4]
    | _ => none
  | 56 => match r with
    | 0 => some [0, 4, 5]
    | 1 => some [0, 4, 5, 6]
    | 2 => some [0, 4, 5, 6, 7, 8]
    | 3 => some [4, 5, 9]
    | 4 => some []
    | _ => none
  | 57 => match r with
    | 0 => some [0, 1]
    | 1 => some [0, 1, 9]
    | 2 => some [4, 5]
    | 3 => some [0, 1, 14]
    | 4 => some [4, 5]
    | 5 => some [0, 1, 6]
    | 6 => some [0, 1, 6, 18]
    | 7 => some [0, 1, 6]
    | 8 => some [0, 1, 6, 36]
    | 9 => some [4, 5]
    | 10 => some [0, 1, 6, 58]
    | 11 => some [4, 5]
    | 12 => some [0, 1, 60]
    | 13 => some [4, 5]
    | 14 => some [0, 1, 66]
    | 15 => some [4, 5]
    | 16 => some [4, 5]
    | _ => none
  | 58 => match r with
    | 0 => some [0, 1]
    | 1 => some [4]
    | _ => none
  | 59 => match r with
    | 0 => some [0]
    | 1 => some [2]
    | _ => none
  | 60 => match r with
    | 0 => some [0, 1]
    | 1 => some [0, 1, 6]
    | 2 => some [0, 1]
    | 3 => some [0, 1]
    | 4 => some [0, 1, 16]
    | 5 => some [0]
    | 6 => some [4]
    | _ => none
  | 61 => match r with
    | 0 => some [0, 2]
    | 1 => some [0, 2, 9]
    | 2 => some [2, 3]
    | 3 => some [2, 3]
    | _ => none
  | 62 => match r with
    | 0 => some [1, 2]
    | 1 => some [2]
    | _ => none
  | 63 => match r with
    | 0 => some [0]
    | 1 => some [0, 3]
    | 2 => some [2]
    | 3 => some [10]
    | 4 => some [2]
    | 5 => some [2]
    | _ => none
  | 64 => match r with
    | 0 => some [0, 1, 2]
    | 1 => some [6]
    | _ => none
  | 65 => match r with
    | 0 => some [1, 2, 4]
    | 1 => some [1, 2, 4, 13]
    | 2 => some [4]
    | 3 => some [4]
    | _ => none
  | 66 => match r with
    | 0 => some [0, 1]
    | 1 => some [0, 1, 5]
    | 2 => some [0, 1, 5, 9]
    | 3 => some [0, 1, 5]
    | 4 => some [0, 1, 5, 16]
    | 5 => some [4]
    | 6 => some [4]
    | _ => none
  | 67 => match r with
    | 0 => some [0]
    | 1 => some [0, 3]
    | 2 => some [0, 3, 10]
    | 3 => some [2]
    | 4 => some [2]
    | _ => none
  | 68 => match r with
    | 0 => some [1, 2]
    | 1 => some [2, 5]
    | 2 => some [2, 5, 6]
    | 3 => some [4]
    | 4 => some [2, 5, 10]
    | 5 => some [4]
    | 6 => some [2, 14]
    | 7 => some [4]
    | 8 => some [4]
    | _ => none
  | 69 => match r with
    | 0 => some [0, 1, 2]
    | 1 => some [6]
    | _ => none
  | 70 => match r with
    | 0 => some [0, 1]
    | 1 => some [0, 1, 6, 7]
    | 2 => some [0, 1, 6, 7, 17]
    | 3 => some [4, 5]
    | 4 => some [0, 1, 6, 7, 20]
    | 5 => some [4, 5]
    | 6 => some [0, 1, 6, 7, 25, 26, 27]
    | 7 => some [0, 1, 6, 7, 25, 26, 27, 28]
    | 8 => some [0, 1, 6, 7, 9, 25, 26, 27]
    | 9 => some [0, 1, 6, 7, 25, 26, 27, 53]
    | 10 => some [4, 5]
    | 11 => some [0, 1, 6, 7, 25, 26, 27]
    | 12 => some [0, 6, 10, 11]
    | 13 => some [0, 10, 11, 64]
    | 14 => some [4, 5]
    | 15 => some [4, 5]
    | _ => none
  | 71 => match r with
    | 0 => some [0]
    | 1 => some [0, 8]
    | 2 => some [2]
    | 3 => some [14]
    | 4 => some [2]
    | 5 => some [2]
    | _ => none
  | 72 => match r with
    | 0 => some [0]
    | 1 => some [2]
    | _ => none
  | 73 => match r with
    | 0 => some [0]
    | 1 => some [2]
    | _ => none
  | 74 => match r with
    | 0 => some [0]
    | 1 => some [2]
    | _ => none
  | 75 => match r with
    | 0 => some [0, 1, 2]
    | 1 => some [1, 2, 7]
    | 2 => some [1, 2, 7, 8]
    | 3 => some [6]
    | 4 => some [1, 2, 7, 13]
    | 5 => some [6]
    | 6 => some [1, 2, 7, 20]
    | 7 => some [6]
    | 8 => some [1, 2, 7, 26]
    | 9 => some [6]
    | 10 => some [1, 2, 7, 31]
    | 11 => some [6]
    | 12 => some [1, 2, 7, 36]
    | 13 => some [6]
    | 14 => some [1, 2, 7, 41]
    | 15 => some [6]
    | 16 => some [1, 2, 7, 46]
    | 17 => some [6]
    | 18 => some [1, 2, 7, 51]
    | 19 => some [6]
    | 20 => some [1, 2, 7, 57]
    | 21 => some [6]
    | 22 => some [1, 2, 7, 63]
    | 23 => some [6]
    | 24 => some [1, 2, 7, 69]
    | 25 => some [6]
    | 26 => some [1, 2, 75]
    | 27 => some [6]
    | 28 => some [6]
    | _ => none
  | 76 => match r with
    | 0 => some [0, 1]
    | 1 => some [4]
    | _ => none
  | 77 => match r with
    | 0 => some [0]
    | 1 => some [0, 3]
    | 2 => some [3, 4]
    | 3 => some [3, 4, 5]
    | 4 => some [3, 4, 7]
    | 5 => some [3, 4, 7]
    | 6 => some [3, 4, 7]
    | 7 => some [3, 4, 11]
    | 8 => some [3, 4, 13]
    | 9 => some [3, 4, 13]
    | 10 => some [3, 4, 13]
    | 11 => some [3, 4, 13]
    | 12 => some [3, 4, 13]
    | 13 => some [3, 4, 19]
    | 14 => some [3, 4, 19]
    | 15 => some [3, 4, 22]
    | 16 => some [3, 4, 22]
    | 17 => some [3, 4, 22]
    | 18 => some [3, 22]
    | 19 => some [3]
    | 20 => some [2, 3]
    | 21 => some [3]
    | 22 => some [2, 3]
    | 23 => some [2, 3]
    | 24 => some [2, 3]
    | 25 => some [2, 3]
    | _ => none
  | 78 => match r with
    | 0 => some [0, 1, 2]
    | 1 => some [1, 2, 7]
    | 2 => some [1, 2, 7, 8]
    | 3 => some [6]
    | 4 => some [1, 2, 7, 12]
    | 5 => some [6]
    | 6 => some [1, 2, 7, 17]
    | 7 => some [6]
    | 8 => some [1, 2, 7, 22]
    | 9 => some [6]
    | 10 => some [1, 2, 27]
    | 11 => some [6]
    | 12 => some [6]
    | _ => none
  | 79 => match r with
    | 0 => some [0]
    | 1 => some [3]
    | 2 => some [2]
    | 3 => some [2]
    | _ => none
  | 80 => match r with
    | 0 => some [0, 1, 2]
    | 1 => some [1, 2, 7]
    | 2 => some [1, 2, 7, 8]
    | 3 => some [6]
    | 4 => some [1, 2, 7, 12]
    | 5 => some [6]
    | 6 => some [1, 2, 7, 20]
    | 7 => some [6]
    | 8 => some [1, 2, 7, 28]
    | 9 => some [6]
    | 10 => some [1, 2, 7, 33]
    | 11 => some [1, 2, 7, 33]
    | 12 => some [6]
    | 13 => some [1, 2, 7, 39]
    | 14 => some [6]
    | 15 => some [1, 2, 7, 44]
    | 16 => some [6]
    | 17 => some [1, 2, 49]
    | 18 => some [6]
    | 19 => some [6]
    | _ => none
  | 81 => match r with
    | 0 => some [0]
    | 1 => some [3]
    | 2 => some [3, 7]
    | 3 => some [2]
    | 4 => some [3, 11]
    | 5 => some [2]
    | 6 => some [2]
    | _ => none
  | 82 => match r with
    | 0 => some [0]
    | 1 => some [3]
    | 2 => some [2]
    | 3 => some [2]
    | _ => none
  | 83 => match r with
    | 0 => some [0, 1]
    | 1 => some [4]
    | _ => none
  | 84 => match r with
    | 0 => some [0, 1]
    | 1 => some [4]
    | _ => none
  | 85 => match r with
    | 0 => some [0, 1]
    | 1 => some [4]
    | _ => none
  | 86 => match r with
    | 0 => some [0, 1]
    | 1 => some [0, 1, 7]
    | 2 => some [4]
    | 3 => some [4]
    | _ => none
  | 87 => match r with
    | 0 => some [0, 1]
    | 1 => some [0, 1, 7]
    | 2 => some [4]
    | 3 => some [4]
    | _ => none
  | 88 => match r with
    | 0 => some [0, 1, 2]
    | 1 => some [1, 2, 10]
    | 2 => some [1, 2, 10, 11, 12]
    | 3 => some [1, 2, 7, 8, 10]
    | 4 => some [1, 2, 7, 10, 19]
    | 5 => some [6]
    | 6 => some [6]
    | _ => none
  | 89 => match r with
    | 0 => some [0]
    | 1 => some [2]
    | _ => none
  | 90 => match r with
    | 0 => some [0, 1]
    | 1 => some [4]
    | _ => none
  | 91 => match r with
    | 0 => some [0, 1]
    | 1 => some [4]
    | _ => none
  | 92 => match r with
    | 0 => some [0, 1]
    | 1 => some [4]
    | _ => none
  | 93 => match r with
    | 0 => some [0, 1]
    | 1 => some [0, 1]
    | 2 => some [0, 1, 10]
    | 3 => some [4]
    | 4 => some [4]
    | _ => none
  | 94 => match r with
    | 0 => some [0, 1]
    | 1 => some [0, 1]
    | 2 => some [0, 1, 10]
    | 3 => some [4]
    | 4 => some [4]
    | _ => none
  | 95 => match r with
    | 0 => some [0]
    | 1 => some [2]
    | _ => none
  | _ => none
def Cp.mat (f r : Nat) : List (Nat × Option Nat × Nat) := match f with
  | 21 => match r with
    | 4 => [(5, none, 1)]
    | _ => []
  | 24 => match r with
    | 1 => [(3, some 1, 6)]
    | _ => []
  | _ => []
def Cp.fz (f r : Nat) : Bool × Bool := match f with
  | 32 => match r with
    | 6 => (true, true)
    | 15 => (true, true)
    | 17 => (true, true)
    | 19 => (true, true)
    | 21 => (true, true)
    | 23 => (true, true)
    | 25 => (true, true)
    | 39 => (true, true)
    | 45 => (true, true)
    | _ => (true, false)
  | 35 => match r with
    | 14 => (true, true)
    | _ => (true, false)
  | 41 => match r with
    | 3 => (true, true)
    | 5 => (true, true)
    | 7 => (true, true)
    | 9 => (true, true)
    | 11 => (true, true)
    | 13 => (true, true)
    | _ => (true, false)
  | _ => (true, false)
def Cp.thr (f : Nat) : Bool := match f with
  | 18 => true
  | 19 => true
  | 20 => true
  | 26 => true
  | 60 => true
  | _ => false
def Cp.own (f : Nat) : Bool := match f with
  | 45 => true
  | _ => false
def Cp.prim (f : Nat) : Option (Nat × Nat) := match f with
  | 33 => some (1, 8)
  | 39 => some (5, 40)
  | _ => none
def Cp.cfg : Cfg := { prim := Cp.prim, thr := Cp.thr, own := Cp.own, fz := Cp.fz, keep := Cp.keep, mat := Cp.mat }
end Go.Ac
end

section
set_option linter.unusedVariables false
set_option linter.unusedSimpArgs false
namespace Go.Ac
variable {P : Program} {cfg : Cfg}

theorem WP.gen [Gl] {fid : FuncId} {code : Code} {e : Env} {hp : Hp} {n c n0 : Nat} {wl : List Nat} {Q : Ex → St → Prop}
    (h : ∀ hp' wl', hp' = hp → wl' = wl → WP P cfg fid code ⟨e, hp', n, c, n0, wl'⟩ Q) : WP P cfg fid code ⟨e, hp, n, c, n0, wl⟩ Q := h hp wl rfl rfl

theorem WP.condT [Gl] {fid : FuncId} {s : St} {q : Operand} {a b : Code} {Q : Ex → St → Prop} (hq : evalV s.env q = .d (.bool true)) (h : WP P cfg fid a s Q) : WP P cfg fid (.cond q a b) s Q :=
  WP.cond true hq (fun _ => h) (fun h => by cases h)
theorem WP.condF [Gl] {fid : FuncId} {s : St} {q : Operand} {a b : Code} {Q : Ex → St → Prop} (hq : evalV s.env q = .d (.bool false)) (h : WP P cfg fid b s Q) : WP P cfg fid (.cond q a b) s Q :=
  WP.cond false hq (fun h => by cases h) (fun _ => h)

/-- A call of a function that is handed the memory: the memory is handed back. -/
theorem lim_wp [Gl] {f : FuncId} {fn : Func} {body : Code} {vs : List V} {hp : Hp} {n c : Nat} {Q : V → St → Prop} (hf : P.funcs[f]? = some fn) (hb : fn.body = some body) (hok : (Nat.ble vs.length fn.ntmps && codeOK fn.ntmps body) = true)
    (h : WP P cfg f body ⟨envOf 0 vs, hp, n, c, n, []⟩ (fun e t => (e = .normal ∨ e = .ret) ∧ ∃ rs, resultsV P t fn.results.toList = some rs ∧ (cfg.thr f = true ∨ closeT t.hp.get (tup rs) = none) ∧ Q (tup rs) t)) :
    ∃ v t, lim P cfg f vs hp n c = some ⟨v, t.hp, t.n, t.c, t.wl⟩ ∧ Q v t := by
  obtain ⟨e, t, ⟨K, hK⟩, he, rs, hrs, ht, hq⟩ := h
  have hfin : finish (cfg.thr f) n t (tup rs) = some ⟨tup rs, t.hp, t.n, t.c, t.wl⟩ := by
    unfold finish
    rcases ht with ht | ht
    · rw [ht]; rfl
    · cases hc : cfg.thr f with
      | true => rfl
      | false => simp only [Bool.false_eq_true, if_false, ht]
  refine ⟨tup rs, t, lim_of ⟨K, fun k hk => ?_⟩, hq⟩
  unfold callF callBy
  rw [hf]
  simp only [hb, hok]
  rw [show enter vs hp n c = ⟨envOf 0 vs, hp, n, c, n, []⟩ from rfl, hK k hk]
  rcases he with rfl | rfl <;> simp only [leave, hrs, hfin]

/-- The same: its own objects are let go, its result is data. -/
theorem lim_wpD [Gl] {f : FuncId} {fn : Func} {body : Code} {vs : List V} {hp : Hp} {n c : Nat} {Q : V → St → Prop} (hf : P.funcs[f]? = some fn) (hb : fn.body = some body) (hok : (Nat.ble vs.length fn.ntmps && codeOK fn.ntmps body) = true)
    (hthr : cfg.thr f = false) (h : WP P cfg f body ⟨envOf 0 vs, hp, n, c, n, []⟩ (fun e t => (e = .normal ∨ e = .ret) ∧ ∃ rs w ids, resultsV P t fn.results.toList = some rs ∧ closeT t.hp.get (tup rs) = some (w, ids) ∧ (w.flat || ids.all (fun i => Nat.ble n i)) = true ∧ Q w t)) :
    ∃ v t, lim P cfg f vs hp n c = some ⟨v, Hp.trunc n t.hp, n, t.c, t.wl⟩ ∧ Q v t := by
  obtain ⟨e, t, ⟨K, hK⟩, he, rs, w, ids, hrs, hcl, hfl, hq⟩ := h
  have hfin : finish (cfg.thr f) n t (tup rs) = some ⟨w, Hp.trunc n t.hp, n, t.c, t.wl⟩ := by
    unfold finish
    rw [hthr]
    simp only [Bool.false_eq_true, if_false, hcl, hfl, if_true]
  refine ⟨w, t, lim_of ⟨K, fun k hk => ?_⟩, hq⟩
  unfold callF callBy
  rw [hf]
  simp only [hb, hok]
  rw [show enter vs hp n c = ⟨envOf 0 vs, hp, n, c, n, []⟩ from rfl, hK k hk]
  rcases he with rfl | rfl <;> simp only [leave, hrs, hfin]

/-! ### What has been written -/
theorem mem_addNew {n0 j : Nat} : ∀ {wr : List (Nat × Ob)} {wl : List Nat}, j ∈ addNew n0 wl wr ↔ j ∈ wl ∨ (j < n0 ∧ j ∈ wr.map (·.1))
  | [], wl => by simp [addNew]
  | (k, o) :: r, wl => by
    simp only [addNew]
    cases hb : Nat.blt k n0 with
    | true =>
      have hk : k < n0 := by rw [Nat.blt_eq] at hb; exact hb
      cases ha : wl.any (Nat.beq k) with
      | true =>
        have hin : k ∈ wl := by
          rw [List.any_eq_true] at ha
          obtain ⟨x, hx, he⟩ := ha
          rw [Nat.eq_of_beq_eq_true he]; exact hx
        simp only [mem_addNew, List.map_cons, List.mem_cons]
        constructor
        · rintro (h | ⟨h1, h2⟩)
          · exact .inl h
          · exact .inr ⟨h1, .inr h2⟩
        · rintro (h | ⟨h1, rfl | h2⟩)
          · exact .inl h
          · exact .inl hin
          · exact .inr ⟨h1, h2⟩
      | false =>
        simp only [mem_addNew, List.map_cons, List.mem_cons]
        constructor
        · rintro ((rfl | h) | ⟨h1, h2⟩)
          · exact .inr ⟨hk, .inl rfl⟩
          · exact .inl h
          · exact .inr ⟨h1, .inr h2⟩
        · rintro (h | ⟨h1, rfl | h2⟩)
          · exact .inl (.inr h)
          · exact .inl (.inl rfl)
          · exact .inr ⟨h1, h2⟩
    | false =>
      have hk : ¬ k < n0 := by intro h; rw [← Nat.blt_eq] at h; rw [hb] at h; cases h
      simp only [mem_addNew, List.map_cons, List.mem_cons]
      constructor
      · rintro (h | ⟨h1, h2⟩)
        · exact .inl h
        · exact .inr ⟨h1, .inr h2⟩
      · rintro (h | ⟨h1, rfl | h2⟩)
        · exact .inl h
        · exact absurd h1 hk
        · exact .inr ⟨h1, h2⟩

theorem Hp.get_sets_ne : ∀ (wr : List (Nat × Ob)) (h : Hp) (j : Nat), (∀ p, p ∈ wr → p.1 ≠ j) → (Hp.sets h wr).get j = h.get j
  | [], h, j, _ => rfl
  | (k, o) :: r, h, j, hn => by
    simp only [Hp.sets]
    rw [Hp.get_sets_ne r _ j fun p hp => hn p (List.mem_cons_of_mem _ hp), Hp.get_set_ne _ _ _ _ (hn (k, o) (List.mem_cons_self ..))]

theorem mem_wrOf2 {look : Look} : ∀ {ids : List Nat} {p : Nat × Ob}, p ∈ wrOf look ids ↔ p.1 ∈ ids ∧ look p.1 = some p.2 := mem_wrOf

theorem Hp.get_sets_wrOf {look : Look} : ∀ (ids : List Nat) (h : Hp) (j : Nat), (h.sets (wrOf look ids)).get j = if j ∈ ids ∧ (look j).isSome = true then look j else h.get j := by
  intro ids h j
  have e := hp_get_sets (wrOf look ids) h
  rw [e, hupd_wrOf]

/-- Only what is named, or new, has been written; and that has been noted. -/
def WI (ids0 : List Nat) (n0 : Nat) (hp0 : Hp) (wl : List Nat) (hp : Hp) : Prop := (∀ j, j ∈ wl → j ∈ ids0) ∧ ∀ j, j < n0 → j ∉ wl → hp.get j = hp0.get j

theorem WI.refl {ids0 : List Nat} {n0 : Nat} {hp : Hp} : WI ids0 n0 hp [] hp := ⟨fun j h => by simp at h, fun _ _ _ => rfl⟩
theorem WI.sets {ids0 : List Nat} {n0 : Nat} {hp0 hp : Hp} {wl : List Nat} (h : WI ids0 n0 hp0 wl hp) {wr : List (Nat × Ob)} (hw : ∀ p, p ∈ wr → p.1 ∈ ids0 ∨ n0 ≤ p.1) : WI ids0 n0 hp0 (addNew n0 wl wr) (hp.sets wr) := by
  refine ⟨fun j hj => ?_, fun j hj hn => ?_⟩
  · rcases mem_addNew.1 hj with h1 | ⟨h1, h2⟩
    · exact h.1 j h1
    · obtain ⟨p, hp, rfl⟩ := List.mem_map.1 h2
      exact (hw p hp).resolve_right (by omega)
  · rw [Hp.get_sets_ne]
    · exact h.2 j hj fun h1 => hn (mem_addNew.2 (.inl h1))
    · intro p hp he
      exact hn (mem_addNew.2 (.inr ⟨hj, List.mem_map.2 ⟨p, hp, he⟩⟩))
theorem WI.set {ids0 : List Nat} {n0 : Nat} {hp0 hp : Hp} {wl : List Nat} (h : WI ids0 n0 hp0 wl hp) {k : Nat} {o : Ob} (hk : k ∈ ids0 ∨ n0 ≤ k) : WI ids0 n0 hp0 (addNew n0 wl [(k, o)]) (hp.set k o) :=
  h.sets (wr := [(k, o)]) fun p hp => by rw [List.mem_singleton] at hp; subst hp; exact hk
theorem WI.frame {ids0 : List Nat} {n0 : Nat} {hp0 hp : Hp} {wl : List Nat} (h : WI ids0 n0 hp0 wl hp) {j : Nat} (hj : j < n0) (hn : j ∉ ids0) : hp.get j = hp0.get j := h.2 j hj fun hw => hn (h.1 j hw)
theorem WI.mono {ids0 ids1 : List Nat} {n0 : Nat} {hp0 hp : Hp} {wl : List Nat} (h : WI ids0 n0 hp0 wl hp) (hs : ∀ j, j ∈ ids0 → j ∈ ids1) : WI ids1 n0 hp0 wl hp := ⟨fun j hj => hs j (h.1 j hj), h.2⟩
theorem WI.trunc {ids0 : List Nat} {n0 m : Nat} {hp0 hp : Hp} {wl : List Nat} (h : WI ids0 n0 hp0 wl hp) (hm : n0 ≤ m) : WI ids0 n0 hp0 wl (Hp.trunc m hp) :=
  ⟨h.1, fun j hj hn => by rw [Hp.get_trunc _ _ _ (by omega)]; exact h.2 j hj hn⟩

/-- What a caller writes of what a callee has written. -/
def tWr (r : CR) (n : Nat) : List (Nat × Ob) := wrOf r.hp.get (r.wl ++ (List.range (r.n - n)).map (n + ·))

section
variable {hp0 : Hp} {n0 : Nat} {ids0 : List Nat} {r : CR}

theorem tWr_keys (hn : n0 ≤ r.n) (hw : WI ids0 n0 hp0 r.wl r.hp) (hids : ∀ j, j ∈ ids0 → j < n0) {k : Nat} (hk : k ∈ (tWr r n0).map (·.1)) : (k ∈ ids0 ∨ n0 ≤ k) ∧ k < r.n := by
  obtain ⟨p, hp, rfl⟩ := List.mem_map.1 hk
  have := (mem_wrOf2.1 hp).1
  rcases List.mem_append.1 this with h1 | h1
  · have := hw.1 _ h1
    have h2 := hids _ this
    exact ⟨.inl this, by omega⟩
  · obtain ⟨x, hx, he⟩ := List.mem_map.1 h1
    have := List.mem_range.1 hx
    rw [← he]
    exact ⟨.inr (by omega), by omega⟩

theorem tWr_same (hw : WI ids0 n0 hp0 r.wl r.hp) {j : Nat} (hj : j < r.n) (hs : (r.hp.get j).isSome = true) : (hp0.sets (tWr r n0)).get j = r.hp.get j := by
  unfold tWr
  rw [Hp.get_sets_wrOf]
  split
  · rfl
  · rename_i hn
    have h1 : j ∉ r.wl ++ (List.range (r.n - n0)).map (n0 + ·) := fun hm => hn ⟨hm, hs⟩
    rw [List.mem_append, not_or] at h1
    have h2 : j < n0 := by
      apply Classical.byContradiction
      intro hge
      exact h1.2 (List.mem_map.2 ⟨j - n0, List.mem_range.2 (by omega), by omega⟩)
    exact (hw.2 j h2 h1.1).symm

theorem tWr_old (hw : WI ids0 n0 hp0 r.wl r.hp) {j : Nat} (hj : j < n0) (hn : j ∉ ids0) : (hp0.sets (tWr r n0)).get j = hp0.get j := by
  unfold tWr
  rw [Hp.get_sets_wrOf, if_neg]
  rintro ⟨h1, _⟩
  rcases List.mem_append.1 h1 with h2 | h2
  · exact hn (hw.1 j h2)
  · obtain ⟨x, _, he⟩ := List.mem_map.1 h2
    omega
end

/-- A call that is handed objects, as a region's operation. -/
theorem RT.callT [Gl] {fid : FuncId} {rid : Nat} {fo : Operand} {args : Array Operand} {ts : Array TypeId} {dst : Option Nat} {g : Gd} {r : List PO} {e e' : Env} {hp : Hp} {n c n0 : Nat} {wl : List Nat} {f : FuncId} {caps vs : List V} {q : CR} {t : St} {qs : List Tq}
    (hg : Is (wantedP e g) (some true)) (hfo : Is (evalV e fo) (.fn f caps)) (hpr : Is (cfg.prim f) none) (hvs : Is (args.toList.map (evalV e) ++ caps) vs) (hcl : Is (closeArgs (if cfg.thr f then noLook else hp.get) vs) none) (hd : lim P cfg f vs hp n c = some q)
    (hk : ∀ k, k ∈ (tWr q n).map (·.1) → k < n + (q.n - n)) (he : putEnv e dst q.v = e') (h' : RT P cfg fid rid r ⟨e', hp.sets (tWr q n), n + (q.n - n), c + (q.c - c), n0, addNew n0 wl (tWr q n)⟩ t qs) :
    RT P cfg fid rid (⟨.call ⟨.value fo, args, ts⟩, dst, g⟩ :: r) ⟨e, hp, n, c, n0, wl⟩ t (⟨[], (tWr q n).map (·.1), true, q.c - c⟩ :: qs) := by
  unfold Is at *
  have : callR cfg (lim P cfg) hp n c f vs = some ⟨q.v, tWr q n, [], q.n - n, q.c - c, true⟩ := by
    unfold callR
    rw [hcl]
    simp only [hd]
    rfl
  refine RT.wr (wr := tWr q n) (dn := q.n - n) (dc := q.c - c) ?_ he rfl rfl rfl rfl h'
  show opP P cfg fid rid _ _ = _
  unfold opP
  simp only [hg]
  have h2 : opP0 P cfg fid rid ⟨.call ⟨.value fo, args, ts⟩, dst, g⟩ ⟨e, hp, n, c, n0, wl⟩ = some ⟨q.v, tWr q n, [], q.n - n, q.c - c, true⟩ := by
    simp only [opP0, hfo, hpr]
    rw [hvs, this]
  rw [h2]
  simp only
  rw [if_pos]
  rw [List.all_eq_true]
  intro p hp
  rw [Nat.blt_eq]
  exact hk p.1 (List.mem_map.2 ⟨p, hp, rfl⟩)

end Go.Ac
end
