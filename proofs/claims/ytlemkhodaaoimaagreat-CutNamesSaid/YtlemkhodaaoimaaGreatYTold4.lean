/- A part of the proof that reglet/regletlaw12.CutNames answers true. -/
import Derived.Test.YtlemkhodaaoimaaGreatYInst
set_option linter.unusedVariables false
noncomputable section
namespace CutN
open Go Am
def q4 : List Nat := [105,110,116,32,97,32,61,32,115,105,122,101,111,102,40,115,116,114,117,99,116,32,123,32,105,110,116,32,98,59,32,125,41,59]
def r4 : List Nat := [105,110,116,32,97,32,61,32,115,105,122,101,111,102,32,40,32,115,116,114,117,99,116,32,123,32,105,110,116,32,98,32,59,32,125,32,41,32,59]
theorem told4 : callN Go.Proofs.Tryz.prog (specL fns0) 3000 (.func 5 [] []) [.str q4] noHeap 0 (isStr r4) noP = true := by kernel_rfl
end CutN
