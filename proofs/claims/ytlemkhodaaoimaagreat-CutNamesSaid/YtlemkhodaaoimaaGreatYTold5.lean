/- A part of the proof that reglet/regletlaw12.CutNames answers true. -/
import Derived.Test.YtlemkhodaaoimaaGreatYInst
set_option linter.unusedVariables false
noncomputable section
namespace CutN
open Go Am
def q5 : List Nat := [115,116,114,117,99,116,32,83,32,120,59]
def r5 : List Nat := [115,116,114,117,99,116,32,83,32,120,32,59]
theorem told5 : callN Go.Proofs.Tryz.prog (specL fns0) 3000 (.func 5 [] []) [.str q5] noHeap 0 (isStr r5) noP = true := by kernel_rfl
end CutN
