/- A part of the proof that reglet/regletlaw12.CutNames answers true. -/
import Derived.Test.YtlemkhodaaoimaaGreatYInst
set_option linter.unusedVariables false
noncomputable section
namespace CutN
open Go Am
def q0 : List Nat := [115,116,114,117,99,116,32,123,32,105,110,116,32,97,59,32,101,110,117,109,32,123,32,65,44,32,66,32,125,32,98,59,32,125,32,120,59]
def r0 : List Nat := [115,116,114,117,99,116,32,123,32,47,32,62,32,105,110,116,32,97,32,59,32,47,32,62,32,101,110,117,109,32,123,32,47,32,62,62,32,65,32,44,32,47,32,62,62,32,66,32,47,32,62,32,125,32,98,32,59,32,47,32,125,32,120,32,59]
theorem told0 : callN Go.Proofs.Tryz.prog (specL fns0) 3000 (.func 5 [] []) [.str q0] noHeap 0 (isStr r0) noP = true := by kernel_rfl
end CutN
