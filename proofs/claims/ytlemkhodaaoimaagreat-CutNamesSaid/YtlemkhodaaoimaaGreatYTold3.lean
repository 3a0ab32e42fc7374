/- A part of the proof that reglet/regletlaw12.CutNames answers true. -/
import Derived.Test.YtlemkhodaaoimaaGreatYInst
set_option linter.unusedVariables false
noncomputable section
namespace CutN
open Go Am
def q3 : List Nat := [115,116,114,117,99,116,32,83,32,123,32,105,110,116,32,97,59,32,125,32,102,40,41,32,123,32,123,32,105,110,116,32,98,59,32,125,32,119,104,105,108,101,32,40,49,41,32,59,32,125]
def r3 : List Nat := [115,116,114,117,99,116,32,83,32,123,32,47,32,62,32,105,110,116,32,97,32,59,32,47,32,125,32,102,32,40,32,41,32,123,32,47,32,62,32,123,32,47,32,62,62,32,105,110,116,32,98,32,59,32,47,32,62,32,125,32,47,32,62,32,119,104,105,108,101,32,40,32,49,32,41,32,47,32,62,62,32,59,32,47,32,125]
theorem told3 : callN Go.Proofs.Tryz.prog (specL fns0) 3000 (.func 5 [] []) [.str q3] noHeap 0 (isStr r3) noP = true := by kernel_rfl
end CutN
