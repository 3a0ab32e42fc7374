/- A part of the proof that reglet/regletlaw12.CutNames answers true. -/
import Derived.Test.YtlemkhodaaoimaaGreatYInst
set_option linter.unusedVariables false
noncomputable section
namespace CutN
open Go Am
def q1 : List Nat := [105,110,116,32,102,40,41,32,123,32,105,102,32,40,97,41,32,98,59,32,101,108,115,101,32,105,102,32,40,99,41,32,123,32,100,59,32,125,32,101,108,115,101,32,59,32,76,58,32,101,59,32,125]
def r1 : List Nat := [105,110,116,32,102,32,40,32,41,32,123,32,47,32,62,32,105,102,32,40,32,97,32,41,32,47,32,62,62,32,98,32,59,32,47,32,62,32,101,108,115,101,32,105,102,32,40,32,99,32,41,32,123,32,47,32,62,62,32,100,32,59,32,47,32,62,32,125,32,101,108,115,101,32,47,32,62,62,32,59,32,47,32,76,32,58,32,47,32,62,32,101,32,59,32,47,32,125]
theorem told1 : callN Go.Proofs.Tryz.prog (specL fns0) 3000 (.func 5 [] []) [.str q1] noHeap 0 (isStr r1) noP = true := by kernel_rfl
end CutN
