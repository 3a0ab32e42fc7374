/- A part of the proof that reglet/regletlaw12.CutNames answers true. -/
import Derived.Test.YtlemkhodaaoimaaGreatYInst
set_option linter.unusedVariables false
noncomputable section
namespace CutN
open Go Am
def q6 : List Nat := [120]
def r6 : List Nat := []
theorem told6 : callN Go.Proofs.Tryz.prog (specL fns0) 3000 (.func 5 [] []) [.str q6] noHeap 0 (isStr r6) noP = true := by kernel_rfl
end CutN
