/- A part of the proof that reglet/regletlaw12.CutNames answers true. -/
import Derived.Test.YtlemkhodaaoimaaGreatYInst
set_option linter.unusedVariables false
noncomputable section
namespace CutN
open Go Am
def q7 : List Nat := [105,110,116,32,102,40,41,32,123,32,100,111,32,120,59,32,119,104,105,108,101,32,40,121,41,59,32,100,111,32,123,32,125,32,119,104,105,108,101,32,40,122,41,59,32,125]
def r7 : List Nat := [105,110,116,32,102,32,40,32,41,32,123,32,47,32,62,32,100,111,32,47,32,62,62,32,120,32,59,32,47,32,62,32,119,104,105,108,101,32,40,32,121,32,41,32,59,32,47,32,62,32,100,111,32,123,32,47,32,62,32,125,32,119,104,105,108,101,32,40,32,122,32,41,32,59,32,47,32,125]
theorem told7 : callN Go.Proofs.Tryz.prog (specL fns0) 3000 (.func 5 [] []) [.str q7] noHeap 0 (isStr r7) noP = true := by kernel_rfl
end CutN
