/- A part of the proof that reglet/regletlaw13.GapsNames answers true: evaluations by the kernel, and the tables of answers that they use. -/
import Derived.Test.YtjcmcblcaakbaaaGreatDoorGI5
set_option linter.unusedVariables false
set_option maxRecDepth 100000
noncomputable section
namespace GapsN
open Go Am
def q5 : List Nat := [105,110,116,32,102,40,41,123,120,61,97,38,32,38,98,43,32,43,43,99,59,125]
def r5 : List Nat := [105,110,116,32,102,40,41,32,123,32,47,32,120,32,61,32,97,32,38,32,38,98,32,43,32,43,43,99,59,32,47,32,125]
theorem told5 : callN Go.Proofs.Tryz.prog (specL fnsJ5) 3000 (.func 5 [] []) [.str q5] noHeap 0 (isStr r5) noP = true := by kernel_rfl
end GapsN
