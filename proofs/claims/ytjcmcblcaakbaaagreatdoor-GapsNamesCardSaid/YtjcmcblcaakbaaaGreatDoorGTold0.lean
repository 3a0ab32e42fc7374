/- A part of the proof that reglet/regletlaw13.GapsNames answers true: evaluations by the kernel, and the tables of answers that they use. -/
import Derived.Test.YtjcmcblcaakbaaaGreatDoorGI0
set_option linter.unusedVariables false
set_option maxRecDepth 100000
noncomputable section
namespace GapsN
open Go Am
def q0 : List Nat := [105,110,116,32,121,40,41,123,120,61,45,97,91,49,93,43,102,40,98,44,99,41,42,40,32,100,45,62,101,32,43,43,41,59,125]
def r0 : List Nat := [105,110,116,32,121,40,41,32,123,32,47,32,120,32,61,32,45,97,91,49,93,32,43,32,102,40,98,44,32,99,41,32,42,32,40,100,45,62,101,43,43,41,59,32,47,32,125]
theorem told0 : callN Go.Proofs.Tryz.prog (specL fnsJ0) 3000 (.func 5 [] []) [.str q0] noHeap 0 (isStr r0) noP = true := by kernel_rfl
end GapsN
