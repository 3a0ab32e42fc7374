/- A part of the proof that reglet/regletlaw13.GapsNames answers true: evaluations by the kernel, and the tables of answers that they use. -/
import Derived.Test.YtjcmcblcaakbaaaGreatDoorGI3
set_option linter.unusedVariables false
set_option maxRecDepth 100000
noncomputable section
namespace GapsN
open Go Am
def q3 : List Nat := [116,121,112,101,100,101,102,32,105,110,116,32,84,59,105,110,116,32,102,40,41,123,102,111,114,40,59,59,41,59,99,97,115,101,32,49,58,59,84,32,121,61,123,46,97,61,49,44,91,50,93,46,98,61,51,125,59,125]
def r3 : List Nat := [116,121,112,101,100,101,102,32,105,110,116,32,84,59,32,47,32,105,110,116,32,102,40,41,32,123,32,47,32,102,111,114,32,40,59,59,41,32,47,32,59,32,47,32,99,97,115,101,32,49,58,32,47,32,59,32,47,32,84,32,121,32,61,32,123,32,46,97,32,61,32,49,44,32,91,50,93,46,98,32,61,32,51,32,125,59,32,47,32,125]
theorem told3 : callN Go.Proofs.Tryz.prog (specL fnsJ3) 3000 (.func 5 [] []) [.str q3] noHeap 0 (isStr r3) noP = true := by kernel_rfl
end GapsN
