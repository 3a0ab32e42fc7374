/- A part of the proof that reglet/regletlaw13.GapsNames answers true: evaluations by the kernel, and the tables of answers that they use. -/
import Derived.Test.YtjcmcblcaakbaaaGreatDoorGI2
set_option linter.unusedVariables false
set_option maxRecDepth 100000
noncomputable section
namespace GapsN
open Go Am
def q2 : List Nat := [116,121,112,101,100,101,102,32,105,110,116,32,84,59,105,110,116,32,102,40,41,123,97,61,45,32,45,98,43,115,105,122,101,111,102,40,105,110,116,41,42,40,84,41,99,63,100,58,101,59,125]
def r2 : List Nat := [116,121,112,101,100,101,102,32,105,110,116,32,84,59,32,47,32,105,110,116,32,102,40,41,32,123,32,47,32,97,32,61,32,45,32,45,98,32,43,32,115,105,122,101,111,102,40,105,110,116,41,32,42,32,40,84,41,99,32,63,32,100,32,58,32,101,59,32,47,32,125]
theorem told2 : callN Go.Proofs.Tryz.prog (specL fnsJ2) 3000 (.func 5 [] []) [.str q2] noHeap 0 (isStr r2) noP = true := by kernel_rfl
end GapsN
