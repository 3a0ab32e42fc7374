/- A part of the proof that reglet/regletlaw13.GapsNames answers true: evaluations by the kernel, and the tables of answers that they use. -/
import Derived.Test.YtjcmcblcaakbaaaGreatDoorGI1
set_option linter.unusedVariables false
set_option maxRecDepth 100000
noncomputable section
namespace GapsN
open Go Am
def q1 : List Nat := [116,121,112,101,100,101,102,32,105,110,116,32,84,59,105,110,116,42,99,111,110,115,116,42,102,40,118,111,105,100,40,42,103,41,40,105,110,116,42,41,44,84,32,120,91,50,93,41,123,125]
def r1 : List Nat := [116,121,112,101,100,101,102,32,105,110,116,32,84,59,32,47,32,105,110,116,32,42,99,111,110,115,116,32,42,102,40,118,111,105,100,32,40,42,103,41,40,105,110,116,32,42,41,44,32,84,32,120,91,50,93,41,32,123,32,47,32,125]
theorem told1 : callN Go.Proofs.Tryz.prog (specL fnsJ1) 3000 (.func 5 [] []) [.str q1] noHeap 0 (isStr r1) noP = true := by kernel_rfl
end GapsN
