/- A part of the proof that reglet/regletlaw13.GapsNames answers true: evaluations by the kernel, and the tables of answers that they use. -/
import Derived.Test.YtjcmcblcaakbaaaGreatDoorGI4
set_option linter.unusedVariables false
set_option maxRecDepth 100000
noncomputable section
namespace GapsN
open Go Am
def q4 : List Nat := [105,110,116,32,102,40,105,110,116,32,97,44,46,46,46,41,123,114,101,116,117,114,110,32,115,105,122,101,111,102,40,120,41,43,115,105,122,101,111,102,32,120,43,95,71,101,110,101,114,105,99,40,49,44,105,110,116,58,50,44,100,101,102,97,117,108,116,58,51,41,59,76,58,59,125]
def r4 : List Nat := [105,110,116,32,102,40,105,110,116,32,97,44,32,46,46,46,41,32,123,32,47,32,114,101,116,117,114,110,32,115,105,122,101,111,102,32,40,120,41,32,43,32,115,105,122,101,111,102,32,120,32,43,32,95,71,101,110,101,114,105,99,40,49,44,32,105,110,116,58,32,50,44,32,100,101,102,97,117,108,116,58,32,51,41,59,32,47,32,76,58,32,47,32,59,32,47,32,125]
theorem told4 : callN Go.Proofs.Tryz.prog (specL fnsJ4) 3000 (.func 5 [] []) [.str q4] noHeap 0 (isStr r4) noP = true := by kernel_rfl
end GapsN
