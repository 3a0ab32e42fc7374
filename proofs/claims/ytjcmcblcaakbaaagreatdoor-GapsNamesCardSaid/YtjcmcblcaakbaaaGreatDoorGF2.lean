/- A part of the proof that reglet/regletlaw13.GapsNames answers true: evaluations by the kernel, and the tables of answers that they use. -/
import Derived.Test.YtjcmcblcaakbaaaGreatDoorGP
set_option linter.unusedVariables false
set_option maxRecDepth 100000
noncomputable section
namespace GapsN
open Go Am
def tf2 : List (List AV × AV) := [([.str [100], .str [45, 62]], .tuple [.bool false, .int .i64 (0)]),
  ([.str [45, 62], .str [101]], .tuple [.bool false, .int .i64 (0)]),
  ([.str [101], .str [43, 43]], .tuple [.bool false, .int .i64 (0)]),
  ([.str [43, 43], .str [41]], .tuple [.bool false, .int .i64 (0)]),
  ([.str [42], .str [99, 111, 110, 115, 116]], .tuple [.bool false, .int .i64 (0)]),
  ([.str [99, 111, 110, 115, 116], .str [42]], .tuple [.bool false, .int .i64 (0)]),
  ([.str [42], .str [102]], .tuple [.bool false, .int .i64 (0)]),
  ([.str [40], .str [118, 111, 105, 100]], .tuple [.bool false, .int .i64 (0)]),
  ([.str [118, 111, 105, 100], .str [40]], .tuple [.bool false, .int .i64 (0)]),
  ([.str [40], .str [42]], .tuple [.bool false, .int .i64 (0)]),
  ([.str [42], .str [103]], .tuple [.bool false, .int .i64 (0)]),
  ([.str [103], .str [41]], .tuple [.bool false, .int .i64 (0)]),
  ([.str [41], .str [40]], .tuple [.bool false, .int .i64 (0)]),
  ([.str [42], .str [41]], .tuple [.bool false, .int .i64 (0)]),
  ([.str [41], .str [44]], .tuple [.bool false, .int .i64 (0)]),
  ([.str [44], .str [84]], .tuple [.bool false, .int .i64 (0)]),
  ([.str [84], .str [120]], .tuple [.bool true, .int .i64 (0)]),
  ([.str [120], .str [91]], .tuple [.bool false, .int .i64 (0)]),
  ([.str [93], .str [41]], .tuple [.bool false, .int .i64 (0)]),
  ([.str [45], .str [45]], .tuple [.bool true, .int .i64 (0)]),
  ([.str [45], .str [98]], .tuple [.bool false, .int .i64 (0)])]
theorem tf2_ok : checkTab (callN Go.Proofs.Tryz.prog (specL fns1) 3000) 74 tf2 = true := by kernel_rfl
end GapsN
