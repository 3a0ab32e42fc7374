/- A part of the proof that reglet/regletlaw13.GapsNames answers true: evaluations by the kernel, and the tables of answers that they use. -/
import Derived.Test.YtjcmcblcaakbaaaGreatDoorGP
set_option linter.unusedVariables false
set_option maxRecDepth 100000
noncomputable section
namespace GapsN
open Go Am
def tf0 : List (List AV × AV) := [([.str [102], .str [40]], .tuple [.bool false, .int .i64 (0)]),
  ([.str [41], .str [123]], .tuple [.bool false, .int .i64 (0)]),
  ([.str [40], .str [41]], .tuple [.bool false, .int .i64 (0)]),
  ([.str [105, 110, 116], .str [102]], .tuple [.bool true, .int .i64 (0)]),
  ([.str [120], .str [61]], .tuple [.bool false, .int .i64 (0)]),
  ([.str [116, 121, 112, 101, 100, 101, 102], .str [105, 110, 116]], .tuple [.bool true, .int .i64 (0)]),
  ([.str [105, 110, 116], .str [84]], .tuple [.bool true, .int .i64 (0)]),
  ([.str [84], .str [59]], .tuple [.bool false, .int .i64 (0)]),
  ([.str [40], .str [105, 110, 116]], .tuple [.bool false, .int .i64 (0)]),
  ([.str [97], .str [61]], .tuple [.bool false, .int .i64 (0)]),
  ([.str [49], .str [44]], .tuple [.bool false, .int .i64 (0)]),
  ([.str [105, 110, 116], .str [97]], .tuple [.bool true, .int .i64 (0)]),
  ([.str [61], .str [45]], .tuple [.bool false, .int .i64 (0)]),
  ([.str [97], .str [91]], .tuple [.bool false, .int .i64 (0)]),
  ([.str [41], .str [42]], .tuple [.bool false, .int .i64 (0)]),
  ([.str [42], .str [40]], .tuple [.bool false, .int .i64 (0)]),
  ([.str [41], .str [59]], .tuple [.bool false, .int .i64 (0)]),
  ([.str [105, 110, 116], .str [42]], .tuple [.bool false, .int .i64 (0)]),
  ([.str [91], .str [50]], .tuple [.bool false, .int .i64 (0)]),
  ([.str [50], .str [93]], .tuple [.bool false, .int .i64 (0)]),
  ([.str [98], .str [43]], .tuple [.bool false, .int .i64 (0)])]
theorem tf0_ok : checkTab (callN Go.Proofs.Tryz.prog (specL fns1) 3000) 74 tf0 = true := by kernel_rfl
end GapsN
