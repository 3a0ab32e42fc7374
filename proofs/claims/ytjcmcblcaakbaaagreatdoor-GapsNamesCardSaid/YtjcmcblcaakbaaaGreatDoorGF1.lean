/- A part of the proof that reglet/regletlaw13.GapsNames answers true: evaluations by the kernel, and the tables of answers that they use. -/
import Derived.Test.YtjcmcblcaakbaaaGreatDoorGP
set_option linter.unusedVariables false
set_option maxRecDepth 100000
noncomputable section
namespace GapsN
open Go Am
def tf1 : List (List AV × AV) := [([.str [43], .str [115, 105, 122, 101, 111, 102]], .tuple [.bool false, .int .i64 (0)]),
  ([.str [115, 105, 122, 101, 111, 102], .str [40]], .tuple [.bool false, .int .i64 (0)]),
  ([.str [61], .str [123]], .tuple [.bool false, .int .i64 (0)]),
  ([.str [123], .str [46]], .tuple [.bool false, .int .i64 (0)]),
  ([.str [61], .str [49]], .tuple [.bool false, .int .i64 (0)]),
  ([.str [125], .str [59]], .tuple [.bool false, .int .i64 (0)]),
  ([.str [40], .str [49]], .tuple [.bool false, .int .i64 (0)]),
  ([.str [38], .str [38]], .tuple [.bool true, .int .i64 (0)]),
  ([.str [38], .str [98]], .tuple [.bool false, .int .i64 (0)]),
  ([.str [105, 110, 116], .str [121]], .tuple [.bool true, .int .i64 (0)]),
  ([.str [121], .str [40]], .tuple [.bool false, .int .i64 (0)]),
  ([.str [45], .str [97]], .tuple [.bool false, .int .i64 (0)]),
  ([.str [91], .str [49]], .tuple [.bool false, .int .i64 (0)]),
  ([.str [49], .str [93]], .tuple [.bool false, .int .i64 (0)]),
  ([.str [93], .str [43]], .tuple [.bool false, .int .i64 (0)]),
  ([.str [43], .str [102]], .tuple [.bool false, .int .i64 (0)]),
  ([.str [40], .str [98]], .tuple [.bool false, .int .i64 (0)]),
  ([.str [98], .str [44]], .tuple [.bool false, .int .i64 (0)]),
  ([.str [44], .str [99]], .tuple [.bool false, .int .i64 (0)]),
  ([.str [99], .str [41]], .tuple [.bool false, .int .i64 (0)]),
  ([.str [40], .str [100]], .tuple [.bool false, .int .i64 (0)])]
theorem tf1_ok : checkTab (callN Go.Proofs.Tryz.prog (specL fns1) 3000) 74 tf1 = true := by kernel_rfl
end GapsN
