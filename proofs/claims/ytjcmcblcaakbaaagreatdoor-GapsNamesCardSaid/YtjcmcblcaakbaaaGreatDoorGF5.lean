/- A part of the proof that reglet/regletlaw13.GapsNames answers true: evaluations by the kernel, and the tables of answers that they use. -/
import Derived.Test.YtjcmcblcaakbaaaGreatDoorGP
set_option linter.unusedVariables false
set_option maxRecDepth 100000
noncomputable section
namespace GapsN
open Go Am
def tf5 : List (List AV × AV) := [([.str [51], .str [41]], .tuple [.bool false, .int .i64 (0)]),
  ([.str [76], .str [58]], .tuple [.bool false, .int .i64 (0)]),
  ([.str [61], .str [102]], .tuple [.bool false, .int .i64 (0)]),
  ([.str [44], .str [50]], .tuple [.bool false, .int .i64 (0)]),
  ([.str [50], .str [41]], .tuple [.bool false, .int .i64 (0)]),
  ([.str [43], .str [98]], .tuple [.bool false, .int .i64 (0)]),
  ([.str [45], .str [103]], .tuple [.bool false, .int .i64 (0)]),
  ([.str [103], .str [45, 62]], .tuple [.bool false, .int .i64 (0)]),
  ([.str [45, 62], .str [104]], .tuple [.bool false, .int .i64 (0)]),
  ([.str [104], .str [59]], .tuple [.bool false, .int .i64 (0)]),
  ([.str [61], .str [97]], .tuple [.bool false, .int .i64 (0)]),
  ([.str [97], .str [38]], .tuple [.bool false, .int .i64 (0)]),
  ([.str [43], .str [43, 43]], .tuple [.bool true, .int .i64 (0)]),
  ([.str [43, 43], .str [99]], .tuple [.bool false, .int .i64 (0)]),
  ([.str [99], .str [59]], .tuple [.bool false, .int .i64 (0)]),
  ([.str [61], .str [38]], .tuple [.bool false, .int .i64 (0)]),
  ([.str [98], .str [59]], .tuple [.bool false, .int .i64 (0)]),
  ([.str [91], .str [93]], .tuple [.bool false, .int .i64 (0)]),
  ([.str [93], .str [61]], .tuple [.bool false, .int .i64 (0)]),
  ([.str [46], .str [120]], .tuple [.bool false, .int .i64 (0)]),
  ([.str [49], .str [125]], .tuple [.bool false, .int .i64 (0)])]
theorem tf5_ok : checkTab (callN Go.Proofs.Tryz.prog (specL fns1) 3000) 74 tf5 = true := by kernel_rfl
end GapsN
