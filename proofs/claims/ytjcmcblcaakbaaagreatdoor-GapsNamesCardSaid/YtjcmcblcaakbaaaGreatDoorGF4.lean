/- A part of the proof that reglet/regletlaw13.GapsNames answers true: evaluations by the kernel, and the tables of answers that they use. -/
import Derived.Test.YtjcmcblcaakbaaaGreatDoorGP
set_option linter.unusedVariables false
set_option maxRecDepth 100000
noncomputable section
namespace GapsN
open Go Am
def tf4 : List (List AV × AV) := [([.str [98], .str [61]], .tuple [.bool false, .int .i64 (0)]),
  ([.str [61], .str [51]], .tuple [.bool false, .int .i64 (0)]),
  ([.str [51], .str [125]], .tuple [.bool false, .int .i64 (0)]),
  ([.str [97], .str [44]], .tuple [.bool false, .int .i64 (0)]),
  ([.str [44], .str [46, 46, 46]], .tuple [.bool false, .int .i64 (0)]),
  ([.str [46, 46, 46], .str [41]], .tuple [.bool false, .int .i64 (0)]),
  ([.str [114, 101, 116, 117, 114, 110], .str [115, 105, 122, 101, 111, 102]], .tuple [.bool true, .int .i64 (0)]),
  ([.str [40], .str [120]], .tuple [.bool false, .int .i64 (0)]),
  ([.str [120], .str [41]], .tuple [.bool false, .int .i64 (0)]),
  ([.str [41], .str [43]], .tuple [.bool false, .int .i64 (0)]),
  ([.str [115, 105, 122, 101, 111, 102], .str [120]], .tuple [.bool true, .int .i64 (0)]),
  ([.str [120], .str [43]], .tuple [.bool false, .int .i64 (0)]),
  ([.str [43], .str [95, 71, 101, 110, 101, 114, 105, 99]], .tuple [.bool false, .int .i64 (0)]),
  ([.str [95, 71, 101, 110, 101, 114, 105, 99], .str [40]], .tuple [.bool false, .int .i64 (0)]),
  ([.str [44], .str [105, 110, 116]], .tuple [.bool false, .int .i64 (0)]),
  ([.str [105, 110, 116], .str [58]], .tuple [.bool false, .int .i64 (0)]),
  ([.str [58], .str [50]], .tuple [.bool false, .int .i64 (0)]),
  ([.str [50], .str [44]], .tuple [.bool false, .int .i64 (0)]),
  ([.str [44], .str [100, 101, 102, 97, 117, 108, 116]], .tuple [.bool false, .int .i64 (0)]),
  ([.str [100, 101, 102, 97, 117, 108, 116], .str [58]], .tuple [.bool false, .int .i64 (0)]),
  ([.str [58], .str [51]], .tuple [.bool false, .int .i64 (0)])]
theorem tf4_ok : checkTab (callN Go.Proofs.Tryz.prog (specL fns1) 3000) 74 tf4 = true := by kernel_rfl
end GapsN
