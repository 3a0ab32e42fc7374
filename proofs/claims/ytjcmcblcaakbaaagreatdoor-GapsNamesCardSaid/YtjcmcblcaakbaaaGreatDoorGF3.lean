/- A part of the proof that reglet/regletlaw13.GapsNames answers true: evaluations by the kernel, and the tables of answers that they use. -/
import Derived.Test.YtjcmcblcaakbaaaGreatDoorGP
set_option linter.unusedVariables false
set_option maxRecDepth 100000
noncomputable section
namespace GapsN
open Go Am
def tf3 : List (List AV × AV) := [([.str [105, 110, 116], .str [41]], .tuple [.bool false, .int .i64 (0)]),
  ([.str [40], .str [84]], .tuple [.bool false, .int .i64 (0)]),
  ([.str [84], .str [41]], .tuple [.bool false, .int .i64 (0)]),
  ([.str [41], .str [99]], .tuple [.bool false, .int .i64 (0)]),
  ([.str [99], .str [63]], .tuple [.bool false, .int .i64 (0)]),
  ([.str [63], .str [100]], .tuple [.bool false, .int .i64 (0)]),
  ([.str [100], .str [58]], .tuple [.bool false, .int .i64 (0)]),
  ([.str [58], .str [101]], .tuple [.bool false, .int .i64 (0)]),
  ([.str [101], .str [59]], .tuple [.bool false, .int .i64 (0)]),
  ([.str [102, 111, 114], .str [40]], .tuple [.bool false, .int .i64 (0)]),
  ([.str [40], .str [59]], .tuple [.bool false, .int .i64 (0)]),
  ([.str [59], .str [59]], .tuple [.bool false, .int .i64 (0)]),
  ([.str [59], .str [41]], .tuple [.bool false, .int .i64 (0)]),
  ([.str [99, 97, 115, 101], .str [49]], .tuple [.bool true, .int .i64 (0)]),
  ([.str [49], .str [58]], .tuple [.bool false, .int .i64 (0)]),
  ([.str [84], .str [121]], .tuple [.bool true, .int .i64 (0)]),
  ([.str [121], .str [61]], .tuple [.bool false, .int .i64 (0)]),
  ([.str [46], .str [97]], .tuple [.bool false, .int .i64 (0)]),
  ([.str [44], .str [91]], .tuple [.bool false, .int .i64 (0)]),
  ([.str [93], .str [46]], .tuple [.bool false, .int .i64 (0)]),
  ([.str [46], .str [98]], .tuple [.bool false, .int .i64 (0)])]
theorem tf3_ok : checkTab (callN Go.Proofs.Tryz.prog (specL fns1) 3000) 74 tf3 = true := by kernel_rfl
end GapsN
