/- A part of the proof that reglet/regletlaw13.GapsNames answers true: evaluations by the kernel, and the tables of answers that they use. -/
import Derived.Test.YtjcmcblcaakbaaaGreatDoorGT
import Derived.Test.YtjcmcblcaakbaaaGreatDoorGO
set_option linter.unusedVariables false
set_option maxRecDepth 100000
noncomputable section
namespace GapsN
open Go Am
def ti6 : List (List AV × AV) := [([.str [105, 110, 116, 32, 102, 40, 41, 123, 120, 61, 38, 32, 38, 98, 59, 125, 10], .int .i64 (0), .bool false], .tuple [.agg [.int .i64 (1), .int .i64 (0), .int .i64 (3)], .int .i64 (0)]),
  ([.str [105, 110, 116, 32, 102, 40, 41, 123, 120, 61, 38, 32, 38, 98, 59, 125, 10], .int .i64 (4), .bool false], .tuple [.agg [.int .i64 (1), .int .i64 (4), .int .i64 (5)], .int .i64 (0)]),
  ([.str [105, 110, 116, 32, 102, 40, 41, 123, 120, 61, 38, 32, 38, 98, 59, 125, 10], .int .i64 (5), .bool false], .tuple [.agg [.int .i64 (5), .int .i64 (5), .int .i64 (6)], .int .i64 (0)]),
  ([.str [105, 110, 116, 32, 102, 40, 41, 123, 120, 61, 38, 32, 38, 98, 59, 125, 10], .int .i64 (6), .bool false], .tuple [.agg [.int .i64 (5), .int .i64 (6), .int .i64 (7)], .int .i64 (0)]),
  ([.str [105, 110, 116, 32, 102, 40, 41, 123, 120, 61, 38, 32, 38, 98, 59, 125, 10], .int .i64 (7), .bool false], .tuple [.agg [.int .i64 (5), .int .i64 (7), .int .i64 (8)], .int .i64 (0)]),
  ([.str [105, 110, 116, 32, 102, 40, 41, 123, 120, 61, 38, 32, 38, 98, 59, 125, 10], .int .i64 (8), .bool false], .tuple [.agg [.int .i64 (1), .int .i64 (8), .int .i64 (9)], .int .i64 (0)]),
  ([.str [105, 110, 116, 32, 102, 40, 41, 123, 120, 61, 38, 32, 38, 98, 59, 125, 10], .int .i64 (9), .bool false], .tuple [.agg [.int .i64 (5), .int .i64 (9), .int .i64 (10)], .int .i64 (0)]),
  ([.str [105, 110, 116, 32, 102, 40, 41, 123, 120, 61, 38, 32, 38, 98, 59, 125, 10], .int .i64 (10), .bool false], .tuple [.agg [.int .i64 (5), .int .i64 (10), .int .i64 (11)], .int .i64 (0)]),
  ([.str [105, 110, 116, 32, 102, 40, 41, 123, 120, 61, 38, 32, 38, 98, 59, 125, 10], .int .i64 (12), .bool false], .tuple [.agg [.int .i64 (5), .int .i64 (12), .int .i64 (13)], .int .i64 (0)]),
  ([.str [105, 110, 116, 32, 102, 40, 41, 123, 120, 61, 38, 32, 38, 98, 59, 125, 10], .int .i64 (13), .bool false], .tuple [.agg [.int .i64 (1), .int .i64 (13), .int .i64 (14)], .int .i64 (0)]),
  ([.str [105, 110, 116, 32, 102, 40, 41, 123, 120, 61, 38, 32, 38, 98, 59, 125, 10], .int .i64 (14), .bool false], .tuple [.agg [.int .i64 (5), .int .i64 (14), .int .i64 (15)], .int .i64 (0)]),
  ([.str [105, 110, 116, 32, 102, 40, 41, 123, 120, 61, 38, 32, 38, 98, 59, 125, 10], .int .i64 (15), .bool false], .tuple [.agg [.int .i64 (5), .int .i64 (15), .int .i64 (16)], .int .i64 (0)]),
  ([.str [105, 110, 116, 32, 102, 40, 41, 123, 120, 61, 38, 32, 38, 98, 59, 125, 10], .int .i64 (16), .bool false], .tuple [.agg [.int .i64 (9), .int .i64 (16), .int .i64 (17)], .int .i64 (0)])]
theorem ti6_ok : checkTab (callN Go.Proofs.Tryz.prog (specL fns1) 3000) 24 ti6 = true := by kernel_rfl
theorem f24_body6 : Go.Proofs.Tryz.f24.body.isSome = true := by kernel_rfl
theorem ti6_fun : FunOK Go.Proofs.Tryz.prog 24 (pureD ti6) := pureFun names (sound1 3000) Go.Proofs.Tryz.func24 f24_body6 (checkTab_mem ti6_ok)
def fnsI6 : List (Nat × FunT) := (24, pureD ti6) :: fns3
theorem fnsI6_ok : AllOK Go.Proofs.Tryz.prog fnsI6 := AllOK.cons (P := Go.Proofs.Tryz.prog) (f := 24) (G := pureD ti6) (l := fns3) ti6_fun fns3_ok
theorem soundI6 (n : Nat) : CallOK Go.Proofs.Tryz.prog (callN Go.Proofs.Tryz.prog (specL fnsI6) n) := callN_ok mixed names draws fnsI6_ok.spec n
end GapsN
set_option linter.unusedVariables false
set_option maxRecDepth 100000
namespace GapsN
open Go Am
def pa6 : List (List AV × AV) := [([.str [105, 110, 116, 32, 102, 40, 41, 123, 120, 61, 38, 32, 38, 98, 59, 125, 10], .int .i64 (0)], .agg [.int .u8 (105), .int .i64 (0), .int .i64 (1), .bool false]),
  ([.str [105, 110, 116, 32, 102, 40, 41, 123, 120, 61, 38, 32, 38, 98, 59, 125, 10], .int .i64 (1)], .agg [.int .u8 (110), .int .i64 (1), .int .i64 (1), .bool false]),
  ([.str [105, 110, 116, 32, 102, 40, 41, 123, 120, 61, 38, 32, 38, 98, 59, 125, 10], .int .i64 (2)], .agg [.int .u8 (116), .int .i64 (2), .int .i64 (1), .bool false]),
  ([.str [105, 110, 116, 32, 102, 40, 41, 123, 120, 61, 38, 32, 38, 98, 59, 125, 10], .int .i64 (3)], .agg [.int .u8 (32), .int .i64 (3), .int .i64 (1), .bool false]),
  ([.str [105, 110, 116, 32, 102, 40, 41, 123, 120, 61, 38, 32, 38, 98, 59, 125, 10], .int .i64 (4)], .agg [.int .u8 (102), .int .i64 (4), .int .i64 (1), .bool false]),
  ([.str [105, 110, 116, 32, 102, 40, 41, 123, 120, 61, 38, 32, 38, 98, 59, 125, 10], .int .i64 (5)], .agg [.int .u8 (40), .int .i64 (5), .int .i64 (1), .bool false]),
  ([.str [105, 110, 116, 32, 102, 40, 41, 123, 120, 61, 38, 32, 38, 98, 59, 125, 10], .int .i64 (6)], .agg [.int .u8 (41), .int .i64 (6), .int .i64 (1), .bool false]),
  ([.str [105, 110, 116, 32, 102, 40, 41, 123, 120, 61, 38, 32, 38, 98, 59, 125, 10], .int .i64 (7)], .agg [.int .u8 (123), .int .i64 (7), .int .i64 (1), .bool false]),
  ([.str [105, 110, 116, 32, 102, 40, 41, 123, 120, 61, 38, 32, 38, 98, 59, 125, 10], .int .i64 (8)], .agg [.int .u8 (120), .int .i64 (8), .int .i64 (1), .bool false]),
  ([.str [105, 110, 116, 32, 102, 40, 41, 123, 120, 61, 38, 32, 38, 98, 59, 125, 10], .int .i64 (9)], .agg [.int .u8 (61), .int .i64 (9), .int .i64 (1), .bool false]),
  ([.str [105, 110, 116, 32, 102, 40, 41, 123, 120, 61, 38, 32, 38, 98, 59, 125, 10], .int .i64 (10)], .agg [.int .u8 (38), .int .i64 (10), .int .i64 (1), .bool false]),
  ([.str [105, 110, 116, 32, 102, 40, 41, 123, 120, 61, 38, 32, 38, 98, 59, 125, 10], .int .i64 (11)], .agg [.int .u8 (32), .int .i64 (11), .int .i64 (1), .bool false]),
  ([.str [105, 110, 116, 32, 102, 40, 41, 123, 120, 61, 38, 32, 38, 98, 59, 125, 10], .int .i64 (12)], .agg [.int .u8 (38), .int .i64 (12), .int .i64 (1), .bool false]),
  ([.str [105, 110, 116, 32, 102, 40, 41, 123, 120, 61, 38, 32, 38, 98, 59, 125, 10], .int .i64 (13)], .agg [.int .u8 (98), .int .i64 (13), .int .i64 (1), .bool false]),
  ([.str [105, 110, 116, 32, 102, 40, 41, 123, 120, 61, 38, 32, 38, 98, 59, 125, 10], .int .i64 (14)], .agg [.int .u8 (59), .int .i64 (14), .int .i64 (1), .bool false]),
  ([.str [105, 110, 116, 32, 102, 40, 41, 123, 120, 61, 38, 32, 38, 98, 59, 125, 10], .int .i64 (15)], .agg [.int .u8 (125), .int .i64 (15), .int .i64 (1), .bool false]),
  ([.str [105, 110, 116, 32, 102, 40, 41, 123, 120, 61, 38, 32, 38, 98, 59, 125, 10], .int .i64 (16)], .agg [.int .u8 (10), .int .i64 (16), .int .i64 (1), .bool false])]
def ck6 : List (List AV × AV) := [([.str [105, 110, 116, 32, 102, 40, 41, 123, 120, 61, 38, 32, 38, 98, 59, 125, 10]], .int .i64 (0))]
theorem pa6_ok : checkTab (callN Go.Proofs.Tryz.prog (specL fns0) 3000) 42 pa6 = true := by kernel_rfl
theorem pa6_fun : FunOK Go.Proofs.Tryz.prog 42 (pureD pa6) := pureFun names (sound0 3000) Go.Proofs.Tryz.func42 f42_body (checkTab_mem pa6_ok)
def fnsP6 : List (Nat × FunT) := (42, pureD pa6) :: fns0
theorem fnsP6_ok : AllOK Go.Proofs.Tryz.prog fnsP6 := AllOK.cons (P := Go.Proofs.Tryz.prog) (f := 42) (G := pureD pa6) (l := fns0) pa6_fun fns0_ok
theorem ck6_ok : checkTab (callN Go.Proofs.Tryz.prog (specL fnsP6) 3000) 20 ck6 = true := by kernel_rfl
theorem ck6_fun : FunOK Go.Proofs.Tryz.prog 20 (pureD ck6) := pureFun names (callN_ok mixed names draws fnsP6_ok.spec 3000) Go.Proofs.Tryz.func20 f20_body (checkTab_mem ck6_ok)
def fnsK6 : List (Nat × FunT) := (36, pureD to) :: fnsI6
def fnsL6 : List (Nat × FunT) := (20, pureD ck6) :: fnsK6
def fnsM6 : List (Nat × FunT) := (42, pureD pa6) :: fnsL6
def fnsN6 : List (Nat × FunT) := (9, pureD ts) :: fnsM6
def fnsJ6 : List (Nat × FunT) := (13, pureD tk) :: fnsN6
theorem fnsK6_ok : AllOK Go.Proofs.Tryz.prog fnsK6 := AllOK.cons (P := Go.Proofs.Tryz.prog) (f := 36) (G := pureD to) (l := fnsI6) to_fun fnsI6_ok
theorem fnsL6_ok : AllOK Go.Proofs.Tryz.prog fnsL6 := AllOK.cons (P := Go.Proofs.Tryz.prog) (f := 20) (G := pureD ck6) (l := fnsK6) ck6_fun fnsK6_ok
theorem fnsM6_ok : AllOK Go.Proofs.Tryz.prog fnsM6 := AllOK.cons (P := Go.Proofs.Tryz.prog) (f := 42) (G := pureD pa6) (l := fnsL6) pa6_fun fnsL6_ok
theorem fnsN6_ok : AllOK Go.Proofs.Tryz.prog fnsN6 := AllOK.cons (P := Go.Proofs.Tryz.prog) (f := 9) (G := pureD ts) (l := fnsM6) ts_fun fnsM6_ok
theorem fnsJ6_ok : AllOK Go.Proofs.Tryz.prog fnsJ6 := AllOK.cons (P := Go.Proofs.Tryz.prog) (f := 13) (G := pureD tk) (l := fnsN6) tk_fun fnsN6_ok
theorem soundJ6 (n : Nat) : CallOK Go.Proofs.Tryz.prog (callN Go.Proofs.Tryz.prog (specL fnsJ6) n) := callN_ok mixed names draws fnsJ6_ok.spec n
end GapsN
