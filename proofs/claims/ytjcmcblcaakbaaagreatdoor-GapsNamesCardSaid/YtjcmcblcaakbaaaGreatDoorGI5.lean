/- A part of the proof that reglet/regletlaw13.GapsNames answers true: evaluations by the kernel, and the tables of answers that they use. -/
import Derived.Test.YtjcmcblcaakbaaaGreatDoorGT
import Derived.Test.YtjcmcblcaakbaaaGreatDoorGO
set_option linter.unusedVariables false
set_option maxRecDepth 100000
noncomputable section
namespace GapsN
open Go Am
def ti5 : List (List AV × AV) := [([.str [105, 110, 116, 32, 102, 40, 41, 123, 120, 61, 97, 38, 32, 38, 98, 43, 32, 43, 43, 99, 59, 125, 10], .int .i64 (0), .bool false], .tuple [.agg [.int .i64 (1), .int .i64 (0), .int .i64 (3)], .int .i64 (0)]),
  ([.str [105, 110, 116, 32, 102, 40, 41, 123, 120, 61, 97, 38, 32, 38, 98, 43, 32, 43, 43, 99, 59, 125, 10], .int .i64 (4), .bool false], .tuple [.agg [.int .i64 (1), .int .i64 (4), .int .i64 (5)], .int .i64 (0)]),
  ([.str [105, 110, 116, 32, 102, 40, 41, 123, 120, 61, 97, 38, 32, 38, 98, 43, 32, 43, 43, 99, 59, 125, 10], .int .i64 (5), .bool false], .tuple [.agg [.int .i64 (5), .int .i64 (5), .int .i64 (6)], .int .i64 (0)]),
  ([.str [105, 110, 116, 32, 102, 40, 41, 123, 120, 61, 97, 38, 32, 38, 98, 43, 32, 43, 43, 99, 59, 125, 10], .int .i64 (6), .bool false], .tuple [.agg [.int .i64 (5), .int .i64 (6), .int .i64 (7)], .int .i64 (0)]),
  ([.str [105, 110, 116, 32, 102, 40, 41, 123, 120, 61, 97, 38, 32, 38, 98, 43, 32, 43, 43, 99, 59, 125, 10], .int .i64 (7), .bool false], .tuple [.agg [.int .i64 (5), .int .i64 (7), .int .i64 (8)], .int .i64 (0)]),
  ([.str [105, 110, 116, 32, 102, 40, 41, 123, 120, 61, 97, 38, 32, 38, 98, 43, 32, 43, 43, 99, 59, 125, 10], .int .i64 (8), .bool false], .tuple [.agg [.int .i64 (1), .int .i64 (8), .int .i64 (9)], .int .i64 (0)]),
  ([.str [105, 110, 116, 32, 102, 40, 41, 123, 120, 61, 97, 38, 32, 38, 98, 43, 32, 43, 43, 99, 59, 125, 10], .int .i64 (9), .bool false], .tuple [.agg [.int .i64 (5), .int .i64 (9), .int .i64 (10)], .int .i64 (0)]),
  ([.str [105, 110, 116, 32, 102, 40, 41, 123, 120, 61, 97, 38, 32, 38, 98, 43, 32, 43, 43, 99, 59, 125, 10], .int .i64 (10), .bool false], .tuple [.agg [.int .i64 (1), .int .i64 (10), .int .i64 (11)], .int .i64 (0)]),
  ([.str [105, 110, 116, 32, 102, 40, 41, 123, 120, 61, 97, 38, 32, 38, 98, 43, 32, 43, 43, 99, 59, 125, 10], .int .i64 (11), .bool false], .tuple [.agg [.int .i64 (5), .int .i64 (11), .int .i64 (12)], .int .i64 (0)]),
  ([.str [105, 110, 116, 32, 102, 40, 41, 123, 120, 61, 97, 38, 32, 38, 98, 43, 32, 43, 43, 99, 59, 125, 10], .int .i64 (13), .bool false], .tuple [.agg [.int .i64 (5), .int .i64 (13), .int .i64 (14)], .int .i64 (0)]),
  ([.str [105, 110, 116, 32, 102, 40, 41, 123, 120, 61, 97, 38, 32, 38, 98, 43, 32, 43, 43, 99, 59, 125, 10], .int .i64 (14), .bool false], .tuple [.agg [.int .i64 (1), .int .i64 (14), .int .i64 (15)], .int .i64 (0)]),
  ([.str [105, 110, 116, 32, 102, 40, 41, 123, 120, 61, 97, 38, 32, 38, 98, 43, 32, 43, 43, 99, 59, 125, 10], .int .i64 (15), .bool false], .tuple [.agg [.int .i64 (5), .int .i64 (15), .int .i64 (16)], .int .i64 (0)]),
  ([.str [105, 110, 116, 32, 102, 40, 41, 123, 120, 61, 97, 38, 32, 38, 98, 43, 32, 43, 43, 99, 59, 125, 10], .int .i64 (17), .bool false], .tuple [.agg [.int .i64 (5), .int .i64 (17), .int .i64 (19)], .int .i64 (0)]),
  ([.str [105, 110, 116, 32, 102, 40, 41, 123, 120, 61, 97, 38, 32, 38, 98, 43, 32, 43, 43, 99, 59, 125, 10], .int .i64 (19), .bool false], .tuple [.agg [.int .i64 (1), .int .i64 (19), .int .i64 (20)], .int .i64 (0)]),
  ([.str [105, 110, 116, 32, 102, 40, 41, 123, 120, 61, 97, 38, 32, 38, 98, 43, 32, 43, 43, 99, 59, 125, 10], .int .i64 (20), .bool false], .tuple [.agg [.int .i64 (5), .int .i64 (20), .int .i64 (21)], .int .i64 (0)]),
  ([.str [105, 110, 116, 32, 102, 40, 41, 123, 120, 61, 97, 38, 32, 38, 98, 43, 32, 43, 43, 99, 59, 125, 10], .int .i64 (21), .bool false], .tuple [.agg [.int .i64 (5), .int .i64 (21), .int .i64 (22)], .int .i64 (0)]),
  ([.str [105, 110, 116, 32, 102, 40, 41, 123, 120, 61, 97, 38, 32, 38, 98, 43, 32, 43, 43, 99, 59, 125, 10], .int .i64 (22), .bool false], .tuple [.agg [.int .i64 (9), .int .i64 (22), .int .i64 (23)], .int .i64 (0)])]
theorem ti5_ok : checkTab (callN Go.Proofs.Tryz.prog (specL fns1) 3000) 24 ti5 = true := by kernel_rfl
theorem f24_body5 : Go.Proofs.Tryz.f24.body.isSome = true := by kernel_rfl
theorem ti5_fun : FunOK Go.Proofs.Tryz.prog 24 (pureD ti5) := pureFun names (sound1 3000) Go.Proofs.Tryz.func24 f24_body5 (checkTab_mem ti5_ok)
def fnsI5 : List (Nat × FunT) := (24, pureD ti5) :: fns3
theorem fnsI5_ok : AllOK Go.Proofs.Tryz.prog fnsI5 := AllOK.cons (P := Go.Proofs.Tryz.prog) (f := 24) (G := pureD ti5) (l := fns3) ti5_fun fns3_ok
theorem soundI5 (n : Nat) : CallOK Go.Proofs.Tryz.prog (callN Go.Proofs.Tryz.prog (specL fnsI5) n) := callN_ok mixed names draws fnsI5_ok.spec n
end GapsN
set_option linter.unusedVariables false
set_option maxRecDepth 100000
namespace GapsN
open Go Am
def pa5 : List (List AV × AV) := [([.str [105, 110, 116, 32, 102, 40, 41, 123, 120, 61, 97, 38, 32, 38, 98, 43, 32, 43, 43, 99, 59, 125, 10], .int .i64 (0)], .agg [.int .u8 (105), .int .i64 (0), .int .i64 (1), .bool false]),
  ([.str [105, 110, 116, 32, 102, 40, 41, 123, 120, 61, 97, 38, 32, 38, 98, 43, 32, 43, 43, 99, 59, 125, 10], .int .i64 (1)], .agg [.int .u8 (110), .int .i64 (1), .int .i64 (1), .bool false]),
  ([.str [105, 110, 116, 32, 102, 40, 41, 123, 120, 61, 97, 38, 32, 38, 98, 43, 32, 43, 43, 99, 59, 125, 10], .int .i64 (2)], .agg [.int .u8 (116), .int .i64 (2), .int .i64 (1), .bool false]),
  ([.str [105, 110, 116, 32, 102, 40, 41, 123, 120, 61, 97, 38, 32, 38, 98, 43, 32, 43, 43, 99, 59, 125, 10], .int .i64 (3)], .agg [.int .u8 (32), .int .i64 (3), .int .i64 (1), .bool false]),
  ([.str [105, 110, 116, 32, 102, 40, 41, 123, 120, 61, 97, 38, 32, 38, 98, 43, 32, 43, 43, 99, 59, 125, 10], .int .i64 (4)], .agg [.int .u8 (102), .int .i64 (4), .int .i64 (1), .bool false]),
  ([.str [105, 110, 116, 32, 102, 40, 41, 123, 120, 61, 97, 38, 32, 38, 98, 43, 32, 43, 43, 99, 59, 125, 10], .int .i64 (5)], .agg [.int .u8 (40), .int .i64 (5), .int .i64 (1), .bool false]),
  ([.str [105, 110, 116, 32, 102, 40, 41, 123, 120, 61, 97, 38, 32, 38, 98, 43, 32, 43, 43, 99, 59, 125, 10], .int .i64 (6)], .agg [.int .u8 (41), .int .i64 (6), .int .i64 (1), .bool false]),
  ([.str [105, 110, 116, 32, 102, 40, 41, 123, 120, 61, 97, 38, 32, 38, 98, 43, 32, 43, 43, 99, 59, 125, 10], .int .i64 (7)], .agg [.int .u8 (123), .int .i64 (7), .int .i64 (1), .bool false]),
  ([.str [105, 110, 116, 32, 102, 40, 41, 123, 120, 61, 97, 38, 32, 38, 98, 43, 32, 43, 43, 99, 59, 125, 10], .int .i64 (8)], .agg [.int .u8 (120), .int .i64 (8), .int .i64 (1), .bool false]),
  ([.str [105, 110, 116, 32, 102, 40, 41, 123, 120, 61, 97, 38, 32, 38, 98, 43, 32, 43, 43, 99, 59, 125, 10], .int .i64 (9)], .agg [.int .u8 (61), .int .i64 (9), .int .i64 (1), .bool false]),
  ([.str [105, 110, 116, 32, 102, 40, 41, 123, 120, 61, 97, 38, 32, 38, 98, 43, 32, 43, 43, 99, 59, 125, 10], .int .i64 (10)], .agg [.int .u8 (97), .int .i64 (10), .int .i64 (1), .bool false]),
  ([.str [105, 110, 116, 32, 102, 40, 41, 123, 120, 61, 97, 38, 32, 38, 98, 43, 32, 43, 43, 99, 59, 125, 10], .int .i64 (11)], .agg [.int .u8 (38), .int .i64 (11), .int .i64 (1), .bool false]),
  ([.str [105, 110, 116, 32, 102, 40, 41, 123, 120, 61, 97, 38, 32, 38, 98, 43, 32, 43, 43, 99, 59, 125, 10], .int .i64 (12)], .agg [.int .u8 (32), .int .i64 (12), .int .i64 (1), .bool false]),
  ([.str [105, 110, 116, 32, 102, 40, 41, 123, 120, 61, 97, 38, 32, 38, 98, 43, 32, 43, 43, 99, 59, 125, 10], .int .i64 (13)], .agg [.int .u8 (38), .int .i64 (13), .int .i64 (1), .bool false]),
  ([.str [105, 110, 116, 32, 102, 40, 41, 123, 120, 61, 97, 38, 32, 38, 98, 43, 32, 43, 43, 99, 59, 125, 10], .int .i64 (14)], .agg [.int .u8 (98), .int .i64 (14), .int .i64 (1), .bool false]),
  ([.str [105, 110, 116, 32, 102, 40, 41, 123, 120, 61, 97, 38, 32, 38, 98, 43, 32, 43, 43, 99, 59, 125, 10], .int .i64 (15)], .agg [.int .u8 (43), .int .i64 (15), .int .i64 (1), .bool false]),
  ([.str [105, 110, 116, 32, 102, 40, 41, 123, 120, 61, 97, 38, 32, 38, 98, 43, 32, 43, 43, 99, 59, 125, 10], .int .i64 (16)], .agg [.int .u8 (32), .int .i64 (16), .int .i64 (1), .bool false]),
  ([.str [105, 110, 116, 32, 102, 40, 41, 123, 120, 61, 97, 38, 32, 38, 98, 43, 32, 43, 43, 99, 59, 125, 10], .int .i64 (17)], .agg [.int .u8 (43), .int .i64 (17), .int .i64 (1), .bool false]),
  ([.str [105, 110, 116, 32, 102, 40, 41, 123, 120, 61, 97, 38, 32, 38, 98, 43, 32, 43, 43, 99, 59, 125, 10], .int .i64 (18)], .agg [.int .u8 (43), .int .i64 (18), .int .i64 (1), .bool false]),
  ([.str [105, 110, 116, 32, 102, 40, 41, 123, 120, 61, 97, 38, 32, 38, 98, 43, 32, 43, 43, 99, 59, 125, 10], .int .i64 (19)], .agg [.int .u8 (99), .int .i64 (19), .int .i64 (1), .bool false]),
  ([.str [105, 110, 116, 32, 102, 40, 41, 123, 120, 61, 97, 38, 32, 38, 98, 43, 32, 43, 43, 99, 59, 125, 10], .int .i64 (20)], .agg [.int .u8 (59), .int .i64 (20), .int .i64 (1), .bool false]),
  ([.str [105, 110, 116, 32, 102, 40, 41, 123, 120, 61, 97, 38, 32, 38, 98, 43, 32, 43, 43, 99, 59, 125, 10], .int .i64 (21)], .agg [.int .u8 (125), .int .i64 (21), .int .i64 (1), .bool false]),
  ([.str [105, 110, 116, 32, 102, 40, 41, 123, 120, 61, 97, 38, 32, 38, 98, 43, 32, 43, 43, 99, 59, 125, 10], .int .i64 (22)], .agg [.int .u8 (10), .int .i64 (22), .int .i64 (1), .bool false])]
def ck5 : List (List AV × AV) := [([.str [105, 110, 116, 32, 102, 40, 41, 123, 120, 61, 97, 38, 32, 38, 98, 43, 32, 43, 43, 99, 59, 125, 10]], .int .i64 (0))]
theorem pa5_ok : checkTab (callN Go.Proofs.Tryz.prog (specL fns0) 3000) 42 pa5 = true := by kernel_rfl
theorem pa5_fun : FunOK Go.Proofs.Tryz.prog 42 (pureD pa5) := pureFun names (sound0 3000) Go.Proofs.Tryz.func42 f42_body (checkTab_mem pa5_ok)
def fnsP5 : List (Nat × FunT) := (42, pureD pa5) :: fns0
theorem fnsP5_ok : AllOK Go.Proofs.Tryz.prog fnsP5 := AllOK.cons (P := Go.Proofs.Tryz.prog) (f := 42) (G := pureD pa5) (l := fns0) pa5_fun fns0_ok
theorem ck5_ok : checkTab (callN Go.Proofs.Tryz.prog (specL fnsP5) 3000) 20 ck5 = true := by kernel_rfl
theorem ck5_fun : FunOK Go.Proofs.Tryz.prog 20 (pureD ck5) := pureFun names (callN_ok mixed names draws fnsP5_ok.spec 3000) Go.Proofs.Tryz.func20 f20_body (checkTab_mem ck5_ok)
def fnsK5 : List (Nat × FunT) := (36, pureD to) :: fnsI5
def fnsL5 : List (Nat × FunT) := (20, pureD ck5) :: fnsK5
def fnsM5 : List (Nat × FunT) := (42, pureD pa5) :: fnsL5
def fnsN5 : List (Nat × FunT) := (9, pureD ts) :: fnsM5
def fnsJ5 : List (Nat × FunT) := (13, pureD tk) :: fnsN5
theorem fnsK5_ok : AllOK Go.Proofs.Tryz.prog fnsK5 := AllOK.cons (P := Go.Proofs.Tryz.prog) (f := 36) (G := pureD to) (l := fnsI5) to_fun fnsI5_ok
theorem fnsL5_ok : AllOK Go.Proofs.Tryz.prog fnsL5 := AllOK.cons (P := Go.Proofs.Tryz.prog) (f := 20) (G := pureD ck5) (l := fnsK5) ck5_fun fnsK5_ok
theorem fnsM5_ok : AllOK Go.Proofs.Tryz.prog fnsM5 := AllOK.cons (P := Go.Proofs.Tryz.prog) (f := 42) (G := pureD pa5) (l := fnsL5) pa5_fun fnsL5_ok
theorem fnsN5_ok : AllOK Go.Proofs.Tryz.prog fnsN5 := AllOK.cons (P := Go.Proofs.Tryz.prog) (f := 9) (G := pureD ts) (l := fnsM5) ts_fun fnsM5_ok
theorem fnsJ5_ok : AllOK Go.Proofs.Tryz.prog fnsJ5 := AllOK.cons (P := Go.Proofs.Tryz.prog) (f := 13) (G := pureD tk) (l := fnsN5) tk_fun fnsN5_ok
theorem soundJ5 (n : Nat) : CallOK Go.Proofs.Tryz.prog (callN Go.Proofs.Tryz.prog (specL fnsJ5) n) := callN_ok mixed names draws fnsJ5_ok.spec n
end GapsN
