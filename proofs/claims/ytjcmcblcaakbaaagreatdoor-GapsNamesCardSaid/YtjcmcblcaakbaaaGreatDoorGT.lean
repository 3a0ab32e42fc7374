/- A part of the proof that reglet/regletlaw13.GapsNames answers true: evaluations by the kernel, and the tables of answers that they use. -/
import Derived.Test.YtjcmcblcaakbaaaGreatDoorGP
import Derived.Test.YtjcmcblcaakbaaaGreatDoorGF0
import Derived.Test.YtjcmcblcaakbaaaGreatDoorGF1
import Derived.Test.YtjcmcblcaakbaaaGreatDoorGF2
import Derived.Test.YtjcmcblcaakbaaaGreatDoorGF3
import Derived.Test.YtjcmcblcaakbaaaGreatDoorGF4
import Derived.Test.YtjcmcblcaakbaaaGreatDoorGF5
set_option linter.unusedVariables false
set_option maxRecDepth 100000
noncomputable section
namespace GapsN
open Go Am
def tc : List (List AV × AV) := [([.int .i64 (5), .str [40]], .tuple [.agg [.int .i64 (7), .str [40]], .int .i64 (0)]),
  ([.int .i64 (5), .str [41]], .tuple [.agg [.int .i64 (7), .str [41]], .int .i64 (0)]),
  ([.int .i64 (1), .str [105, 110, 116]], .tuple [.agg [.int .i64 (1), .str [105, 110, 116]], .int .i64 (0)]),
  ([.int .i64 (5), .str [59]], .tuple [.agg [.int .i64 (7), .str [59]], .int .i64 (0)]),
  ([.int .i64 (5), .str [61]], .tuple [.agg [.int .i64 (7), .str [61]], .int .i64 (0)]),
  ([.int .i64 (5), .str [123]], .tuple [.agg [.int .i64 (7), .str [123]], .int .i64 (0)]),
  ([.int .i64 (5), .str [125]], .tuple [.agg [.int .i64 (7), .str [125]], .int .i64 (0)]),
  ([.int .i64 (1), .str [102]], .tuple [.agg [.int .i64 (2), .str [102]], .int .i64 (0)]),
  ([.int .i64 (1), .str [120]], .tuple [.agg [.int .i64 (2), .str [120]], .int .i64 (0)]),
  ([.int .i64 (1), .str [97]], .tuple [.agg [.int .i64 (2), .str [97]], .int .i64 (0)]),
  ([.int .i64 (5), .str [44]], .tuple [.agg [.int .i64 (7), .str [44]], .int .i64 (0)]),
  ([.int .i64 (2), .str [49]], .tuple [.agg [.int .i64 (3), .str [49]], .int .i64 (0)]),
  ([.int .i64 (5), .str [43]], .tuple [.agg [.int .i64 (7), .str [43]], .int .i64 (0)]),
  ([.int .i64 (1), .str [98]], .tuple [.agg [.int .i64 (2), .str [98]], .int .i64 (0)]),
  ([.int .i64 (5), .str [42]], .tuple [.agg [.int .i64 (7), .str [42]], .int .i64 (0)]),
  ([.int .i64 (1), .str [84]], .tuple [.agg [.int .i64 (2), .str [84]], .int .i64 (0)]),
  ([.int .i64 (5), .str [58]], .tuple [.agg [.int .i64 (7), .str [58]], .int .i64 (0)]),
  ([.int .i64 (5), .str [45]], .tuple [.agg [.int .i64 (7), .str [45]], .int .i64 (0)]),
  ([.int .i64 (5), .str [91]], .tuple [.agg [.int .i64 (7), .str [91]], .int .i64 (0)]),
  ([.int .i64 (5), .str [93]], .tuple [.agg [.int .i64 (7), .str [93]], .int .i64 (0)]),
  ([.int .i64 (2), .str [50]], .tuple [.agg [.int .i64 (3), .str [50]], .int .i64 (0)]),
  ([.int .i64 (5), .str [38]], .tuple [.agg [.int .i64 (7), .str [38]], .int .i64 (0)]),
  ([.int .i64 (1), .str [99]], .tuple [.agg [.int .i64 (2), .str [99]], .int .i64 (0)]),
  ([.int .i64 (1), .str [116, 121, 112, 101, 100, 101, 102]], .tuple [.agg [.int .i64 (1), .str [116, 121, 112, 101, 100, 101, 102]], .int .i64 (0)]),
  ([.int .i64 (1), .str [115, 105, 122, 101, 111, 102]], .tuple [.agg [.int .i64 (1), .str [115, 105, 122, 101, 111, 102]], .int .i64 (0)]),
  ([.int .i64 (5), .str [46]], .tuple [.agg [.int .i64 (7), .str [46]], .int .i64 (0)]),
  ([.int .i64 (1), .str [121]], .tuple [.agg [.int .i64 (2), .str [121]], .int .i64 (0)]),
  ([.int .i64 (1), .str [100]], .tuple [.agg [.int .i64 (2), .str [100]], .int .i64 (0)]),
  ([.int .i64 (5), .str [45, 62]], .tuple [.agg [.int .i64 (7), .str [45, 62]], .int .i64 (0)]),
  ([.int .i64 (1), .str [101]], .tuple [.agg [.int .i64 (2), .str [101]], .int .i64 (0)]),
  ([.int .i64 (5), .str [43, 43]], .tuple [.agg [.int .i64 (7), .str [43, 43]], .int .i64 (0)]),
  ([.int .i64 (1), .str [103]], .tuple [.agg [.int .i64 (2), .str [103]], .int .i64 (0)]),
  ([.int .i64 (2), .str [51]], .tuple [.agg [.int .i64 (3), .str [51]], .int .i64 (0)]),
  ([.int .i64 (1), .str [99, 111, 110, 115, 116]], .tuple [.agg [.int .i64 (1), .str [99, 111, 110, 115, 116]], .int .i64 (0)]),
  ([.int .i64 (1), .str [118, 111, 105, 100]], .tuple [.agg [.int .i64 (1), .str [118, 111, 105, 100]], .int .i64 (0)]),
  ([.int .i64 (5), .str [63]], .tuple [.agg [.int .i64 (7), .str [63]], .int .i64 (0)]),
  ([.int .i64 (1), .str [102, 111, 114]], .tuple [.agg [.int .i64 (1), .str [102, 111, 114]], .int .i64 (0)]),
  ([.int .i64 (1), .str [99, 97, 115, 101]], .tuple [.agg [.int .i64 (1), .str [99, 97, 115, 101]], .int .i64 (0)]),
  ([.int .i64 (5), .str [46, 46, 46]], .tuple [.agg [.int .i64 (7), .str [46, 46, 46]], .int .i64 (0)]),
  ([.int .i64 (1), .str [114, 101, 116, 117, 114, 110]], .tuple [.agg [.int .i64 (1), .str [114, 101, 116, 117, 114, 110]], .int .i64 (0)]),
  ([.int .i64 (1), .str [95, 71, 101, 110, 101, 114, 105, 99]], .tuple [.agg [.int .i64 (1), .str [95, 71, 101, 110, 101, 114, 105, 99]], .int .i64 (0)]),
  ([.int .i64 (1), .str [100, 101, 102, 97, 117, 108, 116]], .tuple [.agg [.int .i64 (1), .str [100, 101, 102, 97, 117, 108, 116]], .int .i64 (0)]),
  ([.int .i64 (1), .str [76]], .tuple [.agg [.int .i64 (2), .str [76]], .int .i64 (0)]),
  ([.int .i64 (1), .str [104]], .tuple [.agg [.int .i64 (2), .str [104]], .int .i64 (0)])]
theorem tc_ok : checkTab (callN Go.Proofs.Tryz.prog (specL fns1) 3000) 33 tc = true := by kernel_rfl
end GapsN
set_option linter.unusedVariables false
set_option maxRecDepth 100000
namespace GapsN
open Go Am
def tf : List (List AV × AV) := tf0 ++ (tf1 ++ (tf2 ++ (tf3 ++ (tf4 ++ tf5))))
theorem f74_body : Go.Proofs.Tryz.f74.body.isSome = true := by kernel_rfl
theorem f33_body : Go.Proofs.Tryz.f33.body.isSome = true := by kernel_rfl
theorem tf_ok : ∀ p ∈ tf, callN Go.Proofs.Tryz.prog (specL fns1) 3000 (.func 74 [] []) p.1 noHeap 0 (isV p.2) noP = true := by
  intro p hp
  simp only [tf, List.mem_append] at hp
  rcases hp with hp | hp | hp | hp | hp | hp
  · exact checkTab_mem tf0_ok p hp
  · exact checkTab_mem tf1_ok p hp
  · exact checkTab_mem tf2_ok p hp
  · exact checkTab_mem tf3_ok p hp
  · exact checkTab_mem tf4_ok p hp
  · exact checkTab_mem tf5_ok p hp
theorem tf_fun : FunOK Go.Proofs.Tryz.prog 74 (pureD tf) := pureFun names (sound1 3000) Go.Proofs.Tryz.func74 f74_body tf_ok
theorem tc_fun : FunOK Go.Proofs.Tryz.prog 33 (pureD tc) := pureFun names (sound1 3000) Go.Proofs.Tryz.func33 f33_body (checkTab_mem tc_ok)
def fns2 : List (Nat × FunT) := (33, pureD tc) :: fns1
def fns3 : List (Nat × FunT) := (74, pureD tf) :: fns2
theorem fns2_ok : AllOK Go.Proofs.Tryz.prog fns2 := AllOK.cons (P := Go.Proofs.Tryz.prog) (f := 33) (G := pureD tc) (l := fns1) tc_fun fns1_ok
theorem fns3_ok : AllOK Go.Proofs.Tryz.prog fns3 := AllOK.cons (P := Go.Proofs.Tryz.prog) (f := 74) (G := pureD tf) (l := fns2) tf_fun fns2_ok
theorem sound3 (n : Nat) : CallOK Go.Proofs.Tryz.prog (callN Go.Proofs.Tryz.prog (specL fns3) n) := callN_ok mixed names draws fns3_ok.spec n
end GapsN
