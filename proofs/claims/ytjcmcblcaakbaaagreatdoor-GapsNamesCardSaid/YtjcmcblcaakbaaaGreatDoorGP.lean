/- A part of the proof that reglet/regletlaw13.GapsNames answers true: evaluations by the kernel, and the tables of answers that they use. -/
import Derived.Test.YtjcmcblcaakbaaaGreatDoorGP0
import Derived.Test.YtjcmcblcaakbaaaGreatDoorGP1
import Derived.Test.YtjcmcblcaakbaaaGreatDoorGP2
import Derived.Test.YtjcmcblcaakbaaaGreatDoorGP3
set_option linter.unusedVariables false
set_option maxRecDepth 100000
noncomputable section
namespace GapsN
open Go Am
def tp : List (List AV × AV) := tp0 ++ (tp1 ++ (tp2 ++ tp3))
theorem f127_body : Go.Proofs.Tryz.f127.body.isSome = true := by kernel_rfl
theorem tp_ok : ∀ p ∈ tp, callN Go.Proofs.Tryz.prog (specL fns0) 3000 (.func 127 [] []) p.1 noHeap 0 (isV p.2) noP = true := by
  intro p hp
  simp only [tp, List.mem_append] at hp
  rcases hp with hp | hp | hp | hp
  · exact checkTab_mem tp0_ok p hp
  · exact checkTab_mem tp1_ok p hp
  · exact checkTab_mem tp2_ok p hp
  · exact checkTab_mem tp3_ok p hp
theorem tp_fun : FunOK Go.Proofs.Tryz.prog 127 (pureD tp) := pureFun names (sound0 3000) Go.Proofs.Tryz.func127 f127_body tp_ok
def fns1 : List (Nat × FunT) := (127, pureD tp) :: fns0
theorem fns1_ok : AllOK Go.Proofs.Tryz.prog fns1 := AllOK.cons (P := Go.Proofs.Tryz.prog) (f := 127) (G := pureD tp) (l := fns0) tp_fun fns0_ok
theorem sound1 (n : Nat) : CallOK Go.Proofs.Tryz.prog (callN Go.Proofs.Tryz.prog (specL fns1) n) := callN_ok mixed names draws fns1_ok.spec n
end GapsN
