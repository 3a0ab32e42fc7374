/- A part of the proof that reglet/regletlaw12.CutNames answers true. -/
import Derived.Test.YtlemkhodaaoimaaGreatYTold0
import Derived.Test.YtlemkhodaaoimaaGreatYTold1
import Derived.Test.YtlemkhodaaoimaaGreatYTold2
import Derived.Test.YtlemkhodaaoimaaGreatYTold3
import Derived.Test.YtlemkhodaaoimaaGreatYTold4
import Derived.Test.YtlemkhodaaoimaaGreatYTold5
import Derived.Test.YtlemkhodaaoimaaGreatYTold6
import Derived.Test.YtlemkhodaaoimaaGreatYTold7
set_option linter.unusedVariables false
set_option maxRecDepth 100000
noncomputable section
namespace CutN
open Go Am
def tab : List (List Nat × List Nat) := [(q0, r0), (q1, r1), (q2, r2), (q3, r3), (q4, r4), (q5, r5), (q6, r6), (q7, r7)]
def fns : List (Nat × FunT) := (5, tableD tab) :: fns0
def isTrue : KV := fun v _ _ => match v with | .bool b => b | _ => false
theorem f5_body : Go.Proofs.Tryz.f5.body.isSome = true := by kernel_rfl
theorem f3_body : Go.Proofs.Tryz.f3.body.isSome = true := by kernel_rfl
theorem tab_ok : ∀ p ∈ tab, callN Go.Proofs.Tryz.prog (specL fns0) 3000 (.func 5 [] []) [.str p.1] noHeap 0 (isStr p.2) noP = true := by
  intro p hp
  simp only [tab, List.mem_cons, List.not_mem_nil, or_false] at hp
  rcases hp with rfl | rfl | rfl | rfl | rfl | rfl | rfl | rfl
  · exact told0
  · exact told1
  · exact told2
  · exact told3
  · exact told4
  · exact told5
  · exact told6
  · exact told7
theorem main : callN Go.Proofs.Tryz.prog (specL fns) 3000 (.func 3 [] []) [] noHeap 0 isTrue noP = true := by kernel_rfl
end CutN
