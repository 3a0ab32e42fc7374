/- A part of the proof that reglet/regletlaw13.GapsNames answers true: evaluations by the kernel, and the tables of answers that they use. -/
import Derived.Test.YtjcmcblcaakbaaaGreatDoorGTold0
import Derived.Test.YtjcmcblcaakbaaaGreatDoorGTold1
import Derived.Test.YtjcmcblcaakbaaaGreatDoorGTold2
import Derived.Test.YtjcmcblcaakbaaaGreatDoorGTold3
import Derived.Test.YtjcmcblcaakbaaaGreatDoorGTold4
import Derived.Test.YtjcmcblcaakbaaaGreatDoorGTold5
import Derived.Test.YtjcmcblcaakbaaaGreatDoorGTold6
import Derived.Test.YtjcmcblcaakbaaaGreatDoorGI9
import Derived.Test.YtjcmcblcaakbaaaGreatDoorAmTold
set_option linter.unusedVariables false
set_option maxRecDepth 100000
noncomputable section
namespace GapsN
open Go Am
def tab : List (List Nat × List Nat) := [(q0, r0), (q1, r1), (q2, r2), (q3, r3), (q4, r4), (q5, r5), (q6, r6)]
theorem f5_body : Go.Proofs.Tryz.f5.body.isSome = true := by kernel_rfl
theorem f3_body : Go.Proofs.Tryz.f3.body.isSome = true := by kernel_rfl
theorem tab_ok : ∀ p ∈ tab, ∃ CALL0 : CALLT, CallOK Go.Proofs.Tryz.prog CALL0 ∧ CALL0 (.func 5 [] []) [.str p.1] noHeap 0 (isStr p.2) noP = true := by
  intro p hp
  simp only [tab, List.mem_cons, List.not_mem_nil, or_false] at hp
  rcases hp with rfl | rfl | rfl | rfl | rfl | rfl | rfl
  · exact ⟨_, soundJ0 3000, told0⟩
  · exact ⟨_, soundJ1 3000, told1⟩
  · exact ⟨_, soundJ2 3000, told2⟩
  · exact ⟨_, soundJ3 3000, told3⟩
  · exact ⟨_, soundJ4 3000, told4⟩
  · exact ⟨_, soundJ5 3000, told5⟩
  · exact ⟨_, soundJ6 3000, told6⟩
theorem tab_fun : FunOK Go.Proofs.Tryz.prog 5 (tableD tab) := tableFun2 names Go.Proofs.Tryz.func5 f5_body tab_ok
def fns4 : List (Nat × FunT) := (5, tableD tab) :: fnsJ9
theorem fns4_ok : AllOK Go.Proofs.Tryz.prog fns4 := AllOK.cons (P := Go.Proofs.Tryz.prog) (f := 5) (G := tableD tab) (l := fnsJ9) tab_fun fnsJ9_ok
theorem sound4 (n : Nat) : CallOK Go.Proofs.Tryz.prog (callN Go.Proofs.Tryz.prog (specL fns4) n) := callN_ok mixed names draws fns4_ok.spec n
def isTrue : KV := fun v _ _ => match v with | .bool b => b | _ => false
theorem main : callN Go.Proofs.Tryz.prog (specL fns4) 3000 (.func 3 [] []) [] (globHeap 0) 1 isTrue noP = true := by kernel_rfl
end GapsN
