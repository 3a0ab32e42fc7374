/- A part of the proof that reglet/regletlaw12.CutNames answers true. -/
import Derived.Test.YtlemkhodaaoimaaGreatAmExt
import Derived.Test.YtlemkhodaaoimaaGreatProg
import Derived.KernelRfl
set_option linter.unusedVariables false
set_option maxRecDepth 100000
noncomputable section
namespace CutN
open Go Am

def rest : Code := restOf (some Go.Proofs.Tryz.f68)
def fns0 : List (Nat × FunT) := [(41, fitsD Go.Proofs.Tryz.prog 4 10 rest), (87, add64D)]
theorem mixed : Go.Proofs.Tryz.prog.follows .mixedOrders = true := by kernel_rfl
theorem namesB_true : namesB Go.Proofs.Tryz.prog = true := by kernel_rfl
theorem drawsB_true : drawsB Go.Proofs.Tryz.prog = true := by kernel_rfl
theorem names : NamesOK Go.Proofs.Tryz.prog := names_of namesB_true
theorem draws : DrawsOK Go.Proofs.Tryz.prog := draws_of drawsB_true
theorem rest_draws : drawsOk rest = true := by kernel_rfl
theorem add64_run (args : Array Value) (W : World) : (callFunc 87 args).run Go.Proofs.Tryz.prog W = ((add64Entry args).run Go.Proofs.Tryz.prog W).andThen fun v w' => .ok (.value v) w' :=
  run_callFunc_extern Go.Proofs.Tryz.func87 (by kernel_rfl) (by kernel_rfl) (by kernel_rfl) (by kernel_rfl) args W
theorem f41_body : Go.Proofs.Tryz.f41.body = some (fitsC 4 1 68 "parse.go:24" "parse.go:25" "parse.go:25" "parse.go:34" "parse.go:34" "parse.go:35" 0 1 0 1 0 0 0 1 2 3) := by kernel_rfl
theorem f68_body : Go.Proofs.Tryz.f68.body = some (recC 20 "parse.go:26" 0 rest) := by kernel_rfl
theorem f41_res : Go.Proofs.Tryz.f41.results = #[.cell 2 4] := by kernel_rfl
theorem f41_nt : Go.Proofs.Tryz.f41.ntmps = 6 := by kernel_rfl
theorem f68_res : Go.Proofs.Tryz.f68.results = #[] := by kernel_rfl
theorem f68_nt : Go.Proofs.Tryz.f68.ntmps = 10 := by kernel_rfl
theorem fits_fun : FunOK Go.Proofs.Tryz.prog 41 (fitsD Go.Proofs.Tryz.prog 4 10 rest) :=
  fitsFun (P := Go.Proofs.Tryz.prog) (f := 41) (g := 68) (gnt := 10) (tB := 4) (t1 := 1) (rest := rest) (fn := Go.Proofs.Tryz.f41) (gn := Go.Proofs.Tryz.f68) mixed names Go.Proofs.Tryz.func41 f41_body f41_res f41_nt Go.Proofs.Tryz.func68 f68_body f68_res f68_nt (by decide) rest_draws
theorem fns0_ok : AllOK Go.Proofs.Tryz.prog fns0 := AllOK.cons (P := Go.Proofs.Tryz.prog) (f := 41) (G := fitsD Go.Proofs.Tryz.prog 4 10 rest) fits_fun (AllOK.cons (P := Go.Proofs.Tryz.prog) (f := 87) (G := add64D) (add64Fun add64_run) AllOK.nil)
theorem sound0 (n : Nat) : CallOK Go.Proofs.Tryz.prog (callN Go.Proofs.Tryz.prog (specL fns0) n) := callN_ok mixed names draws fns0_ok.spec n
end CutN
