/- A part of the proof that reglet/regletlaw13.GapsNames answers true: evaluations by the kernel, and the tables of answers that they use. -/
import Derived.Test.YtjcmcblcaakbaaaGreatDoorAmTold
import Derived.Test.YtjcmcblcaakbaaaGreatDoorShelf
import Derived.Test.YtjcmcblcaakbaaaGreatDoorProg
import Derived.KernelRfl
set_option linter.unusedVariables false
set_option maxRecDepth 100000
noncomputable section
namespace GapsN
open Go Am

def rest : Code := restOf (some Go.Proofs.Tryz.f128)
def fns0 : List (Nat × FunT) := [(124, indexByteD), (160, sameD), (45, indexD 0), (71, trimD), (87, fitsD Go.Proofs.Tryz.prog 4 10 rest), (102, add64D)]
theorem mixed : Go.Proofs.Tryz.prog.follows .mixedOrders = true := by kernel_rfl
theorem namesB_true : namesB Go.Proofs.Tryz.prog = true := by kernel_rfl
theorem drawsB_true : drawsB Go.Proofs.Tryz.prog = true := by kernel_rfl
theorem names : NamesOK Go.Proofs.Tryz.prog := names_of namesB_true
theorem draws : DrawsOK Go.Proofs.Tryz.prog := draws_of drawsB_true
theorem rest_draws : drawsOk rest = true := by kernel_rfl
theorem add64_run (args : Array Value) (W : World) : (callFunc 102 args).run Go.Proofs.Tryz.prog W = ((add64Entry args).run Go.Proofs.Tryz.prog W).andThen fun v w' => .ok (.value v) w' :=
  run_callFunc_extern Go.Proofs.Tryz.func102 (by kernel_rfl) (by kernel_rfl) (by kernel_rfl) (by kernel_rfl) args W
theorem byte_run (args : Array Value) (W : World) : (callFunc 124 args).run Go.Proofs.Tryz.prog W = ((Extern.BytealgIndexByte.indexByte args).run Go.Proofs.Tryz.prog W).andThen fun v w' => .ok (.value v) w' :=
  run_callFunc_extern Go.Proofs.Tryz.func124 (by kernel_rfl) (by kernel_rfl) (by kernel_rfl) (by kernel_rfl) args W
theorem same_run (args : Array Value) (W : World) : (callFunc 160 args).run Go.Proofs.Tryz.prog W = ((Extern.AbiNoEscape.same args).run Go.Proofs.Tryz.prog W).andThen fun v w' => .ok (.value v) w' :=
  run_callFunc_extern Go.Proofs.Tryz.func160 (by kernel_rfl) (by kernel_rfl) (by kernel_rfl) (by kernel_rfl) args W
theorem f87_body : Go.Proofs.Tryz.f87.body = some (fitsC 4 1 128 "parse.go:24" "parse.go:25" "parse.go:25" "parse.go:34" "parse.go:34" "parse.go:35" 0 1 0 1 0 0 0 1 2 3) := by kernel_rfl
theorem f128_body : Go.Proofs.Tryz.f128.body = some (recC 20 "parse.go:26" 0 rest) := by kernel_rfl
theorem f87_res : Go.Proofs.Tryz.f87.results = #[.cell 2 4] := by kernel_rfl
theorem f87_nt : Go.Proofs.Tryz.f87.ntmps = 6 := by kernel_rfl
theorem f128_res : Go.Proofs.Tryz.f128.results = #[] := by kernel_rfl
theorem f128_nt : Go.Proofs.Tryz.f128.ntmps = 10 := by kernel_rfl
theorem fits_fun : FunOK Go.Proofs.Tryz.prog 87 (fitsD Go.Proofs.Tryz.prog 4 10 rest) :=
  fitsFun (P := Go.Proofs.Tryz.prog) (f := 87) (g := 128) (gnt := 10) (tB := 4) (t1 := 1) (rest := rest) (fn := Go.Proofs.Tryz.f87) (gn := Go.Proofs.Tryz.f128) mixed names Go.Proofs.Tryz.func87 f87_body f87_res f87_nt Go.Proofs.Tryz.func128 f128_body f128_res f128_nt (by decide) rest_draws
theorem f45_body : Go.Proofs.Tryz.f45.body.isSome = true := by kernel_rfl
theorem f71_body : Go.Proofs.Tryz.f71.body.isSome = true := by kernel_rfl
theorem index_fun : FunOK Go.Proofs.Tryz.prog 45 (indexD 0) := indexFun (P := Go.Proofs.Tryz.prog) names Go.Proofs.Tryz.func45 f45_body Go.Proofs.Tryz.strings_Index_one Go.Proofs.Tryz.strings_Index
theorem trim_fun : FunOK Go.Proofs.Tryz.prog 71 trimD := trimFun (P := Go.Proofs.Tryz.prog) names Go.Proofs.Tryz.func71 f71_body Go.Proofs.Tryz.strings_TrimRight
theorem byte_fun : FunOK Go.Proofs.Tryz.prog 124 indexByteD := indexByteFun (P := Go.Proofs.Tryz.prog) (f := 124) byte_run
theorem same_fun : FunOK Go.Proofs.Tryz.prog 160 sameD := sameFun (P := Go.Proofs.Tryz.prog) (f := 160) same_run
theorem add_fun : FunOK Go.Proofs.Tryz.prog 102 add64D := add64Fun (P := Go.Proofs.Tryz.prog) (f := 102) add64_run
theorem ok1 : AllOK Go.Proofs.Tryz.prog [(102, add64D)] := AllOK.cons (P := Go.Proofs.Tryz.prog) (f := 102) (G := add64D) (l := []) add_fun AllOK.nil
theorem ok2 : AllOK Go.Proofs.Tryz.prog [(87, fitsD Go.Proofs.Tryz.prog 4 10 rest), (102, add64D)] := AllOK.cons (P := Go.Proofs.Tryz.prog) (f := 87) (G := fitsD Go.Proofs.Tryz.prog 4 10 rest) (l := [(102, add64D)]) fits_fun ok1
theorem ok3 : AllOK Go.Proofs.Tryz.prog [(71, trimD), (87, fitsD Go.Proofs.Tryz.prog 4 10 rest), (102, add64D)] := AllOK.cons (P := Go.Proofs.Tryz.prog) (f := 71) (G := trimD) (l := [(87, fitsD Go.Proofs.Tryz.prog 4 10 rest), (102, add64D)]) trim_fun ok2
theorem ok4 : AllOK Go.Proofs.Tryz.prog [(45, indexD 0), (71, trimD), (87, fitsD Go.Proofs.Tryz.prog 4 10 rest), (102, add64D)] := AllOK.cons (P := Go.Proofs.Tryz.prog) (f := 45) (G := indexD 0) (l := [(71, trimD), (87, fitsD Go.Proofs.Tryz.prog 4 10 rest), (102, add64D)]) index_fun ok3
theorem ok5 : AllOK Go.Proofs.Tryz.prog [(160, sameD), (45, indexD 0), (71, trimD), (87, fitsD Go.Proofs.Tryz.prog 4 10 rest), (102, add64D)] := AllOK.cons (P := Go.Proofs.Tryz.prog) (f := 160) (G := sameD) (l := [(45, indexD 0), (71, trimD), (87, fitsD Go.Proofs.Tryz.prog 4 10 rest), (102, add64D)]) same_fun ok4
theorem fns0_ok : AllOK Go.Proofs.Tryz.prog fns0 := AllOK.cons (P := Go.Proofs.Tryz.prog) (f := 124) (G := indexByteD) (l := [(160, sameD), (45, indexD 0), (71, trimD), (87, fitsD Go.Proofs.Tryz.prog 4 10 rest), (102, add64D)]) byte_fun ok5
theorem sound0 (n : Nat) : CallOK Go.Proofs.Tryz.prog (callN Go.Proofs.Tryz.prog (specL fns0) n) := callN_ok mixed names draws fns0_ok.spec n
end GapsN
