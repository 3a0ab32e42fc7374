/- reglet/regletlaw12.CutNames answers true: on every world and every tape; no condition. -/
import Derived.Test.YtlemkhodaaoimaaGreatRows
import Derived.Test.YtlemkhodaaoimaaGreatYMain
import Derived.WalkKit
import Derived.ProofKit
import Derived.OpenShut
namespace Go.Proofs.YtlemkhodaaoimaaGreat.cutNames
open Go.ChangeShapes Go.WideShapes Go.ChangeAt Go.RowKit
set_option linter.unusedVariables false      -- a walk need not use every 'w<i>' (that an integer argument fits its kind)

theorem own : ownKnob Tryz.prog.godebug = none := by kernel_rfl

/-! ### the walk -/
set_option maxRecDepth 100000 in
theorem fns_ok : Am.AllOK Tryz.prog CutN.fns := Am.AllOK.cons (P := Tryz.prog) (f := 5) (G := Am.tableD CutN.tab) (Am.tableFun CutN.names (CutN.sound0 3000) Tryz.func5 CutN.f5_body CutN.tab_ok) CutN.fns0_ok
set_option maxRecDepth 100000 in
theorem walk (w : World) : Calls Tryz.prog 3 #[] w fun e w' => e = .returned (.bool true) ∧ Grown w w' := by
  have hc := Am.calls_of (w := w) CutN.names (Am.callN_ok CutN.mixed CutN.names CutN.draws fns_ok.spec 3000) Tryz.func3 CutN.f3_body (Am.HRel.empty w) (Am.LRel.nil Am.noBeta) CutN.main
  refine (callsIn_wide.1 hc).mono fun e w' he => ?_
  cases e with
  | outgrown => exact he.elim
  | panicked ch => obtain ⟨_, _, _, _, _, _, _, _, _, hk⟩ := he; cases hk
  | returned v' =>
    obtain ⟨β', v, h', nx', q1, q2, q3, hk⟩ := he
    refine ⟨?_, ?_, q2.fz, q2.size⟩
    · cases v <;> first | (cases hk; done) | skip
      rename_i b
      have hb : b = true := hk
      subst hb
      cases q3
      rfl
    · exact Am.kept_of q2.os q2.out fun b hb => q2.keep b hb (Am.not_own_empty b)

/-! ### THE ROW's STEP: WRITTEN OUT: LEAVE IT -/
set_option maxRecDepth 100000 in
theorem lifted (os : Os) (started : os.Started) (H : Type) (enc : TypeId × Value → H) :
    ReturnsInHanded {} Tryz.checked os 3 .any (Rows.cutNamesSpec.pre6 enc Tryz.prog Tryz.f3 Rows.cutNamesRow.domain false) (Rows.cutNamesSpec.post enc Tryz.prog Tryz.f3 false true false false) := by
  refine returnsInHanded_of_change (C := Tryz.checked) own started (by kernel_rfl) Tryz.func3
    (ChangeSpec.witness6 (enc := enc) (C := Tryz.checked) false ⟨#[], #[], []⟩ 8 (by kernel_rfl) (by kernel_rfl) (by kernel_rfl) (by kernel_rfl)) ?_
  intro W base args ds gs before hval0 hW hcnd _
  have hval : ∀ (j : Nat) t v, Tryz.f3.params[j]? = some t → args[j]? = some v → Value.okWide Tryz.prog W .any base t v := hval0
  have hW' := hW
  obtain ⟨p, q, hA0, hV, rfl, hfz, hnd⟩ := hW
  have hA : DataW.TrodAll enc Tryz.prog W 0 (fun _ => true) true Tryz.f3.params.toList args.toList ds p := hA0
  rw [Tryz.params3] at hA hval
  obtain ⟨rfl, rfl, rfl⟩ := trodAll_none hA
  obtain ⟨rfl, rfl⟩ := trodVars_none hV
  clear hA0 hval0
  simp only [List.append_nil] at hW'
  refine (walk  W).mono fun e W' ⟨he, hg⟩ => ?_
  subst he
  exact ⟨_, rfl, post_of_same (pa := []) (pv := []) hW' (fun _ _ _ => (trodAll_cons_mk (shut_bool Tryz.underlying4 _) trodAll_mk0)) (fun sp _ => rfl) (fun _ _ => rfl) rfl
    (hg.frame _) hg.2.1 (ok_one (by kernel_rfl) rfl (okWide_bool_mk Tryz.underlying4 _))⟩

theorem over : Rows.cutNamesRow.holds Tryz.pinned (OpenSpec.ofChange Rows.cutNamesSpec) :=
  OpenClaim.holds_of_wide 3 Tryz.f3 rfl rfl rfl rfl rfl rfl rfl ⟨rfl, rfl, rfl, rfl, rfl⟩ rfl rfl rfl rfl rfl (by kernel_rfl) Tryz.func3 (by kernel_rfl)
    (of_decide_eq_true (by kernel_rfl)) (by unfold Func.isWrapper; first | (rw [if_pos (by decide +kernel)]; kernel_rfl) | (rw [if_neg (by decide +kernel)]; exact ⟨rfl, rfl⟩))
    (fun os started H enc _ => lifted os started H enc)

/-- ████ THE STATEMENT ████ -/
theorem proved : Rows.CutNamesSaid :=
  over
#print axioms proved
end Go.Proofs.YtlemkhodaaoimaaGreat.cutNames
