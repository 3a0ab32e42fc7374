/- Rounds, functions, calls: sound. -/
import Derived.Test.YtlemkhodaaoimaaGreatAmSound2
set_option linter.unusedVariables false
set_option linter.unusedSimpArgs false
noncomputable section
namespace Am
open Go
variable {P : Program} {β : Beta} {h : HP} {nx : Nat} {w : World}
section
variable {d nt : Nat} {CALL : CALLT} {SPEC : Nat → Option (CALLT → List AV → HP → Nat → KV → KV → Bool)}

/-! ### rounds -/
theorem setPs_ok : ∀ {ps : List Nat} {vs : List AV} {vs' : List Value} {t : TM} {tmps : Array Value} {kk : TM → Bool}, TRel β d nt t tmps → LRel β vs vs' → setPs d nt ps vs t kk = true →
    ∃ t', vs'.length = ps.length ∧ TRel β d nt t' ((ps.zip vs').foldl (fun tmps (x : Nat × Value) => tmps.setIfInBounds x.1 x.2) tmps) ∧ kk t' = true := by
  intro ps
  induction ps with
  | nil =>
    intro vs vs' t tmps kk ht hl e
    cases vs with
    | nil => have := hl.nil_inv; subst this; exact ⟨t, rfl, ht, e⟩
    | cons v vs => cases e
  | cons p ps ih =>
    intro vs vs' t tmps kk ht hl e
    cases vs with
    | nil => cases e
    | cons v vs =>
      obtain ⟨v', l', rfl, hv, hl2⟩ := hl.cons_inv
      have e : putD d nt (some p) v t (fun t => setPs d nt ps vs t kk) = true := e
      obtain ⟨t1, h1, _, e⟩ := putD_ok (a := { tmps := tmps, defers := [] }) ht hv e
      obtain ⟨t2, h2, h3, e⟩ := ih (tmps := tmps.setIfInBounds p v') h1 hl2 e
      exact ⟨t2, by simp [h2], by simpa using h3, e⟩

theorem endRound_ok {l : Nat} {i : BI} {jump : Option Code} {k kp : KV} {β0 : Beta} {h0 : HP} {nx0 : Nat} {w0 : World} (hr : HRel β h nx w) (st : Step β0 h0 nx0 w0 β h nx w) (hi : β l = some i) (e : endRound l jump h nx k = true) :
    ∃ v w', (Instr.endRound i.blk jump).run P w = .ok v w' ∧ EndOK β0 h0 nx0 w0 k kp (.returned v) w' := by
  unfold endRound at e
  rw [Tr.getK_eq] at e
  obtain ⟨sst, p, d', nt', t', ps', x', y', lp, g0, g1, g2, g3, g4, g5, g6, g7, g8, g9, e⟩ := withLoop_of hr hi e
  rw [Tr.setK_eq] at e
  obtain ⟨q1, q2⟩ := loop_turn (l2 := { lp with state := if jump.isNone then .ready else .done, pending := jump }) (st2 := jumpSt jump) (p2 := jump) hr hi g0 g1 (by cases jump <;> rfl) rfl g4 g5 g6 g7 g8 g9
  exact ⟨_, _, run_endRound jump g1, β, _, _, nx, q1, st.trans q2, .bool _, e⟩

theorem yieldD_ok (hmo : P.follows .mixedOrders = true) (hN : NamesOK P) (hC : CallOK P CALL) {l : Nat} {i : BI} {args : List AV} {args' : List Value} {k kp : KV} (hr : HRel β h nx w) (hi : β l = some i) (hl : LRel β args args')
    (e : yieldD P CALL l args h nx k kp = true) : NextOK P β h nx w k kp ((Instr.yield i.blk args'.toArray).run P w) := by
  unfold yieldD at e
  rw [Tr.getK_eq] at e
  obtain ⟨sst, p, d', nt', t', ps', x', y', lp, g0, g1, g2, g3, g4, g5, g6, g7, g8, g9, e⟩ := withLoop_of hr hi e
  obtain ⟨t1, h1, h2, e⟩ := setPs_ok g4 hl e
  have hps : args'.toArray.size = lp.params.size := by
    have : lp.params.size = ps'.length := by rw [← g5]; simp
    rw [this]; simpa using h1
  have hrun := run_yield (P := P) (args := args'.toArray) g1 hps
  rw [hrun]
  have htm : ((lp.params.zip args'.toArray).foldl (fun tmps (x : Tmp × Value) => tmps.setIfInBounds x.1 x.2) lp.tmps) = ((ps'.zip args').foldl (fun tmps (x : Nat × Value) => tmps.setIfInBounds x.1 x.2) lp.tmps) := by
    rw [← Array.foldl_toList, Array.toList_zip, g5]
  show RoundIn Fence.wide 0 P i.blk lp.fn ((lp.params.zip args'.toArray).foldl (fun tmps (x : Tmp × Value) => tmps.setIfInBounds x.1 x.2) lp.tmps) lp.assign lp.body w (EndOK β h nx w k kp)
  rw [htm, g6, g7]
  refine roundIn_of_wpIn trivial ?_
  refine codeD_ok (rd := true) hmo hN hC x' g8 (some i.blk) _ none β h nx w t1 { tmps := _, defers := [] } _ _ (fun hh => by cases hh) (fun hh => by cases hh) hr h2 trivial e (fun β1 t2 h1 nx1 a1 w1 q1 q2 q3 q4 q5 => ?_) ⟨fun id => ?_, ?_, ?_⟩
  · -- the body
    have q5 : beginRound l h1 (fun h => codeD P d' nt' CALL true y' t2 h nx1 (fun _ h nx => endRound l none h nx k) (roundX l k)) = true := q5
    unfold beginRound at q5
    rw [Tr.getK_eq] at q5
    have hi1 := q4.ext _ _ hi
    obtain ⟨sst2, p2, d2, nt2, t22, ps2, x2, y2, lp2, f0, f1, f2, f3, f4, f5, f6, f7, f8, f9, q5⟩ := withLoop_of q1 hi1 q5
    obtain ⟨hready, q5⟩ := guard_of q5
    rw [Tr.setK_eq] at q5
    have hstate : lp2.state = .ready := by
      rw [f2]; cases sst2 <;> first | rfl | cases hready
    refine ⟨_, run_beginRound f1 hstate, ?_⟩
    obtain ⟨u1, u2⟩ := loop_turn (l2 := { lp2 with state := .busy }) (st2 := .busy) (p2 := p2) q1 hi1 f0 f1 rfl f3 f4 f5 f6 f7 f8 f9
    have st := q4.trans u2
    refine codeD_ok (rd := true) hmo hN hC y' g9 (some i.blk) _ none β1 _ nx1 _ t2 a1 _ _ (fun hh => by cases hh) (fun hh => by cases hh) u1 q2 (q3.step u2) q5 (fun β3 t3 h3 nx3 a3 w3 v1 v2 v3 v4 v5 => ?_) ⟨fun id => fun β3 t3 h3 nx3 a3 w3 v1 v2 v3 v4 v5 => ?_, fun β3 t3 h3 nx3 a3 w3 v1 v2 v3 v4 v5 => ?_, fun β3 v v' h3 nx3 a3 w3 v1 v2 v3 v4 v5 => ?_⟩
    · exact endRound_ok (jump := none) v1 (st.trans v4) (v4.ext _ _ hi1) v5
    · exact endRound_ok (jump := some (.exit id)) v1 (st.trans v4) (v4.ext _ _ hi1) v5
    · exact endRound_ok (jump := some .ret) v1 (st.trans v4) (v4.ext _ _ hi1) v5
    · cases v5
  · intro β3 t3 h3 nx3 a3 w3 v1 v2 v3 v4 v5; cases v5
  · intro β3 t3 h3 nx3 a3 w3 v1 v2 v3 v4 v5; cases v5
  · intro β3 v v' h3 nx3 a3 w3 v1 v2 v3 v4 v5; cases v5

/-! ### results -/
def resF (tmps : Array Value) (x : ResultVar) : Sem Value := match x with
  | .tmp t => pure (tmps.getD t undef)
  | .cell a t => do loadVar t (← asAddr (tmps.getD a undef))
theorem resOne_ok {t : TM} {tmps : Array Value} {x : ResultVar} {kk : AV → Bool} (hr : HRel β h nx w) (ht : TRel β d nt t tmps) (e : resOne P d nt x t h kk = true) :
    ∃ v v', (resF tmps x).run P w = .ok v' w ∧ VRel β v v' ∧ kk v = true := by
  cases x with
  | tmp i =>
    obtain ⟨v, _, _, hv, e⟩ := evTmp_ok (a := { tmps := tmps, defers := [] }) ht (show evTmp d nt i t kk = true from e)
    exact ⟨v, _, rfl, hv, e⟩
  | cell i ty =>
    obtain ⟨v, _, _, hv, e⟩ := evTmp_ok (a := { tmps := tmps, defers := [] }) ht (show evTmp d nt i t (fun a => loadA P ty a h 0 fun v _ _ => kk v) = true from e)
    have hv : VRel β v (tmps.getD i undef) := hv
    have e2 : loadA P ty v h nx (fun v _ _ => kk v) = true := by
      have : ∀ n m, loadA P ty v h n (fun v _ _ => kk v) = loadA P ty v h m (fun v _ _ => kk v) := by
        intro n m
        cases v <;> first | rfl | skip
        rename_i b o _ _
        show loadP (loadKind P ty) b o h n _ = loadP (loadKind P ty) b o h m _
        cases loadKind P ty with
        | none => rfl
        | some kd => cases kd <;> rfl
      rw [this nx 0]; exact e
    obtain ⟨u, u', h1, h2, h3⟩ := loadA_ok hr hv e2
    refine ⟨u, u', ?_, h2, h3⟩
    show (do loadVar ty (← asAddr (tmps.getD i undef)) : Sem Value).run P w = .ok u' w
    generalize tmps.getD i undef = pv at hv h1
    cases hv <;> first | (exfalso; simp [loadA, bad1] at e2; done) | skip
    simpa [Instr.loadAt, Instr.sureAddr, asAddr] using h1
theorem resL_ok {t : TM} {tmps : Array Value} (hr : HRel β h nx w) (ht : TRel β d nt t tmps) : ∀ {rs : List ResultVar} {kk : List AV → Bool}, resL P d nt rs t h kk = true →
    ∃ vs vs', (rs.mapM (resF tmps)).run P w = .ok vs' w ∧ LRel β vs vs' ∧ kk vs = true := by
  intro rs
  induction rs with
  | nil => intro kk e; exact ⟨[], [], by simp, .nil β, e⟩
  | cons x rs ih =>
    intro kk e
    obtain ⟨v, v', h1, h2, e⟩ := resOne_ok hr ht (show resOne P d nt x t h (fun v => resL P d nt rs t h fun l => kk (v :: l)) = true from e)
    obtain ⟨vs, vs', h3, h4, e⟩ := ih e
    refine ⟨v :: vs, v' :: vs', ?_, .cons h2 h4, e⟩
    rw [List.mapM_cons]
    simp only [Sem.run_bind]
    rw [h1]
    simp only [Result.andThen, Sem.run_bind]
    rw [h3]
    simp [Result.andThen]
theorem endD_ok {fn : Func} {t : TM} {tmps : Array Value} {k : KV} (hr : HRel β h nx w) (ht : TRel β d nt t tmps) (e : endD P d nt fn.results.toList k t h nx = true) :
    ∃ v v', (results fn tmps).run P w = .ok v' w ∧ VRel β v v' ∧ k v h nx = true := by
  obtain ⟨vs, vs', h1, h2, e⟩ := resL_ok hr ht (show resL P d nt fn.results.toList t h (fun l => tupK l h nx k) = true from e)
  have hrun : ∀ v', (v' = if h : vs'.toArray.size = 1 then vs'.toArray[0] else .tuple vs'.toArray) → (results fn tmps).run P w = .ok v' w := by
    intro v' hv'
    show (do let vs ← fn.results.mapM (resF tmps); pure (if h : vs.size = 1 then vs[0] else .tuple vs) : Sem Value).run P w = .ok v' w
    rw [Array.mapM_eq_mapM_toList]
    simp only [Sem.run_bind, Sem.run_map]
    rw [h1]
    simp only [Result.andThen, Sem.run_pure]
    rw [hv']
  cases vs with
  | nil =>
    have := h2.nil_inv; subst this
    exact ⟨.tuple [], .tuple #[], hrun _ (by simp), .tuple [] [] rfl (fun j a v hh => by simp at hh), e⟩
  | cons v vs =>
    obtain ⟨v', l', rfl, hv, hl⟩ := h2.cons_inv
    cases vs with
    | nil =>
      have := hl.nil_inv; subst this
      exact ⟨v, v', hrun _ (by simp), hv, e⟩
    | cons u vs =>
      obtain ⟨u', l2, rfl, hu, hl2⟩ := hl.cons_inv
      refine ⟨.tuple (v :: u :: vs), .tuple (v' :: u' :: l2).toArray, hrun _ (by simp), .tuple _ _ h2.1 h2.2, e⟩

/-! ### functions -/
theorem leaves_ok {fn : Func} {tmps : Array Value} {R : Ending → World → Prop} {u : FrameMode} {s0 : Option Nat} {β0 : Beta} {h0 : HP} {nx0 : Nat} {w0 : World} (hs : some w0.heap.size = s0) (hu : u ≠ .run)
    (hend : ∀ w', HRel β h nx w' → Step β0 h0 nx0 w0 β h nx w' → LeavesIn Fence.wide 0 P fn tmps R [] u w') : ∀ {ds : List Deferred} {w : World}, HRel β h nx w → Step β0 h0 nx0 w0 β h nx w → Marks s0 β h nx w ds → LeavesInM Fence.wide 0 P fn tmps R ds u w := by
  intro ds
  induction ds with
  | nil => intro w hr st hm; exact hend w hr st
  | cons x ds ih =>
    rintro w hr st ⟨⟨b, h1, h2, h3, h4, h5, h6⟩, hm⟩
    obtain ⟨q1, q2⟩ := hr.poke st (bare_defer (some [])) (bare_defer none) h4 (by obtain ⟨x, hx, hxb⟩ := h2; rw [← hs] at hx; cases hx; exact hxb) h5
    refine ⟨hu, .inl ⟨b, _, h1, run_takeDeferred h4, ih q1 q2 ?_⟩⟩
    clear ih
    induction ds with
    | nil => trivial
    | cons y ds ih2 =>
      obtain ⟨⟨c, g1, g2, g3, g4, g5, g6⟩, hm2⟩ := hm
      have hne : c ≠ b := fun e => h6 y (List.mem_cons_self ..) (by rw [g1, e])
      exact ⟨⟨c, g1, g2, by simpa using g3, by rw [World.putObj_heap_other hne]; exact g4, g5, g6⟩, ih2 hm2 (fun d' hd' => h6 d' (List.mem_cons_of_mem _ hd'))⟩

theorem TRel.args {d nt : Nat} {args : List AV} {args' : List Value} (hl : LRel β args args') (hle : args.length ≤ nt) (hd : nt ≤ 2 ^ d) :
    TRel β d nt (setMany d args (.leaf undefA) 0) (args'.toArray ++ Array.replicate (nt - args'.toArray.size) undef) := by
  have hlen : args'.length = args.length := hl.1.symm
  refine ⟨by simp; omega, hd, fun i hi => ?_⟩
  rw [get_setMany d args (.leaf undefA) 0 i (by omega) (by omega), if_pos (Nat.zero_le _)]
  simp only [Nat.sub_zero]
  by_cases hi2 : i < args.length
  · obtain ⟨y, hy, hv⟩ := hl.get (List.getElem?_eq_getElem hi2)
    rw [List.getElem?_eq_getElem hi2]
    have : (args'.toArray ++ Array.replicate (nt - args'.toArray.size) undef).getD i undef = y := by
      rw [Array.getD_eq_getD_getElem?, Array.getElem?_append_left (by simpa [hlen] using hi2), List.getElem?_toArray, hy]; rfl
    rw [this]; exact hv
  · rw [List.getElem?_eq_none (by omega)]
    have : (args'.toArray ++ Array.replicate (nt - args'.toArray.size) undef).getD i undef = undef := by
      rw [Array.getD_eq_getD_getElem?, Array.getElem?_append_right (by simp; omega)]
      simp only [Array.getElem?_replicate]
      split <;> rfl
    rw [this]
    have hg : Tr.get d (.leaf undefA) i = undefA := by
      have : ∀ d, Tr.get d (.leaf undefA : TM) i = undefA := fun d => by cases d <;> rfl
      exact this d
    rw [hg]
    exact .tuple [] [] rfl (fun j a v hh => by simp at hh)

/-- all functions' regions that draw are as the plan needs them -/
def DrawsOK (P : Program) : Prop := ∀ (f : Nat) (fn : Func) (c : Code), P.funcs[f]? = some fn → fn.body = some c → drawsOk c = true

theorem enterF_ok (hmo : P.follows .mixedOrders = true) (hN : NamesOK P) (hD : DrawsOK P) (hC : CallOK P CALL) {f : Nat} {args : List AV} {args' : List Value} {k kp : KV} (hr : HRel β h nx w) (hl : LRel β args args')
    (e : enterF P CALL P.funcs[f]? args h nx k kp = true) : NextOK P β h nx w k kp ((callFunc f args'.toArray).run P w) := by
  cases hf : P.funcs[f]? with
  | none => rw [hf] at e; cases e
  | some fn =>
    rw [hf] at e
    have e : enterB P CALL fn fn.body args h nx k kp = true := e
    cases hb : fn.body with
    | none => rw [hb] at e; cases e
    | some c =>
      rw [hb] at e
      obtain ⟨hle, e⟩ := guard_of (show (Bool.rec (motive := fun _ => Bool) false (argsL args (depthOf fn.ntmps) (.leaf undefA) fun t => bodyD P CALL fn.results.toList c (depthOf fn.ntmps) fn.ntmps t h nx k kp) (Nat.ble args.length fn.ntmps)) = true from e)
      unfold argsL at e
      rw [storeL_eq] at e
      rw [run_enter hN hf (by rw [hb]; rfl)]
      have ht := TRel.args (β := β) hl (Nat.le_of_ble_eq_true hle) (le_depthOf fn.ntmps)
      refine callsIn_of_wp_marks hf hb trivial ?_
      have e : codeD P (depthOf fn.ntmps) fn.ntmps CALL false c (setMany (depthOf fn.ntmps) args (.leaf undefA) 0) h nx (endD P (depthOf fn.ntmps) fn.ntmps fn.results.toList k) (retX P (depthOf fn.ntmps) fn.ntmps fn.results.toList k kp) = true := e
      have hret : PostN (some w.heap.size) (depthOf fn.ntmps) fn.ntmps β h nx w (endD P (depthOf fn.ntmps) fn.ntmps fn.results.toList k) (fun a w' => LeavesInM Fence.wide 0 P fn a.tmps (EndOK β h nx w k kp) a.defers .returning w') := by
        intro β1 t1 h1 nx1 a1 w1 q1 q2 q3 q4 q5
        refine leaves_ok rfl (by simp) (fun w2 p1 p2 => ?_) q1 q4 q3
        obtain ⟨v, v', u1, u2, u3⟩ := endD_ok p1 q2 q5
        exact ⟨v', u1, β1, v, h1, nx1, p1, p2, u2, u3⟩
      exact codeD_ok (rd := false) hmo hN hC c (hD f fn c hf hb) none _ (some w.heap.size) β h nx w _ { tmps := _, defers := [] } _ _ (fun _ => rfl) (fun _ => ⟨_, rfl, Nat.le_refl _⟩) hr ht trivial e hret
        ⟨fun id => fun β1 t1 h1 nx1 a1 w1 q1 q2 q3 q4 q5 => (by cases q5), hret, fun β1 v v' h1 nx1 a1 w1 q1 q2 q3 q4 q5 =>
          leaves_ok (fn := fn) (tmps := a1.tmps) (R := EndOK β h nx w k kp) (u := .panicking (one v')) rfl (by simp) (fun w2 p1 p2 => (show EndOK β h nx w k kp (.panicked (one v')) w2 from ⟨v', rfl, β1, v, h1, nx1, p1, p2, q2, q5⟩)) q1 q4 q3⟩

/-- functions that are not entered but told of -/
def SpecOK (P : Program) (SPEC : Nat → Option (CALLT → List AV → HP → Nat → KV → KV → Bool)) : Prop := ∀ (f : Nat) G (CALL : CALLT), SPEC f = some G → CallOK P CALL →
  ∀ (β : Beta) (h : HP) (nx : Nat) (w : World) (args : List AV) (args' : List Value) (k kp : KV), HRel β h nx w → LRel β args args' → G CALL args h nx k kp = true → NextOK P β h nx w k kp ((callFunc f args'.toArray).run P w)

theorem invokeD_ok (hmo : P.follows .mixedOrders = true) (hN : NamesOK P) (hD : DrawsOK P) (hS : SpecOK P SPEC) (hC : CallOK P CALL) : CallOK P (invokeD P SPEC CALL) := by
  intro β h nx w f f' args args' k kp hr hf hl e
  cases hf <;> first | (cases e; done) | skip
  case func g fv cap fv' cap' l1 l2 l3 l4 =>
    have e : forceList (fv ++ args ++ cap) (fun al => funcD P SPEC CALL g al h nx k kp) = true := e
    rw [forceList_eq] at e
    refine ⟨_, fun W => rfl, ?_⟩
    have hal : LRel β (fv ++ args ++ cap) (fv' ++ args' ++ cap') := (LRel.append ⟨l1, l2⟩ hl).append ⟨l3, l4⟩
    show NextOK P β h nx w k kp ((callFunc g (fv'.toArray ++ args'.toArray ++ cap'.toArray)).run P w)
    have harr : fv'.toArray ++ args'.toArray ++ cap'.toArray = (fv' ++ args' ++ cap').toArray := by simp
    rw [harr]
    unfold funcD at e
    cases hs : SPEC g with
    | some G => rw [hs] at e; exact hS g G CALL hs hC β h nx w _ _ k kp hr hal e
    | none => rw [hs] at e; exact enterF_ok hmo hN hD hC hr hal e
  case yield l i hi =>
    refine ⟨_, fun W => rfl, ?_⟩
    show NextOK P β h nx w k kp ((Instr.yield i.blk (#[] ++ args'.toArray)).run P w)
    rw [Array.empty_append]
    exact yieldD_ok hmo hN hC hr hi hl e

theorem callN_ok (hmo : P.follows .mixedOrders = true) (hN : NamesOK P) (hD : DrawsOK P) (hS : SpecOK P SPEC) (n : Nat) : CallOK P (callN P SPEC n) := by
  induction n with
  | zero => intro β h nx w f f' args args' k kp hr hf hl e; cases e
  | succ n ih => exact invokeD_ok hmo hN hD hS ih
end
end Am
