/- The function that recovers: sound. -/
import Derived.Test.YtjcmcblcaakbaaaGreatDoorAmSound
import Derived.RecoverIn
set_option linter.unusedVariables false
set_option linter.unusedSimpArgs false
noncomputable section
namespace Am
open Go
variable {P : Program} {β : Beta} {h : HP} {nx : Nat} {w : World}

/-- the body of such a function -/
def fitsC (tB t1 g : Nat) (p0 p1 p2 p3 p4 p5 : String) (y0 y1 y2 y3 y4 y5 i0 i1 i2 i3 : Nat) : Code :=
  (Code.region i0 #[{ dst := some 2, op := Op.alloc tB, type := y0, pos := p0, after := #[], guard := none }] false).seq
    ((Code.region i1 #[{ dst := some 3, op := Op.makeFunc (Fn.func g) #[] #[Operand.tmp 2], type := y1, pos := p1, after := #[], guard := none },
        { dst := none, op := Op.defer { callee := Callee.value (Operand.tmp 3), args := #[], argTypes := #[] }, type := y2, pos := p2, after := #[{ on := 0, ground := Ground.data }], guard := none }] false).seq
      ((Code.region i2 #[{ dst := some 4, op := Op.move (Operand.tmp 0), type := y3, pos := p3, after := #[], guard := none },
          { dst := some 5, op := Op.call { callee := Callee.value (Operand.tmp 4), args := #[], argTypes := #[] }, type := y4, pos := p4, after := #[{ on := 0, ground := Ground.data }], guard := none }] false).seq
        ((Code.region i3 #[{ dst := none, op := Op.store tB (Operand.tmp 2) (Operand.const (Value.bool true)), type := y5, pos := p5, after := #[], guard := none }] false).seq Code.ret)))
def recC (tI : Nat) (p : String) (i : Nat) (rest : Code) : Code :=
  (Code.region i #[{ dst := some 4, op := Op.call { callee := Callee.builtin Builtin.recover, args := #[], argTypes := #[] }, type := tI, pos := p, after := #[], guard := none }] false).seq rest

theorem wpOps_rec {Q : Exit → Act → List Frame → World → Prop} {a : Act} {cs : List Frame} (o : Oper) (hg : o.guard = none) (hrun : (execOp a.eval o).run P w = .ok .recover w)
    (hq : match recoverD cs with | some (v, cs') => Q .normal (a.put o.dst v) cs' w | none => Q .normal (a.put o.dst .nilIface) cs w) : wpOpsSIn Fence.wide 0 P #[o] Q (List.range (#[o] : Array Oper).size) a cs w := by
  have e1 : List.range (#[o] : Array Oper).size = [0] := rfl
  rw [e1]
  have e2 : (#[o] : Array Oper)[0]? = some o := rfl
  simp only [wpOpsSIn, e2]
  refine ⟨fun _ _ => trivial, ?_⟩
  have hw : Region.wanted o (yielded #[o] a.tmps) = true := by simp [Region.wanted, hg]
  rw [if_pos hw, hrun]
  simp only []
  cases hr : recoverD cs with
  | none => rw [hr] at hq; exact hq
  | some x => rw [hr] at hq; exact hq

theorem marks_none {s : List Deferred} (h0 : Marks none β h nx w s) : s = [] := by
  cases s with
  | nil => rfl
  | cons d ds => obtain ⟨⟨b, _, ⟨x, hx, _⟩, _⟩, _⟩ := h0; cases hx

section
variable {tB t1 g gnt : Nat} {rest : Code} {CALL : CALLT} {k : KV}

/-- the closure, run when the function is left, and what the function then answers -/
theorem fitsL_ok (hmo : P.follows .mixedOrders = true) (hN : NamesOK P) (hC : CallOK P CALL) {fn gn : Func} {tI i : Nat} {pg : String} {tmps : Array Value}
    (hfr : fn.results = #[.cell 2 tB]) (hg : P.funcs[g]? = some gn) (hgb : gn.body = some (recC tI pg i rest)) (hgr : gn.results = #[]) (hgn : gn.ntmps = gnt) (h4 : 4 < gnt) (hdr : drawsOk rest = true)
    {β0 : Beta} {h0 : HP} {nx0 : Nat} {w0 : World} {kp : KV} {p v : AV} {p' v' : Value} {u : FrameMode} (hu : (u = .returning ∧ v' = .nilIface) ∨ u = .panicking (one v'))
    (hr : HRel β h nx w) (st : Step β0 h0 nx0 w0 β h nx w) (hp : VRel β p p') (hv : VRel β v v') (htp : tmps.getD 2 undef = p') (e : fitsL P tB gnt rest CALL p v h nx k = true) :
    LeavesIn Fence.wide 0 P fn tmps (EndOK β0 h0 nx0 w0 k kp) [{ target := .fn (.func g) #[p'], args := #[] }] u w := by
  have hne : u ≠ .run := by rcases hu with ⟨rfl, _⟩ | rfl <;> simp
  refine ⟨hne, fun hh => (by cases hh), .func g, #[p'], g, #[p'], rfl, ?_, fun _ _ => trivial, ?_⟩
  · show (callFunc g (#[] ++ #[p'])).run P w = _
    rw [Array.empty_append]
    exact run_enter hN hg (by rw [hgb]; rfl) _ _
  · unfold fitsL at e
    rw [storeL_eq] at e
    have ht0 := TRel.args (d := depthOf gnt) (nt := gnt) (β := β) (LRel.cons hp (.nil β)) (by simp; omega) (le_depthOf gnt)
    obtain ⟨t1, ht1, _, e⟩ := putD_ok (a := { tmps := _, defers := [] }) ht0 hv e
    refine callsDIn_of_wpSIn hg hgb trivial fun c₀ cs hmode => ?_
    refine wpSIn_seq (wpSIn_region ?_)
    -- the frame below, behind the call of recover
    let u' : FrameMode := match u with | .panicking _ => .panicking [{ v := v', recovered := true }] | m => m
    have hset : settle u' = .returning := by
      rcases hu with ⟨rfl, _⟩ | rfl <;> rfl
    have hcode : rest.wpSIn Fence.wide 0 P (bodyPostS P gn c₀ cs fun en u2 w2 => match en with
        | .returned _ => LeavesIn Fence.wide 0 P fn tmps (EndOK β0 h0 nx0 w0 k kp) [] (settle u2) w2
        | .panicked chain => LeavesIn Fence.wide 0 P fn tmps (EndOK β0 h0 nx0 w0 k kp) [] (raised u2 chain) w2
        | .outgrown => EndOK β0 h0 nx0 w0 k kp .outgrown w2)
        (({ tmps := #[p'] ++ Array.replicate (gn.ntmps - 1) undef, defers := [] } : Act).put (some 4) v') ({ c₀ with mode := u' } :: cs) w := by
      refine wpSIn_of_wpIn rfl ?_
      have hend : PostN none (depthOf gnt) gnt β h nx w (fun t h nx => loadA P tB p h nx k) (fun a' w' => a'.defers = [] ∧ ∃ u2, ({ c₀ with mode := u' } :: cs : List Frame) = { c₀ with mode := u2 } :: cs ∧
          ∃ x, (results gn a'.tmps).run P w' = .ok x w' ∧ LeavesIn Fence.wide 0 P fn tmps (EndOK β0 h0 nx0 w0 k kp) [] (settle u2) w') := by
        intro β2 t2 h2 nx2 a2 w2 q1 q2 q3 q4 q5
        refine ⟨marks_none q3, u', rfl, .tuple #[], by simp [results, hgr], ?_⟩
        rw [hset]
        have hp2 := hp.ext q4.ext
        obtain ⟨x, x', g1, g2, g3⟩ := loadA_ok q1 hp2 q5
        refine ⟨x', ?_, β2, x, h2, nx2, q1, st.trans q4, g2, g3⟩
        have hpa : ∃ a, p' = .pointer (some a) := by
          cases hp2 <;> first | (exfalso; simp [loadA, bad1] at q5; done) | exact ⟨_, rfl⟩
        obtain ⟨a, rfl⟩ := hpa
        have hl : (loadVar tB a).run P w2 = .ok x' w2 := by simpa [Instr.loadAt, Instr.sureAddr] using g1
        simp only [Array.getD_eq_getD_getElem?] at htp
        simp [results, hfr, htp, asAddr, hl, Result.andThen]
      have hcd := codeD_ok (d := depthOf gnt) (nt := gnt) (rd := true) hmo hN hC rest hdr
      rw [hgn]
      exact hcd none _ none β h nx w t1 _ _ _ (fun hh => by cases hh) (fun hh => by cases hh) hr ht1 trivial e hend
        ⟨fun id => fun β1 t1 h1 nx1 a1 w1 q1 q2 q3 q4 q5 => (by cases q5), hend, fun β1 v v' h1 nx1 a1 w1 q1 q2 q3 q4 q5 => (by cases q5)⟩
    have hrec : recoverD (c₀ :: cs) = match u with | .panicking _ => some (v', { c₀ with mode := u' } :: cs) | _ => none := by
      rcases hu with ⟨rfl, rfl⟩ | rfl
      · simp [recoverD, hmode]
      · simp [recoverD, hmode, one, u']
    refine wpOps_rec _ rfl rfl ?_
    rw [hrec]
    rcases hu with ⟨rfl, rfl⟩ | rfl
    · have : ({ c₀ with mode := u' } : Frame) = c₀ := by cases c₀; simp only at hmode; subst hmode; rfl
      rw [this] at hcode
      exact hcode
    · exact hcode

theorem listW {ops : Array Oper} {Q : Exit → Act → World → Prop} {a : Act} {o : Oper} {rest : List Oper} (hg : o.guard = none) (hu : o.uponIn Fence.wide 0 P a (wpListIn Fence.wide 0 P ops Q rest) Q ((execOp a.eval o).run P w)) :
    wpListIn Fence.wide 0 P ops Q (o :: rest) a w := by
  unfold wpListIn
  have hw : Region.wanted o (yielded ops a.tmps) = true := by simp [Region.wanted, hg]
  rw [if_pos hw]
  exact ⟨fun _ _ => trivial, hu⟩
theorem fits_ok (hmo : P.follows .mixedOrders = true) (hN : NamesOK P) {f : Nat} {fn gn : Func} {tI i i0 i1 i2 i3 y0 y1 y2 y3 y4 y5 : Nat} {pg p0 p1 p2 p3 p4 p5 : String}
    (hf : P.funcs[f]? = some fn) (hfb : fn.body = some (fitsC tB t1 g p0 p1 p2 p3 p4 p5 y0 y1 y2 y3 y4 y5 i0 i1 i2 i3)) (hfr : fn.results = #[.cell 2 tB]) (hfn : fn.ntmps = 6)
    (hg : P.funcs[g]? = some gn) (hgb : gn.body = some (recC tI pg i rest)) (hgr : gn.results = #[]) (hgn : gn.ntmps = gnt) (h4 : 4 < gnt) (hdr : drawsOk rest = true)
    (hC : CallOK P CALL) {args : List AV} {args' : List Value} {kp : KV} (hr : HRel β h nx w) (hl : LRel β args args') (e : fitsD P tB gnt rest CALL args h nx k kp = true) :
    NextOK P β h nx w k kp ((callFunc f args'.toArray).run P w) := by
  unfold fitsD at e
  split at e
  · rename_i fa
    obtain ⟨f', rfl, hf'⟩ := hl.one
    rw [run_enter hN hf (by rw [hfb]; rfl)]
    refine callsIn_of_wp_defers hf hfb trivial ?_
    rw [hfn]
    unfold fitsC
    have ha : (#[f'] ++ Array.replicate (6 - (#[f'] : Array Value).size) undef : Array Value) = #[f', undef, undef, undef, undef, undef] := rfl
    show Code.wpIn _ _ _ _ _ { tmps := #[f'] ++ Array.replicate (6 - (#[f'] : Array Value).size) undef, defers := [] } w
    rw [ha]
    -- the answer's cell
    obtain ⟨p', w1, hrun1, β1, p, h1, nx1, hr1, st1, hp, e1⟩ := alloc_ok (d := 0) (nt := 0) (t := noTmps) hr (show oAlloc P tB noTmps h nx _ = true from e)
    refine wpIn_seq (wpIn_region_list (listW rfl ?_))
    have hex1 : ∀ ρ, (execOp ρ { dst := some 2, op := Op.alloc tB, type := y0, pos := p0, after := #[], guard := none }).run P w = .ok (.value p') w1 := fun ρ => by
      simp [execOp, hrun1, Result.andThen]
    rw [hex1]
    show Code.wpIn _ _ _ _ _ { tmps := #[f', undef, p', undef, undef, undef], defers := [] } w1
    -- the closure, deferred
    refine wpIn_seq (wpIn_region_list (listW rfl ?_))
    have hexm : (execOp ({ tmps := #[f', undef, p', undef, undef, undef], defers := [] } : Act).eval { dst := some 3, op := Op.makeFunc (Fn.func g) #[] #[Operand.tmp 2], type := y1, pos := p1, after := #[], guard := none }).run P w1 = .ok (.value (.func (.func g) #[] #[p'])) w1 := by
      simp [execOp, Instr.makeFunc, Result.andThen, Act.eval]
    rw [hexm]
    show wpListIn _ _ _ _ _ _ { tmps := #[f', undef, p', .func (.func g) #[] #[p'], undef, undef], defers := [] } w1
    refine listW rfl ?_
    have hexd : (execOp ({ tmps := #[f', undef, p', .func (.func g) #[] #[p'], undef, undef], defers := [] } : Act).eval { dst := none, op := Op.defer { callee := Callee.value (Operand.tmp 3), args := #[], argTypes := #[] }, type := y2, pos := p2, after := #[{ on := 0, ground := Ground.data }], guard := none }).run P w1 = .ok (.defer { target := .fn (.func g) #[p'], args := #[] }) w1 := by
      simp [execOp, resolve, Deferred.ofValue, Result.andThen, Act.eval]
    rw [hexd]
    show Code.wpIn _ _ _ _ _ { tmps := #[f', undef, p', .func (.func g) #[] #[p'], undef, undef], defers := [{ target := .fn (.func g) #[p'], args := #[] }] } w1
    -- the call
    refine wpIn_seq (wpIn_region_list (listW rfl ?_))
    show wpListIn _ _ _ _ _ _ { tmps := #[f', undef, p', .func (.func g) #[] #[p'], f', undef], defers := [{ target := .fn (.func g) #[p'], args := #[] }] } w1
    refine listW rfl ?_
    obtain ⟨dd, hdd, hnx⟩ := hC β1 h1 nx1 w1 fa f' [] [] _ _ hr1 (hf'.ext st1.ext) (.nil _) e1
    have hrun2 : ∀ D ds, (execOp ({ tmps := #[f', undef, p', .func (.func g) #[] #[p'], f', D], defers := ds } : Act).eval { dst := some 5, op := Op.call { callee := Callee.value (Operand.tmp 4), args := #[], argTypes := #[] }, type := y4, pos := p4, after := #[{ on := 0, ground := Ground.data }], guard := none }).run P w1 = (invoke dd.target dd.args).run P w1 := fun D ds => by
      have := hdd w1
      have h5 : (resolve ({ tmps := #[f', undef, p', .func (.func g) #[] #[p'], f', D], defers := ds } : Act).eval { callee := Callee.value (Operand.tmp 4), args := #[], argTypes := #[] } y4).run P w1 = .ok dd w1 := by
        simpa [resolve, Act.eval] using this
      simp [execOp, h5, Result.andThen]
    rw [hrun2]
    refine upon_of_next (r := none) hnx (fun v' w2 ho => ?_) (fun v' w2 ho => ?_)
    · obtain ⟨β2, v, h2, nx2, hr2, st2, hv2, e2⟩ := ho
      show Code.wpIn _ _ _ _ _ { tmps := #[f', undef, p', .func (.func g) #[] #[p'], f', v'], defers := [{ target := .fn (.func g) #[p'], args := #[] }] } w2
      refine wpIn_seq (wpIn_region_list (listW rfl ?_))
      obtain ⟨w3, hrun3, β3, v3, h3, nx3, hr3, st3, hv3, e3⟩ := storeA_ok hr2 (hp.ext st2.ext) (.bool true) (show storeA P tB (.bool true) p h2 nx2 _ = true from e2)
      have hex3 : ∀ D ds, (execOp ({ tmps := #[f', undef, p', .func (.func g) #[] #[p'], f', D], defers := ds } : Act).eval { dst := none, op := Op.store tB (Operand.tmp 2) (Operand.const (Value.bool true)), type := y5, pos := p5, after := #[], guard := none }).run P w2 = .ok .skip w3 := fun D ds => by
        show ((Instr.storeAt tB p' (.bool true)) >>= fun _ => pure Next.skip).run P w2 = _
        simp [hrun3, Result.andThen]
      rw [hex3]
      show Code.wpIn _ _ _ _ _ { tmps := #[f', undef, p', .func (.func g) #[] #[p'], f', v'], defers := [{ target := .fn (.func g) #[p'], args := #[] }] } w3
      refine wpIn_ret ?_
      exact fitsL_ok hmo hN hC hfr hg hgb hgr hgn h4 hdr (.inl ⟨rfl, rfl⟩) hr3 ((st1.trans st2).trans st3) ((hp.ext st2.ext).ext st3.ext) .niliface rfl e3
    · obtain ⟨β2, v, h2, nx2, hr2, st2, hv2, e2⟩ := ho
      exact fitsL_ok hmo hN hC hfr hg hgb hgr hgn h4 hdr (.inr rfl) hr2 (st1.trans st2) (hp.ext st2.ext) hv2 rfl e2
  · cases e
end
end Am
