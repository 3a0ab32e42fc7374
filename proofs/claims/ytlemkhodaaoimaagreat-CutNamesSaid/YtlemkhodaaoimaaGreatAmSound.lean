/- Code: sound. -/
import Derived.Test.YtlemkhodaaoimaaGreatAmDraw
import Derived.RangeFuncRecord
set_option linter.unusedVariables false
set_option linter.unusedSimpArgs false
noncomputable section
namespace Am
open Go
variable {P : Program} {Q : Exit → Act → World → Prop} {r : Option Nat}

/-! ### two rules of the walk -/
theorem stepR_scope {b : Frame} {a : Act} {k : List Item} {cs : List Frame} {w : World} {c : Code} : step P (lone (b.atR a (.code (.scope c) :: k)) cs w) = .next (lone (b.atR a (.code c :: .inScope c :: k)) cs w) :=
  step_lone_go (by simp [stepG, stepG.exec, Frame.atR])
theorem stepR_inScope {b : Frame} {a : Act} {k : List Item} {cs : List Frame} {w : World} {c : Code} : step P (lone (b.atR a (.inScope c :: k)) cs w) = .next (lone (b.atR a k) cs w) :=
  step_lone_go (by simp [stepG, stepG.exec, Frame.atR])
def noGoto (Q : Exit → Act → World → Prop) : Exit → Act → World → Prop
  | .goto _, _, _ => False
  | e, a, w => Q e a w
theorem wpIn_scope {F : Fence} {n : Nat} {c : Code} {a : Act} {w : World} (h : c.wpIn F n P (noGoto Q) a w) : (Code.scope c).wpIn F n P Q a w := by
  intro b k cs hro hb hr
  have h0 : (lone (b.atR a (.code (.scope c) :: k)) cs w).fenced P F := fenced_calm hb hr rfl
  obtain ⟨e, a₁, w₁, hq, harr⟩ := h b (.inScope c :: k) cs hro hb hr
  cases e with
  | normal => exact ⟨.normal, a₁, w₁, hq, .head h0 stepR_scope (StepsIn.trans harr (.one (fenced_calm hb hr rfl) stepR_inScope))⟩
  | exit id =>
    have hx : exitTo id (.inScope c :: k) = exitTo id k := by simp [exitTo]
    exact ⟨.exit id, a₁, w₁, hq, fun k' hk => .head h0 stepR_scope (harr.1 k' (by rw [hx]; exact hk)),
      fun hr' hk => let ⟨k₁, h1, h2⟩ := harr.2 hr' (by rw [hx]; exact hk); ⟨k₁, h1, .head h0 stepR_scope h2⟩⟩
  | goto l => exact hq.elim
  | ret => exact ⟨_, a₁, w₁, hq, .of_steps (.one h0 stepR_scope) harr⟩
  | panic ch => exact ⟨_, a₁, w₁, hq, .of_steps (.one h0 stepR_scope) harr⟩
  | outgrown => exact ⟨_, a₁, w₁, hq, .of_steps (.one h0 stepR_scope) harr⟩

theorem wpIn_loop_fuel {F : Fence} {n0 : Nat} {c : Code} {a : Act} {w : World} (I : Nat → Act → World → Prop) (h0 : ∃ n, I n a w) (z : ∀ a w, ¬ I 0 a w)
    (round : ∀ n a w, I (n + 1) a w → c.wpIn F n0 P (Exit.then (fun a' w' => I n a' w') Q) a w) : (Code.loop c).wpIn F n0 P Q a w := by
  intro b k cs hro hb hr
  have key : ∀ n a w, I n a w → ∃ e a' w', Q e a' w' ∧ ArrivesIn (Machine.fenced P F) P (lone (b.atR a (.code c :: .inLoop c :: k)) cs w) b k cs e a' w' := by
    intro n
    induction n with
    | zero => intro a w hI; exact absurd hI (z a w)
    | succ n ih =>
      intro a w hI
      obtain ⟨e, a₁, w₁, hq, harr⟩ := round n a w hI b (.inLoop c :: k) cs hro hb hr
      cases e with
      | normal =>
        obtain ⟨e₂, a₂, w₂, hq₂, harr₂⟩ := ih a₁ w₁ hq
        exact ⟨e₂, a₂, w₂, hq₂, .of_steps (StepsIn.trans harr (.one (fenced_calm hb hr rfl) stepR_inLoop)) harr₂⟩
      | exit id => exact ⟨_, a₁, w₁, hq, .pass (x := .inLoop c) rfl (fun _ _ => .inl (by simp)) harr⟩
      | goto l => exact ⟨_, a₁, w₁, hq, .pass (x := .inLoop c) rfl (fun _ _ => .inl (by simp)) harr⟩
      | ret => exact ⟨_, a₁, w₁, hq, .pass (x := .inLoop c) rfl (fun _ _ => .inl (by simp)) harr⟩
      | panic ch => exact ⟨_, a₁, w₁, hq, .pass (x := .inLoop c) rfl (fun _ _ => .inl (by simp)) harr⟩
      | outgrown => exact ⟨_, a₁, w₁, hq, .pass (x := .inLoop c) rfl (fun _ _ => .inl (by simp)) harr⟩
  obtain ⟨n, hI⟩ := h0
  obtain ⟨e, a', w', hq, harr⟩ := key n a w hI
  exact ⟨e, a', w', hq, .of_steps (.one (fenced_calm hb hr rfl) stepR_loop) harr⟩

/-! ### code -/
def CodeOK (P : Program) (d nt : Nat) (rd : Bool) (D : CodeF) (c : Code) : Prop :=
  ∀ (r : Option Nat) (Q : Exit → Act → World → Prop) (s0 : Option Nat) (β : Beta) (h : HP) (nx : Nat) (w : World) (t : TM) (a : Act) (kn : KC) (kx : KX), (rd = false → r = none) → (rd = false → sle s0 w.heap.size) →
    HRel β h nx w → TRel β d nt t a.tmps → Marks s0 β h nx w a.defers → D t h nx kn kx = true →
    PostN s0 d nt β h nx w kn (Q .normal) → PostX s0 d nt β h nx w kx Q → c.wpIn (FR r) 0 P Q a w

section
variable {d nt : Nat} {rd : Bool} {CALL : CALLT}
theorem cSkip_ok : CodeOK P d nt rd cSkip .skip := fun r Q s0 β h nx w t a kn kx hrd hs hr ht hm e hN hX => wpIn_skip (hN β t h nx a w hr ht hm (Step.refl ..) e)
theorem cLabel_ok {l : Nat} : CodeOK P d nt rd cSkip (.label l) := fun r Q s0 β h nx w t a kn kx hrd hs hr ht hm e hN hX => wpIn_label (hN β t h nx a w hr ht hm (Step.refl ..) e)
theorem cExit_ok {id : Nat} : CodeOK P d nt rd (fun t h nx _ kx => kx (.exit id) t h nx) (.exit id) := fun r Q s0 β h nx w t a kn kx hrd hs hr ht hm e hN hX => wpIn_exit (hX.exit id β t h nx a w hr ht hm (Step.refl ..) e)
theorem cRet_ok : CodeOK P d nt rd (fun t h nx _ kx => kx .ret t h nx) .ret := fun r Q s0 β h nx w t a kn kx hrd hs hr ht hm e hN hX => wpIn_ret (hX.ret β t h nx a w hr ht hm (Step.refl ..) e)

theorem cSeq_ok {A B : CodeF} {x y : Code} (hA : CodeOK P d nt rd A x) (hB : CodeOK P d nt rd B y) : CodeOK P d nt rd (cSeq A B) (.seq x y) := by
  intro r Q s0 β h nx w t a kn kx hrd hs hr ht hm e hN hX
  refine wpIn_seq (hA r _ s0 β h nx w t a (fun t h nx => B t h nx kn kx) kx hrd hs hr ht hm e (fun β' t' h' nx' a' w' q1 q2 q3 q4 q5 => ?_) ⟨hX.exit, hX.ret, hX.panic⟩)
  exact hB r Q s0 β' h' nx' w' t' a' kn kx hrd (fun h0 => (hs h0).trans q4.size) q1 q2 q3 q5 (hN.step q4) (hX.step q4)

theorem cCond_ok {A B : CodeF} {x y : Code} {c : Operand} (hA : CodeOK P d nt rd A x) (hB : CodeOK P d nt rd B y) : CodeOK P d nt rd (cCond d nt c A B) (.cond c x y) := by
  intro r Q s0 β h nx w t a kn kx hrd hs hr ht hm e hN hX
  obtain ⟨v, hv, e⟩ := evD_ok ht (show evD d nt c t (fun v => condB A B v t h nx kn kx) = true from e)
  unfold condB at e
  split at e
  · rename_i b
    have hc : a.eval c = .bool b := by
      generalize a.eval c = cv at hv
      cases hv; rfl
    refine wpIn_cond hc ?_
    cases b with
    | true => exact hA r Q s0 β h nx w t a kn kx hrd hs hr ht hm e hN hX
    | false => exact hB r Q s0 β h nx w t a kn kx hrd hs hr ht hm e hN hX
  · cases e

theorem cBlock_ok {A : CodeF} {x : Code} {id : Nat} (hA : CodeOK P d nt rd A x) : CodeOK P d nt rd (cBlock id A) (.block id x) := by
  intro r Q s0 β h nx w t a kn kx hrd hs hr ht hm e hN hX
  refine wpIn_block (hA r _ s0 β h nx w t a kn (inBlockX id kn kx) hrd hs hr ht hm e hN ⟨fun j => ?_, hX.ret, hX.panic⟩)
  intro β' t' h' nx' a' w' q1 q2 q3 q4 q5
  have q5 : (Bool.rec (motive := fun _ => Bool) (kx (.exit j) t' h' nx') (kn t' h' nx') (Nat.beq j id)) = true := q5
  show (if j = id then Q .normal a' w' else Q (.exit j) a' w')
  cases hj : Nat.beq j id with
  | true =>
    rw [hj] at q5
    rw [if_pos (Nat.eq_of_beq_eq_true hj)]
    exact hN β' t' h' nx' a' w' q1 q2 q3 q4 q5
  | false =>
    rw [hj] at q5
    rw [if_neg (fun e => by subst e; simp at hj)]
    exact hX.exit j β' t' h' nx' a' w' q1 q2 q3 q4 q5

theorem cScope_ok {A : CodeF} {x : Code} (hA : CodeOK P d nt rd A x) : CodeOK P d nt rd A (.scope x) := by
  intro r Q s0 β h nx w t a kn kx hrd hs hr ht hm e hN hX
  exact wpIn_scope (hA r _ s0 β h nx w t a kn kx hrd hs hr ht hm e hN ⟨hX.exit, hX.ret, hX.panic⟩)

theorem cLoop_ok {A : CodeF} {x : Code} (hA : CodeOK P d nt rd A x) : CodeOK P d nt rd (cLoop A) (.loop x) := by
  intro r Q s0 β h nx w t a kn kx hrd hs hr ht hm e hN hX
  let L : Nat → CodeF := fun n => Nat.rec (motive := fun _ => CodeF) (fun _ _ _ _ _ => false) (fun _ ih => loopS A ih) n
  refine wpIn_loop_fuel (fun n a' w' => ∃ β' t' h' nx', HRel β' h' nx' w' ∧ TRel β' d nt t' a'.tmps ∧ Marks s0 β' h' nx' w' a'.defers ∧ Step β h nx w β' h' nx' w' ∧ L n t' h' nx' kn kx = true)
    ⟨LOOPS, β, t, h, nx, hr, ht, hm, Step.refl .., e⟩ (fun a' w' hh => ?_) (fun n a' w' hh => ?_)
  · obtain ⟨_, _, _, _, _, _, _, _, h5⟩ := hh
    cases h5
  · obtain ⟨β', t', h', nx', q1, q2, q3, q4, q5⟩ := hh
    have q5 : A t' h' nx' (fun t h nx => L n t h nx kn kx) kx = true := q5
    have hX' := hX.step q4
    exact hA r _ s0 β' h' nx' w' t' a' (fun t h nx => L n t h nx kn kx) kx hrd (fun h0 => (hs h0).trans q4.size) q1 q2 q3 q5
      (fun β2 t2 h2 nx2 a2 w2 p1 p2 p3 p4 p5 => ⟨β2, t2, h2, nx2, p1, p2, p3, q4.trans p4, p5⟩) ⟨hX'.exit, hX'.ret, hX'.panic⟩

theorem cRegion_ok (hmo : P.follows .mixedOrders = true) (hC : CallOK P CALL) {id : Nat} {ops : Array Oper} {draw : Bool} (hd : draw = true → drawOk ops = true) : CodeOK P d nt rd (cRegion P d nt CALL ops draw) (.region id ops draw) := by
  intro r Q s0 β h nx w t a kn kx hrd hs hr ht hm e hN hX
  cases draw with
  | false => exact wpIn_region_list (opsD_ok hC hr ht hm e hN hX.panic)
  | true =>
    obtain ⟨H, hsz, hok⟩ := drawH_of (hd rfl)
    let Q' : Exit → Act → World → Prop := fun e a w => match e with | .panic c => ∀ a' : Act, a'.defers = a.defers → Q (.panic c) a' w | e => Q e a w
    have hQQ : ∀ e a w, Q' e a w → Q e a w := fun e a w q => by
      cases e <;> first | exact q | exact q a rfl
    have hQ : ∀ c (a : Act) dst v w, Q' (.panic c) (a.put dst v) w → Q' (.panic c) a w := fun c a dst v w q a' ha => q a' (by rw [put_defers', ha])
    refine wpIn_mono (wpIn_region_any hmo (wpAnyR.any (T := ancTab ops (orderOf ops)) (R := []) ?_)) hQQ
    have hst : Step β h nx w β h nx { w with drawn := w.drawn + 1 } := Step.same rfl
    refine (planD_ok (s0 := s0) (kn := kn) (kx := kx) hC H hQ (plan ops) true (Array.replicate ops.size false) [] [] ops.size β h nx { w with drawn := w.drawn + 1 } t a hok ?_ (fun x hx => by cases hx) (fun q hq => by cases hq) (fun q hq => by cases hq) hsz (HRel.same (w := w) rfl hr) ht (hm.step hst) e (hN.step hst) ?_).1 rfl
    · intro x hx
      exfalso
      simp only [Array.getD_eq_getD_getElem?, Array.getElem?_replicate] at hx
      split at hx <;> simp at hx
    · intro β' v v' h' nx' a' w' q1 q2 q3 q4 q5 a2 ha2
      exact hX.panic β' v v' h' nx' a2 w' q1 q2 (by rw [ha2]; exact q3) (hst.trans q4) q5
end
end Am
