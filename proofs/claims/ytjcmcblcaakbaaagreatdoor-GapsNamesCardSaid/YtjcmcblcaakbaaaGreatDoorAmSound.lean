/- Code: sound. -/
import Derived.Test.YtjcmcblcaakbaaaGreatDoorAmDraw
import Derived.RangeFuncRecord
set_option linter.unusedVariables false
set_option linter.unusedSimpArgs false
noncomputable section
namespace Am
open Go
variable {P : Program} {Q : Exit → Act → World → Prop} {r : Option Nat}

/-! ### two rules of the walk -/
theorem stepR_scope {b : Frame} {a : Act} {k : List Item} {cs : List Frame} {w : World} {c : Code} : step P (lone (b.atR a (.code (.scope c) :: k)) cs w) = .next (lone (b.atR a (.code c :: .inScope c :: k)) cs w) :=
  step_lone_go (by simp [stepG, stepG.exec, Frame.atR])
theorem stepR_inScope {b : Frame} {a : Act} {k : List Item} {cs : List Frame} {w : World} {c : Code} : step P (lone (b.atR a (.inScope c :: k)) cs w) = .next (lone (b.atR a k) cs w) :=
  step_lone_go (by simp [stepG, stepG.exec, Frame.atR])
def noGoto (Q : Exit → Act → World → Prop) : Exit → Act → World → Prop
  | .goto _, _, _ => False
  | e, a, w => Q e a w
theorem wpIn_scope {F : Fence} {n : Nat} {c : Code} {a : Act} {w : World} (h : c.wpIn F n P (noGoto Q) a w) : (Code.scope c).wpIn F n P Q a w := by
  intro b k cs hro hb hr
  have h0 : (lone (b.atR a (.code (.scope c) :: k)) cs w).fenced P F := fenced_calm hb hr rfl
  obtain ⟨e, a₁, w₁, hq, harr⟩ := h b (.inScope c :: k) cs hro hb hr
  cases e with
  | normal => exact ⟨.normal, a₁, w₁, hq, .head h0 stepR_scope (StepsIn.trans harr (.one (fenced_calm hb hr rfl) stepR_inScope))⟩
  | exit id =>
    have hx : exitTo id (.inScope c :: k) = exitTo id k := by simp [exitTo]
    exact ⟨.exit id, a₁, w₁, hq, fun k' hk => .head h0 stepR_scope (harr.1 k' (by rw [hx]; exact hk)),
      fun hr' hk => let ⟨k₁, h1, h2⟩ := harr.2 hr' (by rw [hx]; exact hk); ⟨k₁, h1, .head h0 stepR_scope h2⟩⟩
  | goto l => exact hq.elim
  | ret => exact ⟨_, a₁, w₁, hq, .of_steps (.one h0 stepR_scope) harr⟩
  | panic ch => exact ⟨_, a₁, w₁, hq, .of_steps (.one h0 stepR_scope) harr⟩
  | outgrown => exact ⟨_, a₁, w₁, hq, .of_steps (.one h0 stepR_scope) harr⟩

theorem wpIn_loop_fuel {F : Fence} {n0 : Nat} {c : Code} {a : Act} {w : World} (I : Nat → Act → World → Prop) (h0 : ∃ n, I n a w) (z : ∀ a w, ¬ I 0 a w)
    (round : ∀ n a w, I (n + 1) a w → c.wpIn F n0 P (Exit.then (fun a' w' => I n a' w') Q) a w) : (Code.loop c).wpIn F n0 P Q a w := by
  intro b k cs hro hb hr
  have key : ∀ n a w, I n a w → ∃ e a' w', Q e a' w' ∧ ArrivesIn (Machine.fenced P F) P (lone (b.atR a (.code c :: .inLoop c :: k)) cs w) b k cs e a' w' := by
    intro n
    induction n with
    | zero => intro a w hI; exact absurd hI (z a w)
    | succ n ih =>
      intro a w hI
      obtain ⟨e, a₁, w₁, hq, harr⟩ := round n a w hI b (.inLoop c :: k) cs hro hb hr
      cases e with
      | normal =>
        obtain ⟨e₂, a₂, w₂, hq₂, harr₂⟩ := ih a₁ w₁ hq
        exact ⟨e₂, a₂, w₂, hq₂, .of_steps (StepsIn.trans harr (.one (fenced_calm hb hr rfl) stepR_inLoop)) harr₂⟩
      | exit id => exact ⟨_, a₁, w₁, hq, .pass (x := .inLoop c) rfl (fun _ _ => .inl (by simp)) harr⟩
      | goto l => exact ⟨_, a₁, w₁, hq, .pass (x := .inLoop c) rfl (fun _ _ => .inl (by simp)) harr⟩
      | ret => exact ⟨_, a₁, w₁, hq, .pass (x := .inLoop c) rfl (fun _ _ => .inl (by simp)) harr⟩
      | panic ch => exact ⟨_, a₁, w₁, hq, .pass (x := .inLoop c) rfl (fun _ _ => .inl (by simp)) harr⟩
      | outgrown => exact ⟨_, a₁, w₁, hq, .pass (x := .inLoop c) rfl (fun _ _ => .inl (by simp)) harr⟩
  obtain ⟨n, hI⟩ := h0
  obtain ⟨e, a', w', hq, harr⟩ := key n a w hI
  exact ⟨e, a', w', hq, .of_steps (.one (fenced_calm hb hr rfl) stepR_loop) harr⟩

/-! ### code -/
def CodeOK (P : Program) (d nt : Nat) (rd : Bool) (D : CodeF) (c : Code) : Prop :=
  ∀ (r : Option Nat) (Q : Exit → Act → World → Prop) (s0 : Option Nat) (β : Beta) (h : HP) (nx : Nat) (w : World) (t : TM) (a : Act) (kn : KC) (kx : KX), (rd = false → r = none) → (rd = false → sle s0 w.heap.size) →
    HRel β h nx w → TRel β d nt t a.tmps → Marks s0 β h nx w a.defers → D t h nx kn kx = true →
    PostN s0 d nt β h nx w kn (Q .normal) → PostX s0 d nt β h nx w kx Q → c.wpIn (FR r) 0 P Q a w

section
variable {d nt : Nat} {rd : Bool} {CALL : CALLT}
theorem cSkip_ok : CodeOK P d nt rd cSkip .skip := fun r Q s0 β h nx w t a kn kx hrd hs hr ht hm e hN hX => wpIn_skip (hN β t h nx a w hr ht hm (Step.refl ..) e)
theorem cLabel_ok {l : Nat} : CodeOK P d nt rd cSkip (.label l) := fun r Q s0 β h nx w t a kn kx hrd hs hr ht hm e hN hX => wpIn_label (hN β t h nx a w hr ht hm (Step.refl ..) e)
theorem cExit_ok {id : Nat} : CodeOK P d nt rd (fun t h nx _ kx => kx (.exit id) t h nx) (.exit id) := fun r Q s0 β h nx w t a kn kx hrd hs hr ht hm e hN hX => wpIn_exit (hX.exit id β t h nx a w hr ht hm (Step.refl ..) e)
theorem cRet_ok : CodeOK P d nt rd (fun t h nx _ kx => kx .ret t h nx) .ret := fun r Q s0 β h nx w t a kn kx hrd hs hr ht hm e hN hX => wpIn_ret (hX.ret β t h nx a w hr ht hm (Step.refl ..) e)

theorem cSeq_ok {A B : CodeF} {x y : Code} (hA : CodeOK P d nt rd A x) (hB : CodeOK P d nt rd B y) : CodeOK P d nt rd (cSeq A B) (.seq x y) := by
  intro r Q s0 β h nx w t a kn kx hrd hs hr ht hm e hN hX
  refine wpIn_seq (hA r _ s0 β h nx w t a (fun t h nx => B t h nx kn kx) kx hrd hs hr ht hm e (fun β' t' h' nx' a' w' q1 q2 q3 q4 q5 => ?_) ⟨hX.exit, hX.ret, hX.panic⟩)
  exact hB r Q s0 β' h' nx' w' t' a' kn kx hrd (fun h0 => (hs h0).trans q4.size) q1 q2 q3 q5 (hN.step q4) (hX.step q4)

theorem cCond_ok {A B : CodeF} {x y : Code} {c : Operand} (hA : CodeOK P d nt rd A x) (hB : CodeOK P d nt rd B y) : CodeOK P d nt rd (cCond d nt c A B) (.cond c x y) := by
  intro r Q s0 β h nx w t a kn kx hrd hs hr ht hm e hN hX
  obtain ⟨v, hv, e⟩ := evD_ok ht (show evD d nt c t (fun v => condB A B v t h nx kn kx) = true from e)
  unfold condB at e
  split at e
  · rename_i b
    have hc : a.eval c = .bool b := by
      generalize a.eval c = cv at hv
      cases hv; rfl
    refine wpIn_cond hc ?_
    cases b with
    | true => exact hA r Q s0 β h nx w t a kn kx hrd hs hr ht hm e hN hX
    | false => exact hB r Q s0 β h nx w t a kn kx hrd hs hr ht hm e hN hX
  · cases e

theorem cBlock_ok {A : CodeF} {x : Code} {id : Nat} (hA : CodeOK P d nt rd A x) : CodeOK P d nt rd (cBlock id A) (.block id x) := by
  intro r Q s0 β h nx w t a kn kx hrd hs hr ht hm e hN hX
  refine wpIn_block (hA r _ s0 β h nx w t a kn (inBlockX id kn kx) hrd hs hr ht hm e hN ⟨fun j => ?_, hX.ret, hX.panic⟩)
  intro β' t' h' nx' a' w' q1 q2 q3 q4 q5
  have q5 : (Bool.rec (motive := fun _ => Bool) (kx (.exit j) t' h' nx') (kn t' h' nx') (Nat.beq j id)) = true := q5
  show (if j = id then Q .normal a' w' else Q (.exit j) a' w')
  cases hj : Nat.beq j id with
  | true =>
    rw [hj] at q5
    rw [if_pos (Nat.eq_of_beq_eq_true hj)]
    exact hN β' t' h' nx' a' w' q1 q2 q3 q4 q5
  | false =>
    rw [hj] at q5
    rw [if_neg (fun e => by subst e; simp at hj)]
    exact hX.exit j β' t' h' nx' a' w' q1 q2 q3 q4 q5

theorem cScope_ok {A : CodeF} {x : Code} (hA : CodeOK P d nt rd A x) : CodeOK P d nt rd A (.scope x) := by
  intro r Q s0 β h nx w t a kn kx hrd hs hr ht hm e hN hX
  exact wpIn_scope (hA r _ s0 β h nx w t a kn kx hrd hs hr ht hm e hN ⟨hX.exit, hX.ret, hX.panic⟩)

theorem cLoop_ok {A : CodeF} {x : Code} (hA : CodeOK P d nt rd A x) : CodeOK P d nt rd (cLoop A) (.loop x) := by
  intro r Q s0 β h nx w t a kn kx hrd hs hr ht hm e hN hX
  let L : Nat → CodeF := fun n => Nat.rec (motive := fun _ => CodeF) (fun _ _ _ _ _ => false) (fun _ ih => loopS A ih) n
  refine wpIn_loop_fuel (fun n a' w' => ∃ β' t' h' nx', HRel β' h' nx' w' ∧ TRel β' d nt t' a'.tmps ∧ Marks s0 β' h' nx' w' a'.defers ∧ Step β h nx w β' h' nx' w' ∧ L n t' h' nx' kn kx = true)
    ⟨LOOPS, β, t, h, nx, hr, ht, hm, Step.refl .., e⟩ (fun a' w' hh => ?_) (fun n a' w' hh => ?_)
  · obtain ⟨_, _, _, _, _, _, _, _, h5⟩ := hh
    cases h5
  · obtain ⟨β', t', h', nx', q1, q2, q3, q4, q5⟩ := hh
    have q5 : A t' h' nx' (fun t h nx => L n t h nx kn kx) kx = true := q5
    have hX' := hX.step q4
    exact hA r _ s0 β' h' nx' w' t' a' (fun t h nx => L n t h nx kn kx) kx hrd (fun h0 => (hs h0).trans q4.size) q1 q2 q3 q5
      (fun β2 t2 h2 nx2 a2 w2 p1 p2 p3 p4 p5 => ⟨β2, t2, h2, nx2, p1, p2, p3, q4.trans p4, p5⟩) ⟨hX'.exit, hX'.ret, hX'.panic⟩

theorem posIn_mem {rs : List Nat} : ∀ {j q k : Nat}, posIn rs j k = some q → j ∈ rs := by
  induction rs with
  | nil => intro j q k e; cases e
  | cons x l ih =>
    intro j q k e
    simp only [posIn] at e
    cases hx : Nat.beq x j with
    | true => have := Nat.eq_of_beq_eq_true hx; subst this; exact List.mem_cons_self ..
    | false => rw [hx] at e; exact List.mem_cons_of_mem _ (ih e)
theorem resOf_ok {ops : Array Oper} : ∀ j q, posIn (resOf ops) j 0 = some q → atO ops j makesOne = true := by
  intro j q e
  have := posIn_mem e
  unfold resOf at this
  cases hb : hasBoth (plan ops) with
  | false => rw [hb] at this; cases this
  | true =>
    rw [hb] at this
    simp only [cond_true, List.mem_filter] at this
    exact this.2
theorem cRegion_ok (hmo : P.follows .mixedOrders = true) (hC : CallOK P CALL) {id : Nat} {ops : Array Oper} {draw : Bool} (hd : draw = true → drawOk ops = true) : CodeOK P d nt rd (cRegion P d nt CALL ops draw) (.region id ops draw) := by
  intro r Q s0 β h nx w t a kn kx hrd hs hr ht hm e hN hX
  cases draw with
  | false => exact wpIn_region_list (opsD_ok hC hr ht hm e hN hX.panic)
  | true =>
    obtain ⟨H, hsz, hok⟩ := drawH_of (hd rfl)
    let Q' : Exit → Act → World → Prop := fun e a w => match e with | .panic c => ∀ a' : Act, a'.defers = a.defers → Q (.panic c) a' w | e => Q e a w
    have hQQ : ∀ e a w, Q' e a w → Q e a w := fun e a w q => by
      cases e <;> first | exact q | exact q a rfl
    have hQ : ∀ c (a : Act) dst v w, Q' (.panic c) (a.put dst v) w → Q' (.panic c) a w := fun c a dst v w q a' ha => q a' (by rw [put_defers', ha])
    refine wpIn_mono (wpIn_region_any hmo (wpAnyR.any (T := ancTab ops (orderOf ops)) (R := []) ?_)) hQQ
    have hst0 : Step β h nx w β h nx { w with drawn := w.drawn + 1 } := Step.same rfl
    have e : holesK (resOf ops).length h nx (fun h nx' => planD P d nt CALL ops.toList (resOf ops) nx (plan ops) t h nx' kn kx) = true := e
    obtain ⟨h1, nx1, hr1, hst1, e⟩ := holesK_ok (HRel.same (w := w) (w' := { w with drawn := w.drawn + 1 }) rfl hr) e
    have hst := hst0.trans hst1
    refine (planD_ok (s0 := s0) (kx := kx) resOf_ok hC H hQ (plan ops) kn true (Array.replicate ops.size false) [] [] ops.size β h1 nx1 { w with drawn := w.drawn + 1 } t a hok ?_ (fun x hx => by cases hx) (fun q hq => by cases hq) (fun q hq => by cases hq) hsz hr1 ht (hm.step hst) e (hN.step hst) ?_).1 rfl
    · intro x hx
      exfalso
      simp only [Array.getD_eq_getD_getElem?, Array.getElem?_replicate] at hx
      split at hx <;> simp at hx
    · intro β' v v' h' nx' a' w' q1 q2 q3 q4 q5 a2 ha2
      exact hX.panic β' v v' h' nx' a2 w' q1 q2 (by rw [ha2]; exact q3) (hst.trans q4) q5
end
end Am
set_option linter.unusedVariables false
set_option linter.unusedSimpArgs false
namespace Am
open Go
variable {P : Program} {Q : Exit → Act → World → Prop} {r : Option Nat} {β : Beta} {h : HP} {nx : Nat} {w : World}

/-! ### blocks that are nobody's -/
def bare (o : Obj) : Prop := ∀ c e f, o ≠ .cells c e f
theorem frozen_bare {o : Obj} (hb : bare o) {a : Addr} (hw : w.heap[a.block]? = some o) : w.frozen? a = false := by
  unfold World.frozen?
  rw [hw]
  cases o <;> first | rfl | exact absurd rfl (hb _ _ _)
theorem frozen_alloc_bare {ob : Obj} (hb : bare ob) (a : Addr) : (w.alloc ob).frozen? a = w.frozen? a := by
  by_cases ha : a.block = w.heap.size
  · have e1 : (w.alloc ob).heap[a.block]? = some ob := by rw [ha]; exact World.alloc_heap_new w _
    have e2 : w.heap[a.block]? = none := by rw [ha]; simp
    rw [frozen_bare hb e1]; simp [World.frozen?, e2]
  · exact World.frozen?_alloc_old _ _ _ ha
theorem frozen_put_bare {b : Nat} {o o2 : Obj} (h1 : bare o) (h2 : bare o2) (hw : w.heap[b]? = some o) (a : Addr) : (w.putObj b o2).frozen? a = w.frozen? a := by
  by_cases ha : a.block = b
  · have e1 := frozen_bare h1 (w := w) (a := a) (by rw [ha]; exact hw)
    have e2 := frozen_bare h2 (w := w.putObj b o2) (a := a) (by rw [ha]; exact World.putObj_heap_same (Array.getElem?_eq_some_iff.1 hw).1)
    rw [e1, e2]
  · simp [World.frozen?, World.putObj_heap_other ha]
theorem HRel.junk (hr : HRel β h nx w) (ob : Obj) (hb : bare ob) : HRel β h nx (w.alloc ob) ∧ Step β h nx w β h nx (w.alloc ob) := by
  have hold : ∀ x, x < w.heap.size → (w.alloc ob).heap[x]? = w.heap[x]? := fun x hx => by
    show (w.heap.push ob)[x]? = w.heap[x]?
    rw [Array.getElem?_push, if_neg (by omega)]
  have hsz : (w.alloc ob).heap.size = w.heap.size + 1 := by simp
  refine ⟨⟨hr.lt, hr.le, fun b hb hl => ?_, hr.inj, hr.hole⟩, ⟨Ext.refl β, by omega, fun x hx _ => hold x hx, fun _ _ h => h, fun _ _ h => h, rfl, rfl⟩⟩
  obtain ⟨i, h1, h2, h3⟩ := hr.obj b hb hl
  exact ⟨i, h1, by omega, h3.ext (Ext.refl β) (fun _ => hold _ h2)⟩
/-- a block that is nobody's, and younger than the world at the start, turned -/
theorem HRel.poke {β0 : Beta} {h0 : HP} {nx0 : Nat} {w0 : World} (hr : HRel β h nx w) (st : Step β0 h0 nx0 w0 β h nx w) {b : Nat} {o o2 : Obj} (h1 : bare o) (h2 : bare o2) (hw : w.heap[b]? = some o)
    (hs : w0.heap.size ≤ b) (hl : ¬ Live β h nx b) : HRel β h nx (w.putObj b o2) ∧ Step β0 h0 nx0 w0 β h nx (w.putObj b o2) := by
  refine ⟨⟨hr.lt, hr.le, fun x hx hxl => ?_, hr.inj, hr.hole⟩, ⟨st.ext, by simpa using st.size, fun x hx hn => ?_, st.own, st.lv, st.os, st.out⟩⟩
  · obtain ⟨i, g1, g2, g3⟩ := hr.obj x hx hxl
    exact ⟨i, g1, by simpa using g2, g3.ext (Ext.refl β) (fun _ => World.putObj_heap_other (fun e => hl ⟨x, i, hx, hxl, g1, e⟩))⟩
  · rw [World.putObj_heap_other (by omega)]; exact st.keep x hx hn

theorem withLoop_of {b : Nat} {i : BI} {f : LoopState → Option Code → Nat → Nat → TM → List Nat → Code → Code → Bool} (hr : HRel β h nx w) (hi : β b = some i) (e : withLoop (hget h b) f = true) :
    ∃ (st : LoopState) (p : Option Code) (d nt : Nat) (t : TM) (ps : List Nat) (x y : Code) (l : Loop), hget h b = .loop st p d nt t ps x y ∧ w.heap[i.blk]? = some (.loop l) ∧ l.state = st ∧ l.pending = p ∧ TRel β d nt t l.tmps ∧ l.params.toList = ps ∧ l.assign = x ∧ l.body = y ∧
      drawsOk x = true ∧ drawsOk y = true ∧ f st p d nt t ps x y = true := by
  have hb := (VRel.lt hr hi).1
  cases ho : hget h b with
  | dead => rw [ho] at e; cases e
  | map es => rw [ho] at e; cases e
  | cells d t n => rw [ho] at e; cases e
  | rcells d t n => rw [ho] at e; cases e
  | glob g => rw [ho] at e; cases e
  | hole => rw [ho] at e; cases e
  | loop st p d nt t ps x y =>
    obtain ⟨j, h1, _, h2⟩ := hr.obj b hb (by rw [ho]; rfl)
    rw [hi] at h1; cases h1
    rw [ho] at e h2
    obtain ⟨l, g1, g2, g3, g4, g5, g6, g7, g8, g9⟩ := h2
    exact ⟨st, p, d, nt, t, ps, x, y, l, rfl, g1, g2, g3, g4, g5, g6, g7, g8, g9, e⟩
theorem bare_loop (l : Loop) : bare (.loop l) := fun _ _ _ h => by cases h
theorem bare_defer (l : Option (List Deferred)) : bare (.deferred l) := fun _ _ _ h => by cases h

/-- a loop's record, turned -/
theorem loop_turn {b : Nat} {i : BI} {l l2 : Loop} {st st2 : LoopState} {p p2 : Option Code} {d nt : Nat} {t : TM} {ps : List Nat} {x y : Code} (hr : HRel β h nx w) (hi : β b = some i) (ho : hget h b = .loop st p d nt t ps x y)
    (hw : w.heap[i.blk]? = some (.loop l)) (h1 : l2.state = st2) (h2 : l2.pending = p2) (h3 : TRel β d nt t l2.tmps) (h4 : l2.params.toList = ps) (h5 : l2.assign = x) (h6 : l2.body = y) (h7 : drawsOk x = true) (h8 : drawsOk y = true) :
    HRel β (Tr.set DH h b (.loop st2 p2 d nt t ps x y)) nx (w.putObj i.blk (.loop l2)) ∧ Step β h nx w β (Tr.set DH h b (.loop st2 p2 d nt t ps x y)) nx (w.putObj i.blk (.loop l2)) :=
  hr.turn hi (by rw [ho]; rfl) _ (.inl rfl) (by simp) (fun y hy => World.putObj_heap_other hy)
    ⟨l2, World.putObj_heap_same (Array.getElem?_eq_some_iff.1 hw).1, h1, h2, h3, h4, h5, h6, h7, h8⟩

/-! ### a range over a function -/
section
variable {d nt : Nat} {rd : Bool} {CALL : CALLT}

/-- the functions' names are no name that the model treats by itself -/
def NamesOK (P : Program) : Prop := ∀ (f : Nat) (fn : Func), P.funcs[f]? = some fn → fn.body.isSome = true → (fn.name == "runtime.NumGoroutine") = false
theorem run_enter (hN : NamesOK P) {f : Nat} {fn : Func} (hf : P.funcs[f]? = some fn) (hb : fn.body.isSome = true) (args : Array Value) (W : World) : (callFunc f args).run P W = .ok (.enter f args) W := by
  have h1 := hN f fn hf hb
  have h1' : ¬ fn.name = "runtime.NumGoroutine" := by simpa using h1
  have h2 : ¬ fn.body = none := fun hn => by rw [hn] at hb; cases hb
  simp [callFunc, hf, h1', h2]

theorem cRange_ok (hN : NamesOK P) (hC : CallOK P CALL) {f : Operand} {ps : Array Nat} {asg body : Code} (hd1 : drawsOk asg = true) (hd2 : drawsOk body = true) :
    CodeOK P d nt rd (cRange P d nt CALL rd f ps asg body) (.rangeFunc f ps asg body) := by
  intro r Q s0 β h nx w t a kn kx hrd hs hr ht hm e hN' hX
  cases rd with
  | true => cases e
  | false =>
    obtain rfl := hrd rfl
    obtain ⟨fv, hfv, e⟩ := evD_ok ht (show evD d nt f t (fun f => Bool.rec false (allocK h nx (.loop .ready none d nt t ps.toList asg body) fun l h nx =>
      CALL f [.yield l] h nx
        (fun _ h nx => Tr.getK DH h l fun o => withLoop o fun st p d' nt' t' ps' a' b' =>
          Bool.rec (Tr.setK DH h l (.loop .exhausted p d' nt' t' ps' a' b') fun h => endLoop p t h nx kn kx) false (isBusy st))
        (fun _ _ _ => false)) (isBodied P f)) = true from e)
    obtain ⟨hbod, e⟩ := guard_of e
    simp only [allocK, forceNat_eq] at e
    obtain ⟨hlt, e⟩ := guard_of e
    rw [Tr.setK_eq] at e
    have hlt : nx < 2 ^ DH := by simpa [Nat.blt_eq] using hlt
    -- the function called
    cases hfv' : fv <;> (rw [hfv'] at hbod) <;> first | (cases hbod; done) | skip
    rename_i g x y
    subst hfv'
    have hbod : hasBody P g = true := hbod
    obtain ⟨fn, hfn, hfb⟩ : ∃ fn, P.funcs[g]? = some fn ∧ fn.body.isSome = true := by
      unfold hasBody at hbod
      split at hbod
      · rename_i fn hh; exact ⟨fn, hh, hbod⟩
      · cases hbod
    refine wpIn_rangeFunc fun fid _ => ?_
    -- the two blocks
    obtain ⟨hr1, st1⟩ := hr.junk (.deferred (some [])) (bare_defer _)
    let lp : Loop := { state := .ready, pending := none, fn := fid, tmps := a.tmps, params := ps, assign := asg, body, defers := w.heap.size }
    have hsz1 : (w.alloc (.deferred (some []))).heap.size = w.heap.size + 1 := by simp
    obtain ⟨hr2, st2⟩ := hr1.alloc (op := false) hlt (.loop .ready none d nt t ps.toList asg body) (.loop lp) 0 (fun h => by cases h)
      ⟨lp, World.alloc_heap_new _ _, rfl, rfl, ht.ext (bput_ext hr1.none_at), rfl, rfl, rfl, hd1, hd2⟩
    rw [hsz1] at hr2 st2
    have st := st1.trans st2
    generalize hβ : bput β nx ⟨w.heap.size + 1, 0, 0, false⟩ = β1 at hr2 st2 st
    have hl1 : β1 nx = some ⟨w.heap.size + 1, 0, 0, false⟩ := by rw [← hβ]; simp [bput]
    obtain ⟨dd, hdd, hnx⟩ := hC β1 _ (nx + 1) ((w.alloc (.deferred (some []))).alloc (.loop lp)) _ (a.eval f) [.yield nx] [.func (.yield (w.heap.size + 1)) #[] #[]] _ _ hr2 (hfv.ext st.ext)
      (.cons (.yield nx _ hl1) (.nil _)) e
    -- it is entered
    have henter : ∃ al, ∀ W : World, (invoke dd.target dd.args).run P W = .ok (.enter g al) W := by
      have h0 := hdd w
      generalize hav : a.eval f = av at hfv h0
      cases hfv with
      | func _ _ _ fv' cap' l1 _ l2 _ =>
        have : dd = { target := .fn (.func g) cap'.toArray, args := fv'.toArray ++ #[.func (.yield (w.heap.size + 1)) #[] #[]] } := by
          have h0 : Result.ok _ w = Result.ok dd w := h0
          injection h0 with h1
          exact h1.symm
        subst this
        exact ⟨_, fun W => run_enter hN hfn hfb _ W⟩
    obtain ⟨al, henter⟩ := henter
    rw [henter] at hnx
    refine ⟨w.heap.size + 1, [{ target := .collected w.heap.size, args := #[] }], (w.alloc (.deferred (some []))).alloc (.loop lp), dd, (w.alloc (.deferred (some []))).alloc (.loop lp), g, al, _, run_enterLoop_outer fid a.tmps ps asg body, ?_, fun _ _ => trivial, henter _,
      fun hh => (by cases hh), CallsIn.mono (F := Fence.wide) hnx fun en w3 he => ?_⟩
    · have hres : resolve a.eval (rangeCall f (w.heap.size + 1)) 0 = Deferred.ofValue (a.eval f) #[.func (.yield (w.heap.size + 1)) #[] #[]] := by simp [resolve, rangeCall, Act.eval]
      rw [hres]; exact hdd _
    · cases en with
      | outgrown => exact he.elim
      | panicked ch => obtain ⟨v', _, β', v, h', nx', _, _, _, hk⟩ := he; cases hk
      | returned v' =>
        obtain ⟨β', v, h', nx', q1, q2, q3, hk⟩ := he
        simp only [] at hk
        rw [Tr.getK_eq] at hk
        have hli := q2.ext _ _ hl1
        obtain ⟨sst, p, d', nt', t', ps', x', y', l, g0, g1, g2, g3, g4, g5, g6, g7, g8, g9, hk⟩ := withLoop_of q1 hli hk
        have hstate : isBusy sst = false := by
          cases hb : isBusy sst with
          | false => rfl
          | true => rw [hb] at hk; cases hk
        rw [hstate] at hk
        have hk : Tr.setK DH h' nx (.loop .exhausted p d' nt' t' ps' x' y') (fun h => endLoop p t h nx' kn kx) = true := hk
        rw [Tr.setK_eq] at hk
        have hnb : l.state ≠ .busy := fun hb => by rw [g2] at hb; rw [hb] at hstate; cases hstate
        have hend := run_endLoop (P := P) g1 hnb
        obtain ⟨q4, q5⟩ := loop_turn (l2 := { l with state := .exhausted }) (st2 := .exhausted) (p2 := p) q1 hli g0 g1 rfl g3 g4 g5 g6 g7 g8 g9
        have st' := (st.trans q2).trans q5
        -- the mark
        have hm1 : Marks s0 β1 (Tr.set DH h nx (.loop .ready none d nt t ps.toList asg body)) (nx + 1) ((w.alloc (.deferred (some []))).alloc (.loop lp)) ({ target := .collected w.heap.size, args := #[] } :: a.defers) := by
          have hl0 : ¬ Live β1 (Tr.set DH h nx (.loop .ready none d nt t ps.toList asg body)) (nx + 1) w.heap.size := by
            rintro ⟨B, i, hB, hBl, hBi, hBe⟩
            by_cases hBn : B = nx
            · subst hBn; rw [hl1] at hBi; cases hBi; simp at hBe
            · have hg : hget (Tr.set DH h nx (.loop .ready none d nt t ps.toList asg body)) B = hget h B := by
                show Tr.get DH _ B = _
                rw [Tr.get_set_lt DH h nx B _ hlt (by omega), if_neg hBn]
              rw [hg] at hBl
              obtain ⟨j, c1, c2, _⟩ := hr.obj B (by omega) hBl
              have : β1 B = some j := st.ext _ _ c1
              rw [hBi] at this; cases this
              omega
          · refine ⟨⟨w.heap.size, rfl, hs rfl, (by simp only [World.size_alloc]; omega), ?_, hl0, fun d' hd' he => ?_⟩, hm.step st⟩
            · show ((w.heap.push (.deferred (some []))).push (.loop lp))[w.heap.size]? = _
              rw [Array.getElem?_push, if_neg (by rw [Array.size_push]; omega), Array.getElem?_push, if_pos rfl]
            · have : ∀ {ds : List Deferred}, Marks s0 β h nx w ds → ∀ d' ∈ ds, d'.target ≠ .collected w.heap.size := by
                intro ds
                induction ds with
                | nil => intro _ d' hd'; cases hd'
                | cons x ds ih =>
                  rintro ⟨⟨b, c1, c2, c3, _⟩, c7⟩ d' hd' he
                  rcases List.mem_cons.1 hd' with rfl | hd'
                  · rw [c1] at he; cases he; omega
                  · exact ih c7 d' hd' he
              exact this hm d' hd' he
        have hmark := hm1.step (q2.trans q5)
        subst g3
        refine ⟨l.pending, _, hend, ?_⟩
        split
        · rename_i hp
          rw [hp] at hk
          exact hN' β' t _ nx' { a with defers := [{ target := .collected w.heap.size, args := #[] }] ++ a.defers } _ q4 (ht.ext st'.ext) hmark st' (by rw [hp]; exact hk)
        · rename_i c hp
          rw [hp] at hk
          have hc : c = .ret ∨ ∃ id, c = .exit id := by
            cases c <;> first | exact .inl rfl | exact .inr ⟨_, rfl⟩ | cases hk
          rcases hc with rfl | ⟨id, rfl⟩
          · exact wpIn_ret (hX.ret β' t _ nx' { a with defers := [{ target := .collected w.heap.size, args := #[] }] ++ a.defers } _ q4 (ht.ext st'.ext) hmark st' (by rw [hp]; exact hk))
          · exact wpIn_exit (hX.exit id β' t _ nx' { a with defers := [{ target := .collected w.heap.size, args := #[] }] ++ a.defers } _ q4 (ht.ext st'.ext) hmark st' (by rw [hp]; exact hk))

theorem codeD_ok (hmo : P.follows .mixedOrders = true) (hN : NamesOK P) (hC : CallOK P CALL) (c : Code) : drawsOk c = true → CodeOK P d nt rd (codeD P d nt CALL rd c) c := by
  induction c with
  | skip => intro _; exact cSkip_ok
  | region id ops draw => intro hd; exact cRegion_ok hmo hC (fun hh => by subst hh; simpa [drawsOk] using hd)
  | seq x y ihx ihy => intro hd; simp only [drawsOk, Bool.and_eq_true] at hd; exact (show CodeOK P d nt rd (cSeq (codeD P d nt CALL rd x) (codeD P d nt CALL rd y)) (.seq x y) from cSeq_ok (ihx hd.1) (ihy hd.2))
  | cond c x y ihx ihy => intro hd; simp only [drawsOk, Bool.and_eq_true] at hd; exact (show CodeOK P d nt rd (cCond d nt c (codeD P d nt CALL rd x) (codeD P d nt CALL rd y)) (.cond c x y) from cCond_ok (ihx hd.1) (ihy hd.2))
  | block id x ih => intro hd; exact (show CodeOK P d nt rd (cBlock id (codeD P d nt CALL rd x)) (.block id x) from cBlock_ok (ih hd))
  | loop x ih => intro hd; exact (show CodeOK P d nt rd (cLoop (codeD P d nt CALL rd x)) (.loop x) from cLoop_ok (ih hd))
  | rangeFunc f ps x y _ _ => intro hd; simp only [drawsOk, Bool.and_eq_true] at hd; exact cRange_ok hN hC hd.1 hd.2
  | exit id => intro _; exact cExit_ok
  | scope x ih => intro hd; exact (show CodeOK P d nt rd (codeD P d nt CALL rd x) (.scope x) from cScope_ok (ih hd))
  | label l => intro _; exact cLabel_ok
  | goto l => intro _ r Q s0 β h nx w t a kn kx hrd hs hr ht hm e; cases e
  | ret => intro _; exact cRet_ok
  | refuse s => intro _ r Q s0 β h nx w t a kn kx hrd hs hr ht hm e; cases e
end
end Am
set_option linter.unusedVariables false
set_option linter.unusedSimpArgs false
namespace Am
open Go
variable {P : Program} {β : Beta} {h : HP} {nx : Nat} {w : World}
section
variable {d nt : Nat} {CALL : CALLT} {SPEC : Nat → Option (CALLT → List AV → HP → Nat → KV → KV → Bool)}

/-! ### rounds -/
theorem setPs_ok : ∀ {ps : List Nat} {vs : List AV} {vs' : List Value} {t : TM} {tmps : Array Value} {kk : TM → Bool}, TRel β d nt t tmps → LRel β vs vs' → setPs d nt ps vs t kk = true →
    ∃ t', vs'.length = ps.length ∧ TRel β d nt t' ((ps.zip vs').foldl (fun tmps (x : Nat × Value) => tmps.setIfInBounds x.1 x.2) tmps) ∧ kk t' = true := by
  intro ps
  induction ps with
  | nil =>
    intro vs vs' t tmps kk ht hl e
    cases vs with
    | nil => have := hl.nil_inv; subst this; exact ⟨t, rfl, ht, e⟩
    | cons v vs => cases e
  | cons p ps ih =>
    intro vs vs' t tmps kk ht hl e
    cases vs with
    | nil => cases e
    | cons v vs =>
      obtain ⟨v', l', rfl, hv, hl2⟩ := hl.cons_inv
      have e : putD d nt (some p) v t (fun t => setPs d nt ps vs t kk) = true := e
      obtain ⟨t1, h1, _, e⟩ := putD_ok (a := { tmps := tmps, defers := [] }) ht hv e
      obtain ⟨t2, h2, h3, e⟩ := ih (tmps := tmps.setIfInBounds p v') h1 hl2 e
      exact ⟨t2, by simp [h2], by simpa using h3, e⟩

theorem endRound_ok {l : Nat} {i : BI} {jump : Option Code} {k kp : KV} {β0 : Beta} {h0 : HP} {nx0 : Nat} {w0 : World} (hr : HRel β h nx w) (st : Step β0 h0 nx0 w0 β h nx w) (hi : β l = some i) (e : endRound l jump h nx k = true) :
    ∃ v w', (Instr.endRound i.blk jump).run P w = .ok v w' ∧ EndOK β0 h0 nx0 w0 k kp (.returned v) w' := by
  unfold endRound at e
  rw [Tr.getK_eq] at e
  obtain ⟨sst, p, d', nt', t', ps', x', y', lp, g0, g1, g2, g3, g4, g5, g6, g7, g8, g9, e⟩ := withLoop_of hr hi e
  rw [Tr.setK_eq] at e
  obtain ⟨q1, q2⟩ := loop_turn (l2 := { lp with state := if jump.isNone then .ready else .done, pending := jump }) (st2 := jumpSt jump) (p2 := jump) hr hi g0 g1 (by cases jump <;> rfl) rfl g4 g5 g6 g7 g8 g9
  exact ⟨_, _, run_endRound jump g1, β, _, _, nx, q1, st.trans q2, .bool _, e⟩

theorem yieldD_ok (hmo : P.follows .mixedOrders = true) (hN : NamesOK P) (hC : CallOK P CALL) {l : Nat} {i : BI} {args : List AV} {args' : List Value} {k kp : KV} (hr : HRel β h nx w) (hi : β l = some i) (hl : LRel β args args')
    (e : yieldD P CALL l args h nx k kp = true) : NextOK P β h nx w k kp ((Instr.yield i.blk args'.toArray).run P w) := by
  unfold yieldD at e
  rw [Tr.getK_eq] at e
  obtain ⟨sst, p, d', nt', t', ps', x', y', lp, g0, g1, g2, g3, g4, g5, g6, g7, g8, g9, e⟩ := withLoop_of hr hi e
  obtain ⟨t1, h1, h2, e⟩ := setPs_ok g4 hl e
  have hps : args'.toArray.size = lp.params.size := by
    have : lp.params.size = ps'.length := by rw [← g5]; simp
    rw [this]; simpa using h1
  have hrun := run_yield (P := P) (args := args'.toArray) g1 hps
  rw [hrun]
  have htm : ((lp.params.zip args'.toArray).foldl (fun tmps (x : Tmp × Value) => tmps.setIfInBounds x.1 x.2) lp.tmps) = ((ps'.zip args').foldl (fun tmps (x : Nat × Value) => tmps.setIfInBounds x.1 x.2) lp.tmps) := by
    rw [← Array.foldl_toList, Array.toList_zip, g5]
  show RoundIn Fence.wide 0 P i.blk lp.fn ((lp.params.zip args'.toArray).foldl (fun tmps (x : Tmp × Value) => tmps.setIfInBounds x.1 x.2) lp.tmps) lp.assign lp.body w (EndOK β h nx w k kp)
  rw [htm, g6, g7]
  refine roundIn_of_wpIn trivial ?_
  refine codeD_ok (rd := true) hmo hN hC x' g8 (some i.blk) _ none β h nx w t1 { tmps := _, defers := [] } _ _ (fun hh => by cases hh) (fun hh => by cases hh) hr h2 trivial e (fun β1 t2 h1 nx1 a1 w1 q1 q2 q3 q4 q5 => ?_) ⟨fun id => ?_, ?_, ?_⟩
  · -- the body
    have q5 : beginRound l h1 (fun h => codeD P d' nt' CALL true y' t2 h nx1 (fun _ h nx => endRound l none h nx k) (roundX l k)) = true := q5
    unfold beginRound at q5
    rw [Tr.getK_eq] at q5
    have hi1 := q4.ext _ _ hi
    obtain ⟨sst2, p2, d2, nt2, t22, ps2, x2, y2, lp2, f0, f1, f2, f3, f4, f5, f6, f7, f8, f9, q5⟩ := withLoop_of q1 hi1 q5
    obtain ⟨hready, q5⟩ := guard_of q5
    rw [Tr.setK_eq] at q5
    have hstate : lp2.state = .ready := by
      rw [f2]; cases sst2 <;> first | rfl | cases hready
    refine ⟨_, run_beginRound f1 hstate, ?_⟩
    obtain ⟨u1, u2⟩ := loop_turn (l2 := { lp2 with state := .busy }) (st2 := .busy) (p2 := p2) q1 hi1 f0 f1 rfl f3 f4 f5 f6 f7 f8 f9
    have st := q4.trans u2
    refine codeD_ok (rd := true) hmo hN hC y' g9 (some i.blk) _ none β1 _ nx1 _ t2 a1 _ _ (fun hh => by cases hh) (fun hh => by cases hh) u1 q2 (q3.step u2) q5 (fun β3 t3 h3 nx3 a3 w3 v1 v2 v3 v4 v5 => ?_) ⟨fun id => fun β3 t3 h3 nx3 a3 w3 v1 v2 v3 v4 v5 => ?_, fun β3 t3 h3 nx3 a3 w3 v1 v2 v3 v4 v5 => ?_, fun β3 v v' h3 nx3 a3 w3 v1 v2 v3 v4 v5 => ?_⟩
    · exact endRound_ok (jump := none) v1 (st.trans v4) (v4.ext _ _ hi1) v5
    · exact endRound_ok (jump := some (.exit id)) v1 (st.trans v4) (v4.ext _ _ hi1) v5
    · exact endRound_ok (jump := some .ret) v1 (st.trans v4) (v4.ext _ _ hi1) v5
    · cases v5
  · intro β3 t3 h3 nx3 a3 w3 v1 v2 v3 v4 v5; cases v5
  · intro β3 t3 h3 nx3 a3 w3 v1 v2 v3 v4 v5; cases v5
  · intro β3 v v' h3 nx3 a3 w3 v1 v2 v3 v4 v5; cases v5

/-! ### results -/
def resF (tmps : Array Value) (x : ResultVar) : Sem Value := match x with
  | .tmp t => pure (tmps.getD t undef)
  | .cell a t => do loadVar t (← asAddr (tmps.getD a undef))
theorem resOne_ok {t : TM} {tmps : Array Value} {x : ResultVar} {kk : AV → Bool} (hr : HRel β h nx w) (ht : TRel β d nt t tmps) (e : resOne P d nt x t h kk = true) :
    ∃ v v', (resF tmps x).run P w = .ok v' w ∧ VRel β v v' ∧ kk v = true := by
  cases x with
  | tmp i =>
    obtain ⟨v, _, _, hv, e⟩ := evTmp_ok (a := { tmps := tmps, defers := [] }) ht (show evTmp d nt i t kk = true from e)
    exact ⟨v, _, rfl, hv, e⟩
  | cell i ty =>
    obtain ⟨v, _, _, hv, e⟩ := evTmp_ok (a := { tmps := tmps, defers := [] }) ht (show evTmp d nt i t (fun a => loadA P ty a h 0 fun v _ _ => kk v) = true from e)
    have hv : VRel β v (tmps.getD i undef) := hv
    have e2 : loadA P ty v h nx (fun v _ _ => kk v) = true := by
      have : ∀ n m, loadA P ty v h n (fun v _ _ => kk v) = loadA P ty v h m (fun v _ _ => kk v) := by
        intro n m
        cases v <;> first | rfl | skip
        rename_i b o _ _
        show loadP (loadKind P ty) b o h n _ = loadP (loadKind P ty) b o h m _
        cases loadKind P ty with
        | none => rfl
        | some kd => cases kd <;> rfl
      rw [this nx 0]; exact e
    obtain ⟨u, u', h1, h2, h3⟩ := loadA_ok hr hv e2
    refine ⟨u, u', ?_, h2, h3⟩
    show (do loadVar ty (← asAddr (tmps.getD i undef)) : Sem Value).run P w = .ok u' w
    generalize tmps.getD i undef = pv at hv h1
    cases hv <;> first | (exfalso; simp [loadA, bad1] at e2; done) | skip
    simpa [Instr.loadAt, Instr.sureAddr, asAddr] using h1
theorem resL_ok {t : TM} {tmps : Array Value} (hr : HRel β h nx w) (ht : TRel β d nt t tmps) : ∀ {rs : List ResultVar} {kk : List AV → Bool}, resL P d nt rs t h kk = true →
    ∃ vs vs', (rs.mapM (resF tmps)).run P w = .ok vs' w ∧ LRel β vs vs' ∧ kk vs = true := by
  intro rs
  induction rs with
  | nil => intro kk e; exact ⟨[], [], by simp, .nil β, e⟩
  | cons x rs ih =>
    intro kk e
    obtain ⟨v, v', h1, h2, e⟩ := resOne_ok hr ht (show resOne P d nt x t h (fun v => resL P d nt rs t h fun l => kk (v :: l)) = true from e)
    obtain ⟨vs, vs', h3, h4, e⟩ := ih e
    refine ⟨v :: vs, v' :: vs', ?_, .cons h2 h4, e⟩
    rw [List.mapM_cons]
    simp only [Sem.run_bind]
    rw [h1]
    simp only [Result.andThen, Sem.run_bind]
    rw [h3]
    simp [Result.andThen]
theorem endD_ok {fn : Func} {t : TM} {tmps : Array Value} {k : KV} (hr : HRel β h nx w) (ht : TRel β d nt t tmps) (e : endD P d nt fn.results.toList k t h nx = true) :
    ∃ v v', (results fn tmps).run P w = .ok v' w ∧ VRel β v v' ∧ k v h nx = true := by
  obtain ⟨vs, vs', h1, h2, e⟩ := resL_ok hr ht (show resL P d nt fn.results.toList t h (fun l => tupK l h nx k) = true from e)
  have hrun : ∀ v', (v' = if h : vs'.toArray.size = 1 then vs'.toArray[0] else .tuple vs'.toArray) → (results fn tmps).run P w = .ok v' w := by
    intro v' hv'
    show (do let vs ← fn.results.mapM (resF tmps); pure (if h : vs.size = 1 then vs[0] else .tuple vs) : Sem Value).run P w = .ok v' w
    rw [Array.mapM_eq_mapM_toList]
    simp only [Sem.run_bind, Sem.run_map]
    rw [h1]
    simp only [Result.andThen, Sem.run_pure]
    rw [hv']
  cases vs with
  | nil =>
    have := h2.nil_inv; subst this
    exact ⟨.tuple [], .tuple #[], hrun _ (by simp), .tuple [] [] rfl (fun j a v hh => by simp at hh), e⟩
  | cons v vs =>
    obtain ⟨v', l', rfl, hv, hl⟩ := h2.cons_inv
    cases vs with
    | nil =>
      have := hl.nil_inv; subst this
      exact ⟨v, v', hrun _ (by simp), hv, e⟩
    | cons u vs =>
      obtain ⟨u', l2, rfl, hu, hl2⟩ := hl.cons_inv
      refine ⟨.tuple (v :: u :: vs), .tuple (v' :: u' :: l2).toArray, hrun _ (by simp), .tuple _ _ h2.1 h2.2, e⟩

/-! ### functions -/
theorem leaves_ok {fn : Func} {tmps : Array Value} {R : Ending → World → Prop} {u : FrameMode} {s0 : Option Nat} {β0 : Beta} {h0 : HP} {nx0 : Nat} {w0 : World} (hs : some w0.heap.size = s0) (hu : u ≠ .run)
    (hend : ∀ w', HRel β h nx w' → Step β0 h0 nx0 w0 β h nx w' → LeavesIn Fence.wide 0 P fn tmps R [] u w') : ∀ {ds : List Deferred} {w : World}, HRel β h nx w → Step β0 h0 nx0 w0 β h nx w → Marks s0 β h nx w ds → LeavesInM Fence.wide 0 P fn tmps R ds u w := by
  intro ds
  induction ds with
  | nil => intro w hr st hm; exact hend w hr st
  | cons x ds ih =>
    rintro w hr st ⟨⟨b, h1, h2, h3, h4, h5, h6⟩, hm⟩
    obtain ⟨q1, q2⟩ := hr.poke st (bare_defer (some [])) (bare_defer none) h4 (by obtain ⟨x, hx, hxb⟩ := h2; rw [← hs] at hx; cases hx; exact hxb) h5
    refine ⟨hu, .inl ⟨b, _, h1, run_takeDeferred h4, ih q1 q2 ?_⟩⟩
    clear ih
    induction ds with
    | nil => trivial
    | cons y ds ih2 =>
      obtain ⟨⟨c, g1, g2, g3, g4, g5, g6⟩, hm2⟩ := hm
      have hne : c ≠ b := fun e => h6 y (List.mem_cons_self ..) (by rw [g1, e])
      exact ⟨⟨c, g1, g2, by simpa using g3, by rw [World.putObj_heap_other hne]; exact g4, g5, g6⟩, ih2 hm2 (fun d' hd' => h6 d' (List.mem_cons_of_mem _ hd'))⟩

theorem TRel.args {d nt : Nat} {args : List AV} {args' : List Value} (hl : LRel β args args') (hle : args.length ≤ nt) (hd : nt ≤ 2 ^ d) :
    TRel β d nt (setMany d args (.leaf undefA) 0) (args'.toArray ++ Array.replicate (nt - args'.toArray.size) undef) := by
  have hlen : args'.length = args.length := hl.1.symm
  refine ⟨by simp; omega, hd, fun i hi => ?_⟩
  rw [get_setMany d args (.leaf undefA) 0 i (by omega) (by omega), if_pos (Nat.zero_le _)]
  simp only [Nat.sub_zero]
  by_cases hi2 : i < args.length
  · obtain ⟨y, hy, hv⟩ := hl.get (List.getElem?_eq_getElem hi2)
    rw [List.getElem?_eq_getElem hi2]
    have : (args'.toArray ++ Array.replicate (nt - args'.toArray.size) undef).getD i undef = y := by
      rw [Array.getD_eq_getD_getElem?, Array.getElem?_append_left (by simpa [hlen] using hi2), List.getElem?_toArray, hy]; rfl
    rw [this]; exact hv
  · rw [List.getElem?_eq_none (by omega)]
    have : (args'.toArray ++ Array.replicate (nt - args'.toArray.size) undef).getD i undef = undef := by
      rw [Array.getD_eq_getD_getElem?, Array.getElem?_append_right (by simp; omega)]
      simp only [Array.getElem?_replicate]
      split <;> rfl
    rw [this]
    have hg : Tr.get d (.leaf undefA) i = undefA := by
      have : ∀ d, Tr.get d (.leaf undefA : TM) i = undefA := fun d => by cases d <;> rfl
      exact this d
    rw [hg]
    exact .tuple [] [] rfl (fun j a v hh => by simp at hh)

/-- all functions' regions that draw are as the plan needs them -/
def DrawsOK (P : Program) : Prop := ∀ (f : Nat) (fn : Func) (c : Code), P.funcs[f]? = some fn → fn.body = some c → drawsOk c = true

theorem enterF_ok (hmo : P.follows .mixedOrders = true) (hN : NamesOK P) (hD : DrawsOK P) (hC : CallOK P CALL) {f : Nat} {args : List AV} {args' : List Value} {k kp : KV} (hr : HRel β h nx w) (hl : LRel β args args')
    (e : enterF P CALL P.funcs[f]? args h nx k kp = true) : NextOK P β h nx w k kp ((callFunc f args'.toArray).run P w) := by
  cases hf : P.funcs[f]? with
  | none => rw [hf] at e; cases e
  | some fn =>
    rw [hf] at e
    have e : enterB P CALL fn fn.body args h nx k kp = true := e
    cases hb : fn.body with
    | none => rw [hb] at e; cases e
    | some c =>
      rw [hb] at e
      obtain ⟨hle, e⟩ := guard_of (show (Bool.rec (motive := fun _ => Bool) false (argsL args (depthOf fn.ntmps) (.leaf undefA) fun t => bodyD P CALL fn.results.toList c (depthOf fn.ntmps) fn.ntmps t h nx k kp) (Nat.ble args.length fn.ntmps)) = true from e)
      unfold argsL at e
      rw [storeL_eq] at e
      rw [run_enter hN hf (by rw [hb]; rfl)]
      have ht := TRel.args (β := β) hl (Nat.le_of_ble_eq_true hle) (le_depthOf fn.ntmps)
      refine callsIn_of_wp_marks hf hb trivial ?_
      have e : codeD P (depthOf fn.ntmps) fn.ntmps CALL false c (setMany (depthOf fn.ntmps) args (.leaf undefA) 0) h nx (endD P (depthOf fn.ntmps) fn.ntmps fn.results.toList k) (retX P (depthOf fn.ntmps) fn.ntmps fn.results.toList k kp) = true := e
      have hret : PostN (some w.heap.size) (depthOf fn.ntmps) fn.ntmps β h nx w (endD P (depthOf fn.ntmps) fn.ntmps fn.results.toList k) (fun a w' => LeavesInM Fence.wide 0 P fn a.tmps (EndOK β h nx w k kp) a.defers .returning w') := by
        intro β1 t1 h1 nx1 a1 w1 q1 q2 q3 q4 q5
        refine leaves_ok rfl (by simp) (fun w2 p1 p2 => ?_) q1 q4 q3
        obtain ⟨v, v', u1, u2, u3⟩ := endD_ok p1 q2 q5
        exact ⟨v', u1, β1, v, h1, nx1, p1, p2, u2, u3⟩
      exact codeD_ok (rd := false) hmo hN hC c (hD f fn c hf hb) none _ (some w.heap.size) β h nx w _ { tmps := _, defers := [] } _ _ (fun _ => rfl) (fun _ => ⟨_, rfl, Nat.le_refl _⟩) hr ht trivial e hret
        ⟨fun id => fun β1 t1 h1 nx1 a1 w1 q1 q2 q3 q4 q5 => (by cases q5), hret, fun β1 v v' h1 nx1 a1 w1 q1 q2 q3 q4 q5 =>
          leaves_ok (fn := fn) (tmps := a1.tmps) (R := EndOK β h nx w k kp) (u := .panicking (one v')) rfl (by simp) (fun w2 p1 p2 => (show EndOK β h nx w k kp (.panicked (one v')) w2 from ⟨v', rfl, β1, v, h1, nx1, p1, p2, q2, q5⟩)) q1 q4 q3⟩

/-- functions that are not entered but told of -/
def SpecOK (P : Program) (SPEC : Nat → Option (CALLT → List AV → HP → Nat → KV → KV → Bool)) : Prop := ∀ (f : Nat) G (CALL : CALLT), SPEC f = some G → CallOK P CALL →
  ∀ (β : Beta) (h : HP) (nx : Nat) (w : World) (args : List AV) (args' : List Value) (k kp : KV), HRel β h nx w → LRel β args args' → G CALL args h nx k kp = true → NextOK P β h nx w k kp ((callFunc f args'.toArray).run P w)

theorem invokeD_ok (hmo : P.follows .mixedOrders = true) (hN : NamesOK P) (hD : DrawsOK P) (hS : SpecOK P SPEC) (hC : CallOK P CALL) : CallOK P (invokeD P SPEC CALL) := by
  intro β h nx w f f' args args' k kp hr hf hl e
  cases hf <;> first | (cases e; done) | skip
  case func g fv cap fv' cap' l1 l2 l3 l4 =>
    have e : forceList (fv ++ args ++ cap) (fun al => funcD P SPEC CALL g al h nx k kp) = true := e
    rw [forceList_eq] at e
    refine ⟨_, fun W => rfl, ?_⟩
    have hal : LRel β (fv ++ args ++ cap) (fv' ++ args' ++ cap') := (LRel.append ⟨l1, l2⟩ hl).append ⟨l3, l4⟩
    show NextOK P β h nx w k kp ((callFunc g (fv'.toArray ++ args'.toArray ++ cap'.toArray)).run P w)
    have harr : fv'.toArray ++ args'.toArray ++ cap'.toArray = (fv' ++ args' ++ cap').toArray := by simp
    rw [harr]
    unfold funcD at e
    cases hs : SPEC g with
    | some G => rw [hs] at e; exact hS g G CALL hs hC β h nx w _ _ k kp hr hal e
    | none => rw [hs] at e; exact enterF_ok hmo hN hD hC hr hal e
  case yield l i hi =>
    refine ⟨_, fun W => rfl, ?_⟩
    show NextOK P β h nx w k kp ((Instr.yield i.blk (#[] ++ args'.toArray)).run P w)
    rw [Array.empty_append]
    exact yieldD_ok hmo hN hC hr hi hl e

theorem callN_ok (hmo : P.follows .mixedOrders = true) (hN : NamesOK P) (hD : DrawsOK P) (hS : SpecOK P SPEC) (n : Nat) : CallOK P (callN P SPEC n) := by
  induction n with
  | zero => intro β h nx w f f' args args' k kp hr hf hl e; cases e
  | succ n ih => exact invokeD_ok hmo hN hD hS ih
end
end Am
