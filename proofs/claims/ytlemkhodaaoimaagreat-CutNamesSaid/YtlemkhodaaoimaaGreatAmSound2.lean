/- Ranges over functions, rounds, functions, calls: sound. -/
import Derived.Test.YtlemkhodaaoimaaGreatAmSound
set_option linter.unusedVariables false
set_option linter.unusedSimpArgs false
noncomputable section
namespace Am
open Go
variable {P : Program} {Q : Exit → Act → World → Prop} {r : Option Nat} {β : Beta} {h : HP} {nx : Nat} {w : World}

/-! ### blocks that are nobody's -/
def bare (o : Obj) : Prop := ∀ c e f, o ≠ .cells c e f
theorem frozen_bare {o : Obj} (hb : bare o) {a : Addr} (hw : w.heap[a.block]? = some o) : w.frozen? a = false := by
  unfold World.frozen?
  rw [hw]
  cases o <;> first | rfl | exact absurd rfl (hb _ _ _)
theorem frozen_alloc_bare {ob : Obj} (hb : bare ob) (a : Addr) : (w.alloc ob).frozen? a = w.frozen? a := by
  by_cases ha : a.block = w.heap.size
  · have e1 : (w.alloc ob).heap[a.block]? = some ob := by rw [ha]; exact World.alloc_heap_new w _
    have e2 : w.heap[a.block]? = none := by rw [ha]; simp
    rw [frozen_bare hb e1]; simp [World.frozen?, e2]
  · exact World.frozen?_alloc_old _ _ _ ha
theorem frozen_put_bare {b : Nat} {o o2 : Obj} (h1 : bare o) (h2 : bare o2) (hw : w.heap[b]? = some o) (a : Addr) : (w.putObj b o2).frozen? a = w.frozen? a := by
  by_cases ha : a.block = b
  · have e1 := frozen_bare h1 (w := w) (a := a) (by rw [ha]; exact hw)
    have e2 := frozen_bare h2 (w := w.putObj b o2) (a := a) (by rw [ha]; exact World.putObj_heap_same (Array.getElem?_eq_some_iff.1 hw).1)
    rw [e1, e2]
  · simp [World.frozen?, World.putObj_heap_other ha]
theorem HRel.junk (hr : HRel β h nx w) (ob : Obj) (hb : bare ob) : HRel β h nx (w.alloc ob) ∧ Step β h nx w β h nx (w.alloc ob) := by
  have hold : ∀ x, x < w.heap.size → (w.alloc ob).heap[x]? = w.heap[x]? := fun x hx => by
    show (w.heap.push ob)[x]? = w.heap[x]?
    rw [Array.getElem?_push, if_neg (by omega)]
  have hsz : (w.alloc ob).heap.size = w.heap.size + 1 := by simp
  refine ⟨⟨hr.lt, hr.le, fun b hb hl => ?_, hr.inj⟩, ⟨Ext.refl β, by omega, fun x hx _ => hold x hx, fun _ _ h => h, frozen_alloc_bare hb, fun _ _ h => h, rfl, rfl⟩⟩
  obtain ⟨i, h1, h2, h3⟩ := hr.obj b hb hl
  exact ⟨i, h1, by omega, h3.ext (Ext.refl β) (fun _ => hold _ h2)⟩
/-- a block that is nobody's, and younger than the world at the start, turned -/
theorem HRel.poke {β0 : Beta} {h0 : HP} {nx0 : Nat} {w0 : World} (hr : HRel β h nx w) (st : Step β0 h0 nx0 w0 β h nx w) {b : Nat} {o o2 : Obj} (h1 : bare o) (h2 : bare o2) (hw : w.heap[b]? = some o)
    (hs : w0.heap.size ≤ b) (hl : ¬ Live β h nx b) : HRel β h nx (w.putObj b o2) ∧ Step β0 h0 nx0 w0 β h nx (w.putObj b o2) := by
  refine ⟨⟨hr.lt, hr.le, fun x hx hxl => ?_, hr.inj⟩, ⟨st.ext, by simpa using st.size, fun x hx hn => ?_, st.own, fun a => (frozen_put_bare h1 h2 hw a).trans (st.fz a), st.lv, st.os, st.out⟩⟩
  · obtain ⟨i, g1, g2, g3⟩ := hr.obj x hx hxl
    exact ⟨i, g1, by simpa using g2, g3.ext (Ext.refl β) (fun _ => World.putObj_heap_other (fun e => hl ⟨x, i, hx, hxl, g1, e⟩))⟩
  · rw [World.putObj_heap_other (by omega)]; exact st.keep x hx hn

theorem withLoop_of {b : Nat} {i : BI} {f : LoopState → Option Code → Nat → Nat → TM → List Nat → Code → Code → Bool} (hr : HRel β h nx w) (hi : β b = some i) (e : withLoop (hget h b) f = true) :
    ∃ (st : LoopState) (p : Option Code) (d nt : Nat) (t : TM) (ps : List Nat) (x y : Code) (l : Loop), hget h b = .loop st p d nt t ps x y ∧ w.heap[i.blk]? = some (.loop l) ∧ l.state = st ∧ l.pending = p ∧ TRel β d nt t l.tmps ∧ l.params.toList = ps ∧ l.assign = x ∧ l.body = y ∧
      drawsOk x = true ∧ drawsOk y = true ∧ f st p d nt t ps x y = true := by
  have hb := (VRel.lt hr hi).1
  cases ho : hget h b with
  | dead => rw [ho] at e; cases e
  | map es => rw [ho] at e; cases e
  | cells d t n => rw [ho] at e; cases e
  | rcells d t n => rw [ho] at e; cases e
  | loop st p d nt t ps x y =>
    obtain ⟨j, h1, _, h2⟩ := hr.obj b hb (by rw [ho]; rfl)
    rw [hi] at h1; cases h1
    rw [ho] at e h2
    obtain ⟨l, g1, g2, g3, g4, g5, g6, g7, g8, g9⟩ := h2
    exact ⟨st, p, d, nt, t, ps, x, y, l, rfl, g1, g2, g3, g4, g5, g6, g7, g8, g9, e⟩
theorem bare_loop (l : Loop) : bare (.loop l) := fun _ _ _ h => by cases h
theorem bare_defer (l : Option (List Deferred)) : bare (.deferred l) := fun _ _ _ h => by cases h

/-- a loop's record, turned -/
theorem loop_turn {b : Nat} {i : BI} {l l2 : Loop} {st st2 : LoopState} {p p2 : Option Code} {d nt : Nat} {t : TM} {ps : List Nat} {x y : Code} (hr : HRel β h nx w) (hi : β b = some i) (ho : hget h b = .loop st p d nt t ps x y)
    (hw : w.heap[i.blk]? = some (.loop l)) (h1 : l2.state = st2) (h2 : l2.pending = p2) (h3 : TRel β d nt t l2.tmps) (h4 : l2.params.toList = ps) (h5 : l2.assign = x) (h6 : l2.body = y) (h7 : drawsOk x = true) (h8 : drawsOk y = true) :
    HRel β (Tr.set DH h b (.loop st2 p2 d nt t ps x y)) nx (w.putObj i.blk (.loop l2)) ∧ Step β h nx w β (Tr.set DH h b (.loop st2 p2 d nt t ps x y)) nx (w.putObj i.blk (.loop l2)) :=
  hr.turn hi (by rw [ho]; rfl) _ (.inl rfl) (by simp) (fun y hy => World.putObj_heap_other hy) (frozen_put_bare (bare_loop _) (bare_loop _) hw)
    ⟨l2, World.putObj_heap_same (Array.getElem?_eq_some_iff.1 hw).1, h1, h2, h3, h4, h5, h6, h7, h8⟩

/-! ### a range over a function -/
section
variable {d nt : Nat} {rd : Bool} {CALL : CALLT}

/-- the functions' names are no name that the model treats by itself -/
def NamesOK (P : Program) : Prop := ∀ (f : Nat) (fn : Func), P.funcs[f]? = some fn → fn.body.isSome = true → (fn.name == "runtime.NumGoroutine") = false
theorem run_enter (hN : NamesOK P) {f : Nat} {fn : Func} (hf : P.funcs[f]? = some fn) (hb : fn.body.isSome = true) (args : Array Value) (W : World) : (callFunc f args).run P W = .ok (.enter f args) W := by
  have h1 := hN f fn hf hb
  have h1' : ¬ fn.name = "runtime.NumGoroutine" := by simpa using h1
  have h2 : ¬ fn.body = none := fun hn => by rw [hn] at hb; cases hb
  simp [callFunc, hf, h1', h2]

theorem cRange_ok (hN : NamesOK P) (hC : CallOK P CALL) {f : Operand} {ps : Array Nat} {asg body : Code} (hd1 : drawsOk asg = true) (hd2 : drawsOk body = true) :
    CodeOK P d nt rd (cRange P d nt CALL rd f ps asg body) (.rangeFunc f ps asg body) := by
  intro r Q s0 β h nx w t a kn kx hrd hs hr ht hm e hN' hX
  cases rd with
  | true => cases e
  | false =>
    obtain rfl := hrd rfl
    obtain ⟨fv, hfv, e⟩ := evD_ok ht (show evD d nt f t (fun f => Bool.rec false (allocK h nx (.loop .ready none d nt t ps.toList asg body) fun l h nx =>
      CALL f [.yield l] h nx
        (fun _ h nx => Tr.getK DH h l fun o => withLoop o fun st p d' nt' t' ps' a' b' =>
          Bool.rec (Tr.setK DH h l (.loop .exhausted p d' nt' t' ps' a' b') fun h => endLoop p t h nx kn kx) false (isBusy st))
        (fun _ _ _ => false)) (isBodied P f)) = true from e)
    obtain ⟨hbod, e⟩ := guard_of e
    simp only [allocK, forceNat_eq] at e
    obtain ⟨hlt, e⟩ := guard_of e
    rw [Tr.setK_eq] at e
    have hlt : nx < 2 ^ DH := by simpa [Nat.blt_eq] using hlt
    -- the function called
    cases hfv' : fv <;> (rw [hfv'] at hbod) <;> first | (cases hbod; done) | skip
    rename_i g x y
    subst hfv'
    have hbod : hasBody P g = true := hbod
    obtain ⟨fn, hfn, hfb⟩ : ∃ fn, P.funcs[g]? = some fn ∧ fn.body.isSome = true := by
      unfold hasBody at hbod
      split at hbod
      · rename_i fn hh; exact ⟨fn, hh, hbod⟩
      · cases hbod
    refine wpIn_rangeFunc fun fid _ => ?_
    -- the two blocks
    obtain ⟨hr1, st1⟩ := hr.junk (.deferred (some [])) (bare_defer _)
    let lp : Loop := { state := .ready, pending := none, fn := fid, tmps := a.tmps, params := ps, assign := asg, body, defers := w.heap.size }
    have hsz1 : (w.alloc (.deferred (some []))).heap.size = w.heap.size + 1 := by simp
    obtain ⟨hr2, st2⟩ := hr1.alloc (op := false) hlt (.loop .ready none d nt t ps.toList asg body) (.loop lp) 0 (frozen_alloc_bare (bare_loop _))
      ⟨lp, World.alloc_heap_new _ _, rfl, rfl, ht.ext (bput_ext hr1.none_at), rfl, rfl, rfl, hd1, hd2⟩
    rw [hsz1] at hr2 st2
    have st := st1.trans st2
    generalize hβ : bput β nx ⟨w.heap.size + 1, 0, 0, false⟩ = β1 at hr2 st2 st
    have hl1 : β1 nx = some ⟨w.heap.size + 1, 0, 0, false⟩ := by rw [← hβ]; simp [bput]
    obtain ⟨dd, hdd, hnx⟩ := hC β1 _ (nx + 1) ((w.alloc (.deferred (some []))).alloc (.loop lp)) _ (a.eval f) [.yield nx] [.func (.yield (w.heap.size + 1)) #[] #[]] _ _ hr2 (hfv.ext st.ext)
      (.cons (.yield nx _ hl1) (.nil _)) e
    -- it is entered
    have henter : ∃ al, ∀ W : World, (invoke dd.target dd.args).run P W = .ok (.enter g al) W := by
      have h0 := hdd w
      generalize hav : a.eval f = av at hfv h0
      cases hfv with
      | func _ _ _ fv' cap' l1 _ l2 _ =>
        have : dd = { target := .fn (.func g) cap'.toArray, args := fv'.toArray ++ #[.func (.yield (w.heap.size + 1)) #[] #[]] } := by
          have h0 : Result.ok _ w = Result.ok dd w := h0
          injection h0 with h1
          exact h1.symm
        subst this
        exact ⟨_, fun W => run_enter hN hfn hfb _ W⟩
    obtain ⟨al, henter⟩ := henter
    rw [henter] at hnx
    refine ⟨w.heap.size + 1, [{ target := .collected w.heap.size, args := #[] }], (w.alloc (.deferred (some []))).alloc (.loop lp), dd, (w.alloc (.deferred (some []))).alloc (.loop lp), g, al, _, run_enterLoop_outer fid a.tmps ps asg body, ?_, fun _ _ => trivial, henter _,
      fun hh => (by cases hh), CallsIn.mono (F := Fence.wide) hnx fun en w3 he => ?_⟩
    · have hres : resolve a.eval (rangeCall f (w.heap.size + 1)) 0 = Deferred.ofValue (a.eval f) #[.func (.yield (w.heap.size + 1)) #[] #[]] := by simp [resolve, rangeCall, Act.eval]
      rw [hres]; exact hdd _
    · cases en with
      | outgrown => exact he.elim
      | panicked ch => obtain ⟨v', _, β', v, h', nx', _, _, _, hk⟩ := he; cases hk
      | returned v' =>
        obtain ⟨β', v, h', nx', q1, q2, q3, hk⟩ := he
        simp only [] at hk
        rw [Tr.getK_eq] at hk
        have hli := q2.ext _ _ hl1
        obtain ⟨sst, p, d', nt', t', ps', x', y', l, g0, g1, g2, g3, g4, g5, g6, g7, g8, g9, hk⟩ := withLoop_of q1 hli hk
        have hstate : isBusy sst = false := by
          cases hb : isBusy sst with
          | false => rfl
          | true => rw [hb] at hk; cases hk
        rw [hstate] at hk
        have hk : Tr.setK DH h' nx (.loop .exhausted p d' nt' t' ps' x' y') (fun h => endLoop p t h nx' kn kx) = true := hk
        rw [Tr.setK_eq] at hk
        have hnb : l.state ≠ .busy := fun hb => by rw [g2] at hb; rw [hb] at hstate; cases hstate
        have hend := run_endLoop (P := P) g1 hnb
        obtain ⟨q4, q5⟩ := loop_turn (l2 := { l with state := .exhausted }) (st2 := .exhausted) (p2 := p) q1 hli g0 g1 rfl g3 g4 g5 g6 g7 g8 g9
        have st' := (st.trans q2).trans q5
        -- the mark
        have hm1 : Marks s0 β1 (Tr.set DH h nx (.loop .ready none d nt t ps.toList asg body)) (nx + 1) ((w.alloc (.deferred (some []))).alloc (.loop lp)) ({ target := .collected w.heap.size, args := #[] } :: a.defers) := by
          have hl0 : ¬ Live β1 (Tr.set DH h nx (.loop .ready none d nt t ps.toList asg body)) (nx + 1) w.heap.size := by
            rintro ⟨B, i, hB, hBl, hBi, hBe⟩
            by_cases hBn : B = nx
            · subst hBn; rw [hl1] at hBi; cases hBi; simp at hBe
            · have hg : hget (Tr.set DH h nx (.loop .ready none d nt t ps.toList asg body)) B = hget h B := by
                show Tr.get DH _ B = _
                rw [Tr.get_set_lt DH h nx B _ hlt (by omega), if_neg hBn]
              rw [hg] at hBl
              obtain ⟨j, c1, c2, _⟩ := hr.obj B (by omega) hBl
              have : β1 B = some j := st.ext _ _ c1
              rw [hBi] at this; cases this
              omega
          · refine ⟨⟨w.heap.size, rfl, hs rfl, (by simp only [World.size_alloc]; omega), ?_, hl0, fun d' hd' he => ?_⟩, hm.step st⟩
            · show ((w.heap.push (.deferred (some []))).push (.loop lp))[w.heap.size]? = _
              rw [Array.getElem?_push, if_neg (by rw [Array.size_push]; omega), Array.getElem?_push, if_pos rfl]
            · have : ∀ {ds : List Deferred}, Marks s0 β h nx w ds → ∀ d' ∈ ds, d'.target ≠ .collected w.heap.size := by
                intro ds
                induction ds with
                | nil => intro _ d' hd'; cases hd'
                | cons x ds ih =>
                  rintro ⟨⟨b, c1, c2, c3, _⟩, c7⟩ d' hd' he
                  rcases List.mem_cons.1 hd' with rfl | hd'
                  · rw [c1] at he; cases he; omega
                  · exact ih c7 d' hd' he
              exact this hm d' hd' he
        have hmark := hm1.step (q2.trans q5)
        subst g3
        refine ⟨l.pending, _, hend, ?_⟩
        split
        · rename_i hp
          rw [hp] at hk
          exact hN' β' t _ nx' { a with defers := [{ target := .collected w.heap.size, args := #[] }] ++ a.defers } _ q4 (ht.ext st'.ext) hmark st' (by rw [hp]; exact hk)
        · rename_i c hp
          rw [hp] at hk
          have hc : c = .ret ∨ ∃ id, c = .exit id := by
            cases c <;> first | exact .inl rfl | exact .inr ⟨_, rfl⟩ | cases hk
          rcases hc with rfl | ⟨id, rfl⟩
          · exact wpIn_ret (hX.ret β' t _ nx' { a with defers := [{ target := .collected w.heap.size, args := #[] }] ++ a.defers } _ q4 (ht.ext st'.ext) hmark st' (by rw [hp]; exact hk))
          · exact wpIn_exit (hX.exit id β' t _ nx' { a with defers := [{ target := .collected w.heap.size, args := #[] }] ++ a.defers } _ q4 (ht.ext st'.ext) hmark st' (by rw [hp]; exact hk))

theorem codeD_ok (hmo : P.follows .mixedOrders = true) (hN : NamesOK P) (hC : CallOK P CALL) (c : Code) : drawsOk c = true → CodeOK P d nt rd (codeD P d nt CALL rd c) c := by
  induction c with
  | skip => intro _; exact cSkip_ok
  | region id ops draw => intro hd; exact cRegion_ok hmo hC (fun hh => by subst hh; simpa [drawsOk] using hd)
  | seq x y ihx ihy => intro hd; simp only [drawsOk, Bool.and_eq_true] at hd; exact (show CodeOK P d nt rd (cSeq (codeD P d nt CALL rd x) (codeD P d nt CALL rd y)) (.seq x y) from cSeq_ok (ihx hd.1) (ihy hd.2))
  | cond c x y ihx ihy => intro hd; simp only [drawsOk, Bool.and_eq_true] at hd; exact (show CodeOK P d nt rd (cCond d nt c (codeD P d nt CALL rd x) (codeD P d nt CALL rd y)) (.cond c x y) from cCond_ok (ihx hd.1) (ihy hd.2))
  | block id x ih => intro hd; exact (show CodeOK P d nt rd (cBlock id (codeD P d nt CALL rd x)) (.block id x) from cBlock_ok (ih hd))
  | loop x ih => intro hd; exact (show CodeOK P d nt rd (cLoop (codeD P d nt CALL rd x)) (.loop x) from cLoop_ok (ih hd))
  | rangeFunc f ps x y _ _ => intro hd; simp only [drawsOk, Bool.and_eq_true] at hd; exact cRange_ok hN hC hd.1 hd.2
  | exit id => intro _; exact cExit_ok
  | scope x ih => intro hd; exact (show CodeOK P d nt rd (codeD P d nt CALL rd x) (.scope x) from cScope_ok (ih hd))
  | label l => intro _; exact cLabel_ok
  | goto l => intro _ r Q s0 β h nx w t a kn kx hrd hs hr ht hm e; cases e
  | ret => intro _; exact cRet_ok
  | refuse s => intro _ r Q s0 β h nx w t a kn kx hrd hs hr ht hm e; cases e
end
end Am
