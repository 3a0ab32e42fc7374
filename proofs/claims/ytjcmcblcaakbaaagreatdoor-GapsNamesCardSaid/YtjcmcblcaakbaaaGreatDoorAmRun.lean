/- Operations with calls, and regions that keep their order: sound. -/
import Derived.Test.YtjcmcblcaakbaaaGreatDoorAmDet
import Derived.TacticsIn
set_option linter.unusedVariables false
set_option linter.unusedSimpArgs false
noncomputable section
namespace Am
open Go
variable {P : Program} {β : Beta} {h : HP} {nx : Nat} {w : World} {k kp : KV}

/-- the machine as wide as it is, within a round or not -/
def FR (r : Option Nat) : Fence := { Fence.wide with round := r }
def one (v : Value) : List PanicEntry := [{ v, recovered := false }]

def EndOK (β : Beta) (h : HP) (nx : Nat) (w : World) (k kp : KV) : Ending → World → Prop
  | .returned v', w' => OutV β h nx w k v' w'
  | .panicked chain, w' => ∃ v', chain = one v' ∧ OutV β h nx w kp v' w'
  | .outgrown, _ => False
def NextOK (P : Program) (β : Beta) (h : HP) (nx : Nat) (w : World) (k kp : KV) : Result Next → Prop
  | .ok (.value v') w' => OutV β h nx w k v' w'
  | .ok (.enter f args) w' => CallsIn Fence.wide 0 P f args w' (EndOK β h nx w k kp)
  | .ok (.round l f tmps a b) w' => RoundIn Fence.wide 0 P l f tmps a b w' (EndOK β h nx w k kp)
  | _ => False
/-- an evaluator of calls is sound -/
def CallOK (P : Program) (CALL : CALLT) : Prop := ∀ (β : Beta) (h : HP) (nx : Nat) (w : World) (f : AV) (f' : Value) (args : List AV) (args' : List Value) (k kp : KV),
  HRel β h nx w → VRel β f f' → LRel β args args' → CALL f args h nx k kp = true →
  ∃ dd, (∀ W : World, (Deferred.ofValue f' args'.toArray).run P W = .ok dd W) ∧ NextOK P β h nx w k kp ((invoke dd.target dd.args).run P w)

/-! ### deferred calls: marks alone -/
/-- no younger than that; none: no mark at all -/
def sle (s : Option Nat) (b : Nat) : Prop := ∃ x, s = some x ∧ x ≤ b
theorem sle.trans {s : Option Nat} {b c : Nat} (h : sle s b) (h2 : b ≤ c) : sle s c := let ⟨x, a, k⟩ := h; ⟨x, a, Nat.le_trans k h2⟩
def Marks (s0 : Option Nat) (β : Beta) (h : HP) (nx : Nat) (w : World) : List Deferred → Prop
  | [] => True
  | d :: ds => (∃ b, d.target = .collected b ∧ sle s0 b ∧ b < w.heap.size ∧ w.heap[b]? = some (.deferred (some [])) ∧ ¬ Live β h nx b ∧ ∀ d' ∈ ds, d'.target ≠ .collected b) ∧ Marks s0 β h nx w ds
theorem Own.live {b : Nat} (h1 : Own β h nx b) : Live β h nx b := let ⟨B, i, a, c, d, e⟩ := h1; ⟨B, i, a, AObj.live_of_own c, d, e⟩
theorem Marks.step {s0 : Option Nat} {β' : Beta} {h' : HP} {nx' : Nat} {w' : World} (st : Step β h nx w β' h' nx' w') : ∀ {ds : List Deferred}, Marks s0 β h nx w ds → Marks s0 β' h' nx' w' ds := by
  intro ds
  induction ds with
  | nil => intro _; trivial
  | cons d ds ih =>
    rintro ⟨⟨b, h1, h2, h3, h4, h5, h6⟩, hr⟩
    exact ⟨⟨b, h1, h2, Nat.lt_of_lt_of_le h3 st.size, (st.keep b h3 (fun ho => h5 ho.live)).trans h4, fun hl => h5 (st.lv b h3 hl), h6⟩, ih hr⟩

/-! ### one operation -/
section
variable {d nt : Nat} {t : TM} {a : Act} {CALL : CALLT} {r : Option Nat} {next : Act → World → Prop} {Q : Exit → Act → World → Prop}

theorem upon_of_next {o : Oper} {res : Result Next} (hx : NextOK P β h nx w k kp res)
    (hn : ∀ v' w', OutV β h nx w k v' w' → next (a.put o.dst v') w')
    (hp : ∀ v' w', OutV β h nx w kp v' w' → Q (.panic (one v')) a w') : o.uponIn (FR r) 0 P a next Q res := by
  have hE : ∀ e w'', EndOK β h nx w k kp e w'' → (match e, w'' with
      | .returned v, w'' => next (a.put o.dst v) w''
      | .panicked chain, w'' => Q (.panic chain) a w''
      | .outgrown, _ => LetsOut Q : Prop) := fun e w'' he => by
    cases e with
    | returned v => exact hn v w'' he
    | panicked chain => obtain ⟨v', rfl, ho⟩ := he; exact hp v' w'' ho
    | outgrown => exact he.elim
  cases res with
  | halt x w' => exact hx.elim
  | ok x w' =>
    cases x <;> first | exact hx.elim | skip
    case value v => exact hn v w' hx
    case enter f args => exact ⟨fun hh => (by cases hh), CallsIn.mono (F := Fence.wide) hx hE⟩
    case round l f tmps x y => exact ⟨fun hh => (by cases hh), RoundIn.mono (F := Fence.wide) hx hE⟩

theorem OpOK.upon {o : Oper} {s : Sem Next} (q : OpOK P s β h nx w k) (hn : ∀ v' w', OutV β h nx w k v' w' → next (a.put o.dst v') w') : o.uponIn (FR r) 0 P a next Q (s.run P w) := by
  obtain ⟨x, v', w', h1, h2, h3⟩ := q
  rw [h1]
  rcases h2 with rfl | ⟨rfl, rfl⟩
  · exact hn v' w' h3
  · exact hn undef w' h3

theorem wpIn_of_upon {o : Oper} (hd : ∀ c, o.op ≠ .defer c) (hu : o.uponIn (FR r) 0 P a next Q ((execOp a.eval o).run P w)) : o.wpIn (FR r) 0 P a w next Q :=
  ⟨fun _ _ => trivial, by rw [Oper.semAt_eq _ _ _ hd]; exact hu⟩

theorem plainOp {P : Program} {d nt : Nat} {CALL : CALLT} {op : Op} (h1 : ∀ c, op ≠ .call c) (h2 : ∀ x, op ≠ .panic x) : anyD P d nt CALL op = plainC (opDen P d nt op) := by
  cases op <;> first | rfl | exact absurd rfl (h1 _) | exact absurd rfl (h2 _)

theorem anyD_ok (hC : CallOK P CALL) {o : Oper} (hr : HRel β h nx w) (ht : TRel β d nt t a.tmps) (e : anyD P d nt CALL o.op t h nx k kp = true)
    (hn : ∀ v' w', OutV β h nx w k v' w' → next (a.put o.dst v') w')
    (hp : ∀ v' w', OutV β h nx w kp v' w' → Q (.panic (one v')) a w') : o.wpIn (FR r) 0 P a w next Q := by
  by_cases h1 : ∃ c, o.op = .call c
  · obtain ⟨c, hc⟩ := h1
    refine wpIn_of_upon (fun c' h' => by rw [hc] at h'; cases h') ?_
    obtain ⟨dst, op, ty, pos, after, g⟩ := o
    simp only at hc
    subst hc
    obtain ⟨callee, args, ats⟩ := c
    have e : callD P d nt CALL callee args.toList ats.toList t h nx k kp = true := e
    cases callee with
    | value f =>
      obtain ⟨fv, hf, e⟩ := evD_ok ht (show evD d nt f t (fun f => evList d nt args.toList t fun args => CALL f args h nx k kp) = true from e)
      obtain ⟨vs, hvs, e⟩ := evList_ok ht e
      obtain ⟨dd, hd1, hx⟩ := hC β h nx w fv _ vs _ k kp hr hf hvs e
      have e1 : (args.toList.map a.eval).toArray = args.map a.eval := by rw [← Array.toList_map, Array.toArray_toList]
      rw [e1] at hd1
      have hrun : (execOp a.eval ⟨dst, .call ⟨.value f, args, ats⟩, ty, pos, after, g⟩).run P w = (invoke dd.target dd.args).run P w := by
        simp [execOp, resolve, hd1 w, Result.andThen]
      rw [hrun]
      exact upon_of_next hx hn hp
    | builtin b =>
      obtain ⟨vs, hvs, e⟩ := evList_ok ht (show evList d nt args.toList t (fun args => builtinA P b ats.toList args h nx k) = true from e)
      have e1 : (args.toList.map a.eval).toArray = args.map a.eval := by rw [← Array.toList_map, Array.toArray_toList]
      have q := builtinA_ok (P := P) (ty := ty) (cs := args.map fun | .const _ => true | _ => false) hr hvs e
      rw [e1] at q
      have hrun : (execOp a.eval ⟨dst, .call ⟨.builtin b, args, ats⟩, ty, pos, after, g⟩).run P w = (builtin b ats ty (args.map fun | .const _ => true | _ => false) (args.map a.eval)).run P w := by
        rfl
      rw [hrun]
      exact q.upon hn
    | invoke x y => cases e
  · by_cases h2 : ∃ x, o.op = .panic x
    · obtain ⟨x, hx⟩ := h2
      refine wpIn_of_upon (fun c' h' => by rw [hx] at h'; cases h') ?_
      obtain ⟨dst, op, ty, pos, after, g⟩ := o
      simp only at hx
      subst hx
      obtain ⟨v, hv, e⟩ := evD_ok ht (show evD d nt x t (fun v => ifaceP v fun v => kp v h nx) = true from e)
      unfold ifaceP at e
      split at e
      · rename_i tt y
        cases hc : a.eval x <;> (rw [hc] at hv; cases hv)
        rename_i hv
        simp only [execOp, hc, Instr.panic, Sem.run_bind]
        refine hp (.iface tt _) w ⟨β, _, h, nx, hr, Step.refl .., ?_, e⟩
        exact .iface _ _ _ (by assumption)
      · cases e
    · have h1' : ∀ c, o.op ≠ .call c := fun c hc => h1 ⟨c, hc⟩
      have h2' : ∀ x, o.op ≠ .panic x := fun c hc => h2 ⟨c, hc⟩
      rw [plainOp h1' h2'] at e
      have e : opDen P d nt o.op t h nx k = true := e
      refine wpIn_of_upon (fun c hc => ?_) ((opDen_ok hr ht e).upon hn)
      rw [hc] at e; cases e

/-- what is put into a temporary -/
theorem putD_ok {dst : Option Nat} {v : AV} {v' : Value} {kk : TM → Bool} (ht : TRel β d nt t a.tmps) (hv : VRel β v v') (e : putD d nt dst v t kk = true) :
    ∃ t', TRel β d nt t' (a.put dst v').tmps ∧ (∀ i, dst = some i → i < nt) ∧ kk t' = true := by
  cases dst with
  | none => exact ⟨t, ht, fun i hi => (by cases hi), e⟩
  | some i =>
    obtain ⟨h1, h2⟩ := guard_of (show (Bool.rec (motive := fun _ => Bool) false (Tr.setK d t i v kk) (Nat.blt i nt)) = true from e)
    have hi : i < nt := by simpa [Nat.blt_eq] using h1
    rw [Tr.setK_eq] at h2
    refine ⟨_, ⟨by simp [Act.put, ht.1], ht.2.1, fun j hj => ?_⟩, fun j hj => (by cases hj; exact hi), h2⟩
    have hd := ht.2.1
    rw [Tr.get_set_lt d t i j v (by omega) (by omega)]
    have hsz := ht.1
    by_cases hji : j = i
    · subst hji
      rw [if_pos rfl]
      have : (a.put (some j) v').tmps.getD j undef = v' := by simp [Act.put, Array.getElem?_setIfInBounds_self_of_lt (show j < a.tmps.size by omega)]
      rw [this]; exact hv
    · rw [if_neg hji]
      have : (a.put (some i) v').tmps.getD j undef = a.tmps.getD j undef := by simp [Act.put, Array.getElem?_setIfInBounds_ne (Ne.symm hji)]
      rw [this]; exact ht.2.2 j hj

theorem wantB_ok {want : Bool} {v : AV} {v' : Value} {x y : Bool} (hv : VRel β v v') (e : wantB want v x y = true) :
    ∃ b, ((match v' with | .bool b => some b | _ => none : Option Bool) == some want) = b ∧ (bif b then x else y) = true := by
  cases hv <;> first | exact ⟨false, rfl, e⟩ | skip
  rename_i b
  have e : (Bool.rec (motive := fun _ => Bool) y x (b == want)) = true := e
  cases hb : (b == want) with
  | true => rw [hb] at e; exact ⟨true, by simpa using hb, e⟩
  | false => rw [hb] at e; exact ⟨false, by simpa using hb, e⟩

theorem yielded_of {ops : Array Oper} {i j : Nat} (ht : TRel β d nt t a.tmps) (hg : guardOf ops.toList j = some i) (hi : i < nt) :
    yielded ops a.tmps j = (match a.eval (.tmp i) with | .bool b => some b | _ => none) := by
  unfold guardOf at hg
  rw [Array.getElem?_toList] at hg
  unfold yielded
  have hsz := ht.1
  rw [hg]
  have h2 : a.tmps[i]? = some (a.tmps[i]'(by omega)) := Array.getElem?_eq_getElem (by omega)
  have h3 : a.eval (.tmp i) = a.tmps[i]'(by omega) := by simp [Act.eval, h2]
  rw [h3]
  simp only [Option.bind_some, h2]
  cases a.tmps[i]'(by omega) <;> rfl

theorem guard_ok {ops : Array Oper} {o : Oper} {j : Nat} {want : Bool} {x y : Bool} (ht : TRel β d nt t a.tmps) (hg : o.guard = some (j, want))
    (e : (Option.rec (motive := fun _ => Bool) false (fun i => evTmp d nt i t fun v => wantB want v x y) (guardOf ops.toList j)) = true) :
    ∃ b, Region.wanted o (yielded ops a.tmps) = b ∧ (bif b then x else y) = true := by
  obtain ⟨i, hgo, e⟩ := opt_of e
  obtain ⟨v, hi, _, hv, e⟩ := evTmp_ok ht e
  obtain ⟨b, hb, e⟩ := wantB_ok hv e
  refine ⟨b, ?_, e⟩
  rw [← hb]
  simp only [Region.wanted, hg, yielded_of ht hgo hi]

/-- an operation of a region, done or not -/
theorem operD_ok (hC : CallOK P CALL) {ops : Array Oper} {o : Oper} {kn : KC} {kx : KX} {K : Act → World → Prop} (hr : HRel β h nx w) (ht : TRel β d nt t a.tmps)
    (e : operD P d nt CALL ops.toList o t h nx kn kx = true)
    (hn : ∀ β' t' h' nx' v' w', HRel β' h' nx' w' → TRel β' d nt t' (a.put o.dst v').tmps → Step β h nx w β' h' nx' w' → kn t' h' nx' = true → K (a.put o.dst v') w')
    (hp : ∀ β' v v' h' nx' w', HRel β' h' nx' w' → VRel β' v v' → Step β h nx w β' h' nx' w' → kx (.panic v) noTmps h' nx' = true → Q (.panic (one v')) a w') :
    if Region.wanted o (yielded ops a.tmps) = true then o.wpIn (FR r) 0 P a w K Q else (∀ f, o.about P w a.eval = some f → (FR r).fn f) ∧ K (a.put o.dst undef) w := by
  have doIt : runOp d nt o.dst (anyD P d nt CALL o.op) t h nx kn kx = true → o.wpIn (FR r) 0 P a w K Q := fun e => by
    refine anyD_ok hC hr ht (show anyD P d nt CALL o.op t h nx (fun v h nx => putD d nt o.dst v t fun t => kn t h nx) (fun v h nx => kx (.panic v) noTmps h nx) = true from e) (fun v' w' ho => ?_) (fun v' w' ho => ?_)
    · obtain ⟨β', v, h', nx', h1, h2, h3, h4⟩ := ho
      obtain ⟨t', q1, _, q2⟩ := putD_ok (a := a) (ht.ext h2.ext) h3 h4
      exact hn β' t' h' nx' v' w' h1 q1 h2 q2
    · obtain ⟨β', v, h', nx', h1, h2, h3, h4⟩ := ho
      exact hp β' v v' h' nx' w' h1 h3 h2 h4
  obtain ⟨dst, op, ty, pos, after, g⟩ := o
  cases g with
  | none =>
    have hw : Region.wanted ⟨dst, op, ty, pos, after, none⟩ (yielded ops a.tmps) = true := rfl
    rw [if_pos hw]
    exact doIt e
  | some g =>
    obtain ⟨j, want⟩ := g
    obtain ⟨b, hb, e⟩ := guard_ok (ops := ops) (o := ⟨dst, op, ty, pos, after, some (j, want)⟩) ht rfl e
    cases b with
    | true => rw [if_pos hb]; exact doIt e
    | false =>
      rw [if_neg (by rw [hb]; simp)]
      refine ⟨fun _ _ => trivial, ?_⟩
      obtain ⟨t', q1, _, q2⟩ := putD_ok (a := a) ht (.tuple [] [] rfl (fun j a v hh => by simp at hh)) (show putD d nt dst undefA t (fun t => kn t h nx) = true from e)
      exact hn β t' h nx undef w hr q1 (Step.refl ..) q2

/-- an operation that makes one block, at a place that was kept for it -/
theorem opDenAt_ok {o : Oper} {x : Nat} (hm : makesOne o = true) (hr : HRel β h nx w) (ht : TRel β d nt t a.tmps) (hx0 : β x = none) (hxn : x < nx) (e : opDen P d nt o.op t h x (fun v h _ => k v h nx) = true) :
    OpOK P (execOp a.eval o) β h nx w k := by
  have hmax : max nx (x + 1) = nx := by omega
  have hout : ∀ v' w', OutAt β h nx x w (fun v h _ => k v h nx) v' w' → OutV β h nx w k v' w' := fun v' w' ho => by
    obtain ⟨β', v, h', q1, q2, q3, q4⟩ := ho
    rw [hmax] at q1 q2
    exact ⟨β', v, h', nx, q1, q2, q3, q4⟩
  obtain ⟨dst, op, ty, pos, after, g⟩ := o
  cases op <;> first | (exfalso; simp [makesOne] at hm; done) | skip
  case alloc ty2 =>
    obtain ⟨v', w', h1, h2⟩ := allocAt_ok (P := P) (d := d) (nt := nt) (t := t) hr hx0 (Nat.le_of_lt hxn) (show oAlloc P ty2 t h x (fun v h _ => k v h nx) = true from e)
    exact (SemOK.value (s := Instr.alloc ty2 true (.tuple #[])) ⟨v', w', h1, hout v' w' h2⟩)
  case makeSlice ty2 l c =>
    obtain ⟨u, hu, e⟩ := evD_ok ht (show evD d nt l t (fun u => evD d nt c t fun p => makeSliceA P ty2 u p h x (fun v h _ => k v h nx)) = true from e)
    obtain ⟨p, hp, e⟩ := evD_ok ht e
    obtain ⟨v', w', h1, h2⟩ := makeSliceAt_ok (P := P) hr hx0 (Nat.le_of_lt hxn) hu hp e
    exact (SemOK.value (s := Instr.makeSlice ty2 (a.eval l) (a.eval c)) ⟨v', w', h1, hout v' w' h2⟩)
theorem operAt_ok {ops : Array Oper} {o : Oper} {x : Nat} {kn : KC} {kx : KX} {K : Act → World → Prop} (hm : makesOne o = true) (hr : HRel β h nx w) (ht : TRel β d nt t a.tmps)
    (e : operAt P d nt x o t h nx kn kx = true)
    (hn : ∀ β' t' h' nx' v' w', HRel β' h' nx' w' → TRel β' d nt t' (a.put o.dst v').tmps → Step β h nx w β' h' nx' w' → kn t' h' nx' = true → K (a.put o.dst v') w') :
    if Region.wanted o (yielded ops a.tmps) = true then o.wpIn (FR r) 0 P a w K Q else (∀ f, o.about P w a.eval = some f → (FR r).fn f) ∧ K (a.put o.dst undef) w := by
  unfold operAt at e
  rw [Tr.getK_eq] at e
  obtain ⟨hg, e⟩ := guard_of e
  simp only [Bool.and_eq_true] at hg
  have hxn : x < nx := by simpa [Nat.blt_eq] using hg.2
  have hx0 : β x = none := hr.hole x hxn (by
    have h1 : isHole (hget h x) = true := hg.1
    cases ho : hget h x <;> rw [ho] at h1 <;> first | rfl | cases h1)
  have hgn : o.guard = none := by
    unfold makesOne at hm
    simp only [Bool.and_eq_true, Option.isNone_iff_eq_none] at hm
    exact hm.1
  have hw : Region.wanted o (yielded ops a.tmps) = true := by simp [Region.wanted, hgn]
  rw [if_pos hw]
  have hq := opDenAt_ok (k := fun v h nx => putD d nt o.dst v t fun t => kn t h nx) hm hr ht hx0 hxn e
  refine wpIn_of_upon (fun c hc => ?_) (hq.upon fun v' w' ho => ?_)
  · exfalso; unfold makesOne at hm; rw [hc] at hm; simp at hm
  · obtain ⟨β', v, h', nx', h1, h2, h3, h4⟩ := ho
    obtain ⟨t', q1, _, q2⟩ := putD_ok (a := a) (ht.ext h2.ext) h3 h4
    exact hn β' t' h' nx' v' w' h1 q1 h2 q2

/-- places kept free -/
theorem HRel.keepOne (hr : HRel β h nx w) (hn : nx < 2 ^ DH) : HRel β (Tr.set DH h nx .hole) (nx + 1) w ∧ Step β h nx w β (Tr.set DH h nx .hole) (nx + 1) w := by
  have hg : ∀ b, b < nx + 1 → hget (Tr.set DH h nx .hole) b = if b = nx then .hole else hget h b := fun b hb => Tr.get_set_lt DH h nx b .hole hn (by omega)
  refine ⟨⟨fun b i hb => Nat.lt_succ_of_lt (hr.lt b i hb), hn, fun b hb hl => ?_, fun b b' i i' hb hb' hl hl' => ?_, fun b hb hh => ?_⟩, ⟨Ext.refl β, Nat.le_refl _, fun _ _ _ => rfl, ?_, ?_, rfl, rfl⟩⟩
  · rw [hg b hb] at hl ⊢
    by_cases e : b = nx
    · rw [if_pos e] at hl; cases hl
    · rw [if_neg e] at hl ⊢; exact hr.obj b (by omega) hl
  · rw [hg b hb] at hl
    rw [hg b' hb'] at hl'
    by_cases e : b = nx
    · rw [if_pos e] at hl; cases hl
    · by_cases e' : b' = nx
      · rw [if_pos e'] at hl'; cases hl'
      · rw [if_neg e] at hl; rw [if_neg e'] at hl'
        exact hr.inj b b' i i' (by omega) (by omega) hl hl'
  · by_cases e : b = nx
    · subst e; exact hr.none_at
    · rw [hg b hb, if_neg e] at hh; exact hr.hole b (by omega) hh
  · rintro b hb ⟨B, i, hB, hl, hi, rfl⟩
    rw [hg B hB] at hl
    by_cases e : B = nx
    · rw [if_pos e] at hl; cases hl
    · rw [if_neg e] at hl; exact ⟨B, i, by omega, hl, hi, rfl⟩
  · rintro b hb ⟨B, i, hB, hl, hi, rfl⟩
    rw [hg B hB] at hl
    by_cases e : B = nx
    · rw [if_pos e] at hl; cases hl
    · rw [if_neg e] at hl; exact ⟨B, i, by omega, hl, hi, rfl⟩
theorem holesK_ok : ∀ {n : Nat} {h : HP} {nx : Nat} {kk : HP → Nat → Bool}, HRel β h nx w → holesK n h nx kk = true → ∃ h' nx', HRel β h' nx' w ∧ Step β h nx w β h' nx' w ∧ kk h' nx' = true := by
  intro n
  induction n with
  | zero => intro h nx kk hr e; exact ⟨h, nx, hr, Step.refl .., e⟩
  | succ n ih =>
    intro h nx kk hr e
    have e : allocK h nx .hole (fun _ h nx => holesK n h nx kk) = true := e
    simp only [allocK, forceNat_eq] at e
    obtain ⟨hlt, e⟩ := guard_of e
    rw [Tr.setK_eq] at e
    have hlt : nx < 2 ^ DH := by simpa [Nat.blt_eq] using hlt
    obtain ⟨q1, q2⟩ := hr.keepOne hlt
    obtain ⟨h', nx', p1, p2, p3⟩ := ih q1 e
    exact ⟨h', nx', p1, q2.trans p2, p3⟩

/-! ### what is known behind code -/
def PostN (s0 : Option Nat) (d nt : Nat) (β : Beta) (h : HP) (nx : Nat) (w : World) (kn : KC) (K : Act → World → Prop) : Prop :=
  ∀ β' t' h' nx' a' w', HRel β' h' nx' w' → TRel β' d nt t' a'.tmps → Marks s0 β' h' nx' w' a'.defers → Step β h nx w β' h' nx' w' → kn t' h' nx' = true → K a' w'
def PostP (s0 : Option Nat) (β : Beta) (h : HP) (nx : Nat) (w : World) (kx : KX) (Q : Exit → Act → World → Prop) : Prop :=
  ∀ β' v v' h' nx' a' w', HRel β' h' nx' w' → VRel β' v v' → Marks s0 β' h' nx' w' a'.defers → Step β h nx w β' h' nx' w' → kx (.panic v) noTmps h' nx' = true → Q (.panic (one v')) a' w'
structure PostX (s0 : Option Nat) (d nt : Nat) (β : Beta) (h : HP) (nx : Nat) (w : World) (kx : KX) (Q : Exit → Act → World → Prop) : Prop where
  exit : ∀ id, PostN s0 d nt β h nx w (kx (.exit id)) (Q (.exit id))
  ret : PostN s0 d nt β h nx w (kx .ret) (Q .ret)
  panic : PostP s0 β h nx w kx Q
theorem PostN.step {s0 : Option Nat} {kn : KC} {K : Act → World → Prop} {β1 : Beta} {h1 : HP} {nx1 : Nat} {w1 : World} (p : PostN s0 d nt β h nx w kn K) (st : Step β h nx w β1 h1 nx1 w1) : PostN s0 d nt β1 h1 nx1 w1 kn K :=
  fun β' t' h' nx' a' w' q1 q2 q3 q4 q5 => p β' t' h' nx' a' w' q1 q2 q3 (st.trans q4) q5
theorem PostP.step {s0 : Option Nat} {kx : KX} {β1 : Beta} {h1 : HP} {nx1 : Nat} {w1 : World} (p : PostP s0 β h nx w kx Q) (st : Step β h nx w β1 h1 nx1 w1) : PostP s0 β1 h1 nx1 w1 kx Q :=
  fun β' v v' h' nx' a' w' q1 q2 q3 q4 q5 => p β' v v' h' nx' a' w' q1 q2 q3 (st.trans q4) q5
theorem PostX.step {s0 : Option Nat} {kx : KX} {β1 : Beta} {h1 : HP} {nx1 : Nat} {w1 : World} (p : PostX s0 d nt β h nx w kx Q) (st : Step β h nx w β1 h1 nx1 w1) : PostX s0 d nt β1 h1 nx1 w1 kx Q :=
  ⟨fun id => (p.exit id).step st, p.ret.step st, p.panic.step st⟩

theorem put_defers' (a : Act) (dst : Option Nat) (v : Value) : (a.put dst v).defers = a.defers := by cases dst <;> rfl

theorem opsD_ok (hC : CallOK P CALL) {s0 : Option Nat} {ops : Array Oper} {kn : KC} {kx : KX} : ∀ {l : List Oper} {β : Beta} {h : HP} {nx : Nat} {w : World} {t : TM} {a : Act},
    HRel β h nx w → TRel β d nt t a.tmps → Marks s0 β h nx w a.defers → opsD P d nt CALL ops.toList l t h nx kn kx = true →
    PostN s0 d nt β h nx w kn (Q .normal) → PostP s0 β h nx w kx Q → wpListIn (FR r) 0 P ops Q l a w := by
  intro l
  induction l with
  | nil => intro β h nx w t a hr ht hm e hN hX; exact hN β t h nx a w hr ht hm (Step.refl ..) e
  | cons o l ih =>
    intro β h nx w t a hr ht hm e hN hX
    have e : operD P d nt CALL ops.toList o t h nx (fun t h nx => opsD P d nt CALL ops.toList l t h nx kn kx) kx = true := e
    unfold wpListIn
    refine operD_ok hC hr ht e (fun β' t' h' nx' v' w' q1 q2 q3 q4 => ?_) (fun β' v v' h' nx' w' q1 q2 q3 q4 => ?_)
    · exact ih q1 q2 (by rw [put_defers']; exact hm.step q3) q4 (hN.step q3) (hX.step q3)
    · exact hX β' v v' h' nx' a w' q1 q2 (hm.step q3) q3 q4
end
end Am
