/- From evaluations to contracts; functions told of by a table of what they answer. -/
import Derived.Test.YtjcmcblcaakbaaaGreatDoorAmFits
import Derived.Laws.Externs
set_option linter.unusedVariables false
set_option linter.unusedSimpArgs false
noncomputable section
namespace Am
open Go
variable {P : Program} {β : Beta} {h : HP} {nx : Nat} {w : World}

def noBeta : Beta := fun _ => none
def noHeap : HP := .leaf .dead
theorem HRel.empty (w : World) : HRel noBeta noHeap 0 w := ⟨fun b i hh => (by cases hh), Nat.zero_le _, fun b hb => (by omega), fun b b' i i' hb => (by omega), fun b hb => (by omega)⟩
theorem not_own_empty (b : Nat) : ¬ Own noBeta noHeap 0 b := fun ⟨B, i, hB, _⟩ => by omega
/-- a world that has only grown -/
theorem HRel.grow {w' : World} (hr : HRel β h nx w) (hs : w.heap.size ≤ w'.heap.size) (hk : ∀ b, b < w.heap.size → w'.heap[b]? = w.heap[b]?)  (hos : w'.os = w.os) (hout : w'.output = w.output) : HRel β h nx w' ∧ Step β h nx w β h nx w' := by
  refine ⟨⟨hr.lt, hr.le, fun b hb hl => ?_, hr.inj, hr.hole⟩, ⟨Ext.refl β, hs, fun b hb _ => hk b hb, fun _ _ h => h, fun _ _ h => h, hos, hout⟩⟩
  obtain ⟨i, h1, h2, h3⟩ := hr.obj b hb hl
  exact ⟨i, h1, Nat.lt_of_lt_of_le h2 hs, h3.ext (Ext.refl β) (fun _ => hk _ h2)⟩

section
variable {SPEC : Nat → Option (CALLT → List AV → HP → Nat → KV → KV → Bool)}
theorem calls_of {CALL : CALLT} (hN : NamesOK P) (hC : CallOK P CALL) {f : Nat} {fn : Func} (hf : P.funcs[f]? = some fn) (hb : fn.body.isSome = true)
    {args : List AV} {args' : List Value} {k kp : KV} (hr : HRel β h nx w) (hl : LRel β args args') (e : CALL (.func f [] []) args h nx k kp = true) :
    CallsIn Fence.wide 0 P f args'.toArray w (EndOK β h nx w k kp) := by
  obtain ⟨dd, hdd, hnx⟩ := hC β h nx w (.func f [] []) (.func (.func f) #[] #[]) args args' k kp hr (.func f [] [] [] [] rfl (fun j a v h => by simp at h) rfl (fun j a v h => by simp at h)) hl e
  have hd : dd = { target := .fn (.func f) #[], args := #[] ++ args'.toArray } := by
    have h0 : Result.ok _ w = Result.ok dd w := hdd w
    injection h0 with h1
    exact h1.symm
  subst hd
  have hrun : (invoke (.fn (.func f) #[]) (#[] ++ args'.toArray)).run P w = .ok (.enter f args'.toArray) w := by
    have := run_enter hN hf hb (#[] ++ args'.toArray ++ #[]) w
    rw [show (#[] ++ args'.toArray ++ #[] : Array Value) = args'.toArray by simp] at this
    have h2 : invoke (.fn (.func f) #[]) (#[] ++ args'.toArray) = callFunc f (#[] ++ args'.toArray ++ #[]) := rfl
    rw [h2, show (#[] ++ args'.toArray ++ #[] : Array Value) = args'.toArray by simp]
    exact this
  rw [hrun] at hnx
  exact hnx

/-- a world that has only grown keeps all that it had -/
theorem kept_of {w' : World} (hos : w'.os = w.os) (hout : w'.output = w.output) (hk : ∀ b, b < w.heap.size → w'.heap[b]? = w.heap[b]?) : w.keptBut w' (fun _ => False) := by
  refine ⟨hos, hout, fun i hi => ?_⟩
  rw [hk i hi]
  cases ho : w.heap[i]? with
  | none => simp at ho; omega
  | some o => cases o <;> simp
/-- what a function of strings answers, by a table -/
def lookT (tab : List (List Nat × List Nat)) (s : List Nat) : Option (List Nat) :=
  List.rec (motive := fun _ => Option (List Nat)) none (fun p _ ih => Bool.rec ih (some p.2) (natsEq s p.1)) tab
def tableD (tab : List (List Nat × List Nat)) (CALL : CALLT) (args : List AV) (h : HP) (nx : Nat) (k kp : KV) : Bool :=
  match args with
  | [.str s] => Option.rec (motive := fun _ => Bool) false (fun r => k (.str r) h nx) (lookT tab s)
  | _ => false
def isStr (s : List Nat) : KV := fun v _ _ => match v with | .str t => natsEq t s | _ => false
def noP : KV := fun _ _ _ => false
theorem lookT_mem {tab : List (List Nat × List Nat)} {s r : List Nat} (e : lookT tab s = some r) : (s, r) ∈ tab := by
  induction tab with
  | nil => cases e
  | cons p tab ih =>
    have e : (Bool.rec (motive := fun _ => Option (List Nat)) (lookT tab s) (some p.2) (natsEq s p.1)) = some r := e
    cases hp : natsEq s p.1 with
    | true =>
      rw [hp] at e; cases e
      rw [natsEq_eq] at hp
      have := eq_of_beq hp
      subst this
      exact List.mem_cons_self ..
    | false => rw [hp] at e; exact List.mem_cons_of_mem _ (ih e)

/-- a table is right if each of its rows is an evaluation's answer, begun on an empty heap -/
theorem tableD_ok {CALL0 : CALLT} (hN : NamesOK P) (hC0 : CallOK P CALL0) {f : Nat} {fn : Func} (hf : P.funcs[f]? = some fn) (hb : fn.body.isSome = true) {tab : List (List Nat × List Nat)}
    (htab : ∀ p ∈ tab, CALL0 (.func f [] []) [.str p.1] noHeap 0 (isStr p.2) noP = true) {CALL : CALLT}
    {args : List AV} {args' : List Value} {k kp : KV} (hr : HRel β h nx w) (hl : LRel β args args') (e : tableD tab CALL args h nx k kp = true) : NextOK P β h nx w k kp ((callFunc f args'.toArray).run P w) := by
  unfold tableD at e
  split at e
  · rename_i s
    obtain ⟨r, hr1, e⟩ := opt_of e
    obtain ⟨s', rfl, hs⟩ := hl.one
    have hs0 : VRel noBeta (.str s) s' := by cases hs with | str _ x hx => exact .str _ x hx
    have hc := calls_of hN hC0 hf hb (HRel.empty w) (.cons hs0 (.nil _)) (htab _ (lookT_mem hr1))
    rw [run_enter hN hf hb]
    refine CallsIn.mono (F := Fence.wide) hc fun en w' he => ?_
    cases en with
    | outgrown => exact he
    | panicked ch => obtain ⟨_, _, _, _, _, _, _, _, _, hk⟩ := he; cases hk
    | returned v' =>
      obtain ⟨β', v, h', nx', q1, q2, q3, hk⟩ := he
      obtain ⟨g1, g2⟩ := hr.grow q2.size (fun b hb => q2.keep b hb (not_own_empty b)) q2.os q2.out
      refine ⟨β, .str r, h, nx, g1, g2, ?_, e⟩
      cases v <;> first | (cases hk; done) | skip
      rename_i u
      have hk : natsEq u r = true := hk
      rw [natsEq_eq] at hk
      have := eq_of_beq hk
      subst this
      cases q3 with | str l x hx => exact .str _ x hx
  · cases e

theorem add64D_ok {f : Nat} (hE : ∀ (args : Array Value) (W : World), (callFunc f args).run P W = ((add64Entry args).run P W).andThen fun v w' => .ok (.value v) w') {CALL : CALLT}
    {args : List AV} {args' : List Value} {k kp : KV} (hr : HRel β h nx w) (hl : LRel β args args') (e : add64D CALL args h nx k kp = true) : NextOK P β h nx w k kp ((callFunc f args'.toArray).run P w) := by
  unfold add64D at e
  split at e
  · rename_i x y c
    obtain ⟨hc, e⟩ := guard_of e
    simp only [forceNat_eq] at e
    obtain ⟨x', l1, rfl, hx, hl1⟩ := hl.cons_inv
    obtain ⟨y', c', rfl, hy, hcv⟩ := hl1.two
    cases hx; cases hy; cases hcv
    rw [hE]
    have hrun := run_add64 (P := P) (Int.ofNat x) (Int.ofNat y) (Int.ofNat c) (by simp) (by simp) (by simp) (by have := Nat.le_of_ble_eq_true hc; simp; omega) w
    rw [hrun]
    refine ⟨β, _, h, nx, hr, Step.refl .., ?_, e⟩
    exact VRel.tuple _ [.int .u64 ((Int.ofNat x + Int.ofNat y + Int.ofNat c) % 18446744073709551616), .int .u64 ((Int.ofNat x + Int.ofNat y + Int.ofNat c) / 18446744073709551616)] rfl
      (LRel.cons (show VRel β (.int .u64 (.ofNat ((x + y + c) % 2 ^ 64))) _ from .int _ _) (.cons (show VRel β (.int .u64 (.ofNat ((x + y + c) / 2 ^ 64))) _ from .int _ _) (.nil β))).2
  · cases e
end

/-! ### the functions told of, in a list -/
abbrev FunT := CALLT → List AV → HP → Nat → KV → KV → Bool
def specL (l : List (Nat × FunT)) (f : Nat) : Option FunT :=
  List.rec (motive := fun _ => Option FunT) none (fun p _ ih => Bool.rec ih (some p.2) (Nat.beq f p.1)) l
def FunOK (P : Program) (f : Nat) (G : FunT) : Prop := ∀ (CALL : CALLT), CallOK P CALL →
  ∀ (β : Beta) (h : HP) (nx : Nat) (w : World) (args : List AV) (args' : List Value) (k kp : KV), HRel β h nx w → LRel β args args' → G CALL args h nx k kp = true → NextOK P β h nx w k kp ((callFunc f args'.toArray).run P w)
def AllOK (P : Program) (l : List (Nat × FunT)) : Prop := ∀ p ∈ l, FunOK P p.1 p.2
theorem AllOK.nil : AllOK P [] := fun p hp => by cases hp
theorem AllOK.cons {f : Nat} {G : FunT} {l : List (Nat × FunT)} (h : FunOK P f G) (hl : AllOK P l) : AllOK P ((f, G) :: l) := fun p hp => by
  rcases List.mem_cons.1 hp with rfl | hp
  · exact h
  · exact hl p hp
theorem specL_mem {l : List (Nat × FunT)} {f : Nat} {G : FunT} (e : specL l f = some G) : (f, G) ∈ l := by
  induction l with
  | nil => cases e
  | cons p l ih =>
    have e : (Bool.rec (motive := fun _ => Option FunT) (specL l f) (some p.2) (Nat.beq f p.1)) = some G := e
    cases hp : Nat.beq f p.1 with
    | true =>
      rw [hp] at e
      have h1 : p.2 = G := Option.some.inj e
      have := Nat.eq_of_beq_eq_true hp
      subst this
      subst h1
      exact List.mem_cons_self ..
    | false => rw [hp] at e; exact List.mem_cons_of_mem _ (ih e)
theorem AllOK.spec {l : List (Nat × FunT)} (h : AllOK P l) : SpecOK P (specL l) := fun f G CALL hs hC => h _ (specL_mem hs) CALL hC
theorem tableFun {CALL0 : CALLT} (hN : NamesOK P) (hC0 : CallOK P CALL0) {f : Nat} {fn : Func} (hf : P.funcs[f]? = some fn) (hb : fn.body.isSome = true) {tab : List (List Nat × List Nat)}
    (htab : ∀ p ∈ tab, CALL0 (.func f [] []) [.str p.1] noHeap 0 (isStr p.2) noP = true) : FunOK P f (tableD tab) := fun CALL hC β h nx w args args' k kp hr hl e => tableD_ok hN hC0 hf hb htab hr hl e
theorem add64Fun {f : Nat} (hE : ∀ (args : Array Value) (W : World), (callFunc f args).run P W = ((add64Entry args).run P W).andThen fun v w' => .ok (.value v) w') : FunOK P f add64D :=
  fun CALL hC β h nx w args args' k kp hr hl e => add64D_ok hE hr hl e
theorem fitsFun {tB t1 g gnt : Nat} {rest : Code} (hmo : P.follows .mixedOrders = true) (hN : NamesOK P) {f : Nat} {fn gn : Func} {tI i i0 i1 i2 i3 y0 y1 y2 y3 y4 y5 : Nat} {pg p0 p1 p2 p3 p4 p5 : String}
    (hf : P.funcs[f]? = some fn) (hfb : fn.body = some (fitsC tB t1 g p0 p1 p2 p3 p4 p5 y0 y1 y2 y3 y4 y5 i0 i1 i2 i3)) (hfr : fn.results = #[.cell 2 tB]) (hfn : fn.ntmps = 6)
    (hg : P.funcs[g]? = some gn) (hgb : gn.body = some (recC tI pg i rest)) (hgr : gn.results = #[]) (hgn : gn.ntmps = gnt) (h4 : 4 < gnt) (hdr : drawsOk rest = true) : FunOK P f (fitsD P tB gnt rest) :=
  fun CALL hC β h nx w args args' k kp hr hl e => fits_ok hmo hN hf hfb hfr hfn hg hgb hgr hgn h4 hdr hC hr hl e

/-! ### facts on the functions of a program -/
def namesB (P : Program) : Bool := P.funcs.toList.all fun fn => !fn.body.isSome || !(fn.name == "runtime.NumGoroutine")
def drawsB (P : Program) : Bool := P.funcs.toList.all fun fn => match fn.body with | some c => drawsOk c | none => true
theorem names_of (h : namesB P = true) : NamesOK P := by
  intro f fn hf hb
  unfold namesB at h
  rw [List.all_eq_true] at h
  have := h fn (by simpa using Array.mem_of_getElem? hf)
  rw [hb] at this
  simpa using this
theorem draws_of (h : drawsB P = true) : DrawsOK P := by
  intro f fn c hf hb
  unfold drawsB at h
  rw [List.all_eq_true] at h
  have := h fn (by simpa using Array.mem_of_getElem? hf)
  rw [hb] at this
  exact this
end Am
