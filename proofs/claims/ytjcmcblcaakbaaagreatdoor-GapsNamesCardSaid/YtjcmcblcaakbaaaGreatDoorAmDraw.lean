/- Regions that draw their order: sound, in whatever order. -/
import Derived.Test.YtjcmcblcaakbaaaGreatDoorAmRun
import Derived.OrdersIn
set_option linter.unusedVariables false
set_option linter.unusedSimpArgs false
noncomputable section
namespace Am
open Go
variable {P : Program} {ops : Array Oper} {T : Anc} {Q : Exit → Act → World → Prop} {r : Option Nat}

structure DrawH (ops : Array Oper) (T : Anc) : Prop where
  sel : ∀ (j : Nat) (o : Oper) cs b, ops[j]? = some o → o.op ≠ .select cs b
  dfr : ∀ (j : Nat) (o : Oper) c, ops[j]? = some o → o.op ≠ .defer c
  anc : ∀ j, j < ops.size → ∀ x ∈ ancOf T j, x ∈ predsAt ops j ∨ ∃ p ∈ predsAt ops j, x ∈ ancOf T p
  apart : ∀ (i j : Nat) (oi oj : Oper), ops[i]? = some oi → ops[j]? = some oj → isQuiet oi.op = true → i ≠ j → unordT T i j = true → oi.apart ops oj = true
  held : ∀ (i k : Nat) (oi ok : Oper), ops[i]? = some oi → ops[k]? = some ok → heldB ops T i = true → (i ≠ k → noSame oi ok = true) ∧ (heldB ops T k = true → i ∉ ancOf T k → noHit ops oi ok = true)

theorem atO_of {i : Nat} {o : Oper} {f : Oper → Bool} (h : ops[i]? = some o) : atO ops i f = f o := by simp [atO, h]
theorem drawH_of (h : drawOk ops = true) : DrawH ops (ancTab ops (orderOf ops)) ∧ psz (plan ops) ≤ ops.size ∧ okPlan ops (ancTab ops (orderOf ops)) (plan ops) true (Array.replicate ops.size false) [] = true := by
  unfold drawOk drawOkT at h
  generalize ancTab ops (orderOf ops) = T at *
  simp only [Bool.and_eq_true] at h
  obtain ⟨⟨⟨⟨⟨h0, h1⟩, h2⟩, h3⟩, h4⟩, h5⟩ := h
  refine ⟨⟨?_, ?_, ?_, ?_, ?_⟩, Nat.le_of_ble_eq_true h4, h5⟩
  · simp only [okS0, Bool.and_eq_true] at h0
    exact fun j o cs b hj => Region.noSelect_spec h0.1 j o cs b hj
  · simp only [okS0, Bool.and_eq_true, List.all_eq_true] at h0
    intro j o c hj hd
    have := h0.2 o (by simpa using Array.mem_of_getElem? hj)
    rw [hd] at this
    simp [isDefer] at this
  · intro j hj x hx
    simp only [okS1, List.all_eq_true, List.mem_range, Bool.or_eq_true, List.any_eq_true, List.contains_iff_mem] at h1
    exact h1 j hj x hx
  · intro i j oi oj hi hj hq hne hu
    simp only [okS2, List.all_eq_true, List.mem_range, Bool.or_eq_true, Bool.not_eq_true', Nat.beq_eq_true_eq] at h2
    have hil := (Array.getElem?_eq_some_iff.1 hi).1
    have hjl := (Array.getElem?_eq_some_iff.1 hj).1
    rcases h2 i hil with h | h
    · rw [quietAt, atO_of hi, hq] at h; cases h
    · rcases h j hjl with (h | h) | h
      · exact absurd (Nat.eq_of_beq_eq_true h) hne
      · rw [hu] at h; cases h
      · rwa [atO_of hi, atO_of hj] at h
  · intro i k oi ok hi hk hh
    simp only [okS3, List.all_eq_true, List.mem_range, Bool.or_eq_true, Bool.and_eq_true, Bool.not_eq_true', Nat.beq_eq_true_eq, List.contains_iff_mem] at h3
    have hil := (Array.getElem?_eq_some_iff.1 hi).1
    have hkl := (Array.getElem?_eq_some_iff.1 hk).1
    rcases h3 i hil with h | h
    · rw [hh] at h; cases h
    · obtain ⟨g1, g2⟩ := h k hkl
      refine ⟨fun hne => ?_, fun hhk hna => ?_⟩
      · rcases g1 with g | g
        · exact absurd (Nat.eq_of_beq_eq_true g) hne
        · rwa [atO_of hi, atO_of hk] at g
      · rcases g2 with (g | g) | g
        · rw [hhk] at g; cases g
        · exact absurd g hna
        · rwa [atO_of hi, atO_of hk] at g

theorem noHit_spec {x y : Oper} (h : noHit ops x y = true) : ∀ d, x.dst = some d → d ∉ y.looksAt ops := by
  intro d hd
  simp [noHit, hd] at h
  exact h
theorem noSame_spec {x y : Oper} (h : noSame x y = true) : ∀ d, x.dst = some d → y.dst ≠ some d := by
  intro d hd
  simp [noSame, hd] at h
  exact h

/-- operation i, done here, yields v -/
def Val (P : Program) (ops : Array Oper) (i : Nat) (v : Value) (a : Act) (w : World) : Prop :=
  ∃ o, ops[i]? = some o ∧ ∃ v', ((Region.wanted o (yielded ops a.tmps) = true ∧ (execOp a.eval o).run P w = .ok (.value v') w) ∨ (Region.wanted o (yielded ops a.tmps) = false ∧ v' = undef)) ∧ (o.dst = none ∨ v' = v)

theorem Val.put (H : DrawH ops T) {i : Nat} {o : Oper} {v : Value} {a : Act} {w : World} {dst : Option Tmp} {u : Value} (hi : ops[i]? = some o) (hd : ∀ d, dst = some d → d ∉ o.looksAt ops) :
    Val P ops i v (a.put dst u) w ↔ Val P ops i v a w := by
  have e1 := execOp_put (ops := ops) o (fun cs b => H.sel i o cs b hi) a dst u hd
  have e2 := wanted_put (ops := ops) o a dst u hd
  constructor
  · rintro ⟨o', ho', h⟩
    rw [hi] at ho'; cases ho'
    rw [e1, e2] at h
    exact ⟨o, hi, h⟩
  · rintro ⟨o', ho', h⟩
    rw [hi] at ho'; cases ho'
    refine ⟨o, hi, ?_⟩
    rw [e1, e2]
    exact h

theorem Val.done (H : DrawH ops T) {i : Nat} {o : Oper} {v : Value} {a : Act} {w : World} {K : Act → World → Prop} (hi : ops[i]? = some o) (hv : Val P ops i v a w) (hk : K (a.put o.dst v) w) :
    wpOpIn (FR r) 0 P ops Q i K a w := by
  obtain ⟨o', ho', v', h, hd⟩ := hv
  rw [hi] at ho'; cases ho'
  have hk' : K (a.put o.dst v') w := by
    rcases hd with hd | rfl
    · rw [hd] at hk ⊢; exact hk
    · exact hk
  unfold wpOpIn
  simp only [hi]
  rcases h with ⟨hw, hrun⟩ | ⟨hw, rfl⟩
  · rw [if_pos hw]
    refine wpIn_of_upon (fun c => H.dfr i o c hi) ?_
    rw [hrun]; exact hk'
  · rw [if_neg (by rw [hw]; simp)]
    exact ⟨fun _ _ => trivial, hk'⟩

/-- an operation behind a value that was put, with nothing between them in common -/
theorem wpOpIn_put' (H : DrawH ops T) (hQ : ∀ c (a : Act) dst v w, Q (.panic c) (a.put dst v) w → Q (.panic c) a w) {i j : Nat} {oi oj : Oper} {v : Value} {K : Act → World → Prop} {a : Act} {w : World}
    (hi : ops[i]? = some oi) (hj : ops[j]? = some oj) (hap : oi.apart ops oj = true) (h : wpOpIn (FR r) 0 P ops Q j K (a.put oi.dst v) w) :
    wpOpIn (FR r) 0 P ops Q j (fun a' w' => (∃ u ds, a' = ({ a with defers := ds } : Act).put oj.dst u) ∧ K (a'.put oi.dst v) w') a w := by
  obtain ⟨h1, h2, h3⟩ := Oper.apart_spec hap
  unfold wpOpIn at *
  simp only [hj] at h ⊢
  rw [wanted_put oj a oi.dst v h1] at h
  split
  · rename_i hw
    rw [if_pos hw] at h
    refine wpIn_of_upon (fun c => H.dfr j oj c hj) ?_
    have h := h.2
    rw [Oper.semAt_eq _ _ _ (fun c => H.dfr j oj c hj), execOp_put oj (fun cs b => H.sel j oj cs b hj) a oi.dst v h1] at h
    generalize hres : (execOp a.eval oj).run P w = res at *
    cases res with
    | ok x w' =>
      cases x <;> simp only [Oper.uponIn] at h ⊢
      case value u => exact ⟨⟨u, a.defers, rfl⟩, by rw [← Act.put_comm a v u h2]; exact h⟩
      case skip => exact ⟨⟨undef, a.defers, rfl⟩, by rw [← Act.put_comm a v undef h2]; exact h⟩
      case defer d =>
        refine ⟨⟨undef, d :: a.defers, rfl⟩, ?_⟩
        rw [← Act.put_comm _ v undef h2, ← Act.put_defers]
        exact h
      case enter f args =>
        refine ⟨h.1, CallsIn.mono h.2 fun e w'' he => ?_⟩
        cases e with
        | returned u => exact ⟨⟨u, a.defers, rfl⟩, by rw [← Act.put_comm a v u h2]; exact he⟩
        | panicked c => exact hQ _ _ _ _ _ he
        | outgrown => exact he
      case row row args => exact ⟨h.1, RowsIn.mono h.2 fun u w'' he => ⟨⟨u, a.defers, rfl⟩, by rw [← Act.put_comm a v u h2]; exact he⟩⟩
      case round l f tmps assign body =>
        refine ⟨h.1, RoundIn.mono h.2 fun e w'' he => ?_⟩
        cases e with
        | returned u => exact ⟨⟨u, a.defers, rfl⟩, by rw [← Act.put_comm a v u h2]; exact he⟩
        | panicked c => exact hQ _ _ _ _ _ he
        | outgrown => exact he
    | halt x w' =>
      cases x <;> simp only [Oper.uponIn] at h ⊢
      case panic u => exact hQ _ _ _ _ _ h
  · rename_i hw
    rw [if_neg hw] at h
    exact ⟨fun _ _ => trivial, ⟨undef, a.defers, rfl⟩, by rw [← Act.put_comm a v undef h2]; exact h.2⟩
/-! ### what is listed -/
def Cl (T : Anc) (listed : Array Bool) : Prop := ∀ x, listed.getD x false = true → ∀ y ∈ ancOf T x, listed.getD y false = true
theorem set_getD {listed : Array Bool} {i x : Nat} (h : (listed.setIfInBounds i true).getD x false = true) : x = i ∨ listed.getD x false = true := by
  by_cases e : x = i
  · exact .inl e
  · rw [getD_set_ne false (Ne.symm e)] at h; exact .inr h
theorem ready_anc (H : DrawH ops T) {listed : Array Bool} (hc : Cl T listed) {i : Nat} (hi : i ∈ Region.ready .any ops listed) : ∀ y ∈ ancOf T i, listed.getD y false = true := by
  obtain ⟨h0, o, ho, hall⟩ := mem_ready.1 hi
  have hlt := (Array.getElem?_eq_some_iff.1 ho).1
  have hp : ∀ p ∈ predsAt ops i, listed.getD p false = true := by
    intro p hp
    simp only [predsAt, ho, predsO, List.mem_map, List.mem_filter] at hp
    obtain ⟨e, ⟨he, hb⟩, rfl⟩ := hp
    exact hall e (by simpa using he) hb
  intro y hy
  rcases H.anc i hlt y hy with h | ⟨p, h1, h2⟩
  · exact hp y h
  · exact hc p (hp p h1) y h2
theorem not_both {listed : Array Bool} {i : Nat} (h1 : listed.getD i true = false) (h2 : listed.getD i false = true) : False := by
  rcases Nat.lt_or_ge i listed.size with h | h
  · simp [h] at h1 h2; rw [h1] at h2; cases h2
  · simp [Array.getElem?_eq_none h] at h2
theorem ready_unord (H : DrawH ops T) {listed : Array Bool} (hc : Cl T listed) {i j : Nat} (hi : i ∈ Region.ready .any ops listed) (hj : j ∈ Region.ready .any ops listed) : unordT T i j = true := by
  have h1 : j ∉ ancOf T i := fun h => not_both (mem_ready.1 hj).1 (ready_anc H hc hi j h)
  have h2 : i ∉ ancOf T j := fun h => not_both (mem_ready.1 hi).1 (ready_anc H hc hj i h)
  simp [unordT, h1, h2]
theorem Cl.set (H : DrawH ops T) {listed : Array Bool} (hc : Cl T listed) {i : Nat} (hi : i ∈ Region.ready .any ops listed) : Cl T (listed.setIfInBounds i true) := by
  intro x hx y hy
  rcases set_getD hx with rfl | hx
  · exact getD_set_true (ready_anc H hc hi y hy)
  · exact getD_set_true (hc x hx y hy)

/-- in whatever order, with the values of R still what they were wherever they could yet be read -/
def wpAnyR (P : Program) (ops : Array Oper) (T : Anc) (r : Option Nat) (Q : Exit → Act → World → Prop) (R : List (Nat × Value)) : Nat → Array Bool → Act → World → Prop
  | 0, listed, a, w => Region.ready .any ops listed = [] ∧ Q .normal a w
  | f + 1, listed, a, w => (Region.ready .any ops listed = [] → Q .normal a w) ∧
    ∀ j ∈ Region.ready .any ops listed, wpOpIn (FR r) 0 P ops Q j (fun a' w' => (quietAt ops j = true → w' = w) ∧
      (quietAt ops j = false → ∀ p ∈ R, unordT T p.1 j = true → Val P ops p.1 p.2 a' w') ∧ wpAnyR P ops T r Q R f (listed.setIfInBounds j true) a' w') a w
theorem wpAnyR.less {R R' : List (Nat × Value)} (hs : ∀ p ∈ R', p ∈ R) : ∀ {f : Nat} {listed : Array Bool} {a : Act} {w : World}, wpAnyR P ops T r Q R f listed a w → wpAnyR P ops T r Q R' f listed a w := by
  intro f
  induction f with
  | zero => intro listed a w h; exact h
  | succ f ih => intro listed a w h; exact ⟨h.1, fun j hj => wpOpIn_mono (fun a' w' q => ⟨q.1, fun hq p hp => q.2.1 hq p (hs p hp), ih q.2.2⟩) (h.2 j hj)⟩
theorem wpAnyR.any {R : List (Nat × Value)} : ∀ {f : Nat} {listed : Array Bool} {a : Act} {w : World}, wpAnyR P ops T r Q R f listed a w → wpAnyIn (FR r) 0 P .any ops Q f listed a w := by
  intro f
  induction f with
  | zero => intro listed a w h; exact h
  | succ f ih => intro listed a w h; exact ⟨h.1, fun j hj => wpOpIn_mono (fun a' w' q => ih q.2.2) (h.2 j hj)⟩

theorem quiet_held {i j : Nat} {oi : Oper} (hi : ops[i]? = some oi) (hq : isQuiet oi.op = true) (hj : j < ops.size) (hnq : quietAt ops j = false) (hu : unordT T i j = true) : heldB ops T i = true := by
  simp only [heldB, Bool.and_eq_true, List.any_eq_true, List.mem_range, Bool.not_eq_true']
  exact ⟨by rw [quietAt, atO_of hi]; exact hq, j, hj, hnq, hu⟩

/-- what is quiet may be taken to have come first -/
theorem wpAnyR_first (H : DrawH ops T) (hQ : ∀ c (a : Act) dst v w, Q (.panic c) (a.put dst v) w → Q (.panic c) a w) {i : Nat} {oi : Oper} {v : Value} (hi : ops[i]? = some oi) (hq : isQuiet oi.op = true) :
    ∀ (fuel : Nat) (R : List (Nat × Value)) (listed : Array Bool) (a : Act) (w : World), Cl T listed → (∀ p ∈ R, listed.getD p.1 false = true ∧ quietAt ops p.1 = true) →
      i ∈ Region.ready .any ops listed → Val P ops i v a w → wpAnyR P ops T r Q ((i, v) :: R) fuel (listed.setIfInBounds i true) (a.put oi.dst v) w →
      wpAnyR P ops T r Q R (fuel + 1) listed a w := by
  have hqi : quietAt ops i = true := by rw [quietAt, atO_of hi]; exact hq
  have now : ∀ (f : Nat) (R : List (Nat × Value)) (listed : Array Bool) (a : Act) (w : World), Val P ops i v a w → wpAnyR P ops T r Q ((i, v) :: R) f (listed.setIfInBounds i true) (a.put oi.dst v) w →
      wpOpIn (FR r) 0 P ops Q i (fun a' w' => (quietAt ops i = true → w' = w) ∧ (quietAt ops i = false → ∀ p ∈ R, unordT T p.1 i = true → Val P ops p.1 p.2 a' w') ∧ wpAnyR P ops T r Q R f (listed.setIfInBounds i true) a' w') a w :=
    fun f R listed a w hv h => hv.done H hi ⟨fun _ => rfl, fun hh => (by rw [hqi] at hh; cases hh), h.less (fun p hp => List.mem_cons_of_mem _ hp)⟩
  intro fuel
  induction fuel with
  | zero =>
    intro R listed a w hc hR hr hv h
    refine ⟨fun h0 => (by rw [h0] at hr; cases hr), fun j hj => ?_⟩
    by_cases hji : j = i
    · subst hji; exact now 0 R listed a w hv h
    · have := ready_mono (i := i) hj hji
      rw [h.1] at this; cases this
  | succ fuel ih =>
    intro R listed a w hc hR hr hv h
    refine ⟨fun h0 => (by rw [h0] at hr; cases hr), fun j hj => ?_⟩
    by_cases hji : j = i
    · subst hji; exact now _ R listed a w hv h
    · obtain ⟨hjun, oj, hoj, hall⟩ := mem_ready.1 hj
      have hju := ready_unord H hc hr hj
      have hap := H.apart i j oi oj hi hoj hq (Ne.symm hji) hju
      obtain ⟨a1, a2, a3⟩ := Oper.apart_spec hap
      have h2 := wpOpIn_put' H hQ hi hoj hap (h.2 j (ready_mono hj hji))
      have hjl := (Array.getElem?_eq_some_iff.1 hoj).1
      refine wpOpIn_mono (fun a' w' h3 => ?_) h2
      obtain ⟨⟨u, ds, hau⟩, g1, g2, g3⟩ := h3
      have hnai : i ∉ ancOf T i := fun hh => not_both (mem_ready.1 hr).1 (ready_anc H hc hr i hh)
      refine ⟨g1, fun hnq p hp hpu => ?_, ?_⟩
      · have := g2 hnq p (List.mem_cons_of_mem _ hp) hpu
        obtain ⟨hpl, hpq⟩ := hR p hp
        have hop : ∃ op, ops[p.1]? = some op ∧ isQuiet op.op = true := by
          unfold quietAt atO at hpq
          split at hpq
          · rename_i o ho; exact ⟨o, ho, hpq⟩
          · cases hpq
        obtain ⟨op, hop, hpq'⟩ := hop
        have hh1 := quiet_held hi hq hjl hnq hju
        have hh2 := quiet_held hop hpq' hjl hnq hpu
        have hna : i ∉ ancOf T p.1 := fun hh => not_both (mem_ready.1 hr).1 (hc p.1 hpl i hh)
        exact (Val.put H hop (noHit_spec ((H.held i p.1 oi op hi hop hh1).2 hh2 hna))).1 this
      · refine ih R (listed.setIfInBounds j true) a' w' (hc.set H hj) (fun p hp => ⟨getD_set_true (hR p hp).1, (hR p hp).2⟩) (ready_mono hr (Ne.symm hji)) ?_ ?_
        · cases hnq : quietAt ops j with
          | true =>
            rw [g1 hnq, hau]
            exact (Val.put (a := { a with defers := ds }) H hi a3).2 hv
          | false =>
            have := g2 hnq (i, v) (List.mem_cons_self ..) hju
            have hh1 := quiet_held hi hq hjl hnq hju
            exact (Val.put H hi (noHit_spec ((H.held i i oi oi hi hi hh1).2 hh1 hnai))).1 this
        · rw [Array.setIfInBounds_comm _ _ hji]; exact g3
/-! ### what is looked at again -/
section
variable {β : Beta} {h : HP} {nx : Nat} {w : World} {d nt : Nat} {t : TM} {a : Act}
theorem qDen_q {P : Program} {k : KV} {o : Oper} (hq : isQuiet o.op = true) (hr : HRel β h nx w) (ht : TRel β d nt t a.tmps) (e : qDen P d nt o.op t h nx k = true) : OpQ P (execOp a.eval o) β h nx w k := by
  by_cases h1 : ∃ c, o.op = .call c
  · obtain ⟨c, hc⟩ := h1
    obtain ⟨dst, op, ty, pos, after, g⟩ := o
    simp only at hc
    subst hc
    obtain ⟨callee, args, ats⟩ := c
    cases callee with
    | builtin b =>
      cases b <;> first | (cases hq; done) | skip
      obtain ⟨vs, hvs, e⟩ := evList_ok ht (show evList d nt args.toList t (fun args => builtinA P .len ats.toList args h nx k) = true from e)
      have q := lenCall_ok (P := P) (ty := ty) (cs := args.map fun | .const _ => true | _ => false) hr hvs e
      have e1 : (args.toList.map a.eval).toArray = args.map a.eval := by rw [← Array.toList_map, Array.toArray_toList]
      rw [e1] at q
      exact q
    | value f => cases hq
    | invoke x y => cases hq
  · have e : opDen P d nt o.op t h nx k = true := by
      have : qDen P d nt o.op = opDen P d nt o.op := by
        generalize o.op = op at h1
        cases op <;> first | rfl | exact absurd ⟨_, rfl⟩ h1
      rwa [this] at e
    exact opDen_q hq hr ht e

theorem chk_ok {P : Program} {o : Oper} {g : Option (Nat × Bool)} (hq : isQuiet o.op = true) (hr : HRel β h nx w) (ht : TRel β d nt t a.tmps) (e : chk d nt o.dst (qDen P d nt o.op) t h nx = true) :
    ∃ v', (execOp a.eval o).run P w = .ok (.value v') w ∧ ∀ i, o.dst = some i → v' = a.tmps.getD i undef := by
  obtain ⟨v, v', h1, h2, h3⟩ := qDen_q hq hr ht (show qDen P d nt o.op t h nx (fun v _ _ => sameAt d nt o.dst t v) = true from e)
  refine ⟨v', h1, fun i hi => ?_⟩
  rw [hi] at h3
  obtain ⟨g1, g2⟩ := guard_of (show (Bool.rec (motive := fun _ => Bool) false (Tr.getK d t i fun u => eqA v u) (Nat.blt i nt)) = true from h3)
  rw [Tr.getK_eq] at g2
  obtain ⟨rfl, hdet⟩ := eqA_ok g2
  exact hdet β _ _ h2 (ht.2.2 i (by simpa [Nat.blt_eq] using g1))

theorem chkU_ok {dst : Option Nat} (ht : TRel β d nt t a.tmps) (e : chkU d nt dst t = true) : ∀ i, dst = some i → undef = a.tmps.getD i undef := by
  intro i hi
  rw [hi] at e
  obtain ⟨g1, g2⟩ := guard_of (show (Bool.rec (motive := fun _ => Bool) false (Tr.getK d t i isUnd) (Nat.blt i nt)) = true from e)
  rw [Tr.getK_eq] at g2
  have hv := ht.2.2 i (by simpa [Nat.blt_eq] using g1)
  unfold isUnd at g2
  split at g2
  · rename_i hu
    rw [hu] at hv
    generalize a.tmps.getD i undef = vv at hv ⊢
    cases hv with
    | tuple cs vs l1 l2 => cases vs with
      | nil => rfl
      | cons => simp at l1
  · cases g2

theorem chkI_ok {P : Program} {ops : Array Oper} {i : Nat} (hq : quietAt ops i = true) (hr : HRel β h nx w) (ht : TRel β d nt t a.tmps) (e : chkI P d nt ops.toList ops.toList[i]? t h nx = true) :
    ∃ o, ops[i]? = some o ∧ ∃ v', ((Region.wanted o (yielded ops a.tmps) = true ∧ (execOp a.eval o).run P w = .ok (.value v') w) ∨ (Region.wanted o (yielded ops a.tmps) = false ∧ v' = undef)) ∧
      ∀ x, o.dst = some x → v' = a.tmps.getD x undef := by
  rw [Array.getElem?_toList] at e
  cases ho : ops[i]? with
  | none => rw [ho] at e; cases e
  | some o =>
    rw [ho] at e
    rw [quietAt, atO_of ho] at hq
    refine ⟨o, rfl, ?_⟩
    obtain ⟨dst, op, ty, pos, after, g⟩ := o
    cases g with
    | none =>
      obtain ⟨v', h1, h2⟩ := chk_ok (g := none) (o := ⟨dst, op, ty, pos, after, none⟩) hq hr ht e
      exact ⟨v', .inl ⟨rfl, h1⟩, h2⟩
    | some g =>
      obtain ⟨j, want⟩ := g
      obtain ⟨b, hb, e⟩ := guard_ok (ops := ops) (o := ⟨dst, op, ty, pos, after, some (j, want)⟩) ht rfl e
      cases b with
      | true =>
        obtain ⟨v', h1, h2⟩ := chk_ok (g := none) (o := ⟨dst, op, ty, pos, after, some (j, want)⟩) hq hr ht e
        exact ⟨v', .inl ⟨hb, h1⟩, h2⟩
      | false => exact ⟨undef, .inr ⟨hb, rfl⟩, chkU_ok ht e⟩

theorem chkL_ok {P : Program} {ops : Array Oper} {l : List Nat} (e : chkL P d nt ops.toList l t h nx = true) : ∀ i ∈ l, chkI P d nt ops.toList ops.toList[i]? t h nx = true := by
  induction l with
  | nil => intro i hi; cases hi
  | cons x l ih =>
    obtain ⟨g1, g2⟩ := guard_of (show (Bool.rec (motive := fun _ => Bool) false (chkL P d nt ops.toList l t h nx) (chkI P d nt ops.toList ops.toList[x]? t h nx)) = true from e)
    intro i hi
    rcases List.mem_cons.1 hi with rfl | hi
    · exact g1
    · exact ih g2 i hi
end

/-! ### quiet operations, done -/
section
variable {β : Beta} {h : HP} {nx : Nat} {w : World} {d nt : Nat} {t : TM} {a : Act} {CALL : CALLT}
theorem anyD_quiet {P : Program} {op : Op} (hq : isQuiet op = true) : anyD P d nt CALL op = plainC (qDen P d nt op) := by
  cases op <;> first | rfl | (cases hq; done) | skip
  rename_i c
  obtain ⟨callee, args, ats⟩ := c
  cases callee with
  | builtin b => rfl
  | value f => cases hq
  | invoke x y => cases hq
theorem quiet_ok {P : Program} {ops : Array Oper} {i : Nat} {o : Oper} {kn : KC} {kx : KX} (ho : ops[i]? = some o) (hq : isQuiet o.op = true) (hr : HRel β h nx w) (ht : TRel β d nt t a.tmps)
    (e : operD P d nt CALL ops.toList o t h nx kn kx = true) :
    ∃ v, Val P ops i v a w ∧ ∃ t', TRel β d nt t' (a.put o.dst v).tmps ∧ (∀ x, o.dst = some x → x < nt) ∧ kn t' h nx = true := by
  have doIt : runOp d nt o.dst (anyD P d nt CALL o.op) t h nx kn kx = true → ∃ v, (execOp a.eval o).run P w = .ok (.value v) w ∧ ∃ t', TRel β d nt t' (a.put o.dst v).tmps ∧ (∀ x, o.dst = some x → x < nt) ∧ kn t' h nx = true := fun e => by
    unfold runOp at e
    rw [anyD_quiet hq] at e
    obtain ⟨v, v', h1, h2, h3⟩ := qDen_q (k := fun v h nx => putD d nt o.dst v t fun t => kn t h nx) hq hr ht e
    obtain ⟨t', q1, q2, q3⟩ := putD_ok (a := a) ht h2 h3
    exact ⟨v', h1, t', q1, q2, q3⟩
  obtain ⟨dst, op, ty, pos, after, g⟩ := o
  cases g with
  | none =>
    obtain ⟨v, h1, h2⟩ := doIt e
    exact ⟨v, ⟨_, ho, v, .inl ⟨rfl, h1⟩, .inr rfl⟩, h2⟩
  | some g =>
    obtain ⟨j, want⟩ := g
    obtain ⟨b, hb, e⟩ := guard_ok (ops := ops) (o := ⟨dst, op, ty, pos, after, some (j, want)⟩) ht rfl e
    cases b with
    | true =>
      obtain ⟨v, h1, h2⟩ := doIt e
      exact ⟨v, ⟨_, ho, v, .inl ⟨hb, h1⟩, .inr rfl⟩, h2⟩
    | false =>
      obtain ⟨t', q1, q2, q3⟩ := putD_ok (a := a) ht (.tuple [] [] rfl (fun j a v hh => by simp at hh)) (show putD d nt dst undefA t (fun t => kn t h nx) = true from e)
      exact ⟨undef, ⟨_, ho, undef, .inr ⟨hb, rfl⟩, .inr rfl⟩, t', q1, q2, q3⟩
end

/-! ### a plan followed -/
/-- the values that are held, in the temporaries where they were put -/
def Held (ops : Array Oper) (T : Anc) (R : List (Nat × Value)) (a : Act) : Prop := ∀ p ∈ R, heldB ops T p.1 = true → ∀ o x, ops[p.1]? = some o → o.dst = some x → a.tmps.getD x undef = p.2
theorem Held.put (H : DrawH ops T) {R : List (Nat × Value)} {a : Act} {j : Nat} {oj : Oper} {u : Value} (hj : ops[j]? = some oj) (hR : ∀ p ∈ R, p.1 ≠ j) (hh : Held ops T R a) : Held ops T R (a.put oj.dst u) := by
  intro p hp hpb o x ho hx
  have := noSame_spec ((H.held p.1 j o oj ho hj hpb).1 (hR p hp)) x hx
  have h2 := hh p hp hpb o x ho hx
  cases hd : oj.dst with
  | none => exact h2
  | some y =>
    have hne : y ≠ x := fun e => this (by rw [hd, e])
    rw [← h2]
    simp [Act.put, Array.getElem?_setIfInBounds_ne hne]
theorem held_new {R : List (Nat × Value)} {a : Act} {i : Nat} {oi : Oper} {v : Value} (hi : ops[i]? = some oi) (hlt : ∀ x, oi.dst = some x → x < a.tmps.size) (hh : Held ops T R (a.put oi.dst v)) : Held ops T ((i, v) :: R) (a.put oi.dst v) := by
  intro p hp hpb o x ho hx
  rcases List.mem_cons.1 hp with rfl | hp
  · rw [hi] at ho; cases ho
    have := hlt x hx
    rw [hx]
    simp [Act.put, this]
  · exact hh p hp hpb o x ho hx

theorem frcK_eq {kn : KC} {t : TM} {h : HP} {nx : Nat} (e : frcK kn t h nx = true) : kn t h nx = true := by
  unfold frcK frc at e
  cases hk : kn t h nx with
  | true => rfl
  | false => rw [hk] at e; cases e
theorem planD_ok {CALL : CALLT} {d nt : Nat} {s0 : Option Nat} {kx : KX} {rs : List Nat} {base : Nat} (hrs : ∀ j q, posIn rs j 0 = some q → atO ops j makesOne = true) (hC : CallOK P CALL) (H : DrawH ops T) (hQ : ∀ c (a : Act) dst v w, Q (.panic c) (a.put dst v) w → Q (.panic c) a w) :
    ∀ (p : Plan) (kn : KC) (top : Bool) (listed : Array Bool) (dn : List Nat) (R : List (Nat × Value)) (fuel : Nat) (β : Beta) (h : HP) (nx : Nat) (w : World) (t : TM) (a : Act),
      okPlan ops T p top listed dn = true → Cl T listed → (∀ x ∈ dn, ∃ v, (x, v) ∈ R) → (∀ q ∈ R, listed.getD q.1 false = true ∧ quietAt ops q.1 = true ∧ q.1 ∈ dn) → Held ops T R a → psz p ≤ fuel →
      HRel β h nx w → TRel β d nt t a.tmps → Marks s0 β h nx w a.defers → planD P d nt CALL ops.toList rs base p t h nx kn kx = true →
      PostN s0 d nt β h nx w kn (Q .normal) → PostP s0 β h nx w kx Q →
      (top = true → wpAnyR P ops T r Q R fuel listed a w) ∧
      (top = false → ∀ f', fuel = f' + 1 → ∀ j ∈ heads p, wpOpIn (FR r) 0 P ops Q j (fun a' w' => (quietAt ops j = true → w' = w) ∧
        (quietAt ops j = false → ∀ q ∈ R, unordT T q.1 j = true → Val P ops q.1 q.2 a' w') ∧ wpAnyR P ops T r Q R f' (listed.setIfInBounds j true) a' w') a w) := by
  intro p
  induction p with
  | done =>
    intro kn top listed dn R fuel β h nx w t a hok hc hdn hR hh hf hr ht hm e hN hP
    simp only [okPlan, Bool.and_eq_true, List.isEmpty_iff] at hok
    refine ⟨fun _ => ?_, fun h0 => by rw [hok.1] at h0; cases h0⟩
    have hq := hN β t h nx a w hr ht hm (Step.refl ..) e
    cases fuel with
    | zero => exact ⟨hok.2, hq⟩
    | succ f => exact ⟨fun _ => hq, fun j hj => by rw [hok.2] at hj; cases hj⟩
  | quiet i p ih =>
    intro kn top listed dn R fuel β h nx w t a hok hc hdn hR hh hf hr ht hm e hN hP
    simp only [okPlan, Bool.and_eq_true, List.contains_iff_mem] at hok
    obtain ⟨⟨⟨htop, hqi⟩, hri⟩, hok⟩ := hok
    refine ⟨fun _ => ?_, fun h0 => by rw [htop] at h0; cases h0⟩
    obtain ⟨hun, oi, hi, hall⟩ := mem_ready.1 hri
    have hq : isQuiet oi.op = true := by rw [quietAt, atO_of hi] at hqi; exact hqi
    have e : stepI P d nt CALL ops.toList ops.toList[i]? t h nx (fun t h nx => planD P d nt CALL ops.toList rs base p t h nx kn kx) kx = true := e
    rw [Array.getElem?_toList, hi] at e
    obtain ⟨v, hv, t', ht', hlt, e⟩ := quiet_ok (P := P) hi hq hr ht e
    cases fuel with
    | zero => simp [psz] at hf
    | succ f =>
      refine wpAnyR_first H hQ hi hq f R listed a w hc (fun q hq => ⟨(hR q hq).1, (hR q hq).2.1⟩) hri hv ?_
      have hnew : ∀ q ∈ R, q.1 ≠ i := fun q hq he => not_both hun (he ▸ (hR q hq).1)
      have hset : ∀ x, (listed.setIfInBounds i true).getD x false = true ↔ _ := fun x => Iff.rfl
      have hil : (listed.setIfInBounds i true).getD i false = true := by
        have : i < listed.size := by
          rcases Nat.lt_or_ge i listed.size with h | h
          · exact h
          · simp [Array.getElem?_eq_none h] at hun
        simp [this]
      refine (ih kn true _ (i :: dn) ((i, v) :: R) f β h nx w t' (a.put oi.dst v) hok (hc.set H hri) ?_ ?_ ?_ (by simp [psz] at hf; omega) hr ht' (by rw [put_defers']; exact hm) e hN hP).1 rfl
      · intro x hx
        rcases List.mem_cons.1 hx with rfl | hx
        · exact ⟨v, List.mem_cons_self ..⟩
        · obtain ⟨u, hu⟩ := hdn x hx; exact ⟨u, List.mem_cons_of_mem _ hu⟩
      · intro q hq
        rcases List.mem_cons.1 hq with rfl | hq
        · exact ⟨hil, hqi, List.mem_cons_self ..⟩
        · exact ⟨getD_set_true (hR q hq).1, (hR q hq).2.1, List.mem_cons_of_mem _ (hR q hq).2.2⟩
      · exact held_new hi (fun x hx => by rw [ht.1]; exact hlt x hx) (hh.put H hi hnew)
  | act j rc p ih =>
    intro kn top listed dn R fuel β h nx w t a hok hc hdn hR hh hf hr ht hm e hN hP
    simp only [okPlan, Bool.and_eq_true, List.contains_iff_mem, Bool.not_eq_true', Bool.or_eq_true, List.all_eq_true] at hok
    obtain ⟨⟨⟨⟨hnq, hrj⟩, htop⟩, hrc⟩, hok⟩ := hok
    obtain ⟨hun, oj, hj, hall⟩ := mem_ready.1 hrj
    have e : stepJ P d nt CALL ops.toList rs base j t h nx (fun t h nx => chkT (chkL P d nt ops.toList rc) (planD P d nt CALL ops.toList rs base p) t h nx kn kx) kx = true := e
    have hnew : ∀ q ∈ R, q.1 ≠ j := fun q hq he => not_both hun (he ▸ (hR q hq).1)
    have key : ∀ f', psz p ≤ f' → wpOpIn (FR r) 0 P ops Q j (fun a' w' => (quietAt ops j = true → w' = w) ∧
        (quietAt ops j = false → ∀ q ∈ R, unordT T q.1 j = true → Val P ops q.1 q.2 a' w') ∧ wpAnyR P ops T r Q R f' (listed.setIfInBounds j true) a' w') a w := by
      intro f' hf'
      unfold wpOpIn
      rw [hj]
      have hnext : ∀ β' t' h' nx' v' w', HRel β' h' nx' w' → TRel β' d nt t' (a.put oj.dst v').tmps → Step β h nx w β' h' nx' w' → chkT (chkL P d nt ops.toList rc) (planD P d nt CALL ops.toList rs base p) t' h' nx' kn kx = true →
          ((quietAt ops j = true → w' = w) ∧ (quietAt ops j = false → ∀ q ∈ R, unordT T q.1 j = true → Val P ops q.1 q.2 (a.put oj.dst v') w') ∧ wpAnyR P ops T r Q R f' (listed.setIfInBounds j true) (a.put oj.dst v') w') := by
        intro β' t' h' nx' v' w' q1 q2 q3 q4
        obtain ⟨g1, g2⟩ := guard_of (show (Bool.rec (motive := fun _ => Bool) false (planD P d nt CALL ops.toList rs base p t' h' nx' kn kx) (chkL P d nt ops.toList rc t' h' nx')) = true from q4)
        have hh' := hh.put H hj hnew (u := v')
        refine ⟨fun hq => (by rw [hnq] at hq; cases hq), fun _ q hq hu => ?_, ?_⟩
        · have hx := hrc q.1 (hR q hq).2.2
          have hin : q.1 ∈ rc := by
            rcases hx with hx | hx
            · rw [hu] at hx; cases hx
            · exact hx
          obtain ⟨o, ho, v2, hv2, hd2⟩ := chkI_ok (hR q hq).2.1 q1 q2 (chkL_ok g1 q.1 hin)
          refine ⟨o, ho, v2, hv2, ?_⟩
          cases hod : o.dst with
          | none => exact .inl rfl
          | some x =>
            refine .inr ?_
            have hqo : isQuiet o.op = true := by have := (hR q hq).2.1; rw [quietAt, atO_of ho] at this; exact this
            rw [hd2 x hod]
            exact hh' q hq (quiet_held ho hqo (Array.getElem?_eq_some_iff.1 hj).1 hnq hu) o x ho hod
        · exact (ih kn true _ dn R f' β' h' nx' w' t' (a.put oj.dst v') hok (hc.set H hrj) hdn (fun q hq => ⟨getD_set_true (hR q hq).1, (hR q hq).2⟩) hh' hf' q1 q2 (by rw [put_defers']; exact hm.step q3) g2 (hN.step q3) (hP.step q3)).1 rfl
      cases hpos : posIn rs j 0 with
      | none =>
        unfold stepJ at e
        rw [hpos] at e
        simp only [] at e
        rw [Array.getElem?_toList, hj] at e
        exact operD_ok (r := r) hC hr ht e hnext (fun β' v v' h' nx' w' q1 q2 q3 q4 => hP β' v v' h' nx' a w' q1 q2 (hm.step q3) q3 q4)
      | some qq =>
        unfold stepJ at e
        rw [hpos] at e
        simp only [forceNat_eq] at e
        rw [Array.getElem?_toList, hj] at e
        have hmo : makesOne oj = true := by have := hrs j qq hpos; rwa [atO_of hj] at this
        exact operAt_ok (r := r) hmo hr ht e hnext
    refine ⟨fun ht => ?_, fun _ f' hf2 x hx => ?_⟩
    · cases fuel with
      | zero => simp [psz] at hf
      | succ f =>
        refine ⟨fun h0 => (by rw [h0] at hrj; cases hrj), fun x hx => ?_⟩
        have : x = j := by
          rcases htop with h | h
          · rw [ht] at h; cases h
          · exact Nat.eq_of_beq_eq_true (h x hx)
        subst this
        exact key f (by simp [psz] at hf; omega)
    · have : x = j := by simpa [heads] using hx
      subst this
      exact key f' (by simp [psz] at hf; omega)
  | both p q ihp ihq =>
    intro kn top listed dn R fuel β h nx w t a hok hc hdn hR hh hf hr ht hm e hN hP
    simp only [okPlan, Bool.and_eq_true, List.contains_iff_mem, Bool.not_eq_true', Bool.or_eq_true, List.all_eq_true, List.isEmpty_eq_false_iff] at hok
    obtain ⟨⟨⟨hne, htop⟩, hok1⟩, hok2⟩ := hok
    obtain ⟨e1, e2⟩ := guard_of (show (Bool.rec (motive := fun _ => Bool) false (planD P d nt CALL ops.toList rs base q t h nx (frcK kn) kx) (planD P d nt CALL ops.toList rs base p t h nx (frcK kn) kx)) = true from e)
    have hN' : PostN s0 d nt β h nx w (frcK kn) (Q .normal) := fun β' t' h' nx' a' w' q1 q2 q3 q4 q5 => hN β' t' h' nx' a' w' q1 q2 q3 q4 (frcK_eq q5)
    have hfm : Nat.max (psz p) (psz q) ≤ fuel := hf
    have hpm : psz p ≤ Nat.max (psz p) (psz q) := Nat.le_max_left ..
    have hqm : psz q ≤ Nat.max (psz p) (psz q) := Nat.le_max_right ..
    have k1 := (ihp (frcK kn) false listed dn R fuel β h nx w t a hok1 hc hdn hR hh (by omega) hr ht hm e1 hN' hP).2 rfl
    have k2 := (ihq (frcK kn) false listed dn R fuel β h nx w t a hok2 hc hdn hR hh (by omega) hr ht hm e2 hN' hP).2 rfl
    have key : ∀ f', fuel = f' + 1 → ∀ j ∈ heads p ++ heads q, _ := fun f' hf' j hj => (List.mem_append.1 hj).elim (k1 f' hf' j) (k2 f' hf' j)
    refine ⟨fun ht => ?_, fun _ f' hf' j hj => key f' hf' j hj⟩
    cases fuel with
    | zero =>
      exfalso
      have hz : ∀ (p : Plan) top listed dn, okPlan ops T p top listed dn = true → top = false → 1 ≤ psz p := by
        intro p
        induction p with
        | done => intro top listed dn h h0; subst h0; simp [okPlan] at h
        | quiet i p _ => intro top listed dn h h0; simp [psz]
        | act j rc p _ => intro top listed dn h h0; simp [psz]
        | both p q i1 i2 =>
          intro top listed dn h h0
          simp only [okPlan, Bool.and_eq_true] at h
          exact Nat.le_trans (i1 false listed dn h.1.2 rfl) (Nat.le_max_left ..)
      have := hz p false listed dn hok1 rfl
      omega
    | succ f =>
      refine ⟨fun h0 => absurd h0 hne, fun x hx => ?_⟩
      rcases htop with h | h
      · rw [ht] at h; cases h
      · exact key f rfl x (h x hx)
end Am
