/- What reads operands, and the operations that leave memory alone: sound. -/
import Derived.Test.YtlemkhodaaoimaaGreatAmRel
import Derived.Laws.Strings
import Derived.Laws.Concat
import Derived.Laws.Pointers
import Derived.LaidEql
import Derived.LaidEqlPtr
set_option linter.unusedVariables false
set_option linter.unusedSimpArgs false
noncomputable section
namespace Am
open Go
variable {P : Program} {β : Beta} {h : HP} {nx : Nat} {w : World} {k : KV}

/-- a value v' in a world w' that an abstract answer stands for, to which the continuation says yes -/
def OutV (β : Beta) (h : HP) (nx : Nat) (w : World) (k : KV) (v' : Value) (w' : World) : Prop :=
  ∃ β' v h' nx', HRel β' h' nx' w' ∧ Step β h nx w β' h' nx' w' ∧ VRel β' v v' ∧ k v h' nx' = true
def SemOK (P : Program) (s : Sem Value) (β : Beta) (h : HP) (nx : Nat) (w : World) (k : KV) : Prop :=
  ∃ v' w', s.run P w = .ok v' w' ∧ OutV β h nx w k v' w'
theorem OutV.same {v : AV} {v' : Value} (hr : HRel β h nx w) (hv : VRel β v v') (hk : k v h nx = true) : OutV β h nx w k v' w :=
  ⟨β, v, h, nx, hr, Step.refl .., hv, hk⟩
theorem SemOK.ret {s : Sem Value} {v : AV} {v' : Value} (hr : HRel β h nx w) (hs : s.run P w = .ok v' w) (hv : VRel β v v') (hk : k v h nx = true) : SemOK P s β h nx w k :=
  ⟨v', w, hs, .same hr hv hk⟩

/-- the same, of what leaves the world as it is -/
def SemQ (P : Program) (s : Sem Value) (β : Beta) (h : HP) (nx : Nat) (w : World) (k : KV) : Prop :=
  ∃ v v', s.run P w = .ok v' w ∧ VRel β v v' ∧ k v h nx = true
theorem SemQ.ret {s : Sem Value} {v : AV} {v' : Value} (hr : HRel β h nx w) (hs : s.run P w = .ok v' w) (hv : VRel β v v') (hk : k v h nx = true) : SemQ P s β h nx w k :=
  ⟨v, v', hs, hv, hk⟩
theorem SemQ.ok {s : Sem Value} (hr : HRel β h nx w) (hs : SemQ P s β h nx w k) : SemOK P s β h nx w k := let ⟨_, _, h1, h2, h3⟩ := hs; .ret hr h1 h2 h3

/-! ### constants, operands -/
theorem absFlat_ok {v : Value} {a : AV} (e : absFlat v = some a) : VRel β a v ∧ a.flat = true := by
  unfold absFlat at e
  split at e <;> first | cases e | skip
  · exact ⟨.bool _, rfl⟩
  · exact ⟨.int _ _, rfl⟩
  · exact ⟨.str _ _ rfl, rfl⟩
  · exact ⟨.nilptr, rfl⟩
  · exact ⟨.nilslice, rfl⟩
  · exact ⟨.nilmap, rfl⟩
  · exact ⟨.nilfunc, rfl⟩
  · exact ⟨.niliface, rfl⟩
theorem absFlats_ok {l : List Value} : ∀ {a : List AV}, absFlats l = some a → LRel β a l ∧ ∀ (j : Nat) x, a[j]? = some x → x.flat = true := by
  induction l with
  | nil => intro a e; cases e; exact ⟨.nil β, fun j x hx => by simp at hx⟩
  | cons v l ih =>
    intro a e
    simp only [absFlats] at e
    split at e
    · rename_i x r h1 h2
      cases e
      obtain ⟨hx, hf⟩ := absFlat_ok (β := β) h1
      obtain ⟨hl, hff⟩ := ih h2
      refine ⟨.cons hx hl, fun j y hy => ?_⟩
      cases j with
      | zero => simp at hy; subst hy; exact hf
      | succ j => exact hff j y (by simpa using hy)
    · cases e
theorem absV_ok {v : Value} {a : AV} (e : absV v = some a) : VRel β a v := by
  unfold absV at e
  split at e
  · rename_i cs
    cases hl : absFlats cs.toList with
    | none => rw [hl] at e; cases e
    | some l =>
      rw [hl] at e; cases e
      obtain ⟨h1, h2⟩ := absFlats_ok (β := β) hl
      have := VRel.agg (β := β) l cs.toList h1.1 h1.2 h2
      simpa using this
  · rename_i cs
    cases hc : cs.isEmpty with
    | false => rw [hc] at e; cases e
    | true =>
      rw [hc] at e; cases e
      have : cs = #[] := by simpa using hc
      subst this
      exact .tuple [] [] rfl (fun j a v h => by simp at h)
  · exact (absFlat_ok e).1

section
variable {d nt : Nat} {t : TM} {a : Act}
theorem evTmp_ok (ht : TRel β d nt t a.tmps) {i : Nat} {kk : AV → Bool} (e : evTmp d nt i t kk = true) : ∃ v, i < nt ∧ v = Tr.get d t i ∧ VRel β v (a.eval (.tmp i)) ∧ kk v = true := by
  obtain ⟨h1, h2⟩ := guard_of e
  have hi : i < nt := by simpa [Nat.blt_eq] using h1
  rw [Tr.getK_eq] at h2
  exact ⟨_, hi, rfl, ht.2.2 i hi, h2⟩
theorem evD_ok (ht : TRel β d nt t a.tmps) {o : Operand} {kk : AV → Bool} (e : evD d nt o t kk = true) : ∃ v, VRel β v (a.eval o) ∧ kk v = true := by
  cases o with
  | tmp i => obtain ⟨v, _, _, h1, h2⟩ := evTmp_ok ht e; exact ⟨v, h1, h2⟩
  | const v =>
    have e : (Option.rec (motive := fun _ => Bool) false kk (absV v)) = true := e
    cases hv : absV v with
    | none => rw [hv] at e; cases e
    | some x => rw [hv] at e; exact ⟨x, absV_ok hv, e⟩
  | global g => exact absurd e (by simp [evD, evGlob])
  | func f => exact ⟨.func f [] [], .func f [] [] [] [] rfl (fun j a v h => by simp at h) rfl (fun j a v h => by simp at h), e⟩
theorem evList_ok (ht : TRel β d nt t a.tmps) : ∀ {l : List Operand} {kk : List AV → Bool}, evList d nt l t kk = true → ∃ vs, LRel β vs (l.map a.eval) ∧ kk vs = true := by
  intro l
  induction l with
  | nil => intro kk e; exact ⟨[], .nil β, e⟩
  | cons o l ih =>
    intro kk e
    obtain ⟨v, hv, e⟩ := evD_ok ht (show evD d nt o t (fun v => evList d nt l t fun l => kk (v :: l)) = true from e)
    obtain ⟨vs, hvs, e⟩ := ih e
    exact ⟨v :: vs, .cons hv hvs, e⟩
theorem evParts_ok (ht : TRel β d nt t a.tmps) : ∀ {l : List (Nat × Operand)} {kk : List (Nat × AV) → Bool}, evParts d nt l t kk = true →
    ∃ ps : List (Nat × AV), ps.map (·.1) = l.map (·.1) ∧ LRel β (ps.map (·.2)) (l.map fun p => a.eval p.2) ∧ kk ps = true := by
  intro l
  induction l with
  | nil => intro kk e; exact ⟨[], rfl, .nil β, e⟩
  | cons o l ih =>
    intro kk e
    obtain ⟨v, hv, e⟩ := evD_ok ht (show evD d nt o.2 t (fun v => evParts d nt l t fun l => kk ((o.1, v) :: l)) = true from e)
    obtain ⟨vs, h1, hvs, e⟩ := ih e
    exact ⟨(o.1, v) :: vs, by simp [h1], .cons hv hvs, e⟩
/-- an operand that may lack -/
def VOpt (β : Beta) (x : Option AV) (y : Option Value) : Prop := match x, y with | none, none => True | some a, some v => VRel β a v | _, _ => False
theorem evOpt_ok (ht : TRel β d nt t a.tmps) {o : Option Operand} {kk : Option AV → Bool} (e : evOpt d nt o t kk = true) : ∃ v, VOpt β v (o.map a.eval) ∧ kk v = true := by
  cases o with
  | none => exact ⟨none, trivial, e⟩
  | some o => obtain ⟨v, hv, e⟩ := evD_ok ht (show evD d nt o t (fun v => kk (some v)) = true from e); exact ⟨some v, hv, e⟩
end

/-! ### types -/
theorem opt_of {α : Type} {o : Option α} {f : α → Bool} (e : (Option.rec (motive := fun _ => Bool) false f o) = true) : ∃ x, o = some x ∧ f x = true := by
  cases o with
  | none => cases e
  | some x => exact ⟨x, rfl, e⟩
theorem sizeT_info {t n : Nat} (e : sizeT P t = some n) : ∃ i, P.info? t = some i ∧ i.size = n := by
  unfold sizeT at e
  cases hi : P.info? t with
  | none => rw [hi] at e; cases e
  | some i => rw [hi] at e; exact ⟨i, rfl, by simpa using e⟩
theorem run_typeInfoA {t : TypeId} {i : TypeInfo} (e : P.info? t = some i) : (typeInfo t).run P w = .ok i w := by simp [typeInfo, e]
theorem run_sizeA {t n : Nat} (e : sizeT P t = some n) : (Go.sizeOf t).run P w = .ok n w := by
  obtain ⟨i, hi, rfl⟩ := sizeT_info e
  simp [Go.sizeOf, run_typeInfoA hi]
theorem zeroT_info {t : Nat} {z : AV} (e : zeroT P t = some z) : ∃ i v, P.info? t = some i ∧ i.zero = some v ∧ absV v = some z := by
  unfold zeroT at e
  cases hi : P.info? t with
  | none => rw [hi] at e; cases e
  | some i =>
    rw [hi] at e
    cases hz : i.zero with
    | none => simp [hz] at e
    | some v => simp [hz] at e; exact ⟨i, v, rfl, hz, e⟩
theorem run_zeroA {t : Nat} {z : AV} (e : zeroT P t = some z) : ∃ v, (zeroValue t).run P w = .ok v w ∧ VRel β z v := by
  obtain ⟨i, v, hi, hz, ha⟩ := zeroT_info e
  exact ⟨v, by simp [zeroValue, run_typeInfoA hi, hz], absV_ok ha⟩
theorem zeroCells_info {t : Nat} {cs : List AV} (e : zeroCells P t = some cs) : ∃ z n, zeroT P t = some z ∧ sizeT P t = some n ∧ cs = cellsOf z ∧ cs.length = n ∧ allFlat cs = true := by
  unfold zeroCells at e
  split at e
  · rename_i z n h1 h2
    cases hb : (Nat.beq (cellsOf z).length n && allFlat (cellsOf z)) with
    | false => rw [hb] at e; cases e
    | true =>
      rw [hb] at e; cases e
      simp only [Bool.and_eq_true] at hb
      exact ⟨z, n, h1, h2, rfl, Nat.eq_of_beq_eq_true hb.1, hb.2⟩
  · cases e
theorem absV_flat {v : Value} {z : AV} (e : absV v = some z) : allFlat (cellsOf z) = true ∨ z = .tuple [] := by
  unfold absV at e
  split at e
  · rename_i cs
    cases hl : absFlats cs.toList with
    | none => rw [hl] at e; cases e
    | some l =>
      rw [hl] at e; cases e
      refine .inl ((allFlat_iff _).2 fun a ha => ?_)
      obtain ⟨j, hj, rfl⟩ := List.getElem_of_mem (show a ∈ l from ha)
      exact (absFlats_ok (β := fun _ => none) hl).2 j _ (List.getElem?_eq_getElem hj)
  · rename_i cs
    cases hc : cs.isEmpty with
    | false => rw [hc] at e; cases e
    | true => rw [hc] at e; cases e; exact .inr rfl
  · have := (absFlat_ok (β := fun _ => none) e).2
    refine .inl ?_
    cases z <;> first | rfl | cases this
theorem allFlat_append {a b : List AV} : allFlat (a ++ b) = true ↔ allFlat a = true ∧ allFlat b = true := by
  simp only [allFlat_iff, List.mem_append]
  exact ⟨fun h => ⟨fun x hx => h x (.inl hx), fun x hx => h x (.inr hx)⟩, fun h x hx => hx.elim (h.1 x) (h.2 x)⟩
theorem run_isAggA {ty : TypeId} {u : TypeDesc} (e : P.underlying ty = some u) : (isAgg ty).run P w = .ok (match u with | .struct _ | .array _ _ => true | _ => false) w := by
  unfold isAgg
  simp only [Sem.run_bind, run_underlying e, Result.andThen_ok]
  cases u <;> rfl
/-- what loadKind tells -/
theorem loadKind_one {ty : TypeId} (e : loadKind P ty = some none) : (isAgg ty).run P w = .ok false w := by
  unfold loadKind at e
  split at e
  · cases hs : sizeT P ty <;> rw [hs] at e <;> cases e
  · cases hs : sizeT P ty <;> rw [hs] at e <;> cases e
  · rename_i u h1 h2 h3
    rw [run_isAggA h3]
    cases u <;> first | rfl | exact absurd rfl (h1 _) | exact absurd rfl (h2 _ _)
  · cases e
theorem loadKind_many {ty : TypeId} {n : Nat} (e : loadKind P ty = some (some n)) : (isAgg ty).run P w = .ok true w ∧ sizeT P ty = some n := by
  unfold loadKind at e
  split at e
  · rename_i h1
    cases hs : sizeT P ty with
    | none => rw [hs] at e; cases e
    | some m => rw [hs] at e; cases e; exact ⟨by rw [run_isAggA h1], rfl⟩
  · rename_i h1
    cases hs : sizeT P ty with
    | none => rw [hs] at e; cases e
    | some m => rw [hs] at e; cases e; exact ⟨by rw [run_isAggA h1], rfl⟩
  · cases e
  · cases e
end Am
