/- What reads operands, and the operations that leave memory alone: sound. -/
import Derived.Test.YtjcmcblcaakbaaaGreatDoorAmRel
import Derived.Laws.Strings
import Derived.Laws.Concat
import Derived.Laws.Pointers
import Derived.LaidEql
import Derived.LaidEqlPtr
import Derived.Laws.StructEq
import Derived.Laws.Small
import Derived.Laws.NewFold
set_option linter.unusedVariables false
set_option linter.unusedSimpArgs false
noncomputable section
namespace Am
open Go
variable {P : Program} {β : Beta} {h : HP} {nx : Nat} {w : World} {k : KV}

/-- a value v' in a world w' that an abstract answer stands for, to which the continuation says yes -/
def OutV (β : Beta) (h : HP) (nx : Nat) (w : World) (k : KV) (v' : Value) (w' : World) : Prop :=
  ∃ β' v h' nx', HRel β' h' nx' w' ∧ Step β h nx w β' h' nx' w' ∧ VRel β' v v' ∧ k v h' nx' = true
def SemOK (P : Program) (s : Sem Value) (β : Beta) (h : HP) (nx : Nat) (w : World) (k : KV) : Prop :=
  ∃ v' w', s.run P w = .ok v' w' ∧ OutV β h nx w k v' w'
theorem OutV.same {v : AV} {v' : Value} (hr : HRel β h nx w) (hv : VRel β v v') (hk : k v h nx = true) : OutV β h nx w k v' w :=
  ⟨β, v, h, nx, hr, Step.refl .., hv, hk⟩
theorem SemOK.ret {s : Sem Value} {v : AV} {v' : Value} (hr : HRel β h nx w) (hs : s.run P w = .ok v' w) (hv : VRel β v v') (hk : k v h nx = true) : SemOK P s β h nx w k :=
  ⟨v', w, hs, .same hr hv hk⟩

/-- the same, of what leaves the world as it is -/
def SemQ (P : Program) (s : Sem Value) (β : Beta) (h : HP) (nx : Nat) (w : World) (k : KV) : Prop :=
  ∃ v v', s.run P w = .ok v' w ∧ VRel β v v' ∧ k v h nx = true
theorem SemQ.ret {s : Sem Value} {v : AV} {v' : Value} (hr : HRel β h nx w) (hs : s.run P w = .ok v' w) (hv : VRel β v v') (hk : k v h nx = true) : SemQ P s β h nx w k :=
  ⟨v, v', hs, hv, hk⟩
theorem SemQ.ok {s : Sem Value} (hr : HRel β h nx w) (hs : SemQ P s β h nx w k) : SemOK P s β h nx w k := let ⟨_, _, h1, h2, h3⟩ := hs; .ret hr h1 h2 h3

/-! ### constants, operands -/
theorem absFlat_ok {v : Value} {a : AV} (e : absFlat v = some a) : VRel β a v ∧ a.flat = true := by
  unfold absFlat at e
  split at e <;> first | cases e | skip
  · exact ⟨.bool _, rfl⟩
  · exact ⟨.int _ _, rfl⟩
  · exact ⟨.str _ _ rfl, rfl⟩
  · exact ⟨.nilptr, rfl⟩
  · exact ⟨.nilslice, rfl⟩
  · exact ⟨.nilmap, rfl⟩
  · exact ⟨.nilfunc, rfl⟩
  · exact ⟨.niliface, rfl⟩
theorem absFlats_ok {l : List Value} : ∀ {a : List AV}, absFlats l = some a → LRel β a l ∧ ∀ (j : Nat) x, a[j]? = some x → x.flat = true := by
  induction l with
  | nil => intro a e; cases e; exact ⟨.nil β, fun j x hx => by simp at hx⟩
  | cons v l ih =>
    intro a e
    simp only [absFlats] at e
    split at e
    · rename_i x r h1 h2
      cases e
      obtain ⟨hx, hf⟩ := absFlat_ok (β := β) h1
      obtain ⟨hl, hff⟩ := ih h2
      refine ⟨.cons hx hl, fun j y hy => ?_⟩
      cases j with
      | zero => simp at hy; subst hy; exact hf
      | succ j => exact hff j y (by simpa using hy)
    · cases e
theorem absV_ok {v : Value} {a : AV} (e : absV v = some a) : VRel β a v := by
  unfold absV at e
  split at e
  · rename_i cs
    cases hl : absFlats cs.toList with
    | none => rw [hl] at e; cases e
    | some l =>
      rw [hl] at e; cases e
      obtain ⟨h1, h2⟩ := absFlats_ok (β := β) hl
      have := VRel.agg (β := β) l cs.toList h1.1 h1.2 h2
      simpa using this
  · rename_i cs
    cases hc : cs.isEmpty with
    | false => rw [hc] at e; cases e
    | true =>
      rw [hc] at e; cases e
      have : cs = #[] := by simpa using hc
      subst this
      exact .tuple [] [] rfl (fun j a v h => by simp at h)
  · exact (absFlat_ok e).1

section
variable {d nt : Nat} {t : TM} {a : Act}
theorem evTmp_ok (ht : TRel β d nt t a.tmps) {i : Nat} {kk : AV → Bool} (e : evTmp d nt i t kk = true) : ∃ v, i < nt ∧ v = Tr.get d t i ∧ VRel β v (a.eval (.tmp i)) ∧ kk v = true := by
  obtain ⟨h1, h2⟩ := guard_of e
  have hi : i < nt := by simpa [Nat.blt_eq] using h1
  rw [Tr.getK_eq] at h2
  exact ⟨_, hi, rfl, ht.2.2 i hi, h2⟩
theorem evD_ok (ht : TRel β d nt t a.tmps) {o : Operand} {kk : AV → Bool} (e : evD d nt o t kk = true) : ∃ v, VRel β v (a.eval o) ∧ kk v = true := by
  cases o with
  | tmp i => obtain ⟨v, _, _, h1, h2⟩ := evTmp_ok ht e; exact ⟨v, h1, h2⟩
  | const v =>
    have e : (Option.rec (motive := fun _ => Bool) false kk (absV v)) = true := e
    cases hv : absV v with
    | none => rw [hv] at e; cases e
    | some x => rw [hv] at e; exact ⟨x, absV_ok hv, e⟩
  | global g => exact absurd e (by simp [evD, evGlob])
  | func f => exact ⟨.func f [] [], .func f [] [] [] [] rfl (fun j a v h => by simp at h) rfl (fun j a v h => by simp at h), e⟩
theorem evList_ok (ht : TRel β d nt t a.tmps) : ∀ {l : List Operand} {kk : List AV → Bool}, evList d nt l t kk = true → ∃ vs, LRel β vs (l.map a.eval) ∧ kk vs = true := by
  intro l
  induction l with
  | nil => intro kk e; exact ⟨[], .nil β, e⟩
  | cons o l ih =>
    intro kk e
    obtain ⟨v, hv, e⟩ := evD_ok ht (show evD d nt o t (fun v => evList d nt l t fun l => kk (v :: l)) = true from e)
    obtain ⟨vs, hvs, e⟩ := ih e
    exact ⟨v :: vs, .cons hv hvs, e⟩
theorem evParts_ok (ht : TRel β d nt t a.tmps) : ∀ {l : List (Nat × Operand)} {kk : List (Nat × AV) → Bool}, evParts d nt l t kk = true →
    ∃ ps : List (Nat × AV), ps.map (·.1) = l.map (·.1) ∧ LRel β (ps.map (·.2)) (l.map fun p => a.eval p.2) ∧ kk ps = true := by
  intro l
  induction l with
  | nil => intro kk e; exact ⟨[], rfl, .nil β, e⟩
  | cons o l ih =>
    intro kk e
    obtain ⟨v, hv, e⟩ := evD_ok ht (show evD d nt o.2 t (fun v => evParts d nt l t fun l => kk ((o.1, v) :: l)) = true from e)
    obtain ⟨vs, h1, hvs, e⟩ := ih e
    exact ⟨(o.1, v) :: vs, by simp [h1], .cons hv hvs, e⟩
/-- an operand that may lack -/
def VOpt (β : Beta) (x : Option AV) (y : Option Value) : Prop := match x, y with | none, none => True | some a, some v => VRel β a v | _, _ => False
theorem evOpt_ok (ht : TRel β d nt t a.tmps) {o : Option Operand} {kk : Option AV → Bool} (e : evOpt d nt o t kk = true) : ∃ v, VOpt β v (o.map a.eval) ∧ kk v = true := by
  cases o with
  | none => exact ⟨none, trivial, e⟩
  | some o => obtain ⟨v, hv, e⟩ := evD_ok ht (show evD d nt o t (fun v => kk (some v)) = true from e); exact ⟨some v, hv, e⟩
end

/-! ### types -/
theorem opt_of {α : Type} {o : Option α} {f : α → Bool} (e : (Option.rec (motive := fun _ => Bool) false f o) = true) : ∃ x, o = some x ∧ f x = true := by
  cases o with
  | none => cases e
  | some x => exact ⟨x, rfl, e⟩
theorem sizeT_info {t n : Nat} (e : sizeT P t = some n) : ∃ i, P.info? t = some i ∧ i.size = n := by
  unfold sizeT at e
  cases hi : P.info? t with
  | none => rw [hi] at e; cases e
  | some i => rw [hi] at e; exact ⟨i, rfl, by simpa using e⟩
theorem run_typeInfoA {t : TypeId} {i : TypeInfo} (e : P.info? t = some i) : (typeInfo t).run P w = .ok i w := by simp [typeInfo, e]
theorem run_sizeA {t n : Nat} (e : sizeT P t = some n) : (Go.sizeOf t).run P w = .ok n w := by
  obtain ⟨i, hi, rfl⟩ := sizeT_info e
  simp [Go.sizeOf, run_typeInfoA hi]
theorem zeroT_info {t : Nat} {z : AV} (e : zeroT P t = some z) : ∃ i v, P.info? t = some i ∧ i.zero = some v ∧ absV v = some z := by
  unfold zeroT at e
  cases hi : P.info? t with
  | none => rw [hi] at e; cases e
  | some i =>
    rw [hi] at e
    cases hz : i.zero with
    | none => simp [hz] at e
    | some v => simp [hz] at e; exact ⟨i, v, rfl, hz, e⟩
theorem run_zeroA {t : Nat} {z : AV} (e : zeroT P t = some z) : ∃ v, (zeroValue t).run P w = .ok v w ∧ VRel β z v := by
  obtain ⟨i, v, hi, hz, ha⟩ := zeroT_info e
  exact ⟨v, by simp [zeroValue, run_typeInfoA hi, hz], absV_ok ha⟩
theorem zeroCells_info {t : Nat} {cs : List AV} (e : zeroCells P t = some cs) : ∃ z n, zeroT P t = some z ∧ sizeT P t = some n ∧ cs = cellsOf z ∧ cs.length = n ∧ allFlat cs = true := by
  unfold zeroCells at e
  split at e
  · rename_i z n h1 h2
    cases hb : (Nat.beq (cellsOf z).length n && allFlat (cellsOf z)) with
    | false => rw [hb] at e; cases e
    | true =>
      rw [hb] at e; cases e
      simp only [Bool.and_eq_true] at hb
      exact ⟨z, n, h1, h2, rfl, Nat.eq_of_beq_eq_true hb.1, hb.2⟩
  · cases e
theorem absV_flat {v : Value} {z : AV} (e : absV v = some z) : allFlat (cellsOf z) = true ∨ z = .tuple [] := by
  unfold absV at e
  split at e
  · rename_i cs
    cases hl : absFlats cs.toList with
    | none => rw [hl] at e; cases e
    | some l =>
      rw [hl] at e; cases e
      refine .inl ((allFlat_iff _).2 fun a ha => ?_)
      obtain ⟨j, hj, rfl⟩ := List.getElem_of_mem (show a ∈ l from ha)
      exact (absFlats_ok (β := fun _ => none) hl).2 j _ (List.getElem?_eq_getElem hj)
  · rename_i cs
    cases hc : cs.isEmpty with
    | false => rw [hc] at e; cases e
    | true => rw [hc] at e; cases e; exact .inr rfl
  · have := (absFlat_ok (β := fun _ => none) e).2
    refine .inl ?_
    cases z <;> first | rfl | cases this
theorem allFlat_append {a b : List AV} : allFlat (a ++ b) = true ↔ allFlat a = true ∧ allFlat b = true := by
  simp only [allFlat_iff, List.mem_append]
  exact ⟨fun h => ⟨fun x hx => h x (.inl hx), fun x hx => h x (.inr hx)⟩, fun h x hx => hx.elim (h.1 x) (h.2 x)⟩
theorem run_isAggA {ty : TypeId} {u : TypeDesc} (e : P.underlying ty = some u) : (isAgg ty).run P w = .ok (match u with | .struct _ | .array _ _ => true | _ => false) w := by
  unfold isAgg
  simp only [Sem.run_bind, run_underlying e, Result.andThen_ok]
  cases u <;> rfl
/-- what loadKind tells -/
theorem loadKind_one {ty : TypeId} (e : loadKind P ty = some none) : (isAgg ty).run P w = .ok false w := by
  unfold loadKind at e
  split at e
  · cases hs : sizeT P ty <;> rw [hs] at e <;> cases e
  · cases hs : sizeT P ty <;> rw [hs] at e <;> cases e
  · rename_i u h1 h2 h3
    rw [run_isAggA h3]
    cases u <;> first | rfl | exact absurd rfl (h1 _) | exact absurd rfl (h2 _ _)
  · cases e
theorem loadKind_many {ty : TypeId} {n : Nat} (e : loadKind P ty = some (some n)) : (isAgg ty).run P w = .ok true w ∧ sizeT P ty = some n := by
  unfold loadKind at e
  split at e
  · rename_i h1
    cases hs : sizeT P ty with
    | none => rw [hs] at e; cases e
    | some m => rw [hs] at e; cases e; exact ⟨by rw [run_isAggA h1], rfl⟩
  · rename_i h1
    cases hs : sizeT P ty with
    | none => rw [hs] at e; cases e
    | some m => rw [hs] at e; cases e; exact ⟨by rw [run_isAggA h1], rfl⟩
  · cases e
  · cases e
end Am
set_option linter.unusedVariables false
set_option linter.unusedSimpArgs false
namespace Am
open Go
variable {P : Program} {β : Beta} {h : HP} {nx : Nat} {w : World} {k : KV}

theorem bRet_ok {b : Bool} (hr : HRel β h nx w) (e : bRet b h nx k = true) {s : Sem Value} (hs : s.run P w = .ok (.bool b) w) : SemQ P s β h nx w k :=
  .ret (v := .bool b) hr hs (.bool b) (by cases b <;> exact e)
theorem bInt_ok {kd : IntKind} {n : Int} (hr : HRel β h nx w) (e : bInt kd n h nx k = true) {s : Sem Value} (hs : s.run P w = .ok (.int kd n) w) : SemQ P s β h nx w k :=
  .ret (v := .int kd n) hr hs (.int kd n) (by rwa [bInt, forceInt_eq] at e)
theorem eqRet_ok {op : BinOp} {b : Bool} (hr : HRel β h nx w) (e : eqRet op b h nx k = true) {s : Sem Value}
    (h1 : op = .eql → s.run P w = .ok (.bool b) w) (h2 : op = .neq → s.run P w = .ok (.bool !b) w) : SemQ P s β h nx w k := by
  cases op <;> first | (exfalso; simp [eqRet, bad1] at e; done) | skip
  · exact bRet_ok hr e (h1 rfl)
  · exact bRet_ok hr e (h2 rfl)

theorem eqGuard_int (op : BinOp) (t : TypeId) (x y : Operand) (a b : IntKind) (m n : Int) : (eqGuard op t x y (.int a m) (.int b n)).run P w = .ok () w := by cases op <;> rfl
theorem eqGuard_str (op : BinOp) (t : TypeId) (x y : Operand) (a b : ByteArray) : (eqGuard op t x y (.string a) (.string b)).run P w = .ok () w := by cases op <;> rfl
theorem eqGuard_ptr (op : BinOp) (t : TypeId) (x y : Operand) (a b : Option Addr) : (eqGuard op t x y (.pointer a) (.pointer b)).run P w = .ok () w := by cases op <;> rfl

theorem kidx_inj {a b : IntKind} (e : Nat.beq (kidx a) (kidx b) = true) : a = b := by
  have := Nat.eq_of_beq_eq_true e
  cases a <;> cases b <;> first | rfl | (simp [kidx] at this)
theorem bad1_no {e : bad1 h nx k = true} : False := by simp [bad1] at e
theorem else_of {a : Bool} {p : Prop} [Decidable p] (e : (Bool.rec (motive := fun _ => Bool) a false (decide p)) = true) : ¬ p ∧ a = true := by
  by_cases hp : p
  · rw [decide_eq_true hp] at e; cases e
  · rw [decide_eq_false hp] at e; exact ⟨hp, e⟩

theorem intBin_ok {op : BinOp} {kd : IntKind} {a b : Int} {t : TypeId} (hr : HRel β h nx w) (e : intBin op kd a b h nx k = true) (hsh : isShift op = false) :
    SemQ P (binOp op t (.int kd a) (.int kd b)) β h nx w k := by
  cases op
  case add => exact bInt_ok hr e (by simp [binOp, Op.intArith])
  case sub => exact bInt_ok hr e (by simp [binOp, Op.intArith])
  case mul => exact bInt_ok hr e (by simp [binOp, Op.intArith])
  case quo => obtain ⟨hb, e⟩ := else_of e; exact bInt_ok hr e (by simp [binOp, Op.intDiv, hb])
  case rem => obtain ⟨hb, e⟩ := else_of e; exact bInt_ok hr e (by simp [binOp, Op.intDiv, hb])
  case and => exact bInt_ok hr e (by simp [binOp, Op.intBits])
  case or => exact bInt_ok hr e (by simp [binOp, Op.intBits])
  case xor => exact bInt_ok hr e (by simp [binOp, Op.intBits])
  case andNot => exact bInt_ok hr e (by simp [binOp, Op.intBits])
  case eql => exact bRet_ok hr e (by simp [binOp, Op.intCmp])
  case neq => exact bRet_ok hr e (by simp [binOp, Op.intCmp])
  case lss => exact bRet_ok hr e (by simp [binOp, Op.intCmp])
  case leq => exact bRet_ok hr e (by simp [binOp, Op.intCmp])
  case gtr => exact bRet_ok hr e (by simp [binOp, Op.intCmp])
  case geq => exact bRet_ok hr e (by simp [binOp, Op.intCmp])
  case shl => cases hsh
  case shr => cases hsh
theorem shiftBin_ok {op : BinOp} {kd kd' : IntKind} {a b : Int} {t : TypeId} (hr : HRel β h nx w) (e : shiftBin op kd a b h nx k = true) :
    SemQ P (binOp op t (.int kd a) (.int kd' b)) β h nx w k := by
  cases op <;> first | (exfalso; simp [shiftBin, bad1] at e; done) | skip
  · obtain ⟨hb, e⟩ := else_of e; exact bInt_ok hr e (by simp [binOp, Op.shift, hb])
  · obtain ⟨hb, e⟩ := else_of e; exact bInt_ok hr e (by simp [binOp, Op.shift, hb])

theorem SemQ.guard {g : Sem Unit} {s : Sem Value} (hg : g.run P w = .ok () w) (hs : SemQ P s β h nx w k) : SemQ P (g >>= fun _ => s) β h nx w k := by
  obtain ⟨v, w', h1, h2⟩ := hs
  exact ⟨v, w', by simp [Sem.run_bind, hg, h1], h2⟩

theorem map_inj {a b : List UInt8} (e : a.map UInt8.toNat = b.map UInt8.toNat) : a = b := by
  induction a generalizing b with
  | nil => cases b with
    | nil => rfl
    | cons y b => simp at e
  | cons x a ih =>
    cases b with
    | nil => simp at e
    | cons y b =>
      simp at e
      rw [ih e.2, UInt8.toNat_inj.1 e.1]
theorem str_eq {a b : ByteArray} {l l' : List Nat} (ha : a.data.toList.map UInt8.toNat = l) (hb : b.data.toList.map UInt8.toNat = l') : (a.toList == b.toList) = natsEq l l' := by
  rw [natsEq_eq, ByteArray.toList_eq, ByteArray.toList_eq, ← ha, ← hb]
  by_cases h : a.data.toList = b.data.toList
  · rw [h]; simp
  · have h2 : a.data.toList.map UInt8.toNat ≠ b.data.toList.map UInt8.toNat := fun e => h (map_inj e)
    rw [beq_eq_false_iff_ne.2 h, beq_eq_false_iff_ne.2 h2]
theorem str_size {a : ByteArray} {l : List Nat} (ha : a.data.toList.map UInt8.toNat = l) : a.size = l.length := by
  rw [← ha, List.length_map, Array.length_toList]; rfl

theorem strBin_ok {op : BinOp} {a b : ByteArray} {l l' : List Nat} {t : TypeId} (ha : a.data.toList.map UInt8.toNat = l) (hb : b.data.toList.map UInt8.toNat = l')
    (hr : HRel β h nx w) (e : strBin op l l' h nx k = true) : SemQ P (binOp op t (.string a) (.string b)) β h nx w k := by
  cases op <;> first | (exfalso; simp [strBin, bad1] at e; done) | skip
  case add =>
    obtain ⟨h1, e⟩ := guard_of e
    rw [forceList_eq] at e
    have hlt : l.length + l'.length < 2 ^ 40 := by simpa [Nat.blt_eq] using h1
    refine .ret (v := .str (l ++ l')) hr ?_ (.str _ (a ++ b) ?_) e
    · rw [binOp_string_add]
      exact run_string_add_sum w a b (by rw [str_size ha, str_size hb]; omega)
    · rw [← ha, ← hb]; simp
  case eql => exact bRet_ok hr e (by rw [binOp_string_eql, str_eq ha hb]; rfl)
  case neq => exact bRet_ok hr e (by rw [binOp_string_neq, str_eq ha hb]; rfl)

theorem ptrT_info {t : TypeId} (e : ptrT P t = true) : ∃ el n, P.underlying t = some (.pointer el) ∧ sizeT P el = some (n + 1) := by
  unfold ptrT at e
  split at e
  · rename_i el h1
    split at e
    · rename_i n h2; exact ⟨el, n, h1, h2⟩
    · cases e
  · cases e
theorem ptrRet_ok {op : BinOp} {t : TypeId} {b : Bool} {x y : Option Addr} (hr : HRel β h nx w) (e : ptrRet P op t b h nx k = true)
    (hb : ∀ el n, P.underlying t = some (.pointer el) → sizeT P el = some (n + 1) → (Op.equal t (.pointer x) (.pointer y)).run P w = .ok b w) :
    SemQ P (binOp op t (.pointer x) (.pointer y)) β h nx w k := by
  obtain ⟨h1, e⟩ := guard_of e
  obtain ⟨el, n, hu, hs⟩ := ptrT_info h1
  have := hb el n hu hs
  refine eqRet_ok hr e ?_ ?_
  · rintro rfl; simp [binOp, this]
  · rintro rfl; simp [binOp, this]

/-- one of the two pointers, or both, nil -/
theorem ptr_nil_eq {t el : TypeId} (hu : P.underlying t = some (.pointer el)) (x y : Option Addr) {b : Bool} (hb : (match x, y with | none, y => some y.isNone | some _, none => some false | _, _ => none) = some b) :
    (Op.equal t (.pointer x) (.pointer y)).run P w = .ok b w := by
  have h1 : ∀ d, (Op.equalIn (d + 1) t (.pointer x) (.pointer y)).run P w = .ok b w := fun d => by
    cases x <;> cases y <;> simp at hb <;> simp only [Op.equalIn, Sem.run_bind, run_underlying hu, Result.andThen_ok, Sem.run_pure] <;> simp [← hb]
  exact h1 9999
/-! ### structs -/
theorem flatK_info {t : TypeId} : (flatK P t = .b → P.underlying t = some .bool) ∧ (flatK P t = .i → ∃ k, P.underlying t = some (.int k)) ∧ (flatK P t = .s → P.underlying t = some .string) := by
  unfold flatK
  split <;> simp_all
theorem flatEq_ok {t : TypeId} {x y : AV} {x' y' : Value} {r : Bool} (hx : VRel β x x') (hy : VRel β y y') (e : flatEq (flatK P t) x y = some r) (d : Nat) (vs : Array Value) (o : Nat) (ho : vs[o]? = some x') (us : Array Value) (ho2 : us[o]? = some y') :
    (part t vs o).run P w = .ok x' w ∧ (part t us o).run P w = .ok y' w ∧ (Op.equalIn (d + 1) t x' y').run P w = .ok r w := by
  obtain ⟨i1, i2, i3⟩ := flatK_info (P := P) (t := t)
  cases hk : flatK P t with
  | b =>
    rw [hk] at e
    have hu := i1 hk
    cases hx <;> first | (simp [flatEq] at e; done) | skip
    cases hy <;> first | (simp [flatEq] at e; done) | skip
    simp only [flatEq, Option.some.injEq] at e
    subst e
    exact ⟨by simp [part, isAgg, run_underlying hu, ho], by simp [part, isAgg, run_underlying hu, ho2], run_equalIn_bool' w d t _ _ hu⟩
  | i =>
    rw [hk] at e
    obtain ⟨kd, hu⟩ := i2 hk
    cases hx <;> first | (simp [flatEq] at e; done) | skip
    cases hy <;> first | (simp [flatEq] at e; done) | skip
    rename_i k a l b
    simp only [flatEq] at e
    cases hkk : Nat.beq (kidx k) (kidx l) with
    | false => rw [hkk] at e; cases e
    | true =>
      rw [hkk] at e
      have := kidx_inj hkk
      subst this
      simp only [cond_true, Option.some.injEq] at e
      subst e
      exact ⟨by simp [part, isAgg, run_underlying hu, ho], by simp [part, isAgg, run_underlying hu, ho2], run_equalIn_int w d t _ kd _ _ hu⟩
  | s =>
    rw [hk] at e
    have hu := i3 hk
    cases hx <;> first | (simp [flatEq] at e; done) | skip
    cases hy <;> first | (simp [flatEq] at e; done) | skip
    rename_i hs _ _ hs'
    simp only [flatEq, Option.some.injEq] at e
    subst e
    exact ⟨by simp [part, isAgg, run_underlying hu, ho], by simp [part, isAgg, run_underlying hu, ho2], (run_equalIn_string w d t _ _ hu).trans (by rw [str_eq hs hs'])⟩
  | no => rw [hk] at e; cases e
theorem fieldsEq_ok {xs ys : List AV} {vs us : List Value} (hx : LRel β xs vs) (hy : LRel β ys us) (d : Nat) : ∀ {fs : List Field} {r : Bool}, (fs.all fun f => !(f.name == "_")) = true → fieldsEq P xs ys fs = some r →
    (Op.eqFields (d + 1) vs.toArray us.toArray fs).run P w = .ok r w := by
  intro fs
  induction fs with
  | nil => intro r _ e; cases e; rfl
  | cons f fs ih =>
    intro r hn e
    simp only [List.all_cons, Bool.and_eq_true] at hn
    obtain ⟨hf, hn⟩ := hn
    have hf : f.name ≠ "_" := by simpa using hf
    simp only [fieldsEq] at e
    cases h1 : xs[f.offset]? with
    | none => rw [h1] at e; cases e
    | some a =>
      cases h2 : ys[f.offset]? with
      | none => rw [h1, h2] at e; cases e
      | some b =>
        rw [h1, h2] at e
        simp only [cellEq] at e
        obtain ⟨a', ha, hva⟩ := hx.get h1
        obtain ⟨b', hb, hvb⟩ := hy.get h2
        cases hq : flatEq (flatK P f.type) a b with
        | none => rw [hq] at e; cases e
        | some q =>
          rw [hq] at e
          obtain ⟨p1, p2, p3⟩ := flatEq_ok (P := P) (w := w) hva hvb hq d vs.toArray f.offset (by simpa using ha) us.toArray (by simpa using hb)
          cases q with
          | false =>
            cases e
            simp [Op.eqFields, hf, p1, p2, p3]
          | true =>
            have := ih hn e
            simp [Op.eqFields, hf, p1, p2, p3, this]
theorem aggRet_ok {op : BinOp} {t : TypeId} {xs ys : List AV} {vs us : List Value} {ox oy : Operand} (hr : HRel β h nx w) (hx : LRel β xs vs) (hy : LRel β ys us) (e : aggRet P op t xs ys h nx k = true) :
    SemQ P (do eqGuard op t ox oy (.agg vs.toArray) (.agg us.toArray); binOp op t (.agg vs.toArray) (.agg us.toArray)) β h nx w k := by
  obtain ⟨fs, hfs, e1⟩ := opt_of e
  clear e
  obtain ⟨r, hfe, e⟩ := opt_of e1
  clear e1
  unfold structEqT at hfs
  split at hfs
  · rename_i fa hu
    cases hc : (!P.stoodInHeld t && (!(P.eqGuardType P.depth t) && fa.toList.all fun f => !(f.name == "_"))) with
    | false => rw [hc] at hfs; cases hfs
    | true =>
      rw [hc] at hfs
      simp only [cond_true, Option.some.injEq] at hfs
      subst hfs
      simp only [Bool.and_eq_true, Bool.not_eq_true'] at hc
      obtain ⟨c1, c2, c3⟩ := hc
      have hff : P.fieldsOf t = fa := by simp [Program.fieldsOf, hu]
      have heq : (Op.equalIn 10000 t (.agg vs.toArray) (.agg us.toArray)).run P w = .ok r w := by
        rw [show (10000 : Nat) = 9999 + 1 from rfl, run_equalIn_struct w 9999 t vs.toArray us.toArray (by rw [hff]; exact hu) c1, hff]
        exact fieldsEq_ok hx hy 9998 (by simpa using c3) hfe
      refine .guard (run_eqGuard_agg w op t ox oy _ _ c2) (eqRet_ok hr e ?_ ?_)
      · rintro rfl; rw [run_eql_struct, heq]; rfl
      · rintro rfl; rw [run_neq_struct, heq]; rfl
  · cases hfs

theorem binA_ok {x y : AV} {x' y' : Value} {op : BinOp} {t : TypeId} {ox oy : Operand} (hr : HRel β h nx w) (hx : VRel β x x') (hy : VRel β y y') (e : binA P x op t y h nx k = true) :
    SemQ P (do eqGuard op t ox oy x' y'; binOp op t x' y') β h nx w k := by
  cases hx <;> first | (exfalso; simp [binA, bad1] at e; done) | skip
  case agg cs vs l1 l2 l3 =>
    cases hy <;> first | (exfalso; simp [binA, binAgg, bad1] at e; done) | skip
    rename_i cs2 us m1 m2 m3
    exact aggRet_ok hr ⟨l1, l2⟩ ⟨m1, m2⟩ e
  case int kd a =>
    cases hy <;> first | (exfalso; simp [binA, binInt, bad1] at e; done) | skip
    rename_i kd' b
    refine .guard (eqGuard_int ..) ?_
    have e : (Bool.rec (motive := fun _ => Bool) (Bool.rec false (intBin op kd a b h nx k) (Nat.beq (kidx kd) (kidx kd'))) (shiftBin op kd a b h nx k) (isShift op)) = true := e
    cases hsh : isShift op with
    | true => rw [hsh] at e; exact shiftBin_ok hr e
    | false =>
      rw [hsh] at e
      obtain ⟨h1, e2⟩ := guard_of e
      clear e
      obtain rfl := kidx_inj h1
      exact intBin_ok hr e2 hsh
  case str l s hs =>
    cases hy <;> first | (exfalso; simp [binA, binStr, bad1] at e; done) | skip
    rename_i l' s' hs'
    exact .guard (eqGuard_str ..) (strBin_ok hs hs' hr e)
  case ptr b off i hi =>
    cases hy <;> first | (exfalso; simp [binA, binPtr, bad1] at e; done) | skip
    · rename_i b' off' i' hi'
      refine .guard (eqGuard_ptr ..) ?_
      have e : (Bool.rec (motive := fun _ => Bool) false (ptrRet P op t (Nat.beq off off') h nx k) (Nat.beq b b')) = true := e
      obtain ⟨hbb, e2⟩ := guard_of e
      clear e
      obtain rfl := Nat.eq_of_beq_eq_true hbb
      rw [hi] at hi'; cases hi'
      refine ptrRet_ok hr e2 fun el n hu hs => ?_
      have h1 : ∀ d, (Op.equalIn (d + 1) t (.pointer (some ⟨i.blk, i.base + off, none⟩)) (.pointer (some ⟨i.blk, i.base + off', none⟩))).run P w = .ok (Nat.beq off off') w := fun d => by
        obtain ⟨ti, hti, hsz⟩ := sizeT_info hs
        have hne : ti.size ≠ 0 := by omega
        simp only [Op.equalIn, Sem.run_bind, run_underlying hu, Result.andThen_ok, Go.sizeOf, run_typeInfoA hti, Sem.run_pure, Sem.run_ite, hne, if_true, ne_eq, not_false_eq_true]
        simp only [sameAddr, beq_self_eq_true, if_true]
        show Result.ok ((⟨i.blk, i.base + off, none⟩ : Addr) == ⟨i.blk, i.base + off', none⟩) w = _
        congr 1
        cases hoo : Nat.beq off off' with
        | true => obtain rfl := Nat.eq_of_beq_eq_true hoo; simp
        | false =>
          have : off ≠ off' := fun e => by subst e; simp at hoo
          rw [beq_eq_false_iff_ne]
          intro he
          injection he with _ h2 _
          omega
      exact h1 9999
    · refine .guard (eqGuard_ptr ..) (ptrRet_ok hr e fun el n hu hs => ?_)
      exact ptr_nil_eq hu _ _ rfl
  case nilptr =>
    cases hy <;> first | (exfalso; simp [binA, binNilptr, bad1] at e; done) | skip
    · refine .guard (eqGuard_ptr ..) (ptrRet_ok hr e fun el n hu hs => ?_)
      exact ptr_nil_eq hu _ _ rfl
    · refine .guard (eqGuard_ptr ..) (ptrRet_ok hr e fun el n hu hs => ?_)
      exact ptr_nil_eq hu _ _ rfl

theorem unA_ok {x : AV} {x' : Value} {op : UnOp} (hr : HRel β h nx w) (hx : VRel β x x') (e : unA op x h nx k = true) : SemQ P (Op.unary op x') β h nx w k := by
  cases op <;> first | (exfalso; simp [unA, bad1] at e; done) | skip
  · cases hx <;> first | (exfalso; simp [unA, bad1] at e; done) | skip
    exact bInt_ok hr e (by simp [Op.unary, Op.intArith])
  · cases hx <;> first | (exfalso; simp [unA, bad1] at e; done) | skip
    exact bRet_ok hr e (by simp [Op.unary])

theorem ofNat_case {β2 : Type} {n : Int} : (∃ m, n = Int.ofNat m) ∨ ∃ m, n = Int.negSucc m := by cases n with | ofNat m => exact .inl ⟨m, rfl⟩ | negSucc m => exact .inr ⟨m, rfl⟩

theorem nthK_ok {l : List AV} {l' : List Value} {n : Nat} (hr : HRel β h nx w) (hl : LRel β l l') (e : nthK l n h nx k = true) {s : Sem Value} (hs : ∀ v, l'[n]? = some v → s.run P w = .ok v w) : SemQ P s β h nx w k := by
  obtain ⟨x, hx, e⟩ := opt_of e
  obtain ⟨y, hy, hv⟩ := hl.get hx
  exact .ret hr (hs y hy) hv e

theorem extractA_ok {x : AV} {x' : Value} {i : Nat} (hr : HRel β h nx w) (hx : VRel β x x') (e : extractA i x h nx k = true) : SemQ P (Instr.extract x' i) β h nx w k := by
  cases hx <;> first | (exfalso; simp [extractA, bad1] at e; done) | skip
  rename_i cs vs h1 h2
  refine nthK_ok hr ⟨h1, h2⟩ e fun v hv => ?_
  have : vs.toArray[i]? = some v := by simpa using hv
  simp [Instr.extract, this]

theorem ifaceOk_info {t : TypeId} (e : ifaceOk P t = true) : ∃ u, P.underlying t = some u ∧ ∀ ms, u ≠ .interface ms := by
  unfold ifaceOk at e
  split at e
  · cases e
  · rename_i u h1 h2; exact ⟨u, h2, fun ms hm => h1 ms hm⟩
  · cases e
theorem ifaceA_ok {x : AV} {x' : Value} {t : TypeId} (hr : HRel β h nx w) (hx : VRel β x x') (e : ifaceA P t x h nx k = true) : SemQ P (Instr.makeInterface t x') β h nx w k := by
  obtain ⟨h1, e⟩ := guard_of e
  obtain ⟨u, hu, hn⟩ := ifaceOk_info h1
  refine .ret hr ?_ (.iface t x x' hx) e
  unfold Instr.makeInterface
  simp only [Sem.run_bind, run_underlying hu, Result.andThen_ok]
  cases u <;> first | rfl | exact absurd rfl (hn _)

theorem fieldKind_info {t : TypeId} {f off : Nat} {kd : Option Nat} (e : fieldKind P t f = some (off, kd)) :
    ∃ (fs : Array Field) (x : Field), P.underlying t = some (.struct fs) ∧ fs[f]? = some x ∧ x.offset = off ∧ loadKind P x.type = some kd := by
  unfold fieldKind at e
  split at e
  · rename_i fs h1
    split at e
    · rename_i x h2
      cases hk : loadKind P x.type with
      | none => rw [hk] at e; cases e
      | some q => rw [hk] at e; cases e; exact ⟨fs, x, h1, h2, rfl, hk⟩
    · cases e
  · cases e
theorem partA_ok {ty : TypeId} {kd : Option Nat} {cs : List AV} {vs : List Value} {off : Nat} (hr : HRel β h nx w) (hl : LRel β cs vs) (hf : ∀ (j : Nat) a, cs[j]? = some a → a.flat = true)
    (hk : loadKind P ty = some kd) (e : partA kd cs off h nx k = true) : SemQ P (part ty vs.toArray off) β h nx w k := by
  cases kd with
  | none =>
    refine nthK_ok hr hl e fun v hv => ?_
    have : vs.toArray[off]? = some v := by simpa using hv
    simp [part, loadKind_one hk, this]
  | some s =>
    obtain ⟨h1, e⟩ := guard_of (show (Bool.rec (motive := fun _ => Bool) false (forceList ((cs.drop off).take s) fun l => k (.agg l) h nx) (Nat.ble (off + s) cs.length)) = true from e)
    rw [forceList_eq] at e
    obtain ⟨ha, hs⟩ := loadKind_many (w := w) hk
    have hl2 := (hl.drop off).take s
    refine .ret (v := .agg ((cs.drop off).take s)) (v' := .agg ((vs.drop off).take s).toArray) hr ?_ (.agg _ _ hl2.1 hl2.2 fun j a ha => ?_) e
    · simp [part, ha, run_sizeA hs, List.take_drop]
    · by_cases hj : j < s
      · rw [List.getElem?_take_of_lt hj, List.getElem?_drop] at ha; exact hf _ _ ha
      · rw [List.getElem?_take_eq_none (by omega)] at ha; cases ha
theorem fieldA_ok {x : AV} {x' : Value} {t : TypeId} {f : Nat} (hr : HRel β h nx w) (hx : VRel β x x') (e : fieldA P t f x h nx k = true) : SemQ P (Instr.field t x' f) β h nx w k := by
  cases hx <;> first | (exfalso; simp [fieldA, bad1] at e; done) | skip
  rename_i cs vs h1 h2 h3
  obtain ⟨⟨off, kd⟩, hk, e⟩ := opt_of e
  obtain ⟨fs, x, hu, hx, rfl, hkd⟩ := fieldKind_info hk
  obtain ⟨v, w', hs, ho⟩ := partA_ok (P := P) hr ⟨h1, h2⟩ h3 hkd e
  exact ⟨v, w', by simp [Instr.field, run_underlying hu, hx, asAgg, hs], ho⟩

theorem isStrT_info {t : TypeId} (e : isStrT P t = true) : P.underlying t = some .string := by
  unfold isStrT at e
  split at e
  · assumption
  · cases e
theorem indexA_ok {x i : AV} {x' i' : Value} {t : TypeId} (hr : HRel β h nx w) (hx : VRel β x x') (hi : VRel β i i') (e : indexA P t x i h nx k = true) : SemQ P (Instr.index t x' i') β h nx w k := by
  cases hx <;> first | (exfalso; simp [indexA, bad1] at e; done) | skip
  rename_i l s hs
  cases hi <;> first | (exfalso; simp [indexA, strIdx, bad1] at e; done) | skip
  rename_i kd n
  cases n with
  | negSucc m => (exfalso; simp [indexA, strIdx, bad1] at e; done)
  | ofNat n =>
    obtain ⟨h1, e⟩ := guard_of (show (Bool.rec (motive := fun _ => Bool) false (Option.rec (motive := fun _ => Bool) false (fun c => k (.int .u8 (.ofNat c)) h nx) l[n]?) (isStrT P t)) = true from e)
    obtain ⟨c, hc, e⟩ := opt_of e
    have hu := isStrT_info h1
    have hn : n < s.size := by rw [str_size hs]; exact (List.getElem?_eq_some_iff.1 hc).1
    have hb : s[n].toNat = c := by
      rw [← hs, List.getElem?_map] at hc
      have h2 : s.data.toList[n]? = some s[n] := by
        rw [Array.getElem?_toList]
        exact Array.getElem?_eq_getElem (show n < s.data.size from hn)
      rw [h2] at hc; simpa using hc
    refine .ret (v := .int .u8 (.ofNat c)) (v' := .int .u8 (s[n].toNat)) hr ?_ (by rw [hb]; exact .int _ _) e
    have h3 := ByteArray.getElem?_lt' s n hn
    simp [Instr.index, asIntOf, run_underlying hu, h3]

theorem natOf_ok {x : Option AV} {y : Option Value} {dflt n : Nat} (h1 : VOpt β x y) (e : natOf dflt x = some n) : (x = none ∧ y = none ∧ n = dflt) ∨ ∃ kd, y = some (.int kd (n : Int)) := by
  cases x with
  | none => cases y with
    | none => exact .inl ⟨rfl, rfl, by simpa [natOf] using e.symm⟩
    | some y => exact h1.elim
  | some a => cases y with
    | none => exact h1.elim
    | some v =>
      cases (show VRel β a v from h1) <;> first | (exfalso; simp [natOf] at e; done) | skip
      rename_i kd m
      cases m with
      | negSucc m => (exfalso; simp [natOf] at e; done)
      | ofNat m => exact .inr ⟨kd, by simp [natOf] at e; subst e; rfl⟩
theorem run_sliceBound {kd : IntKind} {n y : Nat} {code : BoundsCode} (hn : n ≤ y) : (Instr.sliceBound (.int kd (n : Int)) y code).run P w = .ok n w := by
  have : (n : Int) ≤ y := by omega
  simp [Instr.sliceBound, asIntOf, this]
/-- the three bounds of a slice expression with two -/
theorem run_sliceBounds {isS : Bool} {len cap l r : Nat} {lo hi : Option AV} {lo' hi' : Option Value} (hlo : VOpt β lo lo') (hhi : VOpt β hi hi')
    (e1 : natOf 0 lo = some l) (e2 : natOf len hi = some r) (h1 : l ≤ r) (h2 : r ≤ cap) : (Instr.sliceBounds isS len cap lo' hi' none).run P w = .ok (l, r, cap) w := by
  unfold Instr.sliceBounds
  rcases natOf_ok hhi e2 with ⟨_, rfl, rfl⟩ | ⟨kd, rfl⟩ <;> rcases natOf_ok hlo e1 with ⟨_, rfl, rfl⟩ | ⟨kd', rfl⟩
  · simp
  · simp [run_sliceBound h1]
  · simp [run_sliceBound h2]
  · simp [run_sliceBound h1, run_sliceBound h2]
theorem sliceElem_info {t e n : Nat} (he : sliceElem P t = some (e, n)) : P.underlying t = some (.slice e) ∧ sizeT P e = some n := by
  unfold sliceElem at he
  split at he
  · rename_i el h1
    cases hs : sizeT P el with
    | none => rw [hs] at he; cases he
    | some m => rw [hs] at he; cases he; exact ⟨h1, hs⟩
  · cases he
theorem optN_of {o : Option Nat} {f : Nat → Bool} (e : optN o f = true) : ∃ x, o = some x ∧ f x = true := opt_of e

theorem sliceA_ok {x : AV} {x' : Value} {t : TypeId} {lo hi mx : Option AV} {lo' hi' mx' : Option Value} (hr : HRel β h nx w) (hx : VRel β x x') (hlo : VOpt β lo lo') (hhi : VOpt β hi hi') (hmx : VOpt β mx mx')
    (e : sliceA P t x lo hi mx h nx k = true) : SemQ P (Instr.sliceAt t x' lo' hi' mx') β h nx w k := by
  cases hx <;> first | (exfalso; simp [sliceA, bad1] at e; done) | skip
  case str l s hs =>
    obtain ⟨a, ha, e⟩ := optN_of e
    obtain ⟨b, hb, e⟩ := optN_of e
    obtain ⟨h1, e2⟩ := guard_of e
    clear e
    rw [forceList_eq] at e2
    simp only [Bool.and_eq_true, Option.isNone_iff_eq_none] at h1
    obtain ⟨⟨⟨h1, h2⟩, rfl⟩, h4⟩ := h1
    have h1 := Nat.le_of_ble_eq_true h1
    have h2 := Nat.le_of_ble_eq_true h2
    have hu := isStrT_info h4
    obtain rfl : mx' = none := by cases mx' with | none => rfl | some v => exact hmx.elim
    have hb2 : natOf s.size hi = some b := by rw [str_size hs]; exact hb
    refine .ret (v := .str ((l.drop a).take (b - a))) (v' := .string (s.extract a b)) hr ?_ (.str _ _ ?_) e2
    · have hb3 := run_sliceBounds (P := P) (w := w) (isS := false) hlo hhi ha hb2 h1 (show b ≤ s.size by rw [str_size hs]; exact h2)
      simp [Instr.sliceAt, Instr.slice, run_underlying hu, hb3]
    · rw [← hs]
      simp [ByteArray.data_extract, List.map_take, List.map_drop]
  case slice b off len mc es cap i hi1 hi2 hi3 hi4 =>
    obtain ⟨⟨el, n⟩, hse, e⟩ := opt_of e
    obtain ⟨a, ha, e⟩ := optN_of e
    obtain ⟨r, hb, e⟩ := optN_of e
    obtain ⟨h1, e2⟩ := guard_of e
    clear e
    simp only [Bool.and_eq_true, Option.isNone_iff_eq_none] at h1
    obtain ⟨⟨⟨h1, h2⟩, rfl⟩, h4⟩ := h1
    have h1 := Nat.le_of_ble_eq_true h1
    have h2 := Nat.le_of_ble_eq_true h2
    obtain rfl := Nat.eq_of_beq_eq_true h4
    obtain ⟨hu, hs⟩ := sliceElem_info hse
    obtain rfl : mx' = none := by cases mx' with | none => rfl | some v => exact hmx.elim
    have hb3 := run_sliceBounds (P := P) (w := w) (isS := true) hlo hhi ha hb h1 (show r ≤ cap by omega)
    have key : (Instr.sliceAt t (.slice (some ⟨i.blk, i.base + off, none⟩) len cap) lo' hi' none).run P w =
        .ok (.slice (if cap = a then some ⟨i.blk, i.base + off, none⟩ else some ((⟨i.blk, i.base + off, none⟩ : Addr).add (a * n))) (r - a) (cap - a)) w := by
      simp [Instr.sliceAt, Instr.slice, run_underlying hu, hb3, run_sizeA hs]
    have hadd : (⟨i.blk, i.base + off, none⟩ : Addr).add (a * n) = ⟨i.blk, i.base + (off + a * n), none⟩ := by
      unfold Addr.add; split
      · rename_i h0; rw [h0]; rfl
      · simp [Nat.add_assoc]
    cases hc : (Nat.beq a mc && Nat.ble 1 a) with
    | true =>
      rw [hc] at e2
      simp only [Bool.and_eq_true] at hc
      have := Nat.eq_of_beq_eq_true hc.1
      have h0 : r - a = 0 := by omega
      rw [h0] at key
      by_cases hca : cap = a
      · rw [if_pos hca] at key; exact .ret hr key (.eslice _ _) e2
      · rw [if_neg hca] at key; exact .ret hr key (.eslice _ _) e2
    | false =>
      rw [hc] at e2
      simp only [forceNat_eq] at e2
      have hm : a * n + (cap - a) * n = cap * n := by rw [← Nat.add_mul]; congr 1; omega
      have key2 : (Instr.sliceAt t (.slice (some ⟨i.blk, i.base + off, none⟩) len cap) lo' hi' none).run P w = .ok (.slice (some ⟨i.blk, i.base + (off + a * n), none⟩) (r - a) (cap - a)) w := by
        by_cases hca : cap = a
        · rw [if_pos hca] at key
          have ha0 : a = 0 := by
            simp only [Bool.and_eq_false_iff] at hc
            rcases hc with hc | hc
            · have : a ≠ mc := fun e => by subst e; simp at hc
              omega
            · have : ¬ 1 ≤ a := fun e => by rw [Nat.ble_eq_true_of_le e] at hc; cases hc
              omega
          rw [key, ha0]; simp
        · rw [if_neg hca, hadd] at key; exact key
      refine .ret hr key2 (.slice b (off + a * n) (r - a) (mc - a) n (cap - a) i hi1 (by omega) (by omega) ⟨fun h => by have := hi4.1 h; omega, fun h => ⟨(hi4.2 h).1, by have := (hi4.2 h).2; omega⟩⟩) e2
  case eslice ad cap =>
    obtain ⟨⟨el, n⟩, hse, e⟩ := opt_of e
    obtain ⟨a, ha, e⟩ := optN_of e
    obtain ⟨r, hb, e⟩ := optN_of e
    obtain ⟨h1, e2⟩ := guard_of e
    clear e
    simp only [Bool.and_eq_true, Option.isNone_iff_eq_none] at h1
    obtain ⟨⟨h1, h2⟩, rfl⟩ := h1
    obtain rfl := Nat.eq_of_beq_eq_true h1
    obtain rfl := Nat.eq_of_beq_eq_true h2
    obtain ⟨hu, hs⟩ := sliceElem_info hse
    obtain rfl : mx' = none := by cases mx' with | none => rfl | some v => exact hmx.elim
    have hb3 := run_sliceBounds (P := P) (w := w) (isS := true) (cap := cap) hlo hhi ha hb (Nat.le_refl _) (Nat.zero_le _)
    refine .ret hr ?_ (.eslice ad cap) e2
    simp [Instr.sliceAt, Instr.slice, run_underlying hu, hb3, run_sizeA hs, Addr.add]
  case nilslice =>
    obtain ⟨⟨el, n⟩, hse, e⟩ := opt_of e
    obtain ⟨a, ha, e⟩ := optN_of e
    obtain ⟨r, hb, e⟩ := optN_of e
    obtain ⟨h1, e2⟩ := guard_of e
    clear e
    simp only [Bool.and_eq_true, Option.isNone_iff_eq_none] at h1
    obtain ⟨⟨h1, h2⟩, rfl⟩ := h1
    obtain rfl := Nat.eq_of_beq_eq_true h1
    obtain rfl := Nat.eq_of_beq_eq_true h2
    obtain ⟨hu, hs⟩ := sliceElem_info hse
    obtain rfl : mx' = none := by cases mx' with | none => rfl | some v => exact hmx.elim
    have hb3 := run_sliceBounds (P := P) (w := w) (isS := true) (cap := 0) hlo hhi ha hb (Nat.le_refl _) (Nat.le_refl _)
    refine .ret hr ?_ .nilslice e2
    simp [Instr.sliceAt, Instr.slice, run_underlying hu, hb3, run_sizeA hs]
end Am
set_option linter.unusedVariables false
set_option linter.unusedSimpArgs false
namespace Am
open Go
variable {P : Program} {β : Beta} {h : HP} {nx : Nat} {w : World} {k : KV}

/-- the cells that a live block of either make has -/
theorem withCells_of {b : Nat} {i : BI} {f : Nat → TM → Nat → Bool} (hr : HRel β h nx w) (hi : β b = some i) (e : withCells (hget h b) f = true) :
    ∃ d t n, CRel β d t n i w ∧ f d t n = true := by
  have hb := (VRel.lt hr hi).1
  cases ho : hget h b with
  | dead => rw [ho] at e; cases e
  | hole => rw [ho] at e; cases e
  | map es => rw [ho] at e; cases e
  | loop => rw [ho] at e; cases e
  | glob g => rw [ho] at e; cases e
  | cells tg d t n =>
    obtain ⟨j, h1, _, h2⟩ := hr.obj b hb (by rw [ho]; rfl)
    rw [hi] at h1; cases h1
    rw [ho] at e h2; exact ⟨d, t, n, h2.1, e⟩
  | rcells d t n =>
    obtain ⟨j, h1, _, h2⟩ := hr.obj b hb (by rw [ho]; rfl)
    rw [hi] at h1; cases h1
    rw [ho] at e h2; exact ⟨d, t, n, h2, e⟩
theorem withWCells_of {b : Nat} {i : BI} {f : Nat → Nat → TM → Nat → Bool} (hr : HRel β h nx w) (hi : β b = some i) (e : withWCells (hget h b) f = true) :
    ∃ tg d t n, hget h b = .cells tg d t n ∧ CRel β d t n i w ∧ TagT tg i w ∧ f tg d t n = true := by
  have hb := (VRel.lt hr hi).1
  cases ho : hget h b with
  | dead => rw [ho] at e; cases e
  | hole => rw [ho] at e; cases e
  | map es => rw [ho] at e; cases e
  | loop => rw [ho] at e; cases e
  | rcells => rw [ho] at e; cases e
  | glob => rw [ho] at e; cases e
  | cells tg d t n =>
    obtain ⟨j, h1, _, h2⟩ := hr.obj b hb (by rw [ho]; rfl)
    rw [hi] at h1; cases h1
    rw [ho] at e h2; exact ⟨tg, d, t, n, rfl, h2.1, h2.2, e⟩
theorem withMap_of {b : Nat} {i : BI} {f : List (List Nat × AV) → Bool} (hr : HRel β h nx w) (hi : β b = some i) (e : withMap (hget h b) f = true) :
    ∃ es es' clock, hget h b = .map es ∧ w.heap[i.blk]? = some (.map es' clock) ∧ ERel β es es'.toList ∧ f es = true := by
  have hb := (VRel.lt hr hi).1
  cases ho : hget h b with
  | dead => rw [ho] at e; cases e
  | hole => rw [ho] at e; cases e
  | cells => rw [ho] at e; cases e
  | glob => rw [ho] at e; cases e
  | rcells => rw [ho] at e; cases e
  | loop => rw [ho] at e; cases e
  | map es =>
    obtain ⟨j, h1, _, h2⟩ := hr.obj b hb (by rw [ho]; rfl)
    rw [hi] at h1; cases h1
    rw [ho] at e h2
    obtain ⟨es', c, h3, h4⟩ := h2
    exact ⟨es, es', c, rfl, h3, h4, e⟩

theorem CRel.cell {d : Nat} {t : TM} {n : Nat} {i : BI} (hc : CRel β d t n i w) {j : Nat} (hj : j < n) :
    ∃ v, w.cell? ⟨i.blk, i.base + j, none⟩ = some v ∧ VRel β (Tr.get d t j) v ∧ v.oneCell' = true := by
  obtain ⟨cs, e, h1, h2, h3, h4⟩ := hc.ex
  obtain ⟨v, a, b, c⟩ := h4 j hj
  exact ⟨v, by simp [World.cell?, h1, a], b, c⟩
/-- cells read one behind another -/
theorem CRel.many {d : Nat} {t : TM} {n : Nat} {i : BI} (hc : CRel β d t n i w) (s off : Nat) (hs : off + s ≤ n) :
    ∃ vs : List Value, LRel β (getMany d t s off) vs ∧ (∀ v ∈ vs, v.oneCell' = true) ∧ ∀ (j : Nat) v, vs[j]? = some v → w.cell? ((⟨i.blk, i.base + off, none⟩ : Addr).add j) = some v := by
  induction s generalizing off with
  | zero => exact ⟨[], .nil β, fun v hv => by simp at hv, fun j v hv => by simp at hv⟩
  | succ s ih =>
    obtain ⟨v, h1, h2, h3⟩ := hc.cell (j := off) (by omega)
    obtain ⟨vs, h4, h5, h6⟩ := ih (off + 1) (by omega)
    refine ⟨v :: vs, .cons h2 h4, fun u hu => ?_, fun j u hu => ?_⟩
    · rcases List.mem_cons.1 hu with rfl | hu
      · exact h3
      · exact h5 u hu
    · cases j with
      | zero => simp at hu; subst hu; simpa [Addr.add] using h1
      | succ j =>
        have h7 := h6 j u (by simpa using hu)
        have h8 : (⟨i.blk, i.base + off, none⟩ : Addr).add (j + 1) = (⟨i.blk, i.base + (off + 1), none⟩ : Addr).add j := by
          unfold Addr.add
          rw [if_neg (by omega)]
          split
          · rename_i h0; subst h0; simp [Nat.add_assoc]
          · simp; omega
        rw [h8]; exact h7
theorem run_loadMany {d : Nat} {t : TM} {n : Nat} {i : BI} (hc : CRel β d t n i w) (s off : Nat) (hs : off + s ≤ n) :
    ∃ vs : List Value, LRel β (getMany d t s off) vs ∧ (∀ v ∈ vs, v.oneCell' = true) ∧ (loadCells ⟨i.blk, i.base + off, none⟩ s).run P w = .ok vs.toArray w := by
  obtain ⟨vs, h1, h2, h3⟩ := hc.many s off hs
  have hl : vs.length = s := by rw [← h1.1, length_getMany]
  refine ⟨vs, h1, h2, ?_⟩
  have := run_loadCells_list (P := P) w ⟨i.blk, i.base + off, none⟩ vs h3
  rwa [hl] at this

theorem loadA_ok {x : AV} {x' : Value} {t : TypeId} (hr : HRel β h nx w) (hx : VRel β x x') (e : loadA P t x h nx k = true) : SemQ P (Instr.loadAt t x') β h nx w k := by
  cases hx <;> first | (exfalso; simp [loadA, bad1] at e; done) | skip
  rename_i b off i hi
  have e : loadP (loadKind P t) b off h nx k = true := e
  cases hk : loadKind P t with
  | none => rw [hk] at e; cases e
  | some kd =>
    rw [hk] at e
    cases kd with
    | none =>
      have e : Tr.getK DH h b (fun o => withCells o fun d t n => Bool.rec false (Tr.getK d t off fun v => k v h nx) (Nat.blt off n)) = true := e
      rw [Tr.getK_eq] at e
      obtain ⟨d, tt, n, hc, e⟩ := withCells_of hr hi e
      obtain ⟨h1, e⟩ := guard_of e
      have h1 : off < n := by simpa [Nat.blt_eq] using h1
      rw [Tr.getK_eq] at e
      obtain ⟨v, h2, h3, _⟩ := hc.cell h1
      exact .ret hr (by simp [Instr.loadAt, Instr.sureAddr, loadVar, loadKind_one hk, h2]) h3 e
    | some s =>
      have e : Tr.getK DH h b (fun o => withCells o fun d t n => Bool.rec false (loadL d t s off fun l => k (.agg l) h nx) (Nat.ble (off + s) n)) = true := e
      rw [Tr.getK_eq] at e
      obtain ⟨d, tt, n, hc, e⟩ := withCells_of hr hi e
      obtain ⟨h1, e⟩ := guard_of e
      have h1 := Nat.le_of_ble_eq_true h1
      rw [loadL_eq] at e
      obtain ⟨ha, hs⟩ := loadKind_many (w := w) hk
      obtain ⟨vs, h2, h3, h4⟩ := run_loadMany (P := P) hc s off h1
      refine .ret (v := .agg (getMany d tt s off)) (v' := .agg vs.toArray) hr (by simp [Instr.loadAt, Instr.sureAddr, loadVar, ha, run_sizeA hs, h4]) (.agg _ _ h2.1 h2.2 fun j a hj => ?_) e
      have hj2 : j < vs.length := by rw [← h2.1]; exact (List.getElem?_eq_some_iff.1 hj).1
      have h5 := h2.2 j a vs[j] hj (List.getElem?_eq_getElem hj2)
      rw [h5.flat]; exact h3 _ (List.getElem_mem hj2)

theorem fieldOff_info {t : TypeId} {f off : Nat} (e : fieldOff P t f = some off) :
    ∃ (fs : Array Field) (x : Field) (n : Nat), P.underlying t = some (.struct fs) ∧ fs[f]? = some x ∧ sizeT P x.type = some (n + 1) ∧ x.offset = off := by
  unfold fieldOff at e
  split at e
  · rename_i fs h1
    split at e
    · rename_i x h2
      split at e
      · rename_i n h3; cases e; exact ⟨fs, x, n, h1, h2, h3, rfl⟩
      · cases e
    · cases e
  · cases e
theorem addr_add (b o n : Nat) : (⟨b, o, none⟩ : Addr).add n = ⟨b, o + n, none⟩ := by
  unfold Addr.add; split
  · rename_i h0; rw [h0]; rfl
  · rfl
theorem fieldAddrA_ok {x : AV} {x' : Value} {t : TypeId} {f : Nat} (hr : HRel β h nx w) (hx : VRel β x x') (e : fieldAddrA P t f x h nx k = true) : SemQ P (Instr.fieldAt t x' f) β h nx w k := by
  cases hx <;> first | (exfalso; simp [fieldAddrA, bad1] at e; done) | skip
  rename_i b off i hi
  obtain ⟨p, hp, e⟩ := opt_of (show (Option.rec (motive := fun _ => Bool) false (fun p => ptrK b (off + p) h nx k) (fieldOff P t f)) = true from e)
  obtain ⟨fs, x, n, h1, h2, h3, rfl⟩ := fieldOff_info hp
  refine .ret (v := .ptr b (off + x.offset)) hr ?_ (.ptr b (off + x.offset) i hi) e
  simp [Instr.fieldAt, run_underlying h1, h2, Instr.sureAddr, fieldPlace, run_sizeA h3, addr_add, Nat.add_assoc]

theorem indexAddrA_ok {x j : AV} {x' j' : Value} {t : TypeId} (hr : HRel β h nx w) (hx : VRel β x x') (hj : VRel β j j') (e : indexAddrA P t x j h nx k = true) : SemQ P (Instr.indexAt t x' j') β h nx w k := by
  cases hx <;> first | (exfalso; simp [indexAddrA, bad1] at e; done) | skip
  rename_i b off len mc es cap i hi _ _ _
  cases hj <;> first | (exfalso; simp [indexAddrA, idxSlice, bad1] at e; done) | skip
  rename_i kd n
  cases n with
  | negSucc m => exfalso; simp [indexAddrA, idxSlice, bad1] at e
  | ofNat n =>
    obtain ⟨⟨el, s⟩, hp, e⟩ := opt_of (show (Option.rec (motive := fun _ => Bool) false (fun p => Bool.rec false (ptrK b (off + n * p.2) h nx k) (Nat.blt n len)) (sliceElem P t)) = true from e)
    obtain ⟨h1, e⟩ := guard_of e
    have h1 : n < len := by simpa [Nat.blt_eq] using h1
    obtain ⟨hu, hs⟩ := sliceElem_info hp
    have h2 : (n : Int) < len := by omega
    refine .ret (v := .ptr b (off + n * s)) hr ?_ (.ptr b (off + n * s) i hi) e
    have h3 : ¬ len ≤ n := by omega
    simp [Instr.indexAt, asIntOf, run_underlying hu, h1, h3, run_sizeA hs, addr_add, Nat.add_assoc]

/-! ### writing -/
theorem heap_setRow_other (w : World) (g x : Nat) (cs : Array Value) (hx : x ≠ g) : (w.setRow g cs).heap[x]? = w.heap[x]? := by
  show (w.heap.modify g _)[x]? = _
  rw [Array.getElem?_modify, if_neg (fun e => hx e.symm)]
theorem size_setRow (w : World) (g : Nat) (cs : Array Value) : (w.setRow g cs).heap.size = w.heap.size := by
  show (w.heap.modify g _).size = _
  rw [Array.size_modify]
theorem frozen_setRow (w : World) (g : Nat) (old cs : Array Value) (e : TypeId) (hg : w.heap[g]? = some (.cells old e (0, 0))) (a : Addr) : (w.setRow g cs).frozen? a = w.frozen? a := by
  by_cases h : a.block = g
  · simp only [World.frozen?, h, setRow_heap w g old cs e (0, 0) hg, hg]
  · simp only [World.frozen?, heap_setRow_other w g a.block cs h]

/-- a list stored into a block's known cells (or behind them, as far as the model's block reaches) -/
theorem CRel.store {d : Nat} {t : TM} {n : Nat} {i : BI} (hc : CRel β d t n i w) {vs : List AV} {vs' : List Value} (hl : LRel β vs vs') (h1 : ∀ v ∈ vs', v.oneCell' = true) (off : Nat)
    (hfit : i.base + off + vs.length ≤ i.sz) :
    ∃ cs e, w.heap[i.blk]? = some (.cells cs e (0, 0)) ∧ cs.size = i.sz ∧
      (storeCells ⟨i.blk, i.base + off, none⟩ vs').run P w = .ok () (w.setRow i.blk (cs.toList.take (i.base + off) ++ vs' ++ cs.toList.drop (i.base + off + vs'.length)).toArray) := by
  obtain ⟨cs, e, h2, h3, h4, h5⟩ := hc.ex
  refine ⟨cs, e, h2, h3, ?_⟩
  have := run_storeCells_at P i.blk (i.base + off) e vs' 0 cs w h2 (by rw [← hl.1]; omega) h1
  simpa using this

theorem getElem_splice {l vs : List Value} {o j : Nat} (ho : o + vs.length ≤ l.length) :
    (l.take o ++ vs ++ l.drop (o + vs.length))[j]? = if o ≤ j ∧ j < o + vs.length then vs[j - o]? else l[j]? := by
  by_cases h1 : j < o
  · rw [if_neg (by omega), List.append_assoc, List.getElem?_append_left (by simp; omega), List.getElem?_take_of_lt h1]
  · by_cases h2 : j < o + vs.length
    · rw [if_pos ⟨by omega, h2⟩, List.append_assoc, List.getElem?_append_right (by simp; omega), List.getElem?_append_left (by simp; omega)]
      congr 1; simp; omega
    · rw [if_neg (by omega), List.getElem?_append_right (by simp; omega)]
      simp only [List.length_append, List.length_take, List.getElem?_drop]
      congr 1
      omega

/-- after the store the block's first n' cells are known -/
theorem CRel.stored {d : Nat} {t : TM} {n : Nat} {i : BI} (hc : CRel β d t n i w) {vs : List AV} {vs' : List Value} (hl : LRel β vs vs') (h1 : ∀ v ∈ vs', v.oneCell' = true) (off n' : Nat)
    (hfit : i.base + off + vs.length ≤ i.sz) {cs : Array Value} {e : TypeId} (h2 : w.heap[i.blk]? = some (.cells cs e (0, 0))) (h3 : cs.size = i.sz) (hn : n' ≤ 2 ^ d) (hoff : off ≤ n) (hn' : n' ≤ n ∨ n' ≤ off + vs.length) (hend : i.base + n' ≤ i.sz) (hd : off + vs.length ≤ 2 ^ d) :
    CRel β d (setMany d vs t off) n' i (w.setRow i.blk (cs.toList.take (i.base + off) ++ vs' ++ cs.toList.drop (i.base + off + vs'.length)).toArray) := by
  obtain ⟨cs2, e2, k2, k3, k4, k5⟩ := hc.ex
  rw [h2] at k2; cases k2
  have hlen : i.base + off + vs'.length ≤ cs.toList.length := by rw [← hl.1]; simp; omega
  refine ⟨hn, _, e, setRow_heap w i.blk cs _ e (0, 0) h2, ?_, hend, fun j hj => ?_⟩
  · rw [← h3]; simp at hlen ⊢; omega
  · have hj2 : j < 2 ^ d := by omega
    rw [get_setMany d vs t off j hd hj2]
    simp only [List.getElem?_toArray]
    rw [getElem_splice hlen]
    by_cases hin : off ≤ j ∧ j < off + vs.length
    · rw [if_pos (by rw [← hl.1]; omega), if_pos hin.1]
      have hx : vs[j - off]? = some (vs[j - off]'(by omega)) := List.getElem?_eq_getElem (by omega)
      obtain ⟨y, hy, hv⟩ := hl.get hx
      rw [hx]
      refine ⟨y, ?_, hv, h1 _ (List.mem_of_getElem? hy)⟩
      rw [← hy]; congr 1; omega
    · rw [if_neg (by rw [← hl.1]; omega)]
      have hjn : j < n := by omega
      obtain ⟨v, a, b, c⟩ := k5 j hjn
      refine ⟨v, by simpa using a, ?_, c⟩
      by_cases ho : off ≤ j
      · rw [if_pos ho, List.getElem?_eq_none (by omega)]; exact b
      · rw [if_neg ho]; exact b

theorem TagT.setRow {tg : Nat} {i : BI} {cs : Array Value} {e : TypeId} (h : TagT tg i w) (k1 : w.heap[i.blk]? = some (.cells cs e (0, 0))) {cs2 : Array Value} : TagT tg i (w.setRow i.blk cs2) := by
  obtain ⟨cs3, fz, h1, h2⟩ := h
  rw [h1] at k1; cases k1
  exact ⟨_, _, setRow_heap w i.blk cs _ _ _ h1, h2⟩
theorem storeA_ok {x v : AV} {x' v' : Value} {t : TypeId} (hr : HRel β h nx w) (hx : VRel β x x') (hv : VRel β v v') (e : storeA P t v x h nx k = true) :
    ∃ w', (Instr.storeAt t x' v').run P w = .ok () w' ∧ OutV β h nx w k undef w' := by
  cases hx <;> first | (exfalso; simp [storeA, bad1] at e; done) | skip
  rename_i b off i hi
  obtain ⟨s, hs, e⟩ := opt_of (show (Option.rec (motive := fun _ => Bool) false (fun s => Tr.getK DH h b fun o => withWCells o fun tg d t n =>
    Bool.rec false (storeL d (cellsOf v) t off fun t => Tr.setK DH h b (.cells tg d t n) fun h => k undefA h nx) (Nat.beq (cellsOf v).length s && Nat.ble (off + (cellsOf v).length) n && allFlat (cellsOf v))) (sizeT P t)) = true from e)
  rw [Tr.getK_eq] at e
  obtain ⟨tg, d, tt, n, ho, hc, htg, e⟩ := withWCells_of hr hi e
  obtain ⟨h1, e⟩ := guard_of e
  rw [storeL_eq, Tr.setK_eq] at e
  simp only [Bool.and_eq_true] at h1
  obtain ⟨⟨h1, h2⟩, h3⟩ := h1
  have h1 := Nat.eq_of_beq_eq_true h1
  have h2 := Nat.le_of_ble_eq_true h2
  have hl := hv.cells
  have hone := hl.oneCell h3
  have hcx := hc.ex
  obtain ⟨_, _, _, _, hb4, _⟩ := hcx
  have hfit : i.base + off + (cellsOf v).length ≤ i.sz := by omega
  obtain ⟨cs, el, k1, k2, k3⟩ := hc.store (P := P) hl hone off hfit
  have hnd := hc.fit
  have hc2 := hc.stored hl hone off n hfit k1 k2 hnd (by omega) (.inl (Nat.le_refl _)) (by omega) (by omega)
  obtain ⟨hr2, hst⟩ := hr.turn hi (by rw [ho]; rfl) (.cells tg d (setMany d (cellsOf v) tt off) n) (.inl rfl) (size_setRow ..) (fun x hx => heap_setRow_other _ _ _ _ hx) ⟨hc2, htg.setRow k1⟩
  refine ⟨_, ?_, β, undefA, _, nx, hr2, hst, .tuple [] [] rfl (fun j a v hh => by simp at hh), e⟩
  have hsz : v'.cells.size = s := by rw [← h1, hl.1]; simp
  simp [Instr.storeAt, Instr.sureAddr, storeVar, run_sizeA hs, hsz, k3]

theorem half_odd (n : Nat) : (2 * n + 1) / 2 = n := by omega
/-! ### new blocks -/
theorem ORel_cells_new {op : Bool} (d : Nat) (vs : List AV) (vs' : List Value) (hl : LRel β vs vs') (h1 : ∀ v ∈ vs', v.oneCell' = true) (rest : List Value) (el : TypeId) (hd : vs.length ≤ 2 ^ d) (t : TM) :
    ORel β (.cells (2 * el + 1) d (setMany d vs t 0) vs.length) ⟨w.heap.size, 0, (vs' ++ rest).length, op⟩ (w.alloc (.cells (vs' ++ rest).toArray el (0, 0))) := by
  refine ⟨⟨hd, _, el, World.alloc_heap_new w _, by simp, by simp [hl.1], fun j hj => ?_⟩, ⟨_, _, by rw [show (2 * el + 1) / 2 = el from half_odd el]; exact World.alloc_heap_new w _, fun _ => rfl⟩⟩
  rw [get_setMany d vs t 0 j (by omega) (by omega), if_pos (Nat.zero_le _)]
  have hx : vs[j - 0]? = some (vs[j]'hj) := List.getElem?_eq_getElem hj
  obtain ⟨y, hy, hv⟩ := hl.get hx
  rw [hx]
  refine ⟨y, ?_, hv, h1 _ (List.mem_of_getElem? hy)⟩
  simp only [Nat.zero_add, List.getElem?_toArray]
  simp only [Nat.sub_zero] at hy
  rw [List.getElem?_append_left (by rw [← hl.1]; exact hj), hy]
theorem frozen_alloc (c : Array Value) (el : TypeId) (a : Addr) : (w.alloc (.cells c el (0, 0))).frozen? a = w.frozen? a := by
  by_cases h : a.block = w.heap.size
  · have e1 : (w.alloc (.cells c el (0, 0))).heap[a.block]? = some (.cells c el (0, 0)) := by rw [h]; exact World.alloc_heap_new w _
    have e2 : w.heap[a.block]? = none := by rw [h]; simp
    simp [World.frozen?, e1, e2]
  · exact World.frozen?_alloc_old _ _ _ h
theorem newCells_okAt (op : Bool) {vs : List AV} {vs' : List Value} {kk : Nat → HP → Nat → Bool} (hr : HRel β h nx w) {x : Nat} (hx0 : β x = none) (hxn : x ≤ nx) (hl : LRel β vs vs') (h1 : ∀ v ∈ vs', v.oneCell' = true) {el : TypeId} (e : newCells el h x vs kk = true) (rest : List Value) :
    ∃ β' h' , HRel β' h' (max nx (x + 1)) (w.alloc (.cells (vs' ++ rest).toArray el (0, 0))) ∧ Step β h nx w β' h' (max nx (x + 1)) (w.alloc (.cells (vs' ++ rest).toArray el (0, 0))) ∧
      β' x = some ⟨w.heap.size, 0, (vs' ++ rest).length, op⟩ ∧ kk x h' (x + 1) = true := by
  have e : newCells el h x vs kk = true := e
  simp only [newCells, forceNat_eq, storeL_eq, allocK] at e
  obtain ⟨hlt, e⟩ := guard_of e
  rw [Tr.setK_eq] at e
  have hlt : x < 2 ^ DH := by simpa [Nat.blt_eq] using hlt
  have hd := le_depthOf vs.length
  have hb := bput_ext (i := ⟨w.heap.size, 0, (vs' ++ rest).length, op⟩) hx0
  have ho := ORel_cells_new (op := op) (β := bput β x ⟨w.heap.size, 0, (vs' ++ rest).length, op⟩) (w := w) (depthOf vs.length) vs vs' (hl.ext hb) h1 rest el hd (.leaf undefA)
  obtain ⟨hr2, hst⟩ := hr.allocAt hx0 hxn hlt _ (fun h => by cases h) (.cells (vs' ++ rest).toArray el (0, 0)) (vs' ++ rest).length ho
  exact ⟨_, _, hr2, hst, by simp [bput], e⟩
theorem newCells_ok (op : Bool) {vs : List AV} {vs' : List Value} {kk : Nat → HP → Nat → Bool} (hr : HRel β h nx w) (hl : LRel β vs vs') (h1 : ∀ v ∈ vs', v.oneCell' = true) {el : TypeId} (e : newCells el h nx vs kk = true) (rest : List Value) :
    ∃ β' h' , HRel β' h' (nx + 1) (w.alloc (.cells (vs' ++ rest).toArray el (0, 0))) ∧ Step β h nx w β' h' (nx + 1) (w.alloc (.cells (vs' ++ rest).toArray el (0, 0))) ∧
      β' nx = some ⟨w.heap.size, 0, (vs' ++ rest).length, op⟩ ∧ kk nx h' (nx + 1) = true := by
  have := newCells_okAt op hr hr.none_at (Nat.le_refl _) hl h1 e rest
  rw [show max nx (nx + 1) = nx + 1 by omega] at this
  exact this

/-- what an operation leaves that made a block at a free place -/
def OutAt (β : Beta) (h : HP) (nx x : Nat) (w : World) (k : KV) (v' : Value) (w' : World) : Prop :=
  ∃ β' v h', HRel β' h' (max nx (x + 1)) w' ∧ Step β h nx w β' h' (max nx (x + 1)) w' ∧ VRel β' v v' ∧ k v h' (x + 1) = true
theorem OutAt.out {k : KV} {v' : Value} {w' : World} (o : OutAt β h nx nx w k v' w') : OutV β h nx w k v' w' := by
  obtain ⟨β', v, h', q1, q2, q3, q4⟩ := o
  rw [show max nx (nx + 1) = nx + 1 by omega] at q1 q2
  exact ⟨β', v, h', nx + 1, q1, q2, q3, q4⟩
theorem newPtr_okAt {vs : List AV} {v' : Value} {el : TypeId} (hr : HRel β h nx w) {x : Nat} (hx0 : β x = none) (hxn : x ≤ nx) (hl : LRel β vs v'.cells.toList) (e : newPtr el vs h x k = true) :
    ∃ w', (newVar el v').run P w = .ok ⟨w.heap.size, 0, none⟩ w' ∧ OutAt β h nx x w k (.pointer (some ⟨w.heap.size, 0, none⟩)) w' := by
  obtain ⟨h1, e⟩ := guard_of e
  obtain ⟨β', h', hr2, hst, hb, e⟩ := newCells_okAt false (kk := fun b h nx => k (.ptr b 0) h nx) hr hx0 hxn hl (hl.oneCell h1) e []
  rw [List.append_nil, Array.toArray_toList] at hr2 hst
  refine ⟨_, by simp [newVar, newRow], β', .ptr x 0, h', hr2, hst, ?_, e⟩
  exact VRel.ptr x 0 _ hb
theorem newPtr_ok {vs : List AV} {v' : Value} {el : TypeId} (hr : HRel β h nx w) (hl : LRel β vs v'.cells.toList) (e : newPtr el vs h nx k = true) :
    ∃ w', (newVar el v').run P w = .ok ⟨w.heap.size, 0, none⟩ w' ∧ OutV β h nx w k (.pointer (some ⟨w.heap.size, 0, none⟩)) w' := by
  obtain ⟨w', h1, h2⟩ := newPtr_okAt (P := P) hr hr.none_at (Nat.le_refl _) hl e
  exact ⟨w', h1, h2.out⟩
end Am
set_option linter.unusedVariables false
set_option linter.unusedSimpArgs false
namespace Am
open Go
variable {P : Program} {β : Beta} {h : HP} {nx : Nat} {w : World} {k : KV}

theorem run_list_mapM {α γ : Type} {f : α → Sem γ} {g : α → γ} : ∀ {l : List α}, (∀ x ∈ l, (f x).run P w = .ok (g x) w) → (l.mapM f).run P w = .ok (l.map g) w := by
  intro l
  induction l with
  | nil => intro _; simp
  | cons x l ih =>
    intro hx
    have h1 := hx x (by simp)
    have h2 := ih (fun y hy => hx y (by simp [hy]))
    simp [List.mapM_cons, h1, h2]
theorem run_array_mapM {α γ : Type} {f : α → Sem γ} {g : α → γ} {as : Array α} (hx : ∀ x ∈ as.toList, (f x).run P w = .ok (g x) w) : (as.mapM f).run P w = .ok (as.map g) w := by
  rw [Array.mapM_eq_mapM_toList]
  simp [run_list_mapM hx]
  apply Array.ext'
  simp

theorem fold_set (off : Nat) : ∀ (vs : List Value) (j : Nat) (cs : Array Value), off + j + vs.length ≤ cs.size →
    ((vs.zipIdx j).foldl (fun cs (x : Value × Nat) => cs.setIfInBounds (off + x.2) x.1) cs).toList = cs.toList.take (off + j) ++ vs ++ cs.toList.drop (off + j + vs.length) := by
  intro vs
  induction vs with
  | nil => intro j cs _; simp
  | cons v vs ih =>
    intro j cs hl
    simp only [List.length_cons] at hl
    rw [List.zipIdx_cons, List.foldl_cons, ih (j + 1) _ (by simp; omega)]
    have e := list_seg_step cs.toList (off + j) v vs (by simp; omega)
    simpa [Array.toList_setIfInBounds, Nat.add_assoc] using e
theorem fill_ok {placeA place : Nat → Option (Nat × Nat)} (hp : ∀ i p, placeA i = some p → place i = some p) : ∀ {ps : List (Nat × AV)} {ps' : List (Nat × Value)} {zs cs : List AV} {cells : Array Value},
    ps.map (·.1) = ps'.map (·.1) → LRel β (ps.map (·.2)) (ps'.map (·.2)) → LRel β zs cells.toList → allFlat zs = true → fillA placeA ps zs = some cs →
    ∃ cells', Instr.fill place cells ps' = some cells' ∧ LRel β cs cells'.toList ∧ allFlat cs = true := by
  intro ps
  induction ps with
  | nil =>
    intro ps' zs cs cells h1 h2 h3 h4 e
    have : ps' = [] := by cases ps' with | nil => rfl | cons x l => simp at h1
    subst this
    cases e
    exact ⟨cells, rfl, h3, h4⟩
  | cons p ps ih =>
    intro ps' zs cs cells h1 h2 h3 h4 e
    cases ps' with
    | nil => simp at h1
    | cons p' ps' =>
      obtain ⟨i, v⟩ := p
      obtain ⟨i', v'⟩ := p'
      simp only [List.map_cons, List.cons.injEq] at h1
      obtain ⟨rfl, h1⟩ := h1
      obtain ⟨y, l', hy, hv, h2⟩ := LRel.cons_inv h2
      simp only [List.map_cons, List.cons.injEq] at hy
      obtain ⟨rfl, rfl⟩ := hy
      simp only [fillA] at e
      cases hpl : placeA i with
      | none => rw [hpl] at e; cases e
      | some q =>
        obtain ⟨off, size⟩ := q
        rw [hpl] at e
        simp only at e
        cases hc : (Nat.beq (cellsOf v).length size && Nat.ble (off + size) zs.length && allFlat (cellsOf v)) with
        | false => rw [hc] at e; cases e
        | true =>
          rw [hc] at e
          simp only [cond_true] at e
          simp only [Bool.and_eq_true] at hc
          obtain ⟨⟨c1, c2⟩, c3⟩ := hc
          have c1 := Nat.eq_of_beq_eq_true c1
          have c2 := Nat.le_of_ble_eq_true c2
          have hcl := hv.cells
          have hsz : v'.cells.size = size := by rw [← c1, hcl.1]; simp
          have hzl : zs.length = cells.size := by rw [h3.1]; simp
          have hfold := fold_set off v'.cells.toList 0 cells (by simp; omega)
          simp only [Nat.add_zero, Array.length_toList, hsz] at hfold
          have hnew : LRel β (zs.take off ++ (cellsOf v ++ zs.drop (off + size))) ((v'.cells.toList.zipIdx 0).foldl (fun cs (x : Value × Nat) => cs.setIfInBounds (off + x.2) x.1) cells).toList := by
            rw [hfold, List.append_assoc]
            exact (h3.take off).append (hcl.append (h3.drop _))
          have hflat : allFlat (zs.take off ++ (cellsOf v ++ zs.drop (off + size))) = true := by
            rw [allFlat_append, allFlat_append]
            rw [allFlat_iff] at h4
            exact ⟨(allFlat_iff _).2 fun x hx => h4 x (List.mem_of_mem_take hx), c3, (allFlat_iff _).2 fun x hx => h4 x (List.mem_of_mem_drop hx)⟩
          obtain ⟨cells', f1, f2, f3⟩ := ih h1 h2 hnew hflat e
          refine ⟨cells', ?_, f2, f3⟩
          simp only [Instr.fill, hp i _ hpl]
          rw [if_neg (by simp; omega)]
          rw [← f1]
          congr 1
          rw [← Array.foldl_toList]
          simp [Array.toList_zipIdx]

theorem structOk_info {t : TypeId} (e : structOk P t = true) : ∃ fs : Array Field, P.underlying t = some (.struct fs) ∧ ∀ f ∈ fs.toList, ∃ n, sizeT P f.type = some n := by
  unfold structOk at e
  split at e
  · rename_i fs h1
    refine ⟨fs, h1, fun f hf => ?_⟩
    have := List.all_eq_true.1 e f hf
    exact Option.isSome_iff_exists.1 this
  · cases e
theorem buildA_ok {t : TypeId} {ps : List (Nat × AV)} {ps' : Array (Nat × Value)} (hr : HRel β h nx w) (h1 : ps.map (·.1) = ps'.toList.map (·.1)) (h2 : LRel β (ps.map (·.2)) (ps'.toList.map (·.2)))
    (e : buildA P t ps h nx k = true) : SemQ P (Instr.build t ps') β h nx w k := by
  obtain ⟨z, hz, e⟩ := opt_of e
  unfold zeroAgg at hz
  split at hz
  · rename_i cs hzt
    cases hso : structOk P t with
    | false => rw [hso] at hz; cases hz
    | true =>
      rw [hso] at hz; cases hz
      obtain ⟨fs, hu, hfs⟩ := structOk_info hso
      obtain ⟨i, v, hi, hzv, ha⟩ := zeroT_info hzt
      have hzr : (zeroValue t).run P w = .ok v w := by simp [zeroValue, run_typeInfoA hi, hzv]
      have hv : VRel β (.agg z) v := absV_ok ha
      have hfl : allFlat z = true := by
        rcases absV_flat ha with h | h
        · exact h
        · cases h
      obtain ⟨out, hf, e⟩ := opt_of e
      rw [forceList_eq] at e
      have hmap : (fs.mapM fun f : Field => (do pure (f.offset, ← Go.sizeOf f.type) : Sem (Nat × Nat))).run P w = .ok (fs.map fun f : Field => (f.offset, (sizeT P f.type).getD 0)) w := by
        refine run_array_mapM fun f hf => ?_
        obtain ⟨n, hn⟩ := hfs f hf
        simp [run_sizeA hn, hn]
      have hplace : ∀ i p, structPlace P t i = some p → (fs.map fun f : Field => (f.offset, (sizeT P f.type).getD 0))[i]? = some p := by
        intro i p hp
        unfold structPlace at hp
        rw [hu] at hp
        simp only at hp
        cases hfi : fs[i]? with
        | none => rw [hfi] at hp; cases hp
        | some f =>
          rw [hfi] at hp
          simp only at hp
          cases hs : sizeT P f.type with
          | none => rw [hs] at hp; cases hp
          | some n => rw [hs] at hp; cases hp; simp [hfi, hs]
      have hcells := hv.cells
      obtain ⟨cells', g1, g2, g3⟩ := fill_ok hplace h1 h2 hcells hfl hf
      refine .ret (v := .agg out) (v' := .agg cells') hr ?_ ?_ e
      · simp only [Instr.build, Sem.run_bind, hzr, Result.andThen_ok, run_underlying hu, hmap, g1]
        rfl
      · have := VRel.agg (β := β) out cells'.toList g2.1 g2.2 (fun j a ha => (allFlat_iff _).1 g3 a (List.mem_of_getElem? ha))
        simpa using this
  · cases hz

theorem sliceZero_info {t el n : Nat} {z : List AV} (e : sliceZero P t = some (el, n, z)) :
    ∃ zv i, P.underlying t = some (.slice el) ∧ sizeT P el = some n ∧ 1 ≤ n ∧ P.info? el = some i ∧ i.bytes ≤ 2 ^ 16 ∧ zeroT P el = some zv ∧ z = cellsOf zv ∧ z.length = n ∧ allFlat z = true := by
  unfold sliceZero at e
  split at e
  · rename_i el0 m h1
    obtain ⟨hu, hs⟩ := sliceElem_info h1
    cases hc : (Nat.ble 1 m && Nat.ble (bytesT P el0) (2 ^ 16)) with
    | false => rw [hc] at e; cases e
    | true =>
      rw [hc] at e
      simp only [cond_true] at e
      simp only [Bool.and_eq_true] at hc
      cases hz : zeroCells P el0 with
      | none => rw [hz] at e; cases e
      | some zz =>
        rw [hz] at e
        simp only [Option.map_some, Option.some.injEq, Prod.mk.injEq] at e
        obtain ⟨rfl, rfl, rfl⟩ := e
        obtain ⟨zv, m2, hz1, hz2, rfl, hz4, hz5⟩ := zeroCells_info hz
        rw [hs] at hz2; cases hz2
        obtain ⟨i, hi, hisz⟩ := sizeT_info hs
        have hb : i.bytes ≤ 2 ^ 16 := by
          have := Nat.le_of_ble_eq_true hc.2
          unfold bytesT at this; rw [hi] at this; exact this
        exact ⟨zv, i, hu, hs, Nat.le_of_ble_eq_true hc.1, hi, hb, hz1, rfl, hz4, hz5⟩
  · cases e

/-- n times the zero value's cells, as the model makes them -/
theorem zeros_eq (z : Array Value) (n m : Nat) (hz : z.size = m) (hm : 1 ≤ m) : ((Array.range (n * m)).map (z[· % z.size]!)).toList = (List.replicate n z.toList).flatten := by
  apply List.ext_getElem?
  intro j
  have hlen : (List.replicate n z.toList).flatten.length = n * m := by rw [List.length_flatten]; simp [hz]
  by_cases hj : j < n * m
  · have hd : j / m < n := by rw [Nat.div_lt_iff_lt_mul (by omega)]; exact hj
    have : ∀ (n j : Nat), j < n * m → (List.replicate n z.toList).flatten[j]? = z.toList[j % m]? := by
      intro n
      induction n with
      | zero => intro j hj; omega
      | succ n ih =>
        intro j hj
        rw [List.replicate_succ, List.flatten_cons]
        by_cases h1 : j < m
        · rw [List.getElem?_append_left (by simp; omega), Nat.mod_eq_of_lt h1]
        · rw [List.getElem?_append_right (by simp; omega)]
          have h2 : z.toList.length = m := by simp [hz]
          have h3 : (n + 1) * m = n * m + m := Nat.succ_mul n m
          rw [h2, ih (j - m) (by omega)]
          congr 1
          exact (Nat.mod_eq_sub_mod (by omega)).symm
    rw [this n j hj]
    have h3 : j % m < z.size := by rw [hz]; exact Nat.mod_lt _ (by omega)
    simp [hj, hz, h3]
    rw [getElem!_pos z (j % m) h3]
    simp [h3]
  · rw [List.getElem?_eq_none (by simp; omega), List.getElem?_eq_none (by omega)]
end Am
