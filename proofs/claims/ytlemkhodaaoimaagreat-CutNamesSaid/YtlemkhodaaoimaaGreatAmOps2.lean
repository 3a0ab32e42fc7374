/- Operations on plain values: sound. -/
import Derived.Test.YtlemkhodaaoimaaGreatAmOps1
import Derived.Laws.Small
set_option linter.unusedVariables false
set_option linter.unusedSimpArgs false
noncomputable section
namespace Am
open Go
variable {P : Program} {β : Beta} {h : HP} {nx : Nat} {w : World} {k : KV}

theorem bRet_ok {b : Bool} (hr : HRel β h nx w) (e : bRet b h nx k = true) {s : Sem Value} (hs : s.run P w = .ok (.bool b) w) : SemQ P s β h nx w k :=
  .ret (v := .bool b) hr hs (.bool b) (by cases b <;> exact e)
theorem bInt_ok {kd : IntKind} {n : Int} (hr : HRel β h nx w) (e : bInt kd n h nx k = true) {s : Sem Value} (hs : s.run P w = .ok (.int kd n) w) : SemQ P s β h nx w k :=
  .ret (v := .int kd n) hr hs (.int kd n) (by rwa [bInt, forceInt_eq] at e)
theorem eqRet_ok {op : BinOp} {b : Bool} (hr : HRel β h nx w) (e : eqRet op b h nx k = true) {s : Sem Value}
    (h1 : op = .eql → s.run P w = .ok (.bool b) w) (h2 : op = .neq → s.run P w = .ok (.bool !b) w) : SemQ P s β h nx w k := by
  cases op <;> first | (exfalso; simp [eqRet, bad1] at e; done) | skip
  · exact bRet_ok hr e (h1 rfl)
  · exact bRet_ok hr e (h2 rfl)

theorem eqGuard_int (op : BinOp) (t : TypeId) (x y : Operand) (a b : IntKind) (m n : Int) : (eqGuard op t x y (.int a m) (.int b n)).run P w = .ok () w := by cases op <;> rfl
theorem eqGuard_str (op : BinOp) (t : TypeId) (x y : Operand) (a b : ByteArray) : (eqGuard op t x y (.string a) (.string b)).run P w = .ok () w := by cases op <;> rfl
theorem eqGuard_ptr (op : BinOp) (t : TypeId) (x y : Operand) (a b : Option Addr) : (eqGuard op t x y (.pointer a) (.pointer b)).run P w = .ok () w := by cases op <;> rfl

theorem kidx_inj {a b : IntKind} (e : Nat.beq (kidx a) (kidx b) = true) : a = b := by
  have := Nat.eq_of_beq_eq_true e
  cases a <;> cases b <;> first | rfl | (simp [kidx] at this)
theorem bad1_no {e : bad1 h nx k = true} : False := by simp [bad1] at e
theorem else_of {a : Bool} {p : Prop} [Decidable p] (e : (Bool.rec (motive := fun _ => Bool) a false (decide p)) = true) : ¬ p ∧ a = true := by
  by_cases hp : p
  · rw [decide_eq_true hp] at e; cases e
  · rw [decide_eq_false hp] at e; exact ⟨hp, e⟩

theorem intBin_ok {op : BinOp} {kd : IntKind} {a b : Int} {t : TypeId} (hr : HRel β h nx w) (e : intBin op kd a b h nx k = true) (hsh : isShift op = false) :
    SemQ P (binOp op t (.int kd a) (.int kd b)) β h nx w k := by
  cases op
  case add => exact bInt_ok hr e (by simp [binOp, Op.intArith])
  case sub => exact bInt_ok hr e (by simp [binOp, Op.intArith])
  case mul => exact bInt_ok hr e (by simp [binOp, Op.intArith])
  case quo => obtain ⟨hb, e⟩ := else_of e; exact bInt_ok hr e (by simp [binOp, Op.intDiv, hb])
  case rem => obtain ⟨hb, e⟩ := else_of e; exact bInt_ok hr e (by simp [binOp, Op.intDiv, hb])
  case and => exact bInt_ok hr e (by simp [binOp, Op.intBits])
  case or => exact bInt_ok hr e (by simp [binOp, Op.intBits])
  case xor => exact bInt_ok hr e (by simp [binOp, Op.intBits])
  case andNot => exact bInt_ok hr e (by simp [binOp, Op.intBits])
  case eql => exact bRet_ok hr e (by simp [binOp, Op.intCmp])
  case neq => exact bRet_ok hr e (by simp [binOp, Op.intCmp])
  case lss => exact bRet_ok hr e (by simp [binOp, Op.intCmp])
  case leq => exact bRet_ok hr e (by simp [binOp, Op.intCmp])
  case gtr => exact bRet_ok hr e (by simp [binOp, Op.intCmp])
  case geq => exact bRet_ok hr e (by simp [binOp, Op.intCmp])
  case shl => cases hsh
  case shr => cases hsh
theorem shiftBin_ok {op : BinOp} {kd kd' : IntKind} {a b : Int} {t : TypeId} (hr : HRel β h nx w) (e : shiftBin op kd a b h nx k = true) :
    SemQ P (binOp op t (.int kd a) (.int kd' b)) β h nx w k := by
  cases op <;> first | (exfalso; simp [shiftBin, bad1] at e; done) | skip
  · obtain ⟨hb, e⟩ := else_of e; exact bInt_ok hr e (by simp [binOp, Op.shift, hb])
  · obtain ⟨hb, e⟩ := else_of e; exact bInt_ok hr e (by simp [binOp, Op.shift, hb])

theorem SemQ.guard {g : Sem Unit} {s : Sem Value} (hg : g.run P w = .ok () w) (hs : SemQ P s β h nx w k) : SemQ P (g >>= fun _ => s) β h nx w k := by
  obtain ⟨v, w', h1, h2⟩ := hs
  exact ⟨v, w', by simp [Sem.run_bind, hg, h1], h2⟩

theorem map_inj {a b : List UInt8} (e : a.map UInt8.toNat = b.map UInt8.toNat) : a = b := by
  induction a generalizing b with
  | nil => cases b with
    | nil => rfl
    | cons y b => simp at e
  | cons x a ih =>
    cases b with
    | nil => simp at e
    | cons y b =>
      simp at e
      rw [ih e.2, UInt8.toNat_inj.1 e.1]
theorem str_eq {a b : ByteArray} {l l' : List Nat} (ha : a.data.toList.map UInt8.toNat = l) (hb : b.data.toList.map UInt8.toNat = l') : (a.toList == b.toList) = natsEq l l' := by
  rw [natsEq_eq, ByteArray.toList_eq, ByteArray.toList_eq, ← ha, ← hb]
  by_cases h : a.data.toList = b.data.toList
  · rw [h]; simp
  · have h2 : a.data.toList.map UInt8.toNat ≠ b.data.toList.map UInt8.toNat := fun e => h (map_inj e)
    rw [beq_eq_false_iff_ne.2 h, beq_eq_false_iff_ne.2 h2]
theorem str_size {a : ByteArray} {l : List Nat} (ha : a.data.toList.map UInt8.toNat = l) : a.size = l.length := by
  rw [← ha, List.length_map, Array.length_toList]; rfl

theorem strBin_ok {op : BinOp} {a b : ByteArray} {l l' : List Nat} {t : TypeId} (ha : a.data.toList.map UInt8.toNat = l) (hb : b.data.toList.map UInt8.toNat = l')
    (hr : HRel β h nx w) (e : strBin op l l' h nx k = true) : SemQ P (binOp op t (.string a) (.string b)) β h nx w k := by
  cases op <;> first | (exfalso; simp [strBin, bad1] at e; done) | skip
  case add =>
    obtain ⟨h1, e⟩ := guard_of e
    rw [forceList_eq] at e
    have hlt : l.length + l'.length < 2 ^ 40 := by simpa [Nat.blt_eq] using h1
    refine .ret (v := .str (l ++ l')) hr ?_ (.str _ (a ++ b) ?_) e
    · rw [binOp_string_add]
      exact run_string_add_sum w a b (by rw [str_size ha, str_size hb]; omega)
    · rw [← ha, ← hb]; simp
  case eql => exact bRet_ok hr e (by rw [binOp_string_eql, str_eq ha hb]; rfl)
  case neq => exact bRet_ok hr e (by rw [binOp_string_neq, str_eq ha hb]; rfl)

theorem ptrT_info {t : TypeId} (e : ptrT P t = true) : ∃ el n, P.underlying t = some (.pointer el) ∧ sizeT P el = some (n + 1) := by
  unfold ptrT at e
  split at e
  · rename_i el h1
    split at e
    · rename_i n h2; exact ⟨el, n, h1, h2⟩
    · cases e
  · cases e
theorem ptrRet_ok {op : BinOp} {t : TypeId} {b : Bool} {x y : Option Addr} (hr : HRel β h nx w) (e : ptrRet P op t b h nx k = true)
    (hb : ∀ el n, P.underlying t = some (.pointer el) → sizeT P el = some (n + 1) → (Op.equal t (.pointer x) (.pointer y)).run P w = .ok b w) :
    SemQ P (binOp op t (.pointer x) (.pointer y)) β h nx w k := by
  obtain ⟨h1, e⟩ := guard_of e
  obtain ⟨el, n, hu, hs⟩ := ptrT_info h1
  have := hb el n hu hs
  refine eqRet_ok hr e ?_ ?_
  · rintro rfl; simp [binOp, this]
  · rintro rfl; simp [binOp, this]

/-- one of the two pointers, or both, nil -/
theorem ptr_nil_eq {t el : TypeId} (hu : P.underlying t = some (.pointer el)) (x y : Option Addr) {b : Bool} (hb : (match x, y with | none, y => some y.isNone | some _, none => some false | _, _ => none) = some b) :
    (Op.equal t (.pointer x) (.pointer y)).run P w = .ok b w := by
  have h1 : ∀ d, (Op.equalIn (d + 1) t (.pointer x) (.pointer y)).run P w = .ok b w := fun d => by
    cases x <;> cases y <;> simp at hb <;> simp only [Op.equalIn, Sem.run_bind, run_underlying hu, Result.andThen_ok, Sem.run_pure] <;> simp [← hb]
  exact h1 9999
theorem binA_ok {x y : AV} {x' y' : Value} {op : BinOp} {t : TypeId} {ox oy : Operand} (hr : HRel β h nx w) (hx : VRel β x x') (hy : VRel β y y') (e : binA P x op t y h nx k = true) :
    SemQ P (do eqGuard op t ox oy x' y'; binOp op t x' y') β h nx w k := by
  cases hx <;> first | (exfalso; simp [binA, bad1] at e; done) | skip
  case int kd a =>
    cases hy <;> first | (exfalso; simp [binA, binInt, bad1] at e; done) | skip
    rename_i kd' b
    refine .guard (eqGuard_int ..) ?_
    have e : (Bool.rec (motive := fun _ => Bool) (Bool.rec false (intBin op kd a b h nx k) (Nat.beq (kidx kd) (kidx kd'))) (shiftBin op kd a b h nx k) (isShift op)) = true := e
    cases hsh : isShift op with
    | true => rw [hsh] at e; exact shiftBin_ok hr e
    | false =>
      rw [hsh] at e
      obtain ⟨h1, e2⟩ := guard_of e
      clear e
      obtain rfl := kidx_inj h1
      exact intBin_ok hr e2 hsh
  case str l s hs =>
    cases hy <;> first | (exfalso; simp [binA, binStr, bad1] at e; done) | skip
    rename_i l' s' hs'
    exact .guard (eqGuard_str ..) (strBin_ok hs hs' hr e)
  case ptr b off i hi =>
    cases hy <;> first | (exfalso; simp [binA, binPtr, bad1] at e; done) | skip
    · rename_i b' off' i' hi'
      refine .guard (eqGuard_ptr ..) ?_
      have e : (Bool.rec (motive := fun _ => Bool) false (ptrRet P op t (Nat.beq off off') h nx k) (Nat.beq b b')) = true := e
      obtain ⟨hbb, e2⟩ := guard_of e
      clear e
      obtain rfl := Nat.eq_of_beq_eq_true hbb
      rw [hi] at hi'; cases hi'
      refine ptrRet_ok hr e2 fun el n hu hs => ?_
      have h1 : ∀ d, (Op.equalIn (d + 1) t (.pointer (some ⟨i.blk, i.base + off, none⟩)) (.pointer (some ⟨i.blk, i.base + off', none⟩))).run P w = .ok (Nat.beq off off') w := fun d => by
        obtain ⟨ti, hti, hsz⟩ := sizeT_info hs
        have hne : ti.size ≠ 0 := by omega
        simp only [Op.equalIn, Sem.run_bind, run_underlying hu, Result.andThen_ok, Go.sizeOf, run_typeInfoA hti, Sem.run_pure, Sem.run_ite, hne, if_true, ne_eq, not_false_eq_true]
        simp only [sameAddr, beq_self_eq_true, if_true]
        show Result.ok ((⟨i.blk, i.base + off, none⟩ : Addr) == ⟨i.blk, i.base + off', none⟩) w = _
        congr 1
        cases hoo : Nat.beq off off' with
        | true => obtain rfl := Nat.eq_of_beq_eq_true hoo; simp
        | false =>
          have : off ≠ off' := fun e => by subst e; simp at hoo
          rw [beq_eq_false_iff_ne]
          intro he
          injection he with _ h2 _
          omega
      exact h1 9999
    · refine .guard (eqGuard_ptr ..) (ptrRet_ok hr e fun el n hu hs => ?_)
      exact ptr_nil_eq hu _ _ rfl
  case nilptr =>
    cases hy <;> first | (exfalso; simp [binA, binNilptr, bad1] at e; done) | skip
    · refine .guard (eqGuard_ptr ..) (ptrRet_ok hr e fun el n hu hs => ?_)
      exact ptr_nil_eq hu _ _ rfl
    · refine .guard (eqGuard_ptr ..) (ptrRet_ok hr e fun el n hu hs => ?_)
      exact ptr_nil_eq hu _ _ rfl

theorem unA_ok {x : AV} {x' : Value} {op : UnOp} (hr : HRel β h nx w) (hx : VRel β x x') (e : unA op x h nx k = true) : SemQ P (Op.unary op x') β h nx w k := by
  cases op <;> first | (exfalso; simp [unA, bad1] at e; done) | skip
  · cases hx <;> first | (exfalso; simp [unA, bad1] at e; done) | skip
    exact bInt_ok hr e (by simp [Op.unary, Op.intArith])
  · cases hx <;> first | (exfalso; simp [unA, bad1] at e; done) | skip
    exact bRet_ok hr e (by simp [Op.unary])

theorem ofNat_case {β2 : Type} {n : Int} : (∃ m, n = Int.ofNat m) ∨ ∃ m, n = Int.negSucc m := by cases n with | ofNat m => exact .inl ⟨m, rfl⟩ | negSucc m => exact .inr ⟨m, rfl⟩

theorem nthK_ok {l : List AV} {l' : List Value} {n : Nat} (hr : HRel β h nx w) (hl : LRel β l l') (e : nthK l n h nx k = true) {s : Sem Value} (hs : ∀ v, l'[n]? = some v → s.run P w = .ok v w) : SemQ P s β h nx w k := by
  obtain ⟨x, hx, e⟩ := opt_of e
  obtain ⟨y, hy, hv⟩ := hl.get hx
  exact .ret hr (hs y hy) hv e

theorem extractA_ok {x : AV} {x' : Value} {i : Nat} (hr : HRel β h nx w) (hx : VRel β x x') (e : extractA i x h nx k = true) : SemQ P (Instr.extract x' i) β h nx w k := by
  cases hx <;> first | (exfalso; simp [extractA, bad1] at e; done) | skip
  rename_i cs vs h1 h2
  refine nthK_ok hr ⟨h1, h2⟩ e fun v hv => ?_
  have : vs.toArray[i]? = some v := by simpa using hv
  simp [Instr.extract, this]

theorem ifaceOk_info {t : TypeId} (e : ifaceOk P t = true) : ∃ u, P.underlying t = some u ∧ ∀ ms, u ≠ .interface ms := by
  unfold ifaceOk at e
  split at e
  · cases e
  · rename_i u h1 h2; exact ⟨u, h2, fun ms hm => h1 ms hm⟩
  · cases e
theorem ifaceA_ok {x : AV} {x' : Value} {t : TypeId} (hr : HRel β h nx w) (hx : VRel β x x') (e : ifaceA P t x h nx k = true) : SemQ P (Instr.makeInterface t x') β h nx w k := by
  obtain ⟨h1, e⟩ := guard_of e
  obtain ⟨u, hu, hn⟩ := ifaceOk_info h1
  refine .ret hr ?_ (.iface t x x' hx) e
  unfold Instr.makeInterface
  simp only [Sem.run_bind, run_underlying hu, Result.andThen_ok]
  cases u <;> first | rfl | exact absurd rfl (hn _)

theorem fieldKind_info {t : TypeId} {f off : Nat} {kd : Option Nat} (e : fieldKind P t f = some (off, kd)) :
    ∃ (fs : Array Field) (x : Field), P.underlying t = some (.struct fs) ∧ fs[f]? = some x ∧ x.offset = off ∧ loadKind P x.type = some kd := by
  unfold fieldKind at e
  split at e
  · rename_i fs h1
    split at e
    · rename_i x h2
      cases hk : loadKind P x.type with
      | none => rw [hk] at e; cases e
      | some q => rw [hk] at e; cases e; exact ⟨fs, x, h1, h2, rfl, hk⟩
    · cases e
  · cases e
theorem partA_ok {ty : TypeId} {kd : Option Nat} {cs : List AV} {vs : List Value} {off : Nat} (hr : HRel β h nx w) (hl : LRel β cs vs) (hf : ∀ (j : Nat) a, cs[j]? = some a → a.flat = true)
    (hk : loadKind P ty = some kd) (e : partA kd cs off h nx k = true) : SemQ P (part ty vs.toArray off) β h nx w k := by
  cases kd with
  | none =>
    refine nthK_ok hr hl e fun v hv => ?_
    have : vs.toArray[off]? = some v := by simpa using hv
    simp [part, loadKind_one hk, this]
  | some s =>
    obtain ⟨h1, e⟩ := guard_of (show (Bool.rec (motive := fun _ => Bool) false (forceList ((cs.drop off).take s) fun l => k (.agg l) h nx) (Nat.ble (off + s) cs.length)) = true from e)
    rw [forceList_eq] at e
    obtain ⟨ha, hs⟩ := loadKind_many (w := w) hk
    have hl2 := (hl.drop off).take s
    refine .ret (v := .agg ((cs.drop off).take s)) (v' := .agg ((vs.drop off).take s).toArray) hr ?_ (.agg _ _ hl2.1 hl2.2 fun j a ha => ?_) e
    · simp [part, ha, run_sizeA hs, List.take_drop]
    · by_cases hj : j < s
      · rw [List.getElem?_take_of_lt hj, List.getElem?_drop] at ha; exact hf _ _ ha
      · rw [List.getElem?_take_eq_none (by omega)] at ha; cases ha
theorem fieldA_ok {x : AV} {x' : Value} {t : TypeId} {f : Nat} (hr : HRel β h nx w) (hx : VRel β x x') (e : fieldA P t f x h nx k = true) : SemQ P (Instr.field t x' f) β h nx w k := by
  cases hx <;> first | (exfalso; simp [fieldA, bad1] at e; done) | skip
  rename_i cs vs h1 h2 h3
  obtain ⟨⟨off, kd⟩, hk, e⟩ := opt_of e
  obtain ⟨fs, x, hu, hx, rfl, hkd⟩ := fieldKind_info hk
  obtain ⟨v, w', hs, ho⟩ := partA_ok (P := P) hr ⟨h1, h2⟩ h3 hkd e
  exact ⟨v, w', by simp [Instr.field, run_underlying hu, hx, asAgg, hs], ho⟩

theorem isStrT_info {t : TypeId} (e : isStrT P t = true) : P.underlying t = some .string := by
  unfold isStrT at e
  split at e
  · assumption
  · cases e
theorem indexA_ok {x i : AV} {x' i' : Value} {t : TypeId} (hr : HRel β h nx w) (hx : VRel β x x') (hi : VRel β i i') (e : indexA P t x i h nx k = true) : SemQ P (Instr.index t x' i') β h nx w k := by
  cases hx <;> first | (exfalso; simp [indexA, bad1] at e; done) | skip
  rename_i l s hs
  cases hi <;> first | (exfalso; simp [indexA, strIdx, bad1] at e; done) | skip
  rename_i kd n
  cases n with
  | negSucc m => (exfalso; simp [indexA, strIdx, bad1] at e; done)
  | ofNat n =>
    obtain ⟨h1, e⟩ := guard_of (show (Bool.rec (motive := fun _ => Bool) false (Option.rec (motive := fun _ => Bool) false (fun c => k (.int .u8 (.ofNat c)) h nx) l[n]?) (isStrT P t)) = true from e)
    obtain ⟨c, hc, e⟩ := opt_of e
    have hu := isStrT_info h1
    have hn : n < s.size := by rw [str_size hs]; exact (List.getElem?_eq_some_iff.1 hc).1
    have hb : s[n].toNat = c := by
      rw [← hs, List.getElem?_map] at hc
      have h2 : s.data.toList[n]? = some s[n] := by
        rw [Array.getElem?_toList]
        exact Array.getElem?_eq_getElem (show n < s.data.size from hn)
      rw [h2] at hc; simpa using hc
    refine .ret (v := .int .u8 (.ofNat c)) (v' := .int .u8 (s[n].toNat)) hr ?_ (by rw [hb]; exact .int _ _) e
    have h3 := ByteArray.getElem?_lt' s n hn
    simp [Instr.index, asIntOf, run_underlying hu, h3]

theorem natOf_ok {x : Option AV} {y : Option Value} {dflt n : Nat} (h1 : VOpt β x y) (e : natOf dflt x = some n) : (x = none ∧ y = none ∧ n = dflt) ∨ ∃ kd, y = some (.int kd (n : Int)) := by
  cases x with
  | none => cases y with
    | none => exact .inl ⟨rfl, rfl, by simpa [natOf] using e.symm⟩
    | some y => exact h1.elim
  | some a => cases y with
    | none => exact h1.elim
    | some v =>
      cases (show VRel β a v from h1) <;> first | (exfalso; simp [natOf] at e; done) | skip
      rename_i kd m
      cases m with
      | negSucc m => (exfalso; simp [natOf] at e; done)
      | ofNat m => exact .inr ⟨kd, by simp [natOf] at e; subst e; rfl⟩
theorem run_sliceBound {kd : IntKind} {n y : Nat} {code : BoundsCode} (hn : n ≤ y) : (Instr.sliceBound (.int kd (n : Int)) y code).run P w = .ok n w := by
  have : (n : Int) ≤ y := by omega
  simp [Instr.sliceBound, asIntOf, this]
/-- the three bounds of a slice expression with two -/
theorem run_sliceBounds {isS : Bool} {len cap l r : Nat} {lo hi : Option AV} {lo' hi' : Option Value} (hlo : VOpt β lo lo') (hhi : VOpt β hi hi')
    (e1 : natOf 0 lo = some l) (e2 : natOf len hi = some r) (h1 : l ≤ r) (h2 : r ≤ cap) : (Instr.sliceBounds isS len cap lo' hi' none).run P w = .ok (l, r, cap) w := by
  unfold Instr.sliceBounds
  rcases natOf_ok hhi e2 with ⟨_, rfl, rfl⟩ | ⟨kd, rfl⟩ <;> rcases natOf_ok hlo e1 with ⟨_, rfl, rfl⟩ | ⟨kd', rfl⟩
  · simp
  · simp [run_sliceBound h1]
  · simp [run_sliceBound h2]
  · simp [run_sliceBound h1, run_sliceBound h2]
theorem sliceElem_info {t e n : Nat} (he : sliceElem P t = some (e, n)) : P.underlying t = some (.slice e) ∧ sizeT P e = some n := by
  unfold sliceElem at he
  split at he
  · rename_i el h1
    cases hs : sizeT P el with
    | none => rw [hs] at he; cases he
    | some m => rw [hs] at he; cases he; exact ⟨h1, hs⟩
  · cases he
theorem optN_of {o : Option Nat} {f : Nat → Bool} (e : optN o f = true) : ∃ x, o = some x ∧ f x = true := opt_of e

theorem sliceA_ok {x : AV} {x' : Value} {t : TypeId} {lo hi mx : Option AV} {lo' hi' mx' : Option Value} (hr : HRel β h nx w) (hx : VRel β x x') (hlo : VOpt β lo lo') (hhi : VOpt β hi hi') (hmx : VOpt β mx mx')
    (e : sliceA P t x lo hi mx h nx k = true) : SemQ P (Instr.sliceAt t x' lo' hi' mx') β h nx w k := by
  cases hx <;> first | (exfalso; simp [sliceA, bad1] at e; done) | skip
  case str l s hs =>
    obtain ⟨a, ha, e⟩ := optN_of e
    obtain ⟨b, hb, e⟩ := optN_of e
    obtain ⟨h1, e2⟩ := guard_of e
    clear e
    rw [forceList_eq] at e2
    simp only [Bool.and_eq_true, Option.isNone_iff_eq_none] at h1
    obtain ⟨⟨⟨h1, h2⟩, rfl⟩, h4⟩ := h1
    have h1 := Nat.le_of_ble_eq_true h1
    have h2 := Nat.le_of_ble_eq_true h2
    have hu := isStrT_info h4
    obtain rfl : mx' = none := by cases mx' with | none => rfl | some v => exact hmx.elim
    have hb2 : natOf s.size hi = some b := by rw [str_size hs]; exact hb
    refine .ret (v := .str ((l.drop a).take (b - a))) (v' := .string (s.extract a b)) hr ?_ (.str _ _ ?_) e2
    · have hb3 := run_sliceBounds (P := P) (w := w) (isS := false) hlo hhi ha hb2 h1 (show b ≤ s.size by rw [str_size hs]; exact h2)
      simp [Instr.sliceAt, Instr.slice, run_underlying hu, hb3]
    · rw [← hs]
      simp [ByteArray.data_extract, List.map_take, List.map_drop]
  case slice b off len mc es cap i hi1 hi2 hi3 hi4 =>
    obtain ⟨⟨el, n⟩, hse, e⟩ := opt_of e
    obtain ⟨a, ha, e⟩ := optN_of e
    obtain ⟨r, hb, e⟩ := optN_of e
    obtain ⟨h1, e2⟩ := guard_of e
    clear e
    simp only [Bool.and_eq_true, Option.isNone_iff_eq_none] at h1
    obtain ⟨⟨⟨h1, h2⟩, rfl⟩, h4⟩ := h1
    have h1 := Nat.le_of_ble_eq_true h1
    have h2 := Nat.le_of_ble_eq_true h2
    obtain rfl := Nat.eq_of_beq_eq_true h4
    obtain ⟨hu, hs⟩ := sliceElem_info hse
    obtain rfl : mx' = none := by cases mx' with | none => rfl | some v => exact hmx.elim
    have hb3 := run_sliceBounds (P := P) (w := w) (isS := true) hlo hhi ha hb h1 (show r ≤ cap by omega)
    have key : (Instr.sliceAt t (.slice (some ⟨i.blk, i.base + off, none⟩) len cap) lo' hi' none).run P w =
        .ok (.slice (if cap = a then some ⟨i.blk, i.base + off, none⟩ else some ((⟨i.blk, i.base + off, none⟩ : Addr).add (a * n))) (r - a) (cap - a)) w := by
      simp [Instr.sliceAt, Instr.slice, run_underlying hu, hb3, run_sizeA hs]
    have hadd : (⟨i.blk, i.base + off, none⟩ : Addr).add (a * n) = ⟨i.blk, i.base + (off + a * n), none⟩ := by
      unfold Addr.add; split
      · rename_i h0; rw [h0]; rfl
      · simp [Nat.add_assoc]
    cases hc : (Nat.beq a mc && Nat.ble 1 a) with
    | true =>
      rw [hc] at e2
      simp only [Bool.and_eq_true] at hc
      have := Nat.eq_of_beq_eq_true hc.1
      have h0 : r - a = 0 := by omega
      rw [h0] at key
      by_cases hca : cap = a
      · rw [if_pos hca] at key; exact .ret hr key (.eslice _ _) e2
      · rw [if_neg hca] at key; exact .ret hr key (.eslice _ _) e2
    | false =>
      rw [hc] at e2
      simp only [forceNat_eq] at e2
      have hm : a * n + (cap - a) * n = cap * n := by rw [← Nat.add_mul]; congr 1; omega
      have key2 : (Instr.sliceAt t (.slice (some ⟨i.blk, i.base + off, none⟩) len cap) lo' hi' none).run P w = .ok (.slice (some ⟨i.blk, i.base + (off + a * n), none⟩) (r - a) (cap - a)) w := by
        by_cases hca : cap = a
        · rw [if_pos hca] at key
          have ha0 : a = 0 := by
            simp only [Bool.and_eq_false_iff] at hc
            rcases hc with hc | hc
            · have : a ≠ mc := fun e => by subst e; simp at hc
              omega
            · have : ¬ 1 ≤ a := fun e => by rw [Nat.ble_eq_true_of_le e] at hc; cases hc
              omega
          rw [key, ha0]; simp
        · rw [if_neg hca, hadd] at key; exact key
      refine .ret hr key2 (.slice b (off + a * n) (r - a) (mc - a) n (cap - a) i hi1 (by omega) (by omega) ⟨fun h => by have := hi4.1 h; omega, fun h => ⟨(hi4.2 h).1, by have := (hi4.2 h).2; omega⟩⟩) e2
  case eslice ad cap =>
    obtain ⟨⟨el, n⟩, hse, e⟩ := opt_of e
    obtain ⟨a, ha, e⟩ := optN_of e
    obtain ⟨r, hb, e⟩ := optN_of e
    obtain ⟨h1, e2⟩ := guard_of e
    clear e
    simp only [Bool.and_eq_true, Option.isNone_iff_eq_none] at h1
    obtain ⟨⟨h1, h2⟩, rfl⟩ := h1
    obtain rfl := Nat.eq_of_beq_eq_true h1
    obtain rfl := Nat.eq_of_beq_eq_true h2
    obtain ⟨hu, hs⟩ := sliceElem_info hse
    obtain rfl : mx' = none := by cases mx' with | none => rfl | some v => exact hmx.elim
    have hb3 := run_sliceBounds (P := P) (w := w) (isS := true) (cap := cap) hlo hhi ha hb (Nat.le_refl _) (Nat.zero_le _)
    refine .ret hr ?_ (.eslice ad cap) e2
    simp [Instr.sliceAt, Instr.slice, run_underlying hu, hb3, run_sizeA hs, Addr.add]
  case nilslice =>
    obtain ⟨⟨el, n⟩, hse, e⟩ := opt_of e
    obtain ⟨a, ha, e⟩ := optN_of e
    obtain ⟨r, hb, e⟩ := optN_of e
    obtain ⟨h1, e2⟩ := guard_of e
    clear e
    simp only [Bool.and_eq_true, Option.isNone_iff_eq_none] at h1
    obtain ⟨⟨h1, h2⟩, rfl⟩ := h1
    obtain rfl := Nat.eq_of_beq_eq_true h1
    obtain rfl := Nat.eq_of_beq_eq_true h2
    obtain ⟨hu, hs⟩ := sliceElem_info hse
    obtain rfl : mx' = none := by cases mx' with | none => rfl | some v => exact hmx.elim
    have hb3 := run_sliceBounds (P := P) (w := w) (isS := true) (cap := 0) hlo hhi ha hb (Nat.le_refl _) (Nat.le_refl _)
    refine .ret hr ?_ .nilslice e2
    simp [Instr.sliceAt, Instr.slice, run_underlying hu, hb3, run_sizeA hs]
end Am
