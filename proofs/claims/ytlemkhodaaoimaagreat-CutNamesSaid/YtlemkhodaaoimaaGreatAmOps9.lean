/- The operations without calls: sound. -/
import Derived.Test.YtlemkhodaaoimaaGreatAmOps8
import Derived.Laws.BytesArg
set_option linter.unusedVariables false
set_option linter.unusedSimpArgs false
noncomputable section
namespace Am
open Go
variable {P : Program} {β : Beta} {h : HP} {nx : Nat} {w : World} {k : KV}

/-- an operation that answers a value or leaves none -/
def OpOK (P : Program) (s : Sem Next) (β : Beta) (h : HP) (nx : Nat) (w : World) (k : KV) : Prop :=
  ∃ x v' w', s.run P w = .ok x w' ∧ (x = .value v' ∨ (x = .skip ∧ v' = undef)) ∧ OutV β h nx w k v' w'
def OpQ (P : Program) (s : Sem Next) (β : Beta) (h : HP) (nx : Nat) (w : World) (k : KV) : Prop :=
  ∃ v v', s.run P w = .ok (.value v') w ∧ VRel β v v' ∧ k v h nx = true
theorem OpQ.ok {s : Sem Next} (hr : HRel β h nx w) (q : OpQ P s β h nx w k) : OpOK P s β h nx w k :=
  let ⟨v, v', h1, h2, h3⟩ := q; ⟨_, v', w, h1, .inl rfl, .same hr h2 h3⟩
theorem SemOK.value {s : Sem Value} (q : SemOK P s β h nx w k) : OpOK P (do pure (Next.value (← s))) β h nx w k :=
  let ⟨v', w', h1, h2⟩ := q; ⟨_, v', w', by simp [h1, Result.andThen], .inl rfl, h2⟩
theorem SemQ.value {s : Sem Value} (q : SemQ P s β h nx w k) : OpQ P (do pure (Next.value (← s))) β h nx w k :=
  let ⟨v, v', h1, h2, h3⟩ := q; ⟨v, v', by simp [h1, Result.andThen], h2, h3⟩
theorem unit_ok {s : Sem Unit} (q : ∃ w', s.run P w = .ok () w' ∧ OutV β h nx w k undef w') : OpOK P (do s; pure Next.skip) β h nx w k :=
  let ⟨w', h1, h2⟩ := q; ⟨.skip, undef, w', by simp [h1, Result.andThen], .inr ⟨rfl, rfl⟩, h2⟩

/-! ### conversions -/
theorem bytesK_of {l : List AV} : ∀ {l' : List Value} {f : List Nat → Bool}, LRel β l l' → bytesK l f = true →
    ∃ ns : List Nat, l' = ns.map (fun n => Value.int .u8 (.ofNat n)) ∧ (∀ n ∈ ns, n < 256) ∧ f ns = true := by
  induction l with
  | nil => intro l' f hl e; exact ⟨[], hl.nil_inv, by simp, e⟩
  | cons v l ih =>
    intro l' f hl e
    obtain ⟨v', l2, rfl, hv, hl2⟩ := hl.cons_inv
    obtain ⟨n, hn, e⟩ := optN_of (show optN (byteNat v) (fun n => bytesK l fun l => f (n :: l)) = true from e)
    obtain ⟨ns, rfl, h1, e⟩ := ih hl2 e
    have : v' = .int .u8 (.ofNat n) ∧ n < 256 := by
      unfold byteNat at hn
      split at hn
      · rename_i m
        cases hb : Nat.blt m 256 with
        | false => rw [hb] at hn; cases hn
        | true =>
          rw [hb] at hn; cases hn
          cases hv
          exact ⟨rfl, by simpa [Nat.blt_eq] using hb⟩
      · cases hn
    exact ⟨n :: ns, by simp [this.1], by simpa using ⟨this.2, h1⟩, e⟩
theorem isU8_info {t : TypeId} (e : isU8 P t = true) : P.underlying t = some (.int .u8) := by
  unfold isU8 at e; split at e <;> first | assumption | cases e
theorem bytes_foldl (ns : List Nat) (hb : ∀ n ∈ ns, n < 256) : ∀ (s : ByteArray),
    ((ns.map Int.ofNat).foldl (fun (r : ByteArray) n => r.push (UInt8.ofNat n.toNat)) s).data.toList.map UInt8.toNat = s.data.toList.map UInt8.toNat ++ ns := by
  induction ns with
  | nil => intro s; simp
  | cons n ns ih =>
    intro s
    rw [List.map_cons, List.foldl_cons, ih (fun m hm => hb m (List.mem_cons_of_mem _ hm))]
    have := hb n (List.mem_cons_self ..)
    simp [ByteArray.push, Nat.mod_eq_of_lt this]

theorem convA_ok {src dst : TypeId} {x : AV} {x' : Value} (hr : HRel β h nx w) (hx : VRel β x x') (e : convA (convKind P src dst) x h nx k = true) : SemQ P (convert src dst x') β h nx w k := by
  unfold convKind at e
  split at e
  · rename_i s kd hs hd
    cases hx <;> first | (exfalso; simp [convA, convInt, bad1] at e; done) | skip
    rename_i k0 n
    have e : bInt kd (kd.wrap n) h nx k = true := e
    unfold bInt at e
    rw [forceInt_eq] at e
    exact .ret hr (by simp [convert, run_underlying hs, run_underlying hd, Conv.intToInt]) (.int _ _) e
  · rename_i el hs hd
    cases hu : isU8 P el with
    | false => rw [hu] at e; cases e
    | true =>
      rw [hu] at e
      have hu := isU8_info hu
      have e1 : convBytes x h nx k = true := e
      clear e
      cases hx <;> first | (exfalso; simp [convBytes, bad1] at e1; done) | skip
      case slice b off len mc es cap i hi h1 h2 h3 =>
        have e : Tr.getK DH h b (fun o => withCells o fun d t n =>
          Bool.rec false (loadL d t len off fun l => bytesK l fun s => k (.str s) h nx) (Nat.ble (off + len) n)) = true := e1
        rw [Tr.getK_eq] at e
        obtain ⟨d, t, n, hc, e⟩ := withCells_of hr hi e
        obtain ⟨hle, e⟩ := guard_of e
        rw [loadL_eq] at e
        obtain ⟨vs, g1, g2, g3⟩ := run_loadMany (P := P) hc len off (Nat.le_of_ble_eq_true hle)
        obtain ⟨ns, rfl, h4, e⟩ := bytesK_of g1 e
        have hrun := run_bytesToString (P := P) w ⟨i.blk, i.base + off, none⟩ len cap (ns.map Int.ofNat) (by rw [g3, List.map_map]; rfl)
        exact .ret hr (by rw [run_convert_bytes_string w src dst el _ len cap hs hu hd, hrun]) (.str ns _ (by rw [bytes_foldl ns h4]; simp)) e
      case nilslice =>
        exact .ret hr (run_convert_bytes_nil w src el hs hu 0 0 dst hd) (.str [] _ rfl) e1
  · cases e

/-! ### the builtins that leave memory alone -/
theorem lenB_ok {t ty : TypeId} {x : AV} {x' : Value} {ts : Array TypeId} (hr : HRel β h nx w) (hx : VRel β x x') (hts : ts[0]? = some t) (e : lenA (lenKind P t) x h nx k = true) :
    SemQ P (Builtin.len_ ts ty #[x']) β h nx w k := by
  unfold lenKind at e
  split at e
  · rename_i hu
    cases hx <;> first | (exfalso; simp [lenA, lenStr, bad1] at e; done) | skip
    rename_i l s hs
    have e : natRet l.length h nx k = true := e
    unfold natRet at e
    rw [forceNat_eq] at e
    refine .ret hr (v' := goInt s.size) (by simp [Builtin.len_, hts, run_underlying hu]) ?_ e
    have : s.size = l.length := by rw [← hs]; simp
    rw [this]; exact .int _ _
  · rename_i el hu
    cases hx <;> first | (exfalso; simp [lenA, lenSl, bad1] at e; done) | skip
    case slice b off len mc es cap i hi h1 h2 h3 =>
      have e : natRet len h nx k = true := e
      unfold natRet at e
      rw [forceNat_eq] at e
      exact .ret hr (v' := goInt len) (by simp [Builtin.len_, hts, run_underlying hu]) (.int _ _) e
    case nilslice =>
      have e : natRet 0 h nx k = true := e
      unfold natRet at e
      rw [forceNat_eq] at e
      exact .ret hr (v' := goInt 0) (by simp [Builtin.len_, hts, run_underlying hu]) (.int _ _) e
    case eslice a cap =>
      have e : natRet 0 h nx k = true := e
      unfold natRet at e
      rw [forceNat_eq] at e
      exact .ret hr (v' := goInt 0) (by simp [Builtin.len_, hts, run_underlying hu]) (.int _ _) e
  · cases e
  · cases e
theorem min2_ok {x y : AV} {x' y' : Value} (lt : Bool) (hr : HRel β h nx w) (hx : VRel β x x') (hy : VRel β y y') (e : minInt lt x y h nx k = true) :
    SemQ P (bif lt then Builtin.min2 x' y' else Builtin.max2 x' y') β h nx w k := by
  cases hx <;> first | (exfalso; simp [minInt, bad1] at e; done) | skip
  rename_i kd a
  cases hy <;> first | (exfalso; simp [minInt, bad1] at e; done) | skip
  rename_i kd2 b
  have e : bInt kd (Bool.rec (Bool.rec a b (decide (a < b))) (Bool.rec a b (decide (b < a))) lt) h nx k = true := e
  unfold bInt at e
  rw [forceInt_eq] at e
  cases lt with
  | true =>
    refine .ret hr (v' := .int kd (if b < a then b else a)) rfl ?_ e
    by_cases hb : b < a
    · simp [hb]; exact .int _ _
    · simp [hb]; exact .int _ _
  | false =>
    refine .ret hr (v' := .int kd (if b > a then b else a)) rfl ?_ e
    by_cases hb : a < b
    · simp [hb]; exact .int _ _
    · simp [hb]; exact .int _ _

theorem LRel.one {x : AV} {l' : List Value} (hl : LRel β [x] l') : ∃ x', l' = [x'] ∧ VRel β x x' := by
  obtain ⟨v, l, rfl, h1, h2⟩ := hl.cons_inv
  have := h2.nil_inv; subst this; exact ⟨v, rfl, h1⟩
theorem LRel.two {x y : AV} {l' : List Value} (hl : LRel β [x, y] l') : ∃ x' y', l' = [x', y'] ∧ VRel β x x' ∧ VRel β y y' := by
  obtain ⟨v, l, rfl, h1, h2⟩ := hl.cons_inv
  obtain ⟨u, rfl, h3⟩ := h2.one
  exact ⟨v, u, rfl, h1, h3⟩

theorem lenCall_ok {ts : Array TypeId} {ty : TypeId} {cs : Array Bool} {args : List AV} {args' : List Value} (hr : HRel β h nx w) (hl : LRel β args args') (e : lenB P ts.toList args h nx k = true) :
    OpQ P (builtin .len ts ty cs args'.toArray) β h nx w k := by
  unfold lenB at e
  generalize hts : ts.toList = tl at e
  split at e
  · rename_i t x
    obtain ⟨x', rfl, hx⟩ := hl.one
    exact (lenB_ok (ty := ty) hr hx (by rw [← Array.getElem?_toList, hts]; rfl) e).value
  · cases e
theorem builtinA_ok {b : Builtin} {ts : Array TypeId} {ty : TypeId} {cs : Array Bool} {args : List AV} {args' : List Value} (hr : HRel β h nx w) (hl : LRel β args args') (e : builtinA P b ts.toList args h nx k = true) :
    OpOK P (builtin b ts ty cs args'.toArray) β h nx w k := by
  cases b <;> first | (cases e; done) | skip
  case append =>
    have e : appendB P ts.toList args h nx k = true := e
    unfold appendB at e
    generalize hts : ts.toList = tl at e
    split at e
    · rename_i t u s x
      obtain ⟨s', x', rfl, hs, hx⟩ := hl.two
      exact (appendA_ok (ty := ty) hr hs hx (by rw [← Array.getElem?_toList, hts]; rfl) (by rw [← Array.getElem?_toList, hts]; rfl) e).value
    · cases e
  case delete =>
    have e : deleteB P ts.toList args h nx k = true := e
    unfold deleteB at e
    generalize hts : ts.toList = tl at e
    split at e
    · rename_i t u s x
      obtain ⟨s', x', rfl, hs, hx⟩ := hl.two
      exact (deleteA_ok (t2 := t) (ty := ty) hr hx hs (by rw [← Array.getElem?_toList, hts]; rfl) e).value
    · cases e
  case len => exact (lenCall_ok hr hl e).ok hr
  case max =>
    have e : minB false args h nx k = true := e
    unfold minB at e
    split at e
    · obtain ⟨x', y', rfl, hx, hy⟩ := hl.two
      obtain ⟨v, v', h1, h2, h3⟩ := min2_ok (P := P) false hr hx hy e
      exact OpQ.ok hr ⟨v, v', by simp [builtin, Builtin.max_, show (Builtin.max2 x' y').run P w = _ from h1, Result.andThen], h2, h3⟩
    · cases e
  case min =>
    have e : minB true args h nx k = true := e
    unfold minB at e
    split at e
    · obtain ⟨x', y', rfl, hx, hy⟩ := hl.two
      obtain ⟨v, v', h1, h2, h3⟩ := min2_ok (P := P) true hr hx hy e
      exact OpQ.ok hr ⟨v, v', by simp [builtin, Builtin.min_, show (Builtin.min2 x' y').run P w = _ from h1, Result.andThen], h2, h3⟩
    · cases e

/-! ### interfaces -/
theorem isIfaceT_info {t : TypeId} (e : isIfaceT P t = true) : ∃ ms, P.underlying t = some (.interface ms) := by
  unfold isIfaceT at e; split at e
  · rename_i ms hm; exact ⟨ms, hm⟩
  · cases e
theorem nilCmp_ok {x : AV} {x' : Value} {op : BinOp} {t : TypeId} {ox : Operand} (hr : HRel β h nx w) (hx : VRel β x x') (e : nilCmp P op t x h nx k = true) :
    SemQ P (do eqGuard op t ox (.const .nilIface) x' .nilIface; binOp op t x' .nilIface) β h nx w k := by
  have key : ∀ b : Bool, eqRet op b h nx k = true → (op = .eql → (Op.equal t x' .nilIface).run P w = .ok b w) → (op = .neq → (Op.equal t x' .nilIface).run P w = .ok b w) →
      (∀ o2, (eqGuard o2 t ox (.const .nilIface) x' .nilIface).run P w = .ok () w) → (∀ s, x' ≠ .string s) → (x' = .nilIface ∨ ∃ u y, x' = .iface u y) →
      SemQ P (do eqGuard op t ox (.const .nilIface) x' .nilIface; binOp op t x' .nilIface) β h nx w k := by
    intro b he h1 h2 hg hs hsh
    refine SemQ.guard (hg op) ?_
    refine eqRet_ok hr he (fun ho => ?_) (fun ho => ?_)
    · subst ho
      rcases hsh with rfl | ⟨u, y, rfl⟩ <;> simp [binOp, h1 rfl, Result.andThen]
    · subst ho
      rcases hsh with rfl | ⟨u, y, rfl⟩ <;> simp [binOp, h2 rfl, Result.andThen]
  have hguard : ∀ o2, (x' = .nilIface ∨ ∃ u y, x' = .iface u y) → (eqGuard o2 t ox (.const .nilIface) x' .nilIface).run P w = .ok () w := by
    intro o2 hsh
    rcases hsh with rfl | ⟨u, y, rfl⟩ <;> cases o2 <;> simp [eqGuard]
  cases hx <;> first | (exfalso; simp [nilCmp, bad1] at e; done) | skip
  case iface u y v hv =>
    obtain ⟨h1, e⟩ := guard_of (show (Bool.rec (motive := fun _ => Bool) false (eqRet op false h nx k) (isIfaceT P t)) = true from e)
    obtain ⟨ms, hu⟩ := isIfaceT_info h1
    have heq : (Op.equal t (.iface u v) .nilIface).run P w = .ok false w := by
      unfold Op.equal Op.maxDepth Op.equalIn; simp [run_underlying hu]
    exact key false e (fun _ => heq) (fun _ => heq) (fun o2 => hguard o2 (.inr ⟨_, _, rfl⟩)) (fun s h => by cases h) (.inr ⟨_, _, rfl⟩)
  case niliface =>
    obtain ⟨h1, e⟩ := guard_of (show (Bool.rec (motive := fun _ => Bool) false (eqRet op true h nx k) (isIfaceT P t)) = true from e)
    obtain ⟨ms, hu⟩ := isIfaceT_info h1
    have heq : (Op.equal t .nilIface .nilIface).run P w = .ok true w := by
      unfold Op.equal Op.maxDepth Op.equalIn; simp [run_underlying hu]
    exact key true e (fun _ => heq) (fun _ => heq) (fun o2 => hguard o2 (.inl rfl)) (fun s h => by cases h) (.inl rfl)
theorem assertA_ok {x : AV} {x' : Value} {xt t : TypeId} {ok : Bool} (hr : HRel β h nx w) (hx : VRel β x x') (e : assertA P t ok x h nx k = true) : SemQ P (Instr.typeAssert x' xt t ok) β h nx w k := by
  have hzero : ∀ z, zeroT P t = some z → ∃ z', (∀ W : World, (zeroValue t).run P W = .ok z' W) ∧ VRel β z z' := fun z hz => by
    obtain ⟨i2, z', q1, q2, q3⟩ := zeroT_info hz
    exact ⟨z', fun W => by simp [zeroValue, run_typeInfoA q1, q2], absV_ok q3⟩
  have pair : ∀ {a : AV} {a' : Value} {b : Bool}, VRel β a a' → VRel β (.tuple [a, .bool b]) (.tuple #[a', .bool b]) := fun {a a' b} ha =>
    VRel.tuple [a, .bool b] [a', .bool b] rfl (LRel.cons ha (.cons (.bool b) (.nil β))).2
  cases hx <;> first | (exfalso; simp [assertA, bad1] at e; done) | skip
  case iface u y v hv =>
    obtain ⟨h1, e⟩ := guard_of (show (Bool.rec (motive := fun _ => Bool) false (Bool.rec (failA P t ok h nx k) (hitA ok y h nx k) (Nat.beq u t)) (ifaceOk P t)) = true from e)
    obtain ⟨d, hd, hni⟩ := ifaceOk_info h1
    cases hut : Nat.beq u t with
    | true =>
      rw [hut] at e
      have := Nat.eq_of_beq_eq_true hut
      subst this
      have hrun : (Instr.typeAssert (.iface u v) xt u ok).run P w = .ok (if ok then .tuple #[v, .bool true] else v) w := by
        cases d <;> first | exact absurd rfl (hni _) | simp [Instr.typeAssert, run_underlying hd]
      cases ok with
      | true => exact .ret hr hrun (pair hv) e
      | false => exact .ret hr hrun hv e
    | false =>
      rw [hut] at e
      have hne : u ≠ t := fun hh => by subst hh; simp at hut
      obtain ⟨hok, e⟩ := guard_of (show (Bool.rec (motive := fun _ => Bool) false (Option.rec (motive := fun _ => Bool) false (fun z => k (.tuple [z, .bool false]) h nx) (zeroT P t)) ok) = true from e)
      subst hok
      obtain ⟨z, hz, e⟩ := opt_of e
      obtain ⟨z', hz1, hz2⟩ := hzero z hz
      refine .ret hr (v' := .tuple #[z', .bool false]) ?_ (pair hz2) e
      cases d <;> first | exact absurd rfl (hni _) | simp [Instr.typeAssert, run_underlying hd, hne, hz1, Result.andThen]
  case niliface =>
    obtain ⟨h1, e⟩ := guard_of (show (Bool.rec (motive := fun _ => Bool) false (failA P t ok h nx k) (ifaceOk P t)) = true from e)
    obtain ⟨d, hd, hni⟩ := ifaceOk_info h1
    obtain ⟨hok, e⟩ := guard_of (show (Bool.rec (motive := fun _ => Bool) false (Option.rec (motive := fun _ => Bool) false (fun z => k (.tuple [z, .bool false]) h nx) (zeroT P t)) ok) = true from e)
    subst hok
    obtain ⟨z, hz, e⟩ := opt_of e
    obtain ⟨z', hz1, hz2⟩ := hzero z hz
    refine .ret hr (v' := .tuple #[z', .bool false]) ?_ (pair hz2) e
    cases d <;> first | exact absurd rfl (hni _) | simp [Instr.typeAssert, run_underlying hd, hz1, Result.andThen]

/-! ### operations -/
section
variable {d nt : Nat} {t : TM} {a : Act}
theorem opDen_q {o : Oper} (hq : isQuiet o.op = true) (hr : HRel β h nx w) (ht : TRel β d nt t a.tmps) (e : opDen P d nt o.op t h nx k = true) :
    OpQ P (execOp a.eval o) β h nx w k := by
  obtain ⟨dst, op, ty, pos, after, g⟩ := o
  cases op <;> first | (cases e; done) | (cases hq; done) | skip
  case move x =>
    obtain ⟨v, hv, e⟩ := evD_ok ht e
    exact ⟨v, _, rfl, hv, e⟩
  case assign x =>
    obtain ⟨v, hv, e⟩ := evD_ok ht e
    exact ⟨v, _, rfl, hv, e⟩
  case pick c x y =>
    obtain ⟨v, hv, e⟩ := evD_ok ht e
    unfold pickB at e
    split at e
    · obtain ⟨u, hu, e⟩ := evD_ok ht e
      cases hc : a.eval c <;> (rw [hc] at hv; cases hv)
      exact ⟨u, _, by simp [execOp, hc, asBool], hu, e⟩
    · obtain ⟨u, hu, e⟩ := evD_ok ht e
      cases hc : a.eval c <;> (rw [hc] at hv; cases hv)
      exact ⟨u, _, by simp [execOp, hc, asBool], hu, e⟩
    · cases e
  case build ty2 ps =>
    obtain ⟨qs, h1, h2, e⟩ := evParts_ok ht e
    exact (buildA_ok (ps' := ps.map fun (i, x) => (i, a.eval x)) hr (by simpa [Function.comp_def] using h1) (by simpa [Function.comp_def] using h2) e).value
  case load ty2 x =>
    obtain ⟨v, hv, e⟩ := evD_ok ht e
    exact (loadA_ok hr hv e).value
  case nilCheck x =>
    obtain ⟨v, hv, e⟩ := evD_ok ht e
    unfold nilCheckA at e
    split at e
    · rename_i b o
      refine ⟨.ptr b o, a.eval x, ?_, hv, e⟩
      cases hc : a.eval x <;> (rw [hc] at hv; cases hv)
      simp [execOp, hc]
    · rename_i f fv cap
      refine ⟨.func f fv cap, a.eval x, ?_, hv, e⟩
      cases hc : a.eval x <;> (rw [hc] at hv; cases hv)
      simp [execOp, hc]
    · cases e
  case binOp op ty2 x y n =>
    cases hn : isNilC y with
    | false =>
      have e : Bool.rec (motive := fun _ => OpF) (o2 d nt (fun x => binA P x op ty2) x y) (o1 d nt (nilCmp P op ty2) x) (isNilC y) t h nx k = true := e
      rw [hn] at e
      obtain ⟨v, hv, e⟩ := evD_ok ht (show evD d nt x t (fun v => evD d nt y t fun u => binA P v op ty2 u h nx k) = true from e)
      obtain ⟨u, hu, e⟩ := evD_ok ht e
      exact (binA_ok hr hv hu e).value
    | true =>
      have e1 : Bool.rec (motive := fun _ => OpF) (o2 d nt (fun x => binA P x op ty2) x y) (o1 d nt (nilCmp P op ty2) x) (isNilC y) t h nx k = true := e
      clear e
      rw [hn] at e1
      obtain ⟨v, hv, e2⟩ := evD_ok ht (show evD d nt x t (fun v => nilCmp P op ty2 v h nx k) = true from e1)
      clear e1
      have hy : y = .const .nilIface := by
        unfold isNilC at hn
        split at hn
        · rfl
        · cases hn
      subst hy
      exact (nilCmp_ok hr hv e2).value
  case unOp op ty2 x =>
    obtain ⟨v, hv, e⟩ := evD_ok ht e
    exact (unA_ok hr hv e).value
  case convert src dst2 x =>
    obtain ⟨v, hv, e⟩ := evD_ok ht e
    exact (convA_ok hr hv e).value
  case makeInterface ty2 x =>
    obtain ⟨v, hv, e⟩ := evD_ok ht e
    exact (ifaceA_ok hr hv e).value
  case makeFunc f x y =>
    obtain ⟨v, hv, e⟩ := evList_ok ht e
    obtain ⟨u, hu, e⟩ := evList_ok ht e
    cases f with
    | func g =>
      refine ⟨.func g v u, .func (.func g) (x.map a.eval) (y.map a.eval), by simp [execOp, Instr.makeFunc], ?_, e⟩
      have := VRel.func (β := β) g v u _ _ hv.1 hv.2 hu.1 hu.2
      have e1 : (x.toList.map a.eval).toArray = x.map a.eval := by rw [← Array.toList_map, Array.toArray_toList]
      have e2 : (y.toList.map a.eval).toArray = y.map a.eval := by rw [← Array.toList_map, Array.toArray_toList]
      rw [e1, e2] at this
      exact this
    | _ => cases e
  case slice ty2 x lo hi mx =>
    obtain ⟨v, hv, e⟩ := evD_ok ht e
    obtain ⟨l, hl, e⟩ := evOpt_ok ht e
    obtain ⟨r, hh, e⟩ := evOpt_ok ht e
    obtain ⟨m, hm, e⟩ := evOpt_ok ht e
    exact (sliceA_ok hr hv hl hh hm e).value
  case fieldAddr ty2 x f =>
    obtain ⟨v, hv, e⟩ := evD_ok ht e
    exact (fieldAddrA_ok hr hv e).value
  case field ty2 x f =>
    obtain ⟨v, hv, e⟩ := evD_ok ht e
    exact (fieldA_ok hr hv e).value
  case indexAddr ty2 x i =>
    obtain ⟨v, hv, e⟩ := evD_ok ht e
    obtain ⟨u, hu, e⟩ := evD_ok ht e
    exact (indexAddrA_ok hr hv hu e).value
  case index ty2 x i =>
    obtain ⟨v, hv, e⟩ := evD_ok ht e
    obtain ⟨u, hu, e⟩ := evD_ok ht e
    exact (indexA_ok hr hv hu e).value
  case lookup ty2 x i ok =>
    obtain ⟨v, hv, e⟩ := evD_ok ht e
    obtain ⟨u, hu, e⟩ := evD_ok ht e
    exact (lookupA_ok hr hv hu e).value
  case extract x i =>
    obtain ⟨v, hv, e⟩ := evD_ok ht e
    exact (extractA_ok hr hv e).value

theorem opDen_ok {o : Oper} (hr : HRel β h nx w) (ht : TRel β d nt t a.tmps) (e : opDen P d nt o.op t h nx k = true) :
    OpOK P (execOp a.eval o) β h nx w k := by
  cases hq : isQuiet o.op with
  | true => exact (opDen_q hq hr ht e).ok hr
  | false =>
    obtain ⟨dst, op, ty, pos, after, g⟩ := o
    cases op <;> first | (cases e; done) | (cases hq; done) | skip
    case alloc ty2 => exact (alloc_ok (d := d) (nt := nt) (t := t) hr e).value
    case box ty2 x =>
      obtain ⟨v, hv, e⟩ := evD_ok ht e
      exact (box_ok hr hv e).value
    case buildSlice ty2 n ps =>
      obtain ⟨qs, h1, h2, e⟩ := evParts_ok ht (show evParts d nt ps.toList t (fun ps => buildSliceA P ty2 n ps h nx k) = true from e)
      have g1 : qs.map (·.1) = (ps.map fun (i, x) => (i, a.eval x)).toList.map (·.1) := by rw [h1]; simp [Function.comp_def]
      have g2 : LRel β (qs.map (·.2)) ((ps.map fun (i, x) => (i, a.eval x)).toList.map (·.2)) := by simpa [Function.comp_def] using h2
      have q := buildSliceA_ok (P := P) (t := ty2) (len := n) (ps := qs) (ps' := ps.map fun (i, x) => (i, a.eval x)) (k := k) hr g1 g2 e
      exact q.value
    case store ty2 x v =>
      obtain ⟨u, hu, e⟩ := evD_ok ht (show evD d nt v t (fun u => evD d nt x t fun p => storeA P ty2 u p h nx k) = true from e)
      obtain ⟨p, hp, e⟩ := evD_ok ht e
      have q := storeA_ok hr hp hu e
      exact unit_ok q
    case typeAssert x xt ty2 ok =>
      obtain ⟨v, hv, e⟩ := evD_ok ht (show evD d nt x t (fun v => assertA P ty2 ok v h nx k) = true from e)
      exact ((assertA_ok hr hv e).ok hr).value
    case makeMap ty2 r =>
      cases r with
      | none => exact (makeMap_ok (t := t) hr e).value
      | some r => cases e
    case makeSlice ty2 l c =>
      obtain ⟨u, hu, e⟩ := evD_ok ht (show evD d nt l t (fun u => evD d nt c t fun p => makeSliceA P ty2 u p h nx k) = true from e)
      obtain ⟨p, hp, e⟩ := evD_ok ht e
      exact (makeSliceA_ok hr hu hp e).value
    case mapUpdate ty2 m x v =>
      obtain ⟨u, hu, e⟩ := evD_ok ht (show evD d nt x t (fun u => evD d nt v t fun p => evD d nt m t fun q => updateA P ty2 u p q h nx k) = true from e)
      obtain ⟨p, hp, e⟩ := evD_ok ht e
      obtain ⟨q, hq, e⟩ := evD_ok ht e
      have q := updateA_ok hr hu hp hq e
      exact unit_ok q
end
end Am
