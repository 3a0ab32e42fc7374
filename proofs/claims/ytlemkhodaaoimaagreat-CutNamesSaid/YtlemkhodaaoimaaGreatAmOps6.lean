/- Maps, lengths, conversions, appends: sound. -/
import Derived.Test.YtlemkhodaaoimaaGreatAmOps5
set_option linter.unusedVariables false
set_option linter.unusedSimpArgs false
noncomputable section
namespace Am
open Go
variable {P : Program} {β : Beta} {h : HP} {nx : Nat} {w : World} {k : KV}

theorem byte_beq (a b : ByteArray) : (a == b) = (a.data == b.data) := by cases a; cases b; rfl
theorem byte_eq {a b : ByteArray} {l l' : List Nat} (ha : a.data.toList.map UInt8.toNat = l) (hb : b.data.toList.map UInt8.toNat = l') : (a == b) = natsEq l l' := by
  rw [natsEq_eq, ← ha, ← hb, byte_beq]
  by_cases e : a.data = b.data
  · rw [e]; simp
  · have h2 : a.data.toList.map UInt8.toNat ≠ b.data.toList.map UInt8.toNat := fun h => e (by
      have := map_inj h
      exact Array.ext' this)
    rw [beq_eq_false_iff_ne.2 e, beq_eq_false_iff_ne.2 h2]
theorem natsEq_true {a b : List Nat} (e : natsEq a b = true) : a = b := by rw [natsEq_eq] at e; simpa using e
theorem str_inj {a b : ByteArray} {l : List Nat} (ha : a.data.toList.map UInt8.toNat = l) (hb : b.data.toList.map UInt8.toNat = l) : a = b := by
  have := map_inj (ha.trans hb.symm)
  cases a; cases b; simp at this; rw [this]

/-- the first entry of that key, and what putting and taking it out leave -/
theorem ERel.find {es : List (List Nat × AV)} {es' : List MapEntry} (hr : ERel β es es') {s : ByteArray} {x : List Nat} (hs : s.data.toList.map UInt8.toNat = x) (v : AV) (v' : Value) (hv : VRel β v v') (born : Nat) (i : Nat) :
    (∃ j e a, Instr.findNow .string (.string s) es' i = some (some (i + j, e.val)) ∧ es'[j]? = some e ∧ e.key = .string s ∧ findA x es = some a ∧ VRel β a e.val ∧
      ERel β (putA x v es) (es'.set j { e with key := .string s, val := v' }) ∧ ERel β (delA x es) (es'.eraseIdx j)) ∨
    (Instr.findNow .string (.string s) es' i = some none ∧ findA x es = none ∧ ERel β (putA x v es) (es' ++ [{ key := .string s, val := v', born := born }]) ∧ ERel β (delA x es) es') := by
  induction hr generalizing i with
  | nil => exact .inr ⟨rfl, rfl, .cons x v [] _ [] s rfl hs hv .nil, .nil⟩
  | cons y a es e es' sy h1 h2 h3 h4 ih =>
    have hb : Instr.sameNow .string (.string s) e.key = some (natsEq x y) := by rw [h1]; simp only [Instr.sameNow, byte_eq hs h2]
    cases hc : natsEq x y with
    | true =>
      rw [hc] at hb
      have hxy := natsEq_true hc
      subst hxy
      have hsy := str_inj hs h2
      subst hsy
      have f1 : findA x ((x, a) :: es) = some a := by show (Bool.rec (motive := fun _ => Option AV) (findA x es) (some a) (natsEq x x)) = _; rw [hc]
      have f2 : putA x v ((x, a) :: es) = (x, v) :: es := by show (Bool.rec (motive := fun _ => List (List Nat × AV)) ((x, a) :: putA x v es) ((x, v) :: es) (natsEq x x)) = _; rw [hc]
      have f3 : delA x ((x, a) :: es) = es := by show (Bool.rec (motive := fun _ => List (List Nat × AV)) ((x, a) :: delA x es) es (natsEq x x)) = _; rw [hc]
      refine .inl ⟨0, e, a, by simp [Instr.findNow, hb], rfl, h1, f1, h3, ?_, ?_⟩
      · rw [f2]; exact .cons x v es _ es' s rfl h2 hv h4
      · rw [f3]; exact h4
    | false =>
      rw [hc] at hb
      have f1 : findA x ((y, a) :: es) = findA x es := by show (Bool.rec (motive := fun _ => Option AV) (findA x es) (some a) (natsEq x y)) = _; rw [hc]
      have f2 : putA x v ((y, a) :: es) = (y, a) :: putA x v es := by show (Bool.rec (motive := fun _ => List (List Nat × AV)) ((y, a) :: putA x v es) ((x, v) :: es) (natsEq x y)) = _; rw [hc]
      have f3 : delA x ((y, a) :: es) = (y, a) :: delA x es := by show (Bool.rec (motive := fun _ => List (List Nat × AV)) ((y, a) :: delA x es) es (natsEq x y)) = _; rw [hc]
      rcases ih (i + 1) with ⟨j, e2, a2, g1, g2, g3, g4, g5, g6, g7⟩ | ⟨g1, g2, g3, g4⟩
      · refine .inl ⟨j + 1, e2, a2, ?_, by simpa using g2, g3, by rw [f1]; exact g4, g5, ?_, ?_⟩
        · simp only [Instr.findNow, hb, g1]; congr 3; omega
        · rw [f2]; exact .cons y a _ e _ sy h1 h2 h3 g6
        · rw [f3]; exact .cons y a _ e _ sy h1 h2 h3 g7
      · refine .inr ⟨by simp only [Instr.findNow, hb, g1], by rw [f1]; exact g2, ?_, ?_⟩
        · rw [f2]; exact .cons y a _ e _ sy h1 h2 h3 g3
        · rw [f3]; exact .cons y a _ e _ sy h1 h2 h3 g4

theorem strMap_info {t el : TypeId} (e : strMap P t = some el) : ∃ ky, P.underlying t = some (.map ky el) ∧ P.underlying ky = some .string := by
  unfold strMap at e
  split at e
  · rename_i ky el2 h1
    cases hc : isStrT P ky with
    | false => rw [hc] at e; cases e
    | true => rw [hc] at e; cases e; exact ⟨ky, h1, isStrT_info hc⟩
  · cases e
theorem run_checkKey {b : Bool} {ky : TypeId} {s : ByteArray} (hu : P.underlying ky = some .string) : (Instr.checkKey b 10000 ky (.string s)).run P w = .ok () w := by
  have : ∀ n, (Instr.checkKey b (n + 1) ky (.string s)).run P w = .ok () w := fun n => by simp [Instr.checkKey, run_underlying hu]
  exact this 9999
theorem run_getObj_map {r : Nat} {es : Array MapEntry} {c : Nat} (e : w.heap[r]? = some (.map es c)) : (getObj r).run P w = .ok (.map es c) w := by simp [getObj, Sem.run, e]
theorem run_setObj_map {r : Nat} {es : Array MapEntry} {c : Nat} (o : Obj) (e : w.heap[r]? = some (.map es c)) : (setObj r o).run P w = .ok () (w.putObj r o) := by simp [setObj, Sem.run, e, World.putObj]
theorem frozen_putObj_map {r : Nat} {es es2 : Array MapEntry} {c c2 : Nat} (e : w.heap[r]? = some (.map es c)) (a : Addr) : (w.putObj r (.map es2 c2)).frozen? a = w.frozen? a := by
  by_cases hb : a.block = r
  · have h1 : (w.putObj r (.map es2 c2)).heap[a.block]? = some (.map es2 c2) := by rw [hb]; exact World.putObj_heap_same (Array.getElem?_eq_some_iff.1 e).1
    have h2 : w.heap[a.block]? = some (.map es c) := by rw [hb]; exact e
    simp [World.frozen?, h1, h2]
  · simp [World.frozen?, World.putObj_heap_other hb]
theorem withStr_of {x : AV} {x' : Value} {f : List Nat → Bool} (hx : VRel β x x') (e : withStr x f = true) : ∃ l s, x' = .string s ∧ s.data.toList.map UInt8.toNat = l ∧ f l = true := by
  cases hx <;> first | (exfalso; simp [withStr] at e; done) | skip
  rename_i l s hs
  exact ⟨l, s, rfl, hs, e⟩

theorem lookupA_ok {t : TypeId} {ok : Bool} {x m : AV} {x' m' : Value} (hr : HRel β h nx w) (hx : VRel β x x') (hm : VRel β m m') (e : lookupA P t ok x m h nx k = true) :
    SemQ P (Instr.lookup t m' x' ok) β h nx w k := by
  cases ok with
  | true => cases e
  | false =>
    obtain ⟨z, hz, e⟩ := opt_of (show (Option.rec (motive := fun _ => Bool) false (fun z => lookZ m z x h nx k) ((strMap P t).bind (zeroT P))) = true from e)
    cases hsm : strMap P t with
    | none => rw [hsm] at hz; cases hz
    | some el =>
      rw [hsm] at hz
      have hz : zeroT P el = some z := hz
      obtain ⟨ky, hu, hky⟩ := strMap_info hsm
      obtain ⟨zv, hzv, hzr⟩ := run_zeroA (β := β) (w := w) hz
      rename_i e00 e01
      clear e00 e01
      cases hm <;> first | (exfalso; simp [lookZ, bad1] at e; done) | skip
      case map b i hi =>
        obtain ⟨l, s, rfl, hs, e⟩ := withStr_of hx e
        rw [Tr.getK_eq] at e
        obtain ⟨es, es', c, ho, h1, h2, e⟩ := withMap_of hr hi e
        rcases h2.find hs z zv hzr 0 0 with ⟨j, en, a, f1, f2, f3, f4, f5, _⟩ | ⟨f1, f2, _⟩
        · rw [f4] at e
          refine .ret hr ?_ f5 e
          simp [Instr.lookup, run_underlying hu, run_getObj_map h1, run_checkKey hky, MapKept.run_findKey hky f1]
        · rw [f2] at e
          refine .ret hr ?_ hzr e
          simp [Instr.lookup, run_underlying hu, run_getObj_map h1, run_checkKey hky, MapKept.run_findKey hky f1, hzv]
      case nilmap =>
        obtain ⟨l, s, rfl, hs, e⟩ := withStr_of hx e
        refine .ret hr ?_ hzr e
        have f1 : Instr.findNow .string (.string s) [] 0 = some none := rfl
        simp [Instr.lookup, run_underlying hu, run_checkKey hky, MapKept.run_findKey hky f1, hzv]

theorem run_keyStays (s : ByteArray) : (Instr.keyThatStays (.string s) (.string s)).run P w = .ok (.string s) w := by
  have : Instr.sameBits 10000 (.string s) (.string s) = true := by
    show (s == s) = true
    rw [byte_beq]; simp
  simp [Instr.keyThatStays, this]
theorem updateA_ok {t : TypeId} {x v m : AV} {x' v' m' : Value} (hr : HRel β h nx w) (hx : VRel β x x') (hv : VRel β v v') (hm : VRel β m m') (e : updateA P t x v m h nx k = true) :
    ∃ w', (Instr.mapUpdate t m' x' v').run P w = .ok () w' ∧ OutV β h nx w k undef w' := by
  cases hm <;> first | (exfalso; simp [updateA, bad1] at e; done) | skip
  rename_i b i hi
  obtain ⟨el, hsm, e⟩ := opt_of (show (Option.rec (motive := fun _ => Bool) false (fun _ => updMap x v b h nx k) (strMap P t)) = true from e)
  obtain ⟨ky, hu, hky⟩ := strMap_info hsm
  obtain ⟨l, s, rfl, hs, e⟩ := withStr_of hx e
  rw [Tr.getK_eq] at e
  obtain ⟨es, es', c, ho, h1, h2, e⟩ := withMap_of hr hi e
  rw [forceList_eq, Tr.setK_eq] at e
  have hlt := (Array.getElem?_eq_some_iff.1 h1).1
  have turn : ∀ (es2 : Array MapEntry) (c2 : Nat), ERel β (putA l v es) es2.toList → OutV β h nx w k undef (w.putObj i.blk (.map es2 c2)) := fun es2 c2 he => by
    obtain ⟨hr2, hst⟩ := hr.turn hi (by rw [ho]; rfl) (.map (putA l v es)) (.inl rfl) (by simp) (fun y hy => World.putObj_heap_other hy) (frozen_putObj_map h1) ⟨es2, c2, World.putObj_heap_same hlt, he⟩
    exact ⟨β, undefA, _, nx, hr2, hst, .tuple [] [] rfl (fun j a v hh => by simp at hh), e⟩
  rcases h2.find hs v v' hv c 0 with ⟨j, en, a, f1, f2, f3, f4, f5, f6, _⟩ | ⟨f1, f2, f6, _⟩
  · have hj : es'[j]? = some en := by rw [← f2]; simp
    refine ⟨_, ?_, turn (es'.modify j fun e => { e with key := .string s, val := v' }) c ?_⟩
    · have f1' := MapKept.run_findKey (w := w) hky f1
      simp [Instr.mapUpdate, run_underlying hu, run_getObj_map h1, run_checkKey hky, f1', hj, f3, run_keyStays, run_setObj_map _ h1]
    · have : (es'.modify j fun e => { e with key := .string s, val := v' }).toList = es'.toList.set j { en with key := .string s, val := v' } := by
        apply List.ext_getElem?
        intro q
        rw [Array.getElem?_toList, Array.getElem?_modify, List.getElem?_set]
        by_cases hq : j = q
        · subst hq
          have hjs := (Array.getElem?_eq_some_iff.1 hj).1
          rw [if_pos rfl, if_pos rfl, hj]
          simp [hjs]
        · rw [if_neg hq, if_neg hq, Array.getElem?_toList]
      rw [this]; exact f6
  · refine ⟨_, ?_, turn (es'.push { key := .string s, val := v', born := c }) (c + 1) (by simpa using f6)⟩
    have f1' := MapKept.run_findKey (w := w) hky f1
    simp [Instr.mapUpdate, run_underlying hu, run_getObj_map h1, run_checkKey hky, f1', run_setObj_map _ h1]

theorem deleteA_ok {t t2 ty : TypeId} {x m : AV} {x' m' : Value} {ts : Array TypeId} (hr : HRel β h nx w) (hx : VRel β x x') (hm : VRel β m m') (hts : ts[0]? = some t) (e : deleteA P t x m h nx k = true) :
    SemOK P (Builtin.delete_ ts ty #[m', x']) β h nx w k := by
  cases hm <;> first | (exfalso; simp [deleteA, bad1] at e; done) | skip
  rename_i b i hi
  obtain ⟨el, hsm, e⟩ := opt_of (show (Option.rec (motive := fun _ => Bool) false (fun _ => delMap x b h nx k) (strMap P t)) = true from e)
  obtain ⟨ky, hu, hky⟩ := strMap_info hsm
  obtain ⟨l, s, rfl, hs, e⟩ := withStr_of hx e
  rw [Tr.getK_eq] at e
  obtain ⟨es, es', c, ho, h1, h2, e⟩ := withMap_of hr hi e
  rw [forceList_eq, Tr.setK_eq] at e
  have hlt := (Array.getElem?_eq_some_iff.1 h1).1
  have turn : ∀ (es2 : Array MapEntry) (c2 : Nat), ERel β (delA l es) es2.toList → OutV β h nx w k (.tuple #[]) (w.putObj i.blk (.map es2 c2)) := fun es2 c2 he => by
    obtain ⟨hr2, hst⟩ := hr.turn hi (by rw [ho]; rfl) (.map (delA l es)) (.inl rfl) (by simp) (fun y hy => World.putObj_heap_other hy) (frozen_putObj_map h1) ⟨es2, c2, World.putObj_heap_same hlt, he⟩
    exact ⟨β, undefA, _, nx, hr2, hst, .tuple [] [] rfl (fun j a v hh => by simp at hh), e⟩
  rcases h2.find hs .nilptr (.pointer none) .nilptr c 0 with ⟨j, en, a, f1, f2, f3, f4, f5, _, f6⟩ | ⟨f1, f2, _, f6⟩
  · have f1' := MapKept.run_findKey (w := w) hky f1
    refine ⟨_, _, ?_, turn (es'.eraseIdxIfInBounds j) c ?_⟩
    · simp [Builtin.delete_, hts, run_underlying hu, run_getObj_map h1, run_checkKey hky, f1', run_setObj_map _ h1]
    · have hj : j < es'.size := by have := (List.getElem?_eq_some_iff.1 f2).1; simpa using this
      have : (es'.eraseIdxIfInBounds j).toList = es'.toList.eraseIdx j := by simp [Array.eraseIdxIfInBounds, hj]
      rw [this]; exact f6
  · have f1' := MapKept.run_findKey (w := w) hky f1
    refine ⟨_, _, ?_, turn es' c f6⟩
    simp [Builtin.delete_, hts, run_underlying hu, run_getObj_map h1, run_checkKey hky, f1', run_setObj_map _ h1]
end Am
