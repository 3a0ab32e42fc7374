/- New slices, maps, lengths, conversions: sound. -/
import Derived.Test.YtjcmcblcaakbaaaGreatDoorAmOpsA
import Derived.IntWalk
import Derived.MapKept
import Derived.Laws.Append
import Derived.Lib.UnsafeStr
import Derived.Laws.BytesArg
set_option linter.unusedVariables false
set_option linter.unusedSimpArgs false
noncomputable section
namespace Am
open Go
variable {P : Program} {β : Beta} {h : HP} {nx : Nat} {w : World} {k : KV}

theorem allocAt_ok {ty : TypeId} (hr : HRel β h nx w) {x : Nat} (hx0 : β x = none) (hxn : x ≤ nx) {d nt : Nat} {t : TM} (e : oAlloc P ty t h x k = true) :
    ∃ v' w', (Instr.alloc ty true (.tuple #[])).run P w = .ok v' w' ∧ OutAt β h nx x w k v' w' := by
  obtain ⟨z, hz, e⟩ := opt_of (show (Option.rec (motive := fun _ => Bool) false (fun z => newPtr ty z h x k) (zeroCells P ty)) = true from e)
  obtain ⟨zv, n, h1, h2, rfl, h3, h4⟩ := zeroCells_info hz
  obtain ⟨v, hv, hrel⟩ := run_zeroA (w := w) h1
  obtain ⟨w', hw, ho⟩ := newPtr_okAt (P := P) (el := ty) hr hx0 hxn hrel.cells e
  exact ⟨_, w', by simp [Instr.alloc, hv, hw], ho⟩
theorem alloc_ok {ty : TypeId} (hr : HRel β h nx w) {d nt : Nat} {t : TM} (e : oAlloc P ty t h nx k = true) : SemOK P (Instr.alloc ty true (.tuple #[])) β h nx w k := by
  obtain ⟨z, hz, e⟩ := opt_of (show (Option.rec (motive := fun _ => Bool) false (fun z => newPtr ty z h nx k) (zeroCells P ty)) = true from e)
  obtain ⟨zv, n, h1, h2, rfl, h3, h4⟩ := zeroCells_info hz
  obtain ⟨v, hv, hrel⟩ := run_zeroA (w := w) h1
  obtain ⟨w', hw, ho⟩ := newPtr_ok (P := P) (el := ty) hr hrel.cells e
  exact ⟨_, w', by simp [Instr.alloc, hv, hw], ho⟩
theorem box_ok {ty : TypeId} {v : AV} {v' : Value} (hr : HRel β h nx w) (hv : VRel β v v') (e : newPtr ty (cellsOf v) h nx k = true) : SemOK P (Instr.box ty v') β h nx w k := by
  obtain ⟨w', hw, ho⟩ := newPtr_ok (P := P) (el := ty) hr hv.cells e
  exact ⟨_, w', by simp [Instr.box, hw], ho⟩

theorem allFlat_rep {z : List AV} (hz : allFlat z = true) (m : Nat) : allFlat (rep m z) = true := by
  induction m with
  | zero => rfl
  | succ m ih => exact allFlat_append.2 ⟨hz, ih⟩

theorem buildSliceA_ok {t : TypeId} {len : Nat} {ps : List (Nat × AV)} {ps' : Array (Nat × Value)} (hr : HRel β h nx w) (h1 : ps.map (·.1) = ps'.toList.map (·.1)) (h2 : LRel β (ps.map (·.2)) (ps'.toList.map (·.2)))
    (e : buildSliceA P t len ps h nx k = true) : SemOK P (Instr.buildSlice t len ps') β h nx w k := by
  obtain ⟨⟨el, n, z⟩, hz, e⟩ := opt_of e
  obtain ⟨hlim, e⟩ := guard_of e
  have hlim : len * n ≤ 2 ^ 24 := Nat.le_of_ble_eq_true hlim
  obtain ⟨zv, i, hu, hs, hn, hi, hb, hzt, hzc, hzl, hzf⟩ := sliceZero_info hz
  obtain ⟨v, hv, hrel⟩ := run_zeroA (β := β) (w := w) hzt
  obtain ⟨cs, hf, e⟩ := opt_of e
  rw [forceList_eq] at e
  have hvsz : v.cells.size = n := by rw [← hzl, hzc, hrel.cells.1]; simp
  have hzero : ∃ zz : Array Value, ((len * n = 0 ∧ zz = #[]) ∨ (¬ len * n = 0 ∧ zz = v.cells)) ∧
      ((Array.range (len * n)).map (zz[· % zz.size]!)).toList = (List.replicate len v.cells.toList).flatten := by
    by_cases h0 : len * n = 0
    · refine ⟨#[], .inl ⟨h0, rfl⟩, ?_⟩
      have : len = 0 := by rcases Nat.mul_eq_zero.1 h0 with h | h <;> omega
      subst this; simp
    · exact ⟨v.cells, .inr ⟨h0, rfl⟩, zeros_eq v.cells len n hvsz hn⟩
  obtain ⟨zz, hzz, hzeros⟩ := hzero
  have hlr : LRel β (rep len z) ((Array.range (len * n)).map (zz[· % zz.size]!)).toList := by
    rw [hzeros, hzc]; exact hrel.cells.rep len
  have hzfl := allFlat_rep hzf len
  obtain ⟨cells', g1, g2, g3⟩ := fill_ok (place := fun i => some (i * n, n)) (fun i p hp => hp) h1 h2 hlr hzfl hf
  obtain ⟨β', h', hr2, hst, hbn, e⟩ := newCells_ok false (kk := fun b h nx => k (.slice b 0 len len n) h nx) hr g2 (g2.oneCell g3) e []
  rw [List.append_nil, Array.toArray_toList] at hr2 hst
  rw [List.append_nil] at hbn
  have hlen : cells'.toList.length = len * n := by
    rw [← g2.1]
    have : ∀ {ps : List (Nat × AV)} {zs cs : List AV}, fillA (fun i => some (i * n, n)) ps zs = some cs → cs.length = zs.length := by
      intro ps
      induction ps with
      | nil => intro zs cs e; cases e; rfl
      | cons p ps ih =>
        intro zs cs e
        simp only [fillA] at e
        cases hc : (Nat.beq (cellsOf p.2).length n && Nat.ble (p.1 * n + n) zs.length && allFlat (cellsOf p.2)) with
        | false => rw [hc] at e; cases e
        | true =>
          rw [hc] at e
          simp only [cond_true] at e
          simp only [Bool.and_eq_true] at hc
          have c1 := Nat.eq_of_beq_eq_true hc.1.1
          have c2 := Nat.le_of_ble_eq_true hc.1.2
          rw [ih e]; simp; omega
    rw [this hf, hlr.1]; simp
  refine ⟨_, _, ?_, β', .slice nx 0 len len n, h', nx + 1, hr2, hst, VRel.slice nx 0 len len n len _ hbn (Nat.le_refl _) (by simp only; omega) ⟨fun _ => rfl, fun h => by cases h⟩, e⟩
  have hno : ¬ len * n > 2 ^ 24 := by omega
  have hnr : (newRow el cells').run P w = .ok ⟨w.heap.size, 0, none⟩ (w.alloc (.cells cells' el)) := by simp [newRow]
  rcases hzz with ⟨h0, rfl⟩ | ⟨h0, rfl⟩
  · simp only [Instr.buildSlice, Sem.run_bind, run_underlying hu, Result.andThen_ok, run_sizeA hs, Sem.run_ite, if_neg hno, if_pos h0, Sem.run_pure, g1, hnr, Nat.zero_add]
  · simp only [Instr.buildSlice, Sem.run_bind, run_underlying hu, Result.andThen_ok, run_sizeA hs, Sem.run_ite, if_neg hno, if_neg h0, hv, Sem.run_pure, g1, hnr, Nat.zero_add]

theorem makeMap_ok (hr : HRel β h nx w) {ty : TypeId} {t : TM} (e : oMakeMap t h nx k = true) : SemOK P (Instr.makeMap ty none) β h nx w k := by
  have e : allocK h nx (.map []) (fun b h nx => k (.map b) h nx) = true := e
  simp only [allocK, forceNat_eq] at e
  obtain ⟨hlt, e⟩ := guard_of e
  rw [Tr.setK_eq] at e
  have hlt : nx < 2 ^ DH := by simpa [Nat.blt_eq] using hlt
  obtain ⟨hr2, hst⟩ := hr.alloc (op := false) hlt (.map []) (.map #[] 0) 0 (fun h => by cases h) ⟨#[], 0, World.alloc_heap_new w _, .nil⟩
  refine ⟨.map (some w.heap.size), _, by simp [Instr.makeMap], _, .map nx, _, _, hr2, hst, VRel.map nx ⟨w.heap.size, 0, 0, false⟩ (by simp [bput]), e⟩

theorem wrap_small {n : Nat} (hn : n < 2 ^ 62) : IntKind.i64.wrap (n : Int) = n := IntWalk.i64_in _ (by omega)
theorem makeSliceAt_ok {t : TypeId} {l c : AV} {l' c' : Value} (hr : HRel β h nx w) {y : Nat} (hx0 : β y = none) (hxn : y ≤ nx) (hl : VRel β l l') (hc : VRel β c c') (e : makeSliceA P t l c h y k = true) : ∃ v' w', (Instr.makeSlice t l' c').run P w = .ok v' w' ∧ OutAt β h nx y w k v' w' := by
  cases hl <;> first | (exfalso; simp [makeSliceA, bad1] at e; done) | skip
  rename_i kd a
  cases a with
  | negSucc m => exfalso; simp [makeSliceA, bad1] at e
  | ofNat a =>
    have e0 : makeInt P t a c h y k = true := e
    clear e
    cases hc <;> first | (exfalso; simp [makeInt] at e0; done) | skip
    rename_i kd' b
    cases b with
    | negSucc m => exfalso; simp [makeInt] at e0
    | ofNat b =>
      obtain ⟨⟨el, n, z⟩, hz, e⟩ := opt_of (show (Option.rec (motive := fun _ => Bool) false (fun p => makeSl a b p.1 p.2 h y k) (sliceZero P t)) = true from e0)
      obtain ⟨zv, i, hu, hs, hn, hi, hb, hzt, hzc, hzl, hzf⟩ := sliceZero_info hz
      obtain ⟨v, hv, hrel⟩ := run_zeroA (β := β) (w := w) hzt
      obtain ⟨hlim, e⟩ := guard_of e
      simp only [Bool.and_eq_true] at hlim
      have hab := Nat.le_of_ble_eq_true hlim.1
      have hb30 : b < 2 ^ 30 := by simpa [Nat.blt_eq] using hlim.2
      have hvsz : v.cells.size = n := by rw [← hzl, hzc, hrel.cells.1]; simp
      have hzero : ∃ zz : Array Value, ((b * n = 0 ∧ zz = #[]) ∨ (¬ b * n = 0 ∧ zz = v.cells)) ∧
          ((Array.range (b * n)).map (zz[· % zz.size]!)).toList = (List.replicate b v.cells.toList).flatten := by
        by_cases h0 : b * n = 0
        · refine ⟨#[], .inl ⟨h0, rfl⟩, ?_⟩
          have : b = 0 := by rcases Nat.mul_eq_zero.1 h0 with h | h <;> omega
          subst this; simp
        · exact ⟨v.cells, .inr ⟨h0, rfl⟩, zeros_eq v.cells b n hvsz hn⟩
      obtain ⟨zz, hzz, hzeros⟩ := hzero
      have hlr : LRel β (rep b z) ((Array.range (b * n)).map (zz[· % zz.size]!)).toList := by
        rw [hzeros, hzc]; exact hrel.cells.rep b
      have hzfl := allFlat_rep hzf
      obtain ⟨β', h', hr2, hst, hbn, e⟩ := newCells_okAt false (kk := fun x h nx => k (.slice x 0 a b n) h nx) hr hx0 hxn hlr (hlr.oneCell (hzfl b)) e []
      rw [List.append_nil, Array.toArray_toList] at hr2 hst
      rw [List.append_nil] at hbn
      refine ⟨_, _, ?_, β', .slice y 0 a b n, h', hr2, hst, VRel.slice y 0 a b n b _ hbn (Nat.le_refl _) (by simp) ⟨fun _ => rfl, fun h => by cases h⟩, e⟩
      have w1 : IntKind.i64.wrap ((a : Nat) : Int) = a := wrap_small (by omega)
      have w2 : IntKind.i64.wrap ((b : Nat) : Int) = b := wrap_small (by omega)
      have hbb : (i.bytes : Int) * (b : Int) ≤ 281474976710656 := by
        have : i.bytes * b ≤ 2 ^ 16 * 2 ^ 30 := Nat.mul_le_mul hb (by omega)
        have h2 : ((i.bytes * b : Nat) : Int) ≤ ((2 ^ 16 * 2 ^ 30 : Nat) : Int) := by exact_mod_cast this
        have h3 : ((i.bytes * b : Nat) : Int) = (i.bytes : Int) * b := by push_cast; rfl
        rw [h3] at h2
        omega
      have c1 : ¬ ((b : Int) < 0) := by omega
      have c2 : ¬ (281474976710656 < (i.bytes : Int) * (b : Int)) := by omega
      have c3 : ¬ ((a : Int) < 0) := by omega
      have c4 : ¬ ((b : Int) < (a : Int)) := by omega
      have hnr : ∀ cc : Array Value, (newRow el cc).run P w = .ok ⟨w.heap.size, 0, none⟩ (w.alloc (.cells cc el)) := fun cc => by simp [newRow]
      rcases hzz with ⟨h0, rfl⟩ | ⟨h0, rfl⟩
      · have h0' : b = 0 ∨ n = 0 := Nat.mul_eq_zero.1 h0
        simp [Instr.makeSlice, run_underlying hu, asInt, asIntOf, run_typeInfoA hi, w1, w2, c1, c2, c3, c4, run_sizeA hs, h0', hnr]
        exact fun hx => absurd h0 hx
      · have h0' : ¬ (b = 0 ∨ n = 0) := fun h => h0 (Nat.mul_eq_zero.2 h)
        simp [Instr.makeSlice, run_underlying hu, asInt, asIntOf, run_typeInfoA hi, w1, w2, c1, c2, c3, c4, run_sizeA hs, h0', hnr, hv]
        exact fun hx => absurd hx h0
theorem makeSliceA_ok {t : TypeId} {l c : AV} {l' c' : Value} (hr : HRel β h nx w) (hl : VRel β l l') (hc : VRel β c c') (e : makeSliceA P t l c h nx k = true) : SemOK P (Instr.makeSlice t l' c') β h nx w k := by
  obtain ⟨v', w', h1, h2⟩ := makeSliceAt_ok (P := P) hr hr.none_at (Nat.le_refl _) hl hc e
  exact ⟨v', w', h1, h2.out⟩
end Am
set_option linter.unusedVariables false
set_option linter.unusedSimpArgs false
namespace Am
open Go
variable {P : Program} {β : Beta} {h : HP} {nx : Nat} {w : World} {k : KV}

theorem byte_beq (a b : ByteArray) : (a == b) = (a.data == b.data) := by cases a; cases b; rfl
theorem byte_eq {a b : ByteArray} {l l' : List Nat} (ha : a.data.toList.map UInt8.toNat = l) (hb : b.data.toList.map UInt8.toNat = l') : (a == b) = natsEq l l' := by
  rw [natsEq_eq, ← ha, ← hb, byte_beq]
  by_cases e : a.data = b.data
  · rw [e]; simp
  · have h2 : a.data.toList.map UInt8.toNat ≠ b.data.toList.map UInt8.toNat := fun h => e (by
      have := map_inj h
      exact Array.ext' this)
    rw [beq_eq_false_iff_ne.2 e, beq_eq_false_iff_ne.2 h2]
theorem natsEq_true {a b : List Nat} (e : natsEq a b = true) : a = b := by rw [natsEq_eq] at e; simpa using e
theorem str_inj {a b : ByteArray} {l : List Nat} (ha : a.data.toList.map UInt8.toNat = l) (hb : b.data.toList.map UInt8.toNat = l) : a = b := by
  have := map_inj (ha.trans hb.symm)
  cases a; cases b; simp at this; rw [this]

/-- the first entry of that key, and what putting and taking it out leave -/
theorem ERel.find {es : List (List Nat × AV)} {es' : List MapEntry} (hr : ERel β es es') {s : ByteArray} {x : List Nat} (hs : s.data.toList.map UInt8.toNat = x) (v : AV) (v' : Value) (hv : VRel β v v') (born : Nat) (i : Nat) :
    (∃ j e a, Instr.findNow .string (.string s) es' i = some (some (i + j, e.val)) ∧ es'[j]? = some e ∧ e.key = .string s ∧ findA x es = some a ∧ VRel β a e.val ∧
      ERel β (putA x v es) (es'.set j { e with key := .string s, val := v' }) ∧ ERel β (delA x es) (es'.eraseIdx j)) ∨
    (Instr.findNow .string (.string s) es' i = some none ∧ findA x es = none ∧ ERel β (putA x v es) (es' ++ [{ key := .string s, val := v', born := born }]) ∧ ERel β (delA x es) es') := by
  induction hr generalizing i with
  | nil => exact .inr ⟨rfl, rfl, .cons x v [] _ [] s rfl hs hv .nil, .nil⟩
  | cons y a es e es' sy h1 h2 h3 h4 ih =>
    have hb : Instr.sameNow .string (.string s) e.key = some (natsEq x y) := by rw [h1]; simp only [Instr.sameNow, byte_eq hs h2]
    cases hc : natsEq x y with
    | true =>
      rw [hc] at hb
      have hxy := natsEq_true hc
      subst hxy
      have hsy := str_inj hs h2
      subst hsy
      have f1 : findA x ((x, a) :: es) = some a := by show (Bool.rec (motive := fun _ => Option AV) (findA x es) (some a) (natsEq x x)) = _; rw [hc]
      have f2 : putA x v ((x, a) :: es) = (x, v) :: es := by show (Bool.rec (motive := fun _ => List (List Nat × AV)) ((x, a) :: putA x v es) ((x, v) :: es) (natsEq x x)) = _; rw [hc]
      have f3 : delA x ((x, a) :: es) = es := by show (Bool.rec (motive := fun _ => List (List Nat × AV)) ((x, a) :: delA x es) es (natsEq x x)) = _; rw [hc]
      refine .inl ⟨0, e, a, by simp [Instr.findNow, hb], rfl, h1, f1, h3, ?_, ?_⟩
      · rw [f2]; exact .cons x v es _ es' s rfl h2 hv h4
      · rw [f3]; exact h4
    | false =>
      rw [hc] at hb
      have f1 : findA x ((y, a) :: es) = findA x es := by show (Bool.rec (motive := fun _ => Option AV) (findA x es) (some a) (natsEq x y)) = _; rw [hc]
      have f2 : putA x v ((y, a) :: es) = (y, a) :: putA x v es := by show (Bool.rec (motive := fun _ => List (List Nat × AV)) ((y, a) :: putA x v es) ((x, v) :: es) (natsEq x y)) = _; rw [hc]
      have f3 : delA x ((y, a) :: es) = (y, a) :: delA x es := by show (Bool.rec (motive := fun _ => List (List Nat × AV)) ((y, a) :: delA x es) es (natsEq x y)) = _; rw [hc]
      rcases ih (i + 1) with ⟨j, e2, a2, g1, g2, g3, g4, g5, g6, g7⟩ | ⟨g1, g2, g3, g4⟩
      · refine .inl ⟨j + 1, e2, a2, ?_, by simpa using g2, g3, by rw [f1]; exact g4, g5, ?_, ?_⟩
        · simp only [Instr.findNow, hb, g1]; congr 3; omega
        · rw [f2]; exact .cons y a _ e _ sy h1 h2 h3 g6
        · rw [f3]; exact .cons y a _ e _ sy h1 h2 h3 g7
      · refine .inr ⟨by simp only [Instr.findNow, hb, g1], by rw [f1]; exact g2, ?_, ?_⟩
        · rw [f2]; exact .cons y a _ e _ sy h1 h2 h3 g3
        · rw [f3]; exact .cons y a _ e _ sy h1 h2 h3 g4

theorem strMap_info {t el : TypeId} (e : strMap P t = some el) : ∃ ky, P.underlying t = some (.map ky el) ∧ P.underlying ky = some .string := by
  unfold strMap at e
  split at e
  · rename_i ky el2 h1
    cases hc : isStrT P ky with
    | false => rw [hc] at e; cases e
    | true => rw [hc] at e; cases e; exact ⟨ky, h1, isStrT_info hc⟩
  · cases e
theorem run_checkKey {b : Bool} {ky : TypeId} {s : ByteArray} (hu : P.underlying ky = some .string) : (Instr.checkKey b 10000 ky (.string s)).run P w = .ok () w := by
  have : ∀ n, (Instr.checkKey b (n + 1) ky (.string s)).run P w = .ok () w := fun n => by simp [Instr.checkKey, run_underlying hu]
  exact this 9999
theorem run_getObj_map {r : Nat} {es : Array MapEntry} {c : Nat} (e : w.heap[r]? = some (.map es c)) : (getObj r).run P w = .ok (.map es c) w := by simp [getObj, Sem.run, e]
theorem run_setObj_map {r : Nat} {es : Array MapEntry} {c : Nat} (o : Obj) (e : w.heap[r]? = some (.map es c)) : (setObj r o).run P w = .ok () (w.putObj r o) := by simp [setObj, Sem.run, e, World.putObj]
theorem frozen_putObj_map {r : Nat} {es es2 : Array MapEntry} {c c2 : Nat} (e : w.heap[r]? = some (.map es c)) (a : Addr) : (w.putObj r (.map es2 c2)).frozen? a = w.frozen? a := by
  by_cases hb : a.block = r
  · have h1 : (w.putObj r (.map es2 c2)).heap[a.block]? = some (.map es2 c2) := by rw [hb]; exact World.putObj_heap_same (Array.getElem?_eq_some_iff.1 e).1
    have h2 : w.heap[a.block]? = some (.map es c) := by rw [hb]; exact e
    simp [World.frozen?, h1, h2]
  · simp [World.frozen?, World.putObj_heap_other hb]
theorem withStr_of {x : AV} {x' : Value} {f : List Nat → Bool} (hx : VRel β x x') (e : withStr x f = true) : ∃ l s, x' = .string s ∧ s.data.toList.map UInt8.toNat = l ∧ f l = true := by
  cases hx <;> first | (exfalso; simp [withStr] at e; done) | skip
  rename_i l s hs
  exact ⟨l, s, rfl, hs, e⟩

theorem lookupA_ok {t : TypeId} {ok : Bool} {x m : AV} {x' m' : Value} (hr : HRel β h nx w) (hx : VRel β x x') (hm : VRel β m m') (e : lookupA P t ok x m h nx k = true) :
    SemQ P (Instr.lookup t m' x' ok) β h nx w k := by
  cases ok with
  | true => cases e
  | false =>
    obtain ⟨z, hz, e⟩ := opt_of (show (Option.rec (motive := fun _ => Bool) false (fun z => lookZ m z x h nx k) ((strMap P t).bind (zeroT P))) = true from e)
    cases hsm : strMap P t with
    | none => rw [hsm] at hz; cases hz
    | some el =>
      rw [hsm] at hz
      have hz : zeroT P el = some z := hz
      obtain ⟨ky, hu, hky⟩ := strMap_info hsm
      obtain ⟨zv, hzv, hzr⟩ := run_zeroA (β := β) (w := w) hz
      rename_i e00 e01
      clear e00 e01
      cases hm <;> first | (exfalso; simp [lookZ, bad1] at e; done) | skip
      case map b i hi =>
        obtain ⟨l, s, rfl, hs, e⟩ := withStr_of hx e
        rw [Tr.getK_eq] at e
        obtain ⟨es, es', c, ho, h1, h2, e⟩ := withMap_of hr hi e
        rcases h2.find hs z zv hzr 0 0 with ⟨j, en, a, f1, f2, f3, f4, f5, _⟩ | ⟨f1, f2, _⟩
        · rw [f4] at e
          refine .ret hr ?_ f5 e
          simp [Instr.lookup, run_underlying hu, run_getObj_map h1, run_checkKey hky, MapKept.run_findKey hky f1]
        · rw [f2] at e
          refine .ret hr ?_ hzr e
          simp [Instr.lookup, run_underlying hu, run_getObj_map h1, run_checkKey hky, MapKept.run_findKey hky f1, hzv]
      case nilmap =>
        obtain ⟨l, s, rfl, hs, e⟩ := withStr_of hx e
        refine .ret hr ?_ hzr e
        have f1 : Instr.findNow .string (.string s) [] 0 = some none := rfl
        simp [Instr.lookup, run_underlying hu, run_checkKey hky, MapKept.run_findKey hky f1, hzv]

theorem run_keyStays (s : ByteArray) : (Instr.keyThatStays (.string s) (.string s)).run P w = .ok (.string s) w := by
  have : Instr.sameBits 10000 (.string s) (.string s) = true := by
    show (s == s) = true
    rw [byte_beq]; simp
  simp [Instr.keyThatStays, this]
theorem updateA_ok {t : TypeId} {x v m : AV} {x' v' m' : Value} (hr : HRel β h nx w) (hx : VRel β x x') (hv : VRel β v v') (hm : VRel β m m') (e : updateA P t x v m h nx k = true) :
    ∃ w', (Instr.mapUpdate t m' x' v').run P w = .ok () w' ∧ OutV β h nx w k undef w' := by
  cases hm <;> first | (exfalso; simp [updateA, bad1] at e; done) | skip
  rename_i b i hi
  obtain ⟨el, hsm, e⟩ := opt_of (show (Option.rec (motive := fun _ => Bool) false (fun _ => updMap x v b h nx k) (strMap P t)) = true from e)
  obtain ⟨ky, hu, hky⟩ := strMap_info hsm
  obtain ⟨l, s, rfl, hs, e⟩ := withStr_of hx e
  rw [Tr.getK_eq] at e
  obtain ⟨es, es', c, ho, h1, h2, e⟩ := withMap_of hr hi e
  rw [forceList_eq, Tr.setK_eq] at e
  have hlt := (Array.getElem?_eq_some_iff.1 h1).1
  have turn : ∀ (es2 : Array MapEntry) (c2 : Nat), ERel β (putA l v es) es2.toList → OutV β h nx w k undef (w.putObj i.blk (.map es2 c2)) := fun es2 c2 he => by
    obtain ⟨hr2, hst⟩ := hr.turn hi (by rw [ho]; rfl) (.map (putA l v es)) (.inl rfl) (by simp) (fun y hy => World.putObj_heap_other hy) ⟨es2, c2, World.putObj_heap_same hlt, he⟩
    exact ⟨β, undefA, _, nx, hr2, hst, .tuple [] [] rfl (fun j a v hh => by simp at hh), e⟩
  rcases h2.find hs v v' hv c 0 with ⟨j, en, a, f1, f2, f3, f4, f5, f6, _⟩ | ⟨f1, f2, f6, _⟩
  · have hj : es'[j]? = some en := by rw [← f2]; simp
    refine ⟨_, ?_, turn (es'.modify j fun e => { e with key := .string s, val := v' }) c ?_⟩
    · have f1' := MapKept.run_findKey (w := w) hky f1
      simp [Instr.mapUpdate, run_underlying hu, run_getObj_map h1, run_checkKey hky, f1', hj, f3, run_keyStays, run_setObj_map _ h1]
    · have : (es'.modify j fun e => { e with key := .string s, val := v' }).toList = es'.toList.set j { en with key := .string s, val := v' } := by
        apply List.ext_getElem?
        intro q
        rw [Array.getElem?_toList, Array.getElem?_modify, List.getElem?_set]
        by_cases hq : j = q
        · subst hq
          have hjs := (Array.getElem?_eq_some_iff.1 hj).1
          rw [if_pos rfl, if_pos rfl, hj]
          simp [hjs]
        · rw [if_neg hq, if_neg hq, Array.getElem?_toList]
      rw [this]; exact f6
  · refine ⟨_, ?_, turn (es'.push { key := .string s, val := v', born := c }) (c + 1) (by simpa using f6)⟩
    have f1' := MapKept.run_findKey (w := w) hky f1
    simp [Instr.mapUpdate, run_underlying hu, run_getObj_map h1, run_checkKey hky, f1', run_setObj_map _ h1]

theorem deleteA_ok {t t2 ty : TypeId} {x m : AV} {x' m' : Value} {ts : Array TypeId} (hr : HRel β h nx w) (hx : VRel β x x') (hm : VRel β m m') (hts : ts[0]? = some t) (e : deleteA P t x m h nx k = true) :
    SemOK P (Builtin.delete_ ts ty #[m', x']) β h nx w k := by
  cases hm <;> first | (exfalso; simp [deleteA, bad1] at e; done) | skip
  rename_i b i hi
  obtain ⟨el, hsm, e⟩ := opt_of (show (Option.rec (motive := fun _ => Bool) false (fun _ => delMap x b h nx k) (strMap P t)) = true from e)
  obtain ⟨ky, hu, hky⟩ := strMap_info hsm
  obtain ⟨l, s, rfl, hs, e⟩ := withStr_of hx e
  rw [Tr.getK_eq] at e
  obtain ⟨es, es', c, ho, h1, h2, e⟩ := withMap_of hr hi e
  rw [forceList_eq, Tr.setK_eq] at e
  have hlt := (Array.getElem?_eq_some_iff.1 h1).1
  have turn : ∀ (es2 : Array MapEntry) (c2 : Nat), ERel β (delA l es) es2.toList → OutV β h nx w k (.tuple #[]) (w.putObj i.blk (.map es2 c2)) := fun es2 c2 he => by
    obtain ⟨hr2, hst⟩ := hr.turn hi (by rw [ho]; rfl) (.map (delA l es)) (.inl rfl) (by simp) (fun y hy => World.putObj_heap_other hy) ⟨es2, c2, World.putObj_heap_same hlt, he⟩
    exact ⟨β, undefA, _, nx, hr2, hst, .tuple [] [] rfl (fun j a v hh => by simp at hh), e⟩
  rcases h2.find hs .nilptr (.pointer none) .nilptr c 0 with ⟨j, en, a, f1, f2, f3, f4, f5, _, f6⟩ | ⟨f1, f2, _, f6⟩
  · have f1' := MapKept.run_findKey (w := w) hky f1
    refine ⟨_, _, ?_, turn (es'.eraseIdxIfInBounds j) c ?_⟩
    · simp [Builtin.delete_, hts, run_underlying hu, run_getObj_map h1, run_checkKey hky, f1', run_setObj_map _ h1]
    · have hj : j < es'.size := by have := (List.getElem?_eq_some_iff.1 f2).1; simpa using this
      have : (es'.eraseIdxIfInBounds j).toList = es'.toList.eraseIdx j := by simp [Array.eraseIdxIfInBounds, hj]
      rw [this]; exact f6
  · have f1' := MapKept.run_findKey (w := w) hky f1
    refine ⟨_, _, ?_, turn es' c f6⟩
    simp [Builtin.delete_, hts, run_underlying hu, run_getObj_map h1, run_checkKey hky, f1', run_setObj_map _ h1]
end Am
set_option linter.unusedVariables false
set_option linter.unusedSimpArgs false
namespace Am
open Go
variable {P : Program} {β : Beta} {h : HP} {nx : Nat} {w : World} {k : KV}

theorem get_growT (d : Nat) (t : TM) (k j : Nat) (hj : j < 2 ^ d) : Tr.get (d + k) (growT k t) j = Tr.get d t j := by
  induction k with
  | zero => rfl
  | succ k ih =>
    show (bif bitAt j (d + k) then Tr.get (d + k) (.leaf undefA) j else Tr.get (d + k) (growT k t) j) = _
    have : bitAt j (d + k) = false := by
      rw [bitAt_eq]
      exact Nat.testBit_lt_two_pow (Nat.lt_of_lt_of_le hj (Nat.pow_le_pow_right (by omega) (by omega)))
    rw [this]; exact ih

/-- cells of a block that hold a list -/
theorem CRel.of_list {d : Nat} {t : TM} {i : BI} {L : List AV} {L' : List Value} (hl : LRel β L L') (h1 : ∀ v ∈ L', v.oneCell' = true) (hd : L.length ≤ 2 ^ d) (hg : ∀ (j : Nat) a, L[j]? = some a → Tr.get d t j = a)
    {cs : Array Value} {e : TypeId} (hw : w.heap[i.blk]? = some (.cells cs e (0, 0))) (hsz : cs.size = i.sz) (hend : i.base + L.length ≤ i.sz) (hc : ∀ (j : Nat) v, L'[j]? = some v → cs[i.base + j]? = some v) :
    CRel β d t L.length i w := by
  refine ⟨hd, cs, e, hw, hsz, hend, fun j hj => ?_⟩
  have hx : L[j]? = some L[j] := List.getElem?_eq_getElem hj
  obtain ⟨y, hy, hv⟩ := hl.get hx
  rw [hg j _ hx]
  exact ⟨y, hc j y hy, hv, h1 _ (List.mem_of_getElem? hy)⟩

theorem run_lenOf_slice (a : Option Addr) (n c : Nat) : (Builtin.lenOf (.slice a n c)).run P w = .ok n w := rfl

/-- what is appended: as cells -/
theorem elemsA_ok {es : Nat} {x : AV} {x' : Value} {f : List AV → Nat → Bool} (hr : HRel β h nx w) (hx : VRel β x x') (e : elemsA es x h f = true) :
    ∃ xs n xs', LRel β xs xs' ∧ (∀ v ∈ xs', v.oneCell' = true) ∧ xs.length = n * es ∧ (∀ W : World, W.heap = w.heap → (Builtin.lenOf x').run P W = .ok n W ∧ (Builtin.firstCells es n x').run P W = .ok xs'.toArray W) ∧ f xs n = true := by
  cases hx <;> first | (exfalso; simp [elemsA] at e; done) | skip
  case nilslice => exact ⟨[], 0, [], .nil β, fun v hv => by simp at hv, by simp, fun W _ => ⟨rfl, rfl⟩, e⟩
  case eslice a cap =>
    exact ⟨[], 0, [], .nil β, fun v hv => by simp at hv, by simp, fun W _ => ⟨rfl, by simp [Builtin.firstCells, loadCells, loadCellsFrom]⟩, e⟩
  case str l s hs =>
    have e : (Bool.rec (motive := fun _ => Bool) false (forceList (bytesAV l) fun l2 => forceNat l.length fun n => f l2 n) (Nat.beq es 1)) = true := e
    obtain ⟨hes, e⟩ := guard_of e
    have hes := Nat.eq_of_beq_eq_true hes
    subst hes
    rw [forceList_eq, forceNat_eq] at e
    have hlen : s.size = l.length := str_size hs
    refine ⟨_, _, s.data.toList.map fun c => Value.int .u8 c.toNat, ⟨by simp [bytesAV, ← hs], fun j a v ha hv => ?_⟩, fun v hv => ?_, by simp [bytesAV], fun W _ => ⟨?_, ?_⟩, e⟩
    · simp only [bytesAV, ← hs, List.map_map, List.getElem?_map, Option.map_eq_some_iff] at ha hv
      obtain ⟨x, hx, rfl⟩ := ha
      obtain ⟨y, hy, rfl⟩ := hv
      rw [hx] at hy; cases hy
      exact .int _ _
    · simp only [List.mem_map] at hv
      obtain ⟨c, _, rfl⟩ := hv
      rfl
    · simp [Builtin.lenOf, hlen]
    · simp only [Builtin.firstCells]
      have hsz : s.extract 0 l.length = s := by rw [← hlen]; exact ByteArray.extract_zero_size
      rw [hsz]
      show Result.ok _ W = _
      congr 1
      apply Array.ext'
      simp
  case slice b off len mc es2 cap i hi h1 h2 h3 =>
    have e : Tr.getK DH h b (fun o => withCells o fun d t n => Bool.rec false (loadL d t (len * es) off fun xs => f xs len) (Nat.ble (off + len * es) n)) = true := e
    rw [Tr.getK_eq] at e
    obtain ⟨d, tt, n, hc, e⟩ := withCells_of hr hi e
    obtain ⟨hle, e⟩ := guard_of e
    have hle := Nat.le_of_ble_eq_true hle
    rw [loadL_eq] at e
    obtain ⟨vs, k1, k2, k3⟩ := hc.many (len * es) off hle
    have hl : vs.length = len * es := by rw [← k1.1, length_getMany]
    refine ⟨_, len, vs, k1, k2, by simp, fun W hW => ⟨rfl, ?_⟩, e⟩
    have := run_loadCells_list (P := P) W ⟨i.blk, i.base + off, none⟩ vs (fun j v hv => by
      have := k3 j v hv
      simpa [World.cell?, hW] using this)
    rw [hl] at this
    exact this

/-- the type of what is appended is a slice's or a string's -/
def NoInt (P : Program) (u : TypeId) : Prop := (∃ e, P.underlying u = some (.slice e)) ∨ P.underlying u = some .string
theorem seqT_info {u : TypeId} (e : seqT P u = true) : NoInt P u := by
  unfold seqT at e
  split at e
  · rename_i h1; exact .inl ⟨_, h1⟩
  · rename_i h1; exact .inr h1
  · cases e
/-- the append that finds room -/
theorem run_append_in {t u el ty : TypeId} {n es : Nat} {a : Addr} {sLen sCap : Nat} {x' : Value} {xs' : List Value} {ts : Array TypeId} {w' : World} (ht : ts[0]? = some t) (hu : ts[1]? = some u)
    (h1 : P.underlying t = some (.slice el)) (h2 : NoInt P u) (hs : sizeT P el = some es)
    (hx1 : (Builtin.lenOf x').run P w = .ok n w) (hx2 : (Builtin.firstCells es n x').run P w = .ok xs'.toArray w) (hroom : sLen + n ≤ sCap)
    (hst : (storeCells (a.add (sLen * es)) xs').run P w = .ok () w') :
    (Builtin.append_ ts ty #[.slice (some a) sLen sCap, x']).run P w = .ok (.slice (some a) (sLen + n) sCap) w' := by
  rcases h2 with ⟨_, h2⟩ | h2
  all_goals simp [Builtin.append_, ht, hu, run_underlying h1, run_underlying h2, run_sizeA hs, hx1, hx2, hroom, hst]
theorem run_append_nil {t u el ty : TypeId} {es : Nat} {x' : Value} {xs' : List Value} {ts : Array TypeId} (ht : ts[0]? = some t) (hu : ts[1]? = some u)
    (h1 : P.underlying t = some (.slice el)) (h2 : NoInt P u) (hs : sizeT P el = some es)
    (hx1 : (Builtin.lenOf x').run P w = .ok 0 w) (hx2 : (Builtin.firstCells es 0 x').run P w = .ok xs'.toArray w) :
    (Builtin.append_ ts ty #[.slice none 0 0, x']).run P w = .ok (.slice none 0 0) w := by
  rcases h2 with ⟨_, h2⟩ | h2
  all_goals simp [Builtin.append_, ht, hu, run_underlying h1, run_underlying h2, run_sizeA hs, hx1, hx2]
/-- the append that makes a new array -/
theorem run_append_out {t u el ty : TypeId} {n es : Nat} {base : Option Addr} {sLen sCap : Nat} {x' : Value} {xs' old : List Value} {ts : Array TypeId} {i : TypeInfo} {z : Value} (ht : ts[0]? = some t) (hu : ts[1]? = some u)
    (h1 : P.underlying t = some (.slice el)) (h2 : NoInt P u) (hs : sizeT P el = some es) (hi : P.info? el = some i) (hb : i.bytes ≤ 2 ^ 16) (hz : ∀ W : World, (zeroValue el).run P W = .ok z W) (hzs : z.cells.size = es)
    (hx1 : (Builtin.lenOf x').run P w = .ok n w) (hx2 : ∀ W : World, W.heap = w.heap → (Builtin.firstCells es n x').run P W = .ok xs'.toArray W) (hroom : ¬ sLen + n ≤ sCap)
    (hold : ∀ W : World, W.heap = w.heap → (Builtin.firstCells es sLen (.slice base sLen sCap)).run P W = .ok old.toArray W) (hlim : sLen + n ≤ 2 ^ 24) :
    ∃ newCap, sLen + n ≤ newCap ∧ ∃ rest : List Value, rest.length = (newCap - (sLen + n)) * es ∧
      (Builtin.append_ ts ty #[.slice base sLen sCap, x']).run P w = .ok (.slice (some ⟨w.heap.size, 0, none⟩) (sLen + n) newCap) (w.drew.alloc (.cells (old ++ xs' ++ rest).toArray el (0, 0))) := by
  have hcut : sLen + n ≤ (Question.appendCap (sLen + n) sCap el).cut (w.tape w.drawn (.appendCap (sLen + n) sCap el)) := by simp [Question.cut]
  refine ⟨_, hcut, (Builtin.zeroCells z.cells ((Question.appendCap (sLen + n) sCap el).cut (w.tape w.drawn (.appendCap (sLen + n) sCap el)) - (sLen + n))).toList, by simp [Builtin.zeroCells, hzs], ?_⟩
  have hno1 : ¬ (9223372036854775807 < ((sLen : Int) + (n : Int)) ∧ i.bytes = 0) := by omega
  have hnx := nextslicecap_le (need := sLen + n) (old := sCap) (by omega)
  have hno2 : ¬ (281474976710656 < Builtin.nextslicecap (sLen + n) sCap * i.bytes) := by
    have : Builtin.nextslicecap (sLen + n) sCap * i.bytes ≤ (2 * 2 ^ 24) * 2 ^ 16 := Nat.mul_le_mul (by omega) hb
    omega
  have hmax : IntKind.i64.max = 9223372036854775807 := by decide
  have ha := hx2 w.drew rfl
  have hb2 := hold w.drew rfl
  have hc := hz w.drew
  have hf : Question.forced (.appendCap (sLen + n) sCap el) = false := rfl
  rcases h2 with ⟨_, h2⟩ | h2
  all_goals simp [Builtin.append_, ht, hu, run_underlying h1, run_underlying h2, run_sizeA hs, hx1, hroom, run_typeInfoA hi, hno1, hno2, hmax, hf, ha, hb2, hc, newRow]
  all_goals (congr 2; apply Array.ext'; simp)
end Am
set_option linter.unusedVariables false
set_option linter.unusedSimpArgs false
namespace Am
open Go
variable {P : Program} {β : Beta} {h : HP} {nx : Nat} {w : World} {k : KV}

theorem Step.drew {β' : Beta} {h' : HP} {nx' : Nat} {w' : World} (s : Step β h nx w.drew β' h' nx' w') : Step β h nx w β' h' nx' w' := (Step.same (w := w) (w' := w.drew) rfl).trans s

/-- in a block of the model's: what a list stored at a place leaves -/
theorem splice_cells {cs : Array Value} {o j : Nat} {news : List Value} (ho : o + news.length ≤ cs.size) :
    (cs.toList.take o ++ news ++ cs.toList.drop (o + news.length)).toArray[j]? = if o ≤ j ∧ j < o + news.length then news[j - o]? else cs[j]? := by
  rw [List.getElem?_toArray, getElem_splice (by simpa using ho)]
  simp

theorem two_half (n : Nat) : 2 * n / 2 = n := by omega
theorem two_even (n : Nat) : ¬ 2 * n % 2 = 1 := by omega
/-- beyond the known capacity: the three ways -/
theorem appOut_gen {t u el ty : TypeId} {tg : Nat} {ts : Array TypeId} {x' : Value} {i : TypeInfo} {z : Value} {es b off len mc cap n : Nat} {bi : BI} {xs L : List AV} {xs' : List Value} {kk : Nat → HP → Nat → Bool} {d dd : Nat} {tt t' : TM} {m : Nat}
    (ht : ts[0]? = some t) (hu : ts[1]? = some u)
    (h1 : P.underlying t = some (.slice el)) (h2 : NoInt P u) (hs : sizeT P el = some es) (hi : P.info? el = some i) (hb : i.bytes ≤ 2 ^ 16) (hz : ∀ W : World, (zeroValue el).run P W = .ok z W) (hzs : z.cells.size = es)
    (hr : HRel β h nx w) (hbi : β b = some bi) (ho : hget h b = .cells tg d tt m) (hc : CRel β d tt m bi w) (htg : TagT tg bi w) (htl : tg / 2 = el) (hmc : mc ≤ cap) (hcap : bi.base + off + cap * es ≤ bi.sz) (hes : es ≠ 0) (hfun : (bi.op = false → cap = mc) ∧ (bi.op = true → es ≠ 0 ∧ bi.base + off + cap * es = bi.sz))
    (hxl : LRel β xs xs') (hx1' : ∀ v ∈ xs', v.oneCell' = true) (hxlen : xs.length = n * es) (hx : ∀ W : World, W.heap = w.heap → (Builtin.lenOf x').run P W = .ok n W ∧ (Builtin.firstCells es n x').run P W = .ok xs'.toArray W)
    (hroom : ¬ len + n ≤ mc) (hold : off + len * es ≤ m) (hlim : len + n ≤ 2 ^ 24) (hL : L = getMany d tt (len * es) off ++ xs)
    (hdd : (len + n) * es ≤ 2 ^ dd) (hg : ∀ (j : Nat) a, L[j]? = some a → Tr.get dd t' j = a) (hn : nx < 2 ^ DH)
    (e : k (.slice nx 0 (len + n) (len + n) es) (Tr.set DH (Tr.set DH h b .dead) nx (.cells (2 * el) dd t' ((len + n) * es))) (nx + 1) = true) :
    SemOK P (Builtin.append_ ts ty #[.slice (some ⟨bi.blk, bi.base + off, none⟩) len cap, x']) β h nx w k := by
  obtain ⟨olds, o1, o2, o3⟩ := hc.many (len * es) off hold
  have hol : olds.length = len * es := by rw [← o1.1, length_getMany]
  have hxl2 : xs'.length = n * es := by rw [← hxl.1, hxlen]
  have hLr : LRel β L (olds ++ xs') := by rw [hL]; exact o1.append hxl
  have hLlen : L.length = (len + n) * es := by rw [hL]; simp [hxlen, Nat.add_mul]
  have hone : ∀ v ∈ olds ++ xs', v.oneCell' = true := fun v hv => by
    rcases List.mem_append.1 hv with h | h
    · exact o2 v h
    · exact hx1' v h
  have hmul : (len + n) * es = len * es + n * es := Nat.add_mul ..
  by_cases hr2 : len + n ≤ cap
  · -- there is room: in place
    have hce : (len + n) * es ≤ cap * es := Nat.mul_le_mul_right _ hr2
    obtain ⟨cs, e2, k1, k2, k3⟩ := hc.store (P := P) hxl hx1' (off + len * es) (by rw [hxlen]; omega)
    have hst : (storeCells ((⟨bi.blk, bi.base + off, none⟩ : Addr).add (len * es)) xs').run P w = .ok () (w.setRow bi.blk (cs.toList.take (bi.base + (off + len * es)) ++ xs' ++ cs.toList.drop (bi.base + (off + len * es) + xs'.length)).toArray) := by
      rw [addr_add, Nat.add_assoc]; exact k3
    have hrun := run_append_in (P := P) (ty := ty) (sCap := cap) ht hu h1 h2 hs (hx w rfl).1 (hx w rfl).2 hr2 hst
    have hfit : bi.base + (off + len * es) + xs'.length ≤ cs.size := by rw [hxl2, k2]; omega
    have hcr : CRel (bput β nx ⟨bi.blk, bi.base + off, bi.sz, true⟩) dd t' L.length ⟨bi.blk, bi.base + off, bi.sz, true⟩ (w.setRow bi.blk (cs.toList.take (bi.base + (off + len * es)) ++ xs' ++ cs.toList.drop (bi.base + (off + len * es) + xs'.length)).toArray) := by
      refine CRel.of_list (hLr.ext (bput_ext hr.none_at)) hone (by rw [hLlen]; exact hdd) hg (setRow_heap w bi.blk cs _ e2 (0, 0) k1) (by simp only [List.size_toArray, List.length_append, List.length_take, List.length_drop, Array.length_toList]; omega) (by rw [hLlen]; simp only; omega) (fun j v hv => ?_)
      simp only
      rw [splice_cells hfit]
      by_cases hj : j < len * es
      · rw [if_neg (by omega)]
        rw [List.getElem?_append_left (by omega)] at hv
        have := o3 j v hv
        rw [addr_add] at this
        simp only [World.cell?, k1] at this
        simpa [Nat.add_assoc] using this
      · rw [List.getElem?_append_right (by omega)] at hv
        have hjl := (List.getElem?_eq_some_iff.1 hv).1
        rw [if_pos (by omega), ← hv]
        congr 1; omega
    rw [hLlen] at hcr
    obtain ⟨hr3, hst3⟩ := hr.move hn hbi (by rw [ho]; rfl) (.cells (2 * el) dd t' ((len + n) * es)) (bi.base + off) (fun h => by cases h) (size_setRow ..) (fun x hx => heap_setRow_other _ _ _ _ hx) ⟨hcr, (by
      obtain ⟨cs3, fz, q1, _⟩ := htg
      rw [k1] at q1; cases q1
      exact ⟨_, _, (setRow_heap w bi.blk cs _ (tg / 2) (0, 0) k1).trans (by rw [htl, two_half]), fun hx => absurd hx (two_even el)⟩)⟩
    have hopen : bi.base + off + 0 + cap * es = bi.sz := by
      cases ho2 : bi.op with
      | false => have := hfun.1 ho2; omega
      | true => have := (hfun.2 ho2).2; omega
    have hbn : bput β nx ⟨bi.blk, bi.base + off, bi.sz, true⟩ nx = some ⟨bi.blk, bi.base + off, bi.sz, true⟩ := by simp [bput]
    exact ⟨_, _, hrun, _, _, _, _, hr3, hst3, VRel.slice nx 0 (len + n) (len + n) es cap ⟨bi.blk, bi.base + off, bi.sz, true⟩ hbn hr2 (show bi.base + off + 0 + cap * es ≤ bi.sz by omega) ⟨fun hx => (by cases hx), fun _ => ⟨hes, hopen⟩⟩, e⟩
  · -- there is none: a new array
    have hfc : ∀ W : World, W.heap = w.heap → (Builtin.firstCells es len (.slice (some ⟨bi.blk, bi.base + off, none⟩) len cap)).run P W = .ok olds.toArray W := fun W hW => by
      have := run_loadCells_list (P := P) W ⟨bi.blk, bi.base + off, none⟩ olds (fun j v hv => by
        have := o3 j v hv
        simpa [World.cell?, hW] using this)
      rw [hol] at this
      exact this
    obtain ⟨newCap, c1, rest, c2, hrun⟩ := run_append_out (P := P) (ty := ty) (w := w) ht hu h1 h2 hs hi hb hz hzs (hx w rfl).1 (fun W hW => (hx W hW).2) hr2 hfc hlim
    have hrw : HRel β h nx w.drew := HRel.same (w := w) rfl hr
    obtain ⟨hra, hsa⟩ := hrw.turn hbi (by rw [ho]; rfl) .dead (.inr rfl) rfl (fun _ _ => rfl) trivial
    have hlt3 : bput β nx ⟨w.heap.size, 0, (olds ++ xs' ++ rest).length, true⟩ nx = some ⟨w.heap.size, 0, (olds ++ xs' ++ rest).length, true⟩ := by simp [bput]
    have hcr : CRel (bput β nx ⟨w.drew.heap.size, 0, (olds ++ xs' ++ rest).length, true⟩) dd t' L.length ⟨w.drew.heap.size, 0, (olds ++ xs' ++ rest).length, true⟩ (w.drew.alloc (.cells (olds ++ xs' ++ rest).toArray el (0, 0))) := by
      refine CRel.of_list (hLr.ext (bput_ext hr.none_at)) hone (by rw [hLlen]; exact hdd) hg (World.alloc_heap_new _ _) (by simp) (by rw [hLlen]; simp only [List.length_append, hol, hxl2]; omega) (fun j v hv => ?_)
      show (olds ++ xs' ++ rest).toArray[0 + j]? = some v
      rw [Nat.zero_add, List.getElem?_toArray, List.getElem?_append_left (List.getElem?_eq_some_iff.1 hv).1, hv]
    rw [hLlen] at hcr
    obtain ⟨hr3, hst3⟩ := hra.alloc hn (.cells (2 * el) dd t' ((len + n) * es)) (.cells (olds ++ xs' ++ rest).toArray el (0, 0)) (olds ++ xs' ++ rest).length (fun h => by cases h) ⟨hcr, ⟨_, _, by rw [two_half]; exact World.alloc_heap_new _ _, fun _ => rfl⟩⟩
    have hcz : newCap * es = (len + n) * es + (newCap - (len + n)) * es := by rw [← Nat.add_mul]; congr 1; omega
    have hsz : (olds ++ xs' ++ rest).length = newCap * es := by simp only [List.length_append, hol, hxl2, c2]; omega
    have hbn : bput β nx ⟨w.drew.heap.size, 0, (olds ++ xs' ++ rest).length, true⟩ nx = some ⟨w.drew.heap.size, 0, (olds ++ xs' ++ rest).length, true⟩ := by simp [bput]
    exact ⟨_, _, hrun, _, _, _, _, hr3, (hsa.trans hst3).drew, VRel.slice nx 0 (len + n) (len + n) es newCap ⟨w.drew.heap.size, 0, (olds ++ xs' ++ rest).length, true⟩ hbn c1 (show 0 + 0 + newCap * es ≤ (olds ++ xs' ++ rest).length by omega) ⟨fun hx => (by cases hx), fun _ => ⟨hes, show 0 + 0 + newCap * es = (olds ++ xs' ++ rest).length by omega⟩⟩, e⟩

theorem appendA_ok {t u ty : TypeId} {ts : Array TypeId} {s x : AV} {s' x' : Value} (hr : HRel β h nx w) (hs' : VRel β s s') (hx' : VRel β x x') (ht : ts[0]? = some t) (hu : ts[1]? = some u)
    (e : appendA P t u s x h nx k = true) : SemOK P (Builtin.append_ ts ty #[s', x']) β h nx w k := by
  have e0 := e
  clear e
  obtain ⟨⟨el, es, zl⟩, hp, e1⟩ := opt_of e0
  cases hse : seqT P u with
  | false => rw [hse] at hp; cases hp
  | true =>
    rw [hse] at hp
    have hp : sliceZero P t = some (el, es, zl) := hp
    have h2u := seqT_info hse
    obtain ⟨zv, i, h1, hs, hn, hi, hb, hzt, hzc, hzl, hzf⟩ := sliceZero_info hp
    obtain ⟨i2, z, q1, q2, q3⟩ := zeroT_info hzt
    have hz : ∀ W : World, (zeroValue el).run P W = .ok z W := fun W => by simp [zeroValue, run_typeInfoA q1, q2]
    have hzr : VRel β zv z := absV_ok q3
    have hzs : z.cells.size = es := by rw [← hzl, hzc, hzr.cells.1]; simp
    obtain ⟨xs, n, xs', hxl, hx1, hxlen0, hx, e2⟩ := elemsA_ok (P := P) hr hx' e1
    have hxlen : xs.length = n * es := hxlen0
    have e : appTo el es s xs n h nx k = true := e2
    clear e0 e1 e2 hxlen0
    cases hs' <;> first | (exfalso; simp [appTo, bad1] at e; done) | skip
    case nilslice =>
      have e : (Bool.rec (motive := fun _ => Bool) (Bool.rec (motive := fun _ => Bool) false (newCells el h nx xs fun b h nx => k (.slice b 0 n n es) h nx) (Nat.ble n (2 ^ 24))) (k .nilslice h nx) (Nat.beq n 0)) = true := e
      cases hn0 : Nat.beq n 0 with
      | true =>
        rw [hn0] at e
        have hn0 := Nat.eq_of_beq_eq_true hn0
        subst hn0
        exact .ret hr (run_append_nil (P := P) (ty := ty) ht hu h1 h2u hs (hx w rfl).1 (hx w rfl).2) .nilslice e
      | false =>
        rw [hn0] at e
        have hn1 : n ≠ 0 := fun h => by subst h; simp at hn0
        have hfc : ∀ W : World, W.heap = w.heap → (Builtin.firstCells es 0 (.slice none 0 0)).run P W = .ok ([] : List Value).toArray W := fun W _ => rfl
        obtain ⟨hlim, e⟩ := guard_of e
        have hlim : n ≤ 2 ^ 24 := Nat.le_of_ble_eq_true hlim
        · obtain ⟨newCap, c1, rest, c2, hrun⟩ := run_append_out (P := P) (ty := ty) (w := w) (base := none) (sLen := 0) (sCap := 0) ht hu h1 h2u hs hi hb hz hzs (hx w rfl).1 (fun W hW => (hx W hW).2) (by omega) hfc (by omega)
          have hrw : HRel β h nx w.drew := HRel.same (w := w) rfl hr
          obtain ⟨β', h', hr2, hst, hbn, e⟩ := newCells_ok true (kk := fun b h nx => k (.slice b 0 n n es) h nx) hrw hxl hx1 e rest
          simp only [Nat.zero_add, List.nil_append] at hrun c1 c2
          have hcz : newCap * es = n * es + (newCap - n) * es := by rw [← Nat.add_mul]; congr 1; omega
          have hlz : (xs' ++ rest).length = newCap * es := by simp only [List.length_append, ← hxl.1, hxlen, c2]; omega
          refine ⟨_, _, hrun, β', _, h', _, hr2, hst.drew, VRel.slice nx 0 n n es newCap _ hbn c1 (show 0 + 0 + newCap * es ≤ (xs' ++ rest).length by omega) ⟨fun hx => (by cases hx), fun _ => ⟨by omega, show 0 + 0 + newCap * es = (xs' ++ rest).length by omega⟩⟩, e⟩
    case slice b off len mc es2 cap bi hbi hmc hcap hfun =>
      obtain ⟨hes, e3⟩ := guard_of (show (Bool.rec (motive := fun _ => Bool) false (appSl el b off len mc es xs n h nx k) (Nat.beq es es2)) = true from e)
      clear e
      have hes := Nat.eq_of_beq_eq_true hes
      subst hes
      have e : Tr.getK DH h b (fun o => withWCells o fun e d t m =>
        Bool.rec (Bool.rec false (Bool.rec (appOff el d t m b off len es xs n h nx k) (appOut el d t m b len es xs n h nx k) (Nat.beq off 0)) (Nat.beq (Nat.div e 2) el)) (appIn e d t m b off len mc es xs n h nx k) (Nat.ble (len + n) mc)) = true := e3
      clear e3
      rw [Tr.getK_eq] at e
      obtain ⟨tg, d, tt, m, ho, hc, htg, e⟩ := withWCells_of hr hbi e
      have hmul : (len + n) * es = len * es + n * es := Nat.add_mul ..
      cases hle : Nat.ble (len + n) mc with
      | true =>
        rw [hle] at e
        have hle := Nat.le_of_ble_eq_true hle
        obtain ⟨hfit, e⟩ := guard_of (show (Bool.rec (motive := fun _ => Bool) false (storeL d xs tt (off + len * es) fun t => Tr.setK DH h b (.cells tg d t m) fun h => forceNat (len + n) fun l => k (.slice b off l mc es) h nx) (Nat.ble (off + (len + n) * es) m)) = true from e)
        have hfit := Nat.le_of_ble_eq_true hfit
        rw [storeL_eq, Tr.setK_eq, forceNat_eq] at e
        have hcx := hc.ex
        obtain ⟨_, _, _, _, hb4, _⟩ := hcx
        obtain ⟨cs, e2, k1, k2, k3⟩ := hc.store (P := P) hxl hx1 (off + len * es) (by rw [hxlen]; omega)
        have hst : (storeCells ((⟨bi.blk, bi.base + off, none⟩ : Addr).add (len * es)) xs').run P w = .ok () (w.setRow bi.blk (cs.toList.take (bi.base + (off + len * es)) ++ xs' ++ cs.toList.drop (bi.base + (off + len * es) + xs'.length)).toArray) := by
          rw [addr_add, Nat.add_assoc]; exact k3
        have hnd := hc.fit
        have hcr := hc.stored hxl hx1 (off + len * es) m (by rw [hxlen]; omega) k1 k2 hnd (by omega) (.inl (Nat.le_refl _)) (by omega) (by rw [hxlen]; omega)
        obtain ⟨hr2, hst2⟩ := hr.turn hbi (by rw [ho]; rfl) (.cells tg d (setMany d xs tt (off + len * es)) m) (.inl rfl) (size_setRow ..) (fun x hx => heap_setRow_other _ _ _ _ hx) ⟨hcr, htg.setRow k1⟩
        exact ⟨_, _, run_append_in (P := P) (ty := ty) (sCap := cap) ht hu h1 h2u hs (hx w rfl).1 (hx w rfl).2 (by omega) hst, β, _, _, nx, hr2, hst2, VRel.slice b off (len + n) mc es cap bi hbi hmc hcap hfun, e⟩
      | false =>
        rw [hle] at e
        have hroom : ¬ len + n ≤ mc := fun h => by rw [Nat.ble_eq_true_of_le h] at hle; cases hle
        obtain ⟨htl, e⟩ := guard_of e
        have htl : tg / 2 = el := Nat.eq_of_beq_eq_true htl
        cases ho0 : Nat.beq off 0 with
        | true =>
          rw [ho0] at e
          have ho0 := Nat.eq_of_beq_eq_true ho0
          subst ho0
          obtain ⟨hg, e⟩ := guard_of e
          simp only [Bool.and_eq_true] at hg
          have g1 := Nat.le_of_ble_eq_true hg.1
          have g2 := Nat.le_of_ble_eq_true hg.2
          simp only [forceNat_eq, storeL_eq, Tr.setK_eq, allocK] at e
          obtain ⟨hlt, e⟩ := guard_of e
          have hlt : nx < 2 ^ DH := by simpa [Nat.blt_eq] using hlt
          have hd1 : (len + n) * es ≤ 2 ^ (Nat.max d (depthOf ((len + n) * es))) := Nat.le_trans (le_depthOf _) (Nat.pow_le_pow_right (by omega) (Nat.le_max_right ..))
          have hdmax : d ≤ Nat.max d (depthOf ((len + n) * es)) := Nat.le_max_left ..
          refine appOut_gen (kk := fun b h nx => k (.slice b 0 (len + n) (len + n) es) h nx) (L := getMany d tt (len * es) 0 ++ xs) ht hu h1 h2u hs hi hb hz hzs hr hbi ho hc htg htl hmc hcap (by omega) hfun hxl hx1 hxlen hx hroom (by simpa using g1) g2 rfl hd1 (fun j a hj => ?_) hlt e
          have hjl := (List.getElem?_eq_some_iff.1 hj).1
          simp only [List.length_append, length_getMany, hxlen] at hjl
          have hlen2 : len * es + xs.length ≤ 2 ^ (Nat.max d (depthOf ((len + n) * es))) := by rw [hxlen]; omega
          rw [get_setMany _ _ _ _ _ hlen2 (by omega)]
          by_cases hj2 : j < len * es
          · rw [if_neg (by omega)]
            rw [List.getElem?_append_left (by simpa using hj2), get_getMany _ _ _ _ _ hj2] at hj
            have hnd := hc.fit
            have hgg := get_growT d tt (Nat.max d (depthOf ((len + n) * es)) - d) j (by omega)
            rw [show d + (Nat.max d (depthOf ((len + n) * es)) - d) = Nat.max d (depthOf ((len + n) * es)) by omega] at hgg
            rw [hgg]
            simpa using hj
          · rw [if_pos (by omega)]
            rw [List.getElem?_append_right (by simpa using hj2)] at hj
            simp only [length_getMany] at hj
            rw [hj]; rfl
        | false =>
          rw [ho0] at e
          obtain ⟨hg, e⟩ := guard_of e
          simp only [Bool.and_eq_true] at hg
          have g1 := Nat.le_of_ble_eq_true hg.1
          have g2 := Nat.le_of_ble_eq_true hg.2
          simp only [loadL_eq, Tr.setK_eq, newCells2, forceNat_eq, storeL_eq, allocK] at e
          obtain ⟨hlt, e⟩ := guard_of e
          have hlt : nx < 2 ^ DH := by simpa [Nat.blt_eq] using hlt
          have hLlen : (getMany d tt (len * es) off ++ xs).length = (len + n) * es := by simp [hxlen, hmul]
          rw [hLlen] at e
          have hd1 := le_depthOf ((len + n) * es)
          refine appOut_gen (kk := fun b h nx => k (.slice b 0 (len + n) (len + n) es) h nx) (L := getMany d tt (len * es) off ++ xs) ht hu h1 h2u hs hi hb hz hzs hr hbi ho hc htg htl hmc hcap (by omega) hfun hxl hx1 hxlen hx hroom g1 g2 rfl hd1 (fun j a hj => ?_) hlt e
          have hjl := (List.getElem?_eq_some_iff.1 hj).1
          rw [get_setMany _ _ _ _ _ (by rw [hLlen]; simpa using hd1) (by omega), if_pos (Nat.zero_le _)]
          simp only [Nat.sub_zero]
          rw [hj]; rfl
end Am
set_option linter.unusedVariables false
set_option linter.unusedSimpArgs false
namespace Am
open Go
variable {P : Program} {β : Beta} {h : HP} {nx : Nat} {w : World} {k : KV}

/-- an operation that answers a value or leaves none -/
def OpOK (P : Program) (s : Sem Next) (β : Beta) (h : HP) (nx : Nat) (w : World) (k : KV) : Prop :=
  ∃ x v' w', s.run P w = .ok x w' ∧ (x = .value v' ∨ (x = .skip ∧ v' = undef)) ∧ OutV β h nx w k v' w'
def OpQ (P : Program) (s : Sem Next) (β : Beta) (h : HP) (nx : Nat) (w : World) (k : KV) : Prop :=
  ∃ v v', s.run P w = .ok (.value v') w ∧ VRel β v v' ∧ k v h nx = true
theorem OpQ.ok {s : Sem Next} (hr : HRel β h nx w) (q : OpQ P s β h nx w k) : OpOK P s β h nx w k :=
  let ⟨v, v', h1, h2, h3⟩ := q; ⟨_, v', w, h1, .inl rfl, .same hr h2 h3⟩
theorem SemOK.value {s : Sem Value} (q : SemOK P s β h nx w k) : OpOK P (do pure (Next.value (← s))) β h nx w k :=
  let ⟨v', w', h1, h2⟩ := q; ⟨_, v', w', by simp [h1, Result.andThen], .inl rfl, h2⟩
theorem SemQ.value {s : Sem Value} (q : SemQ P s β h nx w k) : OpQ P (do pure (Next.value (← s))) β h nx w k :=
  let ⟨v, v', h1, h2, h3⟩ := q; ⟨v, v', by simp [h1, Result.andThen], h2, h3⟩
theorem unit_ok {s : Sem Unit} (q : ∃ w', s.run P w = .ok () w' ∧ OutV β h nx w k undef w') : OpOK P (do s; pure Next.skip) β h nx w k :=
  let ⟨w', h1, h2⟩ := q; ⟨.skip, undef, w', by simp [h1, Result.andThen], .inr ⟨rfl, rfl⟩, h2⟩

/-! ### conversions -/
theorem bytesK_of {l : List AV} : ∀ {l' : List Value} {f : List Nat → Bool}, LRel β l l' → bytesK l f = true →
    ∃ ns : List Nat, l' = ns.map (fun n => Value.int .u8 (.ofNat n)) ∧ (∀ n ∈ ns, n < 256) ∧ f ns = true := by
  induction l with
  | nil => intro l' f hl e; exact ⟨[], hl.nil_inv, by simp, e⟩
  | cons v l ih =>
    intro l' f hl e
    obtain ⟨v', l2, rfl, hv, hl2⟩ := hl.cons_inv
    obtain ⟨n, hn, e⟩ := optN_of (show optN (byteNat v) (fun n => bytesK l fun l => f (n :: l)) = true from e)
    obtain ⟨ns, rfl, h1, e⟩ := ih hl2 e
    have : v' = .int .u8 (.ofNat n) ∧ n < 256 := by
      unfold byteNat at hn
      split at hn
      · rename_i m
        cases hb : Nat.blt m 256 with
        | false => rw [hb] at hn; cases hn
        | true =>
          rw [hb] at hn; cases hn
          cases hv
          exact ⟨rfl, by simpa [Nat.blt_eq] using hb⟩
      · cases hn
    exact ⟨n :: ns, by simp [this.1], by simpa using ⟨this.2, h1⟩, e⟩
theorem isU8_info {t : TypeId} (e : isU8 P t = true) : P.underlying t = some (.int .u8) := by
  unfold isU8 at e; split at e <;> first | assumption | cases e
theorem bytes_foldl (ns : List Nat) (hb : ∀ n ∈ ns, n < 256) : ∀ (s : ByteArray),
    ((ns.map Int.ofNat).foldl (fun (r : ByteArray) n => r.push (UInt8.ofNat n.toNat)) s).data.toList.map UInt8.toNat = s.data.toList.map UInt8.toNat ++ ns := by
  induction ns with
  | nil => intro s; simp
  | cons n ns ih =>
    intro s
    rw [List.map_cons, List.foldl_cons, ih (fun m hm => hb m (List.mem_cons_of_mem _ hm))]
    have := hb n (List.mem_cons_self ..)
    simp [ByteArray.push, Nat.mod_eq_of_lt this]

/-! ### texts out of bytes -/
theorem run_viewAt_cells {g : Nat} {cs : Array Value} {e : TypeId} {fz : Nat × Nat} (hw : w.heap[g]? = some (.cells cs e fz)) : (viewAt g).run P w = .ok none w := by
  simp [viewAt, World.shape?, hw]
theorem run_seenAt {b o : Nat} {cs : Array Value} {e : TypeId} {fz : Nat × Nat} (hw : w.heap[b]? = some (.cells cs e fz)) : (Conv.seenAt ⟨b, o, none⟩).run P w = .ok ⟨b, o, none⟩ w := by
  simp [Conv.seenAt, run_viewAt_cells hw]
theorem run_toU {t e : TypeId} {n b o : Nat} {src dst : TypeId} {cs : Array Value} {fz : Nat × Nat} (hs : P.underlying src = some (.pointer t)) (hd : P.underlying dst = some .unsafePointer) (hz : sizeT P t = some (n + 1))
    (hw : w.heap[b]? = some (.cells cs e fz)) (ho : o < cs.size) : (convert src dst (.pointer (some ⟨b, o, none⟩))).run P w = .ok (.pointer (some ⟨b, o, none⟩)) w := by
  have h1 : ¬ cs.size ≤ o := by omega
  simp [convert, run_underlying hs, run_underlying hd, Conv.unsafePointer, run_seenAt hw, cellsIn, World.shape?, hw, run_sizeA hz, h1]
theorem run_toU_nil {t : TypeId} {src dst : TypeId} (hs : P.underlying src = some (.pointer t)) (hd : P.underlying dst = some .unsafePointer) : (convert src dst (.pointer none)).run P w = .ok (.pointer none) w := by
  simp [convert, run_underlying hs, run_underlying hd, Conv.unsafePointer]
theorem run_fromU_nil {u : TypeId} {src dst : TypeId} (hs : P.underlying src = some .unsafePointer) (hd : P.underlying dst = some (.pointer u)) : (convert src dst (.pointer none)).run P w = .ok (.pointer none) w := by
  simp [convert, run_underlying hs, run_underlying hd, Conv.unsafePointer]
theorem cellsOf_of_sizeT {t : TypeId} {n : Nat} (h : sizeT P t = some n) : P.cellsOf t = n := by
  unfold sizeT at h
  unfold Program.cellsOf
  rw [h]; rfl
theorem liesAt_same {e : TypeId} {s : Nat} (hc : P.cellsOf e = s + 1) (count o n : Nat) (ho : o % (s + 1) = 0) (hn : o / (s + 1) + n ≤ count) : liesAt P P.depth e count o e n = true := by
  have hd : P.depth = (2 * (P.types.size + Made.depth) + 1) + 1 := rfl
  rw [hd]
  simp only [liesAt, Bool.or_eq_true]
  left
  rw [hd]
  simp [rowAt, hc, ho, hn, sameLayout]
theorem run_fromU {u : TypeId} {s b : Nat} {src dst : TypeId} {cs : Array Value} {fz : Nat × Nat} (hs : P.underlying src = some .unsafePointer) (hd : P.underlying dst = some (.pointer u)) (hz : sizeT P u = some (s + 1))
    (hw : w.heap[b]? = some (.cells cs u fz)) (ho : s + 1 ≤ cs.size) : (convert src dst (.pointer (some ⟨b, 0, none⟩))).run P w = .ok (.pointer (some ⟨b, 0, none⟩)) w := by
  have hc := cellsOf_of_sizeT hz
  have h1 : 1 ≤ cs.size / (s + 1) := (Nat.le_div_iff_mul_le (by omega)).2 (by omega)
  have hl := liesAt_same (P := P) hc (cs.size / P.cellsOf u) 0 1 (by simp) (by rw [hc]; simpa using h1)
  simp [convert, run_underlying hs, run_underlying hd, Conv.unsafePointer, run_seenAt hw, run_sizeA hz, variablesAt, World.shape?, hw, hl]
theorem freeze_other (a : Addr) (n x : Nat) (hx : x ≠ a.block) : (w.freeze a n).heap[x]? = w.heap[x]? := by
  unfold World.freeze
  split
  · rfl
  · show (w.heap.modify a.block _)[x]? = _
    rw [Array.getElem?_modify, if_neg (fun e => hx e.symm)]
theorem freeze_size (a : Addr) (n : Nat) : (w.freeze a n).heap.size = w.heap.size := by
  unfold World.freeze
  split
  · rfl
  · show (w.heap.modify a.block _).size = _
    rw [Array.size_modify]
theorem freeze_os (a : Addr) (n : Nat) : (w.freeze a n).os = w.os ∧ (w.freeze a n).output = w.output := by
  unfold World.freeze
  split <;> exact ⟨rfl, rfl⟩
theorem run_uString {pt it ty e : TypeId} (hp : P.underlying pt = some (.pointer e)) (hc : P.cellsOf e = 1) {g cells o : Nat} (hsh : w.shape? g = some (e, cells)) (l : List UInt8) (h0 : l ≠ []) (hn : o + l.length ≤ cells) (h63 : l.length ≤ 9223372036854775807)
    (hcell : ∀ (j : Nat) x, l[j]? = some x → w.cell? ((⟨g, o, none⟩ : Addr).add j) = some (.int .u8 x.toNat)) :
    (Builtin.unsafeString_ #[pt, it] ty #[.pointer (some ⟨g, o, none⟩), .int .i64 l.length]).run P w = .ok (.string ⟨l.toArray⟩) (w.freeze ⟨g, o, none⟩ l.length) := by
  have hl : l.length ≠ 0 := by simpa using h0
  have hlb := Lib.run_loadBytes (P := P) w l ⟨g, o, none⟩ .empty hcell
  have hlies := liesAt_same (P := P) (s := 0) hc (cells / P.cellsOf e) o l.length (by simp [Nat.mod_one]) (by rw [hc]; simpa using hn)
  have h63' : ¬ (9223372036854775807 : Int) < (l.length : Int) := by omega
  have hdef : Builtin.unsafeString_ #[pt, it] ty #[.pointer (some ⟨g, o, none⟩), .int .i64 l.length] =
      (do
        let n ← asInt (.int .i64 l.length)
        if n < 0 then runtimePanic (.error _)
        if n > IntKind.i64.max then unsupported (.unsafePointer _)
        if n = 0 then pure (.string .empty)
        else if ← variablesAt ⟨g, o, none⟩ (← elemOf pt) n.toNat then do
          let s ← loadBytes ⟨g, o, none⟩ .empty n.toNat
          freeze ⟨g, o, none⟩ n.toNat
          pure (.string s)
        else unsupported (.unsafePointer _)) := rfl
  rw [hdef]
  have hmax : IntKind.i64.max = 9223372036854775807 := rfl
  have hneg : ¬ (l.length : Int) < 0 := by omega
  simp [asInt, asIntOf, hmax, h63', hneg, hl, variablesAt, hsh, elemOf, run_underlying hp, hlies, hlb]
theorem ptrTo_info {t e : TypeId} (h : ptrTo P t = some e) : P.underlying t = some (.pointer e) := by
  unfold ptrTo at h
  split at h
  · rename_i h1; cases h; exact h1
  · cases h

theorem u8One_info {t : TypeId} (h : u8One P t = true) : P.underlying t = some (.int .u8) ∧ sizeT P t = some 1 := by
  unfold u8One at h
  rw [Bool.and_eq_true] at h
  refine ⟨isU8_info h.1, ?_⟩
  have h2 := h.2
  split at h2
  · rename_i n hn; rw [hn, Nat.eq_of_beq_eq_true h2]
  · cases h2
theorem run_uNil (t u ty : TypeId) : (Builtin.unsafeString_ #[t, u] ty #[.pointer none, .int .i64 0]).run P w = .ok (.string .empty) w := Lib.run_unsafeString_none w t u ty none
theorem bytes_u8 {ns : List Nat} (h : ∀ n ∈ ns, n < 256) : (ns.map Nat.toUInt8).map UInt8.toNat = ns := by
  rw [List.map_map]
  conv => rhs; rw [← List.map_id ns]
  refine List.map_congr_left fun n hn => ?_
  have := h n hn
  simp [Nat.mod_eq_of_lt this]
theorem uStr_ok {pt it ty pe : TypeId} {b off n : Nat} {i : BI} (hr : HRel β h nx w) (hi : β b = some i) (hp : P.underlying pt = some (.pointer pe)) (e : uStr P pe b off n h nx k = true) :
    SemOK P (Builtin.unsafeString_ #[pt, it] ty #[.pointer (some ⟨i.blk, i.base + off, none⟩), .int .i64 n]) β h nx w k := by
  unfold uStr at e
  rw [Tr.getK_eq] at e
  obtain ⟨tg, d, t, m, ho, hc, htg, e⟩ := withWCells_of hr hi e
  obtain ⟨hg, e⟩ := guard_of e
  simp only [Bool.and_eq_true] at hg
  obtain ⟨⟨⟨⟨g1, g2⟩, g3⟩, g4⟩, g5⟩ := hg
  have g5 := Nat.le_of_ble_eq_true g5
  have g1 : tg / 2 = pe := Nat.eq_of_beq_eq_true g1
  have g2 := u8One_info g2
  have g3 := Nat.le_of_ble_eq_true g3
  have g4 := Nat.le_of_ble_eq_true g4
  rw [loadL_eq] at e
  obtain ⟨vs, q1, q2, q3⟩ := hc.many n off g3
  obtain ⟨ns, rfl, h4, e⟩ := bytesK_of q1 e
  rw [Tr.setK_eq] at e
  have hlen : (ns.map Nat.toUInt8).length = n := by
    have := q1.1
    rw [length_getMany] at this
    simpa using this.symm
  obtain ⟨cs, fz, t1, t2⟩ := htg
  rw [g1] at t1
  have hcc : P.cellsOf pe = 1 := cellsOf_of_sizeT g2.2
  have hcx := hc.ex
  obtain ⟨cs2, e2, k1, k2, k3, _⟩ := hcx
  rw [t1] at k1; cases k1
  have hrun := run_uString (P := P) (w := w) (pt := pt) (it := it) (ty := ty) hp hcc (g := i.blk) (cells := cs.size) (o := i.base + off) (by simp [World.shape?, t1]) (ns.map Nat.toUInt8) (by intro hh; rw [hh] at hlen; simp at hlen; omega) (by omega) (by omega) (fun j x hx => by
    have hx2 : (ns.map Int.ofNat |>.map (Value.int .u8))[j]? = some (.int .u8 x.toNat) := by
      simp only [List.getElem?_map, Option.map_eq_some_iff] at hx ⊢
      obtain ⟨y, hy, rfl⟩ := hx
      have := h4 y (List.mem_of_getElem? hy)
      exact ⟨_, ⟨y, hy, rfl⟩, by simp [Nat.mod_eq_of_lt this]⟩
    exact q3 j _ (by simpa [List.map_map] using hx2))
  rw [hlen] at hrun
  obtain ⟨hr2, hst⟩ := hr.turn (w' := w.freeze ⟨i.blk, i.base + off, none⟩ n) hi (by rw [ho]; rfl) .dead (.inr rfl) (freeze_size ..) (fun x hx => freeze_other _ _ _ hx) trivial (freeze_os ..).1 (freeze_os ..).2
  exact ⟨_, _, hrun, β, _, _, nx, hr2, hst, .str ns _ (by simpa using bytes_u8 h4), e⟩

theorem convA_ok {src dst : TypeId} {x : AV} {x' : Value} (hr : HRel β h nx w) (hx : VRel β x x') (e : convA (convKind P src dst) x h nx k = true) : SemQ P (convert src dst x') β h nx w k := by
  unfold convKind at e
  split at e
  · rename_i s kd hs hd
    cases hx <;> first | (exfalso; simp [convA, convInt, bad1] at e; done) | skip
    rename_i k0 n
    have e : bInt kd (kd.wrap n) h nx k = true := e
    unfold bInt at e
    rw [forceInt_eq] at e
    exact .ret hr (by simp [convert, run_underlying hs, run_underlying hd, Conv.intToInt]) (.int _ _) e
  · rename_i el hs hd
    cases hu : isU8 P el with
    | false => rw [hu] at e; cases e
    | true =>
      rw [hu] at e
      have hu := isU8_info hu
      have e1 : convBytes x h nx k = true := e
      clear e
      cases hx <;> first | (exfalso; simp [convBytes, bad1] at e1; done) | skip
      case slice b off len mc es cap i hi h1 h2 h3 =>
        have e : Tr.getK DH h b (fun o => withCells o fun d t n =>
          Bool.rec false (loadL d t len off fun l => bytesK l fun s => k (.str s) h nx) (Nat.ble (off + len) n)) = true := e1
        rw [Tr.getK_eq] at e
        obtain ⟨d, t, n, hc, e⟩ := withCells_of hr hi e
        obtain ⟨hle, e⟩ := guard_of e
        rw [loadL_eq] at e
        obtain ⟨vs, g1, g2, g3⟩ := run_loadMany (P := P) hc len off (Nat.le_of_ble_eq_true hle)
        obtain ⟨ns, rfl, h4, e⟩ := bytesK_of g1 e
        have hrun := run_bytesToString (P := P) w ⟨i.blk, i.base + off, none⟩ len cap (ns.map Int.ofNat) (by rw [g3, List.map_map]; rfl)
        exact .ret hr (by rw [run_convert_bytes_string w src dst el _ len cap hs hu hd, hrun]) (.str ns _ (by rw [bytes_foldl ns h4]; simp)) e
      case nilslice =>
        exact .ret hr (run_convert_bytes_nil w src el hs hu 0 0 dst hd) (.str [] _ rfl) e1
  · rename_i t hs hd
    cases hz : sizeT P t with
    | none => rw [hz] at e; cases e
    | some n =>
      cases n with
      | zero => rw [hz] at e; cases e
      | succ n =>
        rw [hz] at e
        have e1 : convToU x h nx k = true := e
        clear e
        cases hx <;> first | (exfalso; simp [convToU, bad1] at e1; done) | skip
        case ptr b off i hi =>
          have e : Tr.getK DH h b (fun o => withCells o fun _ _ n => Bool.rec false (k (.ptr b off) h nx) (Nat.blt off n)) = true := e1
          rw [Tr.getK_eq] at e
          obtain ⟨d, t, m, hc, e⟩ := withCells_of hr hi e
          obtain ⟨hle, e⟩ := guard_of e
          have hle : off < m := by simpa [Nat.blt_eq] using hle
          have hcx := hc.ex
          obtain ⟨cs, e2, k1, k2, k3, _⟩ := hcx
          exact .ret hr (run_toU hs hd hz k1 (by omega)) (.ptr b off i hi) e
        case nilptr => exact .ret hr (run_toU_nil hs hd) .nilptr e1
  · rename_i u hs hd
    cases hz : sizeT P u with
    | none => rw [hz] at e; cases e
    | some n =>
      cases n with
      | zero => rw [hz] at e; cases e
      | succ n =>
        rw [hz] at e
        have e1 : convFromU u (n + 1) x h nx k = true := e
        clear e
        cases hx <;> first | (exfalso; simp [convFromU, bad1] at e1; done) | skip
        case ptr b off i hi =>
          have e : Tr.getK DH h b (fun o => withWCells o fun e _ _ m => Bool.rec false (k (.ptr b off) h nx) (Nat.beq e (2 * u + 1) && Nat.beq off 0 && Nat.ble (n + 1) m)) = true := e1
          rw [Tr.getK_eq] at e
          clear e1
          obtain ⟨tg, d, t, m, ho, hc, htg, e2⟩ := withWCells_of hr hi e
          clear e
          obtain ⟨hg, e⟩ := guard_of e2
          clear e2
          simp only [Bool.and_eq_true] at hg
          obtain ⟨⟨g1, g2⟩, g3⟩ := hg
          have g1 := Nat.eq_of_beq_eq_true g1
          have g2 := Nat.eq_of_beq_eq_true g2
          have g3 := Nat.le_of_ble_eq_true g3
          subst g1 g2
          obtain ⟨cs, fz, t1, t2⟩ := htg
          rw [half_odd] at t1
          have hb : i.base = 0 := t2 (by omega)
          have hcx := hc.ex
          obtain ⟨cs2, e2, k1, k2, k3, _⟩ := hcx
          rw [t1] at k1; cases k1
          have hrun := run_fromU (P := P) (w := w) hs hd hz t1 (by omega)
          refine .ret hr (v := .ptr b 0) ?_ (.ptr b 0 i hi) e
          rw [hb]; exact hrun
        case nilptr => exact .ret hr (run_fromU_nil hs hd) .nilptr e1
  · cases e

/-! ### the builtins that leave memory alone -/
theorem lenB_ok {t ty : TypeId} {x : AV} {x' : Value} {ts : Array TypeId} (hr : HRel β h nx w) (hx : VRel β x x') (hts : ts[0]? = some t) (e : lenA (lenKind P t) x h nx k = true) :
    SemQ P (Builtin.len_ ts ty #[x']) β h nx w k := by
  unfold lenKind at e
  split at e
  · rename_i hu
    cases hx <;> first | (exfalso; simp [lenA, lenStr, bad1] at e; done) | skip
    rename_i l s hs
    have e : natRet l.length h nx k = true := e
    unfold natRet at e
    rw [forceNat_eq] at e
    refine .ret hr (v' := goInt s.size) (by simp [Builtin.len_, hts, run_underlying hu]) ?_ e
    have : s.size = l.length := by rw [← hs]; simp
    rw [this]; exact .int _ _
  · rename_i el hu
    cases hx <;> first | (exfalso; simp [lenA, lenSl, bad1] at e; done) | skip
    case slice b off len mc es cap i hi h1 h2 h3 =>
      have e : natRet len h nx k = true := e
      unfold natRet at e
      rw [forceNat_eq] at e
      exact .ret hr (v' := goInt len) (by simp [Builtin.len_, hts, run_underlying hu]) (.int _ _) e
    case nilslice =>
      have e : natRet 0 h nx k = true := e
      unfold natRet at e
      rw [forceNat_eq] at e
      exact .ret hr (v' := goInt 0) (by simp [Builtin.len_, hts, run_underlying hu]) (.int _ _) e
    case eslice a cap =>
      have e : natRet 0 h nx k = true := e
      unfold natRet at e
      rw [forceNat_eq] at e
      exact .ret hr (v' := goInt 0) (by simp [Builtin.len_, hts, run_underlying hu]) (.int _ _) e
  · cases e
  · cases e
theorem min2_ok {x y : AV} {x' y' : Value} (lt : Bool) (hr : HRel β h nx w) (hx : VRel β x x') (hy : VRel β y y') (e : minInt lt x y h nx k = true) :
    SemQ P (bif lt then Builtin.min2 x' y' else Builtin.max2 x' y') β h nx w k := by
  cases hx <;> first | (exfalso; simp [minInt, bad1] at e; done) | skip
  rename_i kd a
  cases hy <;> first | (exfalso; simp [minInt, bad1] at e; done) | skip
  rename_i kd2 b
  have e : bInt kd (Bool.rec (Bool.rec a b (decide (a < b))) (Bool.rec a b (decide (b < a))) lt) h nx k = true := e
  unfold bInt at e
  rw [forceInt_eq] at e
  cases lt with
  | true =>
    refine .ret hr (v' := .int kd (if b < a then b else a)) rfl ?_ e
    by_cases hb : b < a
    · simp [hb]; exact .int _ _
    · simp [hb]; exact .int _ _
  | false =>
    refine .ret hr (v' := .int kd (if b > a then b else a)) rfl ?_ e
    by_cases hb : a < b
    · simp [hb]; exact .int _ _
    · simp [hb]; exact .int _ _

theorem LRel.one {x : AV} {l' : List Value} (hl : LRel β [x] l') : ∃ x', l' = [x'] ∧ VRel β x x' := by
  obtain ⟨v, l, rfl, h1, h2⟩ := hl.cons_inv
  have := h2.nil_inv; subst this; exact ⟨v, rfl, h1⟩
theorem LRel.two {x y : AV} {l' : List Value} (hl : LRel β [x, y] l') : ∃ x' y', l' = [x', y'] ∧ VRel β x x' ∧ VRel β y y' := by
  obtain ⟨v, l, rfl, h1, h2⟩ := hl.cons_inv
  obtain ⟨u, rfl, h3⟩ := h2.one
  exact ⟨v, u, rfl, h1, h3⟩

theorem lenCall_ok {ts : Array TypeId} {ty : TypeId} {cs : Array Bool} {args : List AV} {args' : List Value} (hr : HRel β h nx w) (hl : LRel β args args') (e : lenB P ts.toList args h nx k = true) :
    OpQ P (builtin .len ts ty cs args'.toArray) β h nx w k := by
  unfold lenB at e
  generalize hts : ts.toList = tl at e
  split at e
  · rename_i t x
    obtain ⟨x', rfl, hx⟩ := hl.one
    exact (lenB_ok (ty := ty) hr hx (by rw [← Array.getElem?_toList, hts]; rfl) e).value
  · cases e
theorem builtinA_ok {b : Builtin} {ts : Array TypeId} {ty : TypeId} {cs : Array Bool} {args : List AV} {args' : List Value} (hr : HRel β h nx w) (hl : LRel β args args') (e : builtinA P b ts.toList args h nx k = true) :
    OpOK P (builtin b ts ty cs args'.toArray) β h nx w k := by
  cases b <;> first | (cases e; done) | skip
  case append =>
    have e : appendB P ts.toList args h nx k = true := e
    unfold appendB at e
    generalize hts : ts.toList = tl at e
    split at e
    · rename_i t u s x
      obtain ⟨s', x', rfl, hs, hx⟩ := hl.two
      exact (appendA_ok (ty := ty) hr hs hx (by rw [← Array.getElem?_toList, hts]; rfl) (by rw [← Array.getElem?_toList, hts]; rfl) e).value
    · cases e
  case delete =>
    have e : deleteB P ts.toList args h nx k = true := e
    unfold deleteB at e
    generalize hts : ts.toList = tl at e
    split at e
    · rename_i t u s x
      obtain ⟨s', x', rfl, hs, hx⟩ := hl.two
      exact (deleteA_ok (t2 := t) (ty := ty) hr hx hs (by rw [← Array.getElem?_toList, hts]; rfl) e).value
    · cases e
  case len => exact (lenCall_ok hr hl e).ok hr
  case unsafeSliceData =>
    have e1 : sliceDataB args h nx k = true := e
    clear e
    unfold sliceDataB at e1
    split at e1
    · obtain ⟨x', rfl, hx⟩ := hl.one
      cases hx
      exact OpQ.ok hr ⟨_, _, by simp [builtin, Lib.run_unsafeSliceData_nil], .nilptr, e1⟩
    · rename_i b off len mc es
      obtain ⟨x', rfl, hx⟩ := hl.one
      obtain ⟨hm, e2⟩ := guard_of e1
      clear e1
      have hm := Nat.le_of_ble_eq_true hm
      cases hx with
      | slice _ _ _ _ _ cap i hi hmc h2 h3 =>
        have hcap : cap ≠ 0 := by omega
        exact OpQ.ok hr ⟨.ptr b off, _, by simp [builtin, Lib.run_unsafeSliceData_row (P := P) w ts ty _ _ _ hcap], .ptr _ _ _ hi, e2⟩
    · cases e1
  case unsafeString =>
    have e1 : unsafeStrB P ts.toList args h nx k = true := e
    clear e
    generalize hts : ts.toList = tl at e1
    have htt : ts = tl.toArray := by rw [← hts]
    subst htt
    clear hts
    unfold unsafeStrB at e1
    split at e1
    · rename_i t u
      obtain ⟨x', y', rfl, hx, hy⟩ := hl.two
      obtain ⟨pe, hpe, e⟩ := opt_of e1
      cases hx; cases hy
      exact (SemOK.value (s := Builtin.unsafeString_ _ ty _) ⟨_, _, run_uNil (P := P) t u ty, β, _, h, nx, hr, Step.refl .., .str [] _ rfl, e⟩)
    · rename_i t u b off n
      obtain ⟨x', y', rfl, hx, hy⟩ := hl.two
      obtain ⟨pe, hpe, e⟩ := opt_of (show (Option.rec (motive := fun _ => Bool) false (fun pe => Bool.rec (uStr P pe b off n h nx k) (k (.str []) h nx) (Nat.beq n 0)) (ptrTo P t)) = true from e1)
      clear e1
      cases hx with
      | ptr _ _ i hi =>
        cases hy
        cases hn : Nat.beq n 0 with
        | true =>
          rw [hn] at e
          have hn := Nat.eq_of_beq_eq_true hn
          subst hn
          exact (SemOK.value (s := Builtin.unsafeString_ _ ty _) ⟨_, _, Lib.run_unsafeString_none w t u ty (some _), β, _, h, nx, hr, Step.refl .., .str [] _ rfl, e⟩)
        | false =>
          rw [hn] at e
          exact (uStr_ok (P := P) (pt := t) (it := u) (ty := ty) hr hi (ptrTo_info hpe) e).value
    · cases e1
  case max =>
    have e : minB false args h nx k = true := e
    unfold minB at e
    split at e
    · obtain ⟨x', y', rfl, hx, hy⟩ := hl.two
      obtain ⟨v, v', h1, h2, h3⟩ := min2_ok (P := P) false hr hx hy e
      exact OpQ.ok hr ⟨v, v', by simp [builtin, Builtin.max_, show (Builtin.max2 x' y').run P w = _ from h1, Result.andThen], h2, h3⟩
    · cases e
  case min =>
    have e : minB true args h nx k = true := e
    unfold minB at e
    split at e
    · obtain ⟨x', y', rfl, hx, hy⟩ := hl.two
      obtain ⟨v, v', h1, h2, h3⟩ := min2_ok (P := P) true hr hx hy e
      exact OpQ.ok hr ⟨v, v', by simp [builtin, Builtin.min_, show (Builtin.min2 x' y').run P w = _ from h1, Result.andThen], h2, h3⟩
    · cases e

/-! ### interfaces -/
theorem isIfaceT_info {t : TypeId} (e : isIfaceT P t = true) : ∃ ms, P.underlying t = some (.interface ms) := by
  unfold isIfaceT at e; split at e
  · rename_i ms hm; exact ⟨ms, hm⟩
  · cases e
theorem nilCmp_ok {x : AV} {x' : Value} {op : BinOp} {t : TypeId} {ox : Operand} (hr : HRel β h nx w) (hx : VRel β x x') (e : nilCmp P op t x h nx k = true) :
    SemQ P (do eqGuard op t ox (.const .nilIface) x' .nilIface; binOp op t x' .nilIface) β h nx w k := by
  have key : ∀ b : Bool, eqRet op b h nx k = true → (op = .eql → (Op.equal t x' .nilIface).run P w = .ok b w) → (op = .neq → (Op.equal t x' .nilIface).run P w = .ok b w) →
      (∀ o2, (eqGuard o2 t ox (.const .nilIface) x' .nilIface).run P w = .ok () w) → (∀ s, x' ≠ .string s) → (x' = .nilIface ∨ ∃ u y, x' = .iface u y) →
      SemQ P (do eqGuard op t ox (.const .nilIface) x' .nilIface; binOp op t x' .nilIface) β h nx w k := by
    intro b he h1 h2 hg hs hsh
    refine SemQ.guard (hg op) ?_
    refine eqRet_ok hr he (fun ho => ?_) (fun ho => ?_)
    · subst ho
      rcases hsh with rfl | ⟨u, y, rfl⟩ <;> simp [binOp, h1 rfl, Result.andThen]
    · subst ho
      rcases hsh with rfl | ⟨u, y, rfl⟩ <;> simp [binOp, h2 rfl, Result.andThen]
  have hguard : ∀ o2, (x' = .nilIface ∨ ∃ u y, x' = .iface u y) → (eqGuard o2 t ox (.const .nilIface) x' .nilIface).run P w = .ok () w := by
    intro o2 hsh
    rcases hsh with rfl | ⟨u, y, rfl⟩ <;> cases o2 <;> simp [eqGuard]
  cases hx <;> first | (exfalso; simp [nilCmp, bad1] at e; done) | skip
  case iface u y v hv =>
    obtain ⟨h1, e⟩ := guard_of (show (Bool.rec (motive := fun _ => Bool) false (eqRet op false h nx k) (isIfaceT P t)) = true from e)
    obtain ⟨ms, hu⟩ := isIfaceT_info h1
    have heq : (Op.equal t (.iface u v) .nilIface).run P w = .ok false w := by
      unfold Op.equal Op.maxDepth Op.equalIn; simp [run_underlying hu]
    exact key false e (fun _ => heq) (fun _ => heq) (fun o2 => hguard o2 (.inr ⟨_, _, rfl⟩)) (fun s h => by cases h) (.inr ⟨_, _, rfl⟩)
  case niliface =>
    obtain ⟨h1, e⟩ := guard_of (show (Bool.rec (motive := fun _ => Bool) false (eqRet op true h nx k) (isIfaceT P t)) = true from e)
    obtain ⟨ms, hu⟩ := isIfaceT_info h1
    have heq : (Op.equal t .nilIface .nilIface).run P w = .ok true w := by
      unfold Op.equal Op.maxDepth Op.equalIn; simp [run_underlying hu]
    exact key true e (fun _ => heq) (fun _ => heq) (fun o2 => hguard o2 (.inl rfl)) (fun s h => by cases h) (.inl rfl)
theorem assertA_ok {x : AV} {x' : Value} {xt t : TypeId} {ok : Bool} (hr : HRel β h nx w) (hx : VRel β x x') (e : assertA P t ok x h nx k = true) : SemQ P (Instr.typeAssert x' xt t ok) β h nx w k := by
  have hzero : ∀ z, zeroT P t = some z → ∃ z', (∀ W : World, (zeroValue t).run P W = .ok z' W) ∧ VRel β z z' := fun z hz => by
    obtain ⟨i2, z', q1, q2, q3⟩ := zeroT_info hz
    exact ⟨z', fun W => by simp [zeroValue, run_typeInfoA q1, q2], absV_ok q3⟩
  have pair : ∀ {a : AV} {a' : Value} {b : Bool}, VRel β a a' → VRel β (.tuple [a, .bool b]) (.tuple #[a', .bool b]) := fun {a a' b} ha =>
    VRel.tuple [a, .bool b] [a', .bool b] rfl (LRel.cons ha (.cons (.bool b) (.nil β))).2
  cases hx <;> first | (exfalso; simp [assertA, bad1] at e; done) | skip
  case iface u y v hv =>
    obtain ⟨h1, e⟩ := guard_of (show (Bool.rec (motive := fun _ => Bool) false (Bool.rec (failA P t ok h nx k) (hitA ok y h nx k) (Nat.beq u t)) (ifaceOk P t)) = true from e)
    obtain ⟨d, hd, hni⟩ := ifaceOk_info h1
    cases hut : Nat.beq u t with
    | true =>
      rw [hut] at e
      have := Nat.eq_of_beq_eq_true hut
      subst this
      have hrun : (Instr.typeAssert (.iface u v) xt u ok).run P w = .ok (if ok then .tuple #[v, .bool true] else v) w := by
        cases d <;> first | exact absurd rfl (hni _) | simp [Instr.typeAssert, run_underlying hd]
      cases ok with
      | true => exact .ret hr hrun (pair hv) e
      | false => exact .ret hr hrun hv e
    | false =>
      rw [hut] at e
      have hne : u ≠ t := fun hh => by subst hh; simp at hut
      obtain ⟨hok, e⟩ := guard_of (show (Bool.rec (motive := fun _ => Bool) false (Option.rec (motive := fun _ => Bool) false (fun z => k (.tuple [z, .bool false]) h nx) (zeroT P t)) ok) = true from e)
      subst hok
      obtain ⟨z, hz, e⟩ := opt_of e
      obtain ⟨z', hz1, hz2⟩ := hzero z hz
      refine .ret hr (v' := .tuple #[z', .bool false]) ?_ (pair hz2) e
      cases d <;> first | exact absurd rfl (hni _) | simp [Instr.typeAssert, run_underlying hd, hne, hz1, Result.andThen]
  case niliface =>
    obtain ⟨h1, e⟩ := guard_of (show (Bool.rec (motive := fun _ => Bool) false (failA P t ok h nx k) (ifaceOk P t)) = true from e)
    obtain ⟨d, hd, hni⟩ := ifaceOk_info h1
    obtain ⟨hok, e⟩ := guard_of (show (Bool.rec (motive := fun _ => Bool) false (Option.rec (motive := fun _ => Bool) false (fun z => k (.tuple [z, .bool false]) h nx) (zeroT P t)) ok) = true from e)
    subst hok
    obtain ⟨z, hz, e⟩ := opt_of e
    obtain ⟨z', hz1, hz2⟩ := hzero z hz
    refine .ret hr (v' := .tuple #[z', .bool false]) ?_ (pair hz2) e
    cases d <;> first | exact absurd rfl (hni _) | simp [Instr.typeAssert, run_underlying hd, hz1, Result.andThen]

/-! ### operations -/
section
variable {d nt : Nat} {t : TM} {a : Act}
theorem opDen_q {o : Oper} (hq : isQuiet o.op = true) (hr : HRel β h nx w) (ht : TRel β d nt t a.tmps) (e : opDen P d nt o.op t h nx k = true) :
    OpQ P (execOp a.eval o) β h nx w k := by
  obtain ⟨dst, op, ty, pos, after, g⟩ := o
  cases op <;> first | (cases e; done) | (cases hq; done) | skip
  case move x =>
    obtain ⟨v, hv, e⟩ := evD_ok ht e
    exact ⟨v, _, rfl, hv, e⟩
  case assign x =>
    obtain ⟨v, hv, e⟩ := evD_ok ht e
    exact ⟨v, _, rfl, hv, e⟩
  case pick c x y =>
    obtain ⟨v, hv, e⟩ := evD_ok ht e
    unfold pickB at e
    split at e
    · obtain ⟨u, hu, e⟩ := evD_ok ht e
      cases hc : a.eval c <;> (rw [hc] at hv; cases hv)
      exact ⟨u, _, by simp [execOp, hc, asBool], hu, e⟩
    · obtain ⟨u, hu, e⟩ := evD_ok ht e
      cases hc : a.eval c <;> (rw [hc] at hv; cases hv)
      exact ⟨u, _, by simp [execOp, hc, asBool], hu, e⟩
    · cases e
  case build ty2 ps =>
    obtain ⟨qs, h1, h2, e⟩ := evParts_ok ht e
    exact (buildA_ok (ps' := ps.map fun (i, x) => (i, a.eval x)) hr (by simpa [Function.comp_def] using h1) (by simpa [Function.comp_def] using h2) e).value
  case load ty2 x =>
    obtain ⟨v, hv, e⟩ := evD_ok ht e
    exact (loadA_ok hr hv e).value
  case nilCheck x =>
    obtain ⟨v, hv, e⟩ := evD_ok ht e
    unfold nilCheckA at e
    split at e
    · rename_i b o
      refine ⟨.ptr b o, a.eval x, ?_, hv, e⟩
      cases hc : a.eval x <;> (rw [hc] at hv; cases hv)
      simp [execOp, hc]
    · rename_i f fv cap
      refine ⟨.func f fv cap, a.eval x, ?_, hv, e⟩
      cases hc : a.eval x <;> (rw [hc] at hv; cases hv)
      simp [execOp, hc]
    · cases e
  case binOp op ty2 x y n =>
    cases hn : isNilC y with
    | false =>
      have e : Bool.rec (motive := fun _ => OpF) (o2 d nt (fun x => binA P x op ty2) x y) (o1 d nt (nilCmp P op ty2) x) (isNilC y) t h nx k = true := e
      rw [hn] at e
      obtain ⟨v, hv, e⟩ := evD_ok ht (show evD d nt x t (fun v => evD d nt y t fun u => binA P v op ty2 u h nx k) = true from e)
      obtain ⟨u, hu, e⟩ := evD_ok ht e
      exact (binA_ok hr hv hu e).value
    | true =>
      have e1 : Bool.rec (motive := fun _ => OpF) (o2 d nt (fun x => binA P x op ty2) x y) (o1 d nt (nilCmp P op ty2) x) (isNilC y) t h nx k = true := e
      clear e
      rw [hn] at e1
      obtain ⟨v, hv, e2⟩ := evD_ok ht (show evD d nt x t (fun v => nilCmp P op ty2 v h nx k) = true from e1)
      clear e1
      have hy : y = .const .nilIface := by
        unfold isNilC at hn
        split at hn
        · rfl
        · cases hn
      subst hy
      exact (nilCmp_ok hr hv e2).value
  case unOp op ty2 x =>
    obtain ⟨v, hv, e⟩ := evD_ok ht e
    exact (unA_ok hr hv e).value
  case convert src dst2 x =>
    obtain ⟨v, hv, e⟩ := evD_ok ht e
    exact (convA_ok hr hv e).value
  case makeInterface ty2 x =>
    obtain ⟨v, hv, e⟩ := evD_ok ht e
    exact (ifaceA_ok hr hv e).value
  case makeFunc f x y =>
    obtain ⟨v, hv, e⟩ := evList_ok ht e
    obtain ⟨u, hu, e⟩ := evList_ok ht e
    cases f with
    | func g =>
      refine ⟨.func g v u, .func (.func g) (x.map a.eval) (y.map a.eval), by simp [execOp, Instr.makeFunc], ?_, e⟩
      have := VRel.func (β := β) g v u _ _ hv.1 hv.2 hu.1 hu.2
      have e1 : (x.toList.map a.eval).toArray = x.map a.eval := by rw [← Array.toList_map, Array.toArray_toList]
      have e2 : (y.toList.map a.eval).toArray = y.map a.eval := by rw [← Array.toList_map, Array.toArray_toList]
      rw [e1, e2] at this
      exact this
    | _ => cases e
  case slice ty2 x lo hi mx =>
    obtain ⟨v, hv, e⟩ := evD_ok ht e
    obtain ⟨l, hl, e⟩ := evOpt_ok ht e
    obtain ⟨r, hh, e⟩ := evOpt_ok ht e
    obtain ⟨m, hm, e⟩ := evOpt_ok ht e
    exact (sliceA_ok hr hv hl hh hm e).value
  case fieldAddr ty2 x f =>
    obtain ⟨v, hv, e⟩ := evD_ok ht e
    exact (fieldAddrA_ok hr hv e).value
  case field ty2 x f =>
    obtain ⟨v, hv, e⟩ := evD_ok ht e
    exact (fieldA_ok hr hv e).value
  case indexAddr ty2 x i =>
    obtain ⟨v, hv, e⟩ := evD_ok ht e
    obtain ⟨u, hu, e⟩ := evD_ok ht e
    exact (indexAddrA_ok hr hv hu e).value
  case index ty2 x i =>
    obtain ⟨v, hv, e⟩ := evD_ok ht e
    obtain ⟨u, hu, e⟩ := evD_ok ht e
    exact (indexA_ok hr hv hu e).value
  case lookup ty2 x i ok =>
    obtain ⟨v, hv, e⟩ := evD_ok ht e
    obtain ⟨u, hu, e⟩ := evD_ok ht e
    exact (lookupA_ok hr hv hu e).value
  case extract x i =>
    obtain ⟨v, hv, e⟩ := evD_ok ht e
    exact (extractA_ok hr hv e).value

theorem opDen_ok {o : Oper} (hr : HRel β h nx w) (ht : TRel β d nt t a.tmps) (e : opDen P d nt o.op t h nx k = true) :
    OpOK P (execOp a.eval o) β h nx w k := by
  cases hq : isQuiet o.op with
  | true => exact (opDen_q hq hr ht e).ok hr
  | false =>
    obtain ⟨dst, op, ty, pos, after, g⟩ := o
    cases op <;> first | (cases e; done) | (cases hq; done) | skip
    case alloc ty2 => exact (alloc_ok (d := d) (nt := nt) (t := t) hr e).value
    case box ty2 x =>
      obtain ⟨v, hv, e⟩ := evD_ok ht e
      exact (box_ok hr hv e).value
    case buildSlice ty2 n ps =>
      obtain ⟨qs, h1, h2, e⟩ := evParts_ok ht (show evParts d nt ps.toList t (fun ps => buildSliceA P ty2 n ps h nx k) = true from e)
      have g1 : qs.map (·.1) = (ps.map fun (i, x) => (i, a.eval x)).toList.map (·.1) := by rw [h1]; simp [Function.comp_def]
      have g2 : LRel β (qs.map (·.2)) ((ps.map fun (i, x) => (i, a.eval x)).toList.map (·.2)) := by simpa [Function.comp_def] using h2
      have q := buildSliceA_ok (P := P) (t := ty2) (len := n) (ps := qs) (ps' := ps.map fun (i, x) => (i, a.eval x)) (k := k) hr g1 g2 e
      exact q.value
    case store ty2 x v =>
      obtain ⟨u, hu, e⟩ := evD_ok ht (show evD d nt v t (fun u => evD d nt x t fun p => storeA P ty2 u p h nx k) = true from e)
      obtain ⟨p, hp, e⟩ := evD_ok ht e
      have q := storeA_ok hr hp hu e
      exact unit_ok q
    case typeAssert x xt ty2 ok =>
      obtain ⟨v, hv, e⟩ := evD_ok ht (show evD d nt x t (fun v => assertA P ty2 ok v h nx k) = true from e)
      exact ((assertA_ok hr hv e).ok hr).value
    case makeMap ty2 r =>
      cases r with
      | none => exact (makeMap_ok (t := t) hr e).value
      | some r => cases e
    case makeSlice ty2 l c =>
      obtain ⟨u, hu, e⟩ := evD_ok ht (show evD d nt l t (fun u => evD d nt c t fun p => makeSliceA P ty2 u p h nx k) = true from e)
      obtain ⟨p, hp, e⟩ := evD_ok ht e
      exact (makeSliceA_ok hr hu hp e).value
    case mapUpdate ty2 m x v =>
      obtain ⟨u, hu, e⟩ := evD_ok ht (show evD d nt x t (fun u => evD d nt v t fun p => evD d nt m t fun q => updateA P ty2 u p q h nx k) = true from e)
      obtain ⟨p, hp, e⟩ := evD_ok ht e
      obtain ⟨q, hq, e⟩ := evD_ok ht e
      have q := updateA_ok hr hu hp hq e
      exact unit_ok q
end
end Am
