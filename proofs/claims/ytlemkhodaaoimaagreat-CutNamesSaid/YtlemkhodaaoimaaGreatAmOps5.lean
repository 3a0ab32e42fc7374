/- New slices, maps, lengths, conversions: sound. -/
import Derived.Test.YtlemkhodaaoimaaGreatAmOps4
import Derived.IntWalk
import Derived.MapKept
import Derived.Laws.Append
set_option linter.unusedVariables false
set_option linter.unusedSimpArgs false
noncomputable section
namespace Am
open Go
variable {P : Program} {β : Beta} {h : HP} {nx : Nat} {w : World} {k : KV}

theorem alloc_ok {ty : TypeId} (hr : HRel β h nx w) {d nt : Nat} {t : TM} (e : oAlloc P ty t h nx k = true) : SemOK P (Instr.alloc ty true (.tuple #[])) β h nx w k := by
  obtain ⟨z, hz, e⟩ := opt_of (show (Option.rec (motive := fun _ => Bool) false (fun z => newPtr z h nx k) (zeroCells P ty)) = true from e)
  obtain ⟨zv, n, h1, h2, rfl, h3, h4⟩ := zeroCells_info hz
  obtain ⟨v, hv, hrel⟩ := run_zeroA (w := w) h1
  obtain ⟨w', hw, ho⟩ := newPtr_ok (P := P) (el := ty) hr hrel.cells e
  exact ⟨_, w', by simp [Instr.alloc, hv, hw], ho⟩
theorem box_ok {ty : TypeId} {v : AV} {v' : Value} (hr : HRel β h nx w) (hv : VRel β v v') (e : newPtr (cellsOf v) h nx k = true) : SemOK P (Instr.box ty v') β h nx w k := by
  obtain ⟨w', hw, ho⟩ := newPtr_ok (P := P) (el := ty) hr hv.cells e
  exact ⟨_, w', by simp [Instr.box, hw], ho⟩

theorem allFlat_rep {z : List AV} (hz : allFlat z = true) (m : Nat) : allFlat (rep m z) = true := by
  induction m with
  | zero => rfl
  | succ m ih => exact allFlat_append.2 ⟨hz, ih⟩

theorem buildSliceA_ok {t : TypeId} {len : Nat} {ps : List (Nat × AV)} {ps' : Array (Nat × Value)} (hr : HRel β h nx w) (h1 : ps.map (·.1) = ps'.toList.map (·.1)) (h2 : LRel β (ps.map (·.2)) (ps'.toList.map (·.2)))
    (e : buildSliceA P t len ps h nx k = true) : SemOK P (Instr.buildSlice t len ps') β h nx w k := by
  obtain ⟨⟨n, z⟩, hz, e⟩ := opt_of e
  obtain ⟨hlim, e⟩ := guard_of e
  have hlim : len * n ≤ 2 ^ 24 := Nat.le_of_ble_eq_true hlim
  obtain ⟨el, zv, i, hu, hs, hn, hi, hb, hzt, hzc, hzl, hzf⟩ := sliceZero_info hz
  obtain ⟨v, hv, hrel⟩ := run_zeroA (β := β) (w := w) hzt
  obtain ⟨cs, hf, e⟩ := opt_of e
  rw [forceList_eq] at e
  have hvsz : v.cells.size = n := by rw [← hzl, hzc, hrel.cells.1]; simp
  have hzero : ∃ zz : Array Value, ((len * n = 0 ∧ zz = #[]) ∨ (¬ len * n = 0 ∧ zz = v.cells)) ∧
      ((Array.range (len * n)).map (zz[· % zz.size]!)).toList = (List.replicate len v.cells.toList).flatten := by
    by_cases h0 : len * n = 0
    · refine ⟨#[], .inl ⟨h0, rfl⟩, ?_⟩
      have : len = 0 := by rcases Nat.mul_eq_zero.1 h0 with h | h <;> omega
      subst this; simp
    · exact ⟨v.cells, .inr ⟨h0, rfl⟩, zeros_eq v.cells len n hvsz hn⟩
  obtain ⟨zz, hzz, hzeros⟩ := hzero
  have hlr : LRel β (rep len z) ((Array.range (len * n)).map (zz[· % zz.size]!)).toList := by
    rw [hzeros, hzc]; exact hrel.cells.rep len
  have hzfl := allFlat_rep hzf len
  obtain ⟨cells', g1, g2, g3⟩ := fill_ok (place := fun i => some (i * n, n)) (fun i p hp => hp) h1 h2 hlr hzfl hf
  obtain ⟨β', h', hr2, hst, hbn, e⟩ := newCells_ok false (kk := fun b h nx => k (.slice b 0 len len n) h nx) hr g2 (g2.oneCell g3) e [] el
  rw [List.append_nil, Array.toArray_toList] at hr2 hst
  rw [List.append_nil] at hbn
  have hlen : cells'.toList.length = len * n := by
    rw [← g2.1]
    have : ∀ {ps : List (Nat × AV)} {zs cs : List AV}, fillA (fun i => some (i * n, n)) ps zs = some cs → cs.length = zs.length := by
      intro ps
      induction ps with
      | nil => intro zs cs e; cases e; rfl
      | cons p ps ih =>
        intro zs cs e
        simp only [fillA] at e
        cases hc : (Nat.beq (cellsOf p.2).length n && Nat.ble (p.1 * n + n) zs.length && allFlat (cellsOf p.2)) with
        | false => rw [hc] at e; cases e
        | true =>
          rw [hc] at e
          simp only [cond_true] at e
          simp only [Bool.and_eq_true] at hc
          have c1 := Nat.eq_of_beq_eq_true hc.1.1
          have c2 := Nat.le_of_ble_eq_true hc.1.2
          rw [ih e]; simp; omega
    rw [this hf, hlr.1]; simp
  refine ⟨_, _, ?_, β', .slice nx 0 len len n, h', nx + 1, hr2, hst, VRel.slice nx 0 len len n len _ hbn (Nat.le_refl _) (by simp only; omega) ⟨fun _ => rfl, fun h => by cases h⟩, e⟩
  have hno : ¬ len * n > 2 ^ 24 := by omega
  have hnr : (newRow el cells').run P w = .ok ⟨w.heap.size, 0, none⟩ (w.alloc (.cells cells' el)) := by simp [newRow]
  rcases hzz with ⟨h0, rfl⟩ | ⟨h0, rfl⟩
  · simp only [Instr.buildSlice, Sem.run_bind, run_underlying hu, Result.andThen_ok, run_sizeA hs, Sem.run_ite, if_neg hno, if_pos h0, Sem.run_pure, g1, hnr, Nat.zero_add]
  · simp only [Instr.buildSlice, Sem.run_bind, run_underlying hu, Result.andThen_ok, run_sizeA hs, Sem.run_ite, if_neg hno, if_neg h0, hv, Sem.run_pure, g1, hnr, Nat.zero_add]

theorem makeMap_ok (hr : HRel β h nx w) {ty : TypeId} {t : TM} (e : oMakeMap t h nx k = true) : SemOK P (Instr.makeMap ty none) β h nx w k := by
  have e : allocK h nx (.map []) (fun b h nx => k (.map b) h nx) = true := e
  simp only [allocK, forceNat_eq] at e
  obtain ⟨hlt, e⟩ := guard_of e
  rw [Tr.setK_eq] at e
  have hlt : nx < 2 ^ DH := by simpa [Nat.blt_eq] using hlt
  obtain ⟨hr2, hst⟩ := hr.alloc (op := false) hlt (.map []) (.map #[] 0) 0 (fun a => by
      by_cases ha : a.block = w.heap.size
      · have e1 : (w.alloc (.map #[] 0)).heap[a.block]? = some (.map #[] 0) := by rw [ha]; exact World.alloc_heap_new w _
        have e2 : w.heap[a.block]? = none := by rw [ha]; simp
        simp [World.frozen?, e1, e2]
      · exact World.frozen?_alloc_old _ _ _ ha) ⟨#[], 0, World.alloc_heap_new w _, .nil⟩
  refine ⟨.map (some w.heap.size), _, by simp [Instr.makeMap], _, .map nx, _, _, hr2, hst, VRel.map nx ⟨w.heap.size, 0, 0, false⟩ (by simp [bput]), e⟩

theorem wrap_small {n : Nat} (hn : n < 2 ^ 62) : IntKind.i64.wrap (n : Int) = n := IntWalk.i64_in _ (by omega)
theorem makeSliceA_ok {t : TypeId} {l c : AV} {l' c' : Value} (hr : HRel β h nx w) (hl : VRel β l l') (hc : VRel β c c') (e : makeSliceA P t l c h nx k = true) : SemOK P (Instr.makeSlice t l' c') β h nx w k := by
  cases hl <;> first | (exfalso; simp [makeSliceA, bad1] at e; done) | skip
  rename_i kd a
  cases a with
  | negSucc m => exfalso; simp [makeSliceA, bad1] at e
  | ofNat a =>
    have e0 : makeInt P t a c h nx k = true := e
    clear e
    cases hc <;> first | (exfalso; simp [makeInt] at e0; done) | skip
    rename_i kd' b
    cases b with
    | negSucc m => exfalso; simp [makeInt] at e0
    | ofNat b =>
      obtain ⟨⟨n, z⟩, hz, e⟩ := opt_of (show (Option.rec (motive := fun _ => Bool) false (fun p => makeSl a b p h nx k) (sliceZero P t)) = true from e0)
      obtain ⟨el, zv, i, hu, hs, hn, hi, hb, hzt, hzc, hzl, hzf⟩ := sliceZero_info hz
      obtain ⟨v, hv, hrel⟩ := run_zeroA (β := β) (w := w) hzt
      obtain ⟨hlim, e⟩ := guard_of e
      simp only [Bool.and_eq_true] at hlim
      have hab := Nat.le_of_ble_eq_true hlim.1
      have hb30 : b < 2 ^ 30 := by simpa [Nat.blt_eq] using hlim.2
      have hvsz : v.cells.size = n := by rw [← hzl, hzc, hrel.cells.1]; simp
      have hzero : ∃ zz : Array Value, ((b * n = 0 ∧ zz = #[]) ∨ (¬ b * n = 0 ∧ zz = v.cells)) ∧
          ((Array.range (b * n)).map (zz[· % zz.size]!)).toList = (List.replicate b v.cells.toList).flatten := by
        by_cases h0 : b * n = 0
        · refine ⟨#[], .inl ⟨h0, rfl⟩, ?_⟩
          have : b = 0 := by rcases Nat.mul_eq_zero.1 h0 with h | h <;> omega
          subst this; simp
        · exact ⟨v.cells, .inr ⟨h0, rfl⟩, zeros_eq v.cells b n hvsz hn⟩
      obtain ⟨zz, hzz, hzeros⟩ := hzero
      have hlr : LRel β (rep b z) ((Array.range (b * n)).map (zz[· % zz.size]!)).toList := by
        rw [hzeros, hzc]; exact hrel.cells.rep b
      have hzfl := allFlat_rep hzf
      obtain ⟨β', h', hr2, hst, hbn, e⟩ := newCells_ok false (kk := fun x h nx => k (.slice x 0 a b n) h nx) hr hlr (hlr.oneCell (hzfl b)) e [] el
      rw [List.append_nil, Array.toArray_toList] at hr2 hst
      rw [List.append_nil] at hbn
      refine ⟨_, _, ?_, β', .slice nx 0 a b n, h', nx + 1, hr2, hst, VRel.slice nx 0 a b n b _ hbn (Nat.le_refl _) (by simp) ⟨fun _ => rfl, fun h => by cases h⟩, e⟩
      have w1 : IntKind.i64.wrap ((a : Nat) : Int) = a := wrap_small (by omega)
      have w2 : IntKind.i64.wrap ((b : Nat) : Int) = b := wrap_small (by omega)
      have hbb : (i.bytes : Int) * (b : Int) ≤ 281474976710656 := by
        have : i.bytes * b ≤ 2 ^ 16 * 2 ^ 30 := Nat.mul_le_mul hb (by omega)
        have h2 : ((i.bytes * b : Nat) : Int) ≤ ((2 ^ 16 * 2 ^ 30 : Nat) : Int) := by exact_mod_cast this
        have h3 : ((i.bytes * b : Nat) : Int) = (i.bytes : Int) * b := by push_cast; rfl
        rw [h3] at h2
        omega
      have c1 : ¬ ((b : Int) < 0) := by omega
      have c2 : ¬ (281474976710656 < (i.bytes : Int) * (b : Int)) := by omega
      have c3 : ¬ ((a : Int) < 0) := by omega
      have c4 : ¬ ((b : Int) < (a : Int)) := by omega
      have hnr : ∀ cc : Array Value, (newRow el cc).run P w = .ok ⟨w.heap.size, 0, none⟩ (w.alloc (.cells cc el)) := fun cc => by simp [newRow]
      rcases hzz with ⟨h0, rfl⟩ | ⟨h0, rfl⟩
      · have h0' : b = 0 ∨ n = 0 := Nat.mul_eq_zero.1 h0
        simp [Instr.makeSlice, run_underlying hu, asInt, asIntOf, run_typeInfoA hi, w1, w2, c1, c2, c3, c4, run_sizeA hs, h0', hnr]
        exact fun hx => absurd h0 hx
      · have h0' : ¬ (b = 0 ∨ n = 0) := fun h => h0 (Nat.mul_eq_zero.2 h)
        simp [Instr.makeSlice, run_underlying hu, asInt, asIntOf, run_typeInfoA hi, w1, w2, c1, c2, c3, c4, run_sizeA hs, h0', hnr, hv]
        exact fun hx => absurd hx h0
end Am
