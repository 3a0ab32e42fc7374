/- Operations on memory: sound. -/
import Derived.Test.YtlemkhodaaoimaaGreatAmOps2
import Derived.Laws.NewFold
set_option linter.unusedVariables false
set_option linter.unusedSimpArgs false
noncomputable section
namespace Am
open Go
variable {P : Program} {β : Beta} {h : HP} {nx : Nat} {w : World} {k : KV}

/-- the cells that a live block of either make has -/
theorem withCells_of {b : Nat} {i : BI} {f : Nat → TM → Nat → Bool} (hr : HRel β h nx w) (hi : β b = some i) (e : withCells (hget h b) f = true) :
    ∃ d t n, CRel β d t n i w ∧ f d t n = true := by
  have hb := (VRel.lt hr hi).1
  cases ho : hget h b with
  | dead => rw [ho] at e; cases e
  | map es => rw [ho] at e; cases e
  | loop => rw [ho] at e; cases e
  | cells d t n =>
    obtain ⟨j, h1, _, h2⟩ := hr.obj b hb (by rw [ho]; rfl)
    rw [hi] at h1; cases h1
    rw [ho] at e h2; exact ⟨d, t, n, h2, e⟩
  | rcells d t n =>
    obtain ⟨j, h1, _, h2⟩ := hr.obj b hb (by rw [ho]; rfl)
    rw [hi] at h1; cases h1
    rw [ho] at e h2; exact ⟨d, t, n, h2, e⟩
theorem withWCells_of {b : Nat} {i : BI} {f : Nat → TM → Nat → Bool} (hr : HRel β h nx w) (hi : β b = some i) (e : withWCells (hget h b) f = true) :
    ∃ d t n, hget h b = .cells d t n ∧ CRel β d t n i w ∧ f d t n = true := by
  have hb := (VRel.lt hr hi).1
  cases ho : hget h b with
  | dead => rw [ho] at e; cases e
  | map es => rw [ho] at e; cases e
  | loop => rw [ho] at e; cases e
  | rcells => rw [ho] at e; cases e
  | cells d t n =>
    obtain ⟨j, h1, _, h2⟩ := hr.obj b hb (by rw [ho]; rfl)
    rw [hi] at h1; cases h1
    rw [ho] at e h2; exact ⟨d, t, n, rfl, h2, e⟩
theorem withMap_of {b : Nat} {i : BI} {f : List (List Nat × AV) → Bool} (hr : HRel β h nx w) (hi : β b = some i) (e : withMap (hget h b) f = true) :
    ∃ es es' clock, hget h b = .map es ∧ w.heap[i.blk]? = some (.map es' clock) ∧ ERel β es es'.toList ∧ f es = true := by
  have hb := (VRel.lt hr hi).1
  cases ho : hget h b with
  | dead => rw [ho] at e; cases e
  | cells => rw [ho] at e; cases e
  | rcells => rw [ho] at e; cases e
  | loop => rw [ho] at e; cases e
  | map es =>
    obtain ⟨j, h1, _, h2⟩ := hr.obj b hb (by rw [ho]; rfl)
    rw [hi] at h1; cases h1
    rw [ho] at e h2
    obtain ⟨es', c, h3, h4⟩ := h2
    exact ⟨es, es', c, rfl, h3, h4, e⟩

theorem CRel.cell {d : Nat} {t : TM} {n : Nat} {i : BI} (hc : CRel β d t n i w) {j : Nat} (hj : j < n) :
    ∃ v, w.cell? ⟨i.blk, i.base + j, none⟩ = some v ∧ VRel β (Tr.get d t j) v ∧ v.oneCell' = true := by
  obtain ⟨cs, e, h1, h2, h3, h4⟩ := hc.ex
  obtain ⟨v, a, b, c⟩ := h4 j hj
  exact ⟨v, by simp [World.cell?, h1, a], b, c⟩
/-- cells read one behind another -/
theorem CRel.many {d : Nat} {t : TM} {n : Nat} {i : BI} (hc : CRel β d t n i w) (s off : Nat) (hs : off + s ≤ n) :
    ∃ vs : List Value, LRel β (getMany d t s off) vs ∧ (∀ v ∈ vs, v.oneCell' = true) ∧ ∀ (j : Nat) v, vs[j]? = some v → w.cell? ((⟨i.blk, i.base + off, none⟩ : Addr).add j) = some v := by
  induction s generalizing off with
  | zero => exact ⟨[], .nil β, fun v hv => by simp at hv, fun j v hv => by simp at hv⟩
  | succ s ih =>
    obtain ⟨v, h1, h2, h3⟩ := hc.cell (j := off) (by omega)
    obtain ⟨vs, h4, h5, h6⟩ := ih (off + 1) (by omega)
    refine ⟨v :: vs, .cons h2 h4, fun u hu => ?_, fun j u hu => ?_⟩
    · rcases List.mem_cons.1 hu with rfl | hu
      · exact h3
      · exact h5 u hu
    · cases j with
      | zero => simp at hu; subst hu; simpa [Addr.add] using h1
      | succ j =>
        have h7 := h6 j u (by simpa using hu)
        have h8 : (⟨i.blk, i.base + off, none⟩ : Addr).add (j + 1) = (⟨i.blk, i.base + (off + 1), none⟩ : Addr).add j := by
          unfold Addr.add
          rw [if_neg (by omega)]
          split
          · rename_i h0; subst h0; simp [Nat.add_assoc]
          · simp; omega
        rw [h8]; exact h7
theorem run_loadMany {d : Nat} {t : TM} {n : Nat} {i : BI} (hc : CRel β d t n i w) (s off : Nat) (hs : off + s ≤ n) :
    ∃ vs : List Value, LRel β (getMany d t s off) vs ∧ (∀ v ∈ vs, v.oneCell' = true) ∧ (loadCells ⟨i.blk, i.base + off, none⟩ s).run P w = .ok vs.toArray w := by
  obtain ⟨vs, h1, h2, h3⟩ := hc.many s off hs
  have hl : vs.length = s := by rw [← h1.1, length_getMany]
  refine ⟨vs, h1, h2, ?_⟩
  have := run_loadCells_list (P := P) w ⟨i.blk, i.base + off, none⟩ vs h3
  rwa [hl] at this

theorem loadA_ok {x : AV} {x' : Value} {t : TypeId} (hr : HRel β h nx w) (hx : VRel β x x') (e : loadA P t x h nx k = true) : SemQ P (Instr.loadAt t x') β h nx w k := by
  cases hx <;> first | (exfalso; simp [loadA, bad1] at e; done) | skip
  rename_i b off i hi
  have e : loadP (loadKind P t) b off h nx k = true := e
  cases hk : loadKind P t with
  | none => rw [hk] at e; cases e
  | some kd =>
    rw [hk] at e
    cases kd with
    | none =>
      have e : Tr.getK DH h b (fun o => withCells o fun d t n => Bool.rec false (Tr.getK d t off fun v => k v h nx) (Nat.blt off n)) = true := e
      rw [Tr.getK_eq] at e
      obtain ⟨d, tt, n, hc, e⟩ := withCells_of hr hi e
      obtain ⟨h1, e⟩ := guard_of e
      have h1 : off < n := by simpa [Nat.blt_eq] using h1
      rw [Tr.getK_eq] at e
      obtain ⟨v, h2, h3, _⟩ := hc.cell h1
      exact .ret hr (by simp [Instr.loadAt, Instr.sureAddr, loadVar, loadKind_one hk, h2]) h3 e
    | some s =>
      have e : Tr.getK DH h b (fun o => withCells o fun d t n => Bool.rec false (loadL d t s off fun l => k (.agg l) h nx) (Nat.ble (off + s) n)) = true := e
      rw [Tr.getK_eq] at e
      obtain ⟨d, tt, n, hc, e⟩ := withCells_of hr hi e
      obtain ⟨h1, e⟩ := guard_of e
      have h1 := Nat.le_of_ble_eq_true h1
      rw [loadL_eq] at e
      obtain ⟨ha, hs⟩ := loadKind_many (w := w) hk
      obtain ⟨vs, h2, h3, h4⟩ := run_loadMany (P := P) hc s off h1
      refine .ret (v := .agg (getMany d tt s off)) (v' := .agg vs.toArray) hr (by simp [Instr.loadAt, Instr.sureAddr, loadVar, ha, run_sizeA hs, h4]) (.agg _ _ h2.1 h2.2 fun j a hj => ?_) e
      have hj2 : j < vs.length := by rw [← h2.1]; exact (List.getElem?_eq_some_iff.1 hj).1
      have h5 := h2.2 j a vs[j] hj (List.getElem?_eq_getElem hj2)
      rw [h5.flat]; exact h3 _ (List.getElem_mem hj2)

theorem fieldOff_info {t : TypeId} {f off : Nat} (e : fieldOff P t f = some off) :
    ∃ (fs : Array Field) (x : Field) (n : Nat), P.underlying t = some (.struct fs) ∧ fs[f]? = some x ∧ sizeT P x.type = some (n + 1) ∧ x.offset = off := by
  unfold fieldOff at e
  split at e
  · rename_i fs h1
    split at e
    · rename_i x h2
      split at e
      · rename_i n h3; cases e; exact ⟨fs, x, n, h1, h2, h3, rfl⟩
      · cases e
    · cases e
  · cases e
theorem addr_add (b o n : Nat) : (⟨b, o, none⟩ : Addr).add n = ⟨b, o + n, none⟩ := by
  unfold Addr.add; split
  · rename_i h0; rw [h0]; rfl
  · rfl
theorem fieldAddrA_ok {x : AV} {x' : Value} {t : TypeId} {f : Nat} (hr : HRel β h nx w) (hx : VRel β x x') (e : fieldAddrA P t f x h nx k = true) : SemQ P (Instr.fieldAt t x' f) β h nx w k := by
  cases hx <;> first | (exfalso; simp [fieldAddrA, bad1] at e; done) | skip
  rename_i b off i hi
  obtain ⟨p, hp, e⟩ := opt_of (show (Option.rec (motive := fun _ => Bool) false (fun p => ptrK b (off + p) h nx k) (fieldOff P t f)) = true from e)
  obtain ⟨fs, x, n, h1, h2, h3, rfl⟩ := fieldOff_info hp
  refine .ret (v := .ptr b (off + x.offset)) hr ?_ (.ptr b (off + x.offset) i hi) e
  simp [Instr.fieldAt, run_underlying h1, h2, Instr.sureAddr, fieldPlace, run_sizeA h3, addr_add, Nat.add_assoc]

theorem indexAddrA_ok {x j : AV} {x' j' : Value} {t : TypeId} (hr : HRel β h nx w) (hx : VRel β x x') (hj : VRel β j j') (e : indexAddrA P t x j h nx k = true) : SemQ P (Instr.indexAt t x' j') β h nx w k := by
  cases hx <;> first | (exfalso; simp [indexAddrA, bad1] at e; done) | skip
  rename_i b off len mc es cap i hi _ _ _
  cases hj <;> first | (exfalso; simp [indexAddrA, idxSlice, bad1] at e; done) | skip
  rename_i kd n
  cases n with
  | negSucc m => exfalso; simp [indexAddrA, idxSlice, bad1] at e
  | ofNat n =>
    obtain ⟨⟨el, s⟩, hp, e⟩ := opt_of (show (Option.rec (motive := fun _ => Bool) false (fun p => Bool.rec false (ptrK b (off + n * p.2) h nx k) (Nat.blt n len)) (sliceElem P t)) = true from e)
    obtain ⟨h1, e⟩ := guard_of e
    have h1 : n < len := by simpa [Nat.blt_eq] using h1
    obtain ⟨hu, hs⟩ := sliceElem_info hp
    have h2 : (n : Int) < len := by omega
    refine .ret (v := .ptr b (off + n * s)) hr ?_ (.ptr b (off + n * s) i hi) e
    have h3 : ¬ len ≤ n := by omega
    simp [Instr.indexAt, asIntOf, run_underlying hu, h1, h3, run_sizeA hs, addr_add, Nat.add_assoc]

/-! ### writing -/
theorem heap_setRow_other (w : World) (g x : Nat) (cs : Array Value) (hx : x ≠ g) : (w.setRow g cs).heap[x]? = w.heap[x]? := by
  show (w.heap.modify g _)[x]? = _
  rw [Array.getElem?_modify, if_neg (fun e => hx e.symm)]
theorem size_setRow (w : World) (g : Nat) (cs : Array Value) : (w.setRow g cs).heap.size = w.heap.size := by
  show (w.heap.modify g _).size = _
  rw [Array.size_modify]
theorem frozen_setRow (w : World) (g : Nat) (old cs : Array Value) (e : TypeId) (hg : w.heap[g]? = some (.cells old e (0, 0))) (a : Addr) : (w.setRow g cs).frozen? a = w.frozen? a := by
  by_cases h : a.block = g
  · simp only [World.frozen?, h, setRow_heap w g old cs e (0, 0) hg, hg]
  · simp only [World.frozen?, heap_setRow_other w g a.block cs h]

/-- a list stored into a block's known cells (or behind them, as far as the model's block reaches) -/
theorem CRel.store {d : Nat} {t : TM} {n : Nat} {i : BI} (hc : CRel β d t n i w) {vs : List AV} {vs' : List Value} (hl : LRel β vs vs') (h1 : ∀ v ∈ vs', v.oneCell' = true) (off : Nat)
    (hfit : i.base + off + vs.length ≤ i.sz) :
    ∃ cs e, w.heap[i.blk]? = some (.cells cs e (0, 0)) ∧ cs.size = i.sz ∧
      (storeCells ⟨i.blk, i.base + off, none⟩ vs').run P w = .ok () (w.setRow i.blk (cs.toList.take (i.base + off) ++ vs' ++ cs.toList.drop (i.base + off + vs'.length)).toArray) := by
  obtain ⟨cs, e, h2, h3, h4, h5⟩ := hc.ex
  refine ⟨cs, e, h2, h3, ?_⟩
  have := run_storeCells_at P i.blk (i.base + off) e vs' 0 cs w h2 (by rw [← hl.1]; omega) h1
  simpa using this

theorem getElem_splice {l vs : List Value} {o j : Nat} (ho : o + vs.length ≤ l.length) :
    (l.take o ++ vs ++ l.drop (o + vs.length))[j]? = if o ≤ j ∧ j < o + vs.length then vs[j - o]? else l[j]? := by
  by_cases h1 : j < o
  · rw [if_neg (by omega), List.append_assoc, List.getElem?_append_left (by simp; omega), List.getElem?_take_of_lt h1]
  · by_cases h2 : j < o + vs.length
    · rw [if_pos ⟨by omega, h2⟩, List.append_assoc, List.getElem?_append_right (by simp; omega), List.getElem?_append_left (by simp; omega)]
      congr 1; simp; omega
    · rw [if_neg (by omega), List.getElem?_append_right (by simp; omega)]
      simp only [List.length_append, List.length_take, List.getElem?_drop]
      congr 1
      omega

/-- after the store the block's first n' cells are known -/
theorem CRel.stored {d : Nat} {t : TM} {n : Nat} {i : BI} (hc : CRel β d t n i w) {vs : List AV} {vs' : List Value} (hl : LRel β vs vs') (h1 : ∀ v ∈ vs', v.oneCell' = true) (off n' : Nat)
    (hfit : i.base + off + vs.length ≤ i.sz) {cs : Array Value} {e : TypeId} (h2 : w.heap[i.blk]? = some (.cells cs e (0, 0))) (h3 : cs.size = i.sz) (hn : n' ≤ 2 ^ d) (hoff : off ≤ n) (hn' : n' ≤ n ∨ n' ≤ off + vs.length) (hend : i.base + n' ≤ i.sz) (hd : off + vs.length ≤ 2 ^ d) :
    CRel β d (setMany d vs t off) n' i (w.setRow i.blk (cs.toList.take (i.base + off) ++ vs' ++ cs.toList.drop (i.base + off + vs'.length)).toArray) := by
  obtain ⟨cs2, e2, k2, k3, k4, k5⟩ := hc.ex
  rw [h2] at k2; cases k2
  have hlen : i.base + off + vs'.length ≤ cs.toList.length := by rw [← hl.1]; simp; omega
  refine ⟨hn, _, e, setRow_heap w i.blk cs _ e (0, 0) h2, ?_, hend, fun j hj => ?_⟩
  · rw [← h3]; simp at hlen ⊢; omega
  · have hj2 : j < 2 ^ d := by omega
    rw [get_setMany d vs t off j hd hj2]
    simp only [List.getElem?_toArray]
    rw [getElem_splice hlen]
    by_cases hin : off ≤ j ∧ j < off + vs.length
    · rw [if_pos (by rw [← hl.1]; omega), if_pos hin.1]
      have hx : vs[j - off]? = some (vs[j - off]'(by omega)) := List.getElem?_eq_getElem (by omega)
      obtain ⟨y, hy, hv⟩ := hl.get hx
      rw [hx]
      refine ⟨y, ?_, hv, h1 _ (List.mem_of_getElem? hy)⟩
      rw [← hy]; congr 1; omega
    · rw [if_neg (by rw [← hl.1]; omega)]
      have hjn : j < n := by omega
      obtain ⟨v, a, b, c⟩ := k5 j hjn
      refine ⟨v, by simpa using a, ?_, c⟩
      by_cases ho : off ≤ j
      · rw [if_pos ho, List.getElem?_eq_none (by omega)]; exact b
      · rw [if_neg ho]; exact b

theorem storeA_ok {x v : AV} {x' v' : Value} {t : TypeId} (hr : HRel β h nx w) (hx : VRel β x x') (hv : VRel β v v') (e : storeA P t v x h nx k = true) :
    ∃ w', (Instr.storeAt t x' v').run P w = .ok () w' ∧ OutV β h nx w k undef w' := by
  cases hx <;> first | (exfalso; simp [storeA, bad1] at e; done) | skip
  rename_i b off i hi
  obtain ⟨s, hs, e⟩ := opt_of (show (Option.rec (motive := fun _ => Bool) false (fun s => Tr.getK DH h b fun o => withWCells o fun d t n =>
    Bool.rec false (storeL d (cellsOf v) t off fun t => Tr.setK DH h b (.cells d t n) fun h => k undefA h nx) (Nat.beq (cellsOf v).length s && Nat.ble (off + (cellsOf v).length) n && allFlat (cellsOf v))) (sizeT P t)) = true from e)
  rw [Tr.getK_eq] at e
  obtain ⟨d, tt, n, ho, hc, e⟩ := withWCells_of hr hi e
  obtain ⟨h1, e⟩ := guard_of e
  rw [storeL_eq, Tr.setK_eq] at e
  simp only [Bool.and_eq_true] at h1
  obtain ⟨⟨h1, h2⟩, h3⟩ := h1
  have h1 := Nat.eq_of_beq_eq_true h1
  have h2 := Nat.le_of_ble_eq_true h2
  have hl := hv.cells
  have hone := hl.oneCell h3
  have hcx := hc.ex
  obtain ⟨_, _, _, _, hb4, _⟩ := hcx
  have hfit : i.base + off + (cellsOf v).length ≤ i.sz := by omega
  obtain ⟨cs, el, k1, k2, k3⟩ := hc.store (P := P) hl hone off hfit
  have hnd := hc.fit
  have hc2 := hc.stored hl hone off n hfit k1 k2 hnd (by omega) (.inl (Nat.le_refl _)) (by omega) (by omega)
  obtain ⟨hr2, hst⟩ := hr.turn hi (by rw [ho]; rfl) (.cells d (setMany d (cellsOf v) tt off) n) (.inl rfl) (size_setRow ..) (fun x hx => heap_setRow_other _ _ _ _ hx) (frozen_setRow _ _ _ _ _ k1) hc2
  refine ⟨_, ?_, β, undefA, _, nx, hr2, hst, .tuple [] [] rfl (fun j a v hh => by simp at hh), e⟩
  have hsz : v'.cells.size = s := by rw [← h1, hl.1]; simp
  simp [Instr.storeAt, Instr.sureAddr, storeVar, run_sizeA hs, hsz, k3]

/-! ### new blocks -/
theorem ORel_cells_new {op : Bool} (d : Nat) (vs : List AV) (vs' : List Value) (hl : LRel β vs vs') (h1 : ∀ v ∈ vs', v.oneCell' = true) (rest : List Value) (el : TypeId) (hd : vs.length ≤ 2 ^ d) (t : TM) :
    ORel β (.cells d (setMany d vs t 0) vs.length) ⟨w.heap.size, 0, (vs' ++ rest).length, op⟩ (w.alloc (.cells (vs' ++ rest).toArray el (0, 0))) := by
  refine ⟨hd, _, el, World.alloc_heap_new w _, by simp, by simp [hl.1], fun j hj => ?_⟩
  rw [get_setMany d vs t 0 j (by omega) (by omega), if_pos (Nat.zero_le _)]
  have hx : vs[j - 0]? = some (vs[j]'hj) := List.getElem?_eq_getElem hj
  obtain ⟨y, hy, hv⟩ := hl.get hx
  rw [hx]
  refine ⟨y, ?_, hv, h1 _ (List.mem_of_getElem? hy)⟩
  simp only [Nat.zero_add, List.getElem?_toArray]
  simp only [Nat.sub_zero] at hy
  rw [List.getElem?_append_left (by rw [← hl.1]; exact hj), hy]
theorem frozen_alloc (c : Array Value) (el : TypeId) (a : Addr) : (w.alloc (.cells c el (0, 0))).frozen? a = w.frozen? a := by
  by_cases h : a.block = w.heap.size
  · have e1 : (w.alloc (.cells c el (0, 0))).heap[a.block]? = some (.cells c el (0, 0)) := by rw [h]; exact World.alloc_heap_new w _
    have e2 : w.heap[a.block]? = none := by rw [h]; simp
    simp [World.frozen?, e1, e2]
  · exact World.frozen?_alloc_old _ _ _ h
theorem newCells_ok (op : Bool) {vs : List AV} {vs' : List Value} {kk : Nat → HP → Nat → Bool} (hr : HRel β h nx w) (hl : LRel β vs vs') (h1 : ∀ v ∈ vs', v.oneCell' = true) (e : newCells h nx vs kk = true) (rest : List Value) (el : TypeId) :
    ∃ β' h' , HRel β' h' (nx + 1) (w.alloc (.cells (vs' ++ rest).toArray el (0, 0))) ∧ Step β h nx w β' h' (nx + 1) (w.alloc (.cells (vs' ++ rest).toArray el (0, 0))) ∧
      β' nx = some ⟨w.heap.size, 0, (vs' ++ rest).length, op⟩ ∧ kk nx h' (nx + 1) = true := by
  have e : newCells h nx vs kk = true := e
  simp only [newCells, forceNat_eq, storeL_eq, allocK] at e
  obtain ⟨hlt, e⟩ := guard_of e
  rw [Tr.setK_eq] at e
  have hlt : nx < 2 ^ DH := by simpa [Nat.blt_eq] using hlt
  have hd := le_depthOf vs.length
  have hb := bput_ext (i := ⟨w.heap.size, 0, (vs' ++ rest).length, op⟩) hr.none_at
  have ho := ORel_cells_new (op := op) (β := bput β nx ⟨w.heap.size, 0, (vs' ++ rest).length, op⟩) (w := w) (depthOf vs.length) vs vs' (hl.ext hb) h1 rest el hd (.leaf undefA)
  obtain ⟨hr2, hst⟩ := hr.alloc hlt _ (.cells (vs' ++ rest).toArray el (0, 0)) (vs' ++ rest).length (frozen_alloc _ _) ho
  exact ⟨_, _, hr2, hst, by simp [bput], e⟩

theorem newPtr_ok {vs : List AV} {v' : Value} {el : TypeId} (hr : HRel β h nx w) (hl : LRel β vs v'.cells.toList) (e : newPtr vs h nx k = true) :
    ∃ w', (newVar el v').run P w = .ok ⟨w.heap.size, 0, none⟩ w' ∧ OutV β h nx w k (.pointer (some ⟨w.heap.size, 0, none⟩)) w' := by
  obtain ⟨h1, e⟩ := guard_of e
  obtain ⟨β', h', hr2, hst, hb, e⟩ := newCells_ok false (kk := fun b h nx => k (.ptr b 0) h nx) hr hl (hl.oneCell h1) e [] el
  rw [List.append_nil, Array.toArray_toList] at hr2 hst
  refine ⟨_, by simp [newVar, newRow], β', .ptr nx 0, h', nx + 1, hr2, hst, ?_, e⟩
  exact VRel.ptr nx 0 _ hb
end Am
