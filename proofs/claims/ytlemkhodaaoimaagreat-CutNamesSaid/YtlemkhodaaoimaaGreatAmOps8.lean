/- Appends, the other builtins, conversions: sound. -/
import Derived.Test.YtlemkhodaaoimaaGreatAmOps7
set_option linter.unusedVariables false
set_option linter.unusedSimpArgs false
noncomputable section
namespace Am
open Go
variable {P : Program} {β : Beta} {h : HP} {nx : Nat} {w : World} {k : KV}

theorem Step.drew {β' : Beta} {h' : HP} {nx' : Nat} {w' : World} (s : Step β h nx w.drew β' h' nx' w') : Step β h nx w β' h' nx' w' := (Step.same (w := w) (w' := w.drew) rfl).trans s

/-- in a block of the model's: what a list stored at a place leaves -/
theorem splice_cells {cs : Array Value} {o j : Nat} {news : List Value} (ho : o + news.length ≤ cs.size) :
    (cs.toList.take o ++ news ++ cs.toList.drop (o + news.length)).toArray[j]? = if o ≤ j ∧ j < o + news.length then news[j - o]? else cs[j]? := by
  rw [List.getElem?_toArray, getElem_splice (by simpa using ho)]
  simp

/-- beyond the known capacity: the three ways -/
theorem appOut_gen {t u el el2 ty : TypeId} {ts : Array TypeId} {x' : Value} {i : TypeInfo} {z : Value} {es b off len mc cap n : Nat} {bi : BI} {xs L : List AV} {xs' : List Value} {kk : Nat → HP → Nat → Bool} {d dd : Nat} {tt t' : TM} {m : Nat}
    (ht : ts[0]? = some t) (hu : ts[1]? = some u)
    (h1 : P.underlying t = some (.slice el)) (h2 : P.underlying u = some (.slice el2)) (hs : sizeT P el = some es) (hi : P.info? el = some i) (hb : i.bytes ≤ 2 ^ 16) (hz : ∀ W : World, (zeroValue el).run P W = .ok z W) (hzs : z.cells.size = es)
    (hr : HRel β h nx w) (hbi : β b = some bi) (ho : hget h b = .cells d tt m) (hc : CRel β d tt m bi w) (hmc : mc ≤ cap) (hcap : bi.base + off + cap * es ≤ bi.sz) (hes : es ≠ 0) (hfun : (bi.op = false → cap = mc) ∧ (bi.op = true → es ≠ 0 ∧ bi.base + off + cap * es = bi.sz))
    (hxl : LRel β xs xs') (hx1' : ∀ v ∈ xs', v.oneCell' = true) (hxlen : xs.length = n * es) (hx : ∀ W : World, W.heap = w.heap → (Builtin.lenOf x').run P W = .ok n W ∧ (Builtin.firstCells es n x').run P W = .ok xs'.toArray W)
    (hroom : ¬ len + n ≤ mc) (hold : off + len * es ≤ m) (hlim : len + n ≤ 2 ^ 24) (hL : L = getMany d tt (len * es) off ++ xs)
    (hdd : (len + n) * es ≤ 2 ^ dd) (hg : ∀ (j : Nat) a, L[j]? = some a → Tr.get dd t' j = a) (hn : nx < 2 ^ DH)
    (e : k (.slice nx 0 (len + n) (len + n) es) (Tr.set DH (Tr.set DH h b .dead) nx (.cells dd t' ((len + n) * es))) (nx + 1) = true) :
    SemOK P (Builtin.append_ ts ty #[.slice (some ⟨bi.blk, bi.base + off, none⟩) len cap, x']) β h nx w k := by
  obtain ⟨olds, o1, o2, o3⟩ := hc.many (len * es) off hold
  have hol : olds.length = len * es := by rw [← o1.1, length_getMany]
  have hxl2 : xs'.length = n * es := by rw [← hxl.1, hxlen]
  have hLr : LRel β L (olds ++ xs') := by rw [hL]; exact o1.append hxl
  have hLlen : L.length = (len + n) * es := by rw [hL]; simp [hxlen, Nat.add_mul]
  have hone : ∀ v ∈ olds ++ xs', v.oneCell' = true := fun v hv => by
    rcases List.mem_append.1 hv with h | h
    · exact o2 v h
    · exact hx1' v h
  have hmul : (len + n) * es = len * es + n * es := Nat.add_mul ..
  by_cases hr2 : len + n ≤ cap
  · -- there is room: in place
    have hce : (len + n) * es ≤ cap * es := Nat.mul_le_mul_right _ hr2
    obtain ⟨cs, e2, k1, k2, k3⟩ := hc.store (P := P) hxl hx1' (off + len * es) (by rw [hxlen]; omega)
    have hst : (storeCells ((⟨bi.blk, bi.base + off, none⟩ : Addr).add (len * es)) xs').run P w = .ok () (w.setRow bi.blk (cs.toList.take (bi.base + (off + len * es)) ++ xs' ++ cs.toList.drop (bi.base + (off + len * es) + xs'.length)).toArray) := by
      rw [addr_add, Nat.add_assoc]; exact k3
    have hrun := run_append_in (P := P) (ty := ty) (sCap := cap) ht hu h1 h2 hs (hx w rfl).1 (hx w rfl).2 hr2 hst
    have hfit : bi.base + (off + len * es) + xs'.length ≤ cs.size := by rw [hxl2, k2]; omega
    have hcr : CRel (bput β nx ⟨bi.blk, bi.base + off, bi.sz, true⟩) dd t' L.length ⟨bi.blk, bi.base + off, bi.sz, true⟩ (w.setRow bi.blk (cs.toList.take (bi.base + (off + len * es)) ++ xs' ++ cs.toList.drop (bi.base + (off + len * es) + xs'.length)).toArray) := by
      refine CRel.of_list (hLr.ext (bput_ext hr.none_at)) hone (by rw [hLlen]; exact hdd) hg (setRow_heap w bi.blk cs _ e2 (0, 0) k1) (by simp only [List.size_toArray, List.length_append, List.length_take, List.length_drop, Array.length_toList]; omega) (by rw [hLlen]; simp only; omega) (fun j v hv => ?_)
      simp only
      rw [splice_cells hfit]
      by_cases hj : j < len * es
      · rw [if_neg (by omega)]
        rw [List.getElem?_append_left (by omega)] at hv
        have := o3 j v hv
        rw [addr_add] at this
        simp only [World.cell?, k1] at this
        simpa [Nat.add_assoc] using this
      · rw [List.getElem?_append_right (by omega)] at hv
        have hjl := (List.getElem?_eq_some_iff.1 hv).1
        rw [if_pos (by omega), ← hv]
        congr 1; omega
    rw [hLlen] at hcr
    obtain ⟨hr3, hst3⟩ := hr.move hn hbi (by rw [ho]; rfl) (.cells dd t' ((len + n) * es)) (bi.base + off) (size_setRow ..) (fun x hx => heap_setRow_other _ _ _ _ hx) (frozen_setRow _ _ _ _ _ k1) hcr
    have hopen : bi.base + off + 0 + cap * es = bi.sz := by
      cases ho2 : bi.op with
      | false => have := hfun.1 ho2; omega
      | true => have := (hfun.2 ho2).2; omega
    have hbn : bput β nx ⟨bi.blk, bi.base + off, bi.sz, true⟩ nx = some ⟨bi.blk, bi.base + off, bi.sz, true⟩ := by simp [bput]
    exact ⟨_, _, hrun, _, _, _, _, hr3, hst3, VRel.slice nx 0 (len + n) (len + n) es cap ⟨bi.blk, bi.base + off, bi.sz, true⟩ hbn hr2 (show bi.base + off + 0 + cap * es ≤ bi.sz by omega) ⟨fun hx => (by cases hx), fun _ => ⟨hes, hopen⟩⟩, e⟩
  · -- there is none: a new array
    have hfc : ∀ W : World, W.heap = w.heap → (Builtin.firstCells es len (.slice (some ⟨bi.blk, bi.base + off, none⟩) len cap)).run P W = .ok olds.toArray W := fun W hW => by
      have := run_loadCells_list (P := P) W ⟨bi.blk, bi.base + off, none⟩ olds (fun j v hv => by
        have := o3 j v hv
        simpa [World.cell?, hW] using this)
      rw [hol] at this
      exact this
    obtain ⟨newCap, c1, rest, c2, hrun⟩ := run_append_out (P := P) (ty := ty) (w := w) ht hu h1 h2 hs hi hb hz hzs (hx w rfl).1 (fun W hW => (hx W hW).2) hr2 hfc hlim
    have hrw : HRel β h nx w.drew := HRel.same (w := w) rfl hr
    obtain ⟨hra, hsa⟩ := hrw.turn hbi (by rw [ho]; rfl) .dead (.inr rfl) rfl (fun _ _ => rfl) (fun _ => rfl) trivial
    have hlt3 : bput β nx ⟨w.heap.size, 0, (olds ++ xs' ++ rest).length, true⟩ nx = some ⟨w.heap.size, 0, (olds ++ xs' ++ rest).length, true⟩ := by simp [bput]
    have hcr : CRel (bput β nx ⟨w.drew.heap.size, 0, (olds ++ xs' ++ rest).length, true⟩) dd t' L.length ⟨w.drew.heap.size, 0, (olds ++ xs' ++ rest).length, true⟩ (w.drew.alloc (.cells (olds ++ xs' ++ rest).toArray el (0, 0))) := by
      refine CRel.of_list (hLr.ext (bput_ext hr.none_at)) hone (by rw [hLlen]; exact hdd) hg (World.alloc_heap_new _ _) (by simp) (by rw [hLlen]; simp only [List.length_append, hol, hxl2]; omega) (fun j v hv => ?_)
      show (olds ++ xs' ++ rest).toArray[0 + j]? = some v
      rw [Nat.zero_add, List.getElem?_toArray, List.getElem?_append_left (List.getElem?_eq_some_iff.1 hv).1, hv]
    rw [hLlen] at hcr
    obtain ⟨hr3, hst3⟩ := hra.alloc hn (.cells dd t' ((len + n) * es)) (.cells (olds ++ xs' ++ rest).toArray el (0, 0)) (olds ++ xs' ++ rest).length (frozen_alloc _ _) hcr
    have hcz : newCap * es = (len + n) * es + (newCap - (len + n)) * es := by rw [← Nat.add_mul]; congr 1; omega
    have hsz : (olds ++ xs' ++ rest).length = newCap * es := by simp only [List.length_append, hol, hxl2, c2]; omega
    have hbn : bput β nx ⟨w.drew.heap.size, 0, (olds ++ xs' ++ rest).length, true⟩ nx = some ⟨w.drew.heap.size, 0, (olds ++ xs' ++ rest).length, true⟩ := by simp [bput]
    exact ⟨_, _, hrun, _, _, _, _, hr3, (hsa.trans hst3).drew, VRel.slice nx 0 (len + n) (len + n) es newCap ⟨w.drew.heap.size, 0, (olds ++ xs' ++ rest).length, true⟩ hbn c1 (show 0 + 0 + newCap * es ≤ (olds ++ xs' ++ rest).length by omega) ⟨fun hx => (by cases hx), fun _ => ⟨hes, show 0 + 0 + newCap * es = (olds ++ xs' ++ rest).length by omega⟩⟩, e⟩

theorem appendA_ok {t u ty : TypeId} {ts : Array TypeId} {s x : AV} {s' x' : Value} (hr : HRel β h nx w) (hs' : VRel β s s') (hx' : VRel β x x') (ht : ts[0]? = some t) (hu : ts[1]? = some u)
    (e : appendA P t u s x h nx k = true) : SemOK P (Builtin.append_ ts ty #[s', x']) β h nx w k := by
  have e0 := e
  clear e
  obtain ⟨⟨es, zl⟩, hp, e1⟩ := opt_of e0
  cases hse : sliceElem P u with
  | none => rw [hse] at hp; cases hp
  | some p2 =>
    rw [hse] at hp
    have hp : sliceZero P t = some (es, zl) := hp
    obtain ⟨h2u, _⟩ := sliceElem_info (e := p2.1) (n := p2.2) hse
    obtain ⟨el, zv, i, h1, hs, hn, hi, hb, hzt, hzc, hzl, hzf⟩ := sliceZero_info hp
    obtain ⟨i2, z, q1, q2, q3⟩ := zeroT_info hzt
    have hz : ∀ W : World, (zeroValue el).run P W = .ok z W := fun W => by simp [zeroValue, run_typeInfoA q1, q2]
    have hzr : VRel β zv z := absV_ok q3
    have hzs : z.cells.size = es := by rw [← hzl, hzc, hzr.cells.1]; simp
    obtain ⟨xs, n, xs', hxl, hx1, hxlen0, hx, e2⟩ := elemsA_ok (P := P) hr hx' e1
    have hxlen : xs.length = n * es := hxlen0
    have e : appTo es s xs n h nx k = true := e2
    clear e0 e1 e2 hxlen0
    cases hs' <;> first | (exfalso; simp [appTo, bad1] at e; done) | skip
    case nilslice =>
      have e : (Bool.rec (motive := fun _ => Bool) (Bool.rec (motive := fun _ => Bool) false (newCells h nx xs fun b h nx => k (.slice b 0 n n es) h nx) (Nat.ble n (2 ^ 24))) (k .nilslice h nx) (Nat.beq n 0)) = true := e
      cases hn0 : Nat.beq n 0 with
      | true =>
        rw [hn0] at e
        have hn0 := Nat.eq_of_beq_eq_true hn0
        subst hn0
        exact .ret hr (run_append_nil (P := P) (ty := ty) ht hu h1 h2u hs (hx w rfl).1 (hx w rfl).2) .nilslice e
      | false =>
        rw [hn0] at e
        have hn1 : n ≠ 0 := fun h => by subst h; simp at hn0
        have hfc : ∀ W : World, W.heap = w.heap → (Builtin.firstCells es 0 (.slice none 0 0)).run P W = .ok ([] : List Value).toArray W := fun W _ => rfl
        obtain ⟨hlim, e⟩ := guard_of e
        have hlim : n ≤ 2 ^ 24 := Nat.le_of_ble_eq_true hlim
        · obtain ⟨newCap, c1, rest, c2, hrun⟩ := run_append_out (P := P) (ty := ty) (w := w) (base := none) (sLen := 0) (sCap := 0) ht hu h1 h2u hs hi hb hz hzs (hx w rfl).1 (fun W hW => (hx W hW).2) (by omega) hfc (by omega)
          have hrw : HRel β h nx w.drew := HRel.same (w := w) rfl hr
          obtain ⟨β', h', hr2, hst, hbn, e⟩ := newCells_ok true (kk := fun b h nx => k (.slice b 0 n n es) h nx) hrw hxl hx1 e rest el
          simp only [Nat.zero_add, List.nil_append] at hrun c1 c2
          have hcz : newCap * es = n * es + (newCap - n) * es := by rw [← Nat.add_mul]; congr 1; omega
          have hlz : (xs' ++ rest).length = newCap * es := by simp only [List.length_append, ← hxl.1, hxlen, c2]; omega
          refine ⟨_, _, hrun, β', _, h', _, hr2, hst.drew, VRel.slice nx 0 n n es newCap _ hbn c1 (show 0 + 0 + newCap * es ≤ (xs' ++ rest).length by omega) ⟨fun hx => (by cases hx), fun _ => ⟨by omega, show 0 + 0 + newCap * es = (xs' ++ rest).length by omega⟩⟩, e⟩
    case slice b off len mc es2 cap bi hbi hmc hcap hfun =>
      obtain ⟨hes, e3⟩ := guard_of (show (Bool.rec (motive := fun _ => Bool) false (appSl b off len mc es xs n h nx k) (Nat.beq es es2)) = true from e)
      clear e
      have hes := Nat.eq_of_beq_eq_true hes
      subst hes
      have e : Tr.getK DH h b (fun o => withWCells o fun d t m =>
        Bool.rec (Bool.rec (appOff d t m b off len es xs n h nx k) (appOut d t m b len es xs n h nx k) (Nat.beq off 0)) (appIn d t m b off len mc es xs n h nx k) (Nat.ble (len + n) mc)) = true := e3
      clear e3
      rw [Tr.getK_eq] at e
      obtain ⟨d, tt, m, ho, hc, e⟩ := withWCells_of hr hbi e
      have hmul : (len + n) * es = len * es + n * es := Nat.add_mul ..
      cases hle : Nat.ble (len + n) mc with
      | true =>
        rw [hle] at e
        have hle := Nat.le_of_ble_eq_true hle
        obtain ⟨hfit, e⟩ := guard_of (show (Bool.rec (motive := fun _ => Bool) false (storeL d xs tt (off + len * es) fun t => Tr.setK DH h b (.cells d t m) fun h => forceNat (len + n) fun l => k (.slice b off l mc es) h nx) (Nat.ble (off + (len + n) * es) m)) = true from e)
        have hfit := Nat.le_of_ble_eq_true hfit
        rw [storeL_eq, Tr.setK_eq, forceNat_eq] at e
        have hcx := hc.ex
        obtain ⟨_, _, _, _, hb4, _⟩ := hcx
        obtain ⟨cs, e2, k1, k2, k3⟩ := hc.store (P := P) hxl hx1 (off + len * es) (by rw [hxlen]; omega)
        have hst : (storeCells ((⟨bi.blk, bi.base + off, none⟩ : Addr).add (len * es)) xs').run P w = .ok () (w.setRow bi.blk (cs.toList.take (bi.base + (off + len * es)) ++ xs' ++ cs.toList.drop (bi.base + (off + len * es) + xs'.length)).toArray) := by
          rw [addr_add, Nat.add_assoc]; exact k3
        have hnd := hc.fit
        have hcr := hc.stored hxl hx1 (off + len * es) m (by rw [hxlen]; omega) k1 k2 hnd (by omega) (.inl (Nat.le_refl _)) (by omega) (by rw [hxlen]; omega)
        obtain ⟨hr2, hst2⟩ := hr.turn hbi (by rw [ho]; rfl) (.cells d (setMany d xs tt (off + len * es)) m) (.inl rfl) (size_setRow ..) (fun x hx => heap_setRow_other _ _ _ _ hx) (frozen_setRow _ _ _ _ _ k1) hcr
        exact ⟨_, _, run_append_in (P := P) (ty := ty) (sCap := cap) ht hu h1 h2u hs (hx w rfl).1 (hx w rfl).2 (by omega) hst, β, _, _, nx, hr2, hst2, VRel.slice b off (len + n) mc es cap bi hbi hmc hcap hfun, e⟩
      | false =>
        rw [hle] at e
        have hroom : ¬ len + n ≤ mc := fun h => by rw [Nat.ble_eq_true_of_le h] at hle; cases hle
        cases ho0 : Nat.beq off 0 with
        | true =>
          rw [ho0] at e
          have ho0 := Nat.eq_of_beq_eq_true ho0
          subst ho0
          obtain ⟨hg, e⟩ := guard_of e
          simp only [Bool.and_eq_true] at hg
          have g1 := Nat.le_of_ble_eq_true hg.1
          have g2 := Nat.le_of_ble_eq_true hg.2
          simp only [forceNat_eq, storeL_eq, Tr.setK_eq, allocK] at e
          obtain ⟨hlt, e⟩ := guard_of e
          have hlt : nx < 2 ^ DH := by simpa [Nat.blt_eq] using hlt
          have hd1 : (len + n) * es ≤ 2 ^ (Nat.max d (depthOf ((len + n) * es))) := Nat.le_trans (le_depthOf _) (Nat.pow_le_pow_right (by omega) (Nat.le_max_right ..))
          have hdmax : d ≤ Nat.max d (depthOf ((len + n) * es)) := Nat.le_max_left ..
          refine appOut_gen (kk := fun b h nx => k (.slice b 0 (len + n) (len + n) es) h nx) (L := getMany d tt (len * es) 0 ++ xs) ht hu h1 h2u hs hi hb hz hzs hr hbi ho hc hmc hcap (by omega) hfun hxl hx1 hxlen hx hroom (by simpa using g1) g2 rfl hd1 (fun j a hj => ?_) hlt e
          have hjl := (List.getElem?_eq_some_iff.1 hj).1
          simp only [List.length_append, length_getMany, hxlen] at hjl
          have hlen2 : len * es + xs.length ≤ 2 ^ (Nat.max d (depthOf ((len + n) * es))) := by rw [hxlen]; omega
          rw [get_setMany _ _ _ _ _ hlen2 (by omega)]
          by_cases hj2 : j < len * es
          · rw [if_neg (by omega)]
            rw [List.getElem?_append_left (by simpa using hj2), get_getMany _ _ _ _ _ hj2] at hj
            have hnd := hc.fit
            have hgg := get_growT d tt (Nat.max d (depthOf ((len + n) * es)) - d) j (by omega)
            rw [show d + (Nat.max d (depthOf ((len + n) * es)) - d) = Nat.max d (depthOf ((len + n) * es)) by omega] at hgg
            rw [hgg]
            simpa using hj
          · rw [if_pos (by omega)]
            rw [List.getElem?_append_right (by simpa using hj2)] at hj
            simp only [length_getMany] at hj
            rw [hj]; rfl
        | false =>
          rw [ho0] at e
          obtain ⟨hg, e⟩ := guard_of e
          simp only [Bool.and_eq_true] at hg
          have g1 := Nat.le_of_ble_eq_true hg.1
          have g2 := Nat.le_of_ble_eq_true hg.2
          simp only [loadL_eq, Tr.setK_eq, newCells, forceNat_eq, storeL_eq, allocK] at e
          obtain ⟨hlt, e⟩ := guard_of e
          have hlt : nx < 2 ^ DH := by simpa [Nat.blt_eq] using hlt
          have hLlen : (getMany d tt (len * es) off ++ xs).length = (len + n) * es := by simp [hxlen, hmul]
          rw [hLlen] at e
          have hd1 := le_depthOf ((len + n) * es)
          refine appOut_gen (kk := fun b h nx => k (.slice b 0 (len + n) (len + n) es) h nx) (L := getMany d tt (len * es) off ++ xs) ht hu h1 h2u hs hi hb hz hzs hr hbi ho hc hmc hcap (by omega) hfun hxl hx1 hxlen hx hroom g1 g2 rfl hd1 (fun j a hj => ?_) hlt e
          have hjl := (List.getElem?_eq_some_iff.1 hj).1
          rw [get_setMany _ _ _ _ _ (by rw [hLlen]; simpa using hd1) (by omega), if_pos (Nat.zero_le _)]
          simp only [Nat.sub_zero]
          rw [hj]; rfl
end Am
