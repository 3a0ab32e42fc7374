/- Appends, lengths, conversions: sound. -/
import Derived.Test.YtlemkhodaaoimaaGreatAmOps6
set_option linter.unusedVariables false
set_option linter.unusedSimpArgs false
noncomputable section
namespace Am
open Go
variable {P : Program} {β : Beta} {h : HP} {nx : Nat} {w : World} {k : KV}

theorem get_growT (d : Nat) (t : TM) (k j : Nat) (hj : j < 2 ^ d) : Tr.get (d + k) (growT k t) j = Tr.get d t j := by
  induction k with
  | zero => rfl
  | succ k ih =>
    show (bif bitAt j (d + k) then Tr.get (d + k) (.leaf undefA) j else Tr.get (d + k) (growT k t) j) = _
    have : bitAt j (d + k) = false := by
      rw [bitAt_eq]
      exact Nat.testBit_lt_two_pow (Nat.lt_of_lt_of_le hj (Nat.pow_le_pow_right (by omega) (by omega)))
    rw [this]; exact ih

/-- cells of a block that hold a list -/
theorem CRel.of_list {d : Nat} {t : TM} {i : BI} {L : List AV} {L' : List Value} (hl : LRel β L L') (h1 : ∀ v ∈ L', v.oneCell' = true) (hd : L.length ≤ 2 ^ d) (hg : ∀ (j : Nat) a, L[j]? = some a → Tr.get d t j = a)
    {cs : Array Value} {e : TypeId} (hw : w.heap[i.blk]? = some (.cells cs e (0, 0))) (hsz : cs.size = i.sz) (hend : i.base + L.length ≤ i.sz) (hc : ∀ (j : Nat) v, L'[j]? = some v → cs[i.base + j]? = some v) :
    CRel β d t L.length i w := by
  refine ⟨hd, cs, e, hw, hsz, hend, fun j hj => ?_⟩
  have hx : L[j]? = some L[j] := List.getElem?_eq_getElem hj
  obtain ⟨y, hy, hv⟩ := hl.get hx
  rw [hg j _ hx]
  exact ⟨y, hc j y hy, hv, h1 _ (List.mem_of_getElem? hy)⟩

theorem run_lenOf_slice (a : Option Addr) (n c : Nat) : (Builtin.lenOf (.slice a n c)).run P w = .ok n w := rfl

/-- what is appended: as cells -/
theorem elemsA_ok {es : Nat} {x : AV} {x' : Value} {f : List AV → Nat → Bool} (hr : HRel β h nx w) (hx : VRel β x x') (e : elemsA es x h f = true) :
    ∃ xs n xs', LRel β xs xs' ∧ (∀ v ∈ xs', v.oneCell' = true) ∧ xs.length = n * es ∧ (∀ W : World, W.heap = w.heap → (Builtin.lenOf x').run P W = .ok n W ∧ (Builtin.firstCells es n x').run P W = .ok xs'.toArray W) ∧ f xs n = true := by
  cases hx <;> first | (exfalso; simp [elemsA] at e; done) | skip
  case nilslice => exact ⟨[], 0, [], .nil β, fun v hv => by simp at hv, by simp, fun W _ => ⟨rfl, rfl⟩, e⟩
  case eslice a cap =>
    exact ⟨[], 0, [], .nil β, fun v hv => by simp at hv, by simp, fun W _ => ⟨rfl, by simp [Builtin.firstCells, loadCells, loadCellsFrom]⟩, e⟩
  case slice b off len mc es2 cap i hi h1 h2 h3 =>
    have e : Tr.getK DH h b (fun o => withCells o fun d t n => Bool.rec false (loadL d t (len * es) off fun xs => f xs len) (Nat.ble (off + len * es) n)) = true := e
    rw [Tr.getK_eq] at e
    obtain ⟨d, tt, n, hc, e⟩ := withCells_of hr hi e
    obtain ⟨hle, e⟩ := guard_of e
    have hle := Nat.le_of_ble_eq_true hle
    rw [loadL_eq] at e
    obtain ⟨vs, k1, k2, k3⟩ := hc.many (len * es) off hle
    have hl : vs.length = len * es := by rw [← k1.1, length_getMany]
    refine ⟨_, len, vs, k1, k2, by simp, fun W hW => ⟨rfl, ?_⟩, e⟩
    have := run_loadCells_list (P := P) W ⟨i.blk, i.base + off, none⟩ vs (fun j v hv => by
      have := k3 j v hv
      simpa [World.cell?, hW] using this)
    rw [hl] at this
    exact this

/-- the append that finds room -/
theorem run_append_in {t u el el2 ty : TypeId} {n es : Nat} {a : Addr} {sLen sCap : Nat} {x' : Value} {xs' : List Value} {ts : Array TypeId} {w' : World} (ht : ts[0]? = some t) (hu : ts[1]? = some u)
    (h1 : P.underlying t = some (.slice el)) (h2 : P.underlying u = some (.slice el2)) (hs : sizeT P el = some es)
    (hx1 : (Builtin.lenOf x').run P w = .ok n w) (hx2 : (Builtin.firstCells es n x').run P w = .ok xs'.toArray w) (hroom : sLen + n ≤ sCap)
    (hst : (storeCells (a.add (sLen * es)) xs').run P w = .ok () w') :
    (Builtin.append_ ts ty #[.slice (some a) sLen sCap, x']).run P w = .ok (.slice (some a) (sLen + n) sCap) w' := by
  simp [Builtin.append_, ht, hu, run_underlying h1, run_underlying h2, run_sizeA hs, hx1, hx2, hroom, hst]
theorem run_append_nil {t u el el2 ty : TypeId} {es : Nat} {x' : Value} {xs' : List Value} {ts : Array TypeId} (ht : ts[0]? = some t) (hu : ts[1]? = some u)
    (h1 : P.underlying t = some (.slice el)) (h2 : P.underlying u = some (.slice el2)) (hs : sizeT P el = some es)
    (hx1 : (Builtin.lenOf x').run P w = .ok 0 w) (hx2 : (Builtin.firstCells es 0 x').run P w = .ok xs'.toArray w) :
    (Builtin.append_ ts ty #[.slice none 0 0, x']).run P w = .ok (.slice none 0 0) w := by
  simp [Builtin.append_, ht, hu, run_underlying h1, run_underlying h2, run_sizeA hs, hx1, hx2]
/-- the append that makes a new array -/
theorem run_append_out {t u el el2 ty : TypeId} {n es : Nat} {base : Option Addr} {sLen sCap : Nat} {x' : Value} {xs' old : List Value} {ts : Array TypeId} {i : TypeInfo} {z : Value} (ht : ts[0]? = some t) (hu : ts[1]? = some u)
    (h1 : P.underlying t = some (.slice el)) (h2 : P.underlying u = some (.slice el2)) (hs : sizeT P el = some es) (hi : P.info? el = some i) (hb : i.bytes ≤ 2 ^ 16) (hz : ∀ W : World, (zeroValue el).run P W = .ok z W) (hzs : z.cells.size = es)
    (hx1 : (Builtin.lenOf x').run P w = .ok n w) (hx2 : ∀ W : World, W.heap = w.heap → (Builtin.firstCells es n x').run P W = .ok xs'.toArray W) (hroom : ¬ sLen + n ≤ sCap)
    (hold : ∀ W : World, W.heap = w.heap → (Builtin.firstCells es sLen (.slice base sLen sCap)).run P W = .ok old.toArray W) (hlim : sLen + n ≤ 2 ^ 24) :
    ∃ newCap, sLen + n ≤ newCap ∧ ∃ rest : List Value, rest.length = (newCap - (sLen + n)) * es ∧
      (Builtin.append_ ts ty #[.slice base sLen sCap, x']).run P w = .ok (.slice (some ⟨w.heap.size, 0, none⟩) (sLen + n) newCap) (w.drew.alloc (.cells (old ++ xs' ++ rest).toArray el (0, 0))) := by
  have hcut : sLen + n ≤ (Question.appendCap (sLen + n) sCap el).cut (w.tape w.drawn (.appendCap (sLen + n) sCap el)) := by simp [Question.cut]
  refine ⟨_, hcut, (Builtin.zeroCells z.cells ((Question.appendCap (sLen + n) sCap el).cut (w.tape w.drawn (.appendCap (sLen + n) sCap el)) - (sLen + n))).toList, by simp [Builtin.zeroCells, hzs], ?_⟩
  have hno1 : ¬ (9223372036854775807 < ((sLen : Int) + (n : Int)) ∧ i.bytes = 0) := by omega
  have hnx := nextslicecap_le (need := sLen + n) (old := sCap) (by omega)
  have hno2 : ¬ (281474976710656 < Builtin.nextslicecap (sLen + n) sCap * i.bytes) := by
    have : Builtin.nextslicecap (sLen + n) sCap * i.bytes ≤ (2 * 2 ^ 24) * 2 ^ 16 := Nat.mul_le_mul (by omega) hb
    omega
  have hmax : IntKind.i64.max = 9223372036854775807 := by decide
  have ha := hx2 w.drew rfl
  have hb2 := hold w.drew rfl
  have hc := hz w.drew
  have hf : Question.forced (.appendCap (sLen + n) sCap el) = false := rfl
  simp [Builtin.append_, ht, hu, run_underlying h1, run_underlying h2, run_sizeA hs, hx1, hroom, run_typeInfoA hi, hno1, hno2, hmax, hf, ha, hb2, hc, newRow]
  congr 2
  apply Array.ext'
  simp
end Am
