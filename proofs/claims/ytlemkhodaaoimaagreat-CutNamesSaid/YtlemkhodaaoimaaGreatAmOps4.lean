/- Operations that build: sound. -/
import Derived.Test.YtlemkhodaaoimaaGreatAmOps3
set_option linter.unusedVariables false
set_option linter.unusedSimpArgs false
noncomputable section
namespace Am
open Go
variable {P : Program} {β : Beta} {h : HP} {nx : Nat} {w : World} {k : KV}

theorem run_list_mapM {α γ : Type} {f : α → Sem γ} {g : α → γ} : ∀ {l : List α}, (∀ x ∈ l, (f x).run P w = .ok (g x) w) → (l.mapM f).run P w = .ok (l.map g) w := by
  intro l
  induction l with
  | nil => intro _; simp
  | cons x l ih =>
    intro hx
    have h1 := hx x (by simp)
    have h2 := ih (fun y hy => hx y (by simp [hy]))
    simp [List.mapM_cons, h1, h2]
theorem run_array_mapM {α γ : Type} {f : α → Sem γ} {g : α → γ} {as : Array α} (hx : ∀ x ∈ as.toList, (f x).run P w = .ok (g x) w) : (as.mapM f).run P w = .ok (as.map g) w := by
  rw [Array.mapM_eq_mapM_toList]
  simp [run_list_mapM hx]
  apply Array.ext'
  simp

theorem fold_set (off : Nat) : ∀ (vs : List Value) (j : Nat) (cs : Array Value), off + j + vs.length ≤ cs.size →
    ((vs.zipIdx j).foldl (fun cs (x : Value × Nat) => cs.setIfInBounds (off + x.2) x.1) cs).toList = cs.toList.take (off + j) ++ vs ++ cs.toList.drop (off + j + vs.length) := by
  intro vs
  induction vs with
  | nil => intro j cs _; simp
  | cons v vs ih =>
    intro j cs hl
    simp only [List.length_cons] at hl
    rw [List.zipIdx_cons, List.foldl_cons, ih (j + 1) _ (by simp; omega)]
    have e := list_seg_step cs.toList (off + j) v vs (by simp; omega)
    simpa [Array.toList_setIfInBounds, Nat.add_assoc] using e
theorem fill_ok {placeA place : Nat → Option (Nat × Nat)} (hp : ∀ i p, placeA i = some p → place i = some p) : ∀ {ps : List (Nat × AV)} {ps' : List (Nat × Value)} {zs cs : List AV} {cells : Array Value},
    ps.map (·.1) = ps'.map (·.1) → LRel β (ps.map (·.2)) (ps'.map (·.2)) → LRel β zs cells.toList → allFlat zs = true → fillA placeA ps zs = some cs →
    ∃ cells', Instr.fill place cells ps' = some cells' ∧ LRel β cs cells'.toList ∧ allFlat cs = true := by
  intro ps
  induction ps with
  | nil =>
    intro ps' zs cs cells h1 h2 h3 h4 e
    have : ps' = [] := by cases ps' with | nil => rfl | cons x l => simp at h1
    subst this
    cases e
    exact ⟨cells, rfl, h3, h4⟩
  | cons p ps ih =>
    intro ps' zs cs cells h1 h2 h3 h4 e
    cases ps' with
    | nil => simp at h1
    | cons p' ps' =>
      obtain ⟨i, v⟩ := p
      obtain ⟨i', v'⟩ := p'
      simp only [List.map_cons, List.cons.injEq] at h1
      obtain ⟨rfl, h1⟩ := h1
      obtain ⟨y, l', hy, hv, h2⟩ := LRel.cons_inv h2
      simp only [List.map_cons, List.cons.injEq] at hy
      obtain ⟨rfl, rfl⟩ := hy
      simp only [fillA] at e
      cases hpl : placeA i with
      | none => rw [hpl] at e; cases e
      | some q =>
        obtain ⟨off, size⟩ := q
        rw [hpl] at e
        simp only at e
        cases hc : (Nat.beq (cellsOf v).length size && Nat.ble (off + size) zs.length && allFlat (cellsOf v)) with
        | false => rw [hc] at e; cases e
        | true =>
          rw [hc] at e
          simp only [cond_true] at e
          simp only [Bool.and_eq_true] at hc
          obtain ⟨⟨c1, c2⟩, c3⟩ := hc
          have c1 := Nat.eq_of_beq_eq_true c1
          have c2 := Nat.le_of_ble_eq_true c2
          have hcl := hv.cells
          have hsz : v'.cells.size = size := by rw [← c1, hcl.1]; simp
          have hzl : zs.length = cells.size := by rw [h3.1]; simp
          have hfold := fold_set off v'.cells.toList 0 cells (by simp; omega)
          simp only [Nat.add_zero, Array.length_toList, hsz] at hfold
          have hnew : LRel β (zs.take off ++ (cellsOf v ++ zs.drop (off + size))) ((v'.cells.toList.zipIdx 0).foldl (fun cs (x : Value × Nat) => cs.setIfInBounds (off + x.2) x.1) cells).toList := by
            rw [hfold, List.append_assoc]
            exact (h3.take off).append (hcl.append (h3.drop _))
          have hflat : allFlat (zs.take off ++ (cellsOf v ++ zs.drop (off + size))) = true := by
            rw [allFlat_append, allFlat_append]
            rw [allFlat_iff] at h4
            exact ⟨(allFlat_iff _).2 fun x hx => h4 x (List.mem_of_mem_take hx), c3, (allFlat_iff _).2 fun x hx => h4 x (List.mem_of_mem_drop hx)⟩
          obtain ⟨cells', f1, f2, f3⟩ := ih h1 h2 hnew hflat e
          refine ⟨cells', ?_, f2, f3⟩
          simp only [Instr.fill, hp i _ hpl]
          rw [if_neg (by simp; omega)]
          rw [← f1]
          congr 1
          rw [← Array.foldl_toList]
          simp [Array.toList_zipIdx]

theorem structOk_info {t : TypeId} (e : structOk P t = true) : ∃ fs : Array Field, P.underlying t = some (.struct fs) ∧ ∀ f ∈ fs.toList, ∃ n, sizeT P f.type = some n := by
  unfold structOk at e
  split at e
  · rename_i fs h1
    refine ⟨fs, h1, fun f hf => ?_⟩
    have := List.all_eq_true.1 e f hf
    exact Option.isSome_iff_exists.1 this
  · cases e
theorem buildA_ok {t : TypeId} {ps : List (Nat × AV)} {ps' : Array (Nat × Value)} (hr : HRel β h nx w) (h1 : ps.map (·.1) = ps'.toList.map (·.1)) (h2 : LRel β (ps.map (·.2)) (ps'.toList.map (·.2)))
    (e : buildA P t ps h nx k = true) : SemQ P (Instr.build t ps') β h nx w k := by
  obtain ⟨z, hz, e⟩ := opt_of e
  unfold zeroAgg at hz
  split at hz
  · rename_i cs hzt
    cases hso : structOk P t with
    | false => rw [hso] at hz; cases hz
    | true =>
      rw [hso] at hz; cases hz
      obtain ⟨fs, hu, hfs⟩ := structOk_info hso
      obtain ⟨i, v, hi, hzv, ha⟩ := zeroT_info hzt
      have hzr : (zeroValue t).run P w = .ok v w := by simp [zeroValue, run_typeInfoA hi, hzv]
      have hv : VRel β (.agg z) v := absV_ok ha
      have hfl : allFlat z = true := by
        rcases absV_flat ha with h | h
        · exact h
        · cases h
      obtain ⟨out, hf, e⟩ := opt_of e
      rw [forceList_eq] at e
      have hmap : (fs.mapM fun f : Field => (do pure (f.offset, ← Go.sizeOf f.type) : Sem (Nat × Nat))).run P w = .ok (fs.map fun f : Field => (f.offset, (sizeT P f.type).getD 0)) w := by
        refine run_array_mapM fun f hf => ?_
        obtain ⟨n, hn⟩ := hfs f hf
        simp [run_sizeA hn, hn]
      have hplace : ∀ i p, structPlace P t i = some p → (fs.map fun f : Field => (f.offset, (sizeT P f.type).getD 0))[i]? = some p := by
        intro i p hp
        unfold structPlace at hp
        rw [hu] at hp
        simp only at hp
        cases hfi : fs[i]? with
        | none => rw [hfi] at hp; cases hp
        | some f =>
          rw [hfi] at hp
          simp only at hp
          cases hs : sizeT P f.type with
          | none => rw [hs] at hp; cases hp
          | some n => rw [hs] at hp; cases hp; simp [hfi, hs]
      have hcells := hv.cells
      obtain ⟨cells', g1, g2, g3⟩ := fill_ok hplace h1 h2 hcells hfl hf
      refine .ret (v := .agg out) (v' := .agg cells') hr ?_ ?_ e
      · simp only [Instr.build, Sem.run_bind, hzr, Result.andThen_ok, run_underlying hu, hmap, g1]
        rfl
      · have := VRel.agg (β := β) out cells'.toList g2.1 g2.2 (fun j a ha => (allFlat_iff _).1 g3 a (List.mem_of_getElem? ha))
        simpa using this
  · cases hz

theorem sliceZero_info {t n : Nat} {z : List AV} (e : sliceZero P t = some (n, z)) :
    ∃ el zv i, P.underlying t = some (.slice el) ∧ sizeT P el = some n ∧ 1 ≤ n ∧ P.info? el = some i ∧ i.bytes ≤ 2 ^ 16 ∧ zeroT P el = some zv ∧ z = cellsOf zv ∧ z.length = n ∧ allFlat z = true := by
  unfold sliceZero at e
  split at e
  · rename_i el m h1
    obtain ⟨hu, hs⟩ := sliceElem_info h1
    cases hc : (Nat.ble 1 m && Nat.ble (bytesT P el) (2 ^ 16)) with
    | false => rw [hc] at e; cases e
    | true =>
      rw [hc] at e
      simp only [cond_true] at e
      simp only [Bool.and_eq_true] at hc
      cases hz : zeroCells P el with
      | none => rw [hz] at e; cases e
      | some zz =>
        rw [hz] at e
        simp only [Option.map_some, Option.some.injEq, Prod.mk.injEq] at e
        obtain ⟨rfl, rfl⟩ := e
        obtain ⟨zv, m2, hz1, hz2, rfl, hz4, hz5⟩ := zeroCells_info hz
        rw [hs] at hz2; cases hz2
        obtain ⟨i, hi, hisz⟩ := sizeT_info hs
        have hb : i.bytes ≤ 2 ^ 16 := by
          have := Nat.le_of_ble_eq_true hc.2
          unfold bytesT at this; rw [hi] at this; exact this
        exact ⟨el, zv, i, hu, hs, Nat.le_of_ble_eq_true hc.1, hi, hb, hz1, rfl, hz4, hz5⟩
  · cases e

/-- n times the zero value's cells, as the model makes them -/
theorem zeros_eq (z : Array Value) (n m : Nat) (hz : z.size = m) (hm : 1 ≤ m) : ((Array.range (n * m)).map (z[· % z.size]!)).toList = (List.replicate n z.toList).flatten := by
  apply List.ext_getElem?
  intro j
  have hlen : (List.replicate n z.toList).flatten.length = n * m := by rw [List.length_flatten]; simp [hz]
  by_cases hj : j < n * m
  · have hd : j / m < n := by rw [Nat.div_lt_iff_lt_mul (by omega)]; exact hj
    have : ∀ (n j : Nat), j < n * m → (List.replicate n z.toList).flatten[j]? = z.toList[j % m]? := by
      intro n
      induction n with
      | zero => intro j hj; omega
      | succ n ih =>
        intro j hj
        rw [List.replicate_succ, List.flatten_cons]
        by_cases h1 : j < m
        · rw [List.getElem?_append_left (by simp; omega), Nat.mod_eq_of_lt h1]
        · rw [List.getElem?_append_right (by simp; omega)]
          have h2 : z.toList.length = m := by simp [hz]
          have h3 : (n + 1) * m = n * m + m := Nat.succ_mul n m
          rw [h2, ih (j - m) (by omega)]
          congr 1
          exact (Nat.mod_eq_sub_mod (by omega)).symm
    rw [this n j hj]
    have h3 : j % m < z.size := by rw [hz]; exact Nat.mod_lt _ (by omega)
    simp [hj, hz, h3]
    rw [getElem!_pos z (j % m) h3]
    simp [h3]
  · rw [List.getElem?_eq_none (by simp; omega), List.getElem?_eq_none (by omega)]
end Am
