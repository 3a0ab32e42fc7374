/- How an abstract state stands to a world of the model. -/
import Derived.Test.YtjcmcblcaakbaaaGreatDoorAmTr
import Derived.Test.YtjcmcblcaakbaaaGreatDoorAmPlan
import Derived.Laws.World
import Derived.Laws.Cells
import Derived.Laws.CopyRow
import Derived.RangeFuncRecord
import Derived.CallsIn
set_option linter.unusedVariables false
set_option linter.unusedSimpArgs false
noncomputable section
namespace Am
open Go

/-- where an abstract block lies: the model's block, the place in it at which it begins, the size of that block; op: an append made it, and its slices reach to its end -/
structure BI where
  blk : Nat
  base : Nat
  sz : Nat
  op : Bool
abbrev Beta := Nat → Option BI

inductive VRel (β : Beta) : AV → Value → Prop
  | bool (b : Bool) : VRel β (.bool b) (.bool b)
  | int (k : IntKind) (n : Int) : VRel β (.int k n) (.int k n)
  | str (l : List Nat) (s : ByteArray) : s.data.toList.map UInt8.toNat = l → VRel β (.str l) (.string s)
  | ptr (b off : Nat) (i : BI) : β b = some i → VRel β (.ptr b off) (.pointer (some ⟨i.blk, i.base + off, none⟩))
  | nilptr : VRel β .nilptr (.pointer none)
  | slice (b off len mc es cap : Nat) (i : BI) : β b = some i → mc ≤ cap → i.base + off + cap * es ≤ i.sz → (i.op = false → cap = mc) ∧ (i.op = true → es ≠ 0 ∧ i.base + off + cap * es = i.sz) →
      VRel β (.slice b off len mc es) (.slice (some ⟨i.blk, i.base + off, none⟩) len cap)
  | nilslice : VRel β .nilslice (.slice none 0 0)
  | eslice (a : Addr) (cap : Nat) : VRel β .eslice (.slice (some a) 0 cap)
  | map (b : Nat) (i : BI) : β b = some i → VRel β (.map b) (.map (some i.blk))
  | nilmap : VRel β .nilmap (.map none)
  | func (f : Nat) (fv cap : List AV) (fv' cap' : List Value) : fv.length = fv'.length → (∀ (j : Nat) a v, fv[j]? = some a → fv'[j]? = some v → VRel β a v) →
      cap.length = cap'.length → (∀ (j : Nat) a v, cap[j]? = some a → cap'[j]? = some v → VRel β a v) → VRel β (.func f fv cap) (.func (.func f) fv'.toArray cap'.toArray)
  | yield (l : Nat) (i : BI) : β l = some i → VRel β (.yield l) (.func (.yield i.blk) #[] #[])
  | nilfunc : VRel β .nilfunc .nilFunc
  | iface (t : Nat) (a : AV) (v : Value) : VRel β a v → VRel β (.iface t a) (.iface t v)
  | niliface : VRel β .niliface .nilIface
  | agg (cs : List AV) (vs : List Value) : cs.length = vs.length → (∀ (j : Nat) a v, cs[j]? = some a → vs[j]? = some v → VRel β a v) →
      (∀ (j : Nat) a, cs[j]? = some a → a.flat = true) → VRel β (.agg cs) (.agg vs.toArray)
  | tuple (cs : List AV) (vs : List Value) : cs.length = vs.length → (∀ (j : Nat) a v, cs[j]? = some a → vs[j]? = some v → VRel β a v) → VRel β (.tuple cs) (.tuple vs.toArray)

/-- lists, place by place -/
def LRel (β : Beta) (cs : List AV) (vs : List Value) : Prop := cs.length = vs.length ∧ ∀ (j : Nat) a v, cs[j]? = some a → vs[j]? = some v → VRel β a v

def Ext (β β' : Beta) : Prop := ∀ b i, β b = some i → β' b = some i
theorem Ext.refl (β : Beta) : Ext β β := fun _ _ h => h
theorem Ext.trans {a b c : Beta} (h : Ext a b) (k : Ext b c) : Ext a c := fun x i hx => k x i (h x i hx)

theorem VRel.ext {β β' : Beta} (he : Ext β β') {a : AV} {v : Value} (h : VRel β a v) : VRel β' a v := by
  induction h with
  | bool b => exact .bool b
  | int k n => exact .int k n
  | str l s h => exact .str l s h
  | ptr b off i h => exact .ptr b off i (he _ _ h)
  | nilptr => exact .nilptr
  | slice b off len mc es cap i h h1 h2 h3 => exact .slice b off len mc es cap i (he _ _ h) h1 h2 h3
  | nilslice => exact .nilslice
  | eslice a cap => exact .eslice a cap
  | map b i h => exact .map b i (he _ _ h)
  | nilmap => exact .nilmap
  | func f fv cap fv' cap' h1 _ h2 _ ih1 ih2 => exact .func f fv cap fv' cap' h1 ih1 h2 ih2
  | yield l i h => exact .yield l i (he _ _ h)
  | nilfunc => exact .nilfunc
  | iface t a v _ ih => exact .iface t a v ih
  | niliface => exact .niliface
  | agg cs vs h _ hf ih => exact .agg cs vs h ih hf
  | tuple cs vs h _ ih => exact .tuple cs vs h ih
theorem LRel.ext {β β' : Beta} (he : Ext β β') {a : List AV} {v : List Value} (h : LRel β a v) : LRel β' a v := ⟨h.1, fun j a v h1 h2 => (h.2 j a v h1 h2).ext he⟩

theorem LRel.nil (β : Beta) : LRel β [] [] := ⟨rfl, fun j a v h _ => by simp at h⟩
theorem LRel.cons {β : Beta} {a : AV} {v : Value} {l : List AV} {l' : List Value} (h : VRel β a v) (hl : LRel β l l') : LRel β (a :: l) (v :: l') :=
  ⟨by simp [hl.1], fun j x y h1 h2 => by
    cases j with
    | zero => simp at h1 h2; subst h1 h2; exact h
    | succ j => simp at h1 h2; exact hl.2 j x y h1 h2⟩
theorem LRel.cons_inv {β : Beta} {a : AV} {l : List AV} {vs : List Value} (h : LRel β (a :: l) vs) : ∃ v l', vs = v :: l' ∧ VRel β a v ∧ LRel β l l' := by
  cases vs with
  | nil => simp [LRel] at h
  | cons v l' => exact ⟨v, l', rfl, h.2 0 a v rfl rfl, by simpa using h.1, fun j x y h1 h2 => h.2 (j + 1) x y (by simpa using h1) (by simpa using h2)⟩
theorem LRel.nil_inv {β : Beta} {vs : List Value} (h : LRel β [] vs) : vs = [] := by
  cases vs with
  | nil => rfl
  | cons v l => simp [LRel] at h
theorem LRel.append {β : Beta} {a b : List AV} {a' b' : List Value} (h : LRel β a a') (k : LRel β b b') : LRel β (a ++ b) (a' ++ b') := by
  induction a generalizing a' with
  | nil => have := h.nil_inv; subst this; exact k
  | cons x a ih => obtain ⟨v, l, rfl, hv, hl⟩ := h.cons_inv; exact .cons hv (ih hl)
theorem LRel.drop {β : Beta} {a : List AV} {a' : List Value} (h : LRel β a a') (n : Nat) : LRel β (a.drop n) (a'.drop n) :=
  ⟨by simp [h.1], fun j x y h1 h2 => h.2 (n + j) x y (by simpa using h1) (by simpa using h2)⟩
theorem LRel.take {β : Beta} {a : List AV} {a' : List Value} (h : LRel β a a') (n : Nat) : LRel β (a.take n) (a'.take n) :=
  ⟨by simp [h.1], fun j x y h1 h2 => by
    by_cases hj : j < n
    · rw [List.getElem?_take_of_lt hj] at h1 h2; exact h.2 j x y h1 h2
    · rw [List.getElem?_take_eq_none (by omega)] at h1; cases h1⟩
theorem LRel.get {β : Beta} {a : List AV} {a' : List Value} (h : LRel β a a') {j : Nat} {x : AV} (hx : a[j]? = some x) : ∃ y, a'[j]? = some y ∧ VRel β x y := by
  have hj : j < a.length := (List.getElem?_eq_some_iff.1 hx).1
  have hj' : j < a'.length := h.1 ▸ hj
  exact ⟨a'[j], List.getElem?_eq_getElem hj', h.2 j x _ hx (List.getElem?_eq_getElem hj')⟩
theorem LRel.rep {β : Beta} {a : List AV} {a' : List Value} (h : LRel β a a') (n : Nat) : LRel β (Am.rep n a) (List.replicate n a').flatten := by
  induction n with
  | zero => exact .nil β
  | succ n ih => rw [List.replicate_succ, List.flatten_cons]; exact h.append ih

theorem VRel.flat {β : Beta} {a : AV} {v : Value} (h : VRel β a v) : a.flat = v.oneCell' := by cases h <;> rfl
/-- a value's cells -/
theorem VRel.cells {β : Beta} {a : AV} {v : Value} (h : VRel β a v) : LRel β (cellsOf a) v.cells.toList := by
  cases h with
  | agg cs vs h1 h2 h3 => exact ⟨h1, h2⟩
  | _ => exact .cons (by constructor <;> assumption) (.nil _)
theorem allFlat_iff (l : List AV) : allFlat l = true ↔ ∀ a ∈ l, a.flat = true := by
  induction l with
  | nil => simp [allFlat]
  | cons a l ih =>
    show (Bool.rec (motive := fun _ => Bool) false (allFlat l) a.flat) = true ↔ _
    cases h : a.flat <;> simp [h, ih]
theorem LRel.oneCell {β : Beta} {a : List AV} {a' : List Value} (h : LRel β a a') (hf : allFlat a = true) : ∀ v ∈ a', v.oneCell' = true := by
  intro v hv
  obtain ⟨j, hj, rfl⟩ := List.getElem_of_mem hv
  have hj2 : j < a.length := h.1 ▸ hj
  have := h.2 j a[j] a'[j] (List.getElem?_eq_getElem hj2) (List.getElem?_eq_getElem hj)
  rw [← this.flat]
  exact (allFlat_iff a).1 hf _ (List.getElem_mem hj2)

/-! ### objects -/
abbrev hget (h : HP) (b : Nat) : AObj := Tr.get DH h b

/-- cells of the model that hold an abstract block's -/
structure CRel (β : Beta) (d : Nat) (t : TM) (n : Nat) (i : BI) (w : World) : Prop where
  fit : n ≤ 2 ^ d
  ex : ∃ (cs : Array Value) (e : TypeId), w.heap[i.blk]? = some (.cells cs e (0, 0)) ∧ cs.size = i.sz ∧ i.base + n ≤ i.sz ∧
    ∀ j, j < n → ∃ v, cs[i.base + j]? = some v ∧ VRel β (Tr.get d t j) v ∧ v.oneCell' = true

inductive ERel (β : Beta) : List (List Nat × AV) → List MapEntry → Prop
  | nil : ERel β [] []
  | cons (x : List Nat) (a : AV) (es : List (List Nat × AV)) (e : MapEntry) (es' : List MapEntry) (s : ByteArray) : e.key = .string s → s.data.toList.map UInt8.toNat = x →
      VRel β a e.val → ERel β es es' → ERel β ((x, a) :: es) (e :: es')
theorem ERel.ext {β β' : Beta} (he : Ext β β') {a : List (List Nat × AV)} {b : List MapEntry} (h : ERel β a b) : ERel β' a b := by
  induction h with
  | nil => exact .nil
  | cons x a es e es' s h1 h2 h3 _ ih => exact .cons x a es e es' s h1 h2 (h3.ext he) ih

/-- temporaries -/
def TRel (β : Beta) (d nt : Nat) (t : TM) (tmps : Array Value) : Prop := tmps.size = nt ∧ nt ≤ 2 ^ d ∧ ∀ i, i < nt → VRel β (Tr.get d t i) (tmps.getD i undef)
theorem TRel.ext {β β' : Beta} (he : Ext β β') {d nt : Nat} {t : TM} {tmps : Array Value} (h : TRel β d nt t tmps) : TRel β' d nt t tmps := ⟨h.1, h.2.1, fun i hi => (h.2.2 i hi).ext he⟩

/-- what a block's tag says: twice the type of its cells, and one more if the block begins where the model's does -/
def TagT (e : Nat) (i : BI) (w : World) : Prop := ∃ cs fz, w.heap[i.blk]? = some (.cells cs (e / 2) fz) ∧ (e % 2 = 1 → i.base = 0)

def ORel (β : Beta) (o : AObj) (i : BI) (w : World) : Prop :=
  match o with
  | .dead => True
  | .hole => True
  | .cells e d t n => CRel β d t n i w ∧ TagT e i w
  | .glob g => i.blk = g ∧ ∃ m, w.cell? ⟨g, 0, none⟩ = some (.int .i64 m)
  | .rcells d t n => CRel β d t n i w
  | .map es => ∃ es' clock, w.heap[i.blk]? = some (.map es' clock) ∧ ERel β es es'.toList
  | .loop st p d nt t ps a b => ∃ (l : Loop), w.heap[i.blk]? = some (.loop l) ∧ l.state = st ∧ l.pending = p ∧ TRel β d nt t l.tmps ∧ l.params.toList = ps ∧ l.assign = a ∧ l.body = b ∧ drawsOk a = true ∧ drawsOk b = true

def AObj.live (o : AObj) : Bool := match o with | .dead => false | .hole => false | _ => true
def AObj.own (o : AObj) : Bool := match o with | .dead => false | .hole => false | .rcells .. => false | .glob _ => false | _ => true

theorem ORel.ext {β β' : Beta} (he : Ext β β') {o : AObj} {i : BI} {w w' : World} (hw : o.live = true → w'.heap[i.blk]? = w.heap[i.blk]?) (h : ORel β o i w) : ORel β' o i w' := by
  cases o with
  | dead => trivial
  | hole => trivial
  | cells tg d t n =>
    obtain ⟨⟨hf, cs, e, h1, h2, h3, h4⟩, cs2, fz, h5, h6⟩ := h
    exact ⟨⟨hf, cs, e, (hw rfl).trans h1, h2, h3, fun j hj => let ⟨v, a, b, c⟩ := h4 j hj; ⟨v, a, b.ext he, c⟩⟩, cs2, fz, (hw rfl).trans h5, h6⟩
  | glob g =>
    obtain ⟨h1, m, h2⟩ := h
    subst h1
    exact ⟨rfl, m, by rw [← h2]; simp only [World.cell?, hw rfl]⟩
  | rcells d t n =>
    obtain ⟨hf, cs, e, h1, h2, h3, h4⟩ := h
    exact ⟨hf, cs, e, (hw rfl).trans h1, h2, h3, fun j hj => let ⟨v, a, b, c⟩ := h4 j hj; ⟨v, a, b.ext he, c⟩⟩
  | map es => obtain ⟨es', c, h1, h2⟩ := h; exact ⟨es', c, (hw rfl).trans h1, h2.ext he⟩
  | loop st p d nt t ps a b => obtain ⟨l, h1, h2, h3, h4, h5⟩ := h; exact ⟨l, (hw rfl).trans h1, h2, h3, h4.ext he, h5⟩

structure HRel (β : Beta) (h : HP) (nx : Nat) (w : World) : Prop where
  lt : ∀ b i, β b = some i → b < nx
  le : nx ≤ 2 ^ DH
  obj : ∀ b, b < nx → (hget h b).live = true → ∃ i, β b = some i ∧ i.blk < w.heap.size ∧ ORel β (hget h b) i w
  inj : ∀ b b' i i', b < nx → b' < nx → (hget h b).live = true → (hget h b').live = true → β b = some i → β b' = some i' → i.blk = i'.blk → b = b'
  hole : ∀ b, b < nx → hget h b = .hole → β b = none

/-- the model's block b is an abstract one's that may be written -/
def Own (β : Beta) (h : HP) (nx : Nat) (b : Nat) : Prop := ∃ B i, B < nx ∧ (hget h B).own = true ∧ β B = some i ∧ i.blk = b

/-- the model's block b is an abstract one's that lives -/
def Live (β : Beta) (h : HP) (nx : Nat) (b : Nat) : Prop := ∃ B i, B < nx ∧ (hget h B).live = true ∧ β B = some i ∧ i.blk = b
theorem AObj.live_of_own {o : AObj} (h : o.own = true) : o.live = true := by cases o <;> simp_all [AObj.own, AObj.live]

/-- what a run may do to a world -/
structure Step (β : Beta) (h : HP) (nx : Nat) (w : World) (β' : Beta) (h' : HP) (nx' : Nat) (w' : World) : Prop where
  ext : Ext β β'
  size : w.heap.size ≤ w'.heap.size
  keep : ∀ b, b < w.heap.size → ¬ Own β h nx b → w'.heap[b]? = w.heap[b]?
  own : ∀ b, b < w.heap.size → Own β' h' nx' b → Own β h nx b
  lv : ∀ b, b < w.heap.size → Live β' h' nx' b → Live β h nx b
  os : w'.os = w.os
  out : w'.output = w.output
theorem Step.refl (β : Beta) (h : HP) (nx : Nat) (w : World) : Step β h nx w β h nx w := ⟨Ext.refl β, Nat.le_refl _, fun _ _ _ => rfl, fun _ _ h => h, fun _ _ h => h, rfl, rfl⟩
theorem Step.trans {β : Beta} {h : HP} {nx : Nat} {w : World} {β1 : Beta} {h1 : HP} {nx1 : Nat} {w1 : World} {β2 : Beta} {h2 : HP} {nx2 : Nat} {w2 : World}
    (a : Step β h nx w β1 h1 nx1 w1) (b : Step β1 h1 nx1 w1 β2 h2 nx2 w2) : Step β h nx w β2 h2 nx2 w2 :=
  ⟨a.ext.trans b.ext, Nat.le_trans a.size b.size,
    fun x hx hn => (b.keep x (Nat.lt_of_lt_of_le hx a.size) (fun ho => hn (a.own x hx ho))).trans (a.keep x hx hn),
    fun x hx ho => a.own x hx (b.own x (Nat.lt_of_lt_of_le hx a.size) ho), fun x hx ho => a.lv x hx (b.lv x (Nat.lt_of_lt_of_le hx a.size) ho), b.os.trans a.os, b.out.trans a.out⟩
/-- a world whose heap is as it was -/
theorem Step.same {β : Beta} {h : HP} {nx : Nat} {w w' : World} (he : w'.heap = w.heap) (hos : w'.os = w.os := by rfl) (hout : w'.output = w.output := by rfl) : Step β h nx w β h nx w' :=
  ⟨Ext.refl β, by rw [he]; exact Nat.le_refl _, fun _ _ _ => by rw [he], fun _ _ h => h, fun _ _ h => h, hos, hout⟩
theorem HRel.same {β : Beta} {h : HP} {nx : Nat} {w w' : World} (he : w'.heap = w.heap) (hr : HRel β h nx w) : HRel β h nx w' :=
  ⟨hr.lt, hr.le, fun b hb hl => let ⟨i, h1, h2, h3⟩ := hr.obj b hb hl; ⟨i, h1, by rw [he]; exact h2, h3.ext (Ext.refl β) (fun _ => by rw [he])⟩, hr.inj, hr.hole⟩

theorem VRel.lt {β : Beta} {h : HP} {nx : Nat} {w : World} (hr : HRel β h nx w) {b : Nat} {i : BI} (hb : β b = some i) : b < nx ∧ b < 2 ^ DH :=
  ⟨hr.lt b i hb, Nat.lt_of_lt_of_le (hr.lt b i hb) hr.le⟩

/-! ### the three ways in which a heap turns: a new block; a block turned; a block dead -/
def bput (β : Beta) (b : Nat) (i : BI) : Beta := fun x => if x = b then some i else β x
theorem bput_ext {β : Beta} {b : Nat} {i : BI} (h : β b = none) : Ext β (bput β b i) := fun x j hx => by
  unfold bput
  by_cases e : x = b
  · subst e; rw [h] at hx; cases hx
  · rw [if_neg e]; exact hx

theorem HRel.none_at {β : Beta} {h : HP} {nx : Nat} {w : World} (hr : HRel β h nx w) : β nx = none := by
  cases e : β nx with
  | none => rfl
  | some i => exact absurd (hr.lt nx i e) (Nat.lt_irrefl _)

/-- a new block of the model's, at the heap's end; its abstract block's place is free -/
theorem HRel.allocAt {β : Beta} {h : HP} {nx : Nat} {w : World} (hr : HRel β h nx w) {x : Nat} (hx0 : β x = none) (hxn : x ≤ nx) (hn : x < 2 ^ DH) (o : AObj) (hoh : o ≠ .hole) (ob : Obj) (sz : Nat) {op : Bool}
    (ho : ORel (bput β x ⟨w.heap.size, 0, sz, op⟩) o ⟨w.heap.size, 0, sz, op⟩ (w.alloc ob)) :
    HRel (bput β x ⟨w.heap.size, 0, sz, op⟩) (Tr.set DH h x o) (max nx (x + 1)) (w.alloc ob) ∧
    Step β h nx w (bput β x ⟨w.heap.size, 0, sz, op⟩) (Tr.set DH h x o) (max nx (x + 1)) (w.alloc ob) := by
  have hnone := hx0
  have hle := hr.le
  have hmx : ∀ b, b < max nx (x + 1) → b ≠ x → b < nx := fun b hb hne => by omega
  have hxm : x < max nx (x + 1) := by omega
  have hml : max nx (x + 1) ≤ 2 ^ DH := Nat.max_le.2 ⟨hle, hn⟩
  have hg : ∀ b, b < max nx (x + 1) → hget (Tr.set DH h x o) b = if b = x then o else hget h b := fun b hb => Tr.get_set_lt DH h x b o hn (Nat.lt_of_lt_of_le hb hml)
  have hold : ∀ y, y < w.heap.size → (w.alloc ob).heap[y]? = w.heap[y]? := fun y hy => by
    show (w.heap.push ob)[y]? = w.heap[y]?
    rw [Array.getElem?_push, if_neg (by omega)]
  have hsz : (w.alloc ob).heap.size = w.heap.size + 1 := by simp
  refine ⟨⟨?_, hml, ?_, ?_, ?_⟩, ⟨bput_ext hnone, by omega, fun b hb _ => hold b hb, ?_, ?_, rfl, rfl⟩⟩
  · intro b i hb
    unfold bput at hb
    by_cases e : b = x
    · rw [e]; exact hxm
    · rw [if_neg e] at hb; have := hr.lt b i hb; omega
  · intro b hb hl
    rw [hg b hb] at hl ⊢
    by_cases e : b = x
    · subst e; rw [if_pos rfl]; exact ⟨_, by simp [bput], by show w.heap.size < _; omega, ho⟩
    · rw [if_neg e] at hl ⊢
      obtain ⟨i, h1, h2, h3⟩ := hr.obj b (hmx b hb e) hl
      exact ⟨i, by simp [bput, e, h1], by omega, h3.ext (bput_ext hnone) (fun _ => hold _ h2)⟩
  · intro b b' i i' hb hb' hl hl' hi hi' he
    rw [hg b hb] at hl
    rw [hg b' hb'] at hl'
    unfold bput at hi hi'
    by_cases e : b = x <;> by_cases e' : b' = x
    · rw [e, e']
    · exfalso
      rw [if_pos e] at hi; cases hi
      rw [if_neg e'] at hi' hl'
      obtain ⟨j, h1, h2, _⟩ := hr.obj b' (hmx b' hb' e') hl'
      rw [hi'] at h1; cases h1
      simp only at he; omega
    · exfalso
      rw [if_pos e'] at hi'; cases hi'
      rw [if_neg e] at hi hl
      obtain ⟨j, h1, h2, _⟩ := hr.obj b (hmx b hb e) hl
      rw [hi] at h1; cases h1
      simp only at he; omega
    · rw [if_neg e] at hi hl; rw [if_neg e'] at hi' hl'
      exact hr.inj b b' i i' (hmx b hb e) (hmx b' hb' e') hl hl' hi hi' he
  · intro b hb hh
    rw [hg b hb] at hh
    by_cases e : b = x
    · rw [if_pos e] at hh; exact absurd hh hoh
    · rw [if_neg e] at hh; unfold bput; rw [if_neg e]; exact hr.hole b (hmx b hb e) hh
  · rintro b hb ⟨B, i, hB, hl, hi, rfl⟩
    rw [hg B hB] at hl
    unfold bput at hi
    by_cases e : B = x
    · rw [if_pos e] at hi; cases hi; simp only at hb; omega
    · rw [if_neg e] at hi hl; exact ⟨B, i, hmx B hB e, hl, hi, rfl⟩
  · rintro b hb ⟨B, i, hB, hl, hi, rfl⟩
    rw [hg B hB] at hl
    unfold bput at hi
    by_cases e : B = x
    · rw [if_pos e] at hi; cases hi; simp only at hb; omega
    · rw [if_neg e] at hi hl; exact ⟨B, i, hmx B hB e, hl, hi, rfl⟩
/-- a new block of the model's, at the heap's end -/
theorem HRel.alloc {β : Beta} {h : HP} {nx : Nat} {w : World} (hr : HRel β h nx w) (hn : nx < 2 ^ DH) (o : AObj) (ob : Obj) (sz : Nat) {op : Bool} (hoh : o ≠ .hole)
    (ho : ORel (bput β nx ⟨w.heap.size, 0, sz, op⟩) o ⟨w.heap.size, 0, sz, op⟩ (w.alloc ob)) :
    HRel (bput β nx ⟨w.heap.size, 0, sz, op⟩) (Tr.set DH h nx o) (nx + 1) (w.alloc ob) ∧
    Step β h nx w (bput β nx ⟨w.heap.size, 0, sz, op⟩) (Tr.set DH h nx o) (nx + 1) (w.alloc ob) := by
  have hh := hr.allocAt hr.none_at (Nat.le_refl _) hn o hoh ob sz ho
  rw [show max nx (nx + 1) = nx + 1 by omega] at hh
  exact hh

/-- an abstract block's object turned, in place -/
theorem HRel.turn {β : Beta} {h : HP} {nx : Nat} {w w' : World} (hr : HRel β h nx w) {b : Nat} {i : BI} (hi : β b = some i) (hown : (hget h b).own = true) (o : AObj) (hoo : o.own = true ∨ o = .dead)
    (hsz : w'.heap.size = w.heap.size) (hother : ∀ x, x ≠ i.blk → w'.heap[x]? = w.heap[x]?) (ho : ORel β o i w') (hos : w'.os = w.os := by rfl) (hout : w'.output = w.output := by rfl) :
    HRel β (Tr.set DH h b o) nx w' ∧ Step β h nx w β (Tr.set DH h b o) nx w' := by
  have hb := (VRel.lt hr hi).1
  have hg : ∀ x, x < nx → hget (Tr.set DH h b o) x = if x = b then o else hget h x := fun x hx => Tr.get_set_lt DH h b x o (VRel.lt hr hi).2 (Nat.lt_of_lt_of_le hx hr.le)
  have hlive : (hget h b).live = true := by revert hown; cases hget h b <;> simp [AObj.own, AObj.live]
  have hne : ∀ x, x < nx → x ≠ b → (hget h x).live = true → ∀ j, β x = some j → j.blk ≠ i.blk := fun x hx hxb hl j hj e => hxb (hr.inj x b j i hx hb hl hlive hj hi e)
  refine ⟨⟨hr.lt, hr.le, ?_, ?_, ?_⟩, ⟨Ext.refl β, by omega, ?_, ?_, ?_, hos, hout⟩⟩
  · intro x hx hl
    rw [hg x hx] at hl ⊢
    by_cases e : x = b
    · subst e
      rw [if_pos rfl]
      obtain ⟨j, h1, h2, _⟩ := hr.obj x hx hlive
      rw [hi] at h1; cases h1
      exact ⟨i, hi, by omega, ho⟩
    · rw [if_neg e] at hl ⊢
      obtain ⟨j, h1, h2, h3⟩ := hr.obj x hx hl
      exact ⟨j, h1, by omega, h3.ext (Ext.refl β) (fun _ => hother _ (hne x hx e hl j h1))⟩
  · intro x x' j j' hx hx' hl hl' hj hj' he
    rw [hg x hx] at hl
    rw [hg x' hx'] at hl'
    refine hr.inj x x' j j' hx hx' ?_ ?_ hj hj' he
    · by_cases e : x = b
      · subst e; exact hlive
      · rw [if_neg e] at hl; exact hl
    · by_cases e : x' = b
      · subst e; exact hlive
      · rw [if_neg e] at hl'; exact hl'
  · intro x hx hh
    rw [hg x hx] at hh
    by_cases e : x = b
    · rw [if_pos e] at hh
      rcases hoo with h1 | h1
      · rw [hh] at h1; cases h1
      · rw [hh] at h1; cases h1
    · rw [if_neg e] at hh; exact hr.hole x hx hh
  · intro x hx hn
    by_cases e : x = i.blk
    · exact absurd ⟨b, i, hb, hown, hi, e.symm⟩ hn
    · exact hother x e
  · rintro x hx ⟨B, j, hB, hl, hj, rfl⟩
    rw [hg B hB] at hl
    by_cases e : B = b
    · subst e; exact ⟨B, j, hB, hown, hj, rfl⟩
    · rw [if_neg e] at hl; exact ⟨B, j, hB, hl, hj, rfl⟩
  · rintro x hx ⟨B, j, hB, hl, hj, rfl⟩
    rw [hg B hB] at hl
    by_cases e : B = b
    · subst e; exact ⟨B, j, hB, hlive, hj, rfl⟩
    · rw [if_neg e] at hl; exact ⟨B, j, hB, hl, hj, rfl⟩

/-- a block that is dead is nobody's; another one takes its place -/
theorem HRel.move {β : Beta} {h : HP} {nx : Nat} {w w' : World} (hr : HRel β h nx w) (hn : nx < 2 ^ DH) {b : Nat} {i : BI} (hi : β b = some i) (hown : (hget h b).own = true) (o : AObj) (base : Nat) {op : Bool} (hoh : o ≠ .hole)
    (hsz : w'.heap.size = w.heap.size) (hother : ∀ x, x ≠ i.blk → w'.heap[x]? = w.heap[x]?)
    (ho : ORel (bput β nx ⟨i.blk, base, i.sz, op⟩) o ⟨i.blk, base, i.sz, op⟩ w') (hos : w'.os = w.os := by rfl) (hout : w'.output = w.output := by rfl) :
    HRel (bput β nx ⟨i.blk, base, i.sz, op⟩) (Tr.set DH (Tr.set DH h b .dead) nx o) (nx + 1) w' ∧
    Step β h nx w (bput β nx ⟨i.blk, base, i.sz, op⟩) (Tr.set DH (Tr.set DH h b .dead) nx o) (nx + 1) w' := by
  have hb := (VRel.lt hr hi).1
  have hnone := hr.none_at
  have hg : ∀ x, x < nx + 1 → hget (Tr.set DH (Tr.set DH h b .dead) nx o) x = if x = nx then o else if x = b then .dead else hget h x := fun x hx => by
    show Tr.get DH (Tr.set DH (Tr.set DH h b .dead) nx o) x = _
    rw [Tr.get_set_lt DH _ nx x o hn (by omega), Tr.get_set_lt DH h b x _ (VRel.lt hr hi).2 (by omega)]
  have hlive : (hget h b).live = true := by revert hown; cases hget h b <;> simp [AObj.own, AObj.live]
  have hsz2 : i.blk < w.heap.size := by obtain ⟨j, h1, h2, _⟩ := hr.obj b hb hlive; rw [hi] at h1; cases h1; exact h2
  have hne : ∀ x, x < nx → x ≠ b → (hget h x).live = true → ∀ j, β x = some j → j.blk ≠ i.blk := fun x hx hxb hl j hj e => hxb (hr.inj x b j i hx hb hl hlive hj hi e)
  refine ⟨⟨?_, hn, ?_, ?_, ?_⟩, ⟨bput_ext hnone, by omega, ?_, ?_, ?_, hos, hout⟩⟩
  · intro x j hx
    unfold bput at hx
    by_cases e : x = nx
    · omega
    · rw [if_neg e] at hx; have := hr.lt x j hx; omega
  · intro x hx hl
    rw [hg x hx] at hl ⊢
    by_cases e : x = nx
    · subst e; rw [if_pos rfl]; exact ⟨_, by simp [bput], by show i.blk < _; omega, ho⟩
    · rw [if_neg e] at hl ⊢
      by_cases e2 : x = b
      · rw [if_pos e2] at hl; cases hl
      · rw [if_neg e2] at hl ⊢
        obtain ⟨j, h1, h2, h3⟩ := hr.obj x (by omega) hl
        exact ⟨j, by simp [bput, e, h1], by omega, h3.ext (bput_ext hnone) (fun _ => hother _ (hne x (by omega) e2 hl j h1))⟩
  · intro x x' j j' hx hx' hl hl' hj hj' he
    rw [hg x hx] at hl
    rw [hg x' hx'] at hl'
    unfold bput at hj hj'
    by_cases e : x = nx <;> by_cases e' : x' = nx
    · rw [e, e']
    · exfalso
      rw [if_pos e] at hj; cases hj
      rw [if_neg e'] at hj' hl'
      by_cases e2 : x' = b
      · rw [if_pos e2] at hl'; cases hl'
      · rw [if_neg e2] at hl'; exact hne x' (by omega) e2 hl' j' hj' he.symm
    · exfalso
      rw [if_pos e'] at hj'; cases hj'
      rw [if_neg e] at hj hl
      by_cases e2 : x = b
      · rw [if_pos e2] at hl; cases hl
      · rw [if_neg e2] at hl; exact hne x (by omega) e2 hl j hj he
    · rw [if_neg e] at hj hl; rw [if_neg e'] at hj' hl'
      by_cases e2 : x = b
      · rw [if_pos e2] at hl; cases hl
      · by_cases e3 : x' = b
        · rw [if_pos e3] at hl'; cases hl'
        · rw [if_neg e2] at hl; rw [if_neg e3] at hl'
          exact hr.inj x x' j j' (by omega) (by omega) hl hl' hj hj' he
  · intro x hx hh
    rw [hg x hx] at hh
    by_cases e : x = nx
    · rw [if_pos e] at hh; exact absurd hh hoh
    · rw [if_neg e] at hh
      by_cases e2 : x = b
      · rw [if_pos e2] at hh; cases hh
      · rw [if_neg e2] at hh; unfold bput; rw [if_neg e]; exact hr.hole x (by omega) hh
  · intro x hx hn
    by_cases e : x = i.blk
    · exact absurd ⟨b, i, hb, hown, hi, e.symm⟩ hn
    · exact hother x e
  · rintro x hx ⟨B, j, hB, hl, hj, rfl⟩
    rw [hg B hB] at hl
    unfold bput at hj
    by_cases e : B = nx
    · rw [if_pos e] at hj; cases hj; exact ⟨b, i, hb, hown, hi, rfl⟩
    · rw [if_neg e] at hj hl
      by_cases e2 : B = b
      · rw [if_pos e2] at hl; cases hl
      · rw [if_neg e2] at hl; exact ⟨B, j, by omega, hl, hj, rfl⟩
  · rintro x hx ⟨B, j, hB, hl, hj, rfl⟩
    rw [hg B hB] at hl
    unfold bput at hj
    by_cases e : B = nx
    · rw [if_pos e] at hj; cases hj; exact ⟨b, i, hb, hlive, hi, rfl⟩
    · rw [if_neg e] at hj hl
      by_cases e2 : B = b
      · rw [if_pos e2] at hl; cases hl
      · rw [if_neg e2] at hl; exact ⟨B, j, by omega, hl, hj, rfl⟩
end Am
