/- The evaluator's helpers in direct style: what a continuation is given. -/
import Derived.Test.YtjcmcblcaakbaaaGreatDoorAm
set_option linter.unusedVariables false
set_option linter.unusedSimpArgs false
noncomputable section
namespace Am
open Go

variable {α : Type}

def Tr.get (d : Nat) : Tr α → Nat → α :=
  Nat.rec (motive := fun _ => Tr α → Nat → α) (fun t _ => t.any)
    (fun d ih t => Tr.rec (motive := fun _ => Nat → α) (fun v _ => v) (fun l r _ _ n => bif bitAt n d then ih r n else ih l n) t) d
def Tr.set (d : Nat) : Tr α → Nat → α → Tr α :=
  Nat.rec (motive := fun _ => Tr α → Nat → α → Tr α) (fun _ _ v => .leaf v)
    (fun d ih t => Tr.rec (motive := fun _ => Nat → α → Tr α)
      (fun w n v => bif bitAt n d then .node (.leaf w) (ih (.leaf w) n v) else .node (ih (.leaf w) n v) (.leaf w))
      (fun l r _ _ n v => bif bitAt n d then .node l (ih r n v) else .node (ih l n v) r) t) d

theorem brec_cond {β : Type} (a b : β) (c : Bool) : (Bool.rec (motive := fun _ => β) a b c) = bif c then b else a := by cases c <;> rfl
theorem brec_true {β : Type} (a b : β) : (Bool.rec (motive := fun _ => β) a b true) = b := rfl
theorem brec_false {β : Type} (a b : β) : (Bool.rec (motive := fun _ => β) a b false) = a := rfl
/-- what a test says that must hold -/
theorem guard_of {a : Bool} {c : Bool} (h : (Bool.rec (motive := fun _ => Bool) false a c) = true) : c = true ∧ a = true := by
  cases c
  · exact absurd h (by simp)
  · exact ⟨rfl, h⟩

theorem Tr.getK_eq (d : Nat) : ∀ (t : Tr α) (n : Nat) (k : α → Bool), Tr.getK d t n k = k (Tr.get d t n) := by
  induction d with
  | zero => intro t n k; rfl
  | succ d ih =>
    intro t n k
    cases t with
    | leaf v => rfl
    | node l r =>
      show (Bool.rec (Tr.getK d l n k) (Tr.getK d r n k) (bitAt n d) : Bool) = k (bif bitAt n d then Tr.get d r n else Tr.get d l n)
      cases bitAt n d
      · exact ih l n k
      · exact ih r n k

theorem Tr.setK_eq (d : Nat) : ∀ (t : Tr α) (n : Nat) (v : α) (k : Tr α → Bool), Tr.setK d t n v k = k (Tr.set d t n v) := by
  induction d with
  | zero => intro t n v k; rfl
  | succ d ih =>
    intro t n v k
    cases t with
    | leaf w =>
      show (Bool.rec (Tr.setK d (.leaf w) n v fun t => k (.node t (.leaf w))) (Tr.setK d (.leaf w) n v fun t => k (.node (.leaf w) t)) (bitAt n d) : Bool) =
        k (bif bitAt n d then .node (.leaf w) (Tr.set d (.leaf w) n v) else .node (Tr.set d (.leaf w) n v) (.leaf w))
      cases bitAt n d
      · exact ih _ n v _
      · exact ih _ n v _
    | node l r =>
      show (Bool.rec (Tr.setK d l n v fun t => k (.node t r)) (Tr.setK d r n v fun t => k (.node l t)) (bitAt n d) : Bool) =
        k (bif bitAt n d then .node l (Tr.set d r n v) else .node (Tr.set d l n v) r)
      cases bitAt n d
      · exact ih _ n v _
      · exact ih _ n v _

theorem Tr.get_leaf (d : Nat) (v : α) (n : Nat) : Tr.get d (.leaf v) n = v := by cases d <;> rfl

/-- do two numbers agree in their low d bits? -/
def sameLow (d n m : Nat) : Prop := ∀ i, i < d → bitAt n i = bitAt m i

theorem Tr.get_set (d : Nat) : ∀ (t : Tr α) (n m : Nat) (v : α), sameLow d n m → Tr.get d (Tr.set d t n v) m = v := by
  induction d with
  | zero => intro t n m v h; rfl
  | succ d ih =>
    intro t n m v h
    have hd := h d (by omega)
    have hl : sameLow d n m := fun i hi => h i (by omega)
    cases t with
    | leaf w =>
      show Tr.get (d + 1) (bif bitAt n d then .node (.leaf w) (Tr.set d (.leaf w) n v) else .node (Tr.set d (.leaf w) n v) (.leaf w)) m = v
      cases hb : bitAt n d
      · show (bif bitAt m d then Tr.get d (.leaf w) m else Tr.get d (Tr.set d (.leaf w) n v) m) = v
        rw [← hd, hb]; exact ih _ _ _ _ hl
      · show (bif bitAt m d then Tr.get d (Tr.set d (.leaf w) n v) m else Tr.get d (.leaf w) m) = v
        rw [← hd, hb]; exact ih _ _ _ _ hl
    | node l r =>
      show Tr.get (d + 1) (bif bitAt n d then .node l (Tr.set d r n v) else .node (Tr.set d l n v) r) m = v
      cases hb : bitAt n d
      · show (bif bitAt m d then Tr.get d r m else Tr.get d (Tr.set d l n v) m) = v
        rw [← hd, hb]; exact ih _ _ _ _ hl
      · show (bif bitAt m d then Tr.get d (Tr.set d r n v) m else Tr.get d l m) = v
        rw [← hd, hb]; exact ih _ _ _ _ hl

theorem Tr.get_set_ne (d : Nat) : ∀ (t : Tr α) (n m : Nat) (v : α), ¬ sameLow d n m → Tr.get d (Tr.set d t n v) m = Tr.get d t m := by
  induction d with
  | zero => intro t n m v h; exact absurd (fun i hi => absurd hi (by omega)) h
  | succ d ih =>
    intro t n m v h
    have hcase : bitAt n d = bitAt m d → ¬ sameLow d n m := fun e hl => h fun i hi => by
      by_cases he : i = d
      · rw [he]; exact e
      · exact hl i (by omega)
    cases t with
    | leaf w =>
      show Tr.get (d + 1) (bif bitAt n d then .node (.leaf w) (Tr.set d (.leaf w) n v) else .node (Tr.set d (.leaf w) n v) (.leaf w)) m = w
      cases hb : bitAt n d
      · show (bif bitAt m d then Tr.get d (.leaf w) m else Tr.get d (Tr.set d (.leaf w) n v) m) = w
        cases hm : bitAt m d
        · exact (ih _ _ _ _ (hcase (by rw [hb, hm]))).trans (Tr.get_leaf _ _ _)
        · exact Tr.get_leaf _ _ _
      · show (bif bitAt m d then Tr.get d (Tr.set d (.leaf w) n v) m else Tr.get d (.leaf w) m) = w
        cases hm : bitAt m d
        · exact Tr.get_leaf _ _ _
        · exact (ih _ _ _ _ (hcase (by rw [hb, hm]))).trans (Tr.get_leaf _ _ _)
    | node l r =>
      show Tr.get (d + 1) (bif bitAt n d then .node l (Tr.set d r n v) else .node (Tr.set d l n v) r) m = (bif bitAt m d then Tr.get d r m else Tr.get d l m)
      cases hb : bitAt n d
      · show (bif bitAt m d then Tr.get d r m else Tr.get d (Tr.set d l n v) m) = _
        cases hm : bitAt m d
        · exact ih _ _ _ _ (hcase (by rw [hb, hm]))
        · rfl
      · show (bif bitAt m d then Tr.get d (Tr.set d r n v) m else Tr.get d l m) = _
        cases hm : bitAt m d
        · rfl
        · exact ih _ _ _ _ (hcase (by rw [hb, hm]))

theorem bitAt_eq (n d : Nat) : bitAt n d = n.testBit d := by
  show Nat.beq (Nat.land (Nat.shiftRight n d) 1) 1 = n.testBit d
  rw [Nat.testBit_eq_decide_div_mod_eq]
  have h1 : Nat.land (Nat.shiftRight n d) 1 = (n / 2 ^ d) % 2 := by
    have : Nat.land (Nat.shiftRight n d) 1 = (n >>> d) &&& 1 := rfl
    rw [this, Nat.and_one_is_mod, Nat.shiftRight_eq_div_pow]
  rw [h1]
  rcases Nat.mod_two_eq_zero_or_one (n / 2 ^ d) with h | h <;> rw [h] <;> rfl

theorem sameLow_iff (d n m : Nat) (hn : n < 2 ^ d) (hm : m < 2 ^ d) : sameLow d n m ↔ n = m := by
  constructor
  · intro h
    apply Nat.eq_of_testBit_eq
    intro i
    by_cases hi : i < d
    · have := h i hi; rwa [bitAt_eq, bitAt_eq] at this
    · rw [Nat.testBit_lt_two_pow (Nat.lt_of_lt_of_le hn (Nat.pow_le_pow_right (by omega) (by omega))),
        Nat.testBit_lt_two_pow (Nat.lt_of_lt_of_le hm (Nat.pow_le_pow_right (by omega) (by omega)))]
  · rintro rfl i _; rfl

theorem Tr.get_set_lt (d : Nat) (t : Tr α) (n m : Nat) (v : α) (hn : n < 2 ^ d) (hm : m < 2 ^ d) :
    Tr.get d (Tr.set d t n v) m = if m = n then v else Tr.get d t m := by
  by_cases h : m = n
  · rw [if_pos h]; exact Tr.get_set d t n m v ((sameLow_iff d n m hn hm).2 h.symm)
  · rw [if_neg h]; exact Tr.get_set_ne d t n m v (fun hs => h ((sameLow_iff d n m hn hm).1 hs).symm)

/-- two sets at different places commute, as trees -/
theorem Tr.set_comm (d : Nat) : ∀ (t : Tr α) (n m : Nat) (v u : α), ¬ sameLow d n m → Tr.set d (Tr.set d t n v) m u = Tr.set d (Tr.set d t m u) n v := by
  induction d with
  | zero => intro t n m v u h; exact absurd (fun i hi => absurd hi (by omega)) h
  | succ d ih =>
    intro t n m v u h
    have hcase : bitAt n d = bitAt m d → ¬ sameLow d n m := fun e hl => h fun i hi => by
      by_cases he : i = d
      · rw [he]; exact e
      · exact hl i (by omega)
    have hnode : ∀ (l r : Tr α) (n : Nat) (v : α), Tr.set (d + 1) (.node l r) n v = bif bitAt n d then .node l (Tr.set d r n v) else .node (Tr.set d l n v) r := fun _ _ _ _ => rfl
    have hleaf : ∀ (w : α) (n : Nat) (v : α), Tr.set (d + 1) (.leaf w) n v = bif bitAt n d then .node (.leaf w) (Tr.set d (.leaf w) n v) else .node (Tr.set d (.leaf w) n v) (.leaf w) := fun _ _ _ => rfl
    cases t with
    | leaf w =>
      rw [hleaf, hleaf]
      cases hb : bitAt n d <;> cases hm : bitAt m d <;> simp only [cond_true, cond_false, hnode, hb, hm]
      · rw [ih _ _ _ _ _ (hcase (by rw [hb, hm]))]
      · rw [ih _ _ _ _ _ (hcase (by rw [hb, hm]))]
    | node l r =>
      rw [hnode, hnode]
      cases hb : bitAt n d <;> cases hm : bitAt m d <;> simp only [cond_true, cond_false, hnode, hb, hm]
      · rw [ih _ _ _ _ _ (hcase (by rw [hb, hm]))]
      · rw [ih _ _ _ _ _ (hcase (by rw [hb, hm]))]

/-! forcing changes nothing -/
theorem forceNat_eq (n : Nat) (k : Nat → Bool) : forceNat n k = k n := rfl
theorem forceInt_eq (n : Int) (k : Int → Bool) : forceInt n k = k n := by cases n <;> rfl
theorem forceList_eq (l : List α) : ∀ k : List α → Bool, forceList l k = k l := by
  induction l with
  | nil => intro k; rfl
  | cons a l ih => intro k; exact ih fun l => k (a :: l)

theorem natsEq_eq (a b : List Nat) : natsEq a b = (a == b) := by
  induction a generalizing b with
  | nil => cases b <;> rfl
  | cons x a ih =>
    cases b with
    | nil => rfl
    | cons y b =>
      show (Bool.rec false (natsEq a b) (Nat.beq x y) : Bool) = _
      rw [ih b]
      by_cases h : x = y
      · subst h; simp
      · have : Nat.beq x y = false := by
          cases hb : Nat.beq x y
          · rfl
          · exact absurd (Nat.eq_of_beq_eq_true hb) h
        rw [this]
        have h2 : (x == y) = false := by simpa using h
        simp [List.cons_beq_cons, h2]

/-- a list of values stored from place i on -/
def setMany (d : Nat) : List AV → TM → Nat → TM
  | [], t, _ => t
  | v :: l, t, i => setMany d l (Tr.set d t i v) (i + 1)
theorem storeL_eq (d : Nat) (vs : List AV) : ∀ (t : TM) (i : Nat) (k : TM → Bool), storeL d vs t i k = k (setMany d vs t i) := by
  induction vs with
  | nil => intro t i k; rfl
  | cons v vs ih =>
    intro t i k
    show Tr.setK d t i v (fun t => storeL d vs t (i + 1) k) = _
    rw [Tr.setK_eq]; exact ih _ _ _
theorem get_setMany (d : Nat) (vs : List AV) : ∀ (t : TM) (i m : Nat), i + vs.length ≤ 2 ^ d → m < 2 ^ d →
    Tr.get d (setMany d vs t i) m = if i ≤ m then (vs[m - i]?).getD (Tr.get d t m) else Tr.get d t m := by
  induction vs with
  | nil => intro t i m _ _; simp [setMany]
  | cons v vs ih =>
    intro t i m hl hm
    simp only [List.length_cons] at hl
    rw [setMany, ih _ _ _ (by omega) hm, Tr.get_set_lt d t i m v (by omega) hm]
    by_cases h : m = i
    · subst h; simp [show ¬ m + 1 ≤ m by omega]
    · by_cases h2 : i ≤ m
      · have h3 : i + 1 ≤ m := by omega
        rw [if_pos h3, if_pos h2, if_neg h, show m - i = (m - (i + 1)) + 1 by omega]
        simp
      · rw [if_neg (by omega), if_neg h2, if_neg h]

def getMany (d : Nat) (t : TM) : Nat → Nat → List AV
  | 0, _ => []
  | n + 1, i => Tr.get d t i :: getMany d t n (i + 1)
theorem loadL_eq (d : Nat) (t : TM) (n : Nat) : ∀ (i : Nat) (k : List AV → Bool), loadL d t n i k = k (getMany d t n i) := by
  induction n with
  | zero => intro i k; rfl
  | succ n ih =>
    intro i k
    show Tr.getK d t i (fun v => loadL d t n (i + 1) fun l => k (v :: l)) = _
    rw [Tr.getK_eq, ih]; rfl
@[simp] theorem length_getMany (d : Nat) (t : TM) (n i : Nat) : (getMany d t n i).length = n := by
  induction n generalizing i with
  | zero => rfl
  | succ n ih => simp [getMany, ih]
theorem get_getMany (d : Nat) (t : TM) (n i j : Nat) (h : j < n) : (getMany d t n i)[j]? = some (Tr.get d t (i + j)) := by
  induction n generalizing i j with
  | zero => omega
  | succ n ih =>
    cases j with
    | zero => simp [getMany]
    | succ j => simp only [getMany, List.getElem?_cons_succ]; rw [ih (i + 1) j (by omega)]; congr 2; omega

theorem le_depthOf (n : Nat) : n ≤ 2 ^ depthOf n := by
  unfold depthOf
  cases h : Nat.ble n 1
  · simp only
    have := Nat.lt_log2_self (n := n - 1)
    omega
  · simp only [Nat.pow_zero]; exact Nat.le_of_ble_eq_true h
end Am
