/- A value is determined by its abstract form, where eqA says yes. -/
import Derived.Test.YtjcmcblcaakbaaaGreatDoorAmOpsB
import Derived.Test.YtjcmcblcaakbaaaGreatDoorAmCode
set_option linter.unusedVariables false
set_option linter.unusedSimpArgs false
noncomputable section
namespace Am
open Go

theorem map_toNat_inj : ∀ {l r : List UInt8}, l.map UInt8.toNat = r.map UInt8.toNat → l = r := by
  intro l
  induction l with
  | nil => intro r h; cases r with | nil => rfl | cons => simp at h
  | cons x l ih => intro r h; cases r with
    | nil => simp at h
    | cons y r =>
      simp only [List.map_cons, List.cons.injEq] at h
      rw [UInt8.toNat_inj.1 h.1, ih h.2]
theorem bytes_inj {s s' : ByteArray} (h : s.data.toList.map UInt8.toNat = s'.data.toList.map UInt8.toNat) : s = s' := by
  have h1 := map_toNat_inj h
  cases s; cases s'
  simp only [ByteArray.mk.injEq]
  exact Array.toList_inj.1 h1

def Det (a : AV) : Prop := ∀ β v v', VRel β a v → VRel β a v' → v = v'
theorem eqF_ok {a b : AV} (e : eqF a b = true) : a = b ∧ Det a := by
  cases a <;> (unfold eqF at e) <;> first | (cases e; done) | skip
  case bool x => 
    cases b <;> first | (cases e; done) | skip
    have := eq_of_beq e
    subst this
    exact ⟨rfl, fun β v v' h h' => by cases h; cases h'; rfl⟩
  case int k x =>
    cases b <;> first | (cases e; done) | skip
    simp only [Bool.and_eq_true] at e
    have h1 := kidx_inj e.1
    have h2 := eq_of_beq e.2
    subst h1 h2
    exact ⟨rfl, fun β v v' h h' => by cases h; cases h'; rfl⟩
  case str x =>
    cases b <;> first | (cases e; done) | skip
    rename_i y
    have e : natsEq x y = true := e
    rw [natsEq_eq] at e
    have := eq_of_beq e
    subst this
    exact ⟨rfl, fun β v v' h h' => by
      cases h with | str l s hs => cases h' with | str l' s' hs' => rw [bytes_inj (hs.trans hs'.symm)]⟩
  case ptr x i =>
    cases b <;> first | (cases e; done) | skip
    simp only [Bool.and_eq_true] at e
    have h1 := Nat.eq_of_beq_eq_true e.1
    have h2 := Nat.eq_of_beq_eq_true e.2
    subst h1 h2
    exact ⟨rfl, fun β v v' h h' => by
      cases h with | ptr b o i hi => cases h' with | ptr b' o' i' hi' => rw [hi] at hi'; cases hi'; rfl⟩
  case nilptr =>
    cases b <;> first | (cases e; done) | skip
    exact ⟨rfl, fun β v v' h h' => by cases h; cases h'; rfl⟩
  case slice x o l m s =>
    cases b <;> first | (cases e; done) | skip
    simp only [Bool.and_eq_true] at e
    have h1 := Nat.eq_of_beq_eq_true e.1.1.1.1
    have h2 := Nat.eq_of_beq_eq_true e.1.1.1.2
    have h3 := Nat.eq_of_beq_eq_true e.1.1.2
    have h4 := Nat.eq_of_beq_eq_true e.1.2
    have h5 := Nat.eq_of_beq_eq_true e.2
    subst h1 h2 h3 h4 h5
    refine ⟨rfl, fun β v v' h h' => ?_⟩
    cases h with
    | slice b off len mc es cap i hi g1 g2 g3 =>
      cases h' with
      | slice b' off' len' mc' es' cap' i' hi' f1 f2 f3 =>
        rw [hi] at hi'; cases hi'
        have : cap = cap' := by
          cases ho : i.op with
          | false => have := g3.1 ho; have := f3.1 ho; omega
          | true =>
            have a1 := g3.2 ho; have a2 := f3.2 ho
            have : cap * s = cap' * s := by omega
            exact Nat.eq_of_mul_eq_mul_right (Nat.pos_of_ne_zero a1.1) this
        rw [this]
  case nilslice =>
    cases b <;> first | (cases e; done) | skip
    exact ⟨rfl, fun β v v' h h' => by cases h; cases h'; rfl⟩
  case map x =>
    cases b <;> first | (cases e; done) | skip
    have h1 := Nat.eq_of_beq_eq_true e
    subst h1
    exact ⟨rfl, fun β v v' h h' => by
      cases h with | map b i hi => cases h' with | map b' i' hi' => rw [hi] at hi'; cases hi'; rfl⟩
  case nilmap =>
    cases b <;> first | (cases e; done) | skip
    exact ⟨rfl, fun β v v' h h' => by cases h; cases h'; rfl⟩
  case func f x y =>
    cases b <;> first | (cases e; done) | skip
    simp only [Bool.and_eq_true, List.isEmpty_iff] at e
    obtain ⟨⟨⟨⟨e1, rfl⟩, rfl⟩, rfl⟩, rfl⟩ := e
    have h1 := Nat.eq_of_beq_eq_true e1
    subst h1
    exact ⟨rfl, fun β v v' h h' => by
      cases h with
      | func _ _ _ a c l1 _ l2 _ => cases h' with
        | func _ _ _ a' c' l1' _ l2' _ =>
          cases a <;> cases a' <;> cases c <;> cases c' <;> first | rfl | (simp at l1 l1' l2 l2')⟩
  case nilfunc =>
    cases b <;> first | (cases e; done) | skip
    exact ⟨rfl, fun β v v' h h' => by cases h; cases h'; rfl⟩
  case niliface =>
    cases b <;> first | (cases e; done) | skip
    exact ⟨rfl, fun β v v' h h' => by cases h; cases h'; rfl⟩
theorem eqFs_ok : ∀ {a b : List AV}, eqFs a b = true → a = b ∧ ∀ β v v', LRel β a v → LRel β a v' → v = v' := by
  intro a
  induction a with
  | nil => intro b e; cases b with
    | nil => exact ⟨rfl, fun β v v' h h' => by rw [h.nil_inv, h'.nil_inv]⟩
    | cons => cases e
  | cons x l ih => intro b e; cases b with
    | nil => cases e
    | cons y r =>
      have e : (eqF x y && eqFs l r) = true := e
      simp only [Bool.and_eq_true] at e
      obtain ⟨rfl, d1⟩ := eqF_ok e.1
      obtain ⟨rfl, d2⟩ := ih e.2
      refine ⟨rfl, fun β v v' h h' => ?_⟩
      obtain ⟨u, us, rfl, a1, a2⟩ := h.cons_inv
      obtain ⟨u', us', rfl, b1, b2⟩ := h'.cons_inv
      rw [d1 β u u' a1 b1, d2 β us us' a2 b2]
theorem eqA_ok {a b : AV} (e : eqA a b = true) : a = b ∧ Det a := by
  cases a <;> first | exact eqF_ok e | skip
  case agg x =>
    cases b <;> first | (cases e; done) | skip
    obtain ⟨rfl, d⟩ := eqFs_ok (show eqFs _ _ = true from e)
    refine ⟨rfl, fun β v v' h h' => ?_⟩
    cases h with | agg _ vs l1 l2 _ => cases h' with | agg _ vs' l1' l2' _ => rw [d β vs vs' ⟨l1, l2⟩ ⟨l1', l2'⟩]
  case iface t x =>
    cases b <;> first | (cases e; done) | skip
    rename_i u y
    have e : (Nat.beq t u && eqF x y) = true := e
    simp only [Bool.and_eq_true] at e
    have h1 := Nat.eq_of_beq_eq_true e.1
    obtain ⟨rfl, d⟩ := eqF_ok e.2
    subst h1
    exact ⟨rfl, fun β v v' h h' => by
      cases h with | iface _ _ u a1 => cases h' with | iface _ _ u' a2 => rw [d β u u' a1 a2]⟩
end Am
