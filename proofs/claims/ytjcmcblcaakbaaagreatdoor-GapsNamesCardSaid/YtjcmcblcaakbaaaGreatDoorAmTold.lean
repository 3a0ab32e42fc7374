/- Functions of Go's library told of by their contracts: strings.Index, strings.TrimRight; entries without a body: IndexByteString, NoEscape. -/
import Derived.Test.YtjcmcblcaakbaaaGreatDoorAmExt
import Derived.Lib.Index
import Derived.Lib.Bytealg
import Derived.Lib.SlTrimSet
import Derived.Lib.Builder
import Derived.Below
import Derived.ProofKit
set_option linter.unusedVariables false
set_option linter.unusedSimpArgs false
noncomputable section
namespace Am
open Go
variable {P : Program} {β : Beta} {h : HP} {nx : Nat} {w : World}

/-- a told function's answer by value, the heap as it was -/
theorem told_ret {v : AV} {v' : Value} {w' : World} {k kp : KV} (hr : HRel β h nx w) (hs : w.heap.size ≤ w'.heap.size) (hk : ∀ b, b < w.heap.size → w'.heap[b]? = w.heap[b]?) (hos : w'.os = w.os) (hout : w'.output = w.output)
    (hv : VRel β v v') (e : k v h nx = true) : EndOK β h nx w k kp (.returned v') w' := by
  obtain ⟨g1, g2⟩ := hr.grow hs hk hos hout
  exact ⟨β, v, h, nx, g1, g2, hv, e⟩

/-! ### indices -/
def idxN (s : List Nat) (c : Nat) : Int := match s with
  | [] => -1
  | b :: l => bif Nat.beq b c then 0 else bif idxN l c == -1 then -1 else idxN l c + 1
def preN : List Nat → List Nat → Bool
  | [], _ => true
  | a :: l, b :: r => Nat.beq a b && preN l r
  | _ :: _, [] => false
def indexN (s sub : List Nat) : Int := match s with
  | [] => bif sub.isEmpty then 0 else -1
  | b :: l => bif preN sub (b :: l) then 0 else bif indexN l sub == -1 then -1 else indexN l sub + 1
theorem beq_toNat (a b : UInt8) : Nat.beq a.toNat b.toNat = (a == b) := by
  rw [Bool.eq_iff_iff]
  constructor
  · intro hh; have := Nat.eq_of_beq_eq_true hh; simpa [UInt8.toNat_inj] using this
  · intro hh; have : a = b := by simpa using hh
    subst this; exact Nat.beq_refl _
theorem idxN_eq (c : UInt8) : ∀ l : List UInt8, idxN (l.map UInt8.toNat) c.toNat = Lib.indexByte l c
  | [] => rfl
  | b :: l => by
    have ih := idxN_eq c l
    simp only [List.map_cons, idxN, Lib.indexByte, ih, beq_toNat]
    cases (b == c) <;> cases h : (Lib.indexByte l c == -1) <;> simp [h]
theorem preN_eq : ∀ (sub l : List UInt8), preN (sub.map UInt8.toNat) (l.map UInt8.toNat) = sub.isPrefixOf l
  | [], _ => by simp [preN]
  | a :: sub, [] => by simp [preN]
  | a :: sub, b :: l => by simp [preN, preN_eq sub l, beq_toNat, List.isPrefixOf]
theorem indexN_eq (sub : List UInt8) : ∀ l : List UInt8, indexN (l.map UInt8.toNat) (sub.map UInt8.toNat) = Lib.index l sub
  | [] => by cases sub <;> simp [indexN, Lib.index]
  | b :: l => by
    have ih := indexN_eq sub l
    have hp := preN_eq sub (b :: l)
    simp only [List.map_cons] at hp
    simp only [List.map_cons, indexN, Lib.index, ih, hp]
    cases (sub.isPrefixOf (b :: l)) <;> cases h : (Lib.index l sub == -1) <;> simp [h]

/-- strings.Index. At one byte whatever the world; else the length of what the processor's search takes is some number. -/
def isGlob (g : Nat) (o : AObj) : Bool := match o with | .glob g' => Nat.beq g g' | _ => false
def indexS (g : Nat) (s sub : List Nat) (h : HP) (nx : Nat) (k : KV) : Bool :=
  Tr.getK DH h 0 fun o => Bool.rec false (forceInt (indexN s sub) fun n => k (.int .i64 n) h nx) (isGlob g o && Nat.blt 0 nx && Nat.blt s.length 4294967281)
def indexD (g : Nat) (CALL : CALLT) (args : List AV) (h : HP) (nx : Nat) (k kp : KV) : Bool :=
  match args with
  | [.str s, .str [c]] => forceInt (idxN s c) fun n => k (.int .i64 n) h nx
  | [.str s, .str sub] => indexS g s sub h nx k
  | _ => false
theorem forceInt_of {n : Int} {f : Int → Bool} (e : forceInt n f = true) : f n = true := by rw [forceInt_eq] at e; exact e
theorem one_byte {b : ByteArray} {c : Nat} (h : b.data.toList.map UInt8.toNat = [c]) : ∃ x : UInt8, b = ⟨#[x]⟩ ∧ x.toNat = c := by
  obtain ⟨⟨l⟩⟩ := b
  cases l with
  | nil => simp at h
  | cons x l =>
    cases l with
    | nil => exact ⟨x, rfl, by simpa using h⟩
    | cons y l => simp at h
theorem indexFun {f g : Nat} {fn : Func} (hN : NamesOK P) (hf : P.funcs[f]? = some fn) (hb : fn.body.isSome = true)
    (h1 : ∀ (s : ByteArray) (c : UInt8) (w : World), Calls P f #[.string s, .string ⟨#[c]⟩] w fun e w' => e = .returned (.int .i64 (Lib.indexByte s.data.toList c)) ∧ w' = w)
    (h2 : ∀ (s sub : ByteArray) (m : Int) (w : World), s.size < 4294967281 → w.cell? ⟨g, 0, none⟩ = some (.int .i64 m) →
      Calls P f #[.string s, .string sub] w fun e w' => e = .returned (.int .i64 (Lib.index s.data.toList sub.data.toList)) ∧ w' = w) : FunOK P f (indexD g) := by
  intro CALL hC β h nx w args args' k kp hr hl e
  unfold indexD at e
  split at e
  · rename_i s c
    obtain ⟨x', y', rfl, hx, hy⟩ := hl.two
    cases hx with
    | str _ sb hs =>
      cases hy with
      | str _ sb2 hs2 =>
        obtain ⟨c', rfl, rfl⟩ := one_byte hs2
        have e := forceInt_of e
        rw [run_enter hN hf hb]
        refine CallsIn.mono (F := Fence.wide) (callsIn_wide.2 (h1 sb c' w)) fun en w' he => ?_
        obtain ⟨rfl, rfl⟩ := he
        rw [← hs, idxN_eq] at e
        exact told_ret hr (Nat.le_refl _) (fun _ _ => rfl) rfl rfl (.int _ _) e
  · rename_i s sub _
    obtain ⟨x', y', rfl, hx, hy⟩ := hl.two
    cases hx with
    | str _ sb hs =>
      cases hy with
      | str _ sb2 hs2 =>
        unfold indexS at e
        rw [Tr.getK_eq] at e
        obtain ⟨hg, e⟩ := guard_of e
        simp only [Bool.and_eq_true] at hg
        obtain ⟨⟨g1, g2⟩, g3⟩ := hg
        have g1 : isGlob g (hget h 0) = true := g1
        have g2 : 0 < nx := by simpa [Nat.blt_eq] using g2
        have g3 : s.length < 4294967281 := by simpa [Nat.blt_eq] using g3
        have hsz : sb.size = s.length := str_size hs
        have e := forceInt_of e
        cases ho : hget h 0 with
        | glob g' =>
          rw [ho] at g1
          have g1 : g = g' := Nat.eq_of_beq_eq_true g1
          subst g1
          obtain ⟨i, q1, q2, q3⟩ := hr.obj 0 g2 (by rw [ho]; rfl)
          rw [ho] at q3
          obtain ⟨q4, m, q5⟩ := q3
          rw [run_enter hN hf hb]
          refine CallsIn.mono (F := Fence.wide) (callsIn_wide.2 (h2 sb sb2 m w (by omega) q5)) fun en w' he => ?_
          obtain ⟨rfl, rfl⟩ := he
          rw [← hs, ← hs2, indexN_eq] at e
          exact told_ret hr (Nat.le_refl _) (fun _ _ => rfl) rfl rfl (.int _ _) e
        | dead => rw [ho] at g1; cases g1
        | hole => rw [ho] at g1; cases g1
        | cells => rw [ho] at g1; cases g1
        | rcells => rw [ho] at g1; cases g1
        | map => rw [ho] at g1; cases g1
        | loop => rw [ho] at g1; cases g1
  · cases e

/-! ### strings.TrimRight, by ASCII bytes -/
def memN (l : List Nat) (x : Nat) : Bool := match l with | [] => false | y :: r => bif Nat.beq x y then true else memN r x
def dropN (cs : List Nat) : List Nat → List Nat
  | [] => []
  | x :: l => bif memN cs x then dropN cs l else x :: l
def trimN (s cs : List Nat) : List Nat := (dropN cs s.reverse).reverse
def trimD (CALL : CALLT) (args : List AV) (h : HP) (nx : Nat) (k kp : KV) : Bool :=
  match args with
  | [.str s, .str cs] => Bool.rec false (forceList (trimN s cs) fun l => k (.str l) h nx) (cs.all (fun c => Nat.blt c 128) && Nat.blt cs.length 1000 && Nat.blt s.length 4294967281)
  | _ => false
theorem memN_eq (x : UInt8) : ∀ l : List UInt8, memN (l.map UInt8.toNat) x.toNat = l.contains x
  | [] => by simp [memN]
  | y :: l => by
    simp only [List.map_cons, memN, beq_toNat, memN_eq x l, List.contains_cons]
    cases (x == y) <;> simp
theorem dropN_eq (cs : List UInt8) : ∀ l : List UInt8, dropN (cs.map UInt8.toNat) (l.map UInt8.toNat) = (l.dropWhile (cs.contains ·)).map UInt8.toNat
  | [] => rfl
  | x :: l => by
    simp only [List.map_cons, dropN, memN_eq, List.dropWhile_cons]
    cases cs.contains x
    · simp
    · simp [dropN_eq cs l]
theorem trimN_eq (s cs : List UInt8) : trimN (s.map UInt8.toNat) (cs.map UInt8.toNat) = (Lib.trimRightS s cs).map UInt8.toNat := by
  unfold trimN Lib.trimRightS
  rw [← List.map_reverse, dropN_eq, ← List.map_reverse]
theorem trimFun {f : Nat} {fn : Func} (hN : NamesOK P) (hf : P.funcs[f]? = some fn) (hb : fn.body.isSome = true)
    (h1 : ∀ (s cs : ByteArray) (w : World), s.size ≤ 9223372036854775807 → cs.size < 4294967281 → (∀ (j : Nat) b, cs.data.toList[j]? = some b → b.toNat < 128) →
      Calls P f #[.string s, .string cs] w fun e w' => e = .returned (.string ⟨(Lib.trimRightS s.data.toList cs.data.toList).toArray⟩) ∧ RowKit.Below w.heap.size w w') : FunOK P f trimD := by
  intro CALL hC β h nx w args args' k kp hr hl e
  unfold trimD at e
  split at e
  · rename_i s cs
    obtain ⟨x', y', rfl, hx, hy⟩ := hl.two
    cases hx with
    | str _ sb hs =>
      cases hy with
      | str _ sb2 hs2 =>
        obtain ⟨hg, e⟩ := guard_of e
        rw [forceList_eq] at e
        simp only [Bool.and_eq_true] at hg
        obtain ⟨⟨g1, g2⟩, g3⟩ := hg
        have g2 : cs.length < 1000 := by simpa [Nat.blt_eq] using g2
        have g3 : s.length < 4294967281 := by simpa [Nat.blt_eq] using g3
        have hz1 : sb.size = s.length := str_size hs
        have hz2 : sb2.size = cs.length := str_size hs2
        have hasc : ∀ (j : Nat) b, sb2.data.toList[j]? = some b → b.toNat < 128 := fun j b hj => by
          have hm : b.toNat ∈ cs := by rw [← hs2]; exact List.mem_map_of_mem (List.mem_of_getElem? hj)
          have := List.all_eq_true.1 g1 _ hm
          simpa [Nat.blt_eq] using this
        rw [run_enter hN hf hb]
        refine CallsIn.mono (F := Fence.wide) (callsIn_wide.2 (h1 sb sb2 w (by omega) (by omega) hasc)) fun en w' he => ?_
        obtain ⟨rfl, hB⟩ := he
        rw [← hs, ← hs2, trimN_eq] at e
        exact told_ret hr hB.size (fun b hb => hB.block b hb) hB.os hB.output (.str _ _ (by simp)) e
  · cases e

/-! ### entries without a body -/
def indexByteD (CALL : CALLT) (args : List AV) (h : HP) (nx : Nat) (k kp : KV) : Bool :=
  match args with
  | [.str s, .int .u8 (.ofNat c)] => Bool.rec false (forceInt (idxN s c) fun n => k (.int .i64 n) h nx) (Nat.blt c 256)
  | _ => false
theorem indexByteFun {f : Nat} (hE : ∀ (args : Array Value) (W : World), (callFunc f args).run P W = ((Extern.BytealgIndexByte.indexByte args).run P W).andThen fun v w' => .ok (.value v) w') : FunOK P f indexByteD := by
  intro CALL hC β h nx w args args' k kp hr hl e
  unfold indexByteD at e
  split at e
  · rename_i s c
    obtain ⟨x', y', rfl, hx, hy⟩ := hl.two
    obtain ⟨hc, e⟩ := guard_of e
    have hc : c < 256 := by simpa [Nat.blt_eq] using hc
    have e := forceInt_of e
    cases hx with
    | str _ sb hs =>
      cases hy
      rw [hE, Lib.run_indexByteString]
      have hcc : ((Int.ofNat c).toNat.toUInt8).toNat = c := by simp [Nat.mod_eq_of_lt hc]
      rw [← hs, ← hcc, idxN_eq] at e
      exact ⟨β, _, h, nx, hr, Step.refl .., .int _ _, e⟩
  · cases e
def sameD (CALL : CALLT) (args : List AV) (h : HP) (nx : Nat) (k kp : KV) : Bool := match args with | [v] => k v h nx | _ => false
theorem sameFun {f : Nat} (hE : ∀ (args : Array Value) (W : World), (callFunc f args).run P W = ((Extern.AbiNoEscape.same args).run P W).andThen fun v w' => .ok (.value v) w') : FunOK P f sameD := by
  intro CALL hC β h nx w args args' k kp hr hl e
  unfold sameD at e
  split at e
  · obtain ⟨x', rfl, hx⟩ := hl.one
    rw [hE]
    exact ⟨β, _, h, nx, hr, Step.refl .., hx, e⟩
  · cases e

/-! ### a heap with the one variable of the library's that is spoken of -/
def globBeta (g : Nat) : Beta := fun b => if b = 0 then some ⟨g, 0, 0, false⟩ else none
def globHeap (g : Nat) : HP := Tr.set DH noHeap 0 (.glob g)
theorem HRel.glob {g : Nat} {m : Int} (hm : w.cell? ⟨g, 0, none⟩ = some (.int .i64 m)) : HRel (globBeta g) (globHeap g) 1 w := by
  have hlt : g < w.heap.size := by
    unfold World.cell? at hm
    split at hm
    · rename_i hh; exact (Array.getElem?_eq_some_iff.1 hh).1
    · cases hm
  have h0 : hget (globHeap g) 0 = .glob g := by
    have := Tr.get_set_lt DH noHeap 0 0 (.glob g) (by decide) (by decide)
    exact this.trans (if_pos rfl)
  refine ⟨fun b i hh => ?_, by decide, fun b hb hl => ?_, fun b b' i i' hb hb' _ _ _ _ _ => by omega, fun b hb hh => ?_⟩
  · unfold globBeta at hh
    split at hh
    · omega
    · cases hh
  · have : b = 0 := by omega
    subst this
    exact ⟨⟨g, 0, 0, false⟩, rfl, hlt, by rw [h0]; exact ⟨rfl, m, hm⟩⟩
  · have : b = 0 := by omega
    subst this
    rw [h0] at hh; cases hh
theorem not_own_glob (g b : Nat) : ¬ Own (globBeta g) (globHeap g) 1 b := fun ⟨B, i, hB, ho, _⟩ => by
  have : B = 0 := by omega
  subst this
  have h0 : hget (globHeap g) 0 = .glob g := by
    have := Tr.get_set_lt DH noHeap 0 0 (.glob g) (by decide) (by decide)
    exact this.trans (if_pos rfl)
  rw [h0] at ho
  cases ho

/-! ### functions of plain values, told of by tables -/
def eqPF (a b : AV) : Bool := match a with
  | .bool x => (match b with | .bool y => x == y | _ => false)
  | .int k x => (match b with | .int l y => Nat.beq (kidx k) (kidx l) && x == y | _ => false)
  | .str x => (match b with | .str y => natsEq x y | _ => false)
  | _ => false
def eqPL : List AV → List AV → Bool
  | [], [] => true
  | a :: l, b :: r => bif eqPF a b then eqPL l r else false
  | _, _ => false
def eqPA (a b : AV) : Bool := match a with
  | .agg x => (match b with | .agg y => eqPL x y | _ => false)
  | a => eqPF a b
/-- the last ones first -/
def eqPS : List AV → List AV → Bool
  | [], [] => true
  | a :: l, b :: r => bif eqPS l r then eqPA a b else false
  | _, _ => false
def eqPV (a b : AV) : Bool := match a with
  | .tuple x => (match b with | .tuple y => eqPS x y | _ => false)
  | a => eqPA a b
theorem kidx_inj' {a b : IntKind} (h : Nat.beq (kidx a) (kidx b) = true) : a = b := kidx_inj h
theorem eqPF_eq {a b : AV} (e : eqPF a b = true) : a = b := by
  cases a <;> first | (cases e; done) | skip
  all_goals cases b <;> first | (cases e; done) | skip
  · simp only [eqPF, beq_iff_eq] at e; rw [e]
  · simp only [eqPF, Bool.and_eq_true, beq_iff_eq] at e
    rw [kidx_inj e.1, e.2]
  · simp only [eqPF, natsEq_eq, beq_iff_eq] at e; rw [e]
theorem eqPL_eq : ∀ {a b : List AV}, eqPL a b = true → a = b
  | [], [], _ => rfl
  | [], _ :: _, e => by cases e
  | _ :: _, [], e => by cases e
  | a :: l, b :: r, e => by
    simp only [eqPL] at e
    cases h : eqPF a b with
    | false => rw [h] at e; cases e
    | true => rw [h] at e; rw [eqPF_eq h, eqPL_eq (show eqPL l r = true from e)]
theorem eqPA_eq {a b : AV} (e : eqPA a b = true) : a = b := by
  cases a
  case agg x =>
    cases b <;> first | (cases e; done) | skip
    rw [eqPL_eq (show eqPL x _ = true from e)]
  all_goals exact eqPF_eq e
theorem eqPS_eq : ∀ {a b : List AV}, eqPS a b = true → a = b
  | [], [], _ => rfl
  | [], _ :: _, e => by cases e
  | _ :: _, [], e => by cases e
  | a :: l, b :: r, e => by
    simp only [eqPS] at e
    cases h : eqPS l r with
    | false => rw [h] at e; cases e
    | true => rw [h] at e; rw [eqPS_eq h, eqPA_eq (show eqPA a b = true from e)]
theorem eqPV_eq {a b : AV} (e : eqPV a b = true) : a = b := by
  cases a
  case tuple x =>
    cases b <;> first | (cases e; done) | skip
    rw [eqPS_eq (show eqPS x _ = true from e)]
  all_goals exact eqPA_eq e
/-- a value that knows no memory stands for the same whatever the blocks -/
theorem pureF {β' : Beta} {a : AV} {v : Value} (e : eqPF a a = true) (h : VRel β a v) : VRel β' a v := by
  cases h <;> first | (cases e; done) | skip
  · exact .bool _
  · exact .int _ _
  · exact .str _ _ (by assumption)
theorem eqPL_mem : ∀ {l : List AV}, eqPL l l = true → ∀ (j : Nat) a, l[j]? = some a → eqPF a a = true
  | [], _, j, a, h => by simp at h
  | b :: l, e, j, a, h => by
    simp only [eqPL] at e
    cases hb : eqPF b b with
    | false => rw [hb] at e; cases e
    | true =>
      rw [hb] at e
      cases j with
      | zero => simp at h; subst h; exact hb
      | succ j => exact eqPL_mem (show eqPL l l = true from e) j a (by simpa using h)
theorem pureA {β' : Beta} {a : AV} {v : Value} (e : eqPA a a = true) (h : VRel β a v) : VRel β' a v := by
  cases h
  case agg cs vs h1 h2 h3 => exact .agg cs vs h1 (fun j a v ha hv => pureF (eqPL_mem (show eqPL cs cs = true from e) j a ha) (h2 j a v ha hv)) h3
  all_goals first | exact pureF (β := β) e (by constructor <;> assumption) | (exfalso; cases (show false = true from e); done)
theorem eqPS_mem : ∀ {l : List AV}, eqPS l l = true → ∀ (j : Nat) a, l[j]? = some a → eqPA a a = true
  | [], _, j, a, h => by simp at h
  | b :: l, e, j, a, h => by
    simp only [eqPS] at e
    cases hb : eqPS l l with
    | false => rw [hb] at e; cases e
    | true =>
      rw [hb] at e
      cases j with
      | zero => simp at h; subst h; exact (show eqPA _ _ = true from e)
      | succ j => exact eqPS_mem hb j a (by simpa using h)
theorem pureV {β' : Beta} {a : AV} {v : Value} (e : eqPV a a = true) (h : VRel β a v) : VRel β' a v := by
  cases h
  case tuple cs vs h1 h2 => exact .tuple cs vs h1 (fun j a v ha hv => pureA (eqPS_mem (show eqPS cs cs = true from e) j a ha) (h2 j a v ha hv))
  all_goals first | exact pureA (β := β) e (by constructor <;> assumption) | (exfalso; cases (show false = true from e); done)
def lookP (tab : List (List AV × AV)) (args : List AV) : Option AV :=
  List.rec (motive := fun _ => Option AV) none (fun p _ ih => Bool.rec ih (some p.2) (eqPS p.1 args)) tab
def pureD (tab : List (List AV × AV)) (CALL : CALLT) (args : List AV) (h : HP) (nx : Nat) (k kp : KV) : Bool :=
  Option.rec (motive := fun _ => Bool) false (fun r => k r h nx) (lookP tab args)
def isV (r : AV) : KV := fun v _ _ => eqPV v r
theorem lookP_mem {tab : List (List AV × AV)} {args : List AV} {r : AV} (e : lookP tab args = some r) : ∃ p ∈ tab, eqPS p.1 args = true ∧ p.2 = r := by
  induction tab with
  | nil => cases e
  | cons p tab ih =>
    have e : (Bool.rec (motive := fun _ => Option AV) (lookP tab args) (some p.2) (eqPS p.1 args)) = some r := e
    cases hp : eqPS p.1 args with
    | true => rw [hp] at e; cases e; exact ⟨p, List.mem_cons_self .., hp, rfl⟩
    | false => rw [hp] at e; obtain ⟨q, hq, hr⟩ := ih e; exact ⟨q, List.mem_cons_of_mem _ hq, hr⟩
def checkTab (CALL0 : CALLT) (f : Nat) (tab : List (List AV × AV)) : Bool :=
  List.rec (motive := fun _ => Bool) true (fun p _ ih => Bool.rec false ih (CALL0 (.func f [] []) p.1 noHeap 0 (isV p.2) noP)) tab
theorem checkTab_mem {CALL0 : CALLT} {f : Nat} {tab : List (List AV × AV)} (e : checkTab CALL0 f tab = true) : ∀ p ∈ tab, CALL0 (.func f [] []) p.1 noHeap 0 (isV p.2) noP = true := by
  induction tab with
  | nil => intro p hp; cases hp
  | cons q tab ih =>
    obtain ⟨h1, h2⟩ := guard_of (show (Bool.rec (motive := fun _ => Bool) false (checkTab CALL0 f tab) (CALL0 (.func f [] []) q.1 noHeap 0 (isV q.2) noP)) = true from e)
    intro p hp
    rcases List.mem_cons.1 hp with rfl | hp
    · exact h1
    · exact ih h2 p hp
theorem pureFun {CALL0 : CALLT} (hN : NamesOK P) (hC0 : CallOK P CALL0) {f : Nat} {fn : Func} (hf : P.funcs[f]? = some fn) (hb : fn.body.isSome = true) {tab : List (List AV × AV)}
    (htab : ∀ p ∈ tab, CALL0 (.func f [] []) p.1 noHeap 0 (isV p.2) noP = true) : FunOK P f (pureD tab) := by
  intro CALL hC β h nx w args args' k kp hr hl e
  obtain ⟨r, hr1, e1⟩ := opt_of (show (Option.rec (motive := fun _ => Bool) false (fun r => k r h nx) (lookP tab args)) = true from e)
  clear e
  obtain ⟨p, hp, hpa, rfl⟩ := lookP_mem hr1
  have hpa2 : p.1 = args := eqPS_eq hpa
  subst hpa2
  have hl0 : LRel noBeta p.1 args' := ⟨hl.1, fun j a v ha hv => pureA (eqPS_mem hpa j a ha) (hl.2 j a v ha hv)⟩
  have hc := calls_of hN hC0 hf hb (HRel.empty w) hl0 (htab _ hp)
  rw [run_enter hN hf hb]
  refine CallsIn.mono (F := Fence.wide) hc fun en w' he => ?_
  cases en with
  | outgrown => exact he
  | panicked ch => obtain ⟨_, _, _, _, _, _, _, _, _, hk⟩ := he; cases hk
  | returned v' =>
    obtain ⟨β', v, h', nx', q1, q2, q3, hk⟩ := he
    have hk : eqPV v p.2 = true := hk
    have hv := eqPV_eq hk
    subst hv
    exact told_ret hr q2.size (fun b hb => q2.keep b hb (not_own_empty b)) q2.os q2.out (pureV hk q3) e1
end Am
set_option linter.unusedVariables false
set_option linter.unusedSimpArgs false
namespace Am
open Go
variable {P : Program} {β : Beta} {h : HP} {nx : Nat} {w : World}

/-- a table each of whose rows some sound evaluator answers -/
theorem tableFun2 (hN : NamesOK P) {f : Nat} {fn : Func} (hf : P.funcs[f]? = some fn) (hb : fn.body.isSome = true) {tab : List (List Nat × List Nat)}
    (htab : ∀ p ∈ tab, ∃ CALL0 : CALLT, CallOK P CALL0 ∧ CALL0 (.func f [] []) [.str p.1] noHeap 0 (isStr p.2) noP = true) : FunOK P f (tableD tab) := by
  intro CALL hC β h nx w args args' k kp hr hl e
  unfold tableD at e
  split at e
  · rename_i s
    obtain ⟨r, hr1, e⟩ := opt_of e
    obtain ⟨s', rfl, hs⟩ := hl.one
    have hs0 : VRel noBeta (.str s) s' := by cases hs with | str _ x hx => exact .str _ x hx
    obtain ⟨CALL0, hC0, h0⟩ := htab _ (lookT_mem hr1)
    have hc := calls_of hN hC0 hf hb (HRel.empty w) (.cons hs0 (.nil _)) h0
    rw [run_enter hN hf hb]
    refine CallsIn.mono (F := Fence.wide) hc fun en w' he => ?_
    cases en with
    | outgrown => exact he
    | panicked ch => obtain ⟨_, _, _, _, _, _, _, _, _, hk⟩ := he; cases hk
    | returned v' =>
      obtain ⟨β', v, h', nx', q1, q2, q3, hk⟩ := he
      obtain ⟨g1, g2⟩ := hr.grow q2.size (fun b hb => q2.keep b hb (not_own_empty b)) q2.os q2.out
      refine ⟨β, .str r, h, nx, g1, g2, ?_, e⟩
      cases v <;> first | (cases hk; done) | skip
      rename_i u
      have hk : natsEq u r = true := hk
      rw [natsEq_eq] at hk
      have := eq_of_beq hk
      subst this
      cases q3 with | str l x hx => exact .str _ x hx
  · cases e

/-- a table; what it does not hold is evaluated -/
def pureDF (P : Program) (f : Nat) (tab : List (List AV × AV)) (CALL : CALLT) (args : List AV) (h : HP) (nx : Nat) (k kp : KV) : Bool :=
  Option.rec (motive := fun _ => Bool) (enterF P CALL P.funcs[f]? args h nx k kp) (fun r => k r h nx) (lookP tab args)
theorem pureFunF {CALL0 : CALLT} (hmo : P.follows .mixedOrders = true) (hN : NamesOK P) (hD : DrawsOK P) (hC0 : CallOK P CALL0) {f : Nat} {fn : Func} (hf : P.funcs[f]? = some fn) (hb : fn.body.isSome = true) {tab : List (List AV × AV)}
    (htab : ∀ p ∈ tab, CALL0 (.func f [] []) p.1 noHeap 0 (isV p.2) noP = true) : FunOK P f (pureDF P f tab) := by
  intro CALL hC β h nx w args args' k kp hr hl e
  unfold pureDF at e
  cases hl0 : lookP tab args with
  | none => rw [hl0] at e; exact enterF_ok hmo hN hD hC hr hl e
  | some r => exact pureFun hN hC0 hf hb htab CALL hC β h nx w args args' k kp hr hl (by unfold pureD; rw [hl0] at e ⊢; exact e)

/-! ### the row's last step: of what was there nothing has turned -/
section
open Go.RowKit Go.WideShapes Go.ChangeShapes
variable {H : Type} {enc : TypeId × Value → H}
theorem frozen_of_heap {w w' : World} {b off : Nat} (hk : w'.heap[b]? = w.heap[b]?) : w'.frozen? ⟨b, off, none⟩ = w.frozen? ⟨b, off, none⟩ := by
  simp only [World.frozen?, hk]
theorem post_kept {f : Func} {s : ChangeSpec} {apart fresh handsOn again : Bool} {W W' : World} {args : Array Value} {v : Value} {ds gs : List (DataW H)} {before pa pv : List MemPlace}
    (hW : DataW.Whole enc P f.params.toList s.vars apart W args.toList ds gs before)
    (hres : ∀ (b : Nat) (sp : Nat → Bool) (hd : Bool), DataW.TrodAll enc P W' b sp hd f.resultTypes.toList (v.resultList f.resultTypes.size) (s.fn H (ds ++ gs)).results [])
    (hargs : ∀ sp : Nat → Bool, (∀ p ∈ before, sp p.block = true) → DataW.TrodAll enc P W' 0 sp true f.params.toList args.toList (s.fn H (ds ++ gs)).args pa)
    (hvars : ∀ sp : Nat → Bool, (∀ p ∈ before, sp p.block = true) → DataW.TrodVars enc P W' sp s.vars (s.fn H (ds ++ gs)).vars pv)
    (hps : before = pa ++ pv) (hos : W'.os = W.os) (hout : W'.output = W.output) (hk : ∀ b, b < W.heap.size → W'.heap[b]? = W.heap[b]?)
    (hok : ∀ (j : Nat) (t : TypeId) (r : Value), f.resultTypes[j]? = some t → (v.resultList f.resultTypes.size)[j]? = some r → Value.okWide P W' .any 0 t r) :
    s.post enc P f apart fresh handsOn again W args v W' := by
  have hlt : ∀ p ∈ before, p.block < W.heap.size := fun p hp => hW.lt p hp
  have hold : ∀ p ∈ before, (fun b => decide (b < W.heap.size)) p.block = true := fun p hp => by simpa using hlt p hp
  refine ⟨ds, gs, before, [], pa, pv, hW, hres _ _ _, hargs _ hold, hvars _ hold, World.keptBut_mono (fun p hp => hp.elim) (kept_of hos hout hk), fun _ => ?_⟩
  obtain ⟨_, _, _, _, _, hz, hn⟩ := hW
  refine ⟨hok, _, _, ([] ++ pa) ++ pv, ⟨[] ++ pa, pv, trodAll_append (hargs _ (fun _ _ => rfl)) (hres _ _ _), hvars _ (fun _ _ => rfl), rfl, ?_, ?_⟩, ?_⟩
  · intro b off hp
    have hin : MemPlace.cell b off ∈ before := by rw [hps]; simpa using hp
    rw [frozen_of_heap (hk b (hlt _ hin))]
    exact hz b off hin
  · intro ha
    have := hn ha
    rw [hps] at this
    simpa using this
  · intro p hp _
    rw [hps]
    simpa using hp
end
end Am
