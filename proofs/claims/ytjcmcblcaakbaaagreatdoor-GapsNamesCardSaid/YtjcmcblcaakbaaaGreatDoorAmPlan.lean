/- Regions that draw their order of evaluation: one order (what only reads goes first), what must be looked at again, and when that is enough. Closed. -/
import Derived.Test.YtjcmcblcaakbaaaGreatDoorAm
import Derived.Orders
set_option linter.unusedVariables false

noncomputable section
namespace Am
open Go

def isQuiet (o : Op) : Bool := match o with
  | .move _ => true | .assign _ => true | .pick .. => true | .build .. => true | .load .. => true | .nilCheck _ => true | .binOp .. => true | .unOp .. => true | .convert .. => true
  | .makeInterface .. => true | .makeFunc .. => true | .slice .. => true | .fieldAddr .. => true | .field .. => true | .indexAddr .. => true | .index .. => true | .lookup .. => true | .extract .. => true
  | .call ⟨.builtin .len, _, _⟩ => true
  | _ => false
def isDefer (o : Op) : Bool := match o with | .defer _ => true | _ => false
def atO (ops : Array Oper) (i : Nat) (f : Oper → Bool) : Bool := match ops[i]? with | some o => f o | none => false
def predsO (o : Oper) : List Nat := (o.after.toList.filter (Region.binds .any)).map (·.on)
def predsAt (ops : Array Oper) (i : Nat) : List Nat := match ops[i]? with | some o => predsO o | none => []
def quietAt (ops : Array Oper) (i : Nat) : Bool := atO ops i fun o => isQuiet o.op
/-- the first operation of l that may come, given what has come; a quiet one if there is one -/
def nextOp (ops : Array Oper) (done : List Nat) (l : List Nat) (quiet : Bool) : Option Nat :=
  l.find? fun i => (bif quiet then quietAt ops i else true) && (predsAt ops i).all fun j => done.contains j
def canon (ops : Array Oper) : Nat → List Nat → List Nat → List Nat
  | 0, _, _ => []
  | f + 1, done, l =>
    match nextOp ops done l true with
    | some i => i :: canon ops f (i :: done) (l.erase i)
    | none => match nextOp ops done l false with
      | some i => i :: canon ops f (i :: done) (l.erase i)
      | none => []
abbrev Anc := List (Nat × List Nat)
def ancOf (T : Anc) (i : Nat) : List Nat := match T.find? (fun p => Nat.beq p.1 i) with | some p => p.2 | none => []
def addNew (l : List Nat) (x : Nat) : List Nat := bif l.contains x then l else x :: l
def ancTab (ops : Array Oper) (order : List Nat) : Anc :=
  order.foldl (fun T i => (i, (predsAt ops i).foldl (fun acc p => (ancOf T p).foldl addNew (addNew acc p)) []) :: T) []
def unordT (T : Anc) (i j : Nat) : Bool := !(ancOf T i).contains j && !(ancOf T j).contains i
inductive Plan where
  | done
  | quiet (i : Nat) (p : Plan)
  | act (j : Nat) (rc : List Nat) (p : Plan)
  | both (p q : Plan)
/-! the plan, by numbers as sets: what it answers is checked (okPlan) -/
abbrev PW := 256
def getW (t i : Nat) : Nat := Nat.land (Nat.shiftRight t (PW * i)) (2 ^ PW - 1)
def hasBit (n i : Nat) : Bool := Nat.beq (Nat.land (Nat.shiftRight n i) 1) 1
def forceP (n : Nat) (k : Nat → Plan) : Plan := Nat.rec (motive := fun _ => Plan) (k 0) (fun m _ => k m) (n + 1)
def maskL (l : List Nat) : Nat := List.rec (motive := fun _ => Nat) 0 (fun j _ ih => Nat.lor (Nat.shiftLeft 1 j) ih) l
def predTab (l : List Oper) : Nat → Nat := List.rec (motive := fun _ => Nat → Nat) (fun _ => 0) (fun o _ ih i => Nat.lor (Nat.shiftLeft (maskL (predsO o)) (PW * i)) (ih (i + 1))) l
def quietTab (l : List Oper) : Nat → Nat := List.rec (motive := fun _ => Nat → Nat) (fun _ => 0) (fun o _ ih i => Nat.lor (bif isQuiet o.op then Nat.shiftLeft 1 i else 0) (ih (i + 1))) l
/-- what must come ahead -/
def orAnc (t : Nat) (m i : Nat) : Nat := Nat.rec (motive := fun _ => Nat) m (fun j ih => bif hasBit m j then Nat.lor (getW t j) ih else ih) i
def forceN (n : Nat) (k : Nat → Nat) : Nat := Nat.rec (motive := fun _ => Nat) (k 0) (fun m _ => k m) (n + 1)
def ancN (pm : Nat) (n : Nat) : Nat := Nat.rec (motive := fun _ => Nat) 0 (fun i t => forceN t fun t => Nat.lor t (Nat.shiftLeft (orAnc t (getW pm i) i) (PW * i))) n
def okNow (pm qm : Nat) (want : Bool) (done i : Nat) : Bool := bif hasBit done i then false else bif (hasBit qm i == want) then Nat.beq (Nat.land (getW pm i) done) (getW pm i) else false
def nextN (pm qm n : Nat) (want : Bool) (done : Nat) : Nat := Nat.rec (motive := fun _ => Nat) n (fun f ih => bif okNow pm qm want done (n - (f + 1)) then n - (f + 1) else ih) n
def actsN (pm qm n : Nat) (done : Nat) : List Nat := Nat.rec (motive := fun _ => List Nat) [] (fun f ih => bif okNow pm qm false done (n - (f + 1)) then (n - (f + 1)) :: ih else ih) n
def rcOf (an : Nat) (dn : List Nat) (j : Nat) : List Nat := dn.filter fun x => !hasBit (getW an j) x
def actsOf (f : Nat → Plan) (rc : Nat → List Nat) : List Nat → Plan
  | [] => .done
  | [j] => forceP j fun j => .act j (rc j) (f j)
  | j :: l => .both (forceP j fun j => .act j (rc j) (f j)) (actsOf f rc l)
def planN (pm qm an n : Nat) (fuel : Nat) : Nat → List Nat → Plan :=
  Nat.rec (motive := fun _ => Nat → List Nat → Plan) (fun _ _ => .done) (fun _ ih done dn =>
    forceP (nextN pm qm n true done) fun i => bif Nat.blt i n then .quiet i (forceP (Nat.lor done (Nat.shiftLeft 1 i)) fun d => ih d (i :: dn))
      else actsOf (fun j => forceP (Nat.lor done (Nat.shiftLeft 1 j)) fun d => ih d dn) (rcOf an dn) (actsN pm qm n done)) fuel
def orderOf (ops : Array Oper) : List Nat := canon ops ops.size [] (List.range ops.size)
def plan (ops : Array Oper) : Plan :=
  forceP (predTab ops.toList 0) fun pm => forceP (quietTab ops.toList 0) fun qm => forceP (ancN pm ops.size) fun an => forceP ops.size fun n => planN pm qm an n n 0 []

def hasBoth : Plan → Bool
  | .done => false
  | .quiet _ p => hasBoth p
  | .act _ _ p => hasBoth p
  | .both _ _ => true
/-- operations that make one block each, and nothing else -/
def makesOne (o : Oper) : Bool := o.guard.isNone && match o.op with | .alloc _ => true | .makeSlice .. => true | _ => false
def resOf (ops : Array Oper) : List Nat := bif hasBoth (plan ops) then (List.range ops.size).filter fun i => atO ops i makesOne else []
def psz : Plan → Nat
  | .done => 0
  | .quiet _ p => psz p + 1
  | .act _ _ p => psz p + 1
  | .both p q => Nat.max (psz p) (psz q)
def heads : Plan → List Nat
  | .act j _ _ => [j]
  | .both p q => heads p ++ heads q
  | _ => []
def okPlan (ops : Array Oper) (T : Anc) : Plan → Bool → Array Bool → List Nat → Bool
  | .done, top, listed, dn => top && (Region.ready .any ops listed).isEmpty
  | .quiet i p, top, listed, dn => top && quietAt ops i && (Region.ready .any ops listed).contains i && okPlan ops T p true (listed.setIfInBounds i true) (i :: dn)
  | .act j rc p, top, listed, dn => !quietAt ops j && (Region.ready .any ops listed).contains j && (!top || (Region.ready .any ops listed).all fun x => Nat.beq x j) && (dn.all fun x => !unordT T x j || rc.contains x) && okPlan ops T p true (listed.setIfInBounds j true) dn
  | .both p q, top, listed, dn => !(Region.ready .any ops listed).isEmpty && (!top || (Region.ready .any ops listed).all fun x => (heads p ++ heads q).contains x) && okPlan ops T p false listed dn && okPlan ops T q false listed dn
def heldB (ops : Array Oper) (T : Anc) (i : Nat) : Bool := quietAt ops i && (List.range ops.size).any fun j => !quietAt ops j && unordT T i j
def noHit (ops : Array Oper) (x y : Oper) : Bool := match x.dst with | some d => !(y.looksAt ops).contains d | none => true
def noSame (x y : Oper) : Bool := match x.dst with | some d => y.dst != some d | none => true
def okS0 (ops : Array Oper) : Bool := Region.noSelect ops && ops.toList.all fun o => !isDefer o.op
def okS1 (ops : Array Oper) (T : Anc) : Bool := (List.range ops.size).all fun j => (ancOf T j).all fun x => (predsAt ops j).contains x || (predsAt ops j).any fun p => (ancOf T p).contains x
def okS2 (ops : Array Oper) (T : Anc) : Bool := (List.range ops.size).all fun i => !quietAt ops i || (List.range ops.size).all fun j => Nat.beq i j || !unordT T i j || atO ops i fun x => atO ops j fun y => x.apart ops y
def okS3 (ops : Array Oper) (T : Anc) : Bool := (List.range ops.size).all fun i => !heldB ops T i || (List.range ops.size).all fun k =>
  (Nat.beq i k || atO ops i fun x => atO ops k fun y => noSame x y) && (!heldB ops T k || (ancOf T k).contains i || atO ops i fun x => atO ops k fun y => noHit ops x y)
def drawOkT (ops : Array Oper) (T : Anc) : Bool := okS0 ops && okS1 ops T && okS2 ops T && okS3 ops T && Nat.ble (psz (plan ops)) ops.size && okPlan ops T (plan ops) true (Array.replicate ops.size false) []
def drawOk (ops : Array Oper) : Bool := drawOkT ops (ancTab ops (orderOf ops))
def drawsOk : Code → Bool
  | .region _ ops draw => !draw || drawOk ops
  | .seq a b => drawsOk a && drawsOk b
  | .cond _ a b => drawsOk a && drawsOk b
  | .block _ b => drawsOk b
  | .loop b => drawsOk b
  | .rangeFunc _ _ a b => drawsOk a && drawsOk b
  | .scope b => drawsOk b
  | _ => true
end Am
