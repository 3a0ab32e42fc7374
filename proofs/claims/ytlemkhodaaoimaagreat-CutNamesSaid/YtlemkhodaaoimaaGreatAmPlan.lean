/- Regions that draw their order of evaluation: one order (what only reads goes first), what must be looked at again, and when that is enough. Closed. -/
import Derived.Test.YtlemkhodaaoimaaGreatAm
import Derived.Orders
set_option linter.unusedVariables false

namespace Am
open Go

def isQuiet (o : Op) : Bool := match o with
  | .move _ => true | .assign _ => true | .pick .. => true | .build .. => true | .load .. => true | .nilCheck _ => true | .binOp .. => true | .unOp .. => true | .convert .. => true
  | .makeInterface .. => true | .makeFunc .. => true | .slice .. => true | .fieldAddr .. => true | .field .. => true | .indexAddr .. => true | .index .. => true | .lookup .. => true | .extract .. => true
  | .call ⟨.builtin .len, _, _⟩ => true
  | _ => false
def isDefer (o : Op) : Bool := match o with | .defer _ => true | _ => false
def atO (ops : Array Oper) (i : Nat) (f : Oper → Bool) : Bool := match ops[i]? with | some o => f o | none => false
def predsO (o : Oper) : List Nat := (o.after.toList.filter (Region.binds .any)).map (·.on)
def predsAt (ops : Array Oper) (i : Nat) : List Nat := match ops[i]? with | some o => predsO o | none => []
def quietAt (ops : Array Oper) (i : Nat) : Bool := atO ops i fun o => isQuiet o.op
/-- the first operation of l that may come, given what has come; a quiet one if there is one -/
def nextOp (ops : Array Oper) (done : List Nat) (l : List Nat) (quiet : Bool) : Option Nat :=
  l.find? fun i => (bif quiet then quietAt ops i else true) && (predsAt ops i).all fun j => done.contains j
def canon (ops : Array Oper) : Nat → List Nat → List Nat → List Nat
  | 0, _, _ => []
  | f + 1, done, l =>
    match nextOp ops done l true with
    | some i => i :: canon ops f (i :: done) (l.erase i)
    | none => match nextOp ops done l false with
      | some i => i :: canon ops f (i :: done) (l.erase i)
      | none => []
abbrev Anc := List (Nat × List Nat)
def ancOf (T : Anc) (i : Nat) : List Nat := match T.find? (fun p => Nat.beq p.1 i) with | some p => p.2 | none => []
def addNew (l : List Nat) (x : Nat) : List Nat := bif l.contains x then l else x :: l
def ancTab (ops : Array Oper) (order : List Nat) : Anc :=
  order.foldl (fun T i => (i, (predsAt ops i).foldl (fun acc p => (ancOf T p).foldl addNew (addNew acc p)) []) :: T) []
def unordT (T : Anc) (i j : Nat) : Bool := !(ancOf T i).contains j && !(ancOf T j).contains i
inductive Plan where
  | done
  | quiet (i : Nat) (p : Plan)
  | act (j : Nat) (rc : List Nat) (p : Plan)
  | both (p q : Plan)
def readyNow (ops : Array Oper) (done : List Nat) (quiet : Bool) : List Nat :=
  (List.range ops.size).filter fun i => !done.contains i && (quietAt ops i == quiet) && (predsAt ops i).all fun j => done.contains j
def actsOf (f : Nat → Plan) (rc : Nat → List Nat) : List Nat → Plan
  | [] => .done
  | [j] => .act j (rc j) (f j)
  | j :: l => .both (.act j (rc j) (f j)) (actsOf f rc l)
def planGo (ops : Array Oper) (T : Anc) : Nat → List Nat → List Nat → Plan
  | 0, _, _ => .done
  | f + 1, done, dn =>
    match readyNow ops done true with
    | i :: _ => .quiet i (planGo ops T f (i :: done) (i :: dn))
    | [] => actsOf (fun j => planGo ops T f (j :: done) dn) (fun j => dn.filter fun x => unordT T x j) (readyNow ops done false)
def orderOf (ops : Array Oper) : List Nat := canon ops ops.size [] (List.range ops.size)
def plan (ops : Array Oper) : Plan := planGo ops (ancTab ops (orderOf ops)) ops.size [] []

def psz : Plan → Nat
  | .done => 0
  | .quiet _ p => psz p + 1
  | .act _ _ p => psz p + 1
  | .both p q => Nat.max (psz p) (psz q)
def heads : Plan → List Nat
  | .act j _ _ => [j]
  | .both p q => heads p ++ heads q
  | _ => []
def okPlan (ops : Array Oper) (T : Anc) : Plan → Bool → Array Bool → List Nat → Bool
  | .done, top, listed, dn => top && (Region.ready .any ops listed).isEmpty
  | .quiet i p, top, listed, dn => top && quietAt ops i && (Region.ready .any ops listed).contains i && okPlan ops T p true (listed.setIfInBounds i true) (i :: dn)
  | .act j rc p, top, listed, dn => !quietAt ops j && (Region.ready .any ops listed).contains j && (!top || (Region.ready .any ops listed).all fun x => Nat.beq x j) && (dn.all fun x => !unordT T x j || rc.contains x) && okPlan ops T p true (listed.setIfInBounds j true) dn
  | .both p q, top, listed, dn => !(Region.ready .any ops listed).isEmpty && (!top || (Region.ready .any ops listed).all fun x => (heads p ++ heads q).contains x) && okPlan ops T p false listed dn && okPlan ops T q false listed dn
def heldB (ops : Array Oper) (T : Anc) (i : Nat) : Bool := quietAt ops i && (List.range ops.size).any fun j => !quietAt ops j && unordT T i j
def noHit (ops : Array Oper) (x y : Oper) : Bool := match x.dst with | some d => !(y.looksAt ops).contains d | none => true
def noSame (x y : Oper) : Bool := match x.dst with | some d => y.dst != some d | none => true
def okS0 (ops : Array Oper) : Bool := Region.noSelect ops && ops.toList.all fun o => !isDefer o.op
def okS1 (ops : Array Oper) (T : Anc) : Bool := (List.range ops.size).all fun j => (ancOf T j).all fun x => (predsAt ops j).contains x || (predsAt ops j).any fun p => (ancOf T p).contains x
def okS2 (ops : Array Oper) (T : Anc) : Bool := (List.range ops.size).all fun i => !quietAt ops i || (List.range ops.size).all fun j => Nat.beq i j || !unordT T i j || atO ops i fun x => atO ops j fun y => x.apart ops y
def okS3 (ops : Array Oper) (T : Anc) : Bool := (List.range ops.size).all fun i => !heldB ops T i || (List.range ops.size).all fun k =>
  (Nat.beq i k || atO ops i fun x => atO ops k fun y => noSame x y) && (!heldB ops T k || (ancOf T k).contains i || atO ops i fun x => atO ops k fun y => noHit ops x y)
def drawOkT (ops : Array Oper) (T : Anc) : Bool := okS0 ops && okS1 ops T && okS2 ops T && okS3 ops T && Nat.ble (psz (plan ops)) ops.size && okPlan ops T (plan ops) true (Array.replicate ops.size false) []
def drawOk (ops : Array Oper) : Bool := drawOkT ops (ancTab ops (orderOf ops))
def drawsOk : Code → Bool
  | .region _ ops draw => !draw || drawOk ops
  | .seq a b => drawsOk a && drawsOk b
  | .cond _ a b => drawsOk a && drawsOk b
  | .block _ b => drawsOk b
  | .loop b => drawsOk b
  | .rangeFunc _ _ a b => drawsOk a && drawsOk b
  | .scope b => drawsOk b
  | _ => true
end Am
