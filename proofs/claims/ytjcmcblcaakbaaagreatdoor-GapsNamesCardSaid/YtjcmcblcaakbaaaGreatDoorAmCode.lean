/- The evaluator: calls, regions, code, functions. -/
import Derived.Test.YtjcmcblcaakbaaaGreatDoorAmPlan
set_option linter.unusedVariables false
noncomputable section
namespace Am
open Go

abbrev CALLT := AV → List AV → HP → Nat → KV → KV → Bool
section
variable (P : Program) (d nt : Nat) (CALL : CALLT)

/-! calls -/
abbrev OpC := TM → HP → Nat → KV → KV → Bool
def plainC (f : OpF) : OpC := fun t h nx k _ => f t h nx k
def callV (f : Operand) (args : List Operand) : OpC := fun t h nx k kp => evD d nt f t fun f => evList d nt args t fun args => CALL f args h nx k kp
def callB (b : Builtin) (ts : List TypeId) (args : List Operand) : OpF := fun t h nx k => evList d nt args t fun args => builtinA P b ts args h nx k
def callD (c : Callee) : List Operand → List TypeId → OpC :=
  match c with
  | .value f => fun args _ => callV d nt CALL f args
  | .builtin b => fun args ts => plainC (callB P d nt b ts args)
  | .invoke _ _ => fun _ _ => fun _ _ _ _ _ => false
def ifaceP (v : AV) (k : AV → Bool) : Bool := match v with | .iface t x => k (.iface t x) | _ => false
def panicD (x : Operand) : OpC := fun t h nx _ kp => evD d nt x t fun v => ifaceP v fun v => kp v h nx
def anyD (o : Op) : OpC :=
  match o with
  | .call c => callD P d nt CALL c.callee c.args.toList c.argTypes.toList
  | .panic x => panicD d nt x
  | o => plainC (opDen P d nt o)
/-- what is quiet -/
def qCall (c : Callee) : List Operand → List TypeId → OpF :=
  match c with
  | .builtin b => fun args ts => callB P d nt b ts args
  | _ => fun _ _ => fun _ _ _ _ => false
def qDen (o : Op) : OpF :=
  match o with
  | .call c => qCall P d nt c.callee c.args.toList c.argTypes.toList
  | o => opDen P d nt o

def putD (dst : Option Nat) (v : AV) (t : TM) (k : TM → Bool) : Bool :=
  Option.rec (motive := fun _ => Bool) (k t) (fun i => Bool.rec false (Tr.setK d t i v k) (Nat.blt i nt)) dst
abbrev RegF := TM → HP → Nat → KC → KX → Bool
def noTmps : TM := .leaf undefA
def runOp (dst : Option Nat) (f : OpC) : RegF := fun t h nx kn kx => f t h nx (fun v h nx => putD d nt dst v t fun t => kn t h nx) (fun v h nx => kx (.panic v) noTmps h nx)
def skipOp (dst : Option Nat) : RegF := fun t h nx kn kx => putD d nt dst undefA t fun t => kn t h nx
def wantB (want : Bool) (v : AV) (k kn : Bool) : Bool := match v with | .bool b => Bool.rec kn k (b == want) | _ => kn
def guardOf (all : List Oper) (j : Nat) : Option Nat := (all[j]?).bind (·.dst)
def guarded (src : Option Nat) (want : Bool) (f g : RegF) : RegF := fun t h nx kn kx =>
  Option.rec (motive := fun _ => Bool) false (fun i => evTmp d nt i t fun v => wantB want v (f t h nx kn kx) (g t h nx kn kx)) src
def operG (all : List Oper) (g : Option (Nat × Bool)) (dst : Option Nat) (f : OpC) : RegF :=
  match g with
  | none => runOp d nt dst f
  | some (j, want) => guarded d nt (guardOf all j) want (runOp d nt dst f) (skipOp d nt dst)
def operD (all : List Oper) (o : Oper) : RegF :=
  match o with
  | ⟨dst, op, _, _, _, g⟩ => operG d nt all g dst (anyD P d nt CALL op)
def opsCons (f : RegF) (ih : RegF) : RegF := fun t h nx kn kx => f t h nx (fun t h nx => ih t h nx kn kx) kx
def opsD (all : List Oper) (l : List Oper) : RegF :=
  List.rec (motive := fun _ => RegF) (fun t h nx kn _ => kn t h nx) (fun o _ ih => opsCons (operD P d nt CALL all o) ih) l

/-! regions that draw -/
def eqF (a b : AV) : Bool := match a with
  | .bool x => (match b with | .bool y => x == y | _ => false)
  | .int k x => (match b with | .int l y => Nat.beq (kidx k) (kidx l) && x == y | _ => false)
  | .str x => (match b with | .str y => natsEq x y | _ => false)
  | .ptr x i => (match b with | .ptr y j => Nat.beq x y && Nat.beq i j | _ => false)
  | .nilptr => (match b with | .nilptr => true | _ => false)
  | .slice x o l m s => (match b with | .slice y p n q r => Nat.beq x y && Nat.beq o p && Nat.beq l n && Nat.beq m q && Nat.beq s r | _ => false)
  | .nilslice => (match b with | .nilslice => true | _ => false)
  | .map x => (match b with | .map y => Nat.beq x y | _ => false)
  | .nilmap => (match b with | .nilmap => true | _ => false)
  | .nilfunc => (match b with | .nilfunc => true | _ => false)
  | .niliface => (match b with | .niliface => true | _ => false)
  | .func f x y => (match b with | .func g u v => Nat.beq f g && x.isEmpty && y.isEmpty && u.isEmpty && v.isEmpty | _ => false)
  | _ => false
def eqFs : List AV → List AV → Bool
  | [], [] => true
  | a :: l, b :: r => eqF a b && eqFs l r
  | _, _ => false
def eqA (a b : AV) : Bool := match a with
  | .agg x => (match b with | .agg y => eqFs x y | _ => false)
  | .iface t x => (match b with | .iface u y => Nat.beq t u && eqF x y | _ => false)
  | a => eqF a b
def sameAt (dst : Option Nat) (t : TM) (v : AV) : Bool :=
  Option.rec (motive := fun _ => Bool) true (fun i => Bool.rec false (Tr.getK d t i fun u => eqA v u) (Nat.blt i nt)) dst
def chk (dst : Option Nat) (f : OpF) : TM → HP → Nat → Bool := fun t h nx => f t h nx fun v _ _ => sameAt d nt dst t v
def isUnd (u : AV) : Bool := match u with | .tuple [] => true | _ => false
def chkU (dst : Option Nat) (t : TM) : Bool :=
  Option.rec (motive := fun _ => Bool) true (fun i => Bool.rec false (Tr.getK d t i isUnd) (Nat.blt i nt)) dst
def chkG (all : List Oper) (g : Option (Nat × Bool)) (dst : Option Nat) (f : OpF) : TM → HP → Nat → Bool :=
  match g with
  | none => chk d nt dst f
  | some (j, want) => fun t h nx => Option.rec (motive := fun _ => Bool) false (fun i => evTmp d nt i t fun v => wantB want v (chk d nt dst f t h nx) (chkU d nt dst t)) (guardOf all j)
def chkO (all : List Oper) (o : Oper) : TM → HP → Nat → Bool :=
  match o with
  | ⟨dst, op, _, _, _, g⟩ => chkG d nt all g dst (qDen P d nt op)
def chkI (all : List Oper) (o : Option Oper) : TM → HP → Nat → Bool := match o with | some o => chkO P d nt all o | none => fun _ _ _ => false
def chkCons (f ih : TM → HP → Nat → Bool) : TM → HP → Nat → Bool := fun t h nx => Bool.rec false (ih t h nx) (f t h nx)
def chkL (all : List Oper) (l : List Nat) : TM → HP → Nat → Bool :=
  List.rec (motive := fun _ => TM → HP → Nat → Bool) (fun _ _ _ => true) (fun i _ ih => chkCons (chkI P d nt all all[i]?) ih) l
def chkT (f : TM → HP → Nat → Bool) (ih : RegF) : RegF := fun t h nx kn kx => Bool.rec false (ih t h nx kn kx) (f t h nx)
def stepI (all : List Oper) (o : Option Oper) : RegF := match o with | some o => operD P d nt CALL all o | none => fun _ _ _ _ _ => false
def frc (b : Bool) : Bool := Bool.rec false true b
def frcK (kn : KC) : KC := fun t h nx => frc (kn t h nx)
def bothD (f g : RegF) : RegF := fun t h nx kn kx => Bool.rec false (g t h nx (frcK kn) kx) (f t h nx (frcK kn) kx)
/-- an operation that makes one block, at a place that was kept for it -/
def atC (r : Nat) (f : OpF) : OpC := fun t h nx k _ => f t h r (fun v h _ => k v h nx)
def isHole (o : AObj) : Bool := match o with | .hole => true | _ => false
def operAt (r : Nat) (o : Oper) : RegF := fun t h nx kn kx => Tr.getK DH h r fun ob => Bool.rec false (runOp d nt o.dst (atC r (opDen P d nt o.op)) t h nx kn kx) (isHole ob && Nat.blt r nx)
def stepAt (r : Nat) (o : Option Oper) : RegF := match o with | some o => operAt P d nt r o | none => fun _ _ _ _ _ => false
def posIn (rs : List Nat) (j q : Nat) : Option Nat := match rs with | [] => none | x :: l => bif Nat.beq x j then some q else posIn l j (q + 1)
def stepJ (all : List Oper) (rs : List Nat) (base j : Nat) : RegF :=
  match posIn rs j 0 with
  | none => stepI P d nt CALL all all[j]?
  | some q => fun t h nx kn kx => forceNat (base + q) fun r => stepAt P d nt r all[j]? t h nx kn kx
def holesK (n : Nat) : HP → Nat → (HP → Nat → Bool) → Bool :=
  Nat.rec (motive := fun _ => HP → Nat → (HP → Nat → Bool) → Bool) (fun h nx k => k h nx) (fun _ ih h nx k => allocK h nx .hole fun _ h nx => ih h nx k) n
def planD (all : List Oper) (rs : List Nat) (base : Nat) (p : Plan) : RegF :=
  Plan.rec (motive := fun _ => RegF) (fun t h nx kn _ => kn t h nx)
    (fun i _ ih => opsCons (stepI P d nt CALL all all[i]?) ih)
    (fun j rc _ ih => opsCons (stepJ P d nt CALL all rs base j) (chkT (chkL P d nt all rc) ih))
    (fun _ _ ihp ihq => bothD ihp ihq) p
/-- blocks kept for the operations that make one each, then the plan -/
def regD (all : List Oper) (rs : List Nat) (p : Plan) : RegF := fun t h nx kn kx => holesK rs.length h nx fun h nx' => planD P d nt CALL all rs nx p t h nx' kn kx

/-! code -/
abbrev CodeF := RegF
def cSkip : CodeF := fun t h nx kn _ => kn t h nx
def cRegion (ops : Array Oper) (draw : Bool) : CodeF := match draw with
  | true => regD P d nt CALL ops.toList (resOf ops) (plan ops)
  | false => opsD P d nt CALL ops.toList ops.toList
def cSeq (a b : CodeF) : CodeF := fun t h nx kn kx => a t h nx (fun t h nx => b t h nx kn kx) kx
def condB (a b : CodeF) (v : AV) : CodeF := match v with | .bool c => (match c with | true => a | false => b) | _ => fun _ _ _ _ _ => false
def cCond (c : Operand) (a b : CodeF) : CodeF := fun t h nx kn kx => evD d nt c t fun v => condB a b v t h nx kn kx
def inBlockX (id : Nat) (kn : KC) (kx : KX) : KX := fun e => match e with
  | .exit j => fun t h nx => Bool.rec (kx (.exit j) t h nx) (kn t h nx) (Nat.beq j id)
  | e => kx e
def cBlock (id : Nat) (b : CodeF) : CodeF := fun t h nx kn kx => b t h nx kn (inBlockX id kn kx)
def loopS (b ih : CodeF) : CodeF := fun t h nx kn kx => b t h nx (fun t h nx => ih t h nx kn kx) kx
def cLoop (b : CodeF) : CodeF := Nat.rec (motive := fun _ => CodeF) (fun _ _ _ _ _ => false) (fun _ ih => loopS b ih) LOOPS
def withLoop (o : AObj) : (LoopState → Option Code → Nat → Nat → TM → List Nat → Code → Code → Bool) → Bool :=
  match o with | .loop st p d nt t ps a b => fun k => k st p d nt t ps a b | _ => fun _ => false
def jumpTo (c : Code) : CodeF := match c with
  | .ret => fun t h nx _ kx => kx .ret t h nx
  | .exit id => fun t h nx _ kx => kx (.exit id) t h nx
  | _ => fun _ _ _ _ _ => false
def endLoop (p : Option Code) : CodeF := match p with | none => cSkip | some c => jumpTo c
def isBusy (s : LoopState) : Bool := match s with | .busy => true | _ => false
def isReady (s : LoopState) : Bool := match s with | .ready => true | _ => false
def hasBody (g : Nat) : Bool := match P.funcs[g]? with | some fn => fn.body.isSome | none => false
def isBodied (f : AV) : Bool := match f with | .func g _ _ => hasBody P g | _ => false
/-- a range over a function; not within a round -/
def cRange (rd : Bool) (f : Operand) (ps : Array Nat) (asg body : Code) : CodeF := match rd with
  | true => fun _ _ _ _ _ => false
  | false => fun t h nx kn kx =>
    evD d nt f t fun f => Bool.rec false (allocK h nx (.loop .ready none d nt t ps.toList asg body) fun l h nx =>
      CALL f [.yield l] h nx
        (fun _ h nx => Tr.getK DH h l fun o => withLoop o fun st p d' nt' t' ps' a' b' =>
          Bool.rec (Tr.setK DH h l (.loop .exhausted p d' nt' t' ps' a' b') fun h => endLoop p t h nx kn kx) false (isBusy st))
        (fun _ _ _ => false)) (isBodied P f)
def codeD (rd : Bool) (c : Code) : CodeF :=
  Code.rec (motive := fun _ => CodeF)
    cSkip
    (fun _ ops draw => cRegion P d nt CALL ops draw)
    (fun _ _ a b => cSeq a b)
    (fun c _ _ a b => cCond d nt c a b)
    (fun id _ b => cBlock id b)
    (fun _ b => cLoop b)
    (fun f ps asg body _ _ => cRange P d nt CALL rd f ps asg body)
    (fun id => fun t h nx _ kx => kx (.exit id) t h nx)
    (fun _ b => b)
    (fun _ => cSkip)
    (fun _ => fun _ _ _ _ _ => false)
    (fun t h nx _ kx => kx .ret t h nx)
    (fun _ _ _ _ _ _ => false) c

def resOne (r : ResultVar) (t : TM) (h : HP) (k : AV → Bool) : Bool :=
  match r with
  | .tmp i => evTmp d nt i t k
  | .cell i ty => evTmp d nt i t fun a => loadA P ty a h 0 fun v _ _ => k v
def resCons (r : ResultVar) (ih : TM → HP → (List AV → Bool) → Bool) : TM → HP → (List AV → Bool) → Bool :=
  fun t h k => resOne P d nt r t h fun v => ih t h fun l => k (v :: l)
def resL (l : List ResultVar) : TM → HP → (List AV → Bool) → Bool :=
  List.rec (motive := fun _ => TM → HP → (List AV → Bool) → Bool) (fun _ _ k => k []) (fun r _ ih => resCons P d nt r ih) l
def tupK (l : List AV) (h : HP) (nx : Nat) (k : KV) : Bool := match l with | [v] => k v h nx | l => k (.tuple l) h nx
def endD (rs : List ResultVar) (k : KV) : KC := fun t h nx => resL P d nt rs t h fun l => tupK l h nx k
def retX (rs : List ResultVar) (k kp : KV) : KX := fun e => match e with
  | .ret => endD P d nt rs k
  | .panic v => fun _ h nx => kp v h nx
  | _ => fun _ _ _ => false
end

section
variable (P : Program) (SPEC : Nat → Option (CALLT → List AV → HP → Nat → KV → KV → Bool)) (CALL : CALLT)

def argsL (l : List AV) (d : Nat) (t : TM) (k : TM → Bool) : Bool := storeL d l t 0 k
def bodyD (rs : List ResultVar) (c : Code) (d nt : Nat) (t : TM) (h : HP) (nx : Nat) (k kp : KV) : Bool :=
  codeD P d nt CALL false c t h nx (endD P d nt rs k) (retX P d nt rs k kp)
def enterD (fn : Func) (c : Code) (args : List AV) (h : HP) (nx : Nat) (k kp : KV) : Bool :=
  Bool.rec false (argsL args (depthOf fn.ntmps) (.leaf undefA) fun t => bodyD P CALL fn.results.toList c (depthOf fn.ntmps) fn.ntmps t h nx k kp) (Nat.ble args.length fn.ntmps)
def enterB (fn : Func) (b : Option Code) : List AV → HP → Nat → KV → KV → Bool :=
  match b with | some c => enterD P CALL fn c | none => fun _ _ _ _ _ => false
def enterF (o : Option Func) : List AV → HP → Nat → KV → KV → Bool :=
  match o with | some fn => enterB P CALL fn fn.body | none => fun _ _ _ _ _ => false
def funcD (f : Nat) : List AV → HP → Nat → KV → KV → Bool :=
  match SPEC f with | some g => g CALL | none => enterF P CALL P.funcs[f]?
def setPs (d nt : Nat) : List Nat → List AV → TM → (TM → Bool) → Bool
  | [], [], t, k => k t
  | p :: ps, v :: vs, t, k => Bool.rec false (Tr.setK d t p v fun t => setPs d nt ps vs t k) (Nat.blt p nt)
  | _, _, _, _ => false
def jumpSt (jump : Option Code) : LoopState := match jump with | none => .ready | some _ => .done
def endRound (l : Nat) (jump : Option Code) (h : HP) (nx : Nat) (k : KV) : Bool :=
  Tr.getK DH h l fun o => withLoop o fun _ _ d nt t ps a b =>
    Tr.setK DH h l (.loop (jumpSt jump) jump d nt t ps a b) fun h => k (.bool jump.isNone) h nx
def roundX (l : Nat) (k : KV) : KX := fun e => match e with
  | .ret => fun _ h nx => endRound l (some .ret) h nx k
  | .exit id => fun _ h nx => endRound l (some (.exit id)) h nx k
  | _ => fun _ _ _ => false
def beginRound (l : Nat) (h : HP) (k : HP → Bool) : Bool :=
  Tr.getK DH h l fun o => withLoop o fun st p d nt t ps a b => Bool.rec false (Tr.setK DH h l (.loop .busy p d nt t ps a b) k) (isReady st)
def yieldD (l : Nat) (args : List AV) (h : HP) (nx : Nat) (k kp : KV) : Bool :=
  Tr.getK DH h l fun o => withLoop o fun st p d nt t ps a b =>
    setPs d nt ps args t fun t' =>
      codeD P d nt CALL true a t' h nx
        (fun t' h nx => beginRound l h fun h => codeD P d nt CALL true b t' h nx (fun _ h nx => endRound l none h nx k) (roundX l k))
        (fun _ _ _ _ => false)
def invokeD (f : AV) : List AV → HP → Nat → KV → KV → Bool :=
  match f with
  | .func g fv cap => fun args h nx k kp => forceList (fv ++ args ++ cap) fun al => funcD P SPEC CALL g al h nx k kp
  | .yield l => yieldD P CALL l
  | _ => fun _ _ _ _ _ => false
end

def callN (P : Program) (SPEC : Nat → Option (CALLT → List AV → HP → Nat → KV → KV → Bool)) (n : Nat) : CALLT :=
  Nat.rec (motive := fun _ => CALLT) (fun _ _ _ _ _ _ => false) (fun _ ih => invokeD P SPEC ih) n

/-- a function that defers the one closure that recovers a failure and answers whether there was none: parse.fits. The closure's body behind its call of recover is run as it stands. -/
def fitsX (f : TM → HP → Nat → Bool) : KX := fun e => match e with | .ret => f | _ => fun _ _ _ => false
def fitsL (P : Program) (tB gnt : Nat) (rest : Code) (CALL : CALLT) (p v : AV) (h : HP) (nx : Nat) (k : KV) : Bool :=
  storeL (depthOf gnt) [p] (.leaf undefA) 0 fun t => putD (depthOf gnt) gnt (some 4) v t fun t =>
    codeD P (depthOf gnt) gnt CALL true rest t h nx (fun t h nx => loadA P tB p h nx k) (fitsX fun t h nx => loadA P tB p h nx k)
def fitsF (P : Program) (tB gnt : Nat) (rest : Code) (CALL : CALLT) (f : AV) (h : HP) (nx : Nat) (k : KV) : Bool :=
  oAlloc P tB noTmps h nx fun p h nx => CALL f [] h nx
    (fun _ h nx => storeA P tB (.bool true) p h nx fun _ h nx => fitsL P tB gnt rest CALL p .niliface h nx k)
    (fun v h nx => fitsL P tB gnt rest CALL p v h nx k)
def fitsD (P : Program) (tB gnt : Nat) (rest : Code) (CALL : CALLT) (args : List AV) (h : HP) (nx : Nat) (k kp : KV) : Bool :=
  match args with
  | [f] => fitsF P tB gnt rest CALL f h nx k
  | _ => false
/-- the closure's body behind its call of recover -/
def restOf (o : Option Func) : Code := match o with | some fn => (match fn.body with | some (.seq _ c) => c | _ => .skip) | none => .skip
def add64D (CALL : CALLT) (args : List AV) (h : HP) (nx : Nat) (k kp : KV) : Bool :=
  match args with
  | [.int .u64 (.ofNat x), .int .u64 (.ofNat y), .int .u64 (.ofNat c)] =>
    Bool.rec false (forceNat ((x + y + c) % 2 ^ 64) fun a => forceNat ((x + y + c) / 2 ^ 64) fun b => k (.tuple [.int .u64 (.ofNat a), .int .u64 (.ofNat b)]) h nx) (Nat.ble c 1)
  | _ => false
end Am
