/- An abstract evaluator over the model's code, in continuation-passing style, with answers in Bool (false: not covered). It draws nothing: an append beyond the known capacity makes a new abstract block and the old one is dead. Its soundness is proved in the texts behind this one. -/
import GoSem.Step
set_option linter.unusedVariables false
noncomputable section
namespace Am
open Go

inductive AV where
  | bool (b : Bool) | int (k : IntKind) (n : Int) | str (s : List Nat)
  | ptr (b off : Nat) | nilptr
  | slice (b off len mc es : Nat) | nilslice | eslice
  | map (b : Nat) | nilmap
  | func (f : Nat) (fv cap : List AV) | yield (l : Nat) | nilfunc
  | iface (t : Nat) (v : AV) | niliface
  | agg (cs : List AV) | tuple (vs : List AV)

def AV.flat (v : AV) : Bool := match v with | .agg _ => false | .tuple _ => false | _ => true

inductive Tr (α : Type) where
  | leaf (v : α)
  | node (l r : Tr α)

def Tr.any {α : Type} (t : Tr α) : α := Tr.rec (motive := fun _ => α) (fun v => v) (fun _ _ a _ => a) t
abbrev bitAt (n d : Nat) : Bool := Nat.beq (Nat.land (Nat.shiftRight n d) 1) 1

def Tr.getLeaf {α : Type} (v : α) (n : Nat) (k : α → Bool) : Bool := k v
def Tr.getNode {α : Type} (d : Nat) (ih : Tr α → Nat → (α → Bool) → Bool) (l r : Tr α) (n : Nat) (k : α → Bool) : Bool :=
  Bool.rec (ih l n k) (ih r n k) (bitAt n d)
def Tr.getK {α : Type} (d : Nat) : Tr α → Nat → (α → Bool) → Bool :=
  Nat.rec (motive := fun _ => Tr α → Nat → (α → Bool) → Bool) (fun t _ k => k t.any)
    (fun d ih t => Tr.rec (motive := fun _ => Nat → (α → Bool) → Bool) Tr.getLeaf (fun l r _ _ => Tr.getNode d ih l r) t) d

def Tr.setLeaf {α : Type} (d : Nat) (ih : Tr α → Nat → α → (Tr α → Bool) → Bool) (w : α) (n : Nat) (v : α) (k : Tr α → Bool) : Bool :=
  Bool.rec (ih (.leaf w) n v fun t => k (.node t (.leaf w))) (ih (.leaf w) n v fun t => k (.node (.leaf w) t)) (bitAt n d)
def Tr.setNode {α : Type} (d : Nat) (ih : Tr α → Nat → α → (Tr α → Bool) → Bool) (l r : Tr α) (n : Nat) (v : α) (k : Tr α → Bool) : Bool :=
  Bool.rec (ih l n v fun t => k (.node t r)) (ih r n v fun t => k (.node l t)) (bitAt n d)
def Tr.setK {α : Type} (d : Nat) : Tr α → Nat → α → (Tr α → Bool) → Bool :=
  Nat.rec (motive := fun _ => Tr α → Nat → α → (Tr α → Bool) → Bool) (fun _ _ v k => k (.leaf v))
    (fun d ih t => Tr.rec (motive := fun _ => Nat → α → (Tr α → Bool) → Bool) (Tr.setLeaf d ih) (fun l r _ _ => Tr.setNode d ih l r) t) d

inductive AObj where
  | dead
  | hole
  | cells (e d : Nat) (t : Tr AV) (n : Nat)
  | glob (g : Nat)
  | rcells (d : Nat) (t : Tr AV) (n : Nat)
  | map (es : List (List Nat × AV))
  | loop (st : LoopState) (pending : Option Code) (d nt : Nat) (tmps : Tr AV) (params : List Nat) (asg body : Code)

abbrev HP := Tr AObj
abbrev TM := Tr AV
abbrev KV := AV → HP → Nat → Bool
abbrev KC := TM → HP → Nat → Bool
inductive AExit where
  | exit (id : Nat) | goto (l : Nat) | ret | panic (v : AV)
abbrev KX := AExit → TM → HP → Nat → Bool
abbrev DH := 13
abbrev LOOPS := 100000

/-! forcing -/
def forceNat (n : Nat) (k : Nat → Bool) : Bool := Nat.rec (motive := fun _ => Bool) (k 0) (fun m _ => k m) (n + 1)
def forceInt (n : Int) (k : Int → Bool) : Bool := Int.rec (motive := fun _ => Bool) (fun m => forceNat m fun m => k (.ofNat m)) (fun m => forceNat m fun m => k (.negSucc m)) n
def forceList {α : Type} (l : List α) : (List α → Bool) → Bool :=
  List.rec (motive := fun _ => (List α → Bool) → Bool) (fun k => k []) (fun a _ ih k => ih fun l => k (a :: l)) l

/-! constants -/
def absFlat (v : Value) : Option AV := match v with
  | .bool b => some (.bool b)
  | .int k n => some (.int k n)
  | .string s => some (.str (s.data.toList.map UInt8.toNat))
  | .pointer none => some .nilptr
  | .slice none 0 0 => some .nilslice
  | .map none => some .nilmap
  | .nilFunc => some .nilfunc
  | .nilIface => some .niliface
  | _ => none
def absFlats : List Value → Option (List AV)
  | [] => some []
  | v :: l => match absFlat v, absFlats l with | some a, some r => some (a :: r) | _, _ => none
def absV (v : Value) : Option AV := match v with
  | .agg cs => (absFlats cs.toList).map AV.agg
  | .tuple cs => bif cs.isEmpty then some (.tuple []) else none
  | v => absFlat v

def undefA : AV := .tuple []

section
variable (P : Program) (d nt : Nat)

def evTmp (i : Nat) (t : TM) (k : AV → Bool) : Bool := Bool.rec false (Tr.getK d t i k) (Nat.blt i nt)
def evConst (v : Value) (t : TM) (k : AV → Bool) : Bool := Option.rec (motive := fun _ => Bool) false k (absV v)
def evGlob (g : Nat) (t : TM) (k : AV → Bool) : Bool := false
def evFun (f : Nat) (t : TM) (k : AV → Bool) : Bool := k (.func f [] [])
def evD (o : Operand) : TM → (AV → Bool) → Bool :=
  Operand.rec (motive := fun _ => TM → (AV → Bool) → Bool) (evTmp d nt) evConst evGlob evFun o

def evCons (o : Operand) (ih : TM → (List AV → Bool) → Bool) (t : TM) (k : List AV → Bool) : Bool :=
  evD d nt o t fun v => ih t fun l => k (v :: l)
def evList (l : List Operand) : TM → (List AV → Bool) → Bool :=
  List.rec (motive := fun _ => TM → (List AV → Bool) → Bool) (fun _ k => k []) (fun o _ ih => evCons d nt o ih) l
def evPart (p : Nat × Operand) (ih : TM → (List (Nat × AV) → Bool) → Bool) (t : TM) (k : List (Nat × AV) → Bool) : Bool :=
  evD d nt p.2 t fun v => ih t fun l => k ((p.1, v) :: l)
def evParts (l : List (Nat × Operand)) : TM → (List (Nat × AV) → Bool) → Bool :=
  List.rec (motive := fun _ => TM → (List (Nat × AV) → Bool) → Bool) (fun _ k => k []) (fun o _ ih => evPart d nt o ih) l
def evOpt (o : Option Operand) : TM → (Option AV → Bool) → Bool :=
  Option.rec (motive := fun _ => TM → (Option AV → Bool) → Bool) (fun _ k => k none) (fun o t k => evD d nt o t fun v => k (some v)) o

/-! what is asked of types (closed) -/
def sizeT (t : TypeId) : Option Nat := (P.info? t).map (·.size)
def bytesT (t : TypeId) : Nat := match P.info? t with | some i => i.bytes | none => 2 ^ 40
def zeroT (t : TypeId) : Option AV := (P.info? t).bind fun i => i.zero.bind absV
def allFlat (l : List AV) : Bool := List.rec (motive := fun _ => Bool) true (fun v _ ih => Bool.rec false ih v.flat) l
def cellsOf (v : AV) : List AV := match v with | .agg cs => cs | v => [v]
/-- the zero value's cells, if they are as many as the type's size -/
def zeroCells (t : TypeId) : Option (List AV) := match zeroT P t, sizeT P t with
  | some z, some n => bif Nat.beq (cellsOf z).length n && allFlat (cellsOf z) then some (cellsOf z) else none
  | _, _ => none
/-- none: no such type; some none: one cell; some (some n): n cells -/
def loadKind (t : TypeId) : Option (Option Nat) := match P.underlying t with
  | some (.struct _) => (sizeT P t).map some
  | some (.array _ _) => (sizeT P t).map some
  | some _ => some none
  | none => none
def sliceElem (t : TypeId) : Option (TypeId × Nat) := match P.underlying t with
  | some (.slice e) => (sizeT P e).map fun n => (e, n)
  | _ => none
def fieldOff (t : TypeId) (f : Nat) : Option Nat := match P.underlying t with
  | some (.struct fs) => match fs[f]? with
    | some x => match sizeT P x.type with | some (n + 1) => some x.offset | _ => none
    | none => none
  | _ => none
def fieldKind (t : TypeId) (f : Nat) : Option (Nat × Option Nat) := match P.underlying t with
  | some (.struct fs) => match fs[f]? with
    | some x => (loadKind P x.type).map fun k => (x.offset, k)
    | none => none
  | _ => none
def isStrT (t : TypeId) : Bool := match P.underlying t with | some .string => true | _ => false
def isIntT (t : TypeId) : Bool := match P.underlying t with | some (.int _) => true | _ => false
def isU8 (t : TypeId) : Bool := match P.underlying t with | some (.int .u8) => true | _ => false
def strMap (t : TypeId) : Option TypeId := match P.underlying t with | some (.map k e) => bif isStrT P k then some e else none | _ => none

def depthOf (n : Nat) : Nat := Bool.rec (Nat.log2 (n - 1) + 1) 0 (Nat.ble n 1)

def storeCons (d : Nat) (v : AV) (ih : TM → Nat → (TM → Bool) → Bool) (t : TM) (i : Nat) (k : TM → Bool) : Bool :=
  Tr.setK d t i v fun t => forceNat (i + 1) fun i => ih t i k
def storeL (d : Nat) (vs : List AV) : TM → Nat → (TM → Bool) → Bool :=
  List.rec (motive := fun _ => TM → Nat → (TM → Bool) → Bool) (fun t _ k => k t) (fun v _ ih => storeCons d v ih) vs
def loadStep (d : Nat) (t : TM) (ih : Nat → (List AV → Bool) → Bool) (i : Nat) (k : List AV → Bool) : Bool :=
  Tr.getK d t i fun v => forceNat (i + 1) fun i => ih i fun l => k (v :: l)
def loadL (d : Nat) (t : TM) (n : Nat) : Nat → (List AV → Bool) → Bool :=
  Nat.rec (motive := fun _ => Nat → (List AV → Bool) → Bool) (fun _ k => k []) (fun _ ih => loadStep d t ih) n

def allocK (h : HP) (nx : Nat) (o : AObj) (k : Nat → HP → Nat → Bool) : Bool :=
  Bool.rec false (Tr.setK DH h nx o fun h => forceNat (nx + 1) fun nx' => k nx h nx') (Nat.blt nx (2 ^ DH))
def newCells2 (e : Nat) (h : HP) (nx : Nat) (vs : List AV) (k : Nat → HP → Nat → Bool) : Bool :=
  forceNat vs.length fun n => forceNat (depthOf n) fun d => storeL d vs (.leaf undefA) 0 fun t => allocK h nx (.cells e d t n) k
def newCells (e : Nat) (h : HP) (nx : Nat) (vs : List AV) (k : Nat → HP → Nat → Bool) : Bool :=
  forceNat vs.length fun n => forceNat (depthOf n) fun d => storeL d vs (.leaf undefA) 0 fun t => allocK h nx (.cells (2 * e + 1) d t n) k

/-! binary operations -/
def bad1 (h : HP) (nx : Nat) (k : KV) : Bool := false
def bRet (b : Bool) (h : HP) (nx : Nat) (k : KV) : Bool := Bool.rec (k (.bool false) h nx) (k (.bool true) h nx) b
def bInt (kd : IntKind) (n : Int) (h : HP) (nx : Nat) (k : KV) : Bool := forceInt n fun n => k (.int kd n) h nx
def intBin (op : BinOp) : IntKind → Int → Int → HP → Nat → KV → Bool :=
  match op with
  | .add => fun kd a b => bInt kd (kd.wrap (a + b))
  | .sub => fun kd a b => bInt kd (kd.wrap (a - b))
  | .mul => fun kd a b => bInt kd (kd.wrap (a * b))
  | .quo => fun kd a b h nx k => Bool.rec (bInt kd (kd.wrap (a.tdiv b)) h nx k) false (decide (b = 0))
  | .rem => fun kd a b h nx k => Bool.rec (bInt kd (a.tmod b) h nx k) false (decide (b = 0))
  | .eql => fun _ a b => bRet (a == b)
  | .neq => fun _ a b => bRet (a != b)
  | .lss => fun _ a b => bRet (decide (a < b))
  | .leq => fun _ a b => bRet (decide (a ≤ b))
  | .gtr => fun _ a b => bRet (decide (a > b))
  | .geq => fun _ a b => bRet (decide (a ≥ b))
  | .and => fun kd a b => bInt kd (kd.wrap ((BitVec.ofInt kd.bits a) &&& (BitVec.ofInt kd.bits b)).toNat)
  | .or => fun kd a b => bInt kd (kd.wrap ((BitVec.ofInt kd.bits a) ||| (BitVec.ofInt kd.bits b)).toNat)
  | .xor => fun kd a b => bInt kd (kd.wrap ((BitVec.ofInt kd.bits a) ^^^ (BitVec.ofInt kd.bits b)).toNat)
  | .andNot => fun kd a b => bInt kd (kd.wrap ((BitVec.ofInt kd.bits a) &&& ~~~(BitVec.ofInt kd.bits b)).toNat)
  | _ => fun _ _ _ => bad1
def shiftBin (op : BinOp) : IntKind → Int → Int → HP → Nat → KV → Bool :=
  match op with
  | .shr => fun kd a b h nx k => Bool.rec (bInt kd (a.fdiv (2 ^ min b.toNat kd.bits)) h nx k) false (decide (b < 0))
  | .shl => fun kd a b h nx k => Bool.rec (bInt kd (kd.wrap (a * 2 ^ min b.toNat kd.bits)) h nx k) false (decide (b < 0))
  | _ => fun _ _ _ => bad1
def isShift (op : BinOp) : Bool := match op with | .shl => true | .shr => true | _ => false
def natsEqC (x : Nat) (ih : List Nat → Bool) (l : List Nat) : Bool :=
  List.rec (motive := fun _ => Bool) false (fun y l _ => Bool.rec false (ih l) (Nat.beq x y)) l
def natsEq (a : List Nat) : List Nat → Bool :=
  List.rec (motive := fun _ => List Nat → Bool) (fun l => List.rec (motive := fun _ => Bool) true (fun _ _ _ => false) l) (fun x _ ih => natsEqC x ih) a
def strBin (op : BinOp) : List Nat → List Nat → HP → Nat → KV → Bool :=
  match op with
  | .add => fun a b h nx k => Bool.rec false (forceList (a ++ b) fun s => k (.str s) h nx) (Nat.blt (a.length + b.length) (2 ^ 40))
  | .eql => fun a b => bRet (natsEq a b)
  | .neq => fun a b => bRet (!(natsEq a b))
  | _ => fun _ _ => bad1
def eqRet (op : BinOp) (b : Bool) : HP → Nat → KV → Bool :=
  match op with
  | .eql => bRet b
  | .neq => bRet (!b)
  | _ => bad1
def kidx (k : IntKind) : Nat := match k with | .i8 => 0 | .i16 => 1 | .i32 => 2 | .i64 => 3 | .u8 => 4 | .u16 => 5 | .u32 => 6 | .u64 => 7
def binInt2 (op : BinOp) (kd : IntKind) (a : Int) (kd' : IntKind) (b : Int) (h : HP) (nx : Nat) (k : KV) : Bool :=
  Bool.rec (Bool.rec false (intBin op kd a b h nx k) (Nat.beq (kidx kd) (kidx kd'))) (shiftBin op kd a b h nx k) (isShift op)
/-- pointers may be compared: the operands' type is a pointer to what has cells -/
def ptrT (t : TypeId) : Bool := match P.underlying t with
  | some (.pointer e) => (match sizeT P e with | some (_ + 1) => true | _ => false)
  | _ => false
def binInt (kd : IntKind) (a : Int) (op : BinOp) (ty : TypeId) (y : AV) : HP → Nat → KV → Bool :=
  match y with | .int kd' b => binInt2 op kd a kd' b | _ => bad1
def binStr (a : List Nat) (op : BinOp) (ty : TypeId) (y : AV) : HP → Nat → KV → Bool :=
  match y with | .str b => strBin op a b | _ => bad1
def ptrRet (op : BinOp) (ty : TypeId) (b : Bool) (h : HP) (nx : Nat) (k : KV) : Bool := Bool.rec false (eqRet op b h nx k) (ptrT P ty)
def binPtr (a i : Nat) (op : BinOp) (ty : TypeId) (y : AV) : HP → Nat → KV → Bool :=
  match y with
  | .ptr b j => fun h nx k => Bool.rec false (ptrRet P op ty (Nat.beq i j) h nx k) (Nat.beq a b)
  | .nilptr => ptrRet P op ty false
  | _ => bad1
def binNilptr (op : BinOp) (ty : TypeId) (y : AV) : HP → Nat → KV → Bool :=
  match y with | .ptr _ _ => ptrRet P op ty false | .nilptr => ptrRet P op ty true | _ => bad1
/-! structs of numbers, texts and bools -/
inductive FK where
  | b | i | s | no
def flatK (t : TypeId) : FK := match P.underlying t with | some .bool => .b | some (.int _) => .i | some .string => .s | _ => .no
def flatEq (kd : FK) (x y : AV) : Option Bool :=
  match kd with
  | .b => (match x with | .bool a => (match y with | .bool b => some (a == b) | _ => none) | _ => none)
  | .i => (match x with | .int k a => (match y with | .int l b => bif Nat.beq (kidx k) (kidx l) then some (a == b) else none | _ => none) | _ => none)
  | .s => (match x with | .str a => (match y with | .str b => some (natsEq a b) | _ => none) | _ => none)
  | .no => none
def thenEq (o r : Option Bool) : Option Bool := match o with | some true => r | some false => some false | none => none
def cellEq (kd : FK) (x y : Option AV) : Option Bool := match x with | some a => (match y with | some b => flatEq kd a b | none => none) | none => none
def fieldsEq (xs ys : List AV) : List Field → Option Bool
  | [] => some true
  | f :: r => thenEq (cellEq (flatK P f.type) xs[f.offset]? ys[f.offset]?) (fieldsEq xs ys r)
def structEqT (t : TypeId) : Option (List Field) := match P.underlying t with
  | some (.struct fs) => bif !P.stoodInHeld t && (!(P.eqGuardType P.depth t) && fs.toList.all fun f => !(f.name == "_")) then some fs.toList else none
  | _ => none
def aggRet (op : BinOp) (ty : TypeId) (xs ys : List AV) (h : HP) (nx : Nat) (k : KV) : Bool :=
  Option.rec (motive := fun _ => Bool) false (fun fs => Option.rec (motive := fun _ => Bool) false (fun b => eqRet op b h nx k) (fieldsEq P xs ys fs)) (structEqT P ty)
def binAgg (xs : List AV) (op : BinOp) (ty : TypeId) (y : AV) : HP → Nat → KV → Bool := match y with | .agg ys => aggRet P op ty xs ys | _ => bad1
def binA (x : AV) : BinOp → TypeId → AV → HP → Nat → KV → Bool :=
  match x with
  | .agg xs => binAgg P xs
  | .int kd a => binInt kd a
  | .str a => binStr a
  | .ptr a i => binPtr P a i
  | .nilptr => binNilptr P
  | _ => fun _ _ _ => bad1

/-! the heap -/
def withCells (o : AObj) : (Nat → TM → Nat → Bool) → Bool :=
  match o with | .cells _ d t n => fun k => k d t n | .rcells d t n => fun k => k d t n | _ => fun _ => false
def withWCells (o : AObj) : (Nat → Nat → TM → Nat → Bool) → Bool :=
  match o with | .cells e d t n => fun k => k e d t n | _ => fun _ => false
def withMap (o : AObj) : (List (List Nat × AV) → Bool) → Bool :=
  match o with | .map es => fun k => k es | _ => fun _ => false

def loadOne (b off : Nat) (h : HP) (nx : Nat) (k : KV) : Bool :=
  Tr.getK DH h b fun o => withCells o fun d t n => Bool.rec false (Tr.getK d t off fun v => k v h nx) (Nat.blt off n)
def loadMany (s b off : Nat) (h : HP) (nx : Nat) (k : KV) : Bool :=
  Tr.getK DH h b fun o => withCells o fun d t n => Bool.rec false (loadL d t s off fun l => k (.agg l) h nx) (Nat.ble (off + s) n)
def loadP (kd : Option (Option Nat)) : Nat → Nat → HP → Nat → KV → Bool :=
  match kd with | none => fun _ _ => bad1 | some none => loadOne | some (some s) => loadMany s
def loadA (ty : TypeId) (a : AV) : HP → Nat → KV → Bool := match a with | .ptr b off => loadP (loadKind P ty) b off | _ => bad1

def storeP (s : Option Nat) (vs : List AV) (b off : Nat) (h : HP) (nx : Nat) (k : KV) : Bool :=
  Option.rec (motive := fun _ => Bool) false (fun s => Tr.getK DH h b fun o => withWCells o fun e d t n =>
    Bool.rec false (storeL d vs t off fun t => Tr.setK DH h b (.cells e d t n) fun h => k undefA h nx) (Nat.beq vs.length s && Nat.ble (off + vs.length) n && allFlat vs)) s
def storeA (ty : TypeId) (v a : AV) : HP → Nat → KV → Bool := match a with | .ptr b off => storeP (sizeT P ty) (cellsOf v) b off | _ => bad1

def ptrK (b off : Nat) (h : HP) (nx : Nat) (k : KV) : Bool := forceNat off fun o => k (.ptr b o) h nx
def fieldAddrP (ty : TypeId) (f b off : Nat) (h : HP) (nx : Nat) (k : KV) : Bool :=
  Option.rec (motive := fun _ => Bool) false (fun p => ptrK b (off + p) h nx k) (fieldOff P ty f)
def fieldAddrA (ty : TypeId) (f : Nat) (a : AV) : HP → Nat → KV → Bool := match a with | .ptr b off => fieldAddrP P ty f b off | _ => bad1

def idxSlice (ty : TypeId) (b off len : Nat) (i : AV) : HP → Nat → KV → Bool :=
  match i with
  | .int _ (.ofNat n) => fun h nx k => Option.rec (motive := fun _ => Bool) false (fun p => Bool.rec false (ptrK b (off + n * p.2) h nx k) (Nat.blt n len)) (sliceElem P ty)
  | _ => bad1
def indexAddrA (ty : TypeId) (a : AV) : AV → HP → Nat → KV → Bool :=
  match a with | .slice b off len _ _ => idxSlice P ty b off len | _ => fun _ => bad1

def nthK (l : List AV) (n : Nat) (h : HP) (nx : Nat) (k : KV) : Bool := Option.rec (motive := fun _ => Bool) false (fun v => k v h nx) l[n]?
def partA (kd : Option Nat) (cs : List AV) (off : Nat) (h : HP) (nx : Nat) (k : KV) : Bool :=
  Option.rec (motive := fun _ => Bool) (nthK cs off h nx k) (fun s => Bool.rec false (forceList ((cs.drop off).take s) fun l => k (.agg l) h nx) (Nat.ble (off + s) cs.length)) kd
def fieldC (ty : TypeId) (f : Nat) (cs : List AV) (h : HP) (nx : Nat) (k : KV) : Bool :=
  Option.rec (motive := fun _ => Bool) false (fun p => partA p.2 cs p.1 h nx k) (fieldKind P ty f)
def fieldA (ty : TypeId) (f : Nat) (a : AV) : HP → Nat → KV → Bool := match a with | .agg cs => fieldC P ty f cs | _ => bad1
def strIdx (ty : TypeId) (s : List Nat) (i : AV) : HP → Nat → KV → Bool :=
  match i with
  | .int _ (.ofNat n) => fun h nx k => Bool.rec false (Option.rec (motive := fun _ => Bool) false (fun c => k (.int .u8 (.ofNat c)) h nx) s[n]?) (isStrT P ty)
  | _ => bad1
def indexA (ty : TypeId) (a : AV) : AV → HP → Nat → KV → Bool :=
  match a with | .str s => strIdx P ty s | _ => fun _ => bad1

def natOf (dflt : Nat) (o : Option AV) : Option Nat := match o with | none => some dflt | some (.int _ (.ofNat n)) => some n | _ => none
def optN (o : Option Nat) (k : Nat → Bool) : Bool := Option.rec (motive := fun _ => Bool) false k o
def sliceStr (ty : TypeId) (s : List Nat) (lo hi mx : Option AV) (h : HP) (nx : Nat) (k : KV) : Bool :=
  optN (natOf 0 lo) fun l => optN (natOf s.length hi) fun r =>
    Bool.rec false (forceList ((s.drop l).take (r - l)) fun s => k (.str s) h nx) (Nat.ble l r && Nat.ble r s.length && mx.isNone && isStrT P ty)
def sliceSl (ty : TypeId) (b off len mc es : Nat) (lo hi mx : Option AV) (h : HP) (nx : Nat) (k : KV) : Bool :=
  Option.rec (motive := fun _ => Bool) false (fun p => optN (natOf 0 lo) fun l => optN (natOf len hi) fun r =>
    Bool.rec false (Bool.rec (forceNat (off + l * es) fun o => forceNat (r - l) fun n => forceNat (mc - l) fun m => k (.slice b o n m es) h nx) (k .eslice h nx) (Nat.beq l mc && Nat.ble 1 l)) (Nat.ble l r && Nat.ble r mc && mx.isNone && Nat.beq p.2 es)) (sliceElem P ty)
def sliceEmp (ty : TypeId) (lo hi mx : Option AV) (h : HP) (nx : Nat) (k : KV) : Bool :=
  Option.rec (motive := fun _ => Bool) false (fun _ => optN (natOf 0 lo) fun l => optN (natOf 0 hi) fun r => Bool.rec false (k .eslice h nx) (Nat.beq l 0 && Nat.beq r 0 && mx.isNone)) (sliceElem P ty)
def sliceNil (ty : TypeId) (lo hi mx : Option AV) (h : HP) (nx : Nat) (k : KV) : Bool :=
  Option.rec (motive := fun _ => Bool) false (fun _ => optN (natOf 0 lo) fun l => optN (natOf 0 hi) fun r => Bool.rec false (k .nilslice h nx) (Nat.beq l 0 && Nat.beq r 0 && mx.isNone)) (sliceElem P ty)
def sliceA (ty : TypeId) (a : AV) : Option AV → Option AV → Option AV → HP → Nat → KV → Bool :=
  match a with | .str s => sliceStr P ty s | .slice b off len mc es => sliceSl P ty b off len mc es | .nilslice => sliceNil P ty | .eslice => sliceEmp P ty | _ => fun _ _ _ => bad1

/-! building -/
def fillA (place : Nat → Option (Nat × Nat)) : List (Nat × AV) → List AV → Option (List AV)
  | [], cs => some cs
  | (i, v) :: rest, cs => match place i with
    | none => none
    | some (off, size) => bif Nat.beq (cellsOf v).length size && Nat.ble (off + size) cs.length && allFlat (cellsOf v) then fillA place rest (cs.take off ++ (cellsOf v ++ cs.drop (off + size))) else none
def structPlace (ty : TypeId) (i : Nat) : Option (Nat × Nat) := match P.underlying ty with
  | some (.struct fs) => match fs[i]? with
    | some f => (sizeT P f.type).map fun n => (f.offset, n)
    | none => none
  | _ => none
/-- all fields' types have a size -/
def structOk (ty : TypeId) : Bool := match P.underlying ty with
  | some (.struct fs) => fs.toList.all fun f => (sizeT P f.type).isSome
  | _ => false
def buildS (ty : TypeId) (ps : List (Nat × AV)) (z : List AV) (h : HP) (nx : Nat) (k : KV) : Bool :=
  Option.rec (motive := fun _ => Bool) false (fun cs => forceList cs fun cs => k (.agg cs) h nx) (fillA (structPlace P ty) ps z)
def zeroAgg (ty : TypeId) : Option (List AV) := match zeroT P ty with | some (.agg cs) => bif structOk P ty then some cs else none | _ => none
def buildA (ty : TypeId) (ps : List (Nat × AV)) (h : HP) (nx : Nat) (k : KV) : Bool :=
  Option.rec (motive := fun _ => Bool) false (fun z => buildS P ty ps z h nx k) (zeroAgg P ty)
def rep (n : Nat) (l : List AV) : List AV := Nat.rec (motive := fun _ => List AV) [] (fun _ ih => l ++ ih) n
/-- a slice type's element with its size, which is not 0, and its zero value's cells -/
def sliceZero (t : TypeId) : Option (Nat × Nat × List AV) := match sliceElem P t with
  | some (e, n) => bif Nat.ble 1 n && Nat.ble (bytesT P e) (2 ^ 16) then (zeroCells P e).map fun z => (e, n, z) else none
  | none => none
def buildSl (len : Nat) (ps : List (Nat × AV)) (q : Nat) (p : Nat × List AV) (h : HP) (nx : Nat) (k : KV) : Bool :=
  Option.rec (motive := fun _ => Bool) false (fun cs => forceList cs fun cs => newCells q h nx cs fun b h nx => k (.slice b 0 len len p.1) h nx)
    (fillA (fun i => some (i * p.1, p.1)) ps (rep len p.2))
def buildSliceA (ty : TypeId) (len : Nat) (ps : List (Nat × AV)) (h : HP) (nx : Nat) (k : KV) : Bool :=
  Option.rec (motive := fun _ => Bool) false (fun p => Bool.rec false (buildSl len ps p.1 p.2 h nx k) (Nat.ble (len * p.2.1) (2 ^ 24))) (sliceZero P ty)
def makeSl (l c : Nat) (q : Nat) (p : Nat × List AV) (h : HP) (nx : Nat) (k : KV) : Bool :=
  Bool.rec false (newCells q h nx (rep c p.2) fun b h nx => k (.slice b 0 l c p.1) h nx) (Nat.ble l c && Nat.blt c (2 ^ 30))
def makeInt (ty : TypeId) (l : Nat) (c : AV) (h : HP) (nx : Nat) (k : KV) : Bool :=
  match c with
  | .int _ (.ofNat c) => Option.rec (motive := fun _ => Bool) false (fun p => makeSl l c p.1 p.2 h nx k) (sliceZero P ty)
  | _ => false
def makeSliceA (ty : TypeId) (l c : AV) : HP → Nat → KV → Bool :=
  match l with | .int _ (.ofNat l) => makeInt P ty l c | _ => bad1

/-! maps with strings as keys -/
def findA (x : List Nat) (es : List (List Nat × AV)) : Option AV :=
  List.rec (motive := fun _ => Option AV) none (fun p _ ih => Bool.rec ih (some p.2) (natsEq x p.1)) es
def putA (x : List Nat) (v : AV) (es : List (List Nat × AV)) : List (List Nat × AV) :=
  List.rec (motive := fun _ => List (List Nat × AV)) [(x, v)] (fun p l ih => Bool.rec (p :: ih) ((x, v) :: l) (natsEq x p.1)) es
def delA (x : List Nat) (es : List (List Nat × AV)) : List (List Nat × AV) :=
  List.rec (motive := fun _ => List (List Nat × AV)) [] (fun p l ih => Bool.rec (p :: ih) l (natsEq x p.1)) es
def withStr (v : AV) : (List Nat → Bool) → Bool := match v with | .str s => fun k => k s | _ => fun _ => false
def lookMap (z : AV) (x : AV) (b : Nat) (h : HP) (nx : Nat) (k : KV) : Bool :=
  withStr x fun s => Tr.getK DH h b fun o => withMap o fun es => Option.rec (motive := fun _ => Bool) (k z h nx) (fun v => k v h nx) (findA s es)
def lookZ (m : AV) (z x : AV) : HP → Nat → KV → Bool :=
  match m with | .map b => lookMap z x b | .nilmap => fun h nx k => withStr x fun _ => k z h nx | _ => bad1
def lookupA (ty : TypeId) (ok : Bool) (x m : AV) (h : HP) (nx : Nat) (k : KV) : Bool :=
  Bool.rec (Option.rec (motive := fun _ => Bool) false (fun z => lookZ m z x h nx k) ((strMap P ty).bind (zeroT P))) false ok
def updMap (x v : AV) (b : Nat) (h : HP) (nx : Nat) (k : KV) : Bool :=
  withStr x fun s => Tr.getK DH h b fun o => withMap o fun es => forceList (putA s v es) fun es => Tr.setK DH h b (.map es) fun h => k undefA h nx
def updateA (ty : TypeId) (x v m : AV) : HP → Nat → KV → Bool :=
  match m with | .map b => fun h nx k => Option.rec (motive := fun _ => Bool) false (fun _ => updMap x v b h nx k) (strMap P ty) | _ => bad1
def delMap (x : AV) (b : Nat) (h : HP) (nx : Nat) (k : KV) : Bool :=
  withStr x fun s => Tr.getK DH h b fun o => withMap o fun es => forceList (delA s es) fun es => Tr.setK DH h b (.map es) fun h => k undefA h nx
def deleteA (ty : TypeId) (x m : AV) : HP → Nat → KV → Bool :=
  match m with | .map b => fun h nx k => Option.rec (motive := fun _ => Bool) false (fun _ => delMap x b h nx k) (strMap P ty) | _ => bad1

/-! builtins -/
def bytesAV (s : List Nat) : List AV := s.map fun c => AV.int .u8 (.ofNat c)
def elemsA (es : Nat) (x : AV) : HP → (List AV → Nat → Bool) → Bool :=
  match x with
  | .nilslice => fun _ k => k [] 0
  | .eslice => fun _ k => k [] 0
  | .str s => fun _ k => Bool.rec false (forceList (bytesAV s) fun l => forceNat s.length fun n => k l n) (Nat.beq es 1)
  | .slice b off len _ _ => fun h k => Tr.getK DH h b fun o => withCells o fun d t n => Bool.rec false (loadL d t (len * es) off fun xs => k xs len) (Nat.ble (off + len * es) n)
  | _ => fun _ _ => false
def appNil (el es : Nat) (xs : List AV) (n : Nat) (h : HP) (nx : Nat) (k : KV) : Bool :=
  Bool.rec (Bool.rec false (newCells el h nx xs fun b h nx => k (.slice b 0 n n es) h nx) (Nat.ble n (2 ^ 24))) (k .nilslice h nx) (Nat.beq n 0)
def growT (k : Nat) (t : TM) : TM := Nat.rec (motive := fun _ => TM) t (fun _ ih => .node ih (.leaf undefA)) k
/-- an append within the known capacity -/
def appIn (e d : Nat) (t : TM) (m b off len mc es : Nat) (xs : List AV) (n : Nat) (h : HP) (nx : Nat) (k : KV) : Bool :=
  Bool.rec false (storeL d xs t (off + len * es) fun t => Tr.setK DH h b (.cells e d t m) fun h => forceNat (len + n) fun l => k (.slice b off l mc es) h nx) (Nat.ble (off + (len + n) * es) m)
/-- an append beyond it: a new block; the old one is dead -/
def appOut (el d : Nat) (t : TM) (m b len es : Nat) (xs : List AV) (n : Nat) (h : HP) (nx : Nat) (k : KV) : Bool :=
  Bool.rec false
    (forceNat (len + n) fun l => forceNat (l * es) fun m' => forceNat (depthOf m') fun d1 => forceNat (Nat.max d d1) fun d' => storeL d' xs (growT (d' - d) t) (len * es) fun t =>
      Tr.setK DH h b .dead fun h => allocK h nx (.cells (2 * el) d' t m') fun b' h nx => k (.slice b' 0 l l es) h nx)
    (Nat.ble (len * es) m && Nat.ble (len + n) (2 ^ 24))
def appOff (el d : Nat) (t : TM) (m b off len es : Nat) (xs : List AV) (n : Nat) (h : HP) (nx : Nat) (k : KV) : Bool :=
  Bool.rec false (loadL d t (len * es) off fun old => Tr.setK DH h b .dead fun h => newCells2 (2 * el) h nx (old ++ xs) fun b' h nx => forceNat (len + n) fun l => k (.slice b' 0 l l es) h nx)
    (Nat.ble (off + len * es) m && Nat.ble (len + n) (2 ^ 24))
def appSl (el b off len mc es : Nat) (xs : List AV) (n : Nat) (h : HP) (nx : Nat) (k : KV) : Bool :=
  Tr.getK DH h b fun o => withWCells o fun e d t m =>
    Bool.rec (Bool.rec false (Bool.rec (appOff el d t m b off len es xs n h nx k) (appOut el d t m b len es xs n h nx k) (Nat.beq off 0)) (Nat.beq (Nat.div e 2) el)) (appIn e d t m b off len mc es xs n h nx k) (Nat.ble (len + n) mc)
def appTo (el es : Nat) (s : AV) : List AV → Nat → HP → Nat → KV → Bool :=
  match s with
  | .nilslice => appNil el es
  | .slice b off len mc es' => fun xs n h nx k => Bool.rec false (appSl el b off len mc es xs n h nx k) (Nat.beq es es')
  | _ => fun _ _ => bad1
/-- a slice's or a string's type -/
def seqT (t : TypeId) : Bool := match P.underlying t with | some (.slice _) => true | some .string => true | _ => false
def appendA (ty ty2 : TypeId) (s x : AV) (h : HP) (nx : Nat) (k : KV) : Bool :=
  Option.rec (motive := fun _ => Bool) false (fun p => elemsA p.2.1 x h fun xs n => appTo p.1 p.2.1 s xs n h nx k) (bif seqT P ty2 then sliceZero P ty else none)
def natRet (n : Nat) (h : HP) (nx : Nat) (k : KV) : Bool := forceNat n fun n => k (.int .i64 (.ofNat n)) h nx
inductive LenK where
  | str | slice | map | no
def lenKind (ty : TypeId) : LenK := match P.underlying ty with | some .string => .str | some (.slice _) => .slice | some (.map _ _) => .map | _ => .no
def lenStr (x : AV) : HP → Nat → KV → Bool := match x with | .str s => natRet s.length | _ => bad1
def lenSl (x : AV) : HP → Nat → KV → Bool := match x with | .slice _ _ len _ _ => natRet len | .nilslice => natRet 0 | .eslice => natRet 0 | _ => bad1
def lenA (kd : LenK) : AV → HP → Nat → KV → Bool := match kd with | .str => lenStr | .slice => lenSl | _ => fun _ => bad1
def minInt (lt : Bool) (a : AV) : AV → HP → Nat → KV → Bool :=
  match a with
  | .int kd x => fun b => match b with
    | .int _ y => bInt kd (Bool.rec (Bool.rec x y (decide (x < y))) (Bool.rec x y (decide (y < x))) lt)
    | _ => bad1
  | _ => fun _ => bad1
def lenB (ts : List TypeId) (args : List AV) : HP → Nat → KV → Bool := match ts, args with | [t], [x] => lenA (lenKind P t) x | _, _ => bad1
def appendB (ts : List TypeId) (args : List AV) : HP → Nat → KV → Bool := match ts, args with | [t, u], [s, x] => appendA P t u s x | _, _ => bad1
def deleteB (ts : List TypeId) (args : List AV) : HP → Nat → KV → Bool := match ts, args with | [t, _], [m, x] => deleteA P t x m | _, _ => bad1
def minB (lt : Bool) (args : List AV) : HP → Nat → KV → Bool := match args with | [x, y] => minInt lt x y | _ => bad1
def byteNat (v : AV) : Option Nat := match v with | .int .u8 (.ofNat n) => bif Nat.blt n 256 then some n else none | _ => none
def bytesK (l : List AV) : (List Nat → Bool) → Bool :=
  List.rec (motive := fun _ => (List Nat → Bool) → Bool) (fun k => k []) (fun v _ ih k => optN (byteNat v) fun n => ih fun l => k (n :: l)) l
def u8One (t : TypeId) : Bool := isU8 P t && (match sizeT P t with | some n => Nat.beq n 1 | none => false)
/-! a builder's text -/
def ptrTo (t : TypeId) : Option TypeId := match P.underlying t with | some (.pointer e) => some e | _ => none
def sliceDataB (args : List AV) : HP → Nat → KV → Bool := match args with
  | [.nilslice] => fun h nx k => k .nilptr h nx
  | [.slice b off _ mc _] => fun h nx k => Bool.rec false (k (.ptr b off) h nx) (Nat.ble 1 mc)
  | _ => bad1
def uStr (pe b off n : Nat) (h : HP) (nx : Nat) (k : KV) : Bool :=
  Tr.getK DH h b fun o => withWCells o fun e d t m =>
    Bool.rec false (loadL d t n off fun l => bytesK l fun s => Tr.setK DH h b .dead fun h => k (.str s) h nx) (Nat.beq (Nat.div e 2) pe && u8One P pe && Nat.ble (off + n) m && Nat.ble 1 n && Nat.ble n (2 ^ 40))
def uStrP (t : TypeId) (b off n : Nat) (h : HP) (nx : Nat) (k : KV) : Bool :=
  Option.rec (motive := fun _ => Bool) false (fun pe => Bool.rec (uStr P pe b off n h nx k) (k (.str []) h nx) (Nat.beq n 0)) (ptrTo P t)
def unsafeStrB (ts : List TypeId) (args : List AV) : HP → Nat → KV → Bool := match ts, args with
  | [t, _], [.nilptr, .int .i64 (.ofNat 0)] => fun h nx k => Option.rec (motive := fun _ => Bool) false (fun _ => k (.str []) h nx) (ptrTo P t)
  | [t, _], [.ptr b off, .int .i64 (.ofNat n)] => uStrP P t b off n
  | _, _ => bad1
def builtinA (b : Builtin) (ts : List TypeId) : List AV → HP → Nat → KV → Bool :=
  match b with
  | .len => lenB P ts
  | .append => appendB P ts
  | .delete => deleteB P ts
  | .unsafeSliceData => sliceDataB
  | .unsafeString => unsafeStrB P ts
  | .min => minB true
  | .max => minB false
  | _ => fun _ => bad1
def unA (op : UnOp) (x : AV) : HP → Nat → KV → Bool :=
  match op with
  | .not => match x with | .bool b => bRet (!b) | _ => bad1
  | .neg => match x with | .int kd n => bInt kd (kd.wrap (0 - n)) | _ => bad1
  | _ => bad1
inductive ConvK where
  | int (k : IntKind) | bytes | toU | fromU (u s : Nat) | no
def convKind (src dst : TypeId) : ConvK := match P.underlying src, P.underlying dst with
  | some _, some (.int k) => .int k
  | some (.slice e), some .string => bif isU8 P e then .bytes else .no
  | some (.pointer t), some .unsafePointer => (match sizeT P t with | some (_ + 1) => .toU | _ => .no)
  | some .unsafePointer, some (.pointer u) => (match sizeT P u with | some (s + 1) => .fromU u (s + 1) | _ => .no)
  | _, _ => .no
def convBytes (x : AV) : HP → Nat → KV → Bool :=
  match x with
  | .slice b off len _ _ => fun h nx k => Tr.getK DH h b fun o => withCells o fun d t n =>
      Bool.rec false (loadL d t len off fun l => bytesK l fun s => k (.str s) h nx) (Nat.ble (off + len) n)
  | .nilslice => fun h nx k => k (.str []) h nx
  | _ => bad1
def convInt (kd : IntKind) (x : AV) : HP → Nat → KV → Bool := match x with | .int _ n => bInt kd (kd.wrap n) | _ => bad1
def convToU (x : AV) : HP → Nat → KV → Bool := match x with
  | .nilptr => fun h nx k => k .nilptr h nx
  | .ptr b off => fun h nx k => Tr.getK DH h b fun o => withCells o fun _ _ n => Bool.rec false (k (.ptr b off) h nx) (Nat.blt off n)
  | _ => bad1
def convFromU (u s : Nat) (x : AV) : HP → Nat → KV → Bool := match x with
  | .nilptr => fun h nx k => k .nilptr h nx
  | .ptr b off => fun h nx k => Tr.getK DH h b fun o => withWCells o fun e _ _ n => Bool.rec false (k (.ptr b off) h nx) (Nat.beq e (2 * u + 1) && Nat.beq off 0 && Nat.ble s n)
  | _ => bad1
def convA (kd : ConvK) : AV → HP → Nat → KV → Bool := match kd with | .int k => convInt k | .bytes => convBytes | .toU => convToU | .fromU u s => convFromU u s | .no => fun _ => bad1
def extractA (i : Nat) (x : AV) : HP → Nat → KV → Bool := match x with | .tuple vs => nthK vs i | _ => bad1
def nilCheckA (x : AV) : HP → Nat → KV → Bool := match x with | .ptr b o => fun h nx k => k (.ptr b o) h nx | .func f a c => fun h nx k => k (.func f a c) h nx | _ => bad1
def ifaceOk (t : TypeId) : Bool := match P.underlying t with | some (.interface _) => false | some _ => true | none => false
def ifaceA (ty : TypeId) (v : AV) (h : HP) (nx : Nat) (k : KV) : Bool := Bool.rec false (k (.iface ty v) h nx) (ifaceOk P ty)

/-- an interface's value beside the literal nil -/
def isIfaceT (t : TypeId) : Bool := match P.underlying t with | some (.interface _) => true | _ => false
def ifRet (op : BinOp) (ty : TypeId) (b : Bool) (h : HP) (nx : Nat) (k : KV) : Bool := Bool.rec false (eqRet op b h nx k) (isIfaceT P ty)
def nilCmp (op : BinOp) (ty : TypeId) (x : AV) : HP → Nat → KV → Bool := match x with | .iface _ _ => ifRet P op ty false | .niliface => ifRet P op ty true | _ => bad1
def isNilC (y : Operand) : Bool := match y with | .const .nilIface => true | _ => false
/-- an assertion of a type that is no interface -/
def failA (ty : TypeId) (ok : Bool) (h : HP) (nx : Nat) (k : KV) : Bool :=
  Bool.rec false (Option.rec (motive := fun _ => Bool) false (fun z => k (.tuple [z, .bool false]) h nx) (zeroT P ty)) ok
def hitA (ok : Bool) (v : AV) (h : HP) (nx : Nat) (k : KV) : Bool := Bool.rec (k v h nx) (k (.tuple [v, .bool true]) h nx) ok
def assertA (ty : TypeId) (ok : Bool) (x : AV) : HP → Nat → KV → Bool :=
  match x with
  | .iface u v => fun h nx k => Bool.rec false (Bool.rec (failA P ty ok h nx k) (hitA ok v h nx k) (Nat.beq u ty)) (ifaceOk P ty)
  | .niliface => fun h nx k => Bool.rec false (failA P ty ok h nx k) (ifaceOk P ty)
  | _ => bad1

abbrev OpF := TM → HP → Nat → KV → Bool
def o1 (f : AV → HP → Nat → KV → Bool) (x : Operand) : OpF := fun t h nx k => evD d nt x t fun v => f v h nx k
def o2 (f : AV → AV → HP → Nat → KV → Bool) (x y : Operand) : OpF := fun t h nx k => evD d nt x t fun v => evD d nt y t fun w => f v w h nx k
def o3 (f : AV → AV → AV → HP → Nat → KV → Bool) (x y z : Operand) : OpF := fun t h nx k => evD d nt x t fun v => evD d nt y t fun w => evD d nt z t fun u => f v w u h nx k
def oMove (x : Operand) : OpF := fun t h nx k => evD d nt x t fun v => k v h nx
def pickB (a b : Operand) (c : AV) : OpF := match c with | .bool true => oMove d nt a | .bool false => oMove d nt b | _ => fun _ => bad1
def oPick (c a b : Operand) : OpF := fun t h nx k => evD d nt c t fun v => pickB d nt a b v t h nx k
def newPtr (e : Nat) (vs : List AV) (h : HP) (nx : Nat) (k : KV) : Bool := Bool.rec false (newCells e h nx vs fun b h nx => k (.ptr b 0) h nx) (allFlat vs)
def oAlloc (e : TypeId) : OpF := fun _ h nx k => Option.rec (motive := fun _ => Bool) false (fun z => newPtr e z h nx k) (zeroCells P e)
def oBuild (ty : TypeId) (ps : List (Nat × Operand)) : OpF := fun t h nx k => evParts d nt ps t fun ps => buildA P ty ps h nx k
def oBuildSlice (ty : TypeId) (n : Nat) (ps : List (Nat × Operand)) : OpF := fun t h nx k => evParts d nt ps t fun ps => buildSliceA P ty n ps h nx k
def funK (f : Fn) (a b : List AV) (h : HP) (nx : Nat) (k : KV) : Bool := match f with | .func g => k (.func g a b) h nx | _ => false
def oMakeFunc (f : Fn) (a b : List Operand) : OpF := fun t h nx k => evList d nt a t fun a => evList d nt b t fun b => funK f a b h nx k
def oSlice (ty : TypeId) (x : Operand) (lo hi mx : Option Operand) : OpF := fun t h nx k => evD d nt x t fun x => evOpt d nt lo t fun lo => evOpt d nt hi t fun hi => evOpt d nt mx t fun mx => sliceA P ty x lo hi mx h nx k
def binD (op : BinOp) (ty : TypeId) (x y : Operand) : OpF := Bool.rec (o2 d nt (fun x => binA P x op ty) x y) (o1 d nt (nilCmp P op ty) x) (isNilC y)
def oMakeMap : OpF := fun _ h nx k => allocK h nx (.map []) fun b h nx => k (.map b) h nx

def opDen (o : Op) : OpF :=
  match o with
  | .move x => oMove d nt x
  | .assign x => oMove d nt x
  | .pick c a b => oPick d nt c a b
  | .alloc e => oAlloc P e
  | .box e x => o1 d nt (fun v => newPtr e (cellsOf v)) x
  | .build ty ps => oBuild P d nt ty ps.toList
  | .buildSlice ty n ps => oBuildSlice P d nt ty n ps.toList
  | .load ty a => o1 d nt (loadA P ty) a
  | .store ty a v => o2 d nt (storeA P ty) v a
  | .nilCheck x => o1 d nt nilCheckA x
  | .binOp op ty x y _ => binD P d nt op ty x y
  | .typeAssert x _ ty ok => o1 d nt (assertA P ty ok) x
  | .unOp op _ x => o1 d nt (unA op) x
  | .convert src dst x => o1 d nt (convA (convKind P src dst)) x
  | .makeInterface ty x => o1 d nt (ifaceA P ty) x
  | .makeFunc f a b => oMakeFunc d nt f a.toList b.toList
  | .makeMap _ none => oMakeMap
  | .makeSlice ty l c => o2 d nt (makeSliceA P ty) l c
  | .slice ty x lo hi mx => oSlice P d nt ty x lo hi mx
  | .fieldAddr ty x f => o1 d nt (fieldAddrA P ty f) x
  | .field ty x f => o1 d nt (fieldA P ty f) x
  | .indexAddr ty x i => o2 d nt (indexAddrA P ty) x i
  | .index ty x i => o2 d nt (indexA P ty) x i
  | .lookup ty x i ok => o2 d nt (lookupA P ty ok) i x
  | .mapUpdate ty m x v => o3 d nt (updateA P ty) x v m
  | .extract x i => o1 d nt (extractA i) x
  | _ => fun _ => bad1
end
end Am
