/- A deterministic evaluator of the model, part 1 of 5: whatever it answers, every run of the model answers the same; its conditions stand in each theorem. -/
import Derived.RangeFuncIn
import Derived.DefersIn
import Derived.OrdersIn
import Derived.LoopNIn
import Derived.Laws.IdiomCopy
import Derived.Laws.Cells
import Derived.ChangeKeysEq
namespace Go.Ab

/-! ### small words -/
noncomputable def bnd {α β : Type} (x : Option α) (f : α → Option β) : Option β := Option.rec none f x
noncomputable def cnd {α : Type} (b : Bool) (x y : α) : α := Bool.rec y x b
noncomputable def grd {α : Type} (b : Bool) (x : Option α) : Option α := Bool.rec none x b

/-! ### tries -/
inductive Pos where
  | h
  | o (p : Pos)
  | i (p : Pos)
  deriving DecidableEq
noncomputable def posF (n : Nat) : Nat → Pos :=
  Nat.rec (motive := fun _ => Nat → Pos) (fun _ => .h)
    (fun _ ih k => Bool.rec (Bool.rec (.o (ih (Nat.pred (Nat.div k 2)))) (.i (ih (Nat.div k 2))) (Nat.beq (Nat.mod k 2) 1)) .h (Nat.beq k 0)) n
noncomputable def pos (k : Nat) : Pos := posF k k

inductive Tr (α : Type) where
  | leaf
  | node (v : Option α) (l r : Tr α)
namespace Tr
variable {α : Type}
noncomputable def get (t : Tr α) : Pos → Option α :=
  Tr.rec (motive := fun _ => Pos → Option α) (fun _ => none) (fun v _ _ gl gr p => Pos.rec v (fun q _ => gr q) (fun q _ => gl q) p) t
noncomputable def path (x : Option α) (p : Pos) : Tr α :=
  Pos.rec (.node x .leaf .leaf) (fun _ ih => .node none .leaf ih) (fun _ ih => .node none ih .leaf) p
noncomputable def put (x : Option α) (t : Tr α) : Pos → Tr α :=
  Tr.rec (motive := fun _ => Pos → Tr α) (fun p => path x p)
    (fun v l r pl pr p => Pos.rec (.node x l r) (fun q _ => .node v l (pr q)) (fun q _ => .node v (pl q) r) p) t
noncomputable def ofListFrom (l : List α) : Nat → Tr α → Tr α :=
  List.rec (motive := fun _ => Nat → Tr α → Tr α) (fun _ t => t) (fun x _ ih i t => ih (Nat.add i 1) (t.put (some x) (pos i))) l
end Tr


def litStep (ih : Value → Bool) (v : Value) : Bool :=
  match v with
  | .bool _ | .int _ _ | .string _ | .pointer none | .slice none 0 0 | .map none | .nilFunc | .nilIface => true
  | .func (.func _) f c => f.isEmpty && c.isEmpty
  | .agg cs => cs.toList.all ih
  | .tuple cs => cs.toList.all ih
  | _ => false
noncomputable def litN (n : Nat) : Value → Bool := Nat.rec (litStep fun _ => false) (fun _ ih => litStep ih) n
noncomputable def lit (v : Value) : Bool := litN 4 v


/-! ### the abstract memory -/
inductive AObj where
  | cells (sh : TypeId × Bool) (n : Nat) (c : Tr Value)
  | map (es : List MapEntry) (clock : Nat)
  | strIter (s : ByteArray) (pos : Nat)
  | mapIter (m : Option Nat) (since : Nat) (seen : List Nat) (stepped : Nat)
  | loop (state : LoopState) (pending : Option Code) (fn : FuncId) (tmps : Tr Value) (params : Array Tmp) (assign body : Code) (defers : Nat)
  | defd (ds : Option (List Deferred))
structure Blk where
  ver : Nat
  o : AObj
structure St where
  hp : Tr Blk
  nx : Nat
/-- the functions without a body that are known -/
inductive XK where
  | indexByte | count | makeNoZero (t e : TypeId) | noEscape | nop (k : Nat) | load (k : IntKind) | store | cas (k : IntKind) | add (k : IntKind)
structure Env where
  T : Tr TypeInfo
  F : Tr Func
  eq : Tr Unit
  X : Tr XK

noncomputable def Env.info (E : Env) (t : TypeId) : Option TypeInfo := E.T.get (pos t)
noncomputable def tdRes (E : Env) (d : TypeDesc) : Option TypeDesc :=
  match d with
  | .named _ u => bnd (E.info u) fun i => some i.desc
  | d => some d
noncomputable def Env.und (E : Env) (t : TypeId) : Option TypeDesc := bnd (E.info t) fun i => tdRes E i.desc
noncomputable def Env.size (E : Env) (t : TypeId) : Option Nat := bnd (E.info t) fun i => some i.size
noncomputable def Env.bytes (E : Env) (t : TypeId) : Option Nat := bnd (E.info t) fun i => some i.bytes
noncomputable def Env.zero (E : Env) (t : TypeId) : Option Value := bnd (E.info t) fun i => bnd i.zero fun v => grd (lit v) (some v)
def tdIsAgg : TypeDesc → Bool
  | .struct _ | .array _ _ => true
  | _ => false
noncomputable def Env.agg (E : Env) (t : TypeId) : Option Bool := bnd (E.und t) fun d => some (tdIsAgg d)

noncomputable def getD (t : Tr Value) (i : Nat) : Value := Option.rec undef (fun v => v) (t.get (pos i))
noncomputable def opv (t : Tr Value) (x : Operand) : Option Value :=
  Operand.rec (fun i => some (getD t i)) (fun v => grd (lit v) (some v)) (fun _ => none) (fun f => some (.func (.func f) #[] #[])) x
noncomputable def opvs (t : Tr Value) (xs : List Operand) : Option (List Value) :=
  List.rec (some []) (fun x _ ih => bnd (opv t x) fun v => bnd ih fun vs => some (v :: vs)) xs
noncomputable def opvo (t : Tr Value) (x : Option Operand) : Option (Option Value) :=
  Option.rec (some none) (fun x => bnd (opv t x) fun v => some (some v)) x

/-! taking values apart -/
def asInt (v : Value) : Option Int := match v with | .int _ n => some n | _ => none
def asBool (v : Value) : Option Bool := match v with | .bool b => some b | _ => none
noncomputable def asNat (v : Value) : Option Nat := bnd (asInt v) fun n => Int.rec (fun m => some m) (fun _ => none) n
def asAddr (v : Value) : Option (Nat × Nat) := match v with | .pointer (some ⟨b, o, none⟩) => some (b, o) | _ => none
def asAgg (v : Value) : Option (Array Value) := match v with | .agg c => some c | _ => none
def asStr (v : Value) : Option ByteArray := match v with | .string c => some c | _ => none
def asMap (v : Value) : Option (Option Nat) := match v with | .map c => some c | _ => none
def asTuple (v : Value) : Option (Array Value) := match v with | .tuple c => some c | _ => none
/-- a slice: nil (none), or its block and place; its length; its capacity's code -/
def asSlice (v : Value) : Option (Option (Nat × Nat) × Nat × Nat) := match v with
  | .slice none n c => some (none, n, c)
  | .slice (some ⟨b, o, none⟩) n c => some (some (b, o), n, c)
  | _ => none

noncomputable def blkOf (st : St) (b : Nat) : Option Blk := st.hp.get (pos b)
def AObj.asCells (o : AObj) : Option ((TypeId × Bool) × Nat × Tr Value) := match o with | .cells sh n c => some (sh, n, c) | _ => none
noncomputable def cellsOf (st : St) (b : Nat) : Option ((TypeId × Bool) × Nat × Tr Value) := bnd (blkOf st b) fun k => k.o.asCells
noncomputable def setBlk (st : St) (b : Nat) (o : AObj) : Option St :=
  bnd (blkOf st b) fun k => some { st with hp := st.hp.put (some ⟨Nat.add k.ver 1, o⟩) (pos b) }
noncomputable def setCells (st : St) (b : Nat) (c : Tr Value) : Option St :=
  bnd (blkOf st b) fun k => bnd k.o.asCells fun x => some { st with hp := st.hp.put (some ⟨Nat.add k.ver 1, .cells x.1 x.2.1 c⟩) (pos b) }
noncomputable def kill (st : St) (b : Nat) : St := { st with hp := st.hp.put none (pos b) }
noncomputable def alloc (st : St) (o : AObj) : St := { hp := st.hp.put (some ⟨0, o⟩) (pos st.nx), nx := Nat.add st.nx 1 }
noncomputable def allocAt (st : St) (id : Nat) (o : AObj) : St := { st with hp := st.hp.put (some ⟨0, o⟩) (pos id) }

noncomputable def readCells (c : Tr Value) (n : Nat) : Nat → Option (List Value) :=
  Nat.rec (motive := fun _ => Nat → Option (List Value)) (fun _ => some [])
    (fun _ ih o => bnd (c.get (pos o)) fun v => bnd (ih (Nat.add o 1)) fun r => some (v :: r)) n
noncomputable def writeCells (vs : List Value) : Nat → Tr Value → Tr Value :=
  List.rec (motive := fun _ => Nat → Tr Value → Tr Value) (fun _ c => c) (fun v _ ih o c => ih (Nat.add o 1) (c.put (some v) (pos o))) vs

noncomputable def loadAt (E : Env) (st : St) (t : TypeId) (b o : Nat) : Option Value :=
  bnd (cellsOf st b) fun c => bnd (E.agg t) fun a =>
    cnd a (bnd (E.size t) fun n => bnd (readCells c.2.2 n o) fun vs => some (.agg vs.toArray)) (c.2.2.get (pos o))

noncomputable def part (E : Env) (t : TypeId) (cs : Array Value) (off : Nat) : Option Value :=
  bnd (E.agg t) fun a => cnd a (bnd (E.size t) fun n => some (.agg (cs.extract off (off + n)))) cs[off]?

/-- no aggregate: what one cell may hold -/
def one (v : Value) : Bool := match v with | .agg _ | .tuple _ => false | _ => true
/-- every temporary that is written lies in the frame -/
def dstFits (n : Nat) (o : Oper) : Bool := match o.dst with | none => true | some d => Nat.blt d n
/-- 0: a value alone; 1: reads a block; 2: makes one; 3: anything else; 4: not in a region that draws its order -/
def cls (o : Op) : Nat :=
  match o with
  | .move _ | .pick .. | .build .. | .nilCheck _ | .binOp .. | .unOp .. | .makeInterface .. | .makeFunc .. | .slice .. | .fieldAddr .. | .field .. | .indexAddr .. | .index .. | .extract .. => 0
  | .load .. => 1
  | .alloc _ | .box .. | .buildSlice .. | .makeSlice .. | .makeMap .. => 2
  | .call { callee := .builtin .cap, .. } | .call { callee := .builtin .min, .. } | .call { callee := .builtin .max, .. } | .call { callee := .builtin .unsafeSliceData, .. } => 0
  | .call { callee := .builtin .len, .. } => 1
  | .defer _ => 4
  | .select .. => 4
  | _ => 3
/-- what must come before: bit by bit -/
noncomputable def maskOf (m : Tr Nat) (es : List Edge) : Nat :=
  List.rec 0 (fun e _ ih => cnd (Region.binds .any e) (Nat.lor (Nat.lor ih (Nat.shiftLeft 1 e.on)) (Option.rec 0 (fun x => x) (m.get (pos e.on)))) ih) es
noncomputable def masksFrom (ops : List Oper) : Nat → Tr Nat → Tr Nat :=
  List.rec (motive := fun _ => Nat → Tr Nat → Tr Nat) (fun _ m => m) (fun o _ ih i m => ih (Nat.add i 1) (m.put (some (maskOf m o.after.toList)) (pos i))) ops
noncomputable def masks (ops : List Oper) : Tr Nat := masksFrom ops 0 .leaf
/-- i comes before j -/
noncomputable def befr (m : Tr Nat) (i j : Nat) : Bool := Nat.testBit (Option.rec 0 (fun x => x) (m.get (pos j))) i
noncomputable def pairOk (ops : Array Oper) (m : Tr Nat) (i : Nat) (oi : Oper) (j : Nat) (oj : Oper) : Bool :=
  befr m i j || (oi.apart ops oj && !(Nat.ble 3 (cls oi.op) && Nat.ble 3 (cls oj.op)))
noncomputable def pairsOf (ops : Array Oper) (m : Tr Nat) (i : Nat) (oi : Oper) (l : List Oper) : Nat → Bool :=
  List.rec (motive := fun _ => Nat → Bool) (fun _ => true) (fun oj _ ih j => cnd (pairOk ops m i oi j oj) (ih (Nat.add j 1)) false) l
noncomputable def allPairs (ops : Array Oper) (m : Tr Nat) (l : List Oper) : Nat → Bool :=
  List.rec (motive := fun _ => Nat → Bool) (fun _ => true) (fun oi r ih i => cnd (pairsOf ops m i oi r (Nat.add i 1)) (ih (Nat.add i 1)) false) l
noncomputable def backOk (l : List Oper) : Nat → Bool :=
  List.rec (motive := fun _ => Nat → Bool) (fun _ => true) (fun o _ ih i => cnd (o.after.toList.all fun e => !Region.binds .any e || Nat.blt e.on i) (ih (Nat.add i 1)) false) l
noncomputable def drawnOk (ops : Array Oper) : Bool :=
  ops.toList.all (fun o => Nat.ble (cls o.op) 3) && backOk ops.toList 0 && allPairs ops (masks ops.toList) ops.toList 0
/-- a region that is never followed: its second operation makes a map -/
def opMk (o : Op) : Bool := match o with | .makeMap _ _ => true | _ => false
noncomputable def odd (ops : List Oper) : Bool := List.rec false (fun _ l _ => List.rec false (fun o _ _ => opMk o.op) l) ops
noncomputable def codeOk (n : Nat) : Code → Bool
  | .region _ ops draw => ops.toList.all (dstFits n) && cnd draw (drawnOk ops || odd ops.toList) true
  | .seq a b => codeOk n a && codeOk n b
  | .cond _ a b => codeOk n a && codeOk n b
  | .block _ b => codeOk n b
  | .loop b => codeOk n b
  | .scope b => codeOk n b
  | .rangeFunc _ ps a b => ps.toList.all (fun p => Nat.blt p n) && codeOk n a && codeOk n b
  | _ => true

/-! ### arithmetic -/
def ikEq (a b : IntKind) : Bool := a == b
noncomputable def intBin (op : BinOp) (k k' : IntKind) (a b : Int) : Option Value :=
  match op with
  | .add => grd (ikEq k k') (some (.int k (k.wrap (a + b))))
  | .sub => grd (ikEq k k') (some (.int k (k.wrap (a - b))))
  | .mul => grd (ikEq k k') (some (.int k (k.wrap (a * b))))
  | .quo => grd (ikEq k k') (grd (a == a && b != 0) (some (.int k (k.wrap (a.tdiv b)))))
  | .rem => grd (ikEq k k') (grd (b != 0) (some (.int k (a.tmod b))))
  | .shl => grd (0 ≤ b) (some (.int k (k.wrap (a * 2 ^ (min b.toNat k.bits)))))
  | .shr => grd (0 ≤ b) (some (.int k (a.fdiv (2 ^ (min b.toNat k.bits)))))
  | .eql => grd (ikEq k k') (some (.bool (a == b)))
  | .neq => grd (ikEq k k') (some (.bool (a != b)))
  | .lss => grd (ikEq k k') (some (.bool (a < b)))
  | .leq => grd (ikEq k k') (some (.bool (a ≤ b)))
  | .gtr => grd (ikEq k k') (some (.bool (a > b)))
  | .geq => grd (ikEq k k') (some (.bool (a ≥ b)))
  | .and => grd (ikEq k k') (some (.int k (k.wrap ((BitVec.ofInt k.bits a &&& BitVec.ofInt k.bits b).toNat))))
  | .or => grd (ikEq k k') (some (.int k (k.wrap ((BitVec.ofInt k.bits a ||| BitVec.ofInt k.bits b).toNat))))
  | .xor => grd (ikEq k k') (some (.int k (k.wrap ((BitVec.ofInt k.bits a ^^^ BitVec.ofInt k.bits b).toNat))))
  | .andNot => grd (ikEq k k') (some (.int k (k.wrap ((BitVec.ofInt k.bits a &&& ~~~(BitVec.ofInt k.bits b)).toNat))))

noncomputable def strBin (op : BinOp) (x y : ByteArray) : Option Value :=
  match op with
  | .add => grd (decide (x.size + y.size < 2 ^ 62)) (some (.string (x ++ y)))
  | .eql => some (.bool (x.data.toList == y.data.toList))
  | .neq => some (.bool !(x.data.toList == y.data.toList))
  | .lss => some (.bool (Op.bytesLess x.data.toList y.data.toList))
  | .leq => some (.bool (Op.bytesLess x.data.toList y.data.toList || x.data.toList == y.data.toList))
  | .gtr => some (.bool !(Op.bytesLess x.data.toList y.data.toList || x.data.toList == y.data.toList))
  | .geq => some (.bool !(Op.bytesLess x.data.toList y.data.toList))
  | _ => none

/-- equality, as far as no two addresses in different blocks have to be compared -/
noncomputable def eqStruct (E : Env) (ih : TypeId → Value → Value → Option Bool) (xs ys : Array Value) (fs : List Field) : Option Bool :=
  List.rec (some true) (fun f _ r =>
    cnd (f.name == "_") r
      (bnd (part E f.type xs f.offset) fun x => bnd (part E f.type ys f.offset) fun y => bnd (ih f.type x y) fun b => cnd b r (some false))) fs
noncomputable def eqArr (E : Env) (ih : TypeId → Value → Value → Option Bool) (e : TypeId) (z : Nat) (xs ys : Array Value) (is : List Nat) : Option Bool :=
  List.rec (some true) (fun i _ r =>
    bnd (part E e xs (i * z)) fun x => bnd (part E e ys (i * z)) fun y => bnd (ih e x y) fun b => cnd b r (some false)) is
noncomputable def eqStep (E : Env) (ih : TypeId → Value → Value → Option Bool) (t : TypeId) (x y : Value) (d : TypeDesc) : Option Bool :=
  match d, x, y with
  | .bool, .bool a, .bool b => some (a == b)
  | .int _, .int k a, .int k' b => grd (ikEq k k') (some (a == b))
  | .string, .string a, .string b => some (a == b)
  | .pointer _, .pointer none, .pointer b => some b.isNone
  | .pointer _, .pointer (some _), .pointer none => some false
  | .pointer e, .pointer (some ⟨b, o, none⟩), .pointer (some ⟨b', o', none⟩) =>
    bnd (E.size e) fun z => grd (Nat.beq b b' && !Nat.beq z 0) (some (Nat.beq o o'))
  | .interface _, .nilIface, .iface _ _ | .interface _, .iface _ _, .nilIface => some false
  | .struct fs, .agg xs, .agg ys => bnd (E.eq.get (pos t)) fun _ => eqStruct E ih xs ys fs.toList
  | .array n e, .agg xs, .agg ys => bnd (E.eq.get (pos t)) fun _ => bnd (E.size e) fun z => eqArr E ih e z xs ys (List.range n)
  | .slice _, .slice none _ _, .slice b _ _ => some b.isNone
  | .slice _, .slice (some _) _ _, .slice none _ _ => some false
  | .map _ _, .map none, .map b => some b.isNone
  | .map _ _, .map (some _), .map none => some false
  | .func _ _ _, .nilFunc, .nilFunc => some true
  | .func _ _ _, .nilFunc, .func _ _ _ | .func _ _ _, .func _ _ _, .nilFunc => some false
  | _, _, _ => none
noncomputable def eqT (E : Env) (n : Nat) : TypeId → Value → Value → Option Bool :=
  Nat.rec (motive := fun _ => TypeId → Value → Value → Option Bool) (fun _ _ _ => none)
    (fun _ ih t x y => bnd (E.und t) fun d => eqStep E ih t x y d) n

/-! ### capacities -/
/-- the capacity's code: even: exactly half of it; odd: at least the low part of its half, and the high part is the size of an element -/
def capExact (c : Nat) : Bool := Nat.beq (c % 2) 0
noncomputable def capLo (c : Nat) : Nat := cnd (capExact c) (c / 2) (c / 2 % 1099511627776)
def capSz (c : Nat) : Nat := c / 2199023255552
def capOpen (z n : Nat) : Nat := 2 * (z * 1099511627776 + n) + 1

/-! ### maps -/
def sameKey (a b : Value) : Option Bool :=
  match a, b with
  | .int k x, .int k' y => if k = k' then some (x == y) else none
  | .string x, .string y => some (x == y)
  | .bool x, .bool y => some (x == y)
  | _, _ => none
noncomputable def findNow (k : Value) (es : List MapEntry) : Nat → Option (Option (Nat × Value)) :=
  List.rec (motive := fun _ => Nat → Option (Option (Nat × Value))) (fun _ => some none)
    (fun e _ ih i => bnd (sameKey k e.key) fun b => cnd b (some (some (i, e.val))) (ih (Nat.add i 1))) es
def keyFits (d : TypeDesc) (v : Value) : Bool :=
  match d, v with
  | .int _, .int _ _ | .string, .string _ | .bool, .bool _ => true
  | _, _ => false
def AObj.asMap (o : AObj) : Option (List MapEntry × Nat) := match o with | .map es c => some (es, c) | _ => none
noncomputable def mapOf (st : St) (r : Nat) : Option (List MapEntry × Nat) := bnd (blkOf st r) fun k => k.o.asMap
def tdMap (d : TypeDesc) : Option (TypeId × TypeId) := match d with | .map k e => some (k, e) | _ => none
def tdSlice (d : TypeDesc) : Option TypeId := match d with | .slice e => some e | _ => none
def tdStruct (d : TypeDesc) : Option (Array Field) := match d with | .struct e => some e | _ => none

/-! ### operations -/
structure Self where
  code : Option Nat → FuncId → Code → Tr Value → List Deferred → St → Option (Nat × Tr Value × List Deferred × St)
  call : FuncId → List Value → St → Option (Value × St)

/-- what an operation is given -/
structure Ctx where
  E : Env
  S : Self
  rd : Option Nat
  id : Option Nat
  t : Tr Value
  ds : List Deferred
  st : St
/-- what it leaves -/
structure Out where
  v : Value
  ds : List Deferred
  st : St

noncomputable def Ctx.ev (c : Ctx) (x : Operand) : Option Value := opv c.t x
noncomputable def Ctx.val (c : Ctx) (v : Value) : Option Out := some ⟨v, c.ds, c.st⟩
noncomputable def Ctx.out (c : Ctx) (v : Value) (st : St) : Option Out := some ⟨v, c.ds, st⟩
/-- a new block -/
noncomputable def Ctx.new (c : Ctx) (o : AObj) (v : Nat → Value) : Option Out :=
  Option.rec (some ⟨v c.st.nx, c.ds, alloc c.st o⟩) (fun id => some ⟨v id, c.ds, allocAt c.st id o⟩) c.id

noncomputable def hMove (x : Operand) (c : Ctx) : Option Out := bnd (c.ev x) fun v => c.val v
noncomputable def hPick (b x y : Operand) (c : Ctx) : Option Out :=
  bnd (c.ev b) fun b => bnd (asBool b) fun b => bnd (c.ev x) fun x => bnd (c.ev y) fun y => c.val (cnd b x y)
noncomputable def hAlloc (t : TypeId) (c : Ctx) : Option Out :=
  bnd (c.E.zero t) fun z => c.new (.cells (t, true) z.cells.size (writeCells z.cells.toList 0 .leaf)) fun id => .pointer (some ⟨id, 0, none⟩)
noncomputable def hBox (t : TypeId) (x : Operand) (c : Ctx) : Option Out :=
  bnd (c.ev x) fun v => c.new (.cells (t, true) v.cells.size (writeCells v.cells.toList 0 .leaf)) fun id => .pointer (some ⟨id, 0, none⟩)
noncomputable def partVals (t : Tr Value) (ps : List (Nat × Operand)) : Option (List (Nat × Value)) :=
  List.rec (some []) (fun p _ ih => bnd (opv t p.2) fun v => bnd ih fun r => some ((p.1, v) :: r)) ps
noncomputable def places (E : Env) (fs : List Field) : Option (List (Nat × Nat)) :=
  List.rec (some []) (fun f _ ih => bnd (E.size f.type) fun z => bnd ih fun r => some ((f.offset, z) :: r)) fs
noncomputable def buildBy (E : Env) (d : TypeDesc) (zero : Array Value) (vs : List (Nat × Value)) : Option (Array Value) :=
  match d with
  | .struct fs => bnd (places E fs.toList) fun ps => Instr.fill (fun i => ps[i]?) zero vs
  | .array _ e => bnd (E.size e) fun z => Instr.fill (fun i => some (i * z, z)) zero vs
  | _ => none
noncomputable def hBuild (t : TypeId) (ps : Array (Nat × Operand)) (c : Ctx) : Option Out :=
  bnd (c.E.zero t) fun z => bnd (partVals c.t ps.toList) fun vs => bnd (c.E.und t) fun d =>
    bnd (buildBy c.E d z.cells vs) fun cs => c.val (.agg cs)
noncomputable def zerosFrom (z : List Value) (n : Nat) : List Value :=
  Nat.rec [] (fun _ ih => z ++ ih) n
noncomputable def hBuildSlice (t : TypeId) (len : Nat) (ps : Array (Nat × Operand)) (c : Ctx) : Option Out :=
  bnd (c.E.und t) fun d => bnd (tdSlice d) fun e => bnd (c.E.size e) fun z => bnd (c.E.zero e) fun zero =>
    grd (Nat.ble (len * z) 1048576 && Nat.beq zero.cells.size z) (bnd (partVals c.t ps.toList) fun vs =>
      bnd (Instr.fill (fun i => some (i * z, z)) (zerosFrom zero.cells.toList len).toArray vs) fun cs =>
        c.new (.cells (e, false) cs.size (writeCells cs.toList 0 .leaf)) fun id => .slice (some ⟨id, 0, none⟩) len (2 * len))
noncomputable def hMapPut (t : TypeId) (m k x : Operand) (c : Ctx) : Option Out :=
  bnd (c.E.und t) fun d => bnd (tdMap d) fun ke => bnd (c.E.und ke.1) fun kd => bnd (c.ev m) fun m => bnd (asMap m) fun m => bnd m fun r =>
    bnd (c.ev k) fun k => grd (keyFits kd k) (bnd (c.ev x) fun v => bnd (mapOf c.st r) fun es => bnd (findNow k es.1 0) fun f =>
      Option.rec (bnd (setBlk c.st r (.map (es.1 ++ [⟨k, v, es.2⟩]) (Nat.add es.2 1))) fun st => c.out undef st)
        (fun iv => bnd (setBlk c.st r (.map (es.1.modify iv.1 fun e => ⟨k, v, e.born⟩) es.2)) fun st => c.out undef st) f)
noncomputable def hLoad (t : TypeId) (a : Operand) (c : Ctx) : Option Out :=
  bnd (c.ev a) fun a => bnd (asAddr a) fun a => bnd (loadAt c.E c.st t a.1 a.2) fun v => c.val v
noncomputable def hStore (t : TypeId) (a x : Operand) (c : Ctx) : Option Out :=
  bnd (c.ev a) fun a => bnd (asAddr a) fun a => bnd (c.ev x) fun v => bnd (c.E.size t) fun z => bnd (cellsOf c.st a.1) fun cs =>
    grd (Nat.beq v.cells.size z && Nat.ble (Nat.add a.2 z) cs.2.1 && v.cells.toList.all one)
      (bnd (setCells c.st a.1 (writeCells v.cells.toList a.2 cs.2.2)) fun st => c.out undef st)
def notNil (v : Value) : Bool :=
  match v with
  | .pointer (some _) => true
  | .func (.func _) _ _ => true
  | .slice _ _ _ => true
  | .map _ => true
  | _ => false
noncomputable def hNilCheck (x : Operand) (c : Ctx) : Option Out := bnd (c.ev x) fun v => grd (notNil v) (c.val v)
noncomputable def binEq (E : Env) (neg : Bool) (t : TypeId) (x y : Value) : Option Value :=
  bnd (eqT E 12 t x y) fun b => some (.bool (cnd neg (!b) b))
noncomputable def binV (E : Env) (op : BinOp) (t : TypeId) (x y : Value) : Option Value :=
  match x, y with
  | .int k a, .int k' b => intBin op k k' a b
  | .string a, .string b => strBin op a b
  | x, y => match op with
    | .eql => binEq E false t x y
    | .neq => binEq E true t x y
    | _ => none
noncomputable def hBin (op : BinOp) (t : TypeId) (x y : Operand) (_yt : TypeId) (c : Ctx) : Option Out :=
  bnd (c.ev x) fun x => bnd (c.ev y) fun y => bnd (binV c.E op t x y) fun v => c.val v
def unV (op : UnOp) (x : Value) : Option Value :=
  match op, x with
  | .neg, .int k n => some (.int k (k.wrap (0 - n)))
  | .not, .bool b => some (.bool !b)
  | _, _ => none
noncomputable def hUn (op : UnOp) (_t : TypeId) (x : Operand) (c : Ctx) : Option Out := bnd (c.ev x) fun x => bnd (unV op x) fun v => c.val v
def isU8 (d : TypeDesc) : Bool := match d with | .int .u8 => true | _ => false
def asU8 (v : Value) : Option UInt8 := match v with | .int .u8 n => some (UInt8.ofNat n.toNat) | _ => none
noncomputable def bytesOf (vs : List Value) : Option (List UInt8) :=
  List.rec (some []) (fun v _ ih => bnd (asU8 v) fun b => bnd ih fun r => some (b :: r)) vs
noncomputable def cellBytes (st : St) (b o n : Nat) : Option (List UInt8) :=
  bnd (cellsOf st b) fun cs => bnd (readCells cs.2.2 n o) fun vs => bytesOf vs
noncomputable def hConvert (src dst : TypeId) (x : Operand) (c : Ctx) : Option Out :=
  bnd (c.E.und src) fun s => bnd (c.E.und dst) fun d => bnd (c.ev x) fun x =>
    match s, d, x with
    | _, .int k, .int _ n => c.val (.int k (k.wrap n))
    | _, .string, .string s => c.val (.string s)
    | .slice e, .string, .slice a n _ => bnd (c.E.und e) fun e => grd (isU8 e)
        (match a with
        | none => c.val (.string .empty)
        | some ⟨b, o, none⟩ => bnd (cellBytes c.st b o n) fun bs => c.val (.string ⟨bs.toArray⟩)
        | _ => none)
    | .pointer e, .unsafePointer, .pointer (some ⟨b, o, none⟩) => bnd (c.E.size e) fun z => bnd (cellsOf c.st b) fun cs =>
        grd (!Nat.beq z 0 && Nat.ble (Nat.add o 1) cs.2.1) (c.val (.pointer (some ⟨b, o, none⟩)))
    | .unsafePointer, .pointer u, .pointer (some ⟨b, o, none⟩) => bnd (c.E.size u) fun z => bnd (cellsOf c.st b) fun cs =>
        grd (cs.1.2 && Nat.beq o 0 && Nat.beq cs.1.1 u && !Nat.beq z 0 && Nat.beq cs.2.1 z) (c.val (.pointer (some ⟨b, o, none⟩)))
    | .string, .slice e, .string s => bnd (c.E.und e) fun ed => grd (isU8 ed && Nat.ble s.size 1048576)
        (c.new (.cells (e, false) s.size (writeCells (s.data.toList.map fun b => .int .u8 b.toNat) 0 .leaf)) fun id => .slice (some ⟨id, 0, none⟩) s.size (capOpen 1 s.size))
    | _, _, _ => none
def tdIsIface (d : TypeDesc) : Bool := match d with | .interface _ => true | _ => false
noncomputable def hMakeInterface (t : TypeId) (x : Operand) (c : Ctx) : Option Out :=
  bnd (c.E.und t) fun d => grd (!tdIsIface d) (bnd (c.ev x) fun v => c.val (.iface t v))
def fnFunc (f : Fn) : Option FuncId := match f with | .func f => some f | _ => none
noncomputable def hMakeFunc (fn : Fn) (first captured : Array Operand) (c : Ctx) : Option Out :=
  bnd (fnFunc fn) fun f => bnd (opvs c.t first.toList) fun a => bnd (opvs c.t captured.toList) fun b => c.val (.func (.func f) a.toArray b.toArray)
noncomputable def hMakeMap (t : TypeId) (r : Option Operand) (c : Ctx) : Option Out :=
  bnd (c.E.und t) fun d => bnd (tdMap d) fun _ => bnd (opvo c.t r) fun r =>
    grd (match r with | none => true | some (.int _ _) => true | _ => false) (c.new (.map [] 0) fun id => .map (some id))
noncomputable def hMakeSlice (t : TypeId) (l k : Operand) (c : Ctx) : Option Out :=
  bnd (c.E.und t) fun d => bnd (tdSlice d) fun e => bnd (c.ev l) fun l => bnd (asNat l) fun l => bnd (c.ev k) fun k => bnd (asNat k) fun k =>
    bnd (c.E.size e) fun z => bnd (c.E.bytes e) fun by' => bnd (c.E.zero e) fun zero =>
      grd (Nat.ble l k && Nat.ble k 1048576 && Nat.ble (k * by') 1048576 && Nat.ble (k * z) 1048576 && Nat.beq zero.cells.size z)
        (c.new (.cells (e, false) (k * z) (writeCells (zerosFrom zero.cells.toList k) 0 .leaf)) fun id => .slice (some ⟨id, 0, none⟩) l (2 * k))
noncomputable def natO (x : Option Value) : Option (Option Nat) := Option.rec (some none) (fun v => bnd (asNat v) fun n => some (some n)) x
noncomputable def sliceV (z : Nat) (b o n c : Nat) (lo hi mx : Option Nat) : Option Value :=
  match mx with
  | none => grd (Nat.ble (lo.getD 0) (hi.getD n) && Nat.ble (hi.getD n) (capLo c) && (capExact c || Nat.beq (capSz c) z)) (some (.slice (some ⟨b, o + lo.getD 0 * z, none⟩) (hi.getD n - lo.getD 0) (c - 2 * lo.getD 0)))
  | some m => grd (Nat.ble (lo.getD 0) (hi.getD n) && Nat.ble (hi.getD n) m && Nat.ble m (capLo c)) (some (.slice (some ⟨b, o + lo.getD 0 * z, none⟩) (hi.getD n - lo.getD 0) (2 * (m - lo.getD 0))))
noncomputable def hSlice (t : TypeId) (x : Operand) (lo hi mx : Option Operand) (c : Ctx) : Option Out :=
  bnd (c.E.und t) fun d => bnd (c.ev x) fun x => bnd (opvo c.t lo) fun lo => bnd (natO lo) fun lo => bnd (opvo c.t hi) fun hi => bnd (natO hi) fun hi =>
    bnd (opvo c.t mx) fun mx => bnd (natO mx) fun mx => grd (mx.isNone || hi.isSome) <|
      match d, x with
      | .string, .string s => grd (mx.isNone && Nat.ble (lo.getD 0) (hi.getD s.size) && Nat.ble (hi.getD s.size) s.size) (c.val (.string (s.extract (lo.getD 0) (hi.getD s.size))))
      | .slice e, .slice none _ _ => bnd (c.E.size e) fun _ => grd (Nat.beq (lo.getD 0) 0 && Nat.beq (hi.getD 0) 0 && Nat.beq (mx.getD 0) 0) (c.val (.slice none 0 0))
      | .slice e, .slice (some ⟨b, o, none⟩) n k => bnd (c.E.size e) fun z => bnd (sliceV z b o n k lo hi mx) fun v => c.val v
      | .array n e, .pointer (some ⟨b, o, none⟩) => bnd (c.E.size e) fun z => bnd (sliceV z b o n (2 * n) lo hi mx) fun v => c.val v
      | _, _ => none
noncomputable def hFieldAddr (s : TypeId) (x : Operand) (f : Nat) (c : Ctx) : Option Out :=
  bnd (c.E.und s) fun d => bnd (tdStruct d) fun fs => bnd fs[f]? fun f => bnd (c.E.size f.type) fun z => bnd (c.ev x) fun a => bnd (asAddr a) fun a =>
    grd (!Nat.beq z 0) (c.val (.pointer (some ⟨a.1, Nat.add a.2 f.offset, none⟩)))
noncomputable def hField (t : TypeId) (x : Operand) (f : Nat) (c : Ctx) : Option Out :=
  bnd (c.E.und t) fun d => bnd (tdStruct d) fun fs => bnd fs[f]? fun f => bnd (c.ev x) fun a => bnd (asAgg a) fun cs =>
    bnd (part c.E f.type cs f.offset) fun v => c.val v
noncomputable def hIndexAddr (t : TypeId) (x i : Operand) (c : Ctx) : Option Out :=
  bnd (c.E.und t) fun d => bnd (c.ev x) fun x => bnd (c.ev i) fun i => bnd (asNat i) fun i =>
    match d, x with
    | .array n e, .pointer (some ⟨b, o, none⟩) => bnd (c.E.size e) fun z => grd (Nat.blt i n) (c.val (.pointer (some ⟨b, Nat.add o (Nat.mul i z), none⟩)))
    | .slice e, .slice (some ⟨b, o, none⟩) n _ => bnd (c.E.size e) fun z => grd (Nat.blt i n) (c.val (.pointer (some ⟨b, Nat.add o (Nat.mul i z), none⟩)))
    | _, _ => none
noncomputable def hIndex (t : TypeId) (x i : Operand) (c : Ctx) : Option Out :=
  bnd (c.E.und t) fun d => bnd (c.ev x) fun x => bnd (c.ev i) fun i => bnd (asNat i) fun i =>
    match d, x with
    | .string, .string s => bnd s.data.toList[i]? fun b => c.val (.int .u8 b.toNat)
    | .array n e, .agg cs => bnd (c.E.size e) fun z => grd (Nat.blt i n) (bnd (part c.E e cs (i * z)) fun v => c.val v)
    | _, _ => none
noncomputable def hLookup (t : TypeId) (x i : Operand) (ok : Bool) (c : Ctx) : Option Out :=
  bnd (c.E.und t) fun d => bnd (tdMap d) fun ke => bnd (c.E.und ke.1) fun kd => bnd (c.ev x) fun m => bnd (asMap m) fun m => bnd (c.ev i) fun k =>
    grd (keyFits kd k) (bnd (Option.rec (some []) (fun r => bnd (mapOf c.st r) fun es => some es.1) m) fun es => bnd (findNow k es 0) fun f =>
      Option.rec (bnd (c.E.zero ke.2) fun z => c.val (cnd ok (.tuple #[z, .bool false]) z)) (fun iv => c.val (cnd ok (.tuple #[iv.2, .bool true]) iv.2)) f)
noncomputable def hMapEntry (t : TypeId) (m k : Operand) (c : Ctx) : Option Out :=
  bnd (c.E.und t) fun d => bnd (tdMap d) fun ke => bnd (c.E.und ke.1) fun kd => bnd (c.ev m) fun m => bnd (asMap m) fun m => bnd m fun r =>
    bnd (c.ev k) fun k => grd (keyFits kd k) (bnd (mapOf c.st r) fun es => bnd (findNow k es.1 0) fun f =>
      Option.rec (bnd (c.E.zero ke.2) fun z => bnd (setBlk c.st r (.map (es.1 ++ [⟨k, z, es.2⟩]) (Nat.add es.2 1))) fun st => c.out (.tuple #[z, .int .i64 es.2]) st)
        (fun iv => bnd es.1[iv.1]? fun e => bnd (setBlk c.st r (.map (es.1.modify iv.1 fun e => ⟨k, e.val, e.born⟩) es.2)) fun st => c.out (.tuple #[iv.2, .int .i64 e.born]) st) f)
noncomputable def hEntryStore (_t : TypeId) (m s x : Operand) (c : Ctx) : Option Out :=
  bnd (c.ev m) fun m => bnd (asMap m) fun m => bnd m fun r => bnd (c.ev s) fun s => bnd (asNat s) fun n => bnd (c.ev x) fun v => bnd (mapOf c.st r) fun es =>
    bnd (es.1.findIdx? fun e => Nat.beq e.born n) fun i => bnd (setBlk c.st r (.map (es.1.modify i fun e => ⟨e.key, v, e.born⟩) es.2)) fun st => c.out undef st
noncomputable def hRange (t : TypeId) (x : Operand) (c : Ctx) : Option Out :=
  bnd (c.E.und t) fun d => bnd (c.ev x) fun x =>
    match d, x with
    | .string, .string s => c.new (.strIter s 0) fun id => .pointer (some ⟨id, 0, none⟩)
    | .map _ _, .map none => c.new (.mapIter none 0 [] 0) fun id => .pointer (some ⟨id, 0, none⟩)
    | .map _ _, .map (some m) => bnd (mapOf c.st m) fun es => c.new (.mapIter (some m) es.2 [] es.2) fun id => .pointer (some ⟨id, 0, none⟩)
    | _, _ => none
noncomputable def nextMap (r m since : Nat) (seen : List Nat) (stepped : Nat) (c : Ctx) : Option Out :=
  bnd (mapOf c.st m) fun es =>
    match es.1, seen with
    | [], _ => c.val (.tuple #[.bool false])
    | [e], [] => grd (Nat.blt e.born since) (bnd (setBlk c.st r (.mapIter (some m) since [e.born] es.2)) fun st => c.out (.tuple #[.bool true, e.key, e.val]) st)
    | [e], [b] => grd (Nat.beq e.born b && Nat.blt e.born stepped) (c.val (.tuple #[.bool false]))
    | _, _ => none
noncomputable def hNext (it : Operand) (str : Bool) (c : Ctx) : Option Out :=
  bnd (c.ev it) fun a => bnd (asAddr a) fun a => grd (Nat.beq a.2 0) <| bnd (blkOf c.st a.1) fun k =>
    match k.o, str with
    | .strIter s p, true => cnd (Nat.blt p s.size) (bnd (setBlk c.st a.1 (.strIter s (Nat.add p (Utf8.decode s p).2))) fun st =>
        c.out (.tuple #[.bool true, .int .i64 p, .int .i32 (Utf8.decode s p).1]) st) (c.val (.tuple #[.bool false]))
    | .mapIter none _ _ _, false => c.val (.tuple #[.bool false])
    | .mapIter (some m) since seen stepped, false => nextMap a.1 m since seen stepped c
    | _, _ => none
noncomputable def hEntry (it : Operand) (c : Ctx) : Option Out :=
  bnd (c.ev it) fun a => bnd (asAddr a) fun a => grd (Nat.beq a.2 0) <| bnd (blkOf c.st a.1) fun k =>
    match k.o with
    | .mapIter (some m) _ seen stepped => bnd seen.getLast? fun b => bnd (mapOf c.st m) fun es => grd (Nat.beq es.2 stepped)
        (bnd (es.1.find? fun e => Nat.beq e.born b) fun e => c.val (.tuple #[e.key, e.val]))
    | _ => none
noncomputable def hExtract (x : Operand) (i : Nat) (c : Ctx) : Option Out :=
  bnd (c.ev x) fun t => bnd (asTuple t) fun vs => bnd vs.toList[i]? fun v => c.val v

def lenOf (v : Value) : Option Nat := match v with | .slice _ n _ => some n | .string s => some s.size | _ => none
noncomputable def lenV (st : St) (d : TypeDesc) (v : Value) : Option Nat :=
  match d, v with
  | .string, .string s => some s.size
  | .slice _, .slice _ n _ => some n
  | .map _ _, .map none => some 0
  | .map _ _, .map (some r) => bnd (mapOf st r) fun es => some es.1.length
  | _, _ => none
noncomputable def srcCells (st : St) (z m : Nat) (v : Value) : Option (List Value) :=
  match v with
  | .slice (some ⟨b, o, none⟩) _ _ => bnd (cellsOf st b) fun cs => readCells cs.2.2 (m * z) o
  | .slice none _ _ => some []
  | .string s => some ((s.data.toList.take m).map fun b => .int .u8 b.toNat)
  | _ => none
noncomputable def growV (e : TypeId) (z by' : Nat) (s : Value) (s' : Option (Nat × Nat) × Nat × Nat) (m : Nat) (new : List Value) (c : Ctx) : Option Out :=
  grd (!Nat.beq by' 0 && Nat.ble ((s'.2.1 + m) * by') 1048576) (bnd (srcCells c.st z s'.2.1 s) fun old => grd (Nat.beq old.length (s'.2.1 * z))
    (cnd (capExact s'.2.2)
      (c.out (.slice (some ⟨c.st.nx, 0, none⟩) (s'.2.1 + m) (capOpen z (s'.2.1 + m))) (alloc c.st (.cells (e, false) ((s'.2.1 + m) * z) (writeCells (old ++ new) 0 .leaf))))
      (grd (Nat.beq (capSz s'.2.2) z) (bnd s'.1 fun a => bnd (cellsOf c.st a.1) fun cs => grd (Nat.beq cs.1.1 e)
        (c.out (.slice (some ⟨c.st.nx, 0, none⟩) (s'.2.1 + m) (capOpen z (s'.2.1 + m))) (alloc (kill c.st a.1) (.cells (e, false) ((s'.2.1 + m) * z) (writeCells (old ++ new) 0 .leaf))))))))
noncomputable def appendV (e : TypeId) (z by' : Nat) (s x : Value) (c : Ctx) : Option Out :=
  bnd (asSlice s) fun s' => bnd (lenOf x) fun m => bnd (srcCells c.st z m x) fun new => grd (Nat.beq new.length (m * z) && new.all one)
    (cnd (Nat.beq m 0) (c.val s)
      (cnd (Nat.ble (s'.2.1 + m) (capLo s'.2.2))
        (bnd s'.1 fun a => bnd (cellsOf c.st a.1) fun cs => grd (Nat.ble (a.2 + s'.2.1 * z + new.length) cs.2.1)
          (bnd (setCells c.st a.1 (writeCells new (a.2 + s'.2.1 * z) cs.2.2)) fun st => c.out (.slice (some ⟨a.1, a.2, none⟩) (s'.2.1 + m) s'.2.2) st))
        (growV e z by' s s' m new c)))
def tdSeq (d : TypeDesc) : Bool := match d with | .slice _ | .string => true | _ => false
noncomputable def hAppend (args : List Operand) (tys : List TypeId) (c : Ctx) : Option Out :=
  bnd tys[0]? fun t => bnd tys[1]? fun xt => bnd args[0]? fun s => bnd args[1]? fun x => bnd (c.E.und t) fun d => bnd (tdSlice d) fun e => bnd (c.E.und xt) fun xd =>
    grd (tdSeq xd) (bnd (c.E.size e) fun z => bnd (c.E.bytes e) fun by' => bnd (c.E.zero e) fun zero => grd (Nat.beq zero.cells.size z) (bnd (c.ev s) fun s => bnd (c.ev x) fun x => appendV e z by' s x c))
noncomputable def hCopy (args : List Operand) (tys : List TypeId) (c : Ctx) : Option Out :=
  bnd tys[0]? fun t => bnd args[0]? fun d' => bnd args[1]? fun x => bnd (c.E.und t) fun d => bnd (tdSlice d) fun e => bnd (c.E.size e) fun z =>
    bnd (c.ev d') fun dv => bnd (asSlice dv) fun s' => bnd (c.ev x) fun x => bnd (lenOf x) fun m => bnd (srcCells c.st z (Nat.min m s'.2.1) x) fun new =>
      Option.rec (c.val (.int .i64 (Nat.min m s'.2.1 : Nat)))
        (fun a => bnd (cellsOf c.st a.1) fun cs => grd (Nat.ble (a.2 + new.length) cs.2.1 && new.all one)
          (bnd (setCells c.st a.1 (writeCells new a.2 cs.2.2)) fun st => c.out (.int .i64 (Nat.min m s'.2.1 : Nat)) st)) s'.1
noncomputable def hLen (args : List Operand) (tys : List TypeId) (c : Ctx) : Option Out :=
  bnd tys[0]? fun t => bnd args[0]? fun x => bnd (c.E.und t) fun d => bnd (c.ev x) fun v => bnd (lenV c.st d v) fun n => c.val (.int .i64 (n : Nat))
noncomputable def hCap (args : List Operand) (tys : List TypeId) (c : Ctx) : Option Out :=
  bnd tys[0]? fun t => bnd args[0]? fun x => bnd (c.E.und t) fun d => bnd (tdSlice d) fun _ => bnd (c.ev x) fun v => bnd (asSlice v) fun s =>
    grd (capExact s.2.2) (c.val (.int .i64 (capLo s.2.2 : Nat)))
noncomputable def hDelete (args : List Operand) (tys : List TypeId) (c : Ctx) : Option Out :=
  bnd tys[0]? fun t => bnd args[0]? fun m => bnd args[1]? fun k => bnd (c.E.und t) fun d => bnd (tdMap d) fun ke => bnd (c.E.und ke.1) fun kd =>
    bnd (c.ev m) fun m => bnd (asMap m) fun m => bnd m fun r => bnd (c.ev k) fun k => grd (keyFits kd k) (bnd (mapOf c.st r) fun es => bnd (findNow k es.1 0) fun f =>
      Option.rec (bnd (setBlk c.st r (.map es.1 es.2)) fun st => c.out (.tuple #[]) st)
        (fun iv => bnd (setBlk c.st r (.map (es.1.eraseIdx iv.1) es.2)) fun st => c.out (.tuple #[]) st) f)
noncomputable def minMax (mn : Bool) (x y : Value) : Option Value :=
  match x, y with
  | .int k a, .int k' b => grd (ikEq k k') (some (.int k (cnd mn (if b < a then b else a) (if b > a then b else a))))
  | _, _ => none
noncomputable def hMinMax (mn : Bool) (args : List Operand) (c : Ctx) : Option Out :=
  match args with
  | [x, y] => bnd (c.ev x) fun x => bnd (c.ev y) fun y => bnd (minMax mn x y) fun v => c.val v
  | _ => none
noncomputable def hUnsafeSliceData (args : List Operand) (c : Ctx) : Option Out :=
  match args with
  | [x] => bnd (c.ev x) fun x => bnd (asSlice x) fun s => Option.rec (c.val (.pointer none)) (fun a => grd (!Nat.beq s.2.1 0) (c.val (.pointer (some ⟨a.1, a.2, none⟩)))) s.1
  | _ => none
def tdPtr (d : TypeDesc) : Option TypeId := match d with | .pointer e => some e | _ => none
noncomputable def unsafeStr (u : TypeId) (p : Value) (n : Nat) (c : Ctx) : Option Out :=
  match p with
  | .pointer none => grd (Nat.beq n 0) (c.val (.string .empty))
  | .pointer (some ⟨b, o, none⟩) => cnd (Nat.beq n 0) (c.val (.string .empty)) (bnd (cellsOf c.st b) fun cs => bnd (c.E.size u) fun z =>
      grd (Nat.beq cs.1.1 u && Nat.beq z 1 && Nat.ble (o + n) cs.2.1 && Nat.ble n 1099511627776) (bnd (cellBytes c.st b o n) fun bs => c.out (.string ⟨bs.toArray⟩) (kill c.st b)))
  | _ => none
noncomputable def hUnsafeString (args : List Operand) (tys : List TypeId) (c : Ctx) : Option Out :=
  match args with
  | [p, n] => bnd tys[0]? fun pt => bnd (c.E.und pt) fun d => bnd (tdPtr d) fun u => bnd (c.ev p) fun p => bnd (c.ev n) fun n => bnd (asNat n) fun n => unsafeStr u p n c
  | _ => none
noncomputable def hBuiltin (b : Builtin) (args : List Operand) (tys : List TypeId) (c : Ctx) : Option Out :=
  match b with
  | .append => hAppend args tys c
  | .len => hLen args tys c
  | .cap => hCap args tys c
  | .copy => hCopy args tys c
  | .delete => hDelete args tys c
  | .min => hMinMax true args c
  | .max => hMinMax false args c
  | .unsafeSliceData => hUnsafeSliceData args c
  | .unsafeString => hUnsafeString args tys c
  | _ => none

/-! ### calls -/
def asFunc (v : Value) : Option (Fn × List Value × List Value) := match v with | .func f a b => some (f, a.toList, b.toList) | _ => none
def AObj.asLoop (o : AObj) : Option (LoopState × Option Code × FuncId × Tr Value × Array Tmp × Code × Code × Nat) :=
  match o with | .loop a b c d e f g h => some (a, b, c, d, e, f, g, h) | _ => none
noncomputable def loopOf (st : St) (l : Nat) : Option (LoopState × Option Code × FuncId × Tr Value × Array Tmp × Code × Code × Nat) :=
  bnd (blkOf st l) fun k => k.o.asLoop
def isReady (s : LoopState) : Bool := match s with | .ready => true | _ => false
def isBusy (s : LoopState) : Bool := match s with | .busy => true | _ => false
noncomputable def putAll (ps : List Tmp) : List Value → Tr Value → Tr Value :=
  List.rec (motive := fun _ => List Value → Tr Value → Tr Value) (fun _ t => t)
    (fun p _ ih vs t => List.rec t (fun v vs' _ => ih vs' (t.put (some v) (pos p))) vs) ps
/-- the way in which code is left: 0: at its end; 1: by a return; n + 2: out of block n -/
def jumpOf (e : Nat) : Option Code := match e with | 0 => none | 1 => some .ret | n + 2 => some (.exit n)
noncomputable def hRound (l : Nat) (args : List Value) (S : Self) (st : St) : Option (Value × St) :=
  bnd (loopOf st l) fun p =>
    grd (Nat.beq args.length p.2.2.2.2.1.size)
      (bnd (S.code (some l) p.2.2.1 p.2.2.2.2.2.1 (putAll p.2.2.2.2.1.toList args p.2.2.2.1) [] st) fun r1 =>
        grd (Nat.beq r1.1 0) (bnd (loopOf r1.2.2.2 l) fun q => grd (isReady q.1)
          (bnd (setBlk r1.2.2.2 l (.loop .busy q.2.1 q.2.2.1 q.2.2.2.1 q.2.2.2.2.1 q.2.2.2.2.2.1 q.2.2.2.2.2.2.1 q.2.2.2.2.2.2.2)) fun st2 =>
            bnd (S.code (some l) p.2.2.1 p.2.2.2.2.2.2.1 r1.2.1 r1.2.2.1 st2) fun r2 =>
              grd r2.2.2.1.isEmpty (bnd (loopOf r2.2.2.2 l) fun q =>
                bnd (setBlk r2.2.2.2 l (.loop (cnd (Nat.beq r2.1 0) .ready .done) (jumpOf r2.1) q.2.2.1 q.2.2.2.1 q.2.2.2.2.1 q.2.2.2.2.2.1 q.2.2.2.2.2.2.1 q.2.2.2.2.2.2.2)) fun st3 =>
                  some (.bool (Nat.beq r2.1 0), st3)))))
noncomputable def callFn (f : Fn) (first args captured : List Value) (S : Self) (st : St) : Option (Value × St) :=
  match f with
  | .func f => S.call f (first ++ args ++ captured) st
  | .yield l => hRound l (first ++ args) S st
  | _ => none
noncomputable def hCallV (f : Operand) (args : List Operand) (c : Ctx) : Option Out :=
  bnd (c.ev f) fun f => bnd (asFunc f) fun f => bnd (opvs c.t args) fun vs => bnd (callFn f.1 f.2.1 vs f.2.2 c.S c.st) fun r => c.out r.1 r.2
noncomputable def hCall (k : Call) (c : Ctx) : Option Out :=
  Call.rec (fun callee args tys => Callee.rec (fun f => hCallV f args.toList c) (fun _ _ => none) (fun b => hBuiltin b args.toList tys.toList c) callee) k
noncomputable def deferV (f : Fn) (first args captured : List Value) (c : Ctx) : Option Out :=
  match f with
  | .func f => some ⟨undef, { target := .fn (.func f) captured.toArray, args := (first ++ args).toArray } :: c.ds, c.st⟩
  | _ => none
noncomputable def hDefer (k : Call) (c : Ctx) : Option Out :=
  grd c.rd.isNone (Call.rec (fun callee args _ => Callee.rec
    (fun f => bnd (c.ev f) fun f => bnd (asFunc f) fun f => bnd (opvs c.t args.toList) fun vs => deferV f.1 f.2.1 vs f.2.2 c) (fun _ _ => none) (fun _ => none) callee) k)
noncomputable def hNone (_ : Ctx) : Option Out := none

noncomputable def exec (o : Op) : Ctx → Option Out :=
  Op.casesOn (motive := fun _ => Ctx → Option Out) o hMove hMove hPick hAlloc hBox hBuild hBuildSlice hMapPut hLoad hStore (fun _ => hNone) (fun _ => hNone) hNilCheck hBin hUn
    hConvert (fun _ _ => hNone) hMakeInterface hMakeFunc hMakeMap (fun _ _ => hNone) hMakeSlice hSlice hFieldAddr hField hIndexAddr hIndex hLookup hMapPut hMapEntry hEntryStore
    hRange hNext hEntry (fun _ _ _ _ => hNone) hExtract hCall (fun _ => hNone) hDefer (fun _ => hNone) (fun _ _ => hNone) (fun _ _ _ => hNone) (fun _ _ => hNone)

/-! ### regions -/
noncomputable def putDst (t : Tr Value) (d : Option Tmp) (v : Value) : Tr Value := Option.rec t (fun d => t.put (some v) (pos d)) d
def isBool (b : Bool) (v : Value) : Bool := match v with | .bool c => c == b | _ => false
noncomputable def wanted (ops : List Oper) (t : Tr Value) (o : Oper) : Bool :=
  Option.rec true (fun g => Option.rec false (fun o' => Option.rec false (fun d => Option.rec false (fun v => isBool g.2 v) (t.get (pos d))) o'.dst) ops[g.1]?) o.guard
noncomputable def operList (E : Env) (S : Self) (rd : Option Nat) (ops : List Oper) (l : List Oper) :
    Tr Value → List Deferred → St → Option (Tr Value × List Deferred × St) :=
  List.rec (motive := fun _ => Tr Value → List Deferred → St → Option (Tr Value × List Deferred × St)) (fun t ds st => some (t, ds, st))
    (fun o _ ih t ds st =>
      cnd (wanted ops t o)
        (bnd (exec o.op ⟨E, S, rd, none, t, ds, st⟩) fun r => ih (putDst t o.dst r.v) r.ds r.st)
        (ih (putDst t o.dst undef) ds st)) l
/-- the same value, as far as can be seen -/
noncomputable def veqL (ih : Value → Value → Bool) (l : List Value) : List Value → Bool :=
  List.rec (motive := fun _ => List Value → Bool) (fun l' => l'.isEmpty) (fun x _ r l' => List.rec false (fun y ys _ => ih x y && r ys) l') l
noncomputable def veqStep (ih : Value → Value → Bool) (x y : Value) : Bool :=
  match x, y with
  | .bool a, .bool b => a == b
  | .int k a, .int k' b => ikEq k k' && a == b
  | .string a, .string b => a.data.toList == b.data.toList
  | .pointer none, .pointer none => true
  | .pointer (some ⟨b, o, none⟩), .pointer (some ⟨b', o', none⟩) => Nat.beq b b' && Nat.beq o o'
  | .slice none n k, .slice none n' k' => Nat.beq n n' && Nat.beq k k'
  | .slice (some ⟨b, o, none⟩) n k, .slice (some ⟨b', o', none⟩) n' k' => Nat.beq b b' && Nat.beq o o' && Nat.beq n n' && Nat.beq k k'
  | .map none, .map none => true
  | .map (some b), .map (some b') => Nat.beq b b'
  | .func (.func f) x y, .func (.func f') x' y' => Nat.beq f f' && veqL ih x.toList x'.toList && veqL ih y.toList y'.toList
  | .nilFunc, .nilFunc => true
  | .nilIface, .nilIface => true
  | .iface t v, .iface t' v' => Nat.beq t t' && ih v v'
  | .agg x, .agg y => veqL ih x.toList y.toList
  | .tuple x, .tuple y => veqL ih x.toList y.toList
  | _, _ => false
noncomputable def veqN (n : Nat) : Value → Value → Bool := Nat.rec (motive := fun _ => Value → Value → Bool) (fun _ _ => false) (fun _ ih => veqStep ih) n
/-- what was taken, by whom, and the memories before and after -/
structure Rec where
  i : Nat
  o : Oper
  t : Tr Value
  v : Value
  s : St
  s' : St
  wd : Bool
noncomputable def drawList (E : Env) (S : Self) (rd : Option Nat) (base : Nat) (ops : List Oper) (ds : List Deferred) (l : List Oper) :
    Nat → Tr Value → St → Option (List Rec × Tr Value × St) :=
  List.rec (motive := fun _ => Nat → Tr Value → St → Option (List Rec × Tr Value × St)) (fun _ t st => some ([], t, st))
    (fun o _ ih i t st =>
      cnd (wanted ops t o)
        (bnd (exec o.op ⟨E, S, rd, cnd (Nat.beq (cls o.op) 2) (some (Nat.add base i)) none, t, ds, st⟩) fun r => bnd (ih (Nat.add i 1) (putDst t o.dst r.v) r.st) fun x =>
          some (⟨i, o, t, r.v, st, r.st, true⟩ :: x.1, x.2))
        (bnd (ih (Nat.add i 1) (putDst t o.dst undef) st) fun x => some (⟨i, o, t, undef, st, st, false⟩ :: x.1, x.2))) l
noncomputable def sameRead (E : Env) (S : Self) (rd : Option Nat) (ds : List Deferred) (r : Rec) (s : St) : Bool :=
  Option.rec false (fun x => veqN 6 x.v r.v) (exec r.o.op ⟨E, S, rd, none, r.t, ds, s⟩)
noncomputable def readOk (E : Env) (S : Self) (rd : Option Nat) (ds : List Deferred) (m : Tr Nat) (j : Rec) (l : List Rec) : Bool :=
  List.rec true (fun r _ ih => cnd (Nat.ble 3 (cls r.o.op)) (cnd (befr m j.i r.i) ih (cnd (befr m r.i j.i) ih (cnd (sameRead E S rd ds j r.s) (cnd (sameRead E S rd ds j r.s') ih false) false))) ih) l
noncomputable def readsOk (E : Env) (S : Self) (rd : Option Nat) (ds : List Deferred) (m : Tr Nat) (all : List Rec) (l : List Rec) : Bool :=
  List.rec true (fun r _ ih => cnd (r.wd && Nat.beq (cls r.o.op) 1) (cnd (readOk E S rd ds m r all) ih false) ih) l
noncomputable def region (E : Env) (S : Self) (rd : Option Nat) (draw : Bool) (ops : List Oper) (t : Tr Value) (ds : List Deferred) (st : St) : Option (Tr Value × List Deferred × St) :=
  cnd draw (grd (!odd ops) <| bnd (drawList E S rd st.nx ops ds ops 0 t { st with nx := Nat.add st.nx ops.length }) fun r => grd (readsOk E S rd ds (masks ops) r.1 r.1) (some (r.2.1, ds, r.2.2)))
    (operList E S rd ops ops t ds st)

/-! ### code -/
abbrev CRes := Option (Nat × Tr Value × List Deferred × St)
noncomputable def kSeq (S : Self) (rd : Option Nat) (fn : FuncId) (a b : Code) (t : Tr Value) (ds : List Deferred) (st : St) : CRes :=
  bnd (S.code rd fn a t ds st) fun r => cnd (Nat.beq r.1 0) (S.code rd fn b r.2.1 r.2.2.1 r.2.2.2) (some r)
noncomputable def kCond (S : Self) (rd : Option Nat) (fn : FuncId) (c : Operand) (a b : Code) (t : Tr Value) (ds : List Deferred) (st : St) : CRes :=
  bnd (opv t c) fun v => bnd (asBool v) fun v => cnd v (S.code rd fn a t ds st) (S.code rd fn b t ds st)
noncomputable def kBlock (S : Self) (rd : Option Nat) (fn : FuncId) (id : Nat) (b : Code) (t : Tr Value) (ds : List Deferred) (st : St) : CRes :=
  bnd (S.code rd fn b t ds st) fun r => cnd (Nat.beq r.1 (Nat.add id 2)) (some (0, r.2)) (some r)
noncomputable def kLoop (S : Self) (rd : Option Nat) (fn : FuncId) (b : Code) (t : Tr Value) (ds : List Deferred) (st : St) : CRes :=
  bnd (S.code rd fn b t ds st) fun r => cnd (Nat.beq r.1 0) (S.code rd fn (.loop b) r.2.1 r.2.2.1 r.2.2.2) (some r)
noncomputable def kRegion (E : Env) (S : Self) (rd : Option Nat) (draw : Bool) (ops : List Oper) (t : Tr Value) (ds : List Deferred) (st : St) : CRes :=
  bnd (region E S rd draw ops t ds st) fun r => some (0, r)
def exOf (j : Option Code) : Option Nat := match j with | none => some 0 | some .ret => some 1 | some (.exit id) => some (id + 2) | _ => none
noncomputable def rangeBody (E : Env) (S : Self) (g : Fn) (first captured : List Value) (l : Nat) (t : Tr Value) (ds : List Deferred) (st : St) : CRes :=
  bnd (fnFunc g) fun f => bnd (E.F.get (pos f)) fun fn => bnd fn.body fun _ => bnd (S.call f (first ++ [.func (.yield l) #[] #[]] ++ captured) st) fun r =>
    bnd (loopOf r.2 l) fun q => grd (!isBusy q.1)
      (bnd (setBlk r.2 l (.loop .exhausted q.2.1 q.2.2.1 q.2.2.2.1 q.2.2.2.2.1 q.2.2.2.2.2.1 q.2.2.2.2.2.2.1 q.2.2.2.2.2.2.2)) fun st2 =>
        bnd (exOf q.2.1) fun e => some (e, t, ds, st2))
noncomputable def kRangeFunc (E : Env) (S : Self) (rd : Option Nat) (fn : FuncId) (f : Operand) (params : Array Tmp) (assign body : Code) (t : Tr Value) (ds : List Deferred) (st : St) : CRes :=
  bnd (opv t f) fun fv => bnd (asFunc fv) fun fv =>
    Option.rec
      (rangeBody E S fv.1 fv.2.1 fv.2.2 (Nat.add st.nx 1) t ({ target := .collected st.nx, args := #[] } :: ds)
        (alloc (alloc st (.defd (some []))) (.loop .ready none fn t params assign body st.nx)))
      (fun l => bnd (loopOf st l) fun q => rangeBody E S fv.1 fv.2.1 fv.2.2 st.nx t ds (alloc st (.loop .ready none fn t params assign body q.2.2.2.2.2.2.2))) rd

noncomputable def code (E : Env) (S : Self) (rd : Option Nat) (fn : FuncId) (c : Code) : Tr Value → List Deferred → St → CRes :=
  Code.casesOn (motive := fun _ => Tr Value → List Deferred → St → CRes) c
    (fun t ds st => some (0, t, ds, st)) (fun _ ops draw => kRegion E S rd draw ops.toList) (fun a b => kSeq S rd fn a b) (fun c a b => kCond S rd fn c a b)
    (fun id b => kBlock S rd fn id b) (fun b => kLoop S rd fn b) (fun f ps a b => kRangeFunc E S rd fn f ps a b) (fun id t ds st => some (Nat.add id 2, t, ds, st))
    (fun b => S.code rd fn b) (fun _ t ds st => some (0, t, ds, st)) (fun _ _ _ _ => none) (fun t ds st => some (1, t, ds, st)) (fun _ _ _ _ => none)

/-- the deferred calls of an activation -/
def AObj.asDefd (o : AObj) : Option (Option (List Deferred)) := match o with | .defd d => some d | _ => none
def tgKind (t : Target) : Option (Sum Nat (FuncId × List Value)) := match t with | .collected r => some (.inl r) | .fn (.func f) c => some (.inr (f, c.toList)) | _ => none
noncomputable def resultV (E : Env) (t : Tr Value) (st : St) (r : ResultVar) : Option Value :=
  ResultVar.rec (fun i => some (getD t i)) (fun a ty => bnd (asAddr (getD t a)) fun a => loadAt E st ty a.1 a.2) r
noncomputable def resultVs (E : Env) (t : Tr Value) (st : St) (rs : List ResultVar) : Option (List Value) :=
  List.rec (some []) (fun r _ ih => bnd (resultV E t st r) fun v => bnd ih fun vs => some (v :: vs)) rs
def packed (vs : List Value) : Value := match vs with | [v] => v | vs => .tuple vs.toArray

/-- a function that is entered by a deferred call: it has none of its own -/
noncomputable def bodyD (E : Env) (S : Self) (f : FuncId) (args : List Value) (st : St) : Option St :=
  bnd (E.F.get (pos f)) fun fn => bnd fn.body fun c => grd (Nat.ble args.length fn.ntmps) (bnd (S.code none f c (Tr.ofListFrom args 0 .leaf) [] st) fun r =>
    grd (Nat.ble r.1 1 && r.2.2.1.isEmpty) (bnd (resultVs E r.2.1 r.2.2.2 fn.results.toList) fun _ => some r.2.2.2))
noncomputable def leave (E : Env) (S : Self) (ds : List Deferred) : St → Option St :=
  List.rec (motive := fun _ => St → Option St) (fun st => some st)
    (fun d _ ih st => bnd (tgKind d.target) fun k => Sum.rec
      (fun r => bnd (blkOf st r) fun b => bnd b.o.asDefd fun x => bnd x fun calls => grd calls.isEmpty (bnd (setBlk st r (.defd none)) fun st2 => ih st2))
      (fun fc => bnd (bodyD E S fc.1 (d.args.toList ++ fc.2) st) fun st2 => ih st2) k) ds
abbrev Hook := FuncId → List Value → St → Option (Value × St)
noncomputable def indexFrom (c : UInt8) (s : List UInt8) : Nat → Int :=
  List.rec (motive := fun _ => Nat → Int) (fun _ => -1) (fun b _ ih i => cnd (b == c) (Int.ofNat i) (ih (Nat.add i 1))) s
noncomputable def countIn (c : UInt8) (s : List UInt8) : Nat → Nat :=
  List.rec (motive := fun _ => Nat → Nat) (fun n => n) (fun b _ ih n => ih (cnd (b == c) (Nat.add n 1) n)) s
noncomputable def xStr (args : List Value) (f : ByteArray → UInt8 → Value) (st : St) : Option (Value × St) :=
  match args with
  | [.string s, .int .u8 c] => some (f s (UInt8.ofNat c.toNat), st)
  | _ => none
noncomputable def xCell (args : List Value) (f : Nat → Nat → Tr Value → Value → List Value → Option (Value × St)) (st : St) : Option (Value × St) :=
  match args with
  | .pointer (some ⟨b, o, none⟩) :: rest => bnd (cellsOf st b) fun cs => bnd (cs.2.2.get (pos o)) fun v => f b o cs.2.2 v rest
  | _ => none
noncomputable def ext (k : XK) (args : List Value) (st : St) : Option (Value × St) :=
  match k with
  | .indexByte => xStr args (fun s c => .int .i64 (indexFrom c s.data.toList 0)) st
  | .count => xStr args (fun s c => .int .i64 (countIn c s.data.toList 0 : Nat)) st
  | .makeNoZero _ e => match args with
    | [.int .i64 n] => bnd (asNat (.int .i64 n)) fun n => grd (Nat.ble n 1048576) (some (.slice (some ⟨st.nx, 0, none⟩) n (capOpen 1 n), alloc st (.cells (e, false) n .leaf)))
    | _ => none
  | .noEscape => match args with | [v] => some (v, st) | _ => none
  | .nop k => cnd (Nat.ble k 1) (some (.tuple #[], st)) (match args with | [.pointer (some ⟨_, _, none⟩)] => some (.tuple #[], st) | _ => none)
  | .load j => xCell args (fun _ _ _ v rest => match rest, v with | [], .int k n => grd (ikEq j k) (some (.int k n, st)) | _, _ => none) st
  | .store => xCell args (fun b o c v rest => match rest, v with
    | [.int k n], .int k' _ => grd (ikEq k k') (bnd (setCells st b (c.put (some (.int k n)) (pos o))) fun st2 => some (.tuple #[], st2))
    | _, _ => none) st
  | .cas j => xCell args (fun b o c v rest => match rest, v with
    | [.int _ x, .int k y], .int k' z => grd (ikEq j k') (cnd (z == x) (bnd (setCells st b (c.put (some (.int k y)) (pos o))) fun st2 => some (.bool true, st2)) (some (.bool false, st)))
    | _, _ => none) st
  | .add j => xCell args (fun b o c v rest => match rest, v with
    | [.int _ y], .int k' z => grd (ikEq j k') (bnd (setCells st b (c.put (some (.int j (j.wrap (z + y)))) (pos o))) fun st2 => some (.int j (j.wrap (z + y)), st2))
    | _, _ => none) st
noncomputable def body (E : Env) (S : Self) (f : FuncId) (args : List Value) (st : St) : Option (Value × St) :=
  bnd (E.F.get (pos f)) fun fn => bnd fn.body fun c => grd (Nat.ble args.length fn.ntmps) <| bnd (S.code none f c (Tr.ofListFrom args 0 .leaf) [] st) fun r =>
    grd (Nat.ble r.1 1) (bnd (leave E S r.2.2.1 r.2.2.2) fun st2 => bnd (resultVs E r.2.1 st2 fn.results.toList) fun vs => some (packed vs, st2))
noncomputable def call (E : Env) (x : Hook) (S : Self) (f : FuncId) (args : List Value) (st : St) : Option (Value × St) :=
  Option.rec (Option.rec (body E S f args st) (fun k => ext k args st) (E.X.get (pos f))) (fun r => some r) (x f args st)

noncomputable def self (E : Env) (x : Hook) (n : Nat) : Self :=
  Nat.rec ⟨fun _ _ _ _ _ _ => none, fun _ _ _ => none⟩ (fun _ S => ⟨code E S, call E x S⟩) n

end Go.Ab

namespace Go.Ab

/-! ### taking an answer apart -/
theorem bnd_some {α β : Type} {x : Option α} {f : α → Option β} {b : β} (h : bnd x f = some b) : ∃ a, x = some a ∧ f a = some b := by
  cases x with
  | none => exact nomatch h
  | some a => exact ⟨a, rfl, h⟩
theorem grd_some {α : Type} {b : Bool} {x : Option α} {a : α} (h : grd b x = some a) : b = true ∧ x = some a := by
  cases b with
  | false => exact nomatch h
  | true => exact ⟨rfl, h⟩
theorem bnd_eq {α β : Type} {x : Option α} {f : α → Option β} {b : β} : (bnd x f = some b) = ∃ a, x = some a ∧ f a = some b :=
  propext ⟨bnd_some, fun ⟨a, h1, h2⟩ => by subst h1; exact h2⟩
theorem grd_eq {α : Type} {b : Bool} {x : Option α} {a : α} : (grd b x = some a) = (b = true ∧ x = some a) :=
  propext ⟨grd_some, fun ⟨h1, h2⟩ => by subst h1; exact h2⟩
theorem cnd_of {α : Type} {b : Bool} {x y : α} : cnd b x y = if b = true then x else y := by cases b <;> rfl

theorem nbeq {a b : Nat} (h : a ≠ b) : Nat.beq a b = false := by
  cases hh : Nat.beq a b
  · rfl
  · exact absurd (Nat.eq_of_beq_eq_true hh) h

/-! ### tries -/
theorem posF_val (n : Nat) : ∀ k j, k ≤ n → ∀ m, j ≤ m → posF n k = posF m j → k = j := by
  induction n with
  | zero =>
    intro k j hk m hj h
    have : k = 0 := by omega
    subst this
    cases m with
    | zero => omega
    | succ m =>
      by_cases hz : j = 0
      · exact hz.symm
      · exfalso
        have hb : Nat.beq j 0 = false := nbeq hz
        simp only [posF, hb] at h
        cases hm : Nat.beq (Nat.mod j 2) 1 <;> simp [hm] at h
  | succ n ih =>
    intro k j hk m hj h
    cases m with
    | zero =>
      have : j = 0 := by omega
      subst this
      by_cases hz : k = 0
      · exact hz
      · exfalso
        have hb : Nat.beq k 0 = false := nbeq hz
        simp only [posF, hb] at h
        cases hm : Nat.beq (Nat.mod k 2) 1 <;> simp [hm] at h
    | succ m =>
      by_cases hz : k = 0
      · by_cases hz' : j = 0
        · omega
        · exfalso
          have hb : Nat.beq j 0 = false := nbeq hz'
          subst hz
          simp only [posF, hb] at h
          cases hm : Nat.beq (Nat.mod j 2) 1 <;> simp [hm] at h
      · by_cases hz' : j = 0
        · exfalso
          have hb : Nat.beq k 0 = false := nbeq hz
          subst hz'
          simp only [posF, hb] at h
          cases hm : Nat.beq (Nat.mod k 2) 1 <;> simp [hm] at h
        · have hb : Nat.beq k 0 = false := nbeq hz
          have hb' : Nat.beq j 0 = false := nbeq hz'
          simp only [posF, hb, hb'] at h
          have e1 : ∀ x, Nat.mod x 2 = x % 2 := fun _ => rfl
          have e2 : ∀ x, Nat.div x 2 = x / 2 := fun _ => rfl
          cases hm : Nat.beq (Nat.mod k 2) 1 <;> cases hm' : Nat.beq (Nat.mod j 2) 1 <;> simp only [hm, hm'] at h
          · injection h with h
            have := ih (Nat.pred (Nat.div k 2)) (Nat.pred (Nat.div j 2)) (by simp only [e2, Nat.pred_eq_sub_one]; omega) m (by simp only [e2, Nat.pred_eq_sub_one]; omega) h
            have hm2 : k % 2 ≠ 1 := by intro hx; have := hm; simp [e1, hx] at this
            have hm3 : j % 2 ≠ 1 := by intro hx; have := hm'; simp [e1, hx] at this
            simp only [e2, Nat.pred_eq_sub_one] at this
            omega
          · exact nomatch h
          · exact nomatch h
          · injection h with h
            have := ih (Nat.div k 2) (Nat.div j 2) (by simp only [e2]; omega) m (by simp only [e2]; omega) h
            have hm2 : k % 2 = 1 := by have := Nat.eq_of_beq_eq_true hm; simpa [e1] using this
            have hm3 : j % 2 = 1 := by have := Nat.eq_of_beq_eq_true hm'; simpa [e1] using this
            simp only [e2] at this
            omega
theorem pos_inj {k j : Nat} (h : pos k = pos j) : k = j := posF_val k k j (Nat.le_refl _) j (Nat.le_refl _) h
theorem pos_eq {k j : Nat} : pos k = pos j ↔ k = j := ⟨pos_inj, fun h => by rw [h]⟩

theorem Tr.get_path {α : Type} (x : Option α) (p q : Pos) : (Tr.path x p).get q = if p = q then x else none := by
  induction p generalizing q with
  | h => cases q <;> simp [Tr.path, Tr.get]
  | o p ih => cases q with
    | o q => simpa [Tr.path, Tr.get] using ih q
    | _ => simp [Tr.path, Tr.get]
  | i p ih => cases q with
    | i q => simpa [Tr.path, Tr.get] using ih q
    | _ => simp [Tr.path, Tr.get]
theorem Tr.get_leaf {α : Type} (p : Pos) : (Tr.leaf : Tr α).get p = none := rfl
theorem Tr.get_put {α : Type} (x : Option α) (t : Tr α) (p q : Pos) : (t.put x p).get q = if p = q then x else t.get q := by
  induction t generalizing p q with
  | leaf => show (Tr.path x p).get q = _; rw [Tr.get_path]; rfl
  | node v l r ihl ihr =>
    cases p <;> cases q <;> simp [Tr.put, Tr.get]
    · exact ihr _ _
    · exact ihl _ _
theorem Tr.get_put_pos {α : Type} (x : Option α) (t : Tr α) (i j : Nat) : (t.put x (pos i)).get (pos j) = if i = j then x else t.get (pos j) := by
  rw [Tr.get_put]; simp [pos_eq]
theorem Tr.get_ofList {α : Type} (l : List α) : ∀ (i : Nat) (t : Tr α) (j : Nat), (∀ k, i ≤ k → t.get (pos k) = none) →
    (Tr.ofListFrom l i t).get (pos j) = if j < i then t.get (pos j) else l[j - i]? := by
  induction l with
  | nil => intro i t j h; by_cases hj : j < i
           · simp [Tr.ofListFrom, hj]
           · simp [Tr.ofListFrom, hj, h j (by omega)]
  | cons x l ih =>
    intro i t j h
    show (Tr.ofListFrom l (i + 1) (t.put (some x) (pos i))).get (pos j) = _
    rw [ih (i + 1) _ j (fun k hk => by rw [Tr.get_put_pos]; rw [if_neg (by omega)]; exact h k (by omega))]
    rw [Tr.get_put_pos]
    by_cases hj : j < i
    · rw [if_pos (by omega), if_pos hj, if_neg (by omega)]
    · by_cases he : i = j
      · subst he; simp
      · rw [if_neg (by omega), if_neg hj]
        have : j - i = (j - (i + 1)) + 1 := by omega
        rw [this]; simp

/-! ### names for places, and the relation between values -/
structure Loc where
  blk : Nat
  off : Nat
  avail : Nat
abbrev Ren := Nat → Option Loc
def Ren.le (ρ ρ' : Ren) : Prop := ∀ b l, ρ b = some l → ρ' b = some l
theorem Ren.le_refl (ρ : Ren) : ρ.le ρ := fun _ _ h => h
theorem Ren.le_trans {a b c : Ren} (h : a.le b) (h' : b.le c) : a.le c := fun x l hx => h' x l (h x l hx)

inductive FnR (ρ : Ren) : Fn → Fn → Prop where
  | func (f : FuncId) : FnR ρ (.func f) (.func f)
  | yield {b : Nat} {l : Loc} : ρ b = some l → FnR ρ (.yield b) (.yield l.blk)

mutual
inductive V (ρ : Ren) : Value → Value → Prop where
  | bool (b : Bool) : V ρ (.bool b) (.bool b)
  | int (k : IntKind) (n : Int) : V ρ (.int k n) (.int k n)
  | string (s : ByteArray) : V ρ (.string s) (.string s)
  | pnil : V ρ (.pointer none) (.pointer none)
  | ptr {b o : Nat} {l : Loc} : ρ b = some l → V ρ (.pointer (some ⟨b, o, none⟩)) (.pointer (some ⟨l.blk, l.off + o, none⟩))
  | snil : V ρ (.slice none 0 0) (.slice none 0 0)
  | slice {b o n c c' : Nat} {l : Loc} {a' : Addr} : ρ b = some l → n ≤ c' → (c % 2 = 0 → c' = c / 2) →
      (c % 2 = 1 → capLo c ≤ c' ∧ o + c' * capSz c ≤ l.avail) → (c' ≠ 0 → a' = ⟨l.blk, l.off + o, none⟩) → V ρ (.slice (some ⟨b, o, none⟩) n c) (.slice (some a') n c')
  | mnil : V ρ (.map none) (.map none)
  | map {b : Nat} {l : Loc} : ρ b = some l → V ρ (.map (some b)) (.map (some l.blk))
  | func {f f' : Fn} {x y x' y' : Array Value} : FnR ρ f f' → VL ρ x.toList x'.toList → VL ρ y.toList y'.toList → V ρ (.func f x y) (.func f' x' y')
  | fnil : V ρ .nilFunc .nilFunc
  | iface {t : TypeId} {v v' : Value} : V ρ v v' → V ρ (.iface t v) (.iface t v')
  | inil : V ρ .nilIface .nilIface
  | agg {x x' : Array Value} : VL ρ x.toList x'.toList → V ρ (.agg x) (.agg x')
  | tuple {x x' : Array Value} : VL ρ x.toList x'.toList → V ρ (.tuple x) (.tuple x')
inductive VL (ρ : Ren) : List Value → List Value → Prop where
  | nil : VL ρ [] []
  | cons {v v' : Value} {l l' : List Value} : V ρ v v' → VL ρ l l' → VL ρ (v :: l) (v' :: l')
end

theorem FnR.mono {ρ ρ' : Ren} (h : ρ.le ρ') {f f' : Fn} (hf : FnR ρ f f') : FnR ρ' f f' := by
  cases hf with
  | func f => exact .func f
  | yield hb => exact .yield (h _ _ hb)
mutual
theorem V.mono {ρ ρ' : Ren} (h : ρ.le ρ') {v v' : Value} : V ρ v v' → V ρ' v v'
  | .bool b => .bool b
  | .int k n => .int k n
  | .string s => .string s
  | .pnil => .pnil
  | .ptr hb => .ptr (h _ _ hb)
  | .snil => .snil
  | .slice hb h1 h2 h3 h4 => .slice (h _ _ hb) h1 h2 h3 h4
  | .mnil => .mnil
  | .map hb => .map (h _ _ hb)
  | .func hf hx hy => .func (hf.mono h) (hx.mono h) (hy.mono h)
  | .fnil => .fnil
  | .iface hv => .iface (hv.mono h)
  | .inil => .inil
  | .agg hx => .agg (hx.mono h)
  | .tuple hx => .tuple (hx.mono h)
theorem VL.mono {ρ ρ' : Ren} (h : ρ.le ρ') {v v' : List Value} : VL ρ v v' → VL ρ' v v'
  | .nil => .nil
  | .cons hv hl => .cons (hv.mono h) (hl.mono h)
end
theorem VL.length {ρ : Ren} {l l' : List Value} (h : VL ρ l l') : l.length = l'.length := by
  induction l generalizing l' with
  | nil => cases h; rfl
  | cons x l ih => cases h with | cons _ h => simp [ih h]
theorem VL.append {ρ : Ren} {a a' b b' : List Value} (h : VL ρ a a') (h' : VL ρ b b') : VL ρ (a ++ b) (a' ++ b') := by
  induction a generalizing a' with
  | nil => cases h; exact h'
  | cons x a ih => cases h with | cons hv hl => exact .cons hv (ih hl)
theorem VL.get {ρ : Ren} {l l' : List Value} (h : VL ρ l l') {i : Nat} {v : Value} (hi : l[i]? = some v) : ∃ v', l'[i]? = some v' ∧ V ρ v v' := by
  induction l generalizing l' i with
  | nil => simp at hi
  | cons x l ih =>
    cases h with
    | cons hv hl =>
      cases i with
      | zero => simp at hi; subst hi; exact ⟨_, rfl, hv⟩
      | succ i => simpa using ih hl (by simpa using hi)
theorem VL.get' {ρ : Ren} {l l' : List Value} (h : VL ρ l l') {i : Nat} {v' : Value} (hi : l'[i]? = some v') : ∃ v, l[i]? = some v ∧ V ρ v v' := by
  induction l generalizing l' i with
  | nil => cases h; simp at hi
  | cons x l ih =>
    cases h with
    | cons hv hl =>
      cases i with
      | zero => simp at hi; subst hi; exact ⟨_, rfl, hv⟩
      | succ i => simpa using ih hl (by simpa using hi)
theorem VL.take {ρ : Ren} {l l' : List Value} (h : VL ρ l l') (n : Nat) : VL ρ (l.take n) (l'.take n) := by
  induction l generalizing l' n with
  | nil => cases h; simp; exact .nil
  | cons x l ih =>
    cases h with
    | cons hv hl =>
      cases n with
      | zero => simp; exact .nil
      | succ n => simp; exact .cons hv (ih hl n)
theorem VL.drop {ρ : Ren} {l l' : List Value} (h : VL ρ l l') (n : Nat) : VL ρ (l.drop n) (l'.drop n) := by
  induction l generalizing l' n with
  | nil => cases h; simp; exact .nil
  | cons x l ih =>
    cases h with
    | cons hv hl =>
      cases n with
      | zero => simp; exact .cons hv hl
      | succ n => simp; exact ih hl n
theorem VL.set {ρ : Ren} {l l' : List Value} (h : VL ρ l l') (i : Nat) {v v' : Value} (hv : V ρ v v') : VL ρ (l.set i v) (l'.set i v') := by
  induction l generalizing l' i with
  | nil => cases h; simp; exact .nil
  | cons x l ih =>
    cases h with
    | cons hx hl =>
      cases i with
      | zero => simp; exact .cons hv hl
      | succ i => simp; exact .cons hx (ih hl i)
theorem VL.of_get {ρ : Ren} {l l' : List Value} (hlen : l.length = l'.length) (h : ∀ (i : Nat) (v v' : Value), l[i]? = some v → l'[i]? = some v' → V ρ v v') : VL ρ l l' := by
  induction l generalizing l' with
  | nil => cases l' with
    | nil => exact .nil
    | cons => simp at hlen
  | cons x l ih =>
    cases l' with
    | nil => simp at hlen
    | cons x' l' =>
      exact .cons (h 0 x x' rfl rfl) (ih (by simpa using hlen) (fun i v v' h1 h2 => h (i + 1) v v' (by simpa using h1) (by simpa using h2)))
theorem V.undef (ρ : Ren) : V ρ undef undef := .tuple .nil

/-! values without an address -/
theorem litStep_sound (ρ : Ren) {ih : Value → Bool} (hih : ∀ v, ih v = true → V ρ v v) (v : Value) (h : litStep ih v = true) : V ρ v v := by
  have all : ∀ l : List Value, l.all ih = true → VL ρ l l := by
    intro l
    induction l with
    | nil => intro _; exact .nil
    | cons x l ihl => intro h; simp at h; exact .cons (hih x h.1) (ihl (by simpa using h.2))
  unfold litStep at h
  split at h
  all_goals first | exact .bool _ | exact .int _ _ | exact .string _ | exact .pnil | exact .snil | exact .mnil | exact .fnil | exact .inil | skip
  · simp only [Bool.and_eq_true, Array.isEmpty_iff] at h
    obtain ⟨rfl, rfl⟩ := h
    exact .func (.func _) .nil .nil
  · exact .agg (all _ h)
  · exact .tuple (all _ h)
  · cases h
theorem litN_sound (ρ : Ren) : ∀ (n : Nat) (v : Value), litN n v = true → V ρ v v := by
  intro n
  induction n with
  | zero => exact litStep_sound ρ (fun _ h => by cases h)
  | succ n ih => exact litStep_sound ρ ih
theorem lit_sound (ρ : Ren) {v : Value} (h : lit v = true) : V ρ v v := litN_sound ρ 4 v h

/-! ### frames -/
/-- The temporaries. -/
def TR (ρ : Ren) (t : Tr Value) (a : Array Value) : Prop := ∀ i, V ρ (getD t i) (a.getD i undef)
theorem TR.mono {ρ ρ' : Ren} (h : ρ.le ρ') {t : Tr Value} {a : Array Value} (ht : TR ρ t a) : TR ρ' t a := fun i => (ht i).mono h
theorem getD_put (t : Tr Value) (d : Nat) (v : Value) (i : Nat) : getD (t.put (some v) (pos d)) i = if d = i then v else getD t i := by
  unfold getD
  rw [Tr.get_put_pos]
  split <;> rfl
theorem TR.put {ρ : Ren} {t : Tr Value} {a : Array Value} (ht : TR ρ t a) {d : Nat} (hd : d < a.size) {v v' : Value} (hv : V ρ v v') :
    TR ρ (t.put (some v) (pos d)) (a.setIfInBounds d v') := by
  intro i
  rw [getD_put]
  by_cases h : d = i
  · subst h; simpa [hd] using hv
  · rw [if_neg h]
    have := ht i
    simpa [Array.getD_eq_getD_getElem?, Array.getElem?_setIfInBounds, h] using this

inductive TgR (ρ : Ren) : Target → Target → Prop where
  | fn {f : FuncId} {c c' : Array Value} : VL ρ c.toList c'.toList → TgR ρ (.fn (.func f) c) (.fn (.func f) c')
  | collected {b : Nat} {l : Loc} : ρ b = some l → TgR ρ (.collected b) (.collected l.blk)
structure DfR (ρ : Ren) (d d' : Deferred) : Prop where
  tg : TgR ρ d.target d'.target
  args : VL ρ d.args.toList d'.args.toList
inductive DsR (ρ : Ren) : List Deferred → List Deferred → Prop where
  | nil : DsR ρ [] []
  | cons {d d' : Deferred} {l l' : List Deferred} : DfR ρ d d' → DsR ρ l l' → DsR ρ (d :: l) (d' :: l')
theorem TgR.mono {ρ ρ' : Ren} (h : ρ.le ρ') {d d' : Target} (hd : TgR ρ d d') : TgR ρ' d d' := by
  cases hd with
  | fn hc => exact .fn (hc.mono h)
  | collected hb => exact .collected (h _ _ hb)
theorem DfR.mono {ρ ρ' : Ren} (h : ρ.le ρ') {d d' : Deferred} (hd : DfR ρ d d') : DfR ρ' d d' := ⟨hd.tg.mono h, hd.args.mono h⟩
theorem DsR.mono {ρ ρ' : Ren} (h : ρ.le ρ') {d d' : List Deferred} (hd : DsR ρ d d') : DsR ρ' d d' := by
  induction hd with
  | nil => exact .nil
  | cons hd _ ih => exact .cons (hd.mono h) ih
theorem DsR.append {ρ : Ren} {a a' b b' : List Deferred} (h : DsR ρ a a') (h' : DsR ρ b b') : DsR ρ (a ++ b) (a' ++ b') := by
  induction h with
  | nil => exact h'
  | cons hd _ ih => exact .cons hd ih

end Go.Ab

namespace Go.Ab

/-- what the evaluator knows of the program is so -/
def xsem : XK → Array Value → Sem Value
  | .indexByte => Extern.BytealgIndexByte.indexByte
  | .count => Extern.BytealgCount.count
  | .makeNoZero t _ => fun args => Extern.BytealgMakeNoZero.makeNoZero #[] #[t] args
  | .noEscape => Extern.AbiNoEscape.same
  | .nop 0 => fun _ => do mark .disable; pure Extern.Race.none_
  | .nop 1 => fun _ => do mark .enable; pure Extern.Race.none_
  | .nop 2 => Extern.Race.marked .acquire
  | .nop _ => Extern.Race.marked .releaseMerge
  | .load k => Extern.Atomic.loadT (.int k)
  | .store => Extern.Atomic.storeT
  | .cas k => Extern.Atomic.casT (.int k)
  | .add k => Extern.Atomic.update (Op.intArith .add) k true

structure Env.Ok (E : Env) (P : Program) : Prop where
  info : ∀ t i, E.info t = some i → P.info? t = some i
  func : ∀ f fn, E.F.get (pos f) = some fn → P.funcs[f]? = some fn
  enter : ∀ f fn c, E.F.get (pos f) = some fn → fn.body = some c → ∀ args w, (callFunc f args).run P w = .ok (.enter f args) w
  ext : ∀ f k, E.X.get (pos f) = some k → ∀ args w, (callFunc f args).run P w = ((xsem k args).run P w).andThen fun v w' => .ok (.value v) w'
  made : ∀ f t e, E.X.get (pos f) = some (.makeNoZero t e) → P.underlying t = some (.slice e)
  eq : ∀ t, E.eq.get (pos t) = some () → P.stoodInHeld t = false ∧ P.eqGuardType P.depth t = false
  mixed : P.follows .mixedOrders = true
  fits : ∀ f fn c, E.F.get (pos f) = some fn → fn.body = some c → codeOk fn.ntmps c = true

section
variable {E : Env} {P : Program}
theorem Env.Ok.und (ok : E.Ok P) {t : TypeId} {d : TypeDesc} (h : E.und t = some d) : P.underlying t = some d := by
  unfold Env.und at h
  obtain ⟨i, hi, hd⟩ := bnd_some h
  have := ok.info _ _ hi
  unfold Program.underlying
  rw [this]
  unfold tdRes at hd
  split at hd
  · rename_i n u hde
    obtain ⟨j, hj, hd⟩ := bnd_some hd
    injection hd with hd
    obtain ⟨desc, a2, a3, a4, a5, a6, a7, a8, a9, a10⟩ := i
    simp at hde
    subst hde
    simp [ok.info _ _ hj, hd]
  · rename_i hn
    injection hd with hd
    obtain ⟨desc, a2, a3, a4, a5, a6, a7, a8, a9, a10⟩ := i
    simp at hd hn
    subst hd
    split
    · rename_i heq
      simp at heq
      exact absurd heq.1 (hn _ _)
    · rename_i heq
      simp at heq
      rw [← heq]
    · rename_i heq; simp at heq
theorem Env.Ok.size (ok : E.Ok P) {t : TypeId} {n : Nat} (h : E.size t = some n) (w : World) : (sizeOf t).run P w = .ok n w := by
  obtain ⟨i, hi, hd⟩ := bnd_some h
  injection hd with hd
  simp [sizeOf, typeInfo, ok.info _ _ hi, hd]
theorem Env.Ok.info_size (ok : E.Ok P) {t : TypeId} {n : Nat} (h : E.size t = some n) : (P.info? t).map (·.size) = some n := by
  obtain ⟨i, hi, hd⟩ := bnd_some h
  injection hd with hd
  simp [ok.info _ _ hi, hd]
theorem Env.Ok.bytes (ok : E.Ok P) {t : TypeId} {n : Nat} (h : E.bytes t = some n) (w : World) : ∃ i, (typeInfo t).run P w = .ok i w ∧ i.bytes = n := by
  obtain ⟨i, hi, hd⟩ := bnd_some h
  injection hd with hd
  exact ⟨i, by simp [typeInfo, ok.info _ _ hi], hd⟩
theorem Env.Ok.zero (ok : E.Ok P) {t : TypeId} {v : Value} (h : E.zero t = some v) (w : World) : (zeroValue t).run P w = .ok v w := by
  obtain ⟨i, hi, hd⟩ := bnd_some h
  obtain ⟨u, hu, hd⟩ := bnd_some hd
  obtain ⟨_, hd⟩ := grd_some hd
  injection hd with hd
  subst hd
  simp [zeroValue, typeInfo, ok.info _ _ hi, hu]
theorem Env.zero_lit {E : Env} {t : TypeId} {v : Value} (h : E.zero t = some v) : lit v = true := by
  obtain ⟨i, hi, hd⟩ := bnd_some h
  obtain ⟨u, hu, hd⟩ := bnd_some hd
  obtain ⟨hl, hd⟩ := grd_some hd
  injection hd with hd
  subst hd
  exact hl
theorem Env.Ok.runUnd (ok : E.Ok P) {t : TypeId} {d : TypeDesc} (h : E.und t = some d) (w : World) : (underlying t).run P w = .ok d w := run_underlying (ok.und h) w
theorem Env.Ok.agg (ok : E.Ok P) {t : TypeId} {b : Bool} (h : E.agg t = some b) (w : World) : (isAgg t).run P w = .ok b w := by
  obtain ⟨d, hd, hb⟩ := bnd_some h
  injection hb with hb
  have := ok.runUnd hd w
  simp only [isAgg, Sem.run_bind, this, Result.andThen_ok]
  subst hb
  cases d <;> rfl
end

/-! ### blocks -/
inductive ER (ρ : Ren) : List MapEntry → List MapEntry → Prop where
  | nil : ER ρ [] []
  | cons {e e' : MapEntry} {l l' : List MapEntry} : V ρ e.key e'.key → V ρ e.val e'.val → e.born = e'.born → ER ρ l l' → ER ρ (e :: l) (e' :: l')
theorem ER.mono {ρ ρ' : Ren} (h : ρ.le ρ') {l l' : List MapEntry} (hl : ER ρ l l') : ER ρ' l l' := by
  induction hl with
  | nil => exact .nil
  | cons h1 h2 h3 _ ih => exact .cons (h1.mono h) (h2.mono h) h3 ih

def MR (ρ : Ren) (m m' : Option Nat) : Prop := (m = none ∧ m' = none) ∨ ∃ b l, m = some b ∧ ρ b = some l ∧ m' = some l.blk

def ORel (ρ : Ren) (l : Loc) : AObj → Obj → Prop
  | .cells sh n c, o => ∃ arr t fr, o = .cells arr t fr ∧ l.off + l.avail ≤ arr.size ∧ n ≤ l.avail ∧ (∀ i, i < l.avail → ¬ (fr.1 ≤ l.off + i ∧ l.off + i < fr.2)) ∧
      (∀ i v, c.get (pos i) = some v → i < n ∧ V ρ v (arr.getD (l.off + i) undef)) ∧ t = sh.1 ∧ (sh.2 = true → l.off = 0 ∧ arr.size = n)
  | .map es clock, o => ∃ es', o = .map es' clock ∧ ER ρ es es'.toList
  | .strIter s p, o => o = .stringIter s p ∧ l.off = 0
  | .mapIter m since seen stepped, o => ∃ m', o = .mapIter m' since seen.toArray stepped ∧ MR ρ m m' ∧ l.off = 0
  | .loop s p _ t ps a b d, o => ∃ fn' tm ld, o = .loop { state := s, pending := p, fn := fn', tmps := tm, params := ps, assign := a, body := b, defers := ld.blk } ∧
      TR ρ t tm ∧ ρ d = some ld ∧ codeOk tm.size a = true ∧ codeOk tm.size b = true ∧ (∀ q ∈ ps.toList, q < tm.size)
  | .defd ds, o => match ds with
    | none => o = .deferred none
    | some ds => ∃ ds', o = .deferred (some ds') ∧ DsR ρ ds ds'

theorem ORel.mono {ρ ρ' : Ren} (h : ρ.le ρ') {l : Loc} {a : AObj} {o : Obj} (ho : ORel ρ l a o) : ORel ρ' l a o := by
  cases a with
  | cells sh n c =>
    obtain ⟨arr, t, fr, h1, h2, h3, h4, h5, h6⟩ := ho
    exact ⟨arr, t, fr, h1, h2, h3, h4, fun i v hv => ⟨(h5 i v hv).1, (h5 i v hv).2.mono h⟩, h6⟩
  | map es clock => obtain ⟨es', h1, h2⟩ := ho; exact ⟨es', h1, h2.mono h⟩
  | strIter s p => exact ho
  | mapIter m since seen stepped =>
    obtain ⟨m', h1, h2, h3⟩ := ho
    refine ⟨m', h1, ?_, h3⟩
    rcases h2 with h2 | ⟨b, lb, e1, e2, e3⟩
    · exact .inl h2
    · exact .inr ⟨b, lb, e1, h _ _ e2, e3⟩
  | loop s p fn t ps a b d =>
    obtain ⟨fn', tm, ld, h1, h2, h3, h4⟩ := ho
    exact ⟨fn', tm, ld, h1, h2.mono h, h _ _ h3, h4⟩
  | defd ds =>
    cases ds with
    | none => exact ho
    | some ds => obtain ⟨ds', h1, h2⟩ := ho; exact ⟨ds', h1, h2.mono h⟩

structure HRel (ρ : Ren) (st : St) (w : World) : Prop where
  ren : ∀ b l, ρ b = some l → b < st.nx ∧ l.blk < w.heap.size
  live : ∀ b k, blkOf st b = some k → b < st.nx
  inj : ∀ b b' k k' l l', blkOf st b = some k → blkOf st b' = some k' → ρ b = some l → ρ b' = some l' → l.blk = l'.blk → b = b'
  obj : ∀ b k l, blkOf st b = some k → ρ b = some l → ∃ o, w.heap[l.blk]? = some o ∧ ORel ρ l k.o o

/-- How memory goes on. -/
structure Step (ρ : Ren) (st : St) (w : World) (ρ' : Ren) (st' : St) (w' : World) : Prop where
  nx : st.nx ≤ st'.nx
  old : ∀ b, b < st.nx → ρ' b = ρ b
  hrel : HRel ρ' st' w'
  abs : ∀ b, b < st.nx → ρ b = none → blkOf st' b = blkOf st b
  dead : ∀ b, b < st.nx → blkOf st b = none → blkOf st' b = none
  ver : ∀ b k k', blkOf st b = some k → blkOf st' b = some k' → k.ver ≤ k'.ver ∧ (k.ver = k'.ver → k' = k)
  conc : ∀ c, c < w.heap.size → (∀ b l k, ρ b = some l → blkOf st b = some k → l.blk ≠ c) → w'.heap[c]? = w.heap[c]?
  size : w.heap.size ≤ w'.heap.size
  fresh : ∀ b l, ρ' b = some l → ρ b = none → w.heap.size ≤ l.blk ∨ ∃ b0 l0 k0, ρ b0 = some l0 ∧ blkOf st b0 = some k0 ∧ l0.blk = l.blk
  os : w'.os = w.os
  tape : w'.tape = w.tape
  output : w'.output = w.output

theorem Step.le {ρ : Ren} {st : St} {w : World} {ρ' : Ren} {st' : St} {w' : World} (h : Step ρ st w ρ' st' w') (hr : HRel ρ st w) : ρ.le ρ' :=
  fun b l hb => by rw [h.old b (hr.ren b l hb).1]; exact hb

theorem Step.refl {ρ : Ren} {st : St} {w : World} (h : HRel ρ st w) : Step ρ st w ρ st w where
  nx := Nat.le_refl _
  old := fun _ _ => rfl
  hrel := h
  abs := fun _ _ _ => rfl
  dead := fun _ _ h => h
  ver := fun b k k' h h' => by rw [h] at h'; injection h' with h'; subst h'; exact ⟨Nat.le_refl _, fun _ => rfl⟩
  conc := fun _ _ _ => rfl
  size := Nat.le_refl _
  fresh := fun b l h h' => by rw [h'] at h; cases h
  os := rfl
  tape := rfl
  output := rfl

theorem Step.trans {ρ₁ ρ₂ ρ₃ : Ren} {s₁ s₂ s₃ : St} {w₁ w₂ w₃ : World} (r : HRel ρ₁ s₁ w₁) (h : Step ρ₁ s₁ w₁ ρ₂ s₂ w₂) (h' : Step ρ₂ s₂ w₂ ρ₃ s₃ w₃) : Step ρ₁ s₁ w₁ ρ₃ s₃ w₃ where
  nx := Nat.le_trans h.nx h'.nx
  old := fun b hb => (h'.old b (Nat.lt_of_lt_of_le hb h.nx)).trans (h.old b hb)
  hrel := h'.hrel
  abs := fun b hb hn => (h'.abs b (Nat.lt_of_lt_of_le hb h.nx) (by rw [h.old b hb]; exact hn)).trans (h.abs b hb hn)
  dead := fun b hb hn => h'.dead b (Nat.lt_of_lt_of_le hb h.nx) (h.dead b hb hn)
  ver := fun b k k'' hk hk'' => by
    cases hk' : blkOf s₂ b with
    | none =>
      have hb := r.live b k hk
      rw [h'.dead b (Nat.lt_of_lt_of_le hb h.nx) hk'] at hk''
      cases hk''
    | some k' =>
      obtain ⟨v1, e1⟩ := h.ver b k k' hk hk'
      obtain ⟨v2, e2⟩ := h'.ver b k' k'' hk' hk''
      refine ⟨Nat.le_trans v1 v2, fun he => ?_⟩
      have : k.ver = k'.ver := by omega
      rw [← e1 this]
      exact e2 (by omega)
  conc := fun c hc hn => by
    rw [h'.conc c (Nat.lt_of_lt_of_le hc h.size) (fun b l k hb hk => ?_)]
    · exact h.conc c hc hn
    · intro he
      by_cases hb1 : b < s₁.nx
      · have hb' : ρ₁ b = some l := by rw [← h.old b hb1]; exact hb
        cases hk1 : blkOf s₁ b with
        | none => rw [h.dead b hb1 hk1] at hk; cases hk
        | some k1 => exact hn b l k1 hb' hk1 he
      · have hnone : ρ₁ b = none := by
          cases hr : ρ₁ b with
          | none => rfl
          | some l1 => exact absurd (r.ren b l1 hr).1 hb1
        rcases h.fresh b l hb hnone with h1 | ⟨b0, l0, k0, e1, e2, e3⟩
        · omega
        · exact hn b0 l0 k0 e1 e2 (e3.trans he)
  size := Nat.le_trans h.size h'.size
  fresh := fun b l hb hn => by
    cases hb2 : ρ₂ b with
    | some l2 =>
      have : ρ₃ b = ρ₂ b := h'.old b (h.hrel.ren b l2 hb2).1
      rw [hb2] at this
      rw [hb] at this
      injection this with this
      subst this
      exact h.fresh b l hb2 hn
    | none =>
      rcases h'.fresh b l hb hb2 with h1 | ⟨b0, l0, k0, e1, e2, e3⟩
      · exact .inl (Nat.le_trans h.size h1)
      · by_cases hb1 : b0 < s₁.nx
        · have e1' : ρ₁ b0 = some l0 := by rw [← h.old b0 hb1]; exact e1
          cases hk1 : blkOf s₁ b0 with
          | none => rw [h.dead b0 hb1 hk1] at e2; cases e2
          | some k1 => exact .inr ⟨b0, l0, k1, e1', hk1, e3⟩
        · have hnone : ρ₁ b0 = none := by
            cases hr : ρ₁ b0 with
            | none => rfl
            | some l1 => exact absurd (r.ren b0 l1 hr).1 hb1
          rcases h.fresh b0 l0 e1 hnone with h1 | ⟨b1, l1, k1, f1, f2, f3⟩
          · exact .inl (e3 ▸ h1)
          · exact .inr ⟨b1, l1, k1, f1, f2, f3.trans e3⟩
  os := h'.os.trans h.os
  tape := h'.tape.trans h.tape
  output := h'.output.trans h.output

end Go.Ab

namespace Go.Ab

section
variable {ρ : Ren} {st : St} {w : World}

theorem blkOf_put (st : St) (x : Option Blk) (b b' n : Nat) : blkOf { hp := st.hp.put x (pos b), nx := n } b' = if b = b' then x else blkOf st b' := by
  unfold blkOf
  exact Tr.get_put_pos _ _ _ _

/-- a cells-block, opened -/
theorem cellsOf_some {st : St} {b : Nat} {c : (TypeId × Bool) × Nat × Tr Value} (h : cellsOf st b = some c) : ∃ v, blkOf st b = some ⟨v, .cells c.1 c.2.1 c.2.2⟩ := by
  obtain ⟨k, hk, h⟩ := bnd_some h
  obtain ⟨v, o⟩ := k
  cases o <;> simp [AObj.asCells] at h
  subst h
  exact ⟨v, hk⟩

theorem HRel.cell (hr : HRel ρ st w) {b : Nat} {c : (TypeId × Bool) × Nat × Tr Value} (hc : cellsOf st b = some c) {l : Loc} (hl : ρ b = some l) {i : Nat} {v : Value}
    (hv : c.2.2.get (pos i) = some v) : ∃ v', w.cell? ⟨l.blk, l.off + i, none⟩ = some v' ∧ V ρ v v' := by
  obtain ⟨ver, hk⟩ := cellsOf_some hc
  obtain ⟨o, ho, arr, t, fr, rfl, h2, h3, h4, h5, h6⟩ := hr.obj _ _ _ hk hl
  obtain ⟨hi, hV⟩ := h5 i v hv
  refine ⟨arr.getD (l.off + i) undef, ?_, hV⟩
  have : l.off + i < arr.size := by omega
  simp [World.cell?, ho, this, Array.getD]

theorem readCells_succ (c : Tr Value) (n o : Nat) : readCells c (n + 1) o = bnd (c.get (pos o)) fun v => bnd (readCells c n (o + 1)) fun r => some (v :: r) := rfl
theorem readCells_zero (c : Tr Value) (o : Nat) : readCells c 0 o = some [] := rfl

theorem readCells_spec {c : Tr Value} : ∀ {n o : Nat} {vs : List Value}, readCells c n o = some vs → vs.length = n ∧ ∀ i v, vs[i]? = some v → c.get (pos (o + i)) = some v := by
  intro n
  induction n with
  | zero => intro o vs h; rw [readCells_zero] at h; injection h with h; subst h; exact ⟨rfl, fun i v h => by simp at h⟩
  | succ n ih =>
    intro o vs h
    rw [readCells_succ] at h
    obtain ⟨v, hv, h⟩ := bnd_some h
    obtain ⟨r, hr, h⟩ := bnd_some h
    injection h with h
    subst h
    obtain ⟨h1, h2⟩ := ih hr
    refine ⟨by simp [h1], fun i u hu => ?_⟩
    cases i with
    | zero => simp at hu; subst hu; simpa using hv
    | succ i => have := h2 i u (by simpa using hu); rwa [show o + 1 + i = o + (i + 1) by omega] at this

theorem HRel.cells (hr : HRel ρ st w) {b : Nat} {c : (TypeId × Bool) × Nat × Tr Value} (hc : cellsOf st b = some c) {l : Loc} (hl : ρ b = some l) {n o : Nat} {vs : List Value}
    (hv : readCells c.2.2 n o = some vs) : ∃ vs', vs'.length = n ∧ VL ρ vs vs' ∧ ∀ j v', vs'[j]? = some v' → w.cell? ⟨l.blk, l.off + o + j, none⟩ = some v' := by
  obtain ⟨h1, h2⟩ := readCells_spec hv
  have : ∀ i, i < n → ∃ v', w.cell? ⟨l.blk, l.off + o + i, none⟩ = some v' ∧ ∀ v, vs[i]? = some v → V ρ v v' := by
    intro i hi
    have hlt : i < vs.length := by omega
    obtain ⟨v', e1, e2⟩ := hr.cell hc hl (h2 i vs[i] (by simp [hlt]))
    refine ⟨v', by rw [show l.off + o + i = l.off + (o + i) by omega]; exact e1, fun v hv => ?_⟩
    simp [hlt] at hv
    exact hv ▸ e2
  refine ⟨(List.range n).map (fun i => if h : i < n then Classical.choose (this i h) else undef), by simp, ?_, ?_⟩
  · refine VL.of_get (by simp [h1]) (fun i v v' e1 e2 => ?_)
    have hi : i < n := by have := (List.getElem?_eq_some_iff.1 e1).1; omega
    simp [hi] at e2
    subst e2
    exact (Classical.choose_spec (this i hi)).2 v e1
  · intro j v' e
    have hj : j < n := by have := (List.getElem?_eq_some_iff.1 e).1; simpa using this
    simp [hj] at e
    subst e
    exact (Classical.choose_spec (this j hj)).1

theorem add_none (b o i : Nat) : (⟨b, o, none⟩ : Addr).add i = ⟨b, o + i, none⟩ := by unfold Addr.add; split <;> simp_all

theorem HRel.load {P : Program} {E : Env} (ok : E.Ok P) (hr : HRel ρ st w) {t : TypeId} {b o : Nat} {v : Value} (h : loadAt E st t b o = some v) {l : Loc} (hl : ρ b = some l) :
    ∃ v', (loadVar t ⟨l.blk, l.off + o, none⟩).run P w = .ok v' w ∧ V ρ v v' := by
  obtain ⟨c, hc, h⟩ := bnd_some h
  obtain ⟨a, ha, h⟩ := bnd_some h
  have hagg := ok.agg ha w
  cases a with
  | true =>
    obtain ⟨n, hn, h⟩ := bnd_some h
    obtain ⟨vs, hvs, h⟩ := bnd_some h
    injection h with h
    subst h
    obtain ⟨vs', e1, e2, e3⟩ := hr.cells hc hl hvs
    have hload := run_loadCells_list (P := P) w ⟨l.blk, l.off + o, none⟩ vs' (fun j v hj => by rw [add_none]; exact e3 j v hj)
    rw [e1] at hload
    refine ⟨.agg vs'.toArray, ?_, .agg (by simpa using e2)⟩
    simp only [loadVar, Sem.run_bind, hagg, Result.andThen_ok, if_true, ok.size hn w, hload, Sem.run_pure]
  | false =>
    obtain ⟨v', e1, e2⟩ := hr.cell hc hl h
    refine ⟨v', ?_, e2⟩
    simp only [loadVar, Sem.run_bind, hagg, Result.andThen_ok, Bool.false_eq_true, if_false]
    simp [e1]

/-! ### writing -/
theorem writeCells_cons (v : Value) (vs : List Value) (o : Nat) (c : Tr Value) : writeCells (v :: vs) o c = writeCells vs (o + 1) (c.put (some v) (pos o)) := rfl
theorem writeCells_get (vs : List Value) : ∀ (o : Nat) (c : Tr Value) (i : Nat), (writeCells vs o c).get (pos i) = if o ≤ i ∧ i < o + vs.length then vs[i - o]? else c.get (pos i) := by
  induction vs with
  | nil => intro o c i; rw [if_neg (by simp <;> omega)]; rfl
  | cons v vs ih =>
    intro o c i
    rw [writeCells_cons, ih, Tr.get_put_pos]
    by_cases h : o + 1 ≤ i ∧ i < o + 1 + vs.length
    · rw [if_pos h, if_pos (by simp; omega)]
      rw [show i - o = (i - (o + 1)) + 1 by omega]
      simp
    · rw [if_neg h]
      by_cases he : o = i
      · subst he; simp
      · rw [if_neg he, if_neg (by simp; omega)]

/-- the cells of a block of the model, set one by one -/
def setAll (arr : Array Value) : Nat → List Value → Array Value
  | _, [] => arr
  | o, v :: r => setAll (arr.setIfInBounds o v) (o + 1) r
theorem size_setAll (vs : List Value) : ∀ (arr : Array Value) (o : Nat), (setAll arr o vs).size = arr.size := by
  induction vs with
  | nil => intro arr o; rfl
  | cons v vs ih => intro arr o; simp [setAll, ih]
theorem setAll_getD (vs : List Value) : ∀ (arr : Array Value) (o i : Nat), o + vs.length ≤ arr.size →
    (setAll arr o vs).getD i undef = if o ≤ i ∧ i < o + vs.length then vs.getD (i - o) undef else arr.getD i undef := by
  induction vs with
  | nil => intro arr o i _; rw [if_neg (by simp <;> omega)]; rfl
  | cons v vs ih =>
    intro arr o i hs
    simp at hs
    rw [setAll, ih _ _ _ (by simp; omega)]
    by_cases h : o + 1 ≤ i ∧ i < o + 1 + vs.length
    · rw [if_pos h, if_pos (by simp; omega)]
      rw [show i - o = (i - (o + 1)) + 1 by omega]
      simp
    · rw [if_neg h]
      by_cases he : o = i
      · subst he
        have : o < arr.size := by omega
        simp [Array.getD_eq_getD_getElem?, this]
      · rw [if_neg (by simp; omega)]
        simp [Array.getD_eq_getD_getElem?, he]

theorem heap_setCell (w : World) (b o : Nat) (v : Value) (c : Nat) : (w.setCell ⟨b, o, none⟩ v).heap[c]? =
    if b = c then (w.heap[c]?).map fun | .cells arr t fr => .cells (arr.setIfInBounds o v) t fr | x => x else w.heap[c]? := by
  simp only [World.setCell, Array.getElem?_modify]
  by_cases h : b = c
  · subst h
    simp only [if_true]
    cases w.heap[b]? with
    | none => rfl
    | some x => cases x <;> rfl
  · simp [h]
theorem heap_setCells (b : Nat) (vs : List Value) : ∀ (o : Nat) (w : World) (c : Nat), (w.setCells b o vs).heap[c]? =
    if b = c then (w.heap[c]?).map fun | .cells arr t fr => .cells (setAll arr o vs) t fr | x => x else w.heap[c]? := by
  induction vs with
  | nil =>
    intro o w c
    by_cases h : b = c
    · rw [if_pos h]
      show w.heap[c]? = _
      cases w.heap[c]? with
      | none => rfl
      | some x => cases x <;> rfl
    · rw [if_neg h]; rfl
  | cons v vs ih =>
    intro o w c
    rw [World.setCells, ih, heap_setCell]
    by_cases h : b = c
    · simp only [h, if_true]
      cases w.heap[c]? with
      | none => rfl
      | some x => cases x <;> rfl
    · simp [h]
theorem size_setCells (b : Nat) (vs : List Value) : ∀ (o : Nat) (w : World), (w.setCells b o vs).heap.size = w.heap.size := by
  induction vs with
  | nil => intro o w; rfl
  | cons v vs ih => intro o w; rw [World.setCells, ih]; simp
theorem rest_setCells (b : Nat) (vs : List Value) : ∀ (o : Nat) (w : World), (w.setCells b o vs).os = w.os ∧ (w.setCells b o vs).tape = w.tape ∧ (w.setCells b o vs).output = w.output := by
  induction vs with
  | nil => intro o w; exact ⟨rfl, rfl, rfl⟩
  | cons v vs ih => intro o w; rw [World.setCells]; exact ih _ _

/-- A block's object is replaced, the model's with it. -/
theorem HRel.replace (hr : HRel ρ st w) {b : Nat} {k : Blk} (hk : blkOf st b = some k) {l : Loc} (hl : ρ b = some l) {o : AObj} {o' : Obj} {w' : World}
    (hw : ∀ c, w'.heap[c]? = if l.blk = c then some o' else w.heap[c]?) (hsz : w'.heap.size = w.heap.size) (ho : ORel ρ l o o')
    (h1 : w'.os = w.os) (h2 : w'.tape = w.tape) (h3 : w'.output = w.output) :
    Step ρ st w ρ { hp := st.hp.put (some ⟨k.ver + 1, o⟩) (pos b), nx := st.nx } w' where
  nx := Nat.le_refl _
  old := fun _ _ => rfl
  hrel := {
    ren := fun b' l' h => by rw [hsz]; exact hr.ren b' l' h
    live := fun b' k' h => by
      rw [blkOf_put] at h
      by_cases he : b = b'
      · exact he ▸ hr.live b k hk
      · rw [if_neg he] at h; exact hr.live b' k' h
    inj := fun b1 b2 k1 k2 l1 l2 e1 e2 f1 f2 e => by
      rw [blkOf_put] at e1 e2
      have g1 : ∃ k, blkOf st b1 = some k := by
        by_cases he : b = b1
        · exact ⟨k, he ▸ hk⟩
        · rw [if_neg he] at e1; exact ⟨_, e1⟩
      have g2 : ∃ k, blkOf st b2 = some k := by
        by_cases he : b = b2
        · exact ⟨k, he ▸ hk⟩
        · rw [if_neg he] at e2; exact ⟨_, e2⟩
      obtain ⟨x1, g1⟩ := g1
      obtain ⟨x2, g2⟩ := g2
      exact hr.inj b1 b2 x1 x2 l1 l2 g1 g2 f1 f2 e
    obj := fun b' k' l' e f => by
      rw [blkOf_put] at e
      by_cases he : b = b'
      · subst he
        rw [if_pos rfl] at e
        injection e with e
        subst e
        rw [hl] at f
        injection f with f
        subst f
        exact ⟨o', by rw [hw, if_pos rfl], ho⟩
      · rw [if_neg he] at e
        obtain ⟨x, hx, hx2⟩ := hr.obj b' k' l' e f
        refine ⟨x, ?_, hx2⟩
        rw [hw, if_neg (fun h => he (hr.inj b b' k k' l l' hk e hl f h))]
        exact hx }
  abs := fun b' _ hn => by
    rw [blkOf_put, if_neg]
    intro he
    subst he
    rw [hl] at hn
    cases hn
  dead := fun b' _ hn => by
    rw [blkOf_put]
    by_cases he : b = b'
    · subst he; rw [hk] at hn; cases hn
    · rw [if_neg he]; exact hn
  ver := fun b' k1 k2 e1 e2 => by
    rw [blkOf_put] at e2
    by_cases he : b = b'
    · subst he
      rw [if_pos rfl] at e2
      injection e2 with e2
      subst e2
      rw [hk] at e1
      injection e1 with e1
      subst e1
      exact ⟨Nat.le_succ _, fun h => by simp at h⟩
    · rw [if_neg he] at e2
      rw [e1] at e2
      injection e2 with e2
      subst e2
      exact ⟨Nat.le_refl _, fun _ => rfl⟩
  conc := fun c _ hn => by rw [hw, if_neg (hn b l k hl hk)]
  size := Nat.le_of_eq hsz.symm
  fresh := fun b' l' h h' => by rw [h'] at h; cases h
  os := h1
  tape := h2
  output := h3

theorem setCells_some {st st' : St} {b : Nat} {c : Tr Value} (h : setCells st b c = some st') : ∃ v sh n d, blkOf st b = some ⟨v, .cells sh n d⟩ ∧ st' = { hp := st.hp.put (some ⟨v + 1, .cells sh n c⟩) (pos b), nx := st.nx } := by
  obtain ⟨k, hk, h⟩ := bnd_some h
  obtain ⟨x, hx, h⟩ := bnd_some h
  injection h with h
  obtain ⟨v, o⟩ := k
  cases o <;> simp [AObj.asCells] at hx
  subst hx
  exact ⟨v, _, _, _, hk, h.symm⟩
theorem setBlk_some {st st' : St} {b : Nat} {o : AObj} (h : setBlk st b o = some st') : ∃ k, blkOf st b = some k ∧ st' = { hp := st.hp.put (some ⟨k.ver + 1, o⟩) (pos b), nx := st.nx } := by
  obtain ⟨k, hk, h⟩ := bnd_some h
  injection h with h
  exact ⟨k, hk, h.symm⟩

theorem one_oneCell {ρ : Ren} {v v' : Value} (h : one v = true) (hv : V ρ v v') : v'.oneCell' = true := by
  cases hv <;> first | rfl | (simp [one] at h)
theorem all_one {ρ : Ren} {vs vs' : List Value} (h : vs.all one = true) (hv : VL ρ vs vs') : ∀ v ∈ vs', v.oneCell' = true := by
  induction vs generalizing vs' with
  | nil => cases hv; intro v hv; simp at hv
  | cons x vs ih =>
    cases hv with
    | cons hx hl =>
      simp at h
      intro v hv
      rcases List.mem_cons.1 hv with rfl | hv
      · exact one_oneCell h.1 hx
      · exact ih (by simpa using h.2) hl v hv

/-! ### new blocks, blocks given up -/
theorem HRel.alloc (hr : HRel ρ st w) (id nx' : Nat) (hid : ρ id = none) (hlive : blkOf st id = none) (hnx1 : st.nx ≤ nx') (hnx2 : id < nx') {o : AObj} {o' : Obj} {n : Nat}
    (ho : ∀ ρ', ρ.le ρ' → ORel ρ' ⟨w.heap.size, 0, n⟩ o o') (w' : World) (hw : w'.heap = w.heap.push o') :
    HRel (fun b => if b = id then some ⟨w.heap.size, 0, n⟩ else ρ b) { hp := st.hp.put (some ⟨0, o⟩) (pos id), nx := nx' } w' := by
  have hle : ρ.le (fun b => if b = id then some ⟨w.heap.size, 0, n⟩ else ρ b) := fun b l hb => by
    by_cases he : b = id
    · subst he; rw [hid] at hb; cases hb
    · simp only [if_neg he]; exact hb
  have hsz : w'.heap.size = w.heap.size + 1 := by rw [hw]; simp
  refine ⟨fun b l hb => ?_, fun b k hk => ?_, fun b b' k k' l l' e e' f f' h => ?_, fun b k l e f => ?_⟩
  · by_cases he : b = id
    · subst he
      simp only [if_true] at hb
      injection hb with hb
      subst hb
      exact ⟨hnx2, by simp [hsz]⟩
    · simp only [if_neg he] at hb
      have := hr.ren b l hb
      exact ⟨Nat.lt_of_lt_of_le this.1 hnx1, by omega⟩
  · rw [blkOf_put] at hk
    by_cases he : id = b
    · subst he; exact hnx2
    · rw [if_neg he] at hk; exact Nat.lt_of_lt_of_le (hr.live b k hk) hnx1
  · rw [blkOf_put] at e e'
    by_cases h1 : b = id
    · subst h1
      simp only [if_true] at f
      injection f with f
      subst f
      by_cases h2 : b' = b
      · exact h2.symm
      · simp only [if_neg h2] at f'
        have := (hr.ren b' l' f').2
        simp at h
        omega
    · simp only [if_neg h1] at f
      rw [if_neg (Ne.symm h1)] at e
      by_cases h2 : b' = id
      · subst h2
        simp only [if_true] at f'
        injection f' with f'
        subst f'
        have := (hr.ren b l f).2
        simp at h
        omega
      · simp only [if_neg h2] at f'
        rw [if_neg (Ne.symm h2)] at e'
        exact hr.inj b b' k k' l l' e e' f f' h
  · rw [blkOf_put] at e
    by_cases h1 : b = id
    · subst h1
      simp only [if_true] at f
      injection f with f
      subst f
      rw [if_pos rfl] at e
      injection e with e
      subst e
      exact ⟨o', by rw [hw]; simp, ho _ hle⟩
    · simp only [if_neg h1] at f
      rw [if_neg (Ne.symm h1)] at e
      obtain ⟨x, hx, hx2⟩ := hr.obj b k l e f
      refine ⟨x, ?_, hx2.mono hle⟩
      have := (hr.ren b l f).2
      rw [hw, Array.getElem?_push]
      rw [if_neg (by omega)]
      exact hx

theorem HRel.none_nx (hr : HRel ρ st w) : ρ st.nx = none := by
  cases h : ρ st.nx with
  | none => rfl
  | some l => exact absurd (hr.ren _ _ h).1 (Nat.lt_irrefl _)
theorem HRel.dead_nx (hr : HRel ρ st w) : blkOf st st.nx = none := by
  cases h : blkOf st st.nx with
  | none => rfl
  | some l => exact absurd (hr.live _ _ h) (Nat.lt_irrefl _)

theorem HRel.new (hr : HRel ρ st w) {o : AObj} {o' : Obj} {n : Nat} (ho : ∀ ρ', ρ.le ρ' → ORel ρ' ⟨w.heap.size, 0, n⟩ o o') (w' : World) (hw : w'.heap = w.heap.push o')
    (h1 : w'.os = w.os) (h2 : w'.tape = w.tape) (h3 : w'.output = w.output) :
    Step ρ st w (fun b => if b = st.nx then some ⟨w.heap.size, 0, n⟩ else ρ b) (Go.Ab.alloc st o) w' where
  nx := Nat.le_succ _
  old := fun b hb => by simp only [if_neg (Nat.ne_of_lt hb)]
  hrel := hr.alloc st.nx (st.nx + 1) hr.none_nx hr.dead_nx (Nat.le_succ _) (Nat.lt_succ_self _) ho w' hw
  abs := fun b hb _ => by unfold Go.Ab.alloc; rw [blkOf_put, if_neg (by omega)]
  dead := fun b hb h => by unfold Go.Ab.alloc; rw [blkOf_put, if_neg (by omega)]; exact h
  ver := fun b k k' e e' => by
    have := hr.live b k e
    unfold Go.Ab.alloc at e'
    rw [blkOf_put, if_neg (by omega), e] at e'
    injection e' with e'
    subst e'
    exact ⟨Nat.le_refl _, fun _ => rfl⟩
  conc := fun c hc _ => by rw [hw, Array.getElem?_push, if_neg (by omega)]
  size := by rw [hw]; simp
  fresh := fun b l hb hn => by
    by_cases he : b = st.nx
    · subst he
      simp only [if_true] at hb
      injection hb with hb
      subst hb
      exact .inl (Nat.le_refl _)
    · simp only [if_neg he] at hb
      rw [hn] at hb
      cases hb
  os := h1
  tape := h2
  output := h3

theorem blkOf_kill (st : St) (b b' : Nat) : blkOf (kill st b) b' = if b = b' then none else blkOf st b' := blkOf_put _ _ _ _ _
theorem HRel.killed (hr : HRel ρ st w) {b : Nat} {l : Loc} (hl : ρ b = some l) {w' : World} (hw : ∀ c, c ≠ l.blk → w'.heap[c]? = w.heap[c]?) (hsz : w'.heap.size = w.heap.size)
    (hlive : ∃ k, blkOf st b = some k) (h1 : w'.os = w.os) (h2 : w'.tape = w.tape) (h3 : w'.output = w.output) : Step ρ st w ρ (kill st b) w' where
  nx := Nat.le_refl _
  old := fun _ _ => rfl
  hrel := {
    ren := fun b' l' h => by rw [hsz]; exact hr.ren b' l' h
    live := fun b' k h => by
      rw [blkOf_kill] at h
      split at h
      · cases h
      · exact hr.live b' k h
    inj := fun b1 b2 k1 k2 l1 l2 e1 e2 => by
      rw [blkOf_kill] at e1 e2
      split at e1
      · cases e1
      · split at e2
        · cases e2
        · exact hr.inj b1 b2 k1 k2 l1 l2 e1 e2
    obj := fun b' k' l' e f => by
      rw [blkOf_kill] at e
      split at e
      · cases e
      · rename_i hne
        obtain ⟨x, hx, hx2⟩ := hr.obj b' k' l' e f
        refine ⟨x, ?_, hx2⟩
        obtain ⟨k, hk⟩ := hlive
        rw [hw _ (fun h => hne (hr.inj b b' k k' l l' hk e hl f h.symm))]
        exact hx }
  abs := fun b' _ hn => by
    rw [blkOf_kill, if_neg]
    intro he; subst he; rw [hl] at hn; cases hn
  dead := fun b' _ hn => by
    rw [blkOf_kill]; split
    · rfl
    · exact hn
  ver := fun b' k1 k2 e1 e2 => by
    rw [blkOf_kill] at e2
    split at e2
    · cases e2
    · rw [e1] at e2; injection e2 with e2; subst e2; exact ⟨Nat.le_refl _, fun _ => rfl⟩
  conc := fun c _ hn => by
    obtain ⟨k, hk⟩ := hlive
    exact hw c (fun h => hn b l k hl hk h.symm)
  size := Nat.le_of_eq hsz.symm
  fresh := fun b' l' h h' => by rw [h'] at h; cases h
  os := h1
  tape := h2
  output := h3

/-- a run that turns nothing but the count of draws -/
theorem HRel.same (hr : HRel ρ st w) {w' : World} (hw : w'.heap = w.heap) (h1 : w'.os = w.os) (h2 : w'.tape = w.tape) (h3 : w'.output = w.output) : Step ρ st w ρ st w' where
  nx := Nat.le_refl _
  old := fun _ _ => rfl
  hrel := ⟨fun b l h => by rw [hw]; exact hr.ren b l h, hr.live, hr.inj, fun b k l e f => by rw [hw]; exact hr.obj b k l e f⟩
  abs := fun _ _ _ => rfl
  dead := fun _ _ h => h
  ver := fun b k k' h h' => by rw [h] at h'; injection h' with h'; subst h'; exact ⟨Nat.le_refl _, fun _ => rfl⟩
  conc := fun _ _ _ => by rw [hw]
  size := by rw [hw]; exact Nat.le_refl _
  fresh := fun b l h h' => by rw [h'] at h; cases h
  os := h1
  tape := h2
  output := h3

/-- cells are written -/
theorem HRel.write {P : Program} (hr : HRel ρ st w) {b o : Nat} {c : (TypeId × Bool) × Nat × Tr Value} (hc : cellsOf st b = some c) {l : Loc} (hl : ρ b = some l) {vs vs' : List Value} (hv : VL ρ vs vs')
    (hroom : o + vs.length ≤ c.2.1) (hone : vs.all one = true) {st' : St} (h : setCells st b (writeCells vs o c.2.2) = some st') :
    (storeCells ⟨l.blk, l.off + o, none⟩ vs').run P w = .ok () (w.setCells l.blk (l.off + o) vs') ∧ Step ρ st w ρ st' (w.setCells l.blk (l.off + o) vs') := by
  obtain ⟨v, hk0⟩ := cellsOf_some hc
  obtain ⟨v1, sh, n, d, hk, rfl⟩ := setCells_some h
  rw [hk0] at hk
  injection hk with hk
  obtain ⟨sh', n', d'⟩ := c
  simp at hk
  obtain ⟨rfl, rfl, rfl, rfl⟩ := hk
  obtain ⟨ob, ho, arr, t, fr, rfl, h2, h3, h4, h5, h6⟩ := hr.obj _ _ _ hk0 hl
  have hlen := hv.length
  simp only at hroom h3 h5
  have hcell : ∀ i, i < n' → w.cell? ⟨l.blk, l.off + i, none⟩ = some (arr.getD (l.off + i) undef) := fun i hi => by
    have : l.off + i < arr.size := by omega
    simp [World.cell?, ho, this, Array.getD]
  have hfr : ∀ i, i < n' → w.frozen? ⟨l.blk, l.off + i, none⟩ = false := fun i hi => by
    have := h4 i (by omega)
    simp only [World.frozen?, ho]
    simpa using this
  constructor
  · have := run_storeCells_cells (P := P) l.blk (l.off + o) vs' 0 w (fun j hj => by
      rw [show l.off + o + 0 + j = l.off + (o + j) by omega, hcell _ (by omega)]; rfl)
      (fun j hj => by rw [show l.off + o + 0 + j = l.off + (o + j) by omega]; exact hfr _ (by omega)) (all_one hone hv)
    simpa using this
  · obtain ⟨r1, r2, r3⟩ := rest_setCells l.blk vs' (l.off + o) w
    refine hr.replace hk0 hl (o' := .cells (setAll arr (l.off + o) vs') t fr) (fun c => ?_) (size_setCells _ _ _ _) ?_ r1 r2 r3
    · rw [heap_setCells]
      by_cases he : l.blk = c
      · subst he; simp [ho]
      · simp [he]
    · refine ⟨_, t, fr, rfl, by rw [size_setAll]; exact h2, h3, h4, fun i u hu => ?_, h6.1, fun ht => ?_⟩
      · rw [writeCells_get] at hu
        rw [setAll_getD _ _ _ _ (by omega)]
        by_cases hin : o ≤ i ∧ i < o + vs.length
        · rw [if_pos hin] at hu
          refine ⟨by omega, ?_⟩
          rw [if_pos (by omega)]
          obtain ⟨u', e1, e2⟩ := hv.get hu
          rw [show l.off + i - (l.off + o) = i - o by omega]
          simpa [List.getD, e1] using e2
        · rw [if_neg hin] at hu
          rw [if_neg (by omega)]
          exact h5 i u hu
      · obtain ⟨a2, a3⟩ := h6.2 ht
        exact ⟨a2, by rw [size_setAll]; exact a3⟩

end
end Go.Ab

namespace Go.Ab

section
variable {E : Env} {P : Program} {ρ : Ren} {st : St} {w : World} {t : Tr Value} {a : Act}

theorem opv_sound (ht : TR ρ t a.tmps) {x : Operand} {v : Value} (h : opv t x = some v) : V ρ v (a.eval x) := by
  cases x with
  | tmp i => injection h with h; subst h; exact ht i
  | const u =>
    obtain ⟨h1, h2⟩ := grd_some (b := lit u) h
    injection h2 with h2
    subst h2
    exact lit_sound ρ h1
  | global g => exact nomatch h
  | func f => injection h with h; subst h; exact .func (.func f) .nil .nil

theorem opvs_cons (x : Operand) (xs : List Operand) : opvs t (x :: xs) = bnd (opv t x) fun v => bnd (opvs t xs) fun vs => some (v :: vs) := rfl
theorem opvs_sound (ht : TR ρ t a.tmps) {xs : List Operand} {vs : List Value} (h : opvs t xs = some vs) : VL ρ vs (xs.map a.eval) := by
  induction xs generalizing vs with
  | nil => injection h with h; subst h; exact .nil
  | cons x xs ih =>
    simp only [opvs_cons, bnd_eq] at h
    obtain ⟨v, hv, r, hr, h⟩ := h
    injection h with h
    subst h
    exact .cons (opv_sound ht hv) (ih hr)

/-! the shapes of related values -/
theorem V.int_inv {k : IntKind} {n : Int} {v' : Value} (h : V ρ (.int k n) v') : v' = .int k n := by cases h; rfl
theorem V.bool_inv {b : Bool} {v' : Value} (h : V ρ (.bool b) v') : v' = .bool b := by cases h; rfl
theorem V.string_inv {s : ByteArray} {v' : Value} (h : V ρ (.string s) v') : v' = .string s := by cases h; rfl
theorem asBool_some {v : Value} {b : Bool} (h : asBool v = some b) : v = .bool b := by cases v <;> simp [asBool] at h; subst h; rfl
theorem asInt_some {v : Value} {n : Int} (h : asInt v = some n) : ∃ k, v = .int k n := by cases v <;> simp [asInt] at h; subst h; exact ⟨_, rfl⟩
theorem asNat_some {v : Value} {n : Nat} (h : asNat v = some n) : ∃ k, v = .int k (n : Int) := by
  simp only [asNat, bnd_eq] at h
  obtain ⟨m, hm, h⟩ := h
  obtain ⟨k, rfl⟩ := asInt_some hm
  cases m with
  | ofNat m => injection h with h; subst h; exact ⟨k, rfl⟩
  | negSucc m => exact nomatch h
theorem asAddr_some {v : Value} {p : Nat × Nat} (h : asAddr v = some p) : v = .pointer (some ⟨p.1, p.2, none⟩) := by
  unfold asAddr at h
  split at h
  · injection h with h; subst h; rfl
  · cases h
theorem asAgg_some {v : Value} {c : Array Value} (h : asAgg v = some c) : v = .agg c := by cases v <;> simp [asAgg] at h; subst h; rfl
theorem asTuple_some {v : Value} {c : Array Value} (h : asTuple v = some c) : v = .tuple c := by cases v <;> simp [asTuple] at h; subst h; rfl
theorem asMap_some {v : Value} {c : Option Nat} (h : asMap v = some c) : v = .map c := by cases v <;> simp [asMap] at h; subst h; rfl
theorem asFunc_some {v : Value} {c : Fn × List Value × List Value} (h : asFunc v = some c) : ∃ x y, v = .func c.1 x y ∧ x.toList = c.2.1 ∧ y.toList = c.2.2 := by
  cases v <;> simp [asFunc] at h
  subst h
  exact ⟨_, _, rfl, rfl, rfl⟩
theorem V.ptr_inv {b o : Nat} {v' : Value} (h : V ρ (.pointer (some ⟨b, o, none⟩)) v') : ∃ l, ρ b = some l ∧ v' = .pointer (some ⟨l.blk, l.off + o, none⟩) := by
  cases h with
  | ptr hb => exact ⟨_, hb, rfl⟩

/-- what an operation that turns nothing answers -/
def PureOK (P : Program) (ρ : Ren) (w : World) (s : Sem Next) (v : Value) : Prop := ∃ v', s.run P w = .ok (.value v') w ∧ V ρ v v'

variable {c : Ctx} {r : Out} {o : Oper}

theorem val_some {v : Value} (h : c.val v = some r) : r.v = v ∧ r.ds = c.ds ∧ r.st = c.st := by
  injection h with h; subst h; exact ⟨rfl, rfl, rfl⟩
theorem out_some {v : Value} {s : St} (h : c.out v s = some r) : r.v = v ∧ r.ds = c.ds ∧ r.st = s := by
  injection h with h; subst h; exact ⟨rfl, rfl, rfl⟩

theorem hMove_sound (ht : TR ρ c.t a.tmps) {x : Operand} (h : hMove x c = some r) (ho : o.op = .move x ∨ o.op = .assign x) :
    PureOK P ρ w (execOp a.eval o) r.v ∧ r.ds = c.ds ∧ r.st = c.st := by
  simp only [hMove, bnd_eq, grd_eq] at h
  obtain ⟨v, hv, h⟩ := h
  obtain ⟨rfl, h2, h3⟩ := val_some h
  refine ⟨⟨a.eval x, ?_, opv_sound ht hv⟩, h2, h3⟩
  rcases ho with ho | ho <;> simp [execOp, ho]

theorem hPick_sound (ht : TR ρ c.t a.tmps) {b x y : Operand} (h : hPick b x y c = some r) (ho : o.op = .pick b x y) :
    PureOK P ρ w (execOp a.eval o) r.v ∧ r.ds = c.ds ∧ r.st = c.st := by
  simp only [hPick, bnd_eq, grd_eq] at h
  obtain ⟨bv, hb, bb, hbb, xv, hx, yv, hy, h⟩ := h
  obtain ⟨h1, h2, h3⟩ := val_some h
  have e1 := opv_sound ht hb
  rw [asBool_some hbb] at e1
  refine ⟨⟨if bb then a.eval x else a.eval y, ?_, ?_⟩, h2, h3⟩
  · simp [execOp, ho, e1.bool_inv, Go.asBool]
  · rw [h1, cnd_of]
    cases bb
    · simpa using opv_sound ht hy
    · simpa using opv_sound ht hx

theorem hNilCheck_sound (ht : TR ρ c.t a.tmps) {x : Operand} (h : hNilCheck x c = some r) (ho : o.op = .nilCheck x) :
    PureOK P ρ w (execOp a.eval o) r.v ∧ r.ds = c.ds ∧ r.st = c.st := by
  simp only [hNilCheck, bnd_eq, grd_eq] at h
  obtain ⟨v, hv, hn, h⟩ := h
  obtain ⟨h1, h2, h3⟩ := val_some h
  have e1 := opv_sound ht hv
  refine ⟨⟨a.eval x, ?_, h1 ▸ e1⟩, h2, h3⟩
  simp only [execOp, ho]
  generalize a.eval x = u at e1
  clear h1
  cases e1 <;> first | rfl | (simp [notNil] at hn; done) | skip
  rename_i hf _ _
  cases hf with
  | func f => rfl
  | yield hb => simp [notNil] at hn

theorem hMakeInterface_sound (ok : E.Ok P) (hE : c.E = E) (ht : TR ρ c.t a.tmps) {ty : TypeId} {x : Operand} (h : hMakeInterface ty x c = some r) (ho : o.op = .makeInterface ty x) :
    PureOK P ρ w (execOp a.eval o) r.v ∧ r.ds = c.ds ∧ r.st = c.st := by
  simp only [hMakeInterface, bnd_eq, grd_eq] at h
  obtain ⟨d, hd, hi, v, hv, h⟩ := h
  obtain ⟨h1, h2, h3⟩ := val_some h
  subst hE
  refine ⟨⟨.iface ty (a.eval x), ?_, h1 ▸ .iface (opv_sound ht hv)⟩, h2, h3⟩
  simp only [execOp, ho, Instr.makeInterface, Sem.run_bind, ok.runUnd hd w, Result.andThen_ok]
  cases d <;> first | rfl | (simp [tdIsIface] at hi)

theorem hMakeFunc_sound (ht : TR ρ c.t a.tmps) {fn : Fn} {first captured : Array Operand} (h : hMakeFunc fn first captured c = some r) (ho : o.op = .makeFunc fn first captured) :
    PureOK P ρ w (execOp a.eval o) r.v ∧ r.ds = c.ds ∧ r.st = c.st := by
  simp only [hMakeFunc, bnd_eq, grd_eq] at h
  obtain ⟨f, hf, x, hx, y, hy, h⟩ := h
  obtain ⟨h1, h2, h3⟩ := val_some h
  have hfn : fn = .func f := by cases fn <;> simp [fnFunc] at hf; subst hf; rfl
  subst hfn
  refine ⟨⟨.func (.func f) (first.map a.eval) (captured.map a.eval), ?_, ?_⟩, h2, h3⟩
  · simp [execOp, ho, Instr.makeFunc]
  · rw [h1]
    exact V.func (FnR.func f) (by simpa using opvs_sound ht hx) (by simpa using opvs_sound ht hy)

theorem hExtract_sound (ht : TR ρ c.t a.tmps) {x : Operand} {i : Nat} (h : hExtract x i c = some r) (ho : o.op = .extract x i) :
    PureOK P ρ w (execOp a.eval o) r.v ∧ r.ds = c.ds ∧ r.st = c.st := by
  simp only [hExtract, bnd_eq, grd_eq] at h
  obtain ⟨tv, ht1, vs, hvs, v, hv, h⟩ := h
  obtain ⟨h1, h2, h3⟩ := val_some h
  have e1 := opv_sound ht ht1
  rw [asTuple_some hvs] at e1
  generalize he : a.eval x = u at e1
  cases e1 with
  | tuple hl =>
    obtain ⟨v', e2, e3⟩ := hl.get hv
    refine ⟨⟨v', ?_, h1 ▸ e3⟩, h2, h3⟩
    simp only [Array.getElem?_toList] at e2
    simp [execOp, ho, Instr.extract, he, e2]

theorem fieldAt_some {fs : Array Field} {i : Nat} {f : Field} (h : fs[i]? = some f) : fs[i]? = some f := h

theorem hFieldAddr_sound (ok : E.Ok P) (hE : c.E = E) (ht : TR ρ c.t a.tmps) {s : TypeId} {x : Operand} {f : Nat} (h : hFieldAddr s x f c = some r) (ho : o.op = .fieldAddr s x f) :
    PureOK P ρ w (execOp a.eval o) r.v ∧ r.ds = c.ds ∧ r.st = c.st := by
  simp only [hFieldAddr, bnd_eq, grd_eq] at h
  obtain ⟨d, hd, fs, hfs, fd, hfd, z, hz, v, hv, p, hp, hnz, h⟩ := h
  obtain ⟨h1, h2, h3⟩ := val_some h
  subst hE
  have e1 := opv_sound ht hv
  rw [asAddr_some hp] at e1
  obtain ⟨l, hl, e2⟩ := e1.ptr_inv
  have hd' : d = .struct fs := by cases d <;> simp [tdStruct] at hfs; subst hfs; rfl
  subst hd'
  have hz0 : z ≠ 0 := by intro hz; subst hz; simp at hnz
  refine ⟨⟨.pointer (some ⟨l.blk, l.off + (p.2 + fd.offset), none⟩), ?_, h1 ▸ .ptr hl⟩, h2, h3⟩
  simp [execOp, ho, Instr.fieldAt, ok.runUnd hd w, hfd, e2, Instr.sureAddr, fieldPlace, ok.size hz w, hz0, add_none, Nat.add_assoc]

theorem part_sound (ok : E.Ok P) {ty : TypeId} {cs cs' : Array Value} (hcs : VL ρ cs.toList cs'.toList) {off : Nat} {v : Value} (h : part E ty cs off = some v) :
    ∃ v', (Go.part ty cs' off).run P w = .ok v' w ∧ V ρ v v' := by
  simp only [part, bnd_eq, grd_eq] at h
  obtain ⟨b, hb, h⟩ := h
  have hag := ok.agg hb w
  cases b with
  | true =>
    have h : bnd (E.size ty) (fun n => some (.agg (cs.extract off (off + n)))) = some v := h
    simp only [bnd_eq] at h
    obtain ⟨n, hn, h⟩ := h
    injection h with h
    subst h
    refine ⟨.agg (cs'.extract off (off + n)), ?_, .agg ?_⟩
    · simp only [Go.part, Sem.run_bind, hag, Result.andThen_ok, if_true, ok.size hn w, Sem.run_pure]
    · simp only [Array.toList_extract, List.extract_eq_take_drop, Nat.add_sub_cancel_left]
      exact (hcs.drop off).take n
  | false =>
    have h' : cs.toList[off]? = some v := by
      have h0 : cs[off]? = some v := h
      simpa using h0
    obtain ⟨v', e1, e2⟩ := hcs.get h'
    refine ⟨v', ?_, e2⟩
    simp only [Array.getElem?_toList] at e1
    simp only [Go.part, Sem.run_bind, hag, Result.andThen_ok, Bool.false_eq_true, if_false, e1, Sem.run_pure]

theorem hField_sound (ok : E.Ok P) (hE : c.E = E) (ht : TR ρ c.t a.tmps) {s : TypeId} {x : Operand} {f : Nat} (h : hField s x f c = some r) (ho : o.op = .field s x f) :
    PureOK P ρ w (execOp a.eval o) r.v ∧ r.ds = c.ds ∧ r.st = c.st := by
  simp only [hField, bnd_eq, grd_eq] at h
  obtain ⟨d, hd, fs, hfs, fd, hfd, v, hv, cs, hcs, u, hu, h⟩ := h
  obtain ⟨h1, h2, h3⟩ := val_some h
  subst hE
  have e1 := opv_sound ht hv
  rw [asAgg_some hcs] at e1
  generalize he : a.eval x = y at e1
  cases e1 with
  | agg hl =>
    obtain ⟨v', e2, e3⟩ := part_sound (w := w) ok hl hu
    have hd' : d = .struct fs := by cases d <;> simp [tdStruct] at hfs; subst hfs; rfl
    subst hd'
    refine ⟨⟨v', ?_, h1 ▸ e3⟩, h2, h3⟩
    simp [execOp, ho, Instr.field, ok.runUnd hd w, hfd, he, Go.asAgg, e2]

theorem hIndexAddr_sound (ok : E.Ok P) (hE : c.E = E) (ht : TR ρ c.t a.tmps) {ty : TypeId} {x i : Operand} (h : hIndexAddr ty x i c = some r) (ho : o.op = .indexAddr ty x i) :
    PureOK P ρ w (execOp a.eval o) r.v ∧ r.ds = c.ds ∧ r.st = c.st := by
  simp only [hIndexAddr, bnd_eq, grd_eq] at h
  obtain ⟨d, hd, xv, hx, iv, hi, n, hn, h⟩ := h
  subst hE
  have e1 := opv_sound ht hx
  have e2 := opv_sound ht hi
  obtain ⟨k, rfl⟩ := asNat_some hn
  have e2 := e2.int_inv
  split at h
  · rename_i len e b off
    simp only [bnd_eq, grd_eq] at h
    obtain ⟨z, hz, hlt, h⟩ := h
    obtain ⟨h1, h2, h3⟩ := val_some h
    obtain ⟨l, hl, e3⟩ := e1.ptr_inv
    have hlt' : n < len := by simp [Nat.blt] at hlt; omega
    refine ⟨⟨.pointer (some ⟨l.blk, l.off + (off + n * z), none⟩), ?_, h1 ▸ .ptr hl⟩, h2, h3⟩
    simp [execOp, ho, Instr.indexAt, e2, asIntOf, ok.runUnd hd w, e3, Instr.sureAddr, hlt', ok.size hz w, add_none, Nat.add_assoc]
  · rename_i e b off len cap
    simp only [bnd_eq, grd_eq] at h
    obtain ⟨z, hz, hlt, h⟩ := h
    obtain ⟨h1, h2, h3⟩ := val_some h
    have hlt' : n < len := by simp [Nat.blt] at hlt; omega
    generalize he : a.eval x = y at e1
    cases e1 with
    | slice hl hc1 hc2 hc3 hc4 =>
      rename_i c' l a'
      have ha := hc4 (by omega)
      subst ha
      refine ⟨⟨.pointer (some ⟨l.blk, l.off + (off + n * z), none⟩), ?_, h1 ▸ .ptr hl⟩, h2, h3⟩
      simp [execOp, ho, Instr.indexAt, e2, asIntOf, ok.runUnd hd w, he, hlt', ok.size hz w, add_none, Nat.add_assoc]
  · cases h

theorem hIndex_sound (ok : E.Ok P) (hE : c.E = E) (ht : TR ρ c.t a.tmps) {ty : TypeId} {x i : Operand} (h : hIndex ty x i c = some r) (ho : o.op = .index ty x i) :
    PureOK P ρ w (execOp a.eval o) r.v ∧ r.ds = c.ds ∧ r.st = c.st := by
  simp only [hIndex, bnd_eq, grd_eq] at h
  obtain ⟨d, hd, xv, hx, iv, hi, n, hn, h⟩ := h
  subst hE
  have e1 := opv_sound ht hx
  have e2 := opv_sound ht hi
  obtain ⟨k, rfl⟩ := asNat_some hn
  have e2 := e2.int_inv
  split at h
  · rename_i s
    simp only [bnd_eq, grd_eq] at h
    obtain ⟨b, hb, h⟩ := h
    obtain ⟨h1, h2, h3⟩ := val_some h
    refine ⟨⟨.int .u8 b.toNat, ?_, by rw [h1]; exact .int _ _⟩, h2, h3⟩
    have hlt : n < s.size := by
      have := (List.getElem?_eq_some_iff.1 hb).1
      simpa using this
    have hb' : s[n]? = some b := by
      have h5 := (List.getElem?_eq_some_iff.1 hb).2
      rw [getElem?_pos s n hlt]
      congr 1
    simp [execOp, ho, Instr.index, e2, asIntOf, ok.runUnd hd w, e1.string_inv, hb']
  · rename_i len e cs
    simp only [bnd_eq, grd_eq] at h
    obtain ⟨z, hz, hlt, u, hu, h⟩ := h
    obtain ⟨h1, h2, h3⟩ := val_some h
    have hlt' : n < len := by simp [Nat.blt] at hlt; omega
    generalize he : a.eval x = y at e1
    cases e1 with
    | agg hl =>
      obtain ⟨v', e3, e4⟩ := part_sound (w := w) ok hl hu
      refine ⟨⟨v', ?_, h1 ▸ e4⟩, h2, h3⟩
      simp [execOp, ho, Instr.index, e2, asIntOf, ok.runUnd hd w, he, hlt', ok.size hz w, e3]
  · cases h

end
end Go.Ab
