/- The words of a heap-level calculus of weakest preconditions over the model: definitions alone. -/
import Derived.RangeFuncRecord
import Derived.RangeFuncIn
import Derived.OrdersIn
import Derived.KernelRfl
namespace Go.Proofs.Ytgladmaagpcffaa

abbrev Heap := Array Obj
abbrev Env := Nat → Value

/-! ### Cells of a heap -/
def cellAt (h : Heap) (a : Addr) : Option Value :=
  match h[a.block]? with
  | some (.cells c _ _) => if a.spot.isSome then none else c[a.off]?
  | _ => none

def shapeAt (h : Heap) (r : Nat) : Option (TypeId × Nat) :=
  match h[r]? with
  | some (.cells c elem _) => some (elem, c.size)
  | _ => none

def frozenAt (h : Heap) (a : Addr) : Bool :=
  match h[a.block]? with
  | some (.cells _ _ (lo, hi)) => lo ≤ a.off && a.off < hi
  | _ => false

def freezeAt (h : Heap) (a : Addr) (n : Nat) : Heap :=
  if n = 0 then h else
  h.modify a.block fun
      | .cells c elem (lo, hi) => .cells c elem (if lo == hi then (a.off, a.off + n) else (min lo a.off, max hi (a.off + n)))
      | o => o

def setO (a : Addr) (v : Value) : Obj → Obj
  | .cells c elem frozen => .cells (if a.spot.isSome then c else c.setIfInBounds a.off v) elem frozen
  | o => o
def setC (h : Heap) (a : Addr) (v : Value) : Heap := h.modify a.block (setO a v)

/-- Nothing goes; a block whose rounds' deferred calls are not taken stays so. -/
def Kd (h h' : Heap) : Prop := h.size ≤ h'.size ∧ ∀ D : Nat, h[D]? = some (.deferred (some [])) → h'[D]? = some (.deferred (some []))

/-- A value of one cell. -/
def oneC (v : Value) (X : Prop) : Prop := match v with | .agg _ | .tuple _ => False | _ => X

/-- The heap-level run of an operation's meaning, at every answer of the tape. -/
def hp {α : Type} (P : Program) : Sem α → (α → Heap → Prop) → Heap → Prop
  | .pure a, K, h => K a h
  | .load _ a k, K, h => match cellAt h a with | some v => hp P (k v) K h | none => False
  | .store _ a v k, K, h => oneC v ((∃ u, cellAt h a = some u) ∧ frozenAt h a = false ∧ hp P k K (setC h a v))
  | .new o k, K, h => hp P (k h.size) K (h.push o)
  | .shape r k, K, h => hp P (k (shapeAt h r)) K h
  | .freeze a n k, K, h => hp P k K (freezeAt h a n)
  | .frozen a k, K, h => hp P (k (frozenAt h a)) K h
  | .getObj r k, K, h => match h[r]? with
    | some (.cells ..) => False
    | some o => hp P (k o) K h
    | none => False
  | .setObj r o k, K, h => match h[r]? with
    | some (.map ..) | some (.mapIter ..) | some (.stringIter ..) => hp P k K (h.setIfInBounds r o)
    | _ => False
  | .choose q k, K, h => ∀ t, hp P (k (if q.forced then 0 else q.cut t)) K h
  | .sys .., _, _ => False
  | .program k, K, h => hp P (k P) K h
  | .mark _ k, K, h => hp P k K h
  | .halt _, _, _ => False

/-! ### Calls -/
/-- .. and nothing is said to the world outside. -/
def Kw (w w' : World) : Prop := Kd w.heap w'.heap ∧ w'.os = w.os ∧ w'.output = w.output
def onH (w0 : World) (K : Value → Heap → Prop) : Ending → World → Prop
  | .returned v, w => K v w.heap ∧ Kw w0 w
  | _, _ => False

def CallsH (P : Program) (f : FuncId) (args : Array Value) (h : Heap) (K : Value → Heap → Prop) : Prop :=
  ∀ w : World, w.heap = h → CallsIn Fence.wide 0 P f args w (onH w K)

def Enters (P : Program) (f : FuncId) : Prop := ∀ args (w : World), (callFunc f args).run P w = .ok (.enter f args) w

/-- A call of function f. -/
def CallH (P : Program) (f : FuncId) (args : Array Value) (h : Heap) (K : Value → Heap → Prop) : Prop :=
  Enters P f ∧ CallsH P f args h K

/-- A call of a loop's yield. -/
def YieldH (P : Program) (l : Nat) (args : Array Value) (h : Heap) (K : Value → Heap → Prop) : Prop :=
  ∀ w : World, w.heap = h → ∃ fn tmps assign body, (Instr.yield l args).run P w = .ok (.round l fn tmps assign body) w ∧
    RoundIn Fence.wide 0 P l fn tmps assign body w (onH w K)

/-- A call of a function that the model itself answers for. -/
def ExtH (P : Program) (f : FuncId) (args : Array Value) (h : Heap) (K : Value → Heap → Prop) : Prop :=
  hp P (callFunc f args) (fun nx h' => match nx with | .value v => K v h' | _ => False) h

/-- A call of a function value. -/
def callV (P : Program) (v : Value) (args : Array Value) (h : Heap) (K : Value → Heap → Prop) : Prop :=
  match v with
  | .func (.func f) first captured => CallH P f (first ++ args ++ captured) h K
  | .func (.yield l) first _ => YieldH P l (first ++ args) h K
  | _ => False

def extV (P : Program) (v : Value) (args : Array Value) (h : Heap) (K : Value → Heap → Prop) : Prop :=
  match v with
  | .func (.func f) first captured => ExtH P f (first ++ args ++ captured) h K
  | _ => False
/-- Is this a function that the model itself answers for? -/
def extO (P : Program) (f : Operand) : Bool :=
  match f with
  | .func g => (match P.funcs[g]? with | some fn => fn.body.isNone | none => false)
  | _ => false

/-! ### What an operation asks of its operands -/
def asPtr (v : Value) (K : Addr → Prop) : Prop := match v with | .pointer (some a) => K a | _ => False
def asPtrO (v : Value) (K : Option Addr → Prop) : Prop := match v with | .pointer a => K a | _ => False
def asInt (k : IntKind) (v : Value) (K : Int → Prop) : Prop := match v with | .int k' n => if k' = k then K n else False | _ => False
def asI (v : Value) (K : Int → Prop) : Prop := match v with | .int _ n => K n | _ => False
def asBool (v : Value) (K : Bool → Prop) : Prop := match v with | .bool b => K b | _ => False
def asStr (v : Value) (K : ByteArray → Prop) : Prop := match v with | .string s => K s | _ => False
def asSlice (v : Value) (K : Option Addr → Nat → Nat → Prop) : Prop := match v with | .slice a l c => K a l c | _ => False
def asAgg (v : Value) (K : Array Value → Prop) : Prop := match v with | .agg cs => K cs | _ => False
def asTup (v : Value) (K : Array Value → Prop) : Prop := match v with | .tuple cs => K cs | _ => False
def asMap (v : Value) (K : Option Nat → Prop) : Prop := match v with | .map r => K r | _ => False
def asFnNil (v : Value) (K : Bool → Prop) : Prop := match v with | .nilFunc => K true | .func .. => K false | _ => False
def nilC (v : Value) (X : Prop) : Prop := match v with | .pointer none | .nilIface | .nilFunc => False | .func (.method _) _ _ => False | _ => X
def ifB (b : Bool) (X Y : Prop) : Prop := match b with | true => X | false => Y

def ldH (h : Heap) (a : Addr) (K : Value → Prop) : Prop := match cellAt h a with | some v => K v | none => False
def ldN (h : Heap) (a : Addr) (i : Nat) : Nat → List Value → (List Value → Prop) → Prop
  | 0, acc, K => K acc.reverse
  | n + 1, acc, K => ldH h (a.add i) fun v => ldN h a (i + 1) n (v :: acc) K
def stH (h : Heap) (a : Addr) (v : Value) (K : Heap → Prop) : Prop := oneC v ((∃ u, cellAt h a = some u) ∧ frozenAt h a = false ∧ K (setC h a v))
def stN (h : Heap) (a : Addr) (i : Nat) : List Value → (Heap → Prop) → Prop
  | [], K => K h
  | v :: vs, K => stH h (a.add i) v fun h' => stN h' a (i + 1) vs K

/-! ### The table of types -/
def und (P : Program) (t : TypeId) : TypeDesc := (P.underlying t).getD .invalid
def siz (P : Program) (t : TypeId) : Nat := match P.info? t with | some i => i.size | none => 0
def byt (P : Program) (t : TypeId) : Nat := match P.info? t with | some i => i.bytes | none => 0
def zer (P : Program) (t : TypeId) : Option Value := (P.info? t).bind (·.zero)
def there (P : Program) (t : TypeId) : Bool := (P.info? t).isSome && (P.underlying t).isSome
def aggT (P : Program) (t : TypeId) : Bool := match und P t with | .struct _ | .array _ _ => true | _ => false
def zcells (P : Program) (t : TypeId) : List Value := match zer P t with | some (.agg cs) => cs.toList | some v => [v] | none => []

/-- A tuple's part. -/
def elemH (vs : Array Value) (i : Nat) (K : Value → Prop) : Prop := match vs[i]? with | some v => K v | none => False
def sizeH (cs : Array Value) (n : Nat) (X : Prop) : Prop := match Nat.beq cs.size n with | true => X | false => False
def elemsH (cs : Array Value) : Nat → Nat → List Value → (List Value → Prop) → Prop
  | 0, _, acc, F => F acc.reverse
  | n + 1, i, acc, F => elemH cs i fun v => elemsH cs n (i + 1) (v :: acc) F
def aggF (n : Nat) (v : Value) (K : Value → Prop) : Prop := match Nat.ble n 64 with
  | true => asAgg v fun cs => sizeH cs n (elemsH cs n 0 [] fun us => K (.agg us.toArray))
  | false => K v
/-- A value's form, by its type. -/
def typedV (P : Program) (t : TypeId) (v : Value) (K : Value → Prop) : Prop :=
  match und P t with
  | .bool => asBool v fun b => K (.bool b)
  | .int k => asInt k v fun n => K (.int k n)
  | .string => asStr v fun s => K (.string s)
  | .slice _ => asSlice v fun a l c => K (.slice a l c)
  | .pointer _ => asPtrO v fun a => K (.pointer a)
  | .map _ _ => asMap v fun r => K (.map r)
  | .struct _ => aggF (siz P t) v K
  | .array _ _ => aggF (siz P t) v K
  | _ => K v

def aggC (n : Nat) (v : Value) (K : List Value → Prop) : Prop := match Nat.ble n 64 with
  | true => asAgg v fun cs => sizeH cs n (elemsH cs n 0 [] K)
  | false => asAgg v fun cs => K cs.toList
/-- A value of type t as its cells. -/
def cellsT (P : Program) (t : TypeId) (v : Value) (K : List Value → Prop) : Prop :=
  if aggT P t then aggC (siz P t) v K else oneC v (K [v])

def mapV (f : Operand → Value) (a : Array Operand) : Array Value := (a.toList.map f).toArray

def putCells (cs : List Value) (off : Nat) : List Value → List Value
  | [] => cs
  | v :: vs => putCells (cs.set off v) (off + 1) vs

/-- Parts laid into a row of cells: their places, their types. -/
def fillH (P : Program) (place : Nat → Option (Nat × TypeId)) : List Value → List (Nat × Value) → (List Value → Prop) → Prop
  | cells, [], K => K cells
  | cells, (i, v) :: rest, K =>
    match place i with
    | none => False
    | some (off, t) => cellsT P t v fun cs =>
      if cs.length = siz P t ∧ off + siz P t ≤ cells.length then fillH P place (putCells cells off cs) rest K else False

/-! ### Equality of plain values -/
def partV (P : Program) (t : TypeId) (cs : Array Value) (off : Nat) : Option Value :=
  if aggT P t then some (.agg (cs.extract off (off + siz P t))) else cs[off]?

/-- A part of a row of cells, at a place that need not be known. -/
def partH (P : Program) (t : TypeId) (cs : Array Value) (off : Nat) (K : Value → Prop) : Prop := match partV P t cs off with | some v => K v | none => False
def byteAt (s : ByteArray) (i : Nat) : Int := ((s[i]?).map (fun b => (b.toNat : Int))).getD 0

def partE (P : Program) (t : TypeId) (cs : Array Value) (off : Nat) : Option Value := if there P t then partV P t cs off else none

def andO : Option Bool → Option Bool → Option Bool
  | some b, some r => some (b && r)
  | _, _ => none

def eqv (P : Program) : (d : Nat) → TypeId → Value → Value → Option Bool
  | 0, _, _, _ => none
  | d + 1, t, x, y =>
    match und P t, x, y with
    | .bool, .bool a, .bool b => some (a == b)
    | .int _, .int k a, .int k' b => if k = k' then some (a == b) else none
    | .string, .string a, .string b => some (a == b)
    | .struct fields, .agg xs, .agg ys =>
      if P.stoodInHeld t then none else
      fields.toList.foldr (fun f acc =>
        if f.name = "_" then none else
        match partE P f.type xs f.offset, partE P f.type ys f.offset with
        | some x, some y => andO (eqv P d f.type x y) acc
        | _, _ => none) (some true)
    | .array len elem, .agg xs, .agg ys =>
      if there P elem then
      (List.range' 0 len).foldr (fun i acc =>
        match partE P elem xs (i * siz P elem), partE P elem ys (i * siz P elem) with
        | some x, some y => andO (eqv P d elem x y) acc
        | _, _ => none) (some true) else none
    | _, _, _ => none

/-- A struct (or an array) of plain values as its cells' kinds known: what a comparison asks. -/
def eqvH (P : Program) (t : TypeId) (x y : Value) (K : Bool → Prop) : Prop :=
  if P.eqGuardType P.depth t then False else
  asAgg x fun _ =>
  match eqv P 10000 t x y with | some b => K b | none => False

/-! ### One operation -/
def undefV : Value := .tuple #[]

/-- What is handed on behind an operation. -/
def nxt (P : Program) (K : Value → Heap → Prop) : Next → Heap → Prop
  | .value v, h => K v h
  | .skip, h => K undefV h
  | .enter f args, h => CallsH P f args h K
  | _, _ => False

def opH (P : Program) (ρ : Operand → Value) (o : Oper) (h : Heap) (K : Value → Heap → Prop) : Prop := hp P (execOp ρ o) (nxt P K) h

/-- Words that the model's own operation explains. -/
def cvtH (P : Program) (src dst : TypeId) (v : Value) (h : Heap) (K : Value → Heap → Prop) : Prop := hp P (convert src dst v) K h
def ptrH (P : Program) (op : BinOp) (t : TypeId) (a b : Option Addr) (h : Heap) (K : Value → Heap → Prop) : Prop := hp P (binOp op t (.pointer a) (.pointer b)) K h
def usdH (P : Program) (argTypes : Array TypeId) (t : TypeId) (args : Array Value) (h : Heap) (K : Value → Heap → Prop) : Prop := hp P (Builtin.unsafeSliceData_ argTypes t args) K h
def ustH (P : Program) (argTypes : Array TypeId) (t : TypeId) (args : Array Value) (h : Heap) (K : Value → Heap → Prop) : Prop := hp P (Builtin.unsafeString_ argTypes t args) K h

def nilP : Operand → Bool | .const (.pointer none) => true | _ => false
def nilS : Operand → Bool | .const (.slice none _ _) => true | _ => false
def nilM : Operand → Bool | .const (.map none) => true | _ => false
def nilF : Operand → Bool | .const .nilFunc => true | _ => false

def intOp (k : IntKind) (op : BinOp) (a b : Int) (K : Value → Prop) : Prop :=
  match op with
  | .add => K (.int k (k.wrap (a + b)))
  | .sub => K (.int k (k.wrap (a - b)))
  | .mul => K (.int k (k.wrap (a * b)))
  | .quo => b ≠ 0 ∧ K (.int k (k.wrap (a.tdiv b)))
  | .rem => b ≠ 0 ∧ K (.int k (a.tmod b))
  | .and => K (.int k (k.wrap ((BitVec.ofInt k.bits a) &&& (BitVec.ofInt k.bits b)).toNat))
  | .or => K (.int k (k.wrap ((BitVec.ofInt k.bits a) ||| (BitVec.ofInt k.bits b)).toNat))
  | .xor => K (.int k (k.wrap ((BitVec.ofInt k.bits a) ^^^ (BitVec.ofInt k.bits b)).toNat))
  | .andNot => K (.int k (k.wrap ((BitVec.ofInt k.bits a) &&& ~~~(BitVec.ofInt k.bits b)).toNat))
  | .eql => K (.bool (a == b))
  | .neq => K (.bool (a != b))
  | .lss => K (.bool (decide (a < b)))
  | .leq => K (.bool (decide (a ≤ b)))
  | .gtr => K (.bool (decide (a > b)))
  | .geq => K (.bool (decide (a ≥ b)))
  | _ => False

def shOp (k : IntKind) (op : BinOp) (a b : Int) (K : Value → Prop) : Prop :=
  match op with
  | .shl => 0 ≤ b ∧ K (.int k (k.wrap (a * 2 ^ (min b.toNat k.bits))))
  | .shr => 0 ≤ b ∧ K (.int k (a.fdiv (2 ^ (min b.toNat k.bits))))
  | _ => False

def intKindOf (P : Program) (t : TypeId) : Option IntKind := match und P t with | .int k => some k | _ => none

def vbin (P : Program) (op : BinOp) (xt yt : TypeId) (x y : Operand) (ρ : Operand → Value) (o : Oper) (h : Heap) (K : Value → Heap → Prop) : Prop :=
  match und P xt with
  | .int k => (match op with
    | .shl | .shr => (match intKindOf P yt with
      | some k' => asInt k (ρ x) fun a => asInt k' (ρ y) fun b => shOp k op a b fun v => K v h
      | none => False)
    | _ => asInt k (ρ x) fun a => asInt k (ρ y) fun b => intOp k op a b fun v => K v h)
  | .bool => (match op with
    | .eql => asBool (ρ x) fun a => asBool (ρ y) fun b => K (.bool (a == b)) h
    | .neq => asBool (ρ x) fun a => asBool (ρ y) fun b => K (.bool (!(a == b))) h
    | _ => False)
  | .string => (match op with
    | .eql => asStr (ρ x) fun a => asStr (ρ y) fun b => K (.bool (a.toList == b.toList)) h
    | .neq => asStr (ρ x) fun a => asStr (ρ y) fun b => K (.bool (!(a.toList == b.toList))) h
    | .add => asStr (ρ x) fun a => asStr (ρ y) fun b => ((a.size + b.size : Nat) : Int) ≤ 9223372036854775807 ∧ K (.string (a ++ b)) h
    | _ => opH P ρ o h K)
  | .pointer _ => (match op, nilP y with
    | .eql, true => asPtrO (ρ x) fun a => K (.bool a.isNone) h
    | .neq, true => asPtrO (ρ x) fun a => K (.bool (!a.isNone)) h
    | .eql, false => asPtrO (ρ x) fun a => asPtrO (ρ y) fun b => ptrH P .eql xt a b h K
    | .neq, false => asPtrO (ρ x) fun a => asPtrO (ρ y) fun b => ptrH P .neq xt a b h K
    | _, _ => opH P ρ o h K)
  | .slice _ => (match op, nilS y with
    | .eql, true => asSlice (ρ x) fun a _ _ => K (.bool a.isNone) h
    | .neq, true => asSlice (ρ x) fun a _ _ => K (.bool (!a.isNone)) h
    | _, _ => opH P ρ o h K)
  | .map _ _ => (match op, nilM y with
    | .eql, true => asMap (ρ x) fun a => K (.bool a.isNone) h
    | .neq, true => asMap (ρ x) fun a => K (.bool (!a.isNone)) h
    | _, _ => opH P ρ o h K)
  | .func _ _ _ => (match op, nilF y with
    | .eql, true => asFnNil (ρ x) fun b => K (.bool b) h
    | .neq, true => asFnNil (ρ x) fun b => K (.bool (!b)) h
    | _, _ => opH P ρ o h K)
  | .struct _ | .array _ _ => (match op with
    | .eql => eqvH P xt (ρ x) (ρ y) fun b => K (.bool b) h
    | .neq => eqvH P xt (ρ x) (ρ y) fun b => K (.bool (!b)) h
    | _ => False)
  | _ => opH P ρ o h K

/-- A bound of a slice expression: none: what it is without. -/
def boundH (k : Option IntKind) (v : Option Value) (dflt most : Nat) (K : Nat → Prop) : Prop :=
  match v with
  | none => K dflt
  | some v => match k with
    | none => asI v fun i => 0 ≤ i ∧ i ≤ most ∧ K i.toNat
    | some k => asInt k v fun i => 0 ≤ i ∧ i ≤ most ∧ K i.toNat

def subA (a : Option Addr) (l m n : Nat) : Option Addr := if m = l then a else a.map (·.add (l * n))
def subA1 (a : Addr) (l m n : Nat) : Addr := if m = l then a else a.add (l * n)

def vslice (P : Program) (t : TypeId) (x : Value) (lo hi mx : Option Value) (K : Value → Prop) : Prop :=
  match und P t with
  | .string => if mx.isSome then False else asStr x fun s =>
      boundH none hi s.size s.size fun h => boundH none lo 0 h fun l => K (.string (s.extract l h))
  | .slice e => if there P e then asSlice x fun a len cap =>
      boundH none mx cap cap fun m => boundH none hi len m fun h => boundH none lo 0 h fun l =>
        K (.slice (subA a l m (siz P e)) (h - l) (m - l)) else False
  | .array n e => if there P e then asPtr x fun a =>
      boundH none mx n n fun m => boundH none hi n m fun h => boundH none lo 0 h fun l =>
        K (.slice (some (subA1 a l m (siz P e))) (h - l) (m - l)) else False
  | _ => False

/-- make([]T, l, c). -/
def mkSlH (P : Program) (elem : TypeId) (l c : Int) (h : Heap) (K : Value → Heap → Prop) : Prop :=
  0 ≤ l ∧ l ≤ c ∧ c ≤ 9223372036854775807 ∧ byt P elem * c ≤ 2 ^ 48 ∧
    K (.slice (some ⟨h.size, 0, none⟩) l.toNat c.toNat) (h.push (.cells ((List.replicate c.toNat (zcells P elem)).flatten.toArray) elem))

def appH (P : Program) (argTypes : Array TypeId) (t : TypeId) (args : Array Value) (h : Heap) (K : Value → Heap → Prop) : Prop :=
  hp P (Builtin.append_ argTypes t args) K h
def copyH (P : Program) (argTypes : Array TypeId) (t : TypeId) (args : Array Value) (h : Heap) (K : Value → Heap → Prop) : Prop :=
  hp P (Builtin.copy_ argTypes t args) K h

/-- A map's object. -/
def mapAt (h : Heap) (r : Option Nat) (K : Array MapEntry → Nat → Prop) : Prop :=
  match r with
  | none => K #[] 0
  | some r => match h[r]? with | some (.map es c) => K es c | _ => False

def lookH (P : Program) (t : TypeId) (x i : Value) (ok : Bool) (h : Heap) (K : Value → Heap → Prop) : Prop := hp P (Instr.lookup t x i ok) K h
def mupdH (P : Program) (t : TypeId) (x i v : Value) (h : Heap) (K : Heap → Prop) : Prop := hp P (Instr.mapUpdate t x i v) (fun _ => K) h
def mdelH (P : Program) (argTypes : Array TypeId) (t : TypeId) (args : Array Value) (h : Heap) (K : Value → Heap → Prop) : Prop :=
  hp P (Builtin.delete_ argTypes t args) K h

def minmax (f : Int → Int → Int) (P : Program) (t : TypeId) : List Value → (Int → Prop) → Prop
  | [], _ => False
  | [x], K => (match intKindOf P t with | some k => asInt k x K | none => False)
  | x :: xs, K => (match intKindOf P t with | some k => asInt k x fun a => go f k a xs K | none => False)
where
  go (f : Int → Int → Int) (k : IntKind) (a : Int) : List Value → (Int → Prop) → Prop
    | [], K => K a
    | y :: ys, K => asInt k y fun b => go f k (f a b) ys K

def max2I (x y : Int) : Int := if y > x then y else x
def min2I (x y : Int) : Int := if y < x then y else x

def vbuiltin (P : Program) (b : Builtin) (argTypes : Array TypeId) (t : TypeId) (args : List Value) (ρ : Operand → Value) (o : Oper) (h : Heap) (K : Value → Heap → Prop) : Prop :=
  match b, args with
  | .len, [x] => (match argTypes[0]? with
    | some t0 => (match und P t0 with
      | .slice _ => asSlice x fun _ n _ => K (.int .i64 n) h
      | .string => asStr x fun s => K (.int .i64 s.size) h
      | .map _ _ => asMap x fun r => mapAt h r fun es _ => K (.int .i64 es.size) h
      | .array n _ => K (.int .i64 n) h
      | _ => False)
    | none => False)
  | .cap, [x] => (match argTypes[0]? with
    | some t0 => (match und P t0 with
      | .slice _ => asSlice x fun _ _ n => K (.int .i64 n) h
      | _ => False)
    | none => False)
  | .append, args => appH P argTypes t args.toArray h K
  | .copy, args => copyH P argTypes t args.toArray h K
  | .delete, args => mdelH P argTypes t args.toArray h K
  | .unsafeSliceData, args => usdH P argTypes t args.toArray h K
  | .unsafeString, args => ustH P argTypes t args.toArray h K
  | .max, args => (match intKindOf P t with | some k => minmax max2I P t args fun n => K (.int k n) h | none => opH P ρ o h K)
  | .min, args => (match intKindOf P t with | some k => minmax min2I P t args fun n => K (.int k n) h | none => opH P ρ o h K)
  | _, _ => opH P ρ o h K

def vop (P : Program) (ρ : Operand → Value) (o : Oper) (h : Heap) (K : Value → Heap → Prop) : Prop :=
  match o.op with
  | .move x | .assign x => K (ρ x) h
  | .pick c a b => asBool (ρ c) fun c => ifB c (K (ρ a) h) (K (ρ b) h)
  | .alloc t => (match zer P t with
    | some z => K (.pointer (some ⟨h.size, 0, none⟩)) (h.push (.cells z.cells t))
    | none => False)
  | .box t x => cellsT P t (ρ x) fun cs => K (.pointer (some ⟨h.size, 0, none⟩)) (h.push (.cells cs.toArray t))
  | .build t parts => if (zer P t).isSome then (match und P t with
    | .struct fields => if fields.all (fun f => there P f.type) = false then False else fillH P (fun i => (fields[i]?).map fun f => (f.offset, f.type)) (zcells P t) (parts.toList.map fun p => (p.1, ρ p.2)) fun cs => K (.agg cs.toArray) h
    | .array _ elem => if there P elem = false then False else fillH P (fun i => some (i * siz P elem, elem)) (zcells P t) (parts.toList.map fun p => (p.1, ρ p.2)) fun cs => K (.agg cs.toArray) h
    | _ => False) else False
  | .buildSlice t len parts => (match und P t with
    | .slice elem => if there P elem ∧ len * siz P elem ≤ 16777216 ∧ (zer P elem).isSome ∧ (zcells P elem).length = siz P elem ∧ 0 < siz P elem then
        fillH P (fun i => some (i * siz P elem, elem)) (List.replicate len (zcells P elem)).flatten (parts.toList.map fun p => (p.1, ρ p.2))
          fun cs => K (.slice (some ⟨h.size, 0, none⟩) len len) (h.push (.cells cs.toArray elem)) else False
    | _ => False)
  | .load t x => asPtr (ρ x) fun a => if there P t then (if aggT P t then ldN h a 0 (siz P t) [] (fun cs => K (.agg cs.toArray) h) else ldH h a fun v => K v h) else False
  | .store t x y => asPtr (ρ x) fun a => cellsT P t (ρ y) fun cs => if there P t ∧ cs.length = siz P t then stN h a 0 cs fun h' => K undefV h' else False
  | .nilCheck x => nilC (ρ x) (K (ρ x) h)
  | .binOp op xt x y yt => vbin P op xt yt x y ρ o h K
  | .unOp op xt x => (match op, und P xt with
    | .not, .bool => asBool (ρ x) fun b => K (.bool (!b)) h
    | .neg, .int k => asInt k (ρ x) fun n => K (.int k (k.wrap (0 - n))) h
    | _, _ => opH P ρ o h K)
  | .convert src dst x => (match und P src, und P dst with
    | .int ks, .int k => asInt ks (ρ x) fun n => K (.int k (k.wrap n)) h
    | .string, .string => asStr (ρ x) fun s => K (.string s) h
    | _, _ => cvtH P src dst (ρ x) h K)
  | .makeInterface t x => (match und P t with | .interface _ => False | .invalid => False | _ => K (.iface t (ρ x)) h)
  | .makeFunc fn first captured => K (.func fn (mapV ρ first) (mapV ρ captured)) h
  | .makeMap _ none => K (.map (some h.size)) (h.push (.map #[] 0))
  | .makeSlice t l c => (match und P t with
    | .slice elem => asI (ρ l) fun l => asI (ρ c) fun c => if there P elem ∧ (zer P elem).isSome ∧ (zcells P elem).length = siz P elem ∧ 0 < siz P elem then mkSlH P elem l c h K else False
    | _ => False)
  | .slice t x lo hi mx => if mx.isSome && hi.isNone then False else vslice P t (ρ x) (lo.map ρ) (hi.map ρ) (mx.map ρ) fun v => K v h
  | .fieldAddr s x f => (match und P s with
    | .struct fields => (match fields[f]? with
      | some fd => if there P fd.type ∧ siz P fd.type ≠ 0 then asPtr (ρ x) fun a => K (.pointer (some (a.add fd.offset))) h else False
      | none => False)
    | _ => False)
  | .field t x f => (match und P t with
    | .struct fields => (match fields[f]? with
      | some fd => asAgg (ρ x) fun cs => partH P fd.type cs fd.offset fun v => if there P fd.type then K v h else False
      | none => False)
    | _ => False)
  | .indexAddr t x i => (match und P t with
    | .slice elem => asSlice (ρ x) fun a len _ => asI (ρ i) fun i => 0 ≤ i ∧ i < len ∧ asPtr (.pointer a) fun a => if there P elem then K (.pointer (some (a.add (i.toNat * siz P elem)))) h else False
    | .array len elem => asPtr (ρ x) fun a => asI (ρ i) fun i => 0 ≤ i ∧ i < len ∧ (if there P elem then K (.pointer (some (a.add (i.toNat * siz P elem)))) h else False)
    | _ => False)
  | .index t x i => (match und P t with
    | .string => asStr (ρ x) fun s => asI (ρ i) fun i => 0 ≤ i ∧ i < s.size ∧ K (.int .u8 (byteAt s i.toNat)) h
    | .array len elem => asAgg (ρ x) fun cs => asI (ρ i) fun i => 0 ≤ i ∧ i < len ∧ partH P elem cs (i.toNat * siz P elem) fun v => if there P elem then K v h else False
    | _ => False)
  | .lookup t x i ok => lookH P t (ρ x) (ρ i) ok h K
  | .mapUpdate t m k x => mupdH P t (ρ m) (ρ k) (ρ x) h fun h' => K undefV h'
  | .extract x i => asTup (ρ x) fun vs => elemH vs i fun v => K v h
  | .call { callee := .builtin b, args, argTypes } => vbuiltin P b argTypes o.type (args.toList.map ρ) ρ o h K
  | .call { callee := .value f, args, .. } => (match extO P f with
    | true => extV P (ρ f) (mapV ρ args) h K
    | false => callV P (ρ f) (mapV ρ args) h K)
  | _ => opH P ρ o h K
end Go.Proofs.Ytgladmaagpcffaa
