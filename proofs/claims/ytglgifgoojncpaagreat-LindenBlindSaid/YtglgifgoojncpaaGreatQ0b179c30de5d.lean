/- Part 1 of what the proofs of this seat rest on: see the last text of the claim. -/
import Derived.RangeFuncRecord
import Derived.RangeFuncIn
import Derived.OrdersIn
import Derived.KernelRfl
set_option linter.unusedSimpArgs false
set_option linter.unusedVariables false
set_option linter.ambiguousOpen false
set_option maxRecDepth 20000
namespace Go.Proofs.YtglgifgoojncpaaGreat
section
abbrev Heap := Array Obj
abbrev Env := Nat → Value
def cellAt (h : Heap) (a : Addr) : Option Value :=
  match h[a.block]? with
  | some (.cells c _ _) => if a.spot.isSome then none else c[a.off]?
  | _ => none
def shapeAt (h : Heap) (r : Nat) : Option (TypeId × Nat) :=
  match h[r]? with
  | some (.cells c elem _) => some (elem, c.size)
  | _ => none
def frozenAt (h : Heap) (a : Addr) : Bool :=
  match h[a.block]? with
  | some (.cells _ _ (lo, hi)) => lo ≤ a.off && a.off < hi
  | _ => false
def freezeAt (h : Heap) (a : Addr) (n : Nat) : Heap :=
  if n = 0 then h else
  h.modify a.block fun
      | .cells c elem (lo, hi) => .cells c elem (if lo == hi then (a.off, a.off + n) else (min lo a.off, max hi (a.off + n)))
      | o => o
def setO (a : Addr) (v : Value) : Obj → Obj
  | .cells c elem frozen => .cells (if a.spot.isSome then c else c.setIfInBounds a.off v) elem frozen
  | o => o
def setC (h : Heap) (a : Addr) (v : Value) : Heap := h.modify a.block (setO a v)
def Kd (h h' : Heap) : Prop := h.size ≤ h'.size ∧ ∀ D : Nat, h[D]? = some (.deferred (some [])) → h'[D]? = some (.deferred (some []))
def oneC (v : Value) (X : Prop) : Prop := match v with | .agg _ | .tuple _ => False | _ => X
def hp {α : Type} (P : Program) : Sem α → (α → Heap → Prop) → Heap → Prop
  | .pure a, K, h => K a h
  | .load _ a k, K, h => match cellAt h a with | some v => hp P (k v) K h | none => False
  | .store _ a v k, K, h => oneC v ((∃ u, cellAt h a = some u) ∧ frozenAt h a = false ∧ hp P k K (setC h a v))
  | .new o k, K, h => hp P (k h.size) K (h.push o)
  | .shape r k, K, h => hp P (k (shapeAt h r)) K h
  | .freeze a n k, K, h => hp P k K (freezeAt h a n)
  | .frozen a k, K, h => hp P (k (frozenAt h a)) K h
  | .getObj r k, K, h => match h[r]? with
    | some (.cells ..) => False
    | some o => hp P (k o) K h
    | none => False
  | .setObj r o k, K, h => match h[r]? with
    | some (.map ..) | some (.mapIter ..) | some (.stringIter ..) => hp P k K (h.setIfInBounds r o)
    | _ => False
  | .choose q k, K, h => ∀ t, hp P (k (if q.forced then 0 else q.cut t)) K h
  | .sys .., _, _ => False
  | .program k, K, h => hp P (k P) K h
  | .mark _ k, K, h => hp P k K h
  | .halt _, _, _ => False
def Kw (w w' : World) : Prop := Kd w.heap w'.heap ∧ w'.os = w.os ∧ w'.output = w.output
def onH (w0 : World) (K : Value → Heap → Prop) : Ending → World → Prop
  | .returned v, w => K v w.heap ∧ Kw w0 w
  | _, _ => False
def CallsH (P : Program) (f : FuncId) (args : Array Value) (h : Heap) (K : Value → Heap → Prop) : Prop :=
  ∀ w : World, w.heap = h → CallsIn Fence.wide 0 P f args w (onH w K)
def Enters (P : Program) (f : FuncId) : Prop := ∀ args (w : World), (callFunc f args).run P w = .ok (.enter f args) w
def CallH (P : Program) (f : FuncId) (args : Array Value) (h : Heap) (K : Value → Heap → Prop) : Prop :=
  Enters P f ∧ CallsH P f args h K
def YieldH (P : Program) (l : Nat) (args : Array Value) (h : Heap) (K : Value → Heap → Prop) : Prop :=
  ∀ w : World, w.heap = h → ∃ fn tmps assign body, (Instr.yield l args).run P w = .ok (.round l fn tmps assign body) w ∧
    RoundIn Fence.wide 0 P l fn tmps assign body w (onH w K)
def ExtH (P : Program) (f : FuncId) (args : Array Value) (h : Heap) (K : Value → Heap → Prop) : Prop :=
  hp P (callFunc f args) (fun nx h' => match nx with | .value v => K v h' | _ => False) h
def callV (P : Program) (v : Value) (args : Array Value) (h : Heap) (K : Value → Heap → Prop) : Prop :=
  match v with
  | .func (.func f) first captured => CallH P f (first ++ args ++ captured) h K
  | .func (.yield l) first _ => YieldH P l (first ++ args) h K
  | _ => False
def extV (P : Program) (v : Value) (args : Array Value) (h : Heap) (K : Value → Heap → Prop) : Prop :=
  match v with
  | .func (.func f) first captured => ExtH P f (first ++ args ++ captured) h K
  | _ => False
def extO (P : Program) (f : Operand) : Bool :=
  match f with
  | .func g => (match P.funcs[g]? with | some fn => fn.body.isNone | none => false)
  | _ => false
def asPtr (v : Value) (K : Addr → Prop) : Prop := match v with | .pointer (some a) => K a | _ => False
def asPtrO (v : Value) (K : Option Addr → Prop) : Prop := match v with | .pointer a => K a | _ => False
def asInt (k : IntKind) (v : Value) (K : Int → Prop) : Prop := match v with | .int k' n => if k' = k then K n else False | _ => False
def asI (v : Value) (K : Int → Prop) : Prop := match v with | .int _ n => K n | _ => False
def asBool (v : Value) (K : Bool → Prop) : Prop := match v with | .bool b => K b | _ => False
def asStr (v : Value) (K : ByteArray → Prop) : Prop := match v with | .string s => K s | _ => False
def asSlice (v : Value) (K : Option Addr → Nat → Nat → Prop) : Prop := match v with | .slice a l c => K a l c | _ => False
def asAgg (v : Value) (K : Array Value → Prop) : Prop := match v with | .agg cs => K cs | _ => False
def asTup (v : Value) (K : Array Value → Prop) : Prop := match v with | .tuple cs => K cs | _ => False
def asMap (v : Value) (K : Option Nat → Prop) : Prop := match v with | .map r => K r | _ => False
def asFnNil (v : Value) (K : Bool → Prop) : Prop := match v with | .nilFunc => K true | .func .. => K false | _ => False
def nilC (v : Value) (X : Prop) : Prop := match v with | .pointer none | .nilIface | .nilFunc => False | .func (.method _) _ _ => False | _ => X
def ifB (b : Bool) (X Y : Prop) : Prop := match b with | true => X | false => Y
def ldH (h : Heap) (a : Addr) (K : Value → Prop) : Prop := match cellAt h a with | some v => K v | none => False
def ldN (h : Heap) (a : Addr) (i : Nat) : Nat → List Value → (List Value → Prop) → Prop
  | 0, acc, K => K acc.reverse
  | n + 1, acc, K => ldH h (a.add i) fun v => ldN h a (i + 1) n (v :: acc) K
def stH (h : Heap) (a : Addr) (v : Value) (K : Heap → Prop) : Prop := oneC v ((∃ u, cellAt h a = some u) ∧ frozenAt h a = false ∧ K (setC h a v))
def stN (h : Heap) (a : Addr) (i : Nat) : List Value → (Heap → Prop) → Prop
  | [], K => K h
  | v :: vs, K => stH h (a.add i) v fun h' => stN h' a (i + 1) vs K
def und (P : Program) (t : TypeId) : TypeDesc := (P.underlying t).getD .invalid
def siz (P : Program) (t : TypeId) : Nat := match P.info? t with | some i => i.size | none => 0
def byt (P : Program) (t : TypeId) : Nat := match P.info? t with | some i => i.bytes | none => 0
def zer (P : Program) (t : TypeId) : Option Value := (P.info? t).bind (·.zero)
def there (P : Program) (t : TypeId) : Bool := (P.info? t).isSome && (P.underlying t).isSome
def aggT (P : Program) (t : TypeId) : Bool := match und P t with | .struct _ | .array _ _ => true | _ => false
def zcells (P : Program) (t : TypeId) : List Value := match zer P t with | some (.agg cs) => cs.toList | some v => [v] | none => []
def elemH (vs : Array Value) (i : Nat) (K : Value → Prop) : Prop := match vs[i]? with | some v => K v | none => False
def sizeH (cs : Array Value) (n : Nat) (X : Prop) : Prop := match Nat.beq cs.size n with | true => X | false => False
def elemsH (cs : Array Value) : Nat → Nat → List Value → (List Value → Prop) → Prop
  | 0, _, acc, F => F acc.reverse
  | n + 1, i, acc, F => elemH cs i fun v => elemsH cs n (i + 1) (v :: acc) F
def aggF (n : Nat) (v : Value) (K : Value → Prop) : Prop := match Nat.ble n 64 with
  | true => asAgg v fun cs => sizeH cs n (elemsH cs n 0 [] fun us => K (.agg us.toArray))
  | false => K v
def typedV (P : Program) (t : TypeId) (v : Value) (K : Value → Prop) : Prop :=
  match und P t with
  | .bool => asBool v fun b => K (.bool b)
  | .int k => asInt k v fun n => K (.int k n)
  | .string => asStr v fun s => K (.string s)
  | .slice _ => asSlice v fun a l c => K (.slice a l c)
  | .pointer _ => asPtrO v fun a => K (.pointer a)
  | .map _ _ => asMap v fun r => K (.map r)
  | .struct _ => aggF (siz P t) v K
  | .array _ _ => aggF (siz P t) v K
  | _ => K v
def aggC (n : Nat) (v : Value) (K : List Value → Prop) : Prop := match Nat.ble n 64 with
  | true => asAgg v fun cs => sizeH cs n (elemsH cs n 0 [] K)
  | false => asAgg v fun cs => K cs.toList
def cellsT (P : Program) (t : TypeId) (v : Value) (K : List Value → Prop) : Prop :=
  if aggT P t then aggC (siz P t) v K else oneC v (K [v])
def mapV (f : Operand → Value) (a : Array Operand) : Array Value := (a.toList.map f).toArray
def putCells (cs : List Value) (off : Nat) : List Value → List Value
  | [] => cs
  | v :: vs => putCells (cs.set off v) (off + 1) vs
def fillH (P : Program) (place : Nat → Option (Nat × TypeId)) : List Value → List (Nat × Value) → (List Value → Prop) → Prop
  | cells, [], K => K cells
  | cells, (i, v) :: rest, K =>
    match place i with
    | none => False
    | some (off, t) => cellsT P t v fun cs =>
      if cs.length = siz P t ∧ off + siz P t ≤ cells.length then fillH P place (putCells cells off cs) rest K else False
def partV (P : Program) (t : TypeId) (cs : Array Value) (off : Nat) : Option Value :=
  if aggT P t then some (.agg (cs.extract off (off + siz P t))) else cs[off]?
def partH (P : Program) (t : TypeId) (cs : Array Value) (off : Nat) (K : Value → Prop) : Prop := match partV P t cs off with | some v => K v | none => False
def byteAt (s : ByteArray) (i : Nat) : Int := ((s[i]?).map (fun b => (b.toNat : Int))).getD 0
def partE (P : Program) (t : TypeId) (cs : Array Value) (off : Nat) : Option Value := if there P t then partV P t cs off else none
def andO : Option Bool → Option Bool → Option Bool
  | some b, some r => some (b && r)
  | _, _ => none
def eqv (P : Program) : (d : Nat) → TypeId → Value → Value → Option Bool
  | 0, _, _, _ => none
  | d + 1, t, x, y =>
    match und P t, x, y with
    | .bool, .bool a, .bool b => some (a == b)
    | .int _, .int k a, .int k' b => if k = k' then some (a == b) else none
    | .string, .string a, .string b => some (a == b)
    | .struct fields, .agg xs, .agg ys =>
      if P.stoodInHeld t then none else
      fields.toList.foldr (fun f acc =>
        if f.name = "_" then none else
        match partE P f.type xs f.offset, partE P f.type ys f.offset with
        | some x, some y => andO (eqv P d f.type x y) acc
        | _, _ => none) (some true)
    | .array len elem, .agg xs, .agg ys =>
      if there P elem then
      (List.range' 0 len).foldr (fun i acc =>
        match partE P elem xs (i * siz P elem), partE P elem ys (i * siz P elem) with
        | some x, some y => andO (eqv P d elem x y) acc
        | _, _ => none) (some true) else none
    | _, _, _ => none
def eqvH (P : Program) (t : TypeId) (x y : Value) (K : Bool → Prop) : Prop :=
  if P.eqGuardType P.depth t then False else
  asAgg x fun _ =>
  match eqv P 10000 t x y with | some b => K b | none => False
def undefV : Value := .tuple #[]
def nxt (P : Program) (K : Value → Heap → Prop) : Next → Heap → Prop
  | .value v, h => K v h
  | .skip, h => K undefV h
  | .enter f args, h => CallsH P f args h K
  | _, _ => False
def opH (P : Program) (ρ : Operand → Value) (o : Oper) (h : Heap) (K : Value → Heap → Prop) : Prop := hp P (execOp ρ o) (nxt P K) h
def cvtH (P : Program) (src dst : TypeId) (v : Value) (h : Heap) (K : Value → Heap → Prop) : Prop := hp P (convert src dst v) K h
def ptrH (P : Program) (op : BinOp) (t : TypeId) (a b : Option Addr) (h : Heap) (K : Value → Heap → Prop) : Prop := hp P (binOp op t (.pointer a) (.pointer b)) K h
def usdH (P : Program) (argTypes : Array TypeId) (t : TypeId) (args : Array Value) (h : Heap) (K : Value → Heap → Prop) : Prop := hp P (Builtin.unsafeSliceData_ argTypes t args) K h
def clrH (P : Program) (argTypes : Array TypeId) (t : TypeId) (args : Array Value) (h : Heap) (K : Value → Heap → Prop) : Prop := hp P (Builtin.clear_ argTypes t args) K h
def ustH (P : Program) (argTypes : Array TypeId) (t : TypeId) (args : Array Value) (h : Heap) (K : Value → Heap → Prop) : Prop := hp P (Builtin.unsafeString_ argTypes t args) K h
def nilP : Operand → Bool | .const (.pointer none) => true | _ => false
def nilS : Operand → Bool | .const (.slice none _ _) => true | _ => false
def nilM : Operand → Bool | .const (.map none) => true | _ => false
def nilF : Operand → Bool | .const .nilFunc => true | _ => false
def intOp (k : IntKind) (op : BinOp) (a b : Int) (K : Value → Prop) : Prop :=
  match op with
  | .add => K (.int k (k.wrap (a + b)))
  | .sub => K (.int k (k.wrap (a - b)))
  | .mul => K (.int k (k.wrap (a * b)))
  | .quo => b ≠ 0 ∧ K (.int k (k.wrap (a.tdiv b)))
  | .rem => b ≠ 0 ∧ K (.int k (a.tmod b))
  | .and => K (.int k (k.wrap ((BitVec.ofInt k.bits a) &&& (BitVec.ofInt k.bits b)).toNat))
  | .or => K (.int k (k.wrap ((BitVec.ofInt k.bits a) ||| (BitVec.ofInt k.bits b)).toNat))
  | .xor => K (.int k (k.wrap ((BitVec.ofInt k.bits a) ^^^ (BitVec.ofInt k.bits b)).toNat))
  | .andNot => K (.int k (k.wrap ((BitVec.ofInt k.bits a) &&& ~~~(BitVec.ofInt k.bits b)).toNat))
  | .eql => K (.bool (a == b))
  | .neq => K (.bool (a != b))
  | .lss => K (.bool (decide (a < b)))
  | .leq => K (.bool (decide (a ≤ b)))
  | .gtr => K (.bool (decide (a > b)))
  | .geq => K (.bool (decide (a ≥ b)))
  | _ => False
def shOp (k : IntKind) (op : BinOp) (a b : Int) (K : Value → Prop) : Prop :=
  match op with
  | .shl => 0 ≤ b ∧ K (.int k (k.wrap (a * 2 ^ (min b.toNat k.bits))))
  | .shr => 0 ≤ b ∧ K (.int k (a.fdiv (2 ^ (min b.toNat k.bits))))
  | _ => False
def intKindOf (P : Program) (t : TypeId) : Option IntKind := match und P t with | .int k => some k | _ => none
def vbin (P : Program) (op : BinOp) (xt yt : TypeId) (x y : Operand) (ρ : Operand → Value) (o : Oper) (h : Heap) (K : Value → Heap → Prop) : Prop :=
  match und P xt with
  | .int k => (match op with
    | .shl | .shr => (match intKindOf P yt with
      | some k' => asInt k (ρ x) fun a => asInt k' (ρ y) fun b => shOp k op a b fun v => K v h
      | none => False)
    | _ => asInt k (ρ x) fun a => asInt k (ρ y) fun b => intOp k op a b fun v => K v h)
  | .bool => (match op with
    | .eql => asBool (ρ x) fun a => asBool (ρ y) fun b => K (.bool (a == b)) h
    | .neq => asBool (ρ x) fun a => asBool (ρ y) fun b => K (.bool (!(a == b))) h
    | _ => False)
  | .string => (match op with
    | .eql => asStr (ρ x) fun a => asStr (ρ y) fun b => K (.bool (a.toList == b.toList)) h
    | .neq => asStr (ρ x) fun a => asStr (ρ y) fun b => K (.bool (!(a.toList == b.toList))) h
    | .add => asStr (ρ x) fun a => asStr (ρ y) fun b => ((a.size + b.size : Nat) : Int) ≤ 9223372036854775807 ∧ K (.string (a ++ b)) h
    | _ => opH P ρ o h K)
  | .pointer _ => (match op, nilP y with
    | .eql, true => asPtrO (ρ x) fun a => K (.bool a.isNone) h
    | .neq, true => asPtrO (ρ x) fun a => K (.bool (!a.isNone)) h
    | .eql, false => asPtrO (ρ x) fun a => asPtrO (ρ y) fun b => ptrH P .eql xt a b h K
    | .neq, false => asPtrO (ρ x) fun a => asPtrO (ρ y) fun b => ptrH P .neq xt a b h K
    | _, _ => opH P ρ o h K)
  | .slice _ => (match op, nilS y with
    | .eql, true => asSlice (ρ x) fun a _ _ => K (.bool a.isNone) h
    | .neq, true => asSlice (ρ x) fun a _ _ => K (.bool (!a.isNone)) h
    | _, _ => opH P ρ o h K)
  | .map _ _ => (match op, nilM y with
    | .eql, true => asMap (ρ x) fun a => K (.bool a.isNone) h
    | .neq, true => asMap (ρ x) fun a => K (.bool (!a.isNone)) h
    | _, _ => opH P ρ o h K)
  | .func _ _ _ => (match op, nilF y with
    | .eql, true => asFnNil (ρ x) fun b => K (.bool b) h
    | .neq, true => asFnNil (ρ x) fun b => K (.bool (!b)) h
    | _, _ => opH P ρ o h K)
  | .struct _ | .array _ _ => (match op with
    | .eql => eqvH P xt (ρ x) (ρ y) fun b => K (.bool b) h
    | .neq => eqvH P xt (ρ x) (ρ y) fun b => K (.bool (!b)) h
    | _ => False)
  | _ => opH P ρ o h K
def boundH (k : Option IntKind) (v : Option Value) (dflt most : Nat) (K : Nat → Prop) : Prop :=
  match v with
  | none => K dflt
  | some v => match k with
    | none => asI v fun i => 0 ≤ i ∧ i ≤ most ∧ K i.toNat
    | some k => asInt k v fun i => 0 ≤ i ∧ i ≤ most ∧ K i.toNat
def subA (a : Option Addr) (l m n : Nat) : Option Addr := if m = l then a else a.map (·.add (l * n))
def subA1 (a : Addr) (l m n : Nat) : Addr := if m = l then a else a.add (l * n)
def vslice (P : Program) (t : TypeId) (x : Value) (lo hi mx : Option Value) (K : Value → Prop) : Prop :=
  match und P t with
  | .string => if mx.isSome then False else asStr x fun s =>
      boundH none hi s.size s.size fun h => boundH none lo 0 h fun l => K (.string (s.extract l h))
  | .slice e => if there P e then asSlice x fun a len cap =>
      boundH none mx cap cap fun m => boundH none hi len m fun h => boundH none lo 0 h fun l =>
        K (.slice (subA a l m (siz P e)) (h - l) (m - l)) else False
  | .array n e => if there P e then asPtr x fun a =>
      boundH none mx n n fun m => boundH none hi n m fun h => boundH none lo 0 h fun l =>
        K (.slice (some (subA1 a l m (siz P e))) (h - l) (m - l)) else False
  | _ => False
def mkSlH (P : Program) (elem : TypeId) (l c : Int) (h : Heap) (K : Value → Heap → Prop) : Prop :=
  0 ≤ l ∧ l ≤ c ∧ c ≤ 9223372036854775807 ∧ byt P elem * c ≤ 2 ^ 48 ∧
    K (.slice (some ⟨h.size, 0, none⟩) l.toNat c.toNat) (h.push (.cells ((List.replicate c.toNat (zcells P elem)).flatten.toArray) elem))
def appH (P : Program) (argTypes : Array TypeId) (t : TypeId) (args : Array Value) (h : Heap) (K : Value → Heap → Prop) : Prop :=
  hp P (Builtin.append_ argTypes t args) K h
def copyH (P : Program) (argTypes : Array TypeId) (t : TypeId) (args : Array Value) (h : Heap) (K : Value → Heap → Prop) : Prop :=
  hp P (Builtin.copy_ argTypes t args) K h
def mapAt (h : Heap) (r : Option Nat) (K : Array MapEntry → Nat → Prop) : Prop :=
  match r with
  | none => K #[] 0
  | some r => match h[r]? with | some (.map es c) => K es c | _ => False
def lookH (P : Program) (t : TypeId) (x i : Value) (ok : Bool) (h : Heap) (K : Value → Heap → Prop) : Prop := hp P (Instr.lookup t x i ok) K h
def mupdH (P : Program) (t : TypeId) (x i v : Value) (h : Heap) (K : Heap → Prop) : Prop := hp P (Instr.mapUpdate t x i v) (fun _ => K) h
def mdelH (P : Program) (argTypes : Array TypeId) (t : TypeId) (args : Array Value) (h : Heap) (K : Value → Heap → Prop) : Prop :=
  hp P (Builtin.delete_ argTypes t args) K h
def minmax (f : Int → Int → Int) (P : Program) (t : TypeId) : List Value → (Int → Prop) → Prop
  | [], _ => False
  | [x], K => (match intKindOf P t with | some k => asInt k x K | none => False)
  | x :: xs, K => (match intKindOf P t with | some k => asInt k x fun a => go f k a xs K | none => False)
where
  go (f : Int → Int → Int) (k : IntKind) (a : Int) : List Value → (Int → Prop) → Prop
    | [], K => K a
    | y :: ys, K => asInt k y fun b => go f k (f a b) ys K
def max2I (x y : Int) : Int := if y > x then y else x
def min2I (x y : Int) : Int := if y < x then y else x
def vbuiltin (P : Program) (b : Builtin) (argTypes : Array TypeId) (t : TypeId) (args : List Value) (ρ : Operand → Value) (o : Oper) (h : Heap) (K : Value → Heap → Prop) : Prop :=
  match b, args with
  | .len, [x] => (match argTypes[0]? with
    | some t0 => (match und P t0 with
      | .slice _ => asSlice x fun _ n _ => K (.int .i64 n) h
      | .string => asStr x fun s => K (.int .i64 s.size) h
      | .map _ _ => asMap x fun r => mapAt h r fun es _ => K (.int .i64 es.size) h
      | .array n _ => K (.int .i64 n) h
      | _ => False)
    | none => False)
  | .cap, [x] => (match argTypes[0]? with
    | some t0 => (match und P t0 with
      | .slice _ => asSlice x fun _ _ n => K (.int .i64 n) h
      | _ => False)
    | none => False)
  | .append, args => appH P argTypes t args.toArray h K
  | .copy, args => copyH P argTypes t args.toArray h K
  | .delete, args => mdelH P argTypes t args.toArray h K
  | .unsafeSliceData, args => usdH P argTypes t args.toArray h K
  | .unsafeString, args => ustH P argTypes t args.toArray h K
  | .clear, args => clrH P argTypes t args.toArray h K
  | .max, args => (match intKindOf P t with | some k => minmax max2I P t args fun n => K (.int k n) h | none => opH P ρ o h K)
  | .min, args => (match intKindOf P t with | some k => minmax min2I P t args fun n => K (.int k n) h | none => opH P ρ o h K)
  | _, _ => opH P ρ o h K
def vop (P : Program) (ρ : Operand → Value) (o : Oper) (h : Heap) (K : Value → Heap → Prop) : Prop :=
  match o.op with
  | .move x | .assign x => K (ρ x) h
  | .pick c a b => asBool (ρ c) fun c => ifB c (K (ρ a) h) (K (ρ b) h)
  | .alloc t => (match zer P t with
    | some z => K (.pointer (some ⟨h.size, 0, none⟩)) (h.push (.cells z.cells t))
    | none => False)
  | .box t x => cellsT P t (ρ x) fun cs => K (.pointer (some ⟨h.size, 0, none⟩)) (h.push (.cells cs.toArray t))
  | .build t parts => if (zer P t).isSome then (match und P t with
    | .struct fields => if fields.all (fun f => there P f.type) = false then False else fillH P (fun i => (fields[i]?).map fun f => (f.offset, f.type)) (zcells P t) (parts.toList.map fun p => (p.1, ρ p.2)) fun cs => K (.agg cs.toArray) h
    | .array _ elem => if there P elem = false then False else fillH P (fun i => some (i * siz P elem, elem)) (zcells P t) (parts.toList.map fun p => (p.1, ρ p.2)) fun cs => K (.agg cs.toArray) h
    | _ => False) else False
  | .buildSlice t len parts => (match und P t with
    | .slice elem => if there P elem ∧ len * siz P elem ≤ 16777216 ∧ (zer P elem).isSome ∧ (zcells P elem).length = siz P elem ∧ 0 < siz P elem then
        fillH P (fun i => some (i * siz P elem, elem)) (List.replicate len (zcells P elem)).flatten (parts.toList.map fun p => (p.1, ρ p.2))
          fun cs => K (.slice (some ⟨h.size, 0, none⟩) len len) (h.push (.cells cs.toArray elem)) else False
    | _ => False)
  | .load t x => asPtr (ρ x) fun a => if there P t then (if aggT P t then ldN h a 0 (siz P t) [] (fun cs => K (.agg cs.toArray) h) else ldH h a fun v => K v h) else False
  | .store t x y => asPtr (ρ x) fun a => cellsT P t (ρ y) fun cs => if there P t ∧ cs.length = siz P t then stN h a 0 cs fun h' => K undefV h' else False
  | .nilCheck x => nilC (ρ x) (K (ρ x) h)
  | .binOp op xt x y yt => vbin P op xt yt x y ρ o h K
  | .unOp op xt x => (match op, und P xt with
    | .not, .bool => asBool (ρ x) fun b => K (.bool (!b)) h
    | .neg, .int k => asInt k (ρ x) fun n => K (.int k (k.wrap (0 - n))) h
    | _, _ => opH P ρ o h K)
  | .convert src dst x => (match und P src, und P dst with
    | .int ks, .int k => asInt ks (ρ x) fun n => K (.int k (k.wrap n)) h
    | .string, .string => asStr (ρ x) fun s => K (.string s) h
    | _, _ => cvtH P src dst (ρ x) h K)
  | .makeInterface t x => (match und P t with | .interface _ => False | .invalid => False | _ => K (.iface t (ρ x)) h)
  | .makeFunc fn first captured => K (.func fn (mapV ρ first) (mapV ρ captured)) h
  | .makeMap _ none => K (.map (some h.size)) (h.push (.map #[] 0))
  | .makeSlice t l c => (match und P t with
    | .slice elem => asI (ρ l) fun l => asI (ρ c) fun c => if there P elem ∧ (zer P elem).isSome ∧ (zcells P elem).length = siz P elem ∧ 0 < siz P elem then mkSlH P elem l c h K else False
    | _ => False)
  | .slice t x lo hi mx => if mx.isSome && hi.isNone then False else vslice P t (ρ x) (lo.map ρ) (hi.map ρ) (mx.map ρ) fun v => K v h
  | .fieldAddr s x f => (match und P s with
    | .struct fields => (match fields[f]? with
      | some fd => if there P fd.type ∧ siz P fd.type ≠ 0 then asPtr (ρ x) fun a => K (.pointer (some (a.add fd.offset))) h else False
      | none => False)
    | _ => False)
  | .field t x f => (match und P t with
    | .struct fields => (match fields[f]? with
      | some fd => asAgg (ρ x) fun cs => partH P fd.type cs fd.offset fun v => if there P fd.type then K v h else False
      | none => False)
    | _ => False)
  | .indexAddr t x i => (match und P t with
    | .slice elem => asSlice (ρ x) fun a len _ => asI (ρ i) fun i => 0 ≤ i ∧ i < len ∧ asPtr (.pointer a) fun a => if there P elem then K (.pointer (some (a.add (i.toNat * siz P elem)))) h else False
    | .array len elem => asPtr (ρ x) fun a => asI (ρ i) fun i => 0 ≤ i ∧ i < len ∧ (if there P elem then K (.pointer (some (a.add (i.toNat * siz P elem)))) h else False)
    | _ => False)
  | .index t x i => (match und P t with
    | .string => asStr (ρ x) fun s => asI (ρ i) fun i => 0 ≤ i ∧ i < s.size ∧ K (.int .u8 (byteAt s i.toNat)) h
    | .array len elem => asAgg (ρ x) fun cs => asI (ρ i) fun i => 0 ≤ i ∧ i < len ∧ partH P elem cs (i.toNat * siz P elem) fun v => if there P elem then K v h else False
    | _ => False)
  | .lookup t x i ok => lookH P t (ρ x) (ρ i) ok h K
  | .mapUpdate t m k x => mupdH P t (ρ m) (ρ k) (ρ x) h fun h' => K undefV h'
  | .extract x i => asTup (ρ x) fun vs => elemH vs i fun v => K v h
  | .call { callee := .builtin b, args, argTypes } => vbuiltin P b argTypes o.type (args.toList.map ρ) ρ o h K
  | .call { callee := .value f, args, .. } => (match extO P f with
    | true => extV P (ρ f) (mapV ρ args) h K
    | false => callV P (ρ f) (mapV ρ args) h K)
  | _ => opH P ρ o h K
end
section
theorem Kd.refl (h : Heap) : Kd h h := ⟨Nat.le_refl _, fun _ x => x⟩
theorem Kd.trans {h h' h'' : Heap} (a : Kd h h') (b : Kd h' h'') : Kd h h'' := ⟨Nat.le_trans a.1 b.1, fun D x => b.2 D (a.2 D x)⟩
theorem getElem?_setC (h : Heap) (a : Addr) (v : Value) (b : Nat) : (setC h a v)[b]? =
    if a.block = b then (h[b]?).map (setO a v) else h[b]? := by
  unfold setC; rw [Array.getElem?_modify]
theorem size_setC (h : Heap) (a : Addr) (v : Value) : (setC h a v).size = h.size := by unfold setC; simp
theorem Kd.setC (h : Heap) (a : Addr) (v : Value) : Kd h (setC h a v) := ⟨by rw [size_setC]; exact Nat.le_refl _, fun D x => by
  rw [getElem?_setC]; split <;> simp [x, setO]⟩
theorem Kd.freezeAt (h : Heap) (a : Addr) (n : Nat) : Kd h (freezeAt h a n) := by
  unfold Proofs.YtglgifgoojncpaaGreat.freezeAt; split
  · exact Kd.refl _
  · refine ⟨by simp, fun D x => ?_⟩
    rw [Array.getElem?_modify]; split <;> simp [x]
theorem Kd.push (h : Heap) (o : Obj) : Kd h (h.push o) := ⟨by simp, fun D x => by
  have : D < h.size := (Array.getElem?_eq_some_iff.1 x).1
  rw [Array.getElem?_push_lt this]; exact x ▸ (Array.getElem?_eq_getElem this).symm⟩
theorem Kd.set {h : Heap} {r : Nat} {o : Obj} (hr : h[r]? ≠ some (.deferred (some []))) : Kd h (h.setIfInBounds r o) := ⟨by simp, fun D x => by
  rw [Array.getElem?_setIfInBounds]; split
  · rename_i e; subst e; exact absurd x hr
  · exact x⟩
section
variable {P : Program} {α β : Type}
theorem hp_bind' (s : Sem α) (f : α → Sem β) (K : β → Heap → Prop) (h : Heap) : hp P (s.bind f) K h = hp P s (fun a => hp P (f a) K) h := by
  induction s generalizing h with
  | pure a => rfl
  | load m a k ih => simp only [Sem.bind, hp, ih]
  | store m a v k ih => simp only [Sem.bind, hp, ih]
  | new o k ih => simp only [Sem.bind, hp, ih]
  | shape r k ih => simp only [Sem.bind, hp, ih]
  | freeze a n k ih => simp only [Sem.bind, hp, ih]
  | frozen a k ih => simp only [Sem.bind, hp, ih]
  | getObj r k ih => simp only [Sem.bind, hp, ih]
  | setObj r o k ih => simp only [Sem.bind, hp, ih]
  | choose q k ih => simp only [Sem.bind, hp, ih]
  | sys c k ih => simp only [Sem.bind, hp]
  | program k ih => simp only [Sem.bind, hp, ih]
  | mark m k ih => simp only [Sem.bind, hp, ih]
  | halt h => simp only [Sem.bind, hp]
theorem hp_bind (s : Sem α) (f : α → Sem β) (K : β → Heap → Prop) (h : Heap) : hp P (s >>= f) K h = hp P s (fun a => hp P (f a) K) h := hp_bind' s f K h
theorem hp_pure (a : α) (K : α → Heap → Prop) (h : Heap) : hp P (pure a) K h = K a h := rfl
theorem oneC_mono {v : Value} {X Y : Prop} (hxy : X → Y) (hx : oneC v X) : oneC v Y := by
  unfold oneC at *; split <;> simp_all
theorem oneC_out {v : Value} {X : Prop} (hx : oneC v X) : X := by unfold oneC at hx; split at hx <;> simp_all
theorem hp_mono {s : Sem α} {K K' : α → Heap → Prop} (hk : ∀ a h, K a h → K' a h) : ∀ {h : Heap}, hp P s K h → hp P s K' h := by
  induction s with
  | pure a => intro h x; exact hk _ _ x
  | load m a k ih => intro h x; simp only [hp] at x ⊢; split at x <;> simp_all
  | store m a v k ih => intro h x; simp only [hp] at x ⊢; exact oneC_mono (fun ⟨a, b, c⟩ => ⟨a, b, ih c⟩) x
  | new o k ih => intro h x; exact ih _ x
  | shape r k ih => intro h x; exact ih _ x
  | freeze a n k ih => intro h x; exact ih x
  | frozen a k ih => intro h x; exact ih _ x
  | getObj r k ih => intro h x; simp only [hp] at x ⊢; split at x <;> simp_all
  | setObj r o k ih => intro h x; simp only [hp] at x ⊢; split at x <;> simp_all
  | choose q k ih => intro h x t; exact ih _ (x t)
  | sys c k ih => intro h x; exact x.elim
  | program k ih => intro h x; exact ih _ x
  | mark m k ih => intro h x; exact ih x
  | halt h => intro h x; exact x.elim
theorem Kw.refl (w : World) : Kw w w := ⟨Kd.refl _, rfl, rfl⟩
theorem Kw.trans {a b c : World} (x : Kw a b) (y : Kw b c) : Kw a c := ⟨x.1.trans y.1, y.2.1.trans x.2.1, y.2.2.trans x.2.2⟩
theorem hp_run (s : Sem α) : ∀ {K : α → Heap → Prop} {h : Heap}, hp P s K h → ∀ w : World, w.heap = h →
    ∃ a w', s.run P w = .ok a w' ∧ K a w'.heap ∧ Kw w w' := by
  induction s with
  | pure a => intro K h x w hw; subst hw; exact ⟨a, w, rfl, x, Kw.refl _⟩
  | load m a k ih =>
    intro K h x w hw; subst hw; simp only [hp] at x
    split at x
    · rename_i v hv
      obtain ⟨b, w', h1, h2⟩ := ih v x w rfl
      refine ⟨b, w', ?_, h2⟩
      have hv' : w.cell? a = some v := hv
      simp only [Sem.run, hv', h1]
    · exact x.elim
  | store m a v k ih =>
    intro K h x w hw; subst hw; simp only [hp] at x
    obtain ⟨⟨u, hu⟩, hf, hk⟩ := oneC_out x
    obtain ⟨b, w', h1, h2, h3⟩ := ih hk (w.setCell a v) rfl
    refine ⟨b, w', ?_, h2, Kw.trans (b := w.setCell a v) ⟨Kd.setC _ _ _, rfl, rfl⟩ h3⟩
    have hu' : w.cell? a = some u := hu
    have hf' : w.frozen? a = false := hf
    have e : (w.setCell a v).heap = Proofs.YtglgifgoojncpaaGreat.setC w.heap a v := rfl
    cases v <;> first | exact x.elim | simp only [Sem.run, hu', hf', h1]; rfl
  | new o k ih =>
    intro K h x w hw; subst hw
    obtain ⟨b, w', h1, h2, h3⟩ := ih _ x { w with heap := w.heap.push o } rfl
    exact ⟨b, w', h1, h2, Kw.trans (b := { w with heap := w.heap.push o }) ⟨Kd.push _ _, rfl, rfl⟩ h3⟩
  | shape r k ih => intro K h x w hw; subst hw; exact ih _ x w rfl
  | freeze a n k ih =>
    intro K h x w hw; subst hw
    have e : (w.freeze a n).heap = freezeAt w.heap a n := by unfold World.freeze freezeAt; split <;> rfl
    obtain ⟨b, w', h1, h2, h3⟩ := ih x (w.freeze a n) e
    exact ⟨b, w', h1, h2, Kw.trans (b := w.freeze a n) ⟨by rw [e]; exact Kd.freezeAt _ _ _, by unfold World.freeze; split <;> rfl, by unfold World.freeze; split <;> rfl⟩ h3⟩
  | frozen a k ih => intro K h x w hw; subst hw; exact ih _ x w rfl
  | getObj r k ih =>
    intro K h x w hw; subst hw; simp only [hp] at x
    split at x
    · exact x.elim
    · rename_i o hne hv
      obtain ⟨b, w', h1, h2⟩ := ih o x w rfl
      refine ⟨b, w', ?_, h2⟩
      simp only [Sem.run, hv]
      cases o <;> first | exact (hne _ _ _ rfl).elim | exact h1
    · exact x.elim
  | setObj r o k ih =>
    intro K h x w hw; subst hw; simp only [hp] at x
    split at x
    all_goals first | exact x.elim | (
      rename_i hv
      obtain ⟨b, w', h1, h2, h3⟩ := ih x { w with heap := w.heap.setIfInBounds r o } rfl
      refine ⟨b, w', ?_, h2, Kw.trans (b := { w with heap := w.heap.setIfInBounds r o }) ⟨Kd.set (by rw [hv]; simp), rfl, rfl⟩ h3⟩
      simp only [Sem.run, hv]; exact h1)
  | choose q k ih =>
    intro K h x w hw; subst hw
    by_cases hq : q.forced = true
    · have x0 := x 0
      simp only [hq, if_true] at x0
      obtain ⟨b, w', h1, h2⟩ := ih _ x0 w rfl
      exact ⟨b, w', by simp only [Sem.run, hq, if_true]; exact h1, h2⟩
    · have x0 := x (w.tape w.drawn q)
      simp only [hq] at x0
      obtain ⟨b, w', h1, h2⟩ := ih _ x0 { w with drawn := w.drawn + 1 } rfl
      exact ⟨b, w', by simp only [Sem.run, hq]; exact h1, h2⟩
  | sys c k ih => intro K h x w hw; exact x.elim
  | program k ih => intro K h x w hw; exact ih _ x w hw
  | mark m k ih => intro K h x w hw; exact ih x w hw
  | halt h => intro K h x w hw; exact x.elim
theorem hp_typeInfo {t : TypeId} {i : TypeInfo} (hi : P.info? t = some i) (K : TypeInfo → Heap → Prop) (h : Heap) : hp P (typeInfo t) K h = K i h := by
  simp only [typeInfo, hp_bind]; simp [program, hp, hi, hp_pure]
theorem there_some {t : TypeId} (h : there P t = true) : ∃ i, P.info? t = some i := by
  unfold there at h; rw [Bool.and_eq_true] at h; exact Option.isSome_iff_exists.1 h.1
theorem there_und {t : TypeId} (h : there P t = true) : P.underlying t = some (und P t) := by
  unfold there at h; rw [Bool.and_eq_true] at h; obtain ⟨d, hd⟩ := Option.isSome_iff_exists.1 h.2; unfold und; rw [hd]; rfl
theorem hp_sizeOf {t : TypeId} (ht : there P t = true) (K : Nat → Heap → Prop) (h : Heap) : hp P (sizeOf t) K h = K (siz P t) h := by
  obtain ⟨i, hi⟩ := there_some ht
  simp only [sizeOf, hp_bind, hp_typeInfo hi, siz, hi]; rfl
theorem und_some {t : TypeId} {d : TypeDesc} (hd : und P t = d) (hn : d ≠ .invalid) : P.underlying t = some d := by
  unfold und at hd; cases hu : P.underlying t with
  | none => rw [hu] at hd; exact absurd hd.symm hn
  | some e => rw [hu] at hd; simp at hd; rw [hd]
theorem hp_underlying {t : TypeId} {d : TypeDesc} (hd : P.underlying t = some d) (K : TypeDesc → Heap → Prop) (h : Heap) : hp P (underlying t) K h = K d h := by
  simp only [underlying, hp_bind]; simp [program, hp, hd, hp_pure]
theorem hp_isAgg {t : TypeId} {d : TypeDesc} (hd : P.underlying t = some d) (K : Bool → Heap → Prop) (h : Heap) : hp P (isAgg t) K h = K (aggT P t) h := by
  have hu : und P t = d := by unfold und; rw [hd]; rfl
  simp only [isAgg, hp_bind, hp_underlying hd, aggT, hu]
  cases d <;> rfl
theorem hp_zeroValue {t : TypeId} {z : Value} (hz : zer P t = some z) (K : Value → Heap → Prop) (h : Heap) : hp P (zeroValue t) K h = K z h := by
  unfold zer at hz
  cases hi : P.info? t with
  | none => rw [hi] at hz; cases hz
  | some i =>
    rw [hi] at hz; simp at hz
    simp only [zeroValue, hp_bind, hp_typeInfo hi, hz]; rfl
end
end
section
section
variable {P : Program} {ρ : Operand → Value} {h : Heap} {K : Value → Heap → Prop}
theorem asPtr_out {v : Value} {F : Addr → Prop} (H : asPtr v F) : ∃ a, v = .pointer (some a) ∧ F a := by unfold asPtr at H; split at H <;> first | exact ⟨_, rfl, H⟩ | exact H.elim
theorem asPtrO_out {v : Value} {F : Option Addr → Prop} (H : asPtrO v F) : ∃ a, v = .pointer a ∧ F a := by unfold asPtrO at H; split at H <;> first | exact ⟨_, rfl, H⟩ | exact H.elim
theorem asInt_out {k : IntKind} {v : Value} {F : Int → Prop} (H : asInt k v F) : ∃ n, v = .int k n ∧ F n := by
  unfold asInt at H; split at H
  · split at H
    · rename_i e; subst e; exact ⟨_, rfl, H⟩
    · exact H.elim
  · exact H.elim
theorem asI_out {v : Value} {F : Int → Prop} (H : asI v F) : ∃ k n, v = .int k n ∧ F n := by unfold asI at H; split at H <;> first | exact ⟨_, _, rfl, H⟩ | exact H.elim
theorem asBool_out {v : Value} {F : Bool → Prop} (H : asBool v F) : ∃ b, v = .bool b ∧ F b := by unfold asBool at H; split at H <;> first | exact ⟨_, rfl, H⟩ | exact H.elim
theorem asStr_out {v : Value} {F : ByteArray → Prop} (H : asStr v F) : ∃ s, v = .string s ∧ F s := by unfold asStr at H; split at H <;> first | exact ⟨_, rfl, H⟩ | exact H.elim
theorem asSlice_out {v : Value} {F : Option Addr → Nat → Nat → Prop} (H : asSlice v F) : ∃ a l c, v = .slice a l c ∧ F a l c := by unfold asSlice at H; split at H <;> first | exact ⟨_, _, _, rfl, H⟩ | exact H.elim
theorem asAgg_out {v : Value} {F : Array Value → Prop} (H : asAgg v F) : ∃ a, v = .agg a ∧ F a := by unfold asAgg at H; split at H <;> first | exact ⟨_, rfl, H⟩ | exact H.elim
theorem asTup_out {v : Value} {F : Array Value → Prop} (H : asTup v F) : ∃ a, v = .tuple a ∧ F a := by unfold asTup at H; split at H <;> first | exact ⟨_, rfl, H⟩ | exact H.elim
theorem asMap_out {v : Value} {F : Option Nat → Prop} (H : asMap v F) : ∃ a, v = .map a ∧ F a := by unfold asMap at H; split at H <;> first | exact ⟨_, rfl, H⟩ | exact H.elim
theorem asFnNil_out {v : Value} {F : Bool → Prop} (H : asFnNil v F) : (v = .nilFunc ∧ F true) ∨ (∃ f a b, v = .func f a b ∧ F false) := by
  unfold asFnNil at H; split at H
  · exact .inl ⟨rfl, H⟩
  · exact .inr ⟨_, _, _, rfl, H⟩
  · exact H.elim
theorem oneC_cells {v : Value} {X : Prop} (H : oneC v X) : v.cells = #[v] ∧ X := by unfold oneC at H; split at H <;> simp_all [Value.cells]
theorem elemsH_out {cs : Array Value} {F : List Value → Prop} : ∀ (n i : Nat) (acc : List Value), elemsH cs n i acc F → F (acc.reverse ++ (cs.toList.drop i).take n) := by
  intro n
  induction n with
  | zero => intro i acc H; simpa using (show F acc.reverse from H)
  | succ n ih =>
    intro i acc H
    unfold elemsH elemH at H
    split at H
    · rename_i v hv
      have := ih _ _ H
      rw [← Array.getElem?_toList] at hv
      obtain ⟨hlt, hv⟩ := List.getElem?_eq_some_iff.1 hv
      rw [List.drop_eq_getElem_cons hlt, hv]
      simpa using this
    · exact H.elim
theorem elemsH_in {cs : Array Value} {F : List Value → Prop} : ∀ (n i : Nat) (acc : List Value), i + n ≤ cs.size → F (acc.reverse ++ (cs.toList.drop i).take n) → elemsH cs n i acc F := by
  intro n
  induction n with
  | zero => intro i acc _ H; show F acc.reverse; simpa using H
  | succ n ih =>
    intro i acc hi H
    have hlt : i < cs.toList.length := by simp; omega
    show elemH cs i fun v => elemsH cs n (i + 1) (v :: acc) F
    unfold elemH
    rw [← Array.getElem?_toList, List.getElem?_eq_getElem hlt]
    refine ih _ _ (by omega) ?_
    rw [List.drop_eq_getElem_cons hlt] at H
    simpa using H
theorem aggC_out {n : Nat} {v : Value} {F : List Value → Prop} (H : aggC n v F) : F v.cells.toList ∧ ∀ F' : List Value → Prop, F' v.cells.toList → aggC n v F' := by
  cases hb : Nat.ble n 64 with
  | true =>
    have e : ∀ F : List Value → Prop, aggC n v F = asAgg v fun cs => sizeH cs n (elemsH cs n 0 [] F) := fun F => by unfold aggC; rw [hb]
    rw [e] at H
    obtain ⟨cs, rfl, H1⟩ := asAgg_out H
    unfold sizeH at H1
    split at H1
    · rename_i hn
      have hn' := Nat.eq_of_beq_eq_true hn
      have h1 := elemsH_out _ _ _ H1
      have e2 : (cs.toList.drop 0).take n = cs.toList := by rw [List.drop_zero, List.take_of_length_le (by simp [hn'])]
      rw [e2] at h1
      refine ⟨h1, fun F' x => ?_⟩
      rw [e]
      show sizeH cs n _
      unfold sizeH
      rw [hn]
      refine elemsH_in n 0 [] (by omega) ?_
      rw [e2]
      exact x
    · exact H1.elim
  | false =>
    have e : ∀ F : List Value → Prop, aggC n v F = asAgg v fun cs => F cs.toList := fun F => by unfold aggC; rw [hb]
    rw [e] at H
    obtain ⟨cs, rfl, H1⟩ := asAgg_out H
    exact ⟨H1, fun F' x => by rw [e]; exact x⟩
theorem cellsT_out {t : TypeId} {v : Value} {F : List Value → Prop} (H : cellsT P t v F) : F v.cells.toList := by
  unfold cellsT at H; split at H
  · exact (aggC_out H).1
  · obtain ⟨e, H⟩ := oneC_cells H; rw [e]; exact H
theorem ifB_out {b : Bool} {X Y : Prop} (H : ifB b X Y) : if b then X else Y := by cases b <;> exact H
theorem ldH_out {a : Addr} {F : Value → Prop} (H : ldH h a F) : ∃ v, cellAt h a = some v ∧ F v := by unfold ldH at H; split at H <;> first | exact ⟨_, ‹_›, H⟩ | exact H.elim
theorem hp_v (s : Sem Value) : hp P (do let x ← s; pure (Next.value x)) (nxt P K) h = hp P s K h := by rw [hp_bind]; rfl
theorem hp_u (s : Sem Unit) : hp P (do s; pure Next.skip) (nxt P K) h = hp P s (fun _ => K undefV) h := by rw [hp_bind]; rfl
theorem hp_loadCellsFrom (a : Addr) (n : Nat) : ∀ (i : Nat) (acc : List Value) (F : Array Value → Heap → Prop), ldN h a i n acc (fun cs => F cs.toArray h) →
    hp P (loadCellsFrom a i n acc.reverse.toArray) F h := by
  induction n with
  | zero => intro i acc F H; exact H
  | succ n ih =>
    intro i acc F H
    obtain ⟨v, hv, H⟩ := ldH_out H
    have := ih (i + 1) (v :: acc) F H
    simp only [loadCellsFrom, hp_bind, load, hp, hv]
    simpa using this
theorem hp_storeCells (a : Addr) (vs : List Value) : ∀ (h : Heap) (i : Nat) (F : Heap → Prop), stN h a i vs F → hp P (storeCells a vs i) (fun _ => F) h := by
  induction vs with
  | nil => intro h i F H; exact H
  | cons v vs ih =>
    intro h i F H
    simp only [storeCells, hp_bind, store, hp]
    exact oneC_mono (fun ⟨h1, h2, h3⟩ => ⟨h1, h2, ih _ _ _ h3⟩) H
theorem hp_loadVar {t : TypeId} {a : Addr} (ht : there P t = true)
    (H : if aggT P t then ldN h a 0 (siz P t) [] (fun cs => K (.agg cs.toArray) h) else ldH h a fun v => K v h) : hp P (loadVar t a) K h := by
  simp only [loadVar, hp_bind, hp_isAgg (there_und ht)]
  split at H
  · simp only [*, if_true, hp_bind, hp_sizeOf ht]
    exact hp_loadCellsFrom a _ 0 [] (fun cs h' => K (.agg cs) h') H
  · rename_i hn
    simp only [hn]
    obtain ⟨v, hv, H⟩ := ldH_out H
    simp only [load, hp, hv]; simpa [load, hp, hv] using H
theorem hp_storeVar {t : TypeId} {a : Addr} {v : Value} {F : Heap → Prop} (ht : there P t = true) (hs : v.cells.toList.length = siz P t)
    (H : stN h a 0 v.cells.toList F) : hp P (storeVar t a v) (fun _ => F) h := by
  simp only [storeVar, hp_bind, hp_sizeOf ht]
  rw [if_neg (by simpa using hs)]
  exact hp_storeCells a _ h 0 F H
theorem hp_part {t : TypeId} {cs : Array Value} {off : Nat} {v : Value} (ht : there P t = true) (hv : partV P t cs off = some v) (F : Value → Heap → Prop) : hp P (part t cs off) F h = F v h := by
  unfold partV at hv
  simp only [part, hp_bind, hp_isAgg (there_und ht)]
  split at hv
  · cases hv; simp only [*, if_true, hp_bind, hp_sizeOf ht]; rfl
  · rename_i hn; simp only [hn]; simp [hv]; rfl
theorem hp_ite {α : Type} {c : Prop} [Decidable c] (a b : Sem α) (F : α → Heap → Prop) (h : Heap) : hp P (if c then a else b) F h = if c then hp P a F h else hp P b F h := by split <;> rfl
theorem hp_program (F : Program → Heap → Prop) (h : Heap) : hp P program F h = F P h := rfl
theorem andO_some {x y : Option Bool} {b : Bool} (H : andO x y = some b) : ∃ p q, x = some p ∧ y = some q ∧ b = (p && q) := by
  unfold andO at H; split at H
  · simp at H; exact ⟨_, _, rfl, rfl, H.symm⟩
  · cases H
theorem hp_partE {t : TypeId} {cs : Array Value} {off : Nat} {v : Value} (hv : partE P t cs off = some v) (F : Value → Heap → Prop) (h : Heap) : hp P (part t cs off) F h = F v h := by
  unfold partE at hv; split at hv
  · exact hp_part ‹_› hv F
  · cases hv
theorem hp_loopEq {ι : Type} (l : List ι) (ok : ι → Option Bool) (g : ι → Option Bool × Unit → Sem (ForInStep (Option Bool × Unit))) (G : Option Bool × Unit → Heap → Prop) (h : Heap) :
    ∀ b, l.foldr (fun i acc => andO (ok i) acc) (some true) = some b →
    (∀ i s c, ok i = some c → ∀ (F : ForInStep (Option Bool × Unit) → Heap → Prop), hp P (g i s) F h = F (if c then .yield (none, ()) else .done (some false, ())) h) →
    hp P (forIn l ((none, ()) : Option Bool × Unit) g) G h = if b then G (none, ()) h else G (some false, ()) h := by
  induction l with
  | nil => intro b H _; simp at H; subst H; simp [hp_pure]
  | cons i l ih =>
    intro b H hf
    simp only [List.foldr_cons] at H
    obtain ⟨p, q, hp1, hq, rfl⟩ := andO_some H
    simp only [List.forIn_cons, hp_bind, hf i _ p hp1]
    cases p
    · simp [hp_pure]
    · simp only [Bool.true_and, if_true]
      exact ih q hq hf
theorem eqv_hp (d : Nat) : ∀ (t : TypeId) (x y : Value) (b : Bool), eqv P d t x y = some b → ∀ (F : Bool → Heap → Prop) (h : Heap), hp P (Op.equalIn d t x y) F h = F b h := by
  induction d with
  | zero => intro t x y b H; simp [eqv] at H
  | succ d ih =>
    intro t x y b H F h
    unfold eqv at H
    split at H
    · rename_i hu; simp only [Op.equalIn, hp_bind, hp_underlying (und_some hu (by simp))]; simp at H; subst H; rfl
    · rename_i hu; simp only [Op.equalIn, hp_bind, hp_underlying (und_some hu (by simp))]
      split at H <;> simp at H
      subst H; simp only [*, if_true]; rfl
    · rename_i hu; simp only [Op.equalIn, hp_bind, hp_underlying (und_some hu (by simp))]; simp at H; subst H; rfl
    · rename_i fields xs ys hu
      simp only [Op.equalIn, hp_bind, hp_underlying (und_some hu (by simp)), hp_program]
      split at H
      · cases H
      · rename_i hst
        rw [if_neg hst]
        simp only [hp_bind, ← Array.forIn_toList]
        refine (hp_loopEq (P := P) fields.toList (fun f => if f.name = "_" then none else match partE P f.type xs f.offset, partE P f.type ys f.offset with | some x, some y => eqv P d f.type x y | _, _ => none) _ _ h b ?_ ?_).trans ?_
        · refine Eq.trans ?_ H
          congr 1
          funext f acc
          by_cases hn : f.name = "_"
          · simp [hn, andO]
          · cases h2 : partE P f.type xs f.offset <;> cases h3 : partE P f.type ys f.offset <;> simp [hn, andO]
        · intro f s c hc F'
          split at hc
          · cases hc
          · rename_i hn
            split at hc
            · rename_i a e h1 h2
              simp only [ne_eq, hn, not_false_eq_true, if_true, hp_bind, hp_partE h1, hp_partE h2, ih _ _ _ _ hc, hp_ite]
              cases c <;> rfl
            · cases hc
        · cases b <;> rfl
    · rename_i len elem xs ys hu
      split at H
      · rename_i hth
        simp only [Op.equalIn, hp_bind, hp_underlying (und_some hu (by simp)), hp_program, hp_sizeOf hth]
        rw [Std.Legacy.Range.forIn_eq_forIn_range']
        refine (hp_loopEq (P := P) _ (fun i => match partE P elem xs (i * siz P elem), partE P elem ys (i * siz P elem) with | some x, some y => eqv P d elem x y | _, _ => none) _ _ h b ?_ ?_).trans ?_
        · refine Eq.trans ?_ H
          have e : (Std.Legacy.Range.size [:len]) = len := by simp [Std.Legacy.Range.size]
          rw [e]
          congr 1
          funext i acc
          cases h2 : partE P elem xs (i * siz P elem) <;> cases h3 : partE P elem ys (i * siz P elem) <;> simp [andO]
        · intro i s c hc F'
          split at hc
          · rename_i a e h1 h2
            simp only [hp_bind, hp_partE h1, hp_partE h2, ih _ _ _ _ hc, hp_ite]
            cases c <;> rfl
          · cases hc
        · cases b <;> rfl
      · cases H
    · cases H
theorem hp_eqv {t : TypeId} {x y : Value} {F : Bool → Prop} (H : eqvH P t x y F) : (∃ b, hp P (Op.equal t x y) = (fun G h => G b h) ∧ F b) ∧ P.eqGuardType P.depth t = false ∧ ∃ xs, x = .agg xs := by
  unfold eqvH at H
  split at H
  · exact H.elim
  · rename_i hg
    obtain ⟨xs, rfl, H⟩ := asAgg_out H
    split at H
    · rename_i b hb
      exact ⟨⟨b, funext fun G => funext fun h => eqv_hp 10000 t _ y b hb G h, H⟩, by simpa using hg, _, rfl⟩
    · exact H.elim
end
end
section
section
variable {P : Program} {ρ : Operand → Value} {h : Heap} {K : Value → Heap → Prop}
theorem putCells_eq (vs : List Value) : ∀ (cs : List Value) (off : Nat),
    (vs.zipIdx).foldl (fun (a : Array Value) (x : Value × Nat) => a.setIfInBounds (off + x.2) x.1) cs.toArray = (putCells cs off vs).toArray := by
  have key : ∀ (vs : List Value) (k : Nat) (cs : List Value) (off : Nat),
      (vs.zipIdx k).foldl (fun (a : Array Value) (x : Value × Nat) => a.setIfInBounds (off + x.2) x.1) cs.toArray = (putCells cs (off + k) vs).toArray := by
    intro vs
    induction vs with
    | nil => intro k cs off; rfl
    | cons v vs ih =>
      intro k cs off
      simp only [List.zipIdx_cons, List.foldl_cons, putCells, List.setIfInBounds_toArray]
      rw [ih (k + 1)]; rfl
  intro cs off; exact key vs 0 cs off
theorem fillH_fill {place : Nat → Option (Nat × TypeId)} (parts : List (Nat × Value)) : ∀ (cells : List Value) (F : List Value → Prop),
    fillH P place cells parts F → ∃ cs : List Value, Instr.fill (fun i => (place i).map fun x => (x.1, siz P x.2)) cells.toArray parts = some cs.toArray ∧ F cs := by
  induction parts with
  | nil => intro cells F H; exact ⟨cells, rfl, H⟩
  | cons p rest ih =>
    obtain ⟨i, v⟩ := p
    intro cells F H
    unfold fillH at H
    split at H
    · exact H.elim
    · rename_i off t hp1
      have H := cellsT_out H
      split at H
      · rename_i hs
        obtain ⟨cs, h1, h2⟩ := ih _ _ H
        refine ⟨cs, ?_, h2⟩
        unfold Instr.fill
        simp only [hp1, Option.map_some]
        have hs1 : v.cells.size = siz P t := by simpa using hs.1
        rw [if_neg (by simp [hs1]; omega)]
        rw [← h1]
        congr 1
        have := putCells_eq v.cells.toList cells off
        rw [← this]
        rw [← Array.foldl_toList]
        simp [Array.toList_zipIdx]
      · exact H.elim
theorem zcells_eq {t : TypeId} {z : Value} (hz : zer P t = some z) : (zcells P t).toArray = z.cells := by
  unfold zcells; rw [hz]; cases z <;> simp [Value.cells]
theorem rep_eq (z : List Value) (n : Nat) (hz : 0 < z.length) :
    (Array.range (n * z.length)).map (fun i => z.toArray[i % z.toArray.size]!) = ((List.replicate n z).flatten).toArray := by
  apply Array.toList_inj.1
  simp only [Array.toList_map, Array.toList_range, List.size_toArray]
  induction n with
  | zero => simp
  | succ n ih =>
    rw [Nat.succ_mul, List.range_add, List.map_append, ih, List.replicate_succ', List.flatten_append]
    congr 1
    simp only [List.map_map, List.flatten_cons, List.flatten_nil, List.append_nil]
    apply List.ext_getElem (by simp)
    intro i h1 h2
    simp at h1
    simp [Nat.mul_add_mod_of_lt, Nat.mod_eq_of_lt h1, h1, Nat.mul_comm n]
theorem zer_some {t : TypeId} (hz : (zer P t).isSome = true) : ∃ z, zer P t = some z := Option.isSome_iff_exists.1 hz
theorem hp_intOp {k : IntKind} {op : BinOp} {a b : Int} (H : intOp k op a b fun v => K v h) (hs : op ≠ .shl ∧ op ≠ .shr) :
    hp P (binOp op 0 (.int k a) (.int k b)) K h := by
  cases op <;> simp only [intOp, binOp, Op.intArith, Op.intDiv, Op.intBits, Op.intCmp, ne_eq, not_true, if_false] at H ⊢ <;> first
    | exact H
    | (rw [if_neg H.1]; exact H.2)
    | exact H.elim
    | (exact absurd rfl hs.1)
    | (exact absurd rfl hs.2)
theorem binOp_int {k : IntKind} {op : BinOp} {a b : Int} (t : TypeId) (hs : op ≠ .shl ∧ op ≠ .shr) : binOp op t (.int k a) (.int k b) = binOp op 0 (.int k a) (.int k b) := by
  cases op <;> first | rfl | exact absurd rfl hs.1 | exact absurd rfl hs.2
end
end
section
section
variable {P : Program} {ρ : Operand → Value} {h : Heap} {K : Value → Heap → Prop}
theorem hp_eqGuard {op : BinOp} {t : TypeId} {x y : Operand} {a b : Value} (F : Unit → Heap → Prop)
    (hs : (op ≠ .eql ∧ op ≠ .neq) ∨ ((∀ xs, a ≠ .agg xs) ∧ a ≠ .nilIface) ∨ (P.eqGuardType P.depth t = false ∧ ∃ xs, a = .agg xs)) : hp P (eqGuard op t x y a b) F h = F () h := by
  unfold eqGuard
  rcases hs with ⟨h1, h2⟩ | ⟨h1, h2⟩ | ⟨h1, xs, rfl⟩
  · cases op <;> first | rfl | exact absurd rfl h1 | exact absurd rfl h2
  · cases op <;> first | rfl | (cases a <;> first | exact absurd rfl h2 | exact absurd rfl (h1 _) | rfl)
  · cases op <;> first | rfl | (cases b <;> first | rfl | (simp [hp_bind, hp_program, h1, hp_pure]))
theorem hp_binOp_eql {t : TypeId} {a b : Value} (ha : ∀ k n, a ≠ .int k n) (ha2 : ∀ s, a ≠ .string s) (ha3 : ∀ k n, a ≠ .float k n) (ha4 : ∀ k n m, a ≠ .complex k n m) (F : Value → Heap → Prop) :
    hp P (binOp .eql t a b) F h = hp P (Op.equal t a b) (fun r h => F (.bool r) h) h := by
  cases a <;> first | exact absurd rfl (ha _ _) | exact absurd rfl (ha2 _) | exact absurd rfl (ha3 _ _) | exact absurd rfl (ha4 _ _ _) | (cases b <;> simp only [binOp, hp_bind] <;> rfl)
theorem hp_binOp_neq {t : TypeId} {a b : Value} (ha : ∀ k n, a ≠ .int k n) (ha2 : ∀ s, a ≠ .string s) (ha3 : ∀ k n, a ≠ .float k n) (ha4 : ∀ k n m, a ≠ .complex k n m) (F : Value → Heap → Prop) :
    hp P (binOp .neq t a b) F h = hp P (Op.equal t a b) (fun r h => F (.bool (!r)) h) h := by
  cases a <;> first | exact absurd rfl (ha _ _) | exact absurd rfl (ha2 _) | exact absurd rfl (ha3 _ _) | exact absurd rfl (ha4 _ _ _) | (cases b <;> simp only [binOp, hp_bind] <;> rfl)
theorem nilP_out {y : Operand} (hy : nilP y = true) (hc : ∀ v, ρ (.const v) = v) : ρ y = .pointer none := by
  unfold nilP at hy; split at hy <;> first | exact hc _ | cases hy
theorem nilS_out {y : Operand} (hy : nilS y = true) (hc : ∀ v, ρ (.const v) = v) : ∃ l c, ρ y = .slice none l c := by
  unfold nilS at hy; split at hy <;> first | exact ⟨_, _, hc _⟩ | cases hy
theorem nilM_out {y : Operand} (hy : nilM y = true) (hc : ∀ v, ρ (.const v) = v) : ρ y = .map none := by
  unfold nilM at hy; split at hy <;> first | exact hc _ | cases hy
theorem nilF_out {y : Operand} (hy : nilF y = true) (hc : ∀ v, ρ (.const v) = v) : ρ y = .nilFunc := by
  unfold nilF at hy; split at hy <;> first | exact hc _ | cases hy
theorem equal_succ (t : TypeId) (x y : Value) : Op.equal t x y = Op.equalIn (9999 + 1) t x y := rfl
theorem eqIn_bool (d : Nat) {t : TypeId} {a b : Bool} (hu : P.underlying t = some .bool) (F : Bool → Heap → Prop) (h : Heap) : hp P (Op.equalIn (d + 1) t (.bool a) (.bool b)) F h = F (a == b) h := by
  simp only [Op.equalIn, hp_bind, hp_underlying hu]; rfl
theorem eqIn_ptr (d : Nat) {t e : TypeId} {a : Option Addr} (hu : P.underlying t = some (.pointer e)) (F : Bool → Heap → Prop) (h : Heap) : hp P (Op.equalIn (d + 1) t (.pointer a) (.pointer none)) F h = F a.isNone h := by
  cases a <;> simp only [Op.equalIn, hp_bind, hp_underlying hu] <;> rfl
theorem eqIn_slice (d : Nat) {t e : TypeId} {a : Option Addr} {l c l' c' : Nat} (hu : P.underlying t = some (.slice e)) (F : Bool → Heap → Prop) (h : Heap) : hp P (Op.equalIn (d + 1) t (.slice a l c) (.slice none l' c')) F h = F a.isNone h := by
  cases a <;> simp only [Op.equalIn, hp_bind, hp_underlying hu] <;> rfl
theorem eqIn_map (d : Nat) {t e e' : TypeId} {a : Option Nat} (hu : P.underlying t = some (.map e e')) (F : Bool → Heap → Prop) (h : Heap) : hp P (Op.equalIn (d + 1) t (.map a) (.map none)) F h = F a.isNone h := by
  cases a <;> simp only [Op.equalIn, hp_bind, hp_underlying hu] <;> rfl
theorem eqIn_fn1 (d : Nat) {t : TypeId} {a b : Array TypeId} {c : Bool} (hu : P.underlying t = some (.func a b c)) (F : Bool → Heap → Prop) (h : Heap) : hp P (Op.equalIn (d + 1) t .nilFunc .nilFunc) F h = F true h := by
  simp only [Op.equalIn, hp_bind, hp_underlying hu]; rfl
theorem eqIn_fn2 (d : Nat) {t : TypeId} {a b : Array TypeId} {c : Bool} {f : Fn} {x y : Array Value} (hu : P.underlying t = some (.func a b c)) (F : Bool → Heap → Prop) (h : Heap) : hp P (Op.equalIn (d + 1) t (.func f x y) .nilFunc) F h = F false h := by
  simp only [Op.equalIn, hp_bind, hp_underlying hu]; rfl
theorem vbin_sound {op : BinOp} {xt yt : TypeId} {x y : Operand} {o : Oper} (ho : o.op = .binOp op xt x y yt) (hc : ∀ v, ρ (.const v) = v)
    (H : vbin P op xt yt x y ρ o h K) : hp P (execOp ρ o) (nxt P K) h := by
  have e : execOp ρ o = (do let r ← (do eqGuard op xt x y (ρ x) (ρ y); binOp op xt (ρ x) (ρ y)); pure (Next.value r)) := by unfold execOp; rw [ho]
  have toh : hp P (do eqGuard op xt x y (ρ x) (ρ y); binOp op xt (ρ x) (ρ y)) K h → hp P (execOp ρ o) (nxt P K) h := fun q => by rw [e, hp_v]; exact q
  have fall : opH P ρ o h K → hp P (execOp ρ o) (nxt P K) h := id
  unfold vbin at H
  split at H
  · rename_i k hk
    split at H
    · split at H
      · obtain ⟨a, ha, H⟩ := asInt_out H
        obtain ⟨b, hb, H⟩ := asInt_out H
        apply toh
        rw [ha, hb]
        simp only [hp_bind]
        rw [hp_eqGuard _ (.inl ⟨by simp, by simp⟩)]
        simp only [shOp, binOp, Op.shift] at H ⊢
        rw [if_neg (by have := H.1; omega)]
        exact H.2
      · exact H.elim
    · split at H
      · obtain ⟨a, ha, H⟩ := asInt_out H
        obtain ⟨b, hb, H⟩ := asInt_out H
        apply toh
        rw [ha, hb]
        simp only [hp_bind]
        rw [hp_eqGuard _ (.inl ⟨by simp, by simp⟩)]
        simp only [shOp, binOp, Op.shift] at H ⊢
        rw [if_neg (by have := H.1; omega)]
        exact H.2
      · exact H.elim
    · rename_i n1 n2
      obtain ⟨a, ha, H⟩ := asInt_out H
      obtain ⟨b, hb, H⟩ := asInt_out H
      have hs : op ≠ .shl ∧ op ≠ .shr := ⟨n1, n2⟩
      apply toh
      rw [ha, hb]
      simp only [hp_bind]
      rw [hp_eqGuard _ (.inr (.inl ⟨by simp, by simp⟩)), binOp_int xt hs]
      exact hp_intOp H hs
  · rename_i hu
    split at H
    · obtain ⟨a, ha, H⟩ := asBool_out H
      obtain ⟨b, hb, H⟩ := asBool_out H
      apply toh
      rw [ha, hb]
      simp only [hp_bind]
      rw [hp_eqGuard _ (.inr (.inl ⟨by simp, by simp⟩)), hp_binOp_eql (by simp) (by simp) (by simp) (by simp)]
      rw [equal_succ, eqIn_bool _ (und_some hu (by simp))]
      exact H
    · obtain ⟨a, ha, H⟩ := asBool_out H
      obtain ⟨b, hb, H⟩ := asBool_out H
      apply toh
      rw [ha, hb]
      simp only [hp_bind]
      rw [hp_eqGuard _ (.inr (.inl ⟨by simp, by simp⟩)), hp_binOp_neq (by simp) (by simp) (by simp) (by simp)]
      rw [equal_succ, eqIn_bool _ (und_some hu (by simp))]
      exact H
    · exact H.elim
  · rename_i hu
    split at H
    · obtain ⟨a, ha, H⟩ := asStr_out H
      obtain ⟨b, hb, H⟩ := asStr_out H
      apply toh
      rw [ha, hb]
      simp only [hp_bind]
      rw [hp_eqGuard _ (.inr (.inl ⟨by simp, by simp⟩))]
      exact H
    · obtain ⟨a, ha, H⟩ := asStr_out H
      obtain ⟨b, hb, H⟩ := asStr_out H
      apply toh
      rw [ha, hb]
      simp only [hp_bind]
      rw [hp_eqGuard _ (.inr (.inl ⟨by simp, by simp⟩))]
      exact H
    · obtain ⟨a, ha, H⟩ := asStr_out H
      obtain ⟨b, hb, H⟩ := asStr_out H
      apply toh
      rw [ha, hb]
      simp only [hp_bind]
      rw [hp_eqGuard _ (.inl ⟨by simp, by simp⟩)]
      simp only [binOp, Op.stringOp]
      rw [if_neg (by have := H.1; have e : IntKind.i64.max = 9223372036854775807 := by decide
                     omega)]
      exact H.2
    · exact fall H
  · rename_i el hu
    split at H
    · rename_i hn
      have hy := nilP_out hn hc
      obtain ⟨a, ha, H⟩ := asPtrO_out H
      apply toh
      rw [ha, hy]
      simp only [hp_bind]
      rw [hp_eqGuard _ (.inr (.inl ⟨by simp, by simp⟩)), hp_binOp_eql (by simp) (by simp) (by simp) (by simp), equal_succ, eqIn_ptr _ (und_some hu (by simp))]
      exact H
    · rename_i hn
      have hy := nilP_out hn hc
      obtain ⟨a, ha, H⟩ := asPtrO_out H
      apply toh
      rw [ha, hy]
      simp only [hp_bind]
      rw [hp_eqGuard _ (.inr (.inl ⟨by simp, by simp⟩)), hp_binOp_neq (by simp) (by simp) (by simp) (by simp), equal_succ, eqIn_ptr _ (und_some hu (by simp))]
      exact H
    · obtain ⟨a, ha, H⟩ := asPtrO_out H
      obtain ⟨b, hb, H⟩ := asPtrO_out H
      apply toh
      rw [ha, hb]
      simp only [hp_bind]
      rw [hp_eqGuard _ (.inr (.inl ⟨by simp, by simp⟩))]
      exact H
    · obtain ⟨a, ha, H⟩ := asPtrO_out H
      obtain ⟨b, hb, H⟩ := asPtrO_out H
      apply toh
      rw [ha, hb]
      simp only [hp_bind]
      rw [hp_eqGuard _ (.inr (.inl ⟨by simp, by simp⟩))]
      exact H
    · exact fall H
  · rename_i el hu
    split at H
    · rename_i hn
      obtain ⟨l0, c0, hy⟩ := nilS_out hn hc
      obtain ⟨a, l, c, ha, H⟩ := asSlice_out H
      apply toh
      rw [ha, hy]
      simp only [hp_bind]
      rw [hp_eqGuard _ (.inr (.inl ⟨by simp, by simp⟩)), hp_binOp_eql (by simp) (by simp) (by simp) (by simp), equal_succ, eqIn_slice _ (und_some hu (by simp))]
      exact H
    · rename_i hn
      obtain ⟨l0, c0, hy⟩ := nilS_out hn hc
      obtain ⟨a, l, c, ha, H⟩ := asSlice_out H
      apply toh
      rw [ha, hy]
      simp only [hp_bind]
      rw [hp_eqGuard _ (.inr (.inl ⟨by simp, by simp⟩)), hp_binOp_neq (by simp) (by simp) (by simp) (by simp), equal_succ, eqIn_slice _ (und_some hu (by simp))]
      exact H
    · exact fall H
  · rename_i e1 e2 hu
    split at H
    · rename_i hn
      have hy := nilM_out hn hc
      obtain ⟨a, ha, H⟩ := asMap_out H
      apply toh
      rw [ha, hy]
      simp only [hp_bind]
      rw [hp_eqGuard _ (.inr (.inl ⟨by simp, by simp⟩)), hp_binOp_eql (by simp) (by simp) (by simp) (by simp), equal_succ, eqIn_map _ (und_some hu (by simp))]
      exact H
    · rename_i hn
      have hy := nilM_out hn hc
      obtain ⟨a, ha, H⟩ := asMap_out H
      apply toh
      rw [ha, hy]
      simp only [hp_bind]
      rw [hp_eqGuard _ (.inr (.inl ⟨by simp, by simp⟩)), hp_binOp_neq (by simp) (by simp) (by simp) (by simp), equal_succ, eqIn_map _ (und_some hu (by simp))]
      exact H
    · exact fall H
  · rename_i e1 e2 e3 hu
    split at H
    · rename_i hn
      have hy := nilF_out hn hc
      rcases asFnNil_out H with ⟨ha, H⟩ | ⟨f, a, b, ha, H⟩
      · apply toh
        rw [ha, hy]
        simp only [hp_bind]
        rw [hp_eqGuard _ (.inr (.inl ⟨by simp, by simp⟩)), hp_binOp_eql (by simp) (by simp) (by simp) (by simp), equal_succ, eqIn_fn1 _ (und_some hu (by simp))]
        exact H
      · apply toh
        rw [ha, hy]
        simp only [hp_bind]
        rw [hp_eqGuard _ (.inr (.inl ⟨by simp, by simp⟩)), hp_binOp_eql (by simp) (by simp) (by simp) (by simp), equal_succ, eqIn_fn2 _ (und_some hu (by simp))]
        exact H
    · rename_i hn
      have hy := nilF_out hn hc
      rcases asFnNil_out H with ⟨ha, H⟩ | ⟨f, a, b, ha, H⟩
      · apply toh
        rw [ha, hy]
        simp only [hp_bind]
        rw [hp_eqGuard _ (.inr (.inl ⟨by simp, by simp⟩)), hp_binOp_neq (by simp) (by simp) (by simp) (by simp), equal_succ, eqIn_fn1 _ (und_some hu (by simp))]
        exact H
      · apply toh
        rw [ha, hy]
        simp only [hp_bind]
        rw [hp_eqGuard _ (.inr (.inl ⟨by simp, by simp⟩)), hp_binOp_neq (by simp) (by simp) (by simp) (by simp), equal_succ, eqIn_fn2 _ (und_some hu (by simp))]
        exact H
    · exact fall H
  · rename_i hu
    split at H
    · obtain ⟨⟨b, hb, H⟩, hg, xs, hx⟩ := hp_eqv H
      apply toh
      rw [hx] at hb ⊢
      simp only [hp_bind]
      rw [hp_eqGuard _ (.inr (.inr ⟨hg, _, rfl⟩)), hp_binOp_eql (by simp) (by simp) (by simp) (by simp), hb]
      exact H
    · obtain ⟨⟨b, hb, H⟩, hg, xs, hx⟩ := hp_eqv H
      apply toh
      rw [hx] at hb ⊢
      simp only [hp_bind]
      rw [hp_eqGuard _ (.inr (.inr ⟨hg, _, rfl⟩)), hp_binOp_neq (by simp) (by simp) (by simp) (by simp), hb]
      exact H
    · exact H.elim
  · rename_i hu
    split at H
    · obtain ⟨⟨b, hb, H⟩, hg, xs, hx⟩ := hp_eqv H
      apply toh
      rw [hx] at hb ⊢
      simp only [hp_bind]
      rw [hp_eqGuard _ (.inr (.inr ⟨hg, _, rfl⟩)), hp_binOp_eql (by simp) (by simp) (by simp) (by simp), hb]
      exact H
    · obtain ⟨⟨b, hb, H⟩, hg, xs, hx⟩ := hp_eqv H
      apply toh
      rw [hx] at hb ⊢
      simp only [hp_bind]
      rw [hp_eqGuard _ (.inr (.inr ⟨hg, _, rfl⟩)), hp_binOp_neq (by simp) (by simp) (by simp) (by simp), hb]
      exact H
    · exact H.elim
  · exact fall H
end
end
section
section
variable {P : Program} {ρ : Operand → Value} {h : Heap} {K : Value → Heap → Prop}
theorem hp_bound {v : Value} {i : Int} {k : IntKind} {y : Nat} {code : BoundsCode} (hv : v = .int k i) (h0 : 0 ≤ i) (h1 : i ≤ y) (F : Nat → Heap → Prop) :
    hp P (Instr.sliceBound v y code) F h = F i.toNat h := by
  subst hv
  simp only [Instr.sliceBound, asIntOf, hp_bind, hp_pure]
  rw [if_pos ⟨h0, h1⟩]; rfl
theorem boundH_out {v : Option Value} {d m : Nat} {F : Nat → Prop} (H : boundH none v d m F) :
    (v = none ∧ F d) ∨ ∃ k i, v = some (.int k i) ∧ 0 ≤ i ∧ i ≤ m ∧ F i.toNat := by
  unfold boundH at H
  split at H
  · exact .inl ⟨rfl, H⟩
  · split at H
    · obtain ⟨k, i, rfl, H⟩ := asI_out H
      exact .inr ⟨_, _, rfl, H⟩
    · cases ‹none = some _›
theorem hp_sliceBounds {isSlice : Bool} {len cap : Nat} {lo hi mx : Option Value} {F : Nat × Nat × Nat → Heap → Prop} (hm : mx = none ∨ hi ≠ none)
    (H : boundH none mx cap cap fun m => boundH none hi len m fun h' => boundH none lo 0 h' fun l => F (l, h', m) h) :
    hp P (Instr.sliceBounds isSlice len cap lo hi mx) F h := by
  rcases boundH_out H with ⟨rfl, H1⟩ | ⟨k, i, rfl, h0, h1, H1⟩
  · rcases boundH_out H1 with ⟨rfl, H2⟩ | ⟨k, i, rfl, h0, h1, H2⟩
    · rcases boundH_out H2 with ⟨rfl, H3⟩ | ⟨k, i, rfl, h0, h1, H3⟩
      · exact H3
      · simp only [Instr.sliceBounds, hp_bind, hp_pure, hp_bound rfl h0 h1]; exact H3
    · rcases boundH_out H2 with ⟨rfl, H3⟩ | ⟨k', i', rfl, h0', h1', H3⟩
      · simp only [Instr.sliceBounds, hp_bind, hp_pure, hp_bound rfl h0 h1]; exact H3
      · simp only [Instr.sliceBounds, hp_bind, hp_pure, hp_bound rfl h0 h1, hp_bound rfl h0' h1']; exact H3
  · rcases boundH_out H1 with ⟨rfl, H2⟩ | ⟨k2, i2, rfl, h02, h12, H2⟩
    · rcases hm with hm | hm
      · cases hm
      · exact absurd rfl hm
    · rcases boundH_out H2 with ⟨rfl, H3⟩ | ⟨k', i', rfl, h0', h1', H3⟩
      · simp only [Instr.sliceBounds, hp_bind, hp_pure, hp_bound rfl h0 h1, hp_bound rfl h02 h12]; exact H3
      · simp only [Instr.sliceBounds, hp_bind, hp_pure, hp_bound rfl h0 h1, hp_bound rfl h02 h12, hp_bound rfl h0' h1']; exact H3
theorem hp_sliceAt {t : TypeId} {x : Value} {lo hi mx : Option Value} (hm : mx = none ∨ hi ≠ none) (H : vslice P t x lo hi mx fun v => K v h) :
    hp P (Instr.sliceAt t x lo hi mx) K h := by
  unfold vslice at H
  split at H
  · rename_i hu
    split at H
    · exact H.elim
    · rename_i hmx
      obtain ⟨s, rfl, H⟩ := asStr_out H
      simp only [Instr.sliceAt, hp_bind, hp_underlying (und_some hu (by simp)), Instr.slice]
      rw [if_neg hmx]
      simp only [hp_bind, hp_pure]
      refine hp_sliceBounds (.inl rfl) ?_
      exact H
  · rename_i e hu
    split at H
    · rename_i hth
      obtain ⟨a, len, cap, rfl, H⟩ := asSlice_out H
      simp only [Instr.sliceAt, hp_bind, hp_underlying (und_some hu (by simp)), Instr.slice]
      refine hp_sliceBounds hm ?_
      simp only [hp_bind, hp_sizeOf hth, hp_pure]
      exact H
    · exact H.elim
  · rename_i n e hu
    split at H
    · rename_i hth
      obtain ⟨a, rfl, H⟩ := asPtr_out H
      simp only [Instr.sliceAt, hp_bind, hp_underlying (und_some hu (by simp)), Instr.sureAddr, hp_pure]
      refine hp_sliceBounds hm ?_
      simp only [hp_bind, hp_sizeOf hth, hp_pure]
      exact H
    · exact H.elim
  · exact H.elim
theorem hp_askRoom (n : Nat) (F : Unit → Heap → Prop) : hp P (askRoom n) F h = F () h := by unfold askRoom; split <;> rfl
theorem wrap64_id {n : Int} (h0 : 0 ≤ n) (h1 : n ≤ 9223372036854775807) : IntKind.i64.wrap n = n := by
  have e1 : ((2 : Int) ^ IntKind.i64.bits) = 18446744073709551616 := by decide
  have e2 : ((2 : Int) ^ (IntKind.i64.bits - 1)) = 9223372036854775808 := by decide
  unfold IntKind.wrap
  rw [e1, e2]
  have : n % 18446744073709551616 = n := by omega
  simp only [this]
  rw [if_neg (by simp; omega)]
theorem hp_makeSlice {t elem : TypeId} {k1 k2 : IntKind} {l c : Int} (hu : P.underlying t = some (.slice elem)) (hth : there P elem = true) (hz : (zer P elem).isSome = true)
    (hs : (zcells P elem).length = siz P elem) (hp0 : 0 < siz P elem) (H : mkSlH P elem l c h K) : hp P (Instr.makeSlice t (.int k1 l) (.int k2 c)) K h := by
  obtain ⟨h1, h2, h3, h4, H⟩ := H
  obtain ⟨i, hi⟩ := there_some hth
  obtain ⟨z, hz⟩ := zer_some hz
  have hb : byt P elem = i.bytes := by unfold byt; rw [hi]
  rw [hb] at h4
  have w1 : IntKind.i64.wrap l = l := wrap64_id h1 (by omega)
  have w2 : IntKind.i64.wrap c = c := wrap64_id (by omega) h3
  simp only [Instr.makeSlice, hp_bind, hp_underlying hu, asInt, Go.asInt, asIntOf, hp_pure, hp_typeInfo hi, w1, w2]
  rw [if_neg (by
    simp only [Bool.or_eq_true, decide_eq_true_eq, not_or]
    refine ⟨⟨⟨by omega, ?_⟩, by omega⟩, by omega⟩
    have : ((2 : Int) ^ 48) = 281474976710656 := by decide
    rw [this] at h4
    rw [this]
    omega)]
  simp only [hp_bind, hp_askRoom, hp_sizeOf hth]
  by_cases hc0 : c.toNat = 0
  · simp only [hc0, Nat.zero_mul, if_true, hp_pure, newRow, newObj, hp_bind, hp] at H ⊢
    have e : (Array.range 0).map (fun x => (#[] : Array Value)[x % (#[] : Array Value).size]!) = #[] := by simp [Array.range]
    rw [e]; simpa using H
  · rw [if_neg (by intro e; rcases Nat.mul_eq_zero.1 e with e | e <;> omega)]
    simp only [hp_bind, hp_zeroValue hz, hp_pure, ← zcells_eq hz, newRow, newObj, hp]
    have := rep_eq (zcells P elem) c.toNat (by omega)
    rw [hs] at this
    rw [this]; exact H
end
end
section
section
variable {P : Program} {ρ : Operand → Value} {h : Heap} {K : Value → Heap → Prop}
def nxtW (P : Program) (K : Value → Heap → Prop) (h0 : World) : Next → World → Prop
  | .value v, w => K v w.heap ∧ Kw h0 w
  | .skip, w => K undefV w.heap ∧ Kw h0 w
  | .enter f args, w => CallsIn Fence.wide 0 P f args w (onH h0 K)
  | .round l f tmps assign body, w => RoundIn Fence.wide 0 P l f tmps assign body w (onH h0 K)
  | _, _ => False
def OpS (P : Program) (ρ : Operand → Value) (o : Oper) (h : Heap) (K : Value → Heap → Prop) : Prop :=
  ∀ w : World, w.heap = h → ∃ nx w', (execOp ρ o).run P w = .ok nx w' ∧ nxtW P K w nx w'
theorem onH_mono {h0 h1 : World} (hk : Kw h0 h1) : ∀ e w, onH h1 K e w → onH h0 K e w := by
  intro e w x
  cases e <;> first | exact x | exact ⟨x.1, hk.trans x.2⟩
theorem OpS_of_hp {o : Oper} (H : hp P (execOp ρ o) (nxt P K) h) : OpS P ρ o h K := by
  intro w hw
  obtain ⟨nx, w', h1, h2, h3⟩ := hp_run _ H w hw
  refine ⟨nx, w', h1, ?_⟩
  cases nx <;> first
    | exact ⟨h2, h3⟩
    | exact (h2 w' rfl).mono (onH_mono h3)
    | exact h2.elim
theorem hp_builtin {o : Oper} {b : Builtin} {args : Array Operand} {argTypes : Array TypeId} (ho : o.op = .call { callee := .builtin b, args, argTypes }) (s : Sem Value)
    (hb : ∀ consts, builtin b argTypes o.type consts (args.map ρ) = (do let x ← s; pure (Next.value x))) (H : hp P s K h) : hp P (execOp ρ o) (nxt P K) h := by
  unfold execOp; rw [ho]
  simp only [resolve, hp_bind, hp_pure, invoke, hb]
  exact H
theorem mapV_eq (f : Operand → Value) (a : Array Operand) : mapV f a = a.map f := by unfold mapV; apply Array.toList_inj.1; simp
theorem minmax_go {f : Int → Int → Int} {m : Value → Value → Sem Value} (hm : ∀ k a b, m (.int k a) (.int k b) = pure (.int k (f a b))) {k : IntKind} (ys : List Value) : ∀ (a : Int),
    minmax.go f k a ys (fun n => K (.int k n) h) → hp P (ys.foldlM m (.int k a)) K h := by
  induction ys with
  | nil => intro a H; exact H
  | cons y ys ih =>
    intro a H
    obtain ⟨b, rfl, H2⟩ := asInt_out H
    simp only [List.foldlM_cons, hp_bind, hm, hp_pure]
    exact ih _ H2
theorem minmax_hp {f : Int → Int → Int} {m : Value → Value → Sem Value} (hm : ∀ k a b, m (.int k a) (.int k b) = pure (.int k (f a b))) {t : TypeId} {k : IntKind} (hk : intKindOf P t = some k)
    (why : String) (xs : List Value) (H : minmax f P t xs fun n => K (.int k n) h) : hp P (match xs with | [] => stuck why | x :: rest => rest.foldlM m x) K h := by
  cases xs with
  | nil => exact H.elim
  | cons x xs => cases xs with
    | nil =>
      simp only [minmax, hk] at H
      obtain ⟨b, rfl, H2⟩ := asInt_out H
      exact H2
    | cons y ys =>
      simp only [minmax, hk] at H
      obtain ⟨b, rfl, H2⟩ := asInt_out H
      exact minmax_go hm _ _ H2
theorem vbuiltin_sound {o : Oper} {b : Builtin} {args : Array Operand} {argTypes : Array TypeId} (ho : o.op = .call { callee := .builtin b, args, argTypes })
    (H : vbuiltin P b argTypes o.type (args.toList.map ρ) ρ o h K) : hp P (execOp ρ o) (nxt P K) h := by
  have ea : args.map ρ = (args.toList.map ρ).toArray := by rw [← mapV_eq]; rfl
  unfold vbuiltin at H
  split at H
  · rename_i x hx
    refine hp_builtin ho (Builtin.len_ argTypes o.type (args.map ρ)) (fun _ => rfl) ?_
    rw [ea, hx]
    split at H
    · rename_i t0 h0
      simp only [Builtin.len_, h0]
      simp only [List.getElem?_toArray, List.getElem?_cons_zero]
      split at H
      · rename_i e hu
        obtain ⟨a, n, c, rfl, H2⟩ := asSlice_out H
        simp only [hp_bind, hp_underlying (und_some hu (by simp)), hp_pure]; exact H2
      · rename_i hu
        obtain ⟨a, rfl, H2⟩ := asStr_out H
        simp only [hp_bind, hp_underlying (und_some hu (by simp)), hp_pure]; exact H2
      · rename_i e1 e2 hu
        obtain ⟨r, rfl, H2⟩ := asMap_out H
        simp only [hp_bind, hp_underlying (und_some hu (by simp)), hp_pure]
        unfold mapAt at H2
        cases r with
        | none => exact H2
        | some r =>
          simp only at H2
          split at H2
          · rename_i es c hr
            simp only [hp_bind, getObj, hp, hr]; exact H2
          · exact H2.elim
      · rename_i n e hu
        simp only [hp_bind, hp_underlying (und_some hu (by simp)), hp_pure]; exact H
      · exact H.elim
    · exact H.elim
  · rename_i x hx
    refine hp_builtin ho (Builtin.cap_ argTypes o.type (args.map ρ)) (fun _ => rfl) ?_
    rw [ea, hx]
    split at H
    · rename_i t0 h0
      simp only [Builtin.cap_, h0]
      simp only [List.getElem?_toArray, List.getElem?_cons_zero]
      split at H
      · rename_i e hu
        obtain ⟨a, n, c, rfl, H2⟩ := asSlice_out H
        simp only [hp_bind, hp_underlying (und_some hu (by simp)), hp_pure]; exact H2
      · exact H.elim
    · exact H.elim
  · rename_i xs
    refine hp_builtin ho (Builtin.append_ argTypes o.type (args.map ρ)) (fun _ => rfl) ?_
    rw [ea]; exact H
  · refine hp_builtin ho (Builtin.copy_ argTypes o.type (args.map ρ)) (fun _ => rfl) ?_
    rw [ea]; exact H
  · refine hp_builtin ho (Builtin.delete_ argTypes o.type (args.map ρ)) (fun _ => rfl) ?_
    rw [ea]; exact H
  · refine hp_builtin ho (Builtin.unsafeSliceData_ argTypes o.type (args.map ρ)) (fun _ => rfl) ?_
    rw [ea]; exact H
  · refine hp_builtin ho (Builtin.unsafeString_ argTypes o.type (args.map ρ)) (fun _ => rfl) ?_
    rw [ea]; exact H
  · refine hp_builtin ho (Builtin.clear_ argTypes o.type (args.map ρ)) (fun _ => rfl) ?_
    rw [ea]; exact H
  · split at H
    · rename_i k hk
      refine hp_builtin ho (Builtin.max_ argTypes o.type (args.map ρ)) (fun _ => rfl) ?_
      rw [ea]
      exact minmax_hp (f := max2I) (m := Builtin.max2) (fun _ _ _ => rfl) hk _ _ H
    · exact H
  · split at H
    · rename_i k hk
      refine hp_builtin ho (Builtin.min_ argTypes o.type (args.map ρ)) (fun _ => rfl) ?_
      rw [ea]
      exact minmax_hp (f := min2I) (m := Builtin.min2) (fun _ _ _ => rfl) hk _ _ H
    · exact H
  · exact H
end
end
section
section
variable {P : Program} {ρ : Operand → Value} {h : Heap} {K : Value → Heap → Prop}
theorem callV_sound {o : Oper} {f : Operand} {args : Array Operand} {argTypes : Array TypeId} (ho : o.op = .call { callee := .value f, args, argTypes })
    (H : callV P (ρ f) (args.map ρ) h K) : OpS P ρ o h K := by
  intro w hw
  have e : execOp ρ o = (do let d ← Deferred.ofValue (ρ f) (args.map ρ); invoke d.target d.args) := by
    unfold execOp; rw [ho]; rfl
  rw [e]
  unfold callV at H
  split at H
  · rename_i g first captured hf
    rw [hf]
    obtain ⟨he, hcall⟩ := H
    have hr : (do let d ← Deferred.ofValue (.func (.func g) first captured) (args.map ρ); invoke d.target d.args).run P w = .ok (.enter g (first ++ args.map ρ ++ captured)) w := he _ w
    exact ⟨_, w, hr, hcall w hw⟩
  · rename_i l first captured hf
    rw [hf]
    obtain ⟨fn, tmps, assign, body, hr, hround⟩ := H w hw
    exact ⟨_, w, hr, hround⟩
  · exact H.elim
theorem extV_sound {o : Oper} {f : Operand} {args : Array Operand} {argTypes : Array TypeId} (ho : o.op = .call { callee := .value f, args, argTypes })
    (H : extV P (ρ f) (args.map ρ) h K) : OpS P ρ o h K := by
  have e : execOp ρ o = (do let d ← Deferred.ofValue (ρ f) (args.map ρ); invoke d.target d.args) := by
    unfold execOp; rw [ho]; rfl
  unfold extV at H
  split at H
  · rename_i g first captured hf
    refine OpS_of_hp ?_
    rw [e, hf]
    show hp P (callFunc g (first ++ args.map ρ ++ captured)) (nxt P K) h
    refine hp_mono ?_ H
    intro nx h' x
    cases nx <;> first | exact x | exact x.elim
  · exact H.elim
theorem vop_sound (o : Oper) (hc : ∀ v, ρ (.const v) = v) (H : vop P ρ o h K) : OpS P ρ o h K := by
  unfold vop at H
  split at H
  case h_1 x hx | h_2 x hx => exact OpS_of_hp (by unfold execOp; rw [hx]; exact H)
  case h_3 c a b hx =>
    obtain ⟨t, ht, H⟩ := asBool_out H
    refine OpS_of_hp ?_
    unfold execOp; rw [hx]
    simp only [ht, Go.asBool, hp_bind, hp_pure, nxt]
    have := ifB_out H
    cases t <;> simpa using this
  case h_4 t hx =>
    refine OpS_of_hp ?_
    unfold execOp; rw [hx]
    split at H
    · rename_i z hz
      refine (hp_v _).mpr ?_
      simp only [Instr.alloc, hp_bind, hp_zeroValue hz, newVar, newRow, newObj, hp, hp_pure]
      exact H
    · exact H.elim
  case h_5 t x hx =>
    refine OpS_of_hp ?_
    unfold execOp; rw [hx]
    have H := cellsT_out H
    refine (hp_v _).mpr ?_
    simp only [Instr.box, newVar, newRow, newObj, hp_bind, hp, hp_pure]
    simpa using H
  case h_6 t parts hx =>
    refine OpS_of_hp ?_
    unfold execOp; rw [hx]
    refine (hp_v _).mpr ?_
    split at H
    · rename_i hz
      obtain ⟨z, hz⟩ := zer_some hz
      simp only [Instr.build, hp_bind, hp_zeroValue hz, ← zcells_eq hz]
      split at H
      · rename_i fields hu
        split at H
        · exact H.elim
        · rename_i hall
          simp only [hp_underlying (und_some hu (by simp))]
          obtain ⟨cs, h1, h2⟩ := fillH_fill _ _ _ H
          have hpl : ∀ (fs : List Field), (∀ f ∈ fs, there P f.type = true) → ∀ (G : List (Nat × Nat) → Heap → Prop),
              hp P (fs.mapM fun f => do pure (f.offset, ← sizeOf f.type)) G h = G (fs.map fun f => (f.offset, siz P f.type)) h := by
            intro fs
            induction fs with
            | nil => intro _ G; rfl
            | cons f fs ih =>
              intro hf G
              simp only [List.mapM_cons, hp_bind, hp_sizeOf (hf f (by simp)), hp_pure, ih (fun g hg => hf g (by simp [hg])), List.map_cons]
          have hall2 : ∀ f ∈ fields.toList, there P f.type = true := by
            intro f hf
            have : fields.all (fun f => there P f.type) = true := by simpa using hall
            rw [Array.all_eq_true'] at this
            exact this f (by simpa using hf)
          rw [Array.mapM_eq_mapM_toList]
          simp only [map_eq_pure_bind, hp_bind, hpl fields.toList hall2, hp_pure]
          have e : (fun x : Nat => ((fields.toList.map fun f => (f.offset, siz P f.type)).toArray)[x]?) = (fun i => ((fields[i]?).map fun f => (f.offset, f.type)).map fun x => (x.1, siz P x.2)) := by
            funext i; simp [Function.comp_def]
          have ep : (parts.map fun x => (x.1, ρ x.2)).toList = parts.toList.map fun p => (p.1, ρ p.2) := by simp
          rw [e, ep, h1]
          exact h2
      · rename_i n elem hu
        split at H
        · exact H.elim
        · rename_i hth
          have hth : there P elem = true := by simpa using hth
          simp only [hp_underlying (und_some hu (by simp))]
          obtain ⟨cs, h1, h2⟩ := fillH_fill _ _ _ H
          simp only [hp_bind, hp_sizeOf hth]
          have ep : (parts.map fun x => (x.1, ρ x.2)).toList = parts.toList.map fun p => (p.1, ρ p.2) := by simp
          have e : (fun i => some (i * siz P elem, siz P elem)) = (fun i => ((fun i => some (i * siz P elem, elem)) i : Option (Nat × TypeId)).map fun x => (x.1, siz P x.2)) := by
            funext i; simp
          rw [e, ep, h1]
          exact h2
      · exact H.elim
    · exact H.elim
  case h_7 t len parts hx =>
    refine OpS_of_hp ?_
    unfold execOp; rw [hx]
    refine (hp_v _).mpr ?_
    split at H
    · rename_i elem hu
      split at H
      · rename_i hh
        obtain ⟨hth, hle, hz, hl, h0⟩ := hh
        obtain ⟨z, hz⟩ := zer_some hz
        simp only [Instr.buildSlice, hp_bind, hp_underlying (und_some hu (by simp)), hp_sizeOf hth]
        rw [if_neg (by omega)]
        obtain ⟨cs, h1, h2⟩ := fillH_fill _ _ _ H
        have ep : (parts.map fun x => (x.1, ρ x.2)).toList = parts.toList.map fun p => (p.1, ρ p.2) := by simp
        have e : (fun i => some (i * siz P elem, siz P elem)) = (fun i => ((fun i => some (i * siz P elem, elem)) i : Option (Nat × TypeId)).map fun x => (x.1, siz P x.2)) := by
          funext i; simp
        by_cases hl0 : len = 0
        · subst hl0
          simp only [Nat.zero_mul, if_true, hp_pure]
          have e0 : ∀ zero : Array Value, (Array.range 0).map (fun x => zero[x % zero.size]!) = (([] : List Value)).toArray := by intro z; simp [Array.range]
          simp only [List.replicate_zero, List.flatten_nil] at h1
          rw [hp_bind, hp_pure, e0, e, ep]
          simp only [Option.map_some] at h1 ⊢
          rw [h1]
          simp only [newRow, newObj, hp_bind, hp, hp_pure]
          exact h2
        · rw [if_neg (by intro e; rcases Nat.mul_eq_zero.1 e with e | e <;> omega)]
          simp only [hp_bind, hp_zeroValue hz, hp_pure, ← zcells_eq hz]
          have := rep_eq (zcells P elem) len (by omega)
          rw [hl] at this
          rw [this, e, ep, h1]
          simp only [newRow, newObj, hp_bind, hp, hp_pure]
          exact h2
      · exact H.elim
    · exact H.elim
  case h_8 t x hx =>
    refine OpS_of_hp ?_
    unfold execOp; rw [hx]
    refine (hp_v _).mpr ?_
    obtain ⟨a, ha, H⟩ := asPtr_out H
    split at H
    · rename_i hth
      simp only [Instr.loadAt, ha, Instr.sureAddr, hp_bind, hp_pure]
      exact hp_loadVar hth H
    · exact H.elim
  case h_9 t x y hx =>
    refine OpS_of_hp ?_
    unfold execOp; rw [hx]
    refine (hp_u _).mpr ?_
    obtain ⟨a, ha, H⟩ := asPtr_out H
    have H := cellsT_out H
    split at H
    · rename_i hth
      simp only [Instr.storeAt, ha, Instr.sureAddr, hp_bind, hp_pure]
      exact hp_storeVar hth.1 hth.2 H
    · exact H.elim
  case h_10 x hx =>
    refine OpS_of_hp ?_
    unfold execOp; rw [hx]
    unfold nilC at H
    generalize hv : ρ x = v at H ⊢
    split at H <;> first
      | exact H.elim
      | skip
    rename_i n1 n2 n3 n4
    dsimp only
    rw [hv]
    cases v with
    | pointer a => cases a with
      | none => exact absurd rfl n1
      | some a => exact H
    | nilIface => exact absurd rfl n2
    | nilFunc => exact absurd rfl n3
    | func f a b => cases f with
      | method m => exact absurd rfl (n4 _ _ _)
      | _ => exact H
    | _ => exact H
  case h_11 op xt x y yt hx => exact OpS_of_hp (vbin_sound hx hc H)
  case h_12 op xt x hx =>
    refine OpS_of_hp ?_
    split at H
    · obtain ⟨b, hb, H⟩ := asBool_out H
      unfold execOp; rw [hx]
      refine (hp_v _).mpr ?_
      rw [hb]; exact H
    · obtain ⟨b, hb, H⟩ := asInt_out H
      unfold execOp; rw [hx]
      refine (hp_v _).mpr ?_
      rw [hb]; exact H
    · exact H
  case h_13 src dst x hx =>
    refine OpS_of_hp ?_
    split at H
    · rename_i hu1 hu2
      obtain ⟨b, hb, H⟩ := asInt_out H
      unfold execOp; rw [hx]
      refine (hp_v _).mpr ?_
      simp only [convert, hp_bind, hp_underlying (und_some hu1 (by simp)), hp_underlying (und_some hu2 (by simp)), hb]
      exact H
    · rename_i hu1 hu2
      obtain ⟨b, hb, H⟩ := asStr_out H
      unfold execOp; rw [hx]
      refine (hp_v _).mpr ?_
      simp only [convert, hp_bind, hp_underlying (und_some hu1 (by simp)), hp_underlying (und_some hu2 (by simp)), hb]
      exact H
    · unfold execOp; rw [hx]
      exact (hp_v _).mpr H
  case h_14 t x hx =>
    refine OpS_of_hp ?_
    unfold execOp; rw [hx]
    refine (hp_v _).mpr ?_
    split at H
    · exact H.elim
    · exact H.elim
    · rename_i n1 n2
      have hu := und_some (P := P) (t := t) rfl n2
      simp only [Instr.makeInterface, hp_bind, hp_underlying hu]
      exact H
  case h_15 fn first captured hx =>
    refine OpS_of_hp ?_
    unfold execOp; rw [hx]
    refine (hp_v _).mpr ?_
    rw [mapV_eq, mapV_eq] at H
    exact H
  case h_16 t hx =>
    refine OpS_of_hp ?_
    unfold execOp; rw [hx]
    refine (hp_v _).mpr ?_
    exact H
  case h_17 t l c hx =>
    refine OpS_of_hp ?_
    unfold execOp; rw [hx]
    refine (hp_v _).mpr ?_
    split at H
    · rename_i elem hu
      obtain ⟨k1, l', hl, H⟩ := asI_out H
      obtain ⟨k2, c', hc', H⟩ := asI_out H
      rw [hl, hc']
      split at H
      · rename_i hh
        exact hp_makeSlice (und_some hu (by simp)) hh.1 hh.2.1 hh.2.2.1 hh.2.2.2 H
      · exact H.elim
    · exact H.elim
  case h_18 t x lo hi mx hx =>
    refine OpS_of_hp ?_
    unfold execOp; rw [hx]
    refine (hp_v _).mpr ?_
    split at H
    · exact H.elim
    · rename_i hm
      refine hp_sliceAt ?_ H
      cases mx <;> cases hi <;> simp_all
  case h_19 t x f hx =>
    refine OpS_of_hp ?_
    unfold execOp; rw [hx]
    refine (hp_v _).mpr ?_
    split at H
    · rename_i fields hu
      split at H
      · rename_i fd hf
        split at H
        · rename_i hh
          obtain ⟨a, ha, H⟩ := asPtr_out H
          simp only [Instr.fieldAt, hp_bind, hp_underlying (und_some hu (by simp)), hf, ha, Instr.sureAddr, hp_pure, fieldPlace, hp_sizeOf hh.1]
          rw [if_neg hh.2]; exact H
        · exact H.elim
      · exact H.elim
    · exact H.elim
  case h_20 t x f hx =>
    refine OpS_of_hp ?_
    unfold execOp; rw [hx]
    refine (hp_v _).mpr ?_
    split at H
    · rename_i fields hu
      split at H
      · rename_i fd hf
        obtain ⟨cs, ha, H⟩ := asAgg_out H
        unfold partH at H
        split at H
        · rename_i v hv
          split at H
          · rename_i hth
            simp only [Instr.field, hp_bind, hp_underlying (und_some hu (by simp)), hf, ha, Go.asAgg, hp_pure]
            rw [hp_part hth hv]; exact H
          · exact H.elim
        · exact H.elim
      · exact H.elim
    · exact H.elim
  case h_21 t x i hx =>
    refine OpS_of_hp ?_
    unfold execOp; rw [hx]
    refine (hp_v _).mpr ?_
    split at H
    · rename_i elem hu
      obtain ⟨a, len, cap, ha, H⟩ := asSlice_out H
      obtain ⟨k, n, hi, h0, h1, H⟩ := asI_out H
      obtain ⟨ad, had, H⟩ := asPtr_out H
      cases had
      split at H
      · rename_i hth
        simp only [Instr.indexAt, hi, asIntOf, hp_bind, hp_pure, hp_underlying (und_some hu (by simp)), ha]
        rw [if_pos ⟨h0, h1⟩]
        simp only [hp_bind, hp_sizeOf hth, hp_pure]; exact H
      · exact H.elim
    · rename_i len elem hu
      obtain ⟨a, ha, H⟩ := asPtr_out H
      obtain ⟨k, n, hi, h0, h1, H⟩ := asI_out H
      split at H
      · rename_i hth
        simp only [Instr.indexAt, hi, asIntOf, hp_bind, hp_pure, hp_underlying (und_some hu (by simp)), ha, Instr.sureAddr]
        rw [if_pos ⟨h0, h1⟩]
        simp only [hp_bind, hp_sizeOf hth, hp_pure]; exact H
      · exact H.elim
    · exact H.elim
  case h_22 t x i hx =>
    refine OpS_of_hp ?_
    unfold execOp; rw [hx]
    refine (hp_v _).mpr ?_
    split at H
    · rename_i hu
      obtain ⟨s, ha, H⟩ := asStr_out H
      obtain ⟨k, n, hi, h0, h1, H⟩ := asI_out H
      simp only [Instr.index, hi, asIntOf, hp_bind, hp_pure, hp_underlying (und_some hu (by simp)), ha]
      have hs : n.toNat < s.size := by omega
      unfold byteAt at H
      simp only [h0, if_true]
      rw [getElem?_pos s n.toNat hs] at H ⊢
      exact H
    · rename_i len elem hu
      obtain ⟨cs, ha, H⟩ := asAgg_out H
      obtain ⟨k, n, hi, h0, h1, H⟩ := asI_out H
      unfold partH at H
      split at H
      · rename_i v hv
        split at H
        · rename_i hth
          simp only [Instr.index, hi, asIntOf, hp_bind, hp_pure, hp_underlying (und_some hu (by simp)), ha]
          rw [if_pos ⟨h0, h1⟩]
          simp only [hp_bind, hp_sizeOf hth]
          rw [hp_part hth hv]; exact H
        · exact H.elim
      · exact H.elim
    · exact H.elim
  case h_23 t x i ok hx =>
    refine OpS_of_hp ?_
    unfold execOp; rw [hx]
    exact (hp_v _).mpr H
  case h_24 t m k x hx =>
    refine OpS_of_hp ?_
    unfold execOp; rw [hx]
    exact (hp_u _).mpr H
  case h_25 x i hx =>
    refine OpS_of_hp ?_
    unfold execOp; rw [hx]
    refine (hp_v _).mpr ?_
    obtain ⟨vs, ha, H⟩ := asTup_out H
    unfold elemH at H
    split at H
    · rename_i v hv
      simp only [Instr.extract, ha, hv]; exact H
    · exact H.elim
  case h_26 b args argTypes hx => exact OpS_of_hp (vbuiltin_sound hx H)
  case h_27 f args argTypes hx =>
    rw [mapV_eq] at H
    split at H
    · exact extV_sound hx H
    · exact callV_sound hx H
  case h_28 => exact OpS_of_hp H
end
end
section
def upd (ρ : Env) (d : Nat) (v : Value) : Env := fun j => cond (Nat.beq j d) v (ρ j)
def putE (ρ : Env) (d : Option Nat) (v : Value) : Env := match d with | some d => upd ρ d v | none => ρ
def evo (ρ : Env) : Operand → Value
  | .tmp j => ρ j
  | .const v => v
  | .global g => .pointer (some ⟨g, 0, none⟩)
  | .func f => .func (.func f) #[] #[]
def guardV (v : Value) (N : Prop) (F : Bool → Prop) : Prop := match v with | .bool b => F b | _ => N
def vguard (ops : Array Oper) (ρ : Env) (g : Option (Nat × Bool)) (yes no : Env → Prop) : Prop :=
  match g with
  | none => yes ρ
  | some (j, want) => match (ops[j]?).bind (·.dst) with
    | none => no ρ
    | some d => guardV (ρ d) (no ρ) fun b => ifB b (cond want (yes (upd ρ d (.bool true))) (no (upd ρ d (.bool true)))) (cond want (no (upd ρ d (.bool false))) (yes (upd ρ d (.bool false))))
def tyO (P : Program) (o : Oper) (v : Value) (K : Value → Prop) : Prop :=
  match o.op with
  | .alloc _ | .store .. => K v
  | _ => typedV P o.type v K
def vlist (P : Program) (ops : Array Oper) : List Oper → Env → Heap → (Env → Heap → Prop) → Prop
  | [], ρ, h, K => K ρ h
  | o :: rest, ρ, h, K => vguard ops ρ o.guard
      (fun ρ => vop P (evo ρ) o h fun v h' => tyO P o v fun v => vlist P ops rest (putE ρ o.dst v) h' K)
      (fun ρ => vlist P ops rest (putE ρ o.dst undefV) h K)
def isRead (P : Program) (o : Oper) : Bool :=
  match o.op with
  | .move _ | .assign _ | .pick .. | .load .. | .nilCheck _ | .makeFunc .. | .fieldAddr .. | .field .. | .indexAddr .. | .index .. | .extract .. | .slice .. => true
  | .binOp op xt _ y _ => (match und P xt with
    | .int _ | .bool => true
    | .string => (match op with | .eql | .neq | .add => true | _ => false)
    | .pointer _ => (match op with | .eql | .neq => nilP y | _ => false)
    | .slice _ => (match op with | .eql | .neq => nilS y | _ => false)
    | .func _ _ _ => (match op with | .eql | .neq => nilF y | _ => false)
    | .struct _ | .array _ _ => true
    | _ => false)
  | .unOp op xt _ => (match op, und P xt with | .not, .bool => true | .neg, .int _ => true | _, _ => false)
  | .convert s d _ => (match und P s, und P d with | .int _, .int _ => true | .string, .string => true | _, _ => false)
  | .build .. => true
  | .call { callee := .builtin .len, argTypes, args } => (match argTypes[0]?, args.toList with
    | some t, [_] => (match und P t with | .slice _ | .string | .array _ _ => true | _ => false)
    | _, _ => false)
  | _ => false
def waitsB (ops : Array Oper) : Nat → Nat → Nat → Bool
  | 0, _, _ => false
  | n + 1, e, i => match ops[e]? with
    | none => false
    | some o => o.after.any fun ed => Region.binds .any ed && (ed.on == i || waitsB ops n ed.on i)
def predsOf (o : Oper) : List Nat := o.after.toList.filterMap fun ed => match Region.binds .any ed with | true => some ed.on | false => none
def reachB (ops : Array Oper) (i : Nat) : Nat → List Nat → Nat → Bool
  | 0, _, _ => false
  | _ + 1, [], _ => false
  | n + 1, e :: st, vis => match Nat.testBit vis e with
    | true => reachB ops i n st vis
    | false => match ops[e]? with
      | none => reachB ops i n st vis
      | some o => match (predsOf o).any (Nat.beq i) with
        | true => true
        | false => reachB ops i n (predsOf o ++ st) (Nat.lor vis (Nat.shiftLeft 1 e))
def waitsF (ops : Array Oper) (e i : Nat) : Bool := reachB ops i ((ops.size + 2) * (ops.size + 2)) [e] 0
abbrev Held := List (Nat × List (Addr × Value))
def holdsL (h : Heap) : List (Addr × Value) → Prop → Prop
  | [], X => X
  | (a, u) :: L, X => cellAt h a = some u ∧ holdsL h L X
def heldOK (ops : Array Oper) (e : Nat) (h : Heap) : Held → Prop → Prop
  | [], X => X
  | (i, L) :: r, X => match waitsF ops e i with | true => heldOK ops e h r X | false => holdsL h L (heldOK ops e h r X)
def ldNL (h : Heap) (a : Addr) (i : Nat) : Nat → List Value → List (Addr × Value) → (List Value → List (Addr × Value) → Prop) → Prop
  | 0, acc, L, K => K acc.reverse L.reverse
  | n + 1, acc, L, K => ldH h (a.add i) fun v => ldNL h a (i + 1) n (v :: acc) ((a.add i, v) :: L) K
def vopR (P : Program) (ρ : Operand → Value) (o : Oper) (h : Heap) (F : Value → List (Addr × Value) → Prop) : Prop :=
  match o.op with
  | .load t x => asPtr (ρ x) fun a => if there P t then
      (if aggT P t then ldNL h a 0 (siz P t) [] [] (fun cs L => F (.agg cs.toArray) L) else ldH h a fun v => F v [(a, v)]) else False
  | _ => vop P ρ o h fun v _ => F v []
def pickRead (P : Program) (ops : Array Oper) (listed : Array Bool) : Option Nat :=
  (Region.ready .any ops listed).find? fun i => (match ops[i]? with | some o => isRead P o | none => false) && Region.free .any ops listed i
def AllL (l : List Nat) (F : Nat → Prop) : Prop :=
  match l with
  | [] => True
  | [i] => F i
  | i :: j :: l => F i ∧ AllL (j :: l) F
def vdraw (P : Program) (ops : Array Oper) : Nat → Array Bool → Held → Env → Heap → (Env → Heap → Prop) → Prop
  | 0, listed, _, ρ, h, K => match Region.ready .any ops listed with | [] => K ρ h | _ => False
  | n + 1, listed, held, ρ, h, K =>
    match pickRead P ops listed with
    | some i => (match ops[i]? with
      | none => False
      | some o => vguard ops ρ o.guard
        (fun ρ => vopR P (evo ρ) o h fun v L => tyO P o v fun v => vdraw P ops n (listed.setIfInBounds i true) (match L with | [] => held | _ => (i, L) :: held) (putE ρ o.dst v) h K)
        (fun ρ => vdraw P ops n (listed.setIfInBounds i true) held (putE ρ o.dst undefV) h K))
    | none => (match Region.ready .any ops listed with
      | [] => K ρ h
      | rs => AllL rs fun e => (match ops[e]? with
        | none => False
        | some o => vguard ops ρ o.guard
          (fun ρ => vop P (evo ρ) o h fun v h' => tyO P o v fun v => heldOK ops e h' held (vdraw P ops n (listed.setIfInBounds e true) held (putE ρ o.dst v) h' K))
          (fun ρ => heldOK ops e h held (vdraw P ops n (listed.setIfInBounds e true) held (putE ρ o.dst undefV) h K))))
def dstsOf (ops : Array Oper) : List Nat := ops.toList.filterMap (·.dst)
def isAsg (o : Oper) : Bool := match o.op, o.dst with
  | .assign _, _ => true
  | .move (.tmp e), some d => Nat.blt d e
  | _, _ => false
def asgOf (ops : Array Oper) : List Nat := ops.toList.filterMap fun o => match isAsg o with | true => o.dst | false => none
def picksOf (ops : Array Oper) : List Nat := ops.toList.filterMap fun o => match o.op with | .pick .. => o.dst | _ => none
def insN (n : Nat) : List Nat → List Nat
  | [] => [n]
  | m :: l => if n < m then n :: m :: l else if n = m then m :: l else m :: insN n l
def unionN (a b : List Nat) : List Nat := a.foldr insN b
def dsts : Code → List Nat
  | .region _ ops _ => unionN (dstsOf ops) []
  | .seq a b => unionN (dsts a) (dsts b)
  | .cond c a b => unionN (match c with | .tmp d => [d] | _ => []) (unionN (dsts a) (dsts b))
  | .block _ b | .loop b | .scope b => dsts b
  | .rangeFunc .. => []
  | _ => []
def asgs : Code → List Nat
  | .region _ ops _ => unionN (asgOf ops) []
  | .seq a b | .cond _ a b => unionN (asgs a) (asgs b)
  | .block _ b | .loop b | .scope b => asgs b
  | _ => []
def picks : Code → List Nat
  | .region _ ops _ => unionN (picksOf ops) []
  | _ => []
def guarded (ops : Array Oper) : Bool := ops.any fun o => o.guard.isSome
def xits (id : Nat) : Code → Nat
  | .seq a b | .cond _ a b => xits id a + xits id b
  | .block _ b | .loop b | .scope b => xits id b
  | .rangeFunc _ _ _ b => xits id b
  | .exit j => if j = id then 1 else 0
  | _ => 0
def ends : Code → Nat
  | .region _ ops _ => if guarded ops then 2 else 1
  | .seq a b => if ends a = 0 then 0 else ends b
  | .cond _ a b => ends a + ends b
  | .block id b => ends b + xits id b
  | .loop _ | .exit _ | .ret | .goto _ | .refuse _ => 0
  | .scope b => ends b
  | _ => 1
def tiny : Code → Bool
  | .skip | .exit _ | .ret => true
  | .seq a b => tiny a && tiny b
  | .region _ ops _ => ops.size ≤ 2
  | _ => false
def thenQ (K : Env → Heap → Prop) (Q : Exit → Env → Heap → Prop) : Exit → Env → Heap → Prop
  | .normal, ρ, h => K ρ h
  | e, ρ, h => Q e ρ h
def blockQ (id : Nat) (Q : Exit → Env → Heap → Prop) : Exit → Env → Heap → Prop
  | .exit j, ρ, h => if j = id then Q .normal ρ h else Q (.exit j) ρ h
  | e, ρ, h => Q e ρ h
def AllV : Nat → (List Value → Prop) → Prop
  | 0, F => F []
  | n + 1, F => ∀ v, AllV n fun vs => F (v :: vs)
def lookE (vars : List Nat) (vs : List Value) (j : Nat) (d : Value) : Value :=
  match vars, vs with
  | x :: xs, v :: vs => cond (Nat.beq j x) v (lookE xs vs j d)
  | _, _ => d
def memN (j : Nat) : List Nat → Bool
  | [] => false
  | x :: xs => cond (Nat.beq j x) true (memN j xs)
def mergeE (ρ : Env) (ws vars : List Nat) (vs : List Value) (g : Env) : Env := fun j => lookE vars vs j (cond (memN j ws) (g j) (ρ j))
def exI (F : (List Value → Heap → Prop) → Prop) : Prop := ∃ I, F I
def exM (F : (List Value → Heap → Nat) → Prop) : Prop := ∃ μ, F μ
def joinH (n : Nat) (A : (List Value → Heap → Prop) → Prop) (B : List Value → Env → Heap → Prop) : Prop :=
  exI fun J => A J ∧ AllV n fun vs => ∀ (g : Env) (h : Heap), J vs h → B vs g h
def loopH (n : Nat) (vs0 : List Value) (h0 : Heap) (B : (List Value → Heap → Prop) → (List Value → Heap → Nat) → List Value → Env → Heap → Prop) : Prop :=
  exI fun I => exM fun μ => I vs0 h0 ∧ AllV n fun vs => ∀ (g : Env) (h : Heap), I vs h → B I μ vs g h
def setCond (ρ : Env) (c : Operand) (b : Bool) : Env := match c with | .tmp d => upd ρ d (.bool b) | _ => ρ
def Keep (N M : Nat) (h1 h2 : Heap) : Prop := h1.size ≤ h2.size ∧ ∀ b, b < h1.size → (b < N ∨ M ≤ b) → h2[b]? = h1[b]?
def KeepMid (N M : Nat) (h1 h2 : Heap) : Prop := h1.size ≤ h2.size ∧ ∀ b, N ≤ b → b < M → h2[b]? = h1[b]?
def SameD (N : Nat) (h h' : Heap) : Prop := h'.size = h.size ∧ ∀ b : Nat, (b < N ∨ ∀ x, h[b]? ≠ some (.deferred x)) → h'[b]? = h[b]?
theorem SameD.mono {N M : Nat} {h h' : Heap} (H : SameD N h h') (hM : M ≤ N) : SameD M h h' := ⟨H.1, fun b hb => H.2 b (hb.imp (fun x => Nat.lt_of_lt_of_le x hM) id)⟩
structure RangeOk {ε : Type} (N : Nat) (h : Heap) (Ev : Heap → Prop) (I : Nat → Nat → Heap → Prop) (X : Nat → ε → Heap → Prop) : Prop where
  env : ∀ M k h', N ≤ M → M ≤ h'.size → I M k h' → Ev h'
  keepI : ∀ M k h1 h2, N ≤ M → M ≤ h1.size → I M k h1 → Keep N M h1 h2 → I M k h2
  keepX : ∀ M e h1 h2, N ≤ M → M ≤ h1.size → X M e h1 → Keep N M h1 h2 → X M e h2
  dI : ∀ M k h1 h2, SameD N h1 h2 → I M k h1 → I M k h2
  dX : ∀ M e h1 h2, SameD N h1 h2 → X M e h1 → X M e h2
  start : ∀ h1, h.size ≤ h1.size → (∀ b, b < N → h1[b]? = h[b]?) → I h1.size 0 h1
def SeqH (P : Program) (g : Value) (n : Nat) (xs : Nat → Array Value) (Ev : Heap → Prop) : Prop :=
  ∀ (yf : Fn) (y1 y2 : Array Value) (h : Heap) (N : Nat) (I : Nat → Nat → Heap → Prop) (X : Nat → Unit → Heap → Prop), N ≤ h.size → Ev h → RangeOk N h Ev I X →
    (∀ M k h', k < n → N ≤ M → h.size ≤ M → M ≤ h'.size → I M k h' → callV P (.func yf y1 y2) (xs k) h' fun v h'' => KeepMid N M h' h'' ∧ ((v = .bool true ∧ I M (k + 1) h'') ∨ (v = .bool false ∧ X M () h''))) →
    callV P g #[.func yf y1 y2] h fun _ h' => ∃ M, N ≤ M ∧ h.size ≤ M ∧ M ≤ h'.size ∧ (I M n h' ∨ X M () h')
def pushL (h : Heap) : List Obj → Heap
  | [] => h
  | o :: os => pushL (h.push o) os
def allC : List Value → Prop → Prop
  | [], X => X
  | v :: vs, X => oneC v (allC vs X)
def vasg (P : Program) : List Oper → Env → Nat → (Env → List Obj → Prop) → Prop
  | [], ρ, _, F => F ρ []
  | { op := .assign x, dst := d, type := ty, guard := none, .. } :: rest, ρ, n, F => typedV P ty (evo ρ x) fun v => vasg P rest (putE ρ d v) n F
  | { op := .alloc t, dst := some d, guard := none, .. } :: { op := .store t' (.tmp d') y, dst := none, guard := none, .. } :: rest, ρ, n, F =>
    if t = t' ∧ d = d' ∧ there P t ∧ (zer P t).isSome ∧ (zcells P t).length = siz P t then
      cellsT P t (evo (upd ρ d (.pointer (some ⟨n, 0, none⟩))) y) fun cs => if cs.length = siz P t then
        allC cs (vasg P rest (upd ρ d (.pointer (some ⟨n, 0, none⟩))) (n + 1) fun ρ' os => F ρ' (.cells cs.toArray t :: os)) else False
    else False
  | _, _, _, _ => False
def opsOfC : Code → Option (List Oper)
  | .skip => some []
  | .region _ ops false => some ops.toList
  | _ => none
def setPs (ρ : Env) (vs : Array Value) : List Nat → Nat → Env
  | [], _ => ρ
  | p :: ps, i => setPs (upd ρ p (vs.getD i undefV)) vs ps (i + 1)
def fnV (v : Value) : Prop := match v with | .func (.func _) _ _ => True | _ => False
def rangeH0 (P : Program) (g : Value) (np : Nat) (h : Heap) (B : (Exit → Heap → Prop) → Array Value → Heap → Prop) (D : Heap → Prop) (E : Exit → Heap → Prop) : Prop :=
  ∃ (n : Nat) (xs : Nat → Array Value) (Ev : Heap → Prop) (I : Nat → Nat → Heap → Prop) (X : Nat → Exit → Heap → Prop),
    fnV g ∧ SeqH P g n xs Ev ∧ (∀ k, k < n → (xs k).size = np) ∧ Ev h ∧ RangeOk h.size h Ev I X ∧
    (∀ M k h', k < n → h.size + 2 ≤ M → M ≤ h'.size → I M k h' → B (fun e h'' => KeepMid h.size M h' h'' ∧ (match e with | .normal => I M (k + 1) h'' | e => X M e h'')) (xs k) h') ∧
    (∀ M h', h.size + 2 ≤ M → M ≤ h'.size → I M n h' → D h') ∧
    (∀ M e h', h.size + 2 ≤ M → M ≤ h'.size → X M e h' → E e h')
def eqE : Exit → Exit → Bool
  | .ret, .ret => true
  | .exit i, .exit j => Nat.beq i j
  | _, _ => false
def inE (e : Exit) : List (Exit × (Heap → Prop)) → Prop
  | [] => False
  | p :: ps => match eqE e p.1 with | true => True | false => inE e ps
def allE (X : Exit → (Heap → Prop) → Prop) : List (Exit × (Heap → Prop)) → Prop
  | [] => True
  | p :: ps => X p.1 p.2 ∧ allE X ps
def rangeH (P : Program) (g : Value) (np : Nat) (h : Heap) (B : (Exit → Heap → Prop) → Array Value → Heap → Prop) (D : Heap → Prop) (Es : List (Exit × (Heap → Prop))) : Prop :=
  ∃ (n : Nat) (xs : Nat → Array Value) (Ev : Heap → Prop) (I : Nat → Nat → Heap → Prop) (X : Nat → Exit → Heap → Prop),
    fnV g ∧ SeqH P g n xs Ev ∧ (∀ k, k < n → (xs k).size = np) ∧ Ev h ∧ RangeOk h.size h Ev I X ∧
    (∀ M k h', k < n → h.size + 2 ≤ M → M ≤ h'.size → I M k h' → B (fun e h'' => KeepMid h.size M h' h'' ∧ (match e with | .normal => I M (k + 1) h'' | e => inE e Es ∧ X M e h'')) (xs k) h') ∧
    (∀ M h', h.size + 2 ≤ M → M ≤ h'.size → I M n h' → D h') ∧
    allE (fun e F => ∀ M h', h.size + 2 ≤ M → M ≤ h'.size → X M e h' → F h') Es
theorem eqE_eq {a b : Exit} (h : eqE a b = true) : a = b := by
  cases a <;> cases b <;> simp [eqE] at h <;> first | rfl | (subst h; rfl) | exact h.elim
theorem rangeH_old {P : Program} {g : Value} {np : Nat} {h : Heap} {B : (Exit → Heap → Prop) → Array Value → Heap → Prop} {D : Heap → Prop} {E : Exit → Heap → Prop} {es : List Exit}
    (H : rangeH P g np h B D (es.map fun e => (e, E e))) : rangeH0 P g np h B D E := by
  obtain ⟨n, xs, Ev, I, X, h1, h2, h3, h4, h5, h6, h7, h8⟩ := H
  refine ⟨n, xs, Ev, I, fun M e h' => inE e (es.map fun e => (e, E e)) ∧ X M e h', h1, h2, h3, h4, ?_, h6, h7, ?_⟩
  · exact { env := h5.env, keepI := h5.keepI, keepX := fun M e a b c d e f => ⟨e.1, h5.keepX M _ a b c d e.2 f⟩, dI := h5.dI, dX := fun M e a b c d => ⟨d.1, h5.dX M _ a b c d.2⟩, start := h5.start }
  · rintro M e h' hM hM' ⟨hi, hx⟩
    clear h6
    induction es with
    | nil => exact hi.elim
    | cons e0 es ih =>
      simp only [List.map, inE, allE] at hi h8
      cases hq : eqE e e0 with
      | true => have := eqE_eq hq; subst this; exact h8.1 M h' hM hM' hx
      | false => rw [hq] at hi; exact ih h8.2 hi
def exitIn (e : Exit) : List Exit → Bool
  | [] => false
  | x :: xs => eqE e x || exitIn e xs
def joinX (a b : List Exit) : List Exit := a.foldr (fun e l => if exitIn e l then l else e :: l) b
def exitsOf : Code → List Exit
  | .seq a b | .cond _ a b => joinX (exitsOf a) (exitsOf b)
  | .block id b => (exitsOf b).filter fun e => !(eqE e (.exit id))
  | .loop b | .scope b => exitsOf b
  | .rangeFunc _ _ _ b => exitsOf b
  | .exit id => [.exit id]
  | .ret => [.ret]
  | _ => []
def vc (P : Program) : Code → (Exit → Env → Heap → Prop) → Env → Heap → Prop
  | .skip, Q, ρ, h => Q .normal ρ h
  | .region _ ops false, Q, ρ, h => vlist P ops ops.toList ρ h (Q .normal)
  | .region _ ops true, Q, ρ, h => vdraw P ops ops.size (Array.replicate ops.size false) [] ρ h (Q .normal)
  | .seq a b, Q, ρ, h =>
    if ends a ≤ 1 || tiny b then vc P a (thenQ (vc P b Q) Q) ρ h else
    joinH (unionN (asgs a) (picks a)).length
      (fun J => vc P a (thenQ (fun ρ' h' => J ((unionN (asgs a) (picks a)).map ρ') h') Q) ρ h)
      (fun vs g h' => vc P b Q (mergeE ρ (dsts a) (unionN (asgs a) (picks a)) vs g) h')
  | .cond c x y, Q, ρ, h => asBool (evo ρ c) fun b => ifB b (vc P x Q (setCond ρ c true) h) (vc P y Q (setCond ρ c false) h)
  | .block id b, Q, ρ, h => vc P b (blockQ id Q) ρ h
  | .loop b, Q, ρ, h => loopH (asgs b).length ((asgs b).map ρ) h fun I μ vs g h' =>
      vc P b (thenQ (fun ρ' h'' => I ((asgs b).map ρ') h'' ∧ μ ((asgs b).map ρ') h'' < μ vs h') Q) (mergeE ρ (dsts b) (asgs b) vs g) h'
  | .rangeFunc g ps assign body, Q, ρ, h =>
    rangeH P (evo ρ g) ps.size h
      (fun K vs h' => match opsOfC assign with
        | some ops => vasg P ops (setPs ρ vs ps.toList 0) h'.size fun ρ1 os => vc P body (fun e _ h'' => K e h'') ρ1 (pushL h' os)
        | none => False)
      (fun h' => Q .normal ρ h') ((exitsOf body).map fun e => (e, fun h' => Q e ρ h'))
  | .exit id, Q, ρ, h => Q (.exit id) ρ h
  | .ret, Q, ρ, h => Q .ret ρ h
  | .label _, Q, ρ, h => Q .normal ρ h
  | .scope b, Q, ρ, h => vc P b Q ρ h
  | .goto _, _, _, _ => False
  | .refuse _, _, _, _ => False
end
section
def FW (r : Option Nat) : Fence := { fn := fun _ => True, depth := none, alive := false, round := r }
theorem callsIn_FW {r : Option Nat} {P : Program} {f : FuncId} {args : Array Value} {w : World} {R : Ending → World → Prop} (h : CallsIn Fence.wide 0 P f args w R) : CallsIn (FW r) 0 P f args w R := h
theorem roundIn_FW {r : Option Nat} {P : Program} {l : Nat} {f : FuncId} {t : Array Value} {x y : Code} {w : World} {R : Ending → World → Prop} (h : RoundIn Fence.wide 0 P l f t x y w R) : RoundIn (FW r) 0 P l f t x y w R := h
structure Rl (n : Nat) (t : Array Value) (ρ : Env) : Prop where
  size : t.size = n
  get : ∀ j, t.getD j undef = ρ j
theorem upd_same (ρ : Env) (d : Nat) (v : Value) : upd ρ d v d = v := by simp [upd]
theorem upd_ne (ρ : Env) {d j : Nat} (v : Value) (h : j ≠ d) : upd ρ d v j = ρ j := by
  have : Nat.beq j d = false := Bool.eq_false_iff.2 fun e => h (Nat.eq_of_beq_eq_true e)
  simp [upd, this]
theorem upd_self {ρ : Env} {d : Nat} {v : Value} (h : ρ d = v) : upd ρ d v = ρ := by
  funext j; by_cases e : j = d
  · subst e; rw [upd_same, h]
  · rw [upd_ne _ _ e]
section
variable {n : Nat} {t : Array Value} {ρ : Env} {a : Act}
theorem Rl.eval (h : Rl n a.tmps ρ) : a.eval = evo ρ := by
  funext x; cases x with
  | tmp j => exact h.get j
  | _ => rfl
theorem Rl.put (h : Rl n a.tmps ρ) {d : Option Nat} (v : Value) (hd : ∀ j, d = some j → j < n) : Rl n (a.put d v).tmps (putE ρ d v) := by
  cases d with
  | none => exact h
  | some d =>
    refine ⟨by simp [Act.put, h.size], fun j => ?_⟩
    have hlt : d < a.tmps.size := by rw [h.size]; exact hd d rfl
    simp only [Act.put, putE]
    by_cases e : j = d
    · subst e; rw [upd_same]; simp [Array.getD_eq_getD_getElem?, hlt]
    · rw [upd_ne _ _ e, ← h.get j]
      simp [Array.getD_eq_getD_getElem?, Array.getElem?_setIfInBounds_ne (Ne.symm e)]
theorem put_defers (d : Option Nat) (v : Value) : (a.put d v).defers = a.defers := by cases d <;> rfl
def yieldE (ops : Array Oper) (ρ : Env) (j : Nat) : Option Bool :=
  match (ops[j]?).bind (·.dst) with
  | none => none
  | some d => match ρ d with | .bool b => some b | _ => none
def wantE (ops : Array Oper) (ρ : Env) (g : Option (Nat × Bool)) : Bool :=
  match g with
  | none => true
  | some (j, want) => yieldE ops ρ j == some want
theorem yielded_eq {ops : Array Oper} (h : Rl n a.tmps ρ) (j : Nat) : yielded ops a.tmps j = yieldE ops ρ j := by
  unfold yielded yieldE
  cases hd : (ops[j]?).bind (·.dst) with
  | none => rfl
  | some d =>
    simp only [Option.bind_some]
    have := h.get d
    cases hv : a.tmps[d]? with
    | none => simp [Array.getD_eq_getD_getElem?, hv] at this; simp [← this, undef]
    | some v => simp [Array.getD_eq_getD_getElem?, hv] at this; subst this; cases ρ d <;> rfl
theorem wanted_eq {ops : Array Oper} {o : Oper} (h : Rl n a.tmps ρ) : Region.wanted o (yielded ops a.tmps) = wantE ops ρ o.guard := by
  unfold Region.wanted wantE
  cases o.guard with
  | none => rfl
  | some g => obtain ⟨j, want⟩ := g; simp only [yielded_eq h]
theorem vguard_out {ops : Array Oper} {g : Option (Nat × Bool)} {yes no : Env → Prop} (H : vguard ops ρ g yes no) : if wantE ops ρ g then yes ρ else no ρ := by
  unfold vguard at H
  cases g with
  | none => exact H
  | some g =>
    obtain ⟨j, want⟩ := g
    simp only at H
    cases hd : (ops[j]?).bind (·.dst) with
    | none =>
      rw [hd] at H
      have hy : yieldE ops ρ j = none := by unfold yieldE; rw [hd]
      simp only [wantE, hy]; exact H
    | some d =>
      rw [hd] at H; simp only at H
      unfold guardV at H
      cases hv : ρ d with
      | bool b =>
        have hy : yieldE ops ρ j = some b := by unfold yieldE; rw [hd]; simp only [hv]
        rw [hv] at H; simp only at H
        simp only [wantE, hy]
        cases b <;> cases want <;> simp [ifB] at H ⊢ <;> rw [upd_self hv] at H <;> exact H
      | _ =>
        have hy : yieldE ops ρ j = none := by unfold yieldE; rw [hd]; simp only [hv]
        rw [hv] at H; simp only [wantE, hy]; exact H
end
section
variable {P : Program} {n : Nat} {ρ : Env} {a : Act} {w : World} {h : Heap} {K : Value → Heap → Prop} {Q : Exit → Act → World → Prop} {r : Option Nat}
def plainOp (o : Oper) : Bool := match o.op with | .defer _ => false | .select .. => false | _ => true
def opOk (n : Nat) (o : Oper) : Bool := plainOp o && (match o.dst with | some d => decide (d < n) | none => true)
theorem opOk_dst {o : Oper} (ho : opOk n o = true) : ∀ d, o.dst = some d → d < n := by
  intro d hd; unfold opOk at ho; rw [hd] at ho; simp at ho; exact ho.2
theorem opOk_defer {o : Oper} (ho : opOk n o = true) : ∀ c, o.op ≠ .defer c := by
  intro c hc; unfold opOk plainOp at ho; rw [hc] at ho; simp at ho
theorem op_wpIn {o : Oper} (H : OpS P (evo ρ) o h K) (hR : Rl n a.tmps ρ) (hw : w.heap = h) (ho : opOk n o = true) {next : Act → World → Prop}
    (hnext : ∀ v w', K v w'.heap → Kw w w' → next (a.put o.dst v) w') : o.wpIn (FW r) 0 P a w next Q := by
  refine ⟨fun _ _ => trivial, ?_⟩
  rw [Oper.semAt_eq _ _ _ (opOk_defer ho), hR.eval]
  obtain ⟨nx, w', hrun, hn⟩ := H w hw
  rw [hrun]
  have hcall : ∀ {e : Ending} {w'' : World}, onH w K e w'' → (match e, w'' with
      | .returned v, w'' => next (a.put o.dst v) w''
      | .panicked chain, w'' => Q (.panic chain) a w''
      | .outgrown, _ => LetsOut Q) := by
    intro e w'' x
    cases e <;> first | exact hnext _ _ x.1 x.2 | exact x.elim
  cases nx <;> simp only [Oper.uponIn]
  case value v => exact hnext _ _ hn.1 hn.2
  case skip => exact hnext _ _ hn.1 hn.2
  case enter f args => exact ⟨by simp [FW], (callsIn_FW hn).mono fun e w'' x => hcall x⟩
  case round l f tmps assign body => exact ⟨by simp [FW], (roundIn_FW hn).mono fun e w'' x => hcall x⟩
  all_goals exact hn.elim
def SmT (ws : List Nat) (t t' : Array Value) : Prop := ∀ j, j ∉ ws → t'.getD j undef = t.getD j undef
theorem SmT.refl (ws : List Nat) (t : Array Value) : SmT ws t t := fun _ _ => rfl
theorem SmT.trans {ws : List Nat} {a b c : Array Value} (h1 : SmT ws a b) (h2 : SmT ws b c) : SmT ws a c := fun j hj => (h2 j hj).trans (h1 j hj)
theorem SmT.mono {ws ws' : List Nat} {a b : Array Value} (h : SmT ws a b) (hs : ∀ j ∈ ws, j ∈ ws') : SmT ws' a b := fun j hj => h j (fun x => hj (hs j x))
theorem SmT.put {ws : List Nat} (a : Act) (d : Option Nat) (v : Value) (hd : ∀ j, d = some j → j ∈ ws) : SmT ws a.tmps (a.put d v).tmps := by
  intro j hj
  cases d with
  | none => rfl
  | some d =>
    have : d ≠ j := fun e => hj (by subst e; exact hd _ rfl)
    simp [Act.put, Array.getD_eq_getD_getElem?, Array.getElem?_setIfInBounds_ne this]
def pstep (P : Program) (ops : Array Oper) (i : Nat) (ρ : Env) (h : Heap) (K : Env → Heap → Prop) : Prop :=
  match ops[i]? with
  | none => K ρ h
  | some o => if wantE ops ρ o.guard then vop P (evo ρ) o h (fun v h' => K (putE ρ o.dst v) h') else K (putE ρ o.dst undefV) h
theorem pstep_wpOpIn {ops : Array Oper} {i : Nat} {K : Env → Heap → Prop} (H : pstep P ops i ρ h K) (hR : Rl n a.tmps ρ) (hw : w.heap = h) (ho : ∀ o, ops[i]? = some o → opOk n o = true)
    {ws : List Nat} (hws : ∀ o, ops[i]? = some o → ∀ d, o.dst = some d → d ∈ ws)
    {next : Act → World → Prop} (hnext : ∀ ρ' a' w', K ρ' w'.heap → Rl n a'.tmps ρ' → SmT ws a.tmps a'.tmps → a'.defers = a.defers → Kw w w' → next a' w') : wpOpIn (FW r) 0 P ops Q i next a w := by
  unfold pstep at H
  unfold wpOpIn
  cases hi : ops[i]? with
  | none => rw [hi] at H; subst hw; exact hnext ρ a w H hR (SmT.refl _ _) rfl (Kw.refl _)
  | some o =>
    rw [hi] at H
    simp only at H ⊢
    rw [wanted_eq hR]
    split
    · rename_i hwt
      rw [if_pos hwt] at H
      exact op_wpIn (vop_sound o (fun _ => rfl) H) hR hw (ho o hi) fun v w' hk hkd => hnext _ _ w' hk (hR.put v (opOk_dst (ho o hi))) (SmT.put _ _ _ (hws o hi)) (put_defers _ _) hkd
    · rename_i hwt
      rw [if_neg hwt] at H
      subst hw
      exact ⟨fun _ _ => trivial, hnext _ _ w H (hR.put _ (opOk_dst (ho o hi))) (SmT.put _ _ _ (hws o hi)) (put_defers _ _) (Kw.refl _)⟩
theorem aggF_out {n : Nat} {v : Value} {F : Value → Prop} (H : aggF n v F) : F v := by
  unfold aggF at H
  split at H
  · obtain ⟨cs, e, H⟩ := asAgg_out H
    rw [e]
    unfold sizeH at H
    split at H
    · rename_i hn
      have := elemsH_out _ _ _ H
      have hn := Nat.eq_of_beq_eq_true hn
      simp only [List.reverse_nil, List.nil_append, List.drop_zero] at this
      rw [List.take_of_length_le (by simp [hn])] at this
      exact this
    · exact H.elim
  · exact H
theorem typedV_out {P : Program} {t : TypeId} {v : Value} {F : Value → Prop} (H : typedV P t v F) : F v := by
  unfold typedV at H
  split at H
  · obtain ⟨_, e, H⟩ := asBool_out H; rw [e]; exact H
  · obtain ⟨_, e, H⟩ := asInt_out H; rw [e]; exact H
  · obtain ⟨_, e, H⟩ := asStr_out H; rw [e]; exact H
  · obtain ⟨_, _, _, e, H⟩ := asSlice_out H; rw [e]; exact H
  · obtain ⟨_, e, H⟩ := asPtrO_out H; rw [e]; exact H
  · obtain ⟨_, e, H⟩ := asMap_out H; rw [e]; exact H
  · exact aggF_out H
  · exact aggF_out H
  · exact H
theorem tyO_out {P : Program} {o : Oper} {v : Value} {F : Value → Prop} (H : tyO P o v F) : F v := by
  unfold tyO at H
  split at H
  · exact H
  · exact H
  · exact typedV_out H
def pstepT (P : Program) (ops : Array Oper) (i : Nat) (ρ : Env) (h : Heap) (K : Env → Heap → Prop) : Prop :=
  match ops[i]? with
  | none => K ρ h
  | some o => if wantE ops ρ o.guard then vop P (evo ρ) o h (fun v h' => tyO P o v fun v => K (putE ρ o.dst v) h') else K (putE ρ o.dst undefV) h
theorem pstepT_wpOpIn {ops : Array Oper} {i : Nat} {K : Env → Heap → Prop} (H : pstepT P ops i ρ h K) (hR : Rl n a.tmps ρ) (hw : w.heap = h) (ho : ∀ o, ops[i]? = some o → opOk n o = true)
    {ws : List Nat} (hws : ∀ o, ops[i]? = some o → ∀ d, o.dst = some d → d ∈ ws)
    {next : Act → World → Prop} (hnext : ∀ ρ' a' w', K ρ' w'.heap → Rl n a'.tmps ρ' → SmT ws a.tmps a'.tmps → a'.defers = a.defers → Kw w w' → next a' w') : wpOpIn (FW r) 0 P ops Q i next a w := by
  unfold pstepT at H
  unfold wpOpIn
  cases hi : ops[i]? with
  | none => rw [hi] at H; subst hw; exact hnext ρ a w H hR (SmT.refl _ _) rfl (Kw.refl _)
  | some o =>
    rw [hi] at H
    simp only at H ⊢
    rw [wanted_eq hR]
    split
    · rename_i hwt
      rw [if_pos hwt] at H
      exact op_wpIn (vop_sound o (fun _ => rfl) H) hR hw (ho o hi) fun v w' hk hkd => hnext _ _ w' (tyO_out hk) (hR.put v (opOk_dst (ho o hi))) (SmT.put _ _ _ (hws o hi)) (put_defers _ _) hkd
    · rename_i hwt
      rw [if_neg hwt] at H
      subst hw
      exact ⟨fun _ _ => trivial, hnext _ _ w H (hR.put _ (opOk_dst (ho o hi))) (SmT.put _ _ _ (hws o hi)) (put_defers _ _) (Kw.refl _)⟩
def opsOk (n : Nat) (ops : Array Oper) : Bool := ops.toList.all (opOk n)
theorem opsOk_at {ops : Array Oper} (ho : opsOk n ops = true) (i : Nat) (o : Oper) (hi : ops[i]? = some o) : opOk n o = true := by
  unfold opsOk at ho; rw [List.all_eq_true] at ho
  exact ho o (Array.mem_toList_iff.2 (Array.mem_of_getElem? hi))
theorem vlist_wpOpsIn {ops : Array Oper} (ho : opsOk n ops = true) {ws : List Nat} (hws : ∀ (i : Nat) (o : Oper), ops[i]? = some o → ∀ d, o.dst = some d → d ∈ ws) {K : Env → Heap → Prop} (l : List Oper) : ∀ (k : Nat), (∀ j, l[j]? = ops[k + j]?) → ∀ (ρ : Env) (h : Heap) (a : Act) (w : World),
    vlist P ops l ρ h K → Rl n a.tmps ρ → w.heap = h →
    (∀ ρ' a' w', K ρ' w'.heap → Rl n a'.tmps ρ' → SmT ws a.tmps a'.tmps → a'.defers = a.defers → Kw w w' → Q .normal a' w') → wpOpsIn (FW r) 0 P ops Q (List.range' k l.length) a w := by
  induction l with
  | nil => intro k _ ρ h a w H hR hw hQ; subst hw; exact hQ ρ a w H hR (SmT.refl _ _) rfl (Kw.refl _)
  | cons o l ih =>
    intro k hk ρ h a w H hR hw hQ
    have h0 : ops[k]? = some o := by simpa using (hk 0).symm
    have ih' := ih (k + 1) (fun j => by have := hk (j + 1); simpa [Nat.add_assoc, Nat.add_comm 1 j] using this)
    simp only [List.length_cons, List.range'_succ, wpOpsIn_cons]
    have H := vguard_out H
    refine pstepT_wpOpIn (n := n) (K := fun ρ' h' => vlist P ops l ρ' h' K) ?_ hR hw (fun o' ho' => opsOk_at ho k o' ho') (hws k) ?_
    · unfold pstepT; rw [h0]; exact H
    · intro ρ' a' w' hl hR' hs hd hkd
      refine ih' ρ' _ a' w' hl hR' rfl ?_
      intro ρ'' a'' w'' hK hR'' hs' hd' hkd'
      exact hQ ρ'' a'' w'' hK hR'' (hs.trans hs') (hd'.trans hd) (hkd.trans hkd')
end
end
section
section
variable {P : Program} {h : Heap} {K : Value → Heap → Prop}
theorem opH_congr {ρ ρ' : Operand → Value} {o : Oper} (hp0 : plainOp o = true) (hh : ∀ x ∈ o.op.operands, ρ x = ρ' x) : opH P ρ o h K = opH P ρ' o h K := by
  unfold opH
  rw [execOp_congr o (fun cs b e => by unfold plainOp at hp0; rw [e] at hp0; simp at hp0) hh]
theorem vbin_congr {ρ ρ' : Operand → Value} {op : BinOp} {xt yt : TypeId} {x y : Operand} {o : Oper} (hx : ρ x = ρ' x) (hy : ρ y = ρ' y) (ho : opH P ρ o h K = opH P ρ' o h K) :
    vbin P op xt yt x y ρ o h K = vbin P op xt yt x y ρ' o h K := by
  unfold vbin; simp only [hx, hy, ho]
theorem vop_congr {ρ ρ' : Operand → Value} {o : Oper} (hp0 : plainOp o = true) (hh : ∀ x ∈ o.op.operands, ρ x = ρ' x) : vop P ρ o h K = vop P ρ' o h K := by
  have ho := opH_congr (P := P) (h := h) (K := K) hp0 hh
  unfold vop
  split
  case h_1 x hx | h_2 x hx | h_5 t x hx | h_8 t x hx | h_10 x hx | h_12 op xt x hx | h_13 s d x hx | h_14 t x hx | h_19 t x f hx | h_20 t x f hx | h_25 x i hx =>
    rw [hx] at hh
    have e : ρ x = ρ' x := hh x (by simp [Op.operands])
    simp only [e, ho]
  case h_3 c a b hx =>
    rw [hx] at hh
    have e1 : ρ c = ρ' c := hh c (by simp [Op.operands])
    have e2 : ρ a = ρ' a := hh a (by simp [Op.operands])
    have e3 : ρ b = ρ' b := hh b (by simp [Op.operands])
    simp only [e1, e2, e3]
  case h_4 | h_16 => rfl
  case h_6 t parts hx =>
    rw [hx] at hh
    have e : (parts.toList.map fun p => (p.1, ρ p.2)) = (parts.toList.map fun p => (p.1, ρ' p.2)) := by
      apply List.map_congr_left
      intro p hp1
      have : ρ p.2 = ρ' p.2 := hh p.2 (by simp only [Op.operands]; simp; exact ⟨p.1, by simpa using hp1⟩)
      rw [this]
    simp only [e]
  case h_7 t len parts hx =>
    rw [hx] at hh
    have e : (parts.toList.map fun p => (p.1, ρ p.2)) = (parts.toList.map fun p => (p.1, ρ' p.2)) := by
      apply List.map_congr_left
      intro p hp1
      have : ρ p.2 = ρ' p.2 := hh p.2 (by simp only [Op.operands]; simp; exact ⟨p.1, by simpa using hp1⟩)
      rw [this]
    simp only [e]
  case h_9 t x y hx =>
    rw [hx] at hh
    have e1 : ρ x = ρ' x := hh x (by simp [Op.operands])
    have e2 : ρ y = ρ' y := hh y (by simp [Op.operands])
    simp only [e1, e2]
  case h_11 op xt x y yt hx =>
    rw [hx] at hh
    have e1 : ρ x = ρ' x := hh x (by simp [Op.operands])
    have e2 : ρ y = ρ' y := hh y (by simp [Op.operands])
    exact vbin_congr e1 e2 ho
  case h_15 fn first captured hx =>
    rw [hx] at hh
    have e1 : mapV ρ first = mapV ρ' first := by unfold mapV; congr 1; apply List.map_congr_left; intro x hx1; exact hh x (by simp [Op.operands, (Array.mem_toList_iff.1 hx1)])
    have e2 : mapV ρ captured = mapV ρ' captured := by unfold mapV; congr 1; apply List.map_congr_left; intro x hx1; exact hh x (by simp [Op.operands, (Array.mem_toList_iff.1 hx1)])
    simp only [e1, e2]
  case h_17 t x y hx | h_21 t x y hx | h_22 t x y hx | h_23 t x y ok hx =>
    rw [hx] at hh
    have e1 : ρ x = ρ' x := hh x (by simp [Op.operands])
    have e2 : ρ y = ρ' y := hh y (by simp [Op.operands])
    simp only [e1, e2]
  case h_18 t x lo hi mx hx =>
    rw [hx] at hh
    have e1 : ρ x = ρ' x := hh x (by simp [Op.operands])
    have e2 : lo.map ρ = lo.map ρ' := by cases lo with | none => rfl | some l => simp only [Option.map_some]; rw [hh l (by simp [Op.operands])]
    have e3 : hi.map ρ = hi.map ρ' := by cases hi with | none => rfl | some l => simp only [Option.map_some]; rw [hh l (by simp [Op.operands])]
    have e4 : mx.map ρ = mx.map ρ' := by cases mx with | none => rfl | some l => simp only [Option.map_some]; rw [hh l (by simp [Op.operands])]
    simp only [e1, e2, e3, e4]
  case h_24 t m k x hx =>
    rw [hx] at hh
    have e1 : ρ m = ρ' m := hh m (by simp [Op.operands])
    have e2 : ρ k = ρ' k := hh k (by simp [Op.operands])
    have e3 : ρ x = ρ' x := hh x (by simp [Op.operands])
    simp only [e1, e2, e3]
  case h_26 b args argTypes hx =>
    rw [hx] at hh
    have e1 : args.toList.map ρ = args.toList.map ρ' := by apply List.map_congr_left; intro x hx1; exact hh x (by simp [Op.operands, Call.operands, (Array.mem_toList_iff.1 hx1)])
    unfold vbuiltin
    simp only [e1, ho]
  case h_27 f args argTypes hx =>
    rw [hx] at hh
    have e1 : mapV ρ args = mapV ρ' args := by unfold mapV; congr 1; apply List.map_congr_left; intro x hx1; exact hh x (by simp [Op.operands, Call.operands, (Array.mem_toList_iff.1 hx1)])
    have e2 : ρ f = ρ' f := hh f (by simp [Op.operands, Call.operands])
    simp only [e1, e2]
  case h_28 => exact ho
theorem evo_put {ρ : Env} {d : Option Nat} {v : Value} {x : Operand} (hx : ∀ j, d = some j → x ≠ .tmp j) : evo (putE ρ d v) x = evo ρ x := by
  cases d with
  | none => rfl
  | some d => cases x with
    | tmp j => exact upd_ne _ _ (fun e => hx d rfl (by rw [e]))
    | _ => rfl
theorem vop_put {ρ : Env} {ops : Array Oper} {o : Oper} {d : Option Nat} {v : Value} (hp0 : plainOp o = true) (hd : ∀ j, d = some j → j ∉ o.looksAt ops) :
    vop P (evo (putE ρ d v)) o h K = vop P (evo ρ) o h K := by
  refine vop_congr hp0 fun x hx => evo_put fun j hj e => hd j hj ?_
  subst e
  unfold Oper.looksAt
  exact List.mem_append.2 (.inl (List.mem_filterMap.2 ⟨_, Array.mem_toList_iff.2 hx, rfl⟩))
theorem wantE_put {ρ : Env} {ops : Array Oper} {o : Oper} {d : Option Nat} {v : Value} (hd : ∀ j, d = some j → j ∉ o.looksAt ops) :
    wantE ops (putE ρ d v) o.guard = wantE ops ρ o.guard := by
  unfold wantE
  cases hg : o.guard with
  | none => rfl
  | some g =>
    obtain ⟨j, want⟩ := g
    have e : yieldE ops (putE ρ d v) j = yieldE ops ρ j := by
      unfold yieldE
      cases hs : (ops[j]?).bind (·.dst) with
      | none => rfl
      | some s =>
        simp only
        cases d with
        | none => rfl
        | some d =>
          have : s ≠ d := by
            intro e; subst e
            refine hd s rfl ?_
            unfold Oper.looksAt
            rw [hg]; simp only [hs]; simp
          rw [show putE ρ (some d) v s = ρ s from upd_ne _ _ this]
    simp only [e]
theorem putE_comm (ρ : Env) {x y : Option Nat} (v u : Value) (hne : ∀ d, x = some d → y ≠ some d) : putE (putE ρ x v) y u = putE (putE ρ y u) x v := by
  cases x with
  | none => rfl
  | some x => cases y with
    | none => rfl
    | some y =>
      have hxy : x ≠ y := fun e => hne x rfl (by rw [e])
      funext j
      simp only [putE]
      by_cases e1 : j = x
      · subst e1; rw [upd_ne _ _ hxy, upd_same, upd_same]
      · by_cases e2 : j = y
        · subst e2; rw [upd_same, upd_ne _ _ e1, upd_same]
        · rw [upd_ne _ _ e2, upd_ne _ _ e1, upd_ne _ _ e1, upd_ne _ _ e2]
end
end
section
section
variable {P : Program} {h : Heap} {ρ : Operand → Value} {G : Value → Prop}
def RdAs (P : Program) (ρ : Operand → Value) (o : Oper) (L : List (Addr × Value)) (v : Value) : Prop :=
  ∀ h : Heap, (∀ x ∈ L, cellAt h x.1 = some x.2) → ∀ K : Value → Heap → Prop, K v h → vop P ρ o h K
theorem intOp_read {k : IntKind} {op : BinOp} {a b : Int} (H : intOp k op a b G) : ∃ v, G v ∧ ∀ G' : Value → Prop, G' v → intOp k op a b G' := by
  cases op <;> simp only [intOp] at H ⊢ <;> first
    | exact ⟨_, H, fun _ x => x⟩
    | exact ⟨_, H.2, fun _ x => ⟨H.1, x⟩⟩
    | exact H.elim
theorem shOp_read {k : IntKind} {op : BinOp} {a b : Int} (H : shOp k op a b G) : ∃ v, G v ∧ ∀ G' : Value → Prop, G' v → shOp k op a b G' := by
  cases op <;> simp only [shOp] at H ⊢ <;> first
    | exact ⟨_, H.2, fun _ x => ⟨H.1, x⟩⟩
    | exact H.elim
theorem eqvH_read {t : TypeId} {x y : Value} {F : Bool → Prop} (H : eqvH P t x y F) : ∃ b, F b ∧ ∀ F' : Bool → Prop, F' b → eqvH P t x y F' := by
  unfold eqvH at *
  split at H
  · exact H.elim
  · rename_i hg
    obtain ⟨a, rfl, H⟩ := asAgg_out H
    split at H
    · rename_i b hb
      exact ⟨b, H, fun F' x => by simp only [hg, asAgg, hb]; simpa using x⟩
    · exact H.elim
theorem bound_read {v : Option Value} {d m : Nat} {F : Nat → Prop} (H : boundH none v d m F) : ∃ n, F n ∧ ∀ F' : Nat → Prop, F' n → boundH none v d m F' := by
  rcases boundH_out H with ⟨rfl, H1⟩ | ⟨k, i, rfl, h0, h1, H1⟩
  · exact ⟨d, H1, fun _ x => x⟩
  · exact ⟨_, H1, fun _ x => ⟨h0, h1, x⟩⟩
theorem vslice_read {t : TypeId} {x : Value} {lo hi mx : Option Value} (H : vslice P t x lo hi mx G) : ∃ v, G v ∧ ∀ G' : Value → Prop, G' v → vslice P t x lo hi mx G' := by
  unfold vslice at *
  split at H
  · split at H
    · exact H.elim
    · rename_i hm
      obtain ⟨s, rfl, H1⟩ := asStr_out H
      obtain ⟨a, H2, f1⟩ := bound_read H1
      obtain ⟨b, H3, f2⟩ := bound_read H2
      exact ⟨_, H3, fun G' x => by rw [if_neg hm]; simp only [asStr]; apply f1; apply f2; exact x⟩
  · split at H
    · rename_i ht
      obtain ⟨a, len, cap, rfl, H1⟩ := asSlice_out H
      obtain ⟨m, H2, f1⟩ := bound_read H1
      obtain ⟨b, H3, f2⟩ := bound_read H2
      obtain ⟨c, H4, f3⟩ := bound_read H3
      exact ⟨_, H4, fun G' x => by simp only [ht, if_true, asSlice, asPtr]; apply f1; apply f2; apply f3; exact x⟩
    · exact H.elim
  · split at H
    · rename_i ht
      obtain ⟨a, rfl, H1⟩ := asPtr_out H
      obtain ⟨m, H2, f1⟩ := bound_read H1
      obtain ⟨b, H3, f2⟩ := bound_read H2
      obtain ⟨c, H4, f3⟩ := bound_read H3
      exact ⟨_, H4, fun G' x => by simp only [ht, if_true, asSlice, asPtr]; apply f1; apply f2; apply f3; exact x⟩
    · exact H.elim
  · exact H.elim
theorem cellsT_read {t : TypeId} {v : Value} {F : List Value → Prop} (H : cellsT P t v F) : F v.cells.toList ∧ ∀ F' : List Value → Prop, F' v.cells.toList → cellsT P t v F' := by
  refine ⟨cellsT_out H, fun F' x => ?_⟩
  unfold cellsT at *
  split at H
  · rename_i ht
    simp only [ht, if_true]; exact (aggC_out H).2 _ x
  · rename_i ht
    simp only [ht]
    have e := (oneC_cells H).1
    rw [e] at x
    exact oneC_mono (fun _ => by simpa using x) H
theorem fillH_read {place : Nat → Option (Nat × TypeId)} (parts : List (Nat × Value)) : ∀ (cells : List Value) (F : List Value → Prop), fillH P place cells parts F →
    ∃ cs, F cs ∧ ∀ F' : List Value → Prop, F' cs → fillH P place cells parts F' := by
  induction parts with
  | nil => intro cells F H; exact ⟨cells, H, fun _ x => x⟩
  | cons p rest ih =>
    obtain ⟨i, v⟩ := p
    intro cells F H
    unfold fillH at H
    split at H
    · exact H.elim
    · rename_i off t hp1
      obtain ⟨H, f1⟩ := cellsT_read H
      split at H
      · rename_i hs
        obtain ⟨cs, h1, h2⟩ := ih _ _ H
        refine ⟨cs, h1, fun F' x => ?_⟩
        unfold fillH
        simp only [hp1]
        exact f1 _ (by rw [if_pos hs]; exact h2 _ x)
      · exact H.elim
theorem vbin_read {op : BinOp} {xt yt : TypeId} {x y : Operand} {o : Oper} (hr : isRead P { o with op := .binOp op xt x y yt } = true) (H : vbin P op xt yt x y ρ o h (fun v _ => G v)) :
    ∃ v, G v ∧ ∀ (h' : Heap) (K' : Value → Heap → Prop), K' v h' → vbin P op xt yt x y ρ o h' K' := by
  unfold isRead at hr
  simp only at hr
  unfold vbin at *
  cases hu : und P xt with
  | int k =>
    rw [hu] at H hr
    simp only at H ⊢
    split at H
    · split at H
      · obtain ⟨a, ha, H⟩ := asInt_out H
        obtain ⟨b, hb, H⟩ := asInt_out H
        obtain ⟨v, H, f⟩ := shOp_read H
        exact ⟨v, H, fun h' K' x => by simp only [ha, hb, asInt, if_true]; exact f (fun v => K' v h') x⟩
      · exact H.elim
    · split at H
      · obtain ⟨a, ha, H⟩ := asInt_out H
        obtain ⟨b, hb, H⟩ := asInt_out H
        obtain ⟨v, H, f⟩ := shOp_read H
        exact ⟨v, H, fun h' K' x => by simp only [ha, hb, asInt, if_true]; exact f (fun v => K' v h') x⟩
      · exact H.elim
    · obtain ⟨a, ha, H⟩ := asInt_out H
      obtain ⟨b, hb, H⟩ := asInt_out H
      obtain ⟨v, H, f⟩ := intOp_read H
      exact ⟨v, H, fun h' K' x => by simp only [ha, hb, asInt, if_true]; exact f (fun v => K' v h') x⟩
  | bool =>
    rw [hu] at H hr
    simp only at H ⊢
    split at H
    · obtain ⟨a, ha, H⟩ := asBool_out H
      obtain ⟨b, hb, H⟩ := asBool_out H
      exact ⟨_, H, fun h' K' x => by simp only [ha, hb, asBool]; exact x⟩
    · obtain ⟨a, ha, H⟩ := asBool_out H
      obtain ⟨b, hb, H⟩ := asBool_out H
      exact ⟨_, H, fun h' K' x => by simp only [ha, hb, asBool]; exact x⟩
    · exact H.elim
  | string =>
    rw [hu] at H hr
    simp only at H hr ⊢
    split at H
    · obtain ⟨a, ha, H⟩ := asStr_out H
      obtain ⟨b, hb, H⟩ := asStr_out H
      exact ⟨_, H, fun h' K' x => by simp only [ha, hb, asStr]; exact x⟩
    · obtain ⟨a, ha, H⟩ := asStr_out H
      obtain ⟨b, hb, H⟩ := asStr_out H
      exact ⟨_, H, fun h' K' x => by simp only [ha, hb, asStr]; exact x⟩
    · obtain ⟨a, ha, H⟩ := asStr_out H
      obtain ⟨b, hb, H⟩ := asStr_out H
      exact ⟨_, H.2, fun h' K' x => by simp only [ha, hb, asStr]; exact ⟨H.1, x⟩⟩
    · split at hr <;> simp_all
  | pointer e =>
    rw [hu] at H hr
    simp only at H hr ⊢
    split at H
    · obtain ⟨a, ha, H⟩ := asPtrO_out H
      exact ⟨_, H, fun h' K' x => by simp only [ha, asPtrO]; exact x⟩
    · obtain ⟨a, ha, H⟩ := asPtrO_out H
      exact ⟨_, H, fun h' K' x => by simp only [ha, asPtrO]; exact x⟩
    · simp_all
    · simp_all
    · split at hr <;> simp_all
  | slice e =>
    rw [hu] at H hr
    simp only at H hr ⊢
    split at H
    · obtain ⟨a, l, c, ha, H⟩ := asSlice_out H
      exact ⟨_, H, fun h' K' x => by simp only [ha, asSlice]; exact x⟩
    · obtain ⟨a, l, c, ha, H⟩ := asSlice_out H
      exact ⟨_, H, fun h' K' x => by simp only [ha, asSlice]; exact x⟩
    · split at hr <;> simp_all
  | func e1 e2 e3 =>
    rw [hu] at H hr
    simp only at H hr ⊢
    split at H
    · rcases asFnNil_out H with ⟨ha, H⟩ | ⟨f, a, b, ha, H⟩
      · exact ⟨_, H, fun h' K' x => by simp only [ha, asFnNil]; exact x⟩
      · exact ⟨_, H, fun h' K' x => by simp only [ha, asFnNil]; exact x⟩
    · rcases asFnNil_out H with ⟨ha, H⟩ | ⟨f, a, b, ha, H⟩
      · exact ⟨_, H, fun h' K' x => by simp only [ha, asFnNil]; exact x⟩
      · exact ⟨_, H, fun h' K' x => by simp only [ha, asFnNil]; exact x⟩
    · split at hr <;> simp_all
  | struct fs =>
    rw [hu] at H hr
    simp only at H hr ⊢
    split at H
    · obtain ⟨b, H, f⟩ := eqvH_read H
      exact ⟨_, H, fun h' K' x => f (fun b => K' (.bool b) h') x⟩
    · obtain ⟨b, H, f⟩ := eqvH_read H
      exact ⟨_, H, fun h' K' x => f (fun b => K' (.bool (!b)) h') x⟩
    · exact H.elim
  | array n e =>
    rw [hu] at H hr
    simp only at H hr ⊢
    split at H
    · obtain ⟨b, H, f⟩ := eqvH_read H
      exact ⟨_, H, fun h' K' x => f (fun b => K' (.bool b) h') x⟩
    · obtain ⟨b, H, f⟩ := eqvH_read H
      exact ⟨_, H, fun h' K' x => f (fun b => K' (.bool (!b)) h') x⟩
    · exact H.elim
  | _ => rw [hu] at hr; simp at hr
theorem vop_read {o : Oper} (hr : isRead P o = true) (hn : ∀ t x, o.op ≠ .load t x) (H : vop P ρ o h (fun v _ => G v)) : ∃ v, G v ∧ RdAs P ρ o [] v := by
  unfold vop at H
  unfold RdAs
  split at H
  case h_1 x hx | h_2 x hx => exact ⟨_, H, fun h' _ K' k => by unfold vop; rw [hx]; exact k⟩
  case h_3 c a b hx =>
    obtain ⟨t, ht, H⟩ := asBool_out H
    refine ⟨if t then ρ a else ρ b, ?_, fun h' _ K' k => ?_⟩
    · cases t <;> exact H
    · unfold vop; rw [hx]; simp only [ht, asBool]; cases t <;> exact k
  case h_4 t hx | h_16 t hx => unfold isRead at hr; rw [hx] at hr; simp at hr
  case h_5 t x hx | h_24 t m k x hx => unfold isRead at hr; rw [hx] at hr; simp at hr
  case h_6 t parts hx =>
    split at H
    · rename_i hz
      split at H
      · rename_i fields hu
        split at H
        · exact H.elim
        · rename_i hall
          obtain ⟨cs, H, f⟩ := fillH_read _ _ _ H
          refine ⟨_, H, fun h' _ K' k => ?_⟩
          unfold vop; rw [hx]; simp only [hz, if_true, hu, if_neg hall]
          exact f (fun cs => K' (.agg cs.toArray) h') k
      · rename_i n elem hu
        split at H
        · exact H.elim
        · rename_i hall
          obtain ⟨cs, H, f⟩ := fillH_read _ _ _ H
          refine ⟨_, H, fun h' _ K' k => ?_⟩
          unfold vop; rw [hx]; simp only [hz, if_true, hu, if_neg hall]
          exact f (fun cs => K' (.agg cs.toArray) h') k
      · exact H.elim
    · exact H.elim
  case h_7 t len parts hx => unfold isRead at hr; rw [hx] at hr; simp at hr
  case h_8 t x hx => exact absurd hx (hn _ _)
  case h_9 t x y hx => unfold isRead at hr; rw [hx] at hr; simp at hr
  case h_10 x hx =>
    have e : ∀ X Y : Prop, nilC (ρ x) X → (Y → nilC (ρ x) Y) ∧ X := by
      intro X Y q; unfold nilC at *; split at q <;> first | exact q.elim | exact ⟨fun y => y, q⟩
    exact ⟨_, (e _ True H).2, fun h' _ K' k => by unfold vop; rw [hx]; exact (e _ _ H).1 k⟩
  case h_11 op xt x y yt hx =>
    have hr' : isRead P { o with op := .binOp op xt x y yt } = true := by rw [← hx]; exact hr
    obtain ⟨v, H, f⟩ := vbin_read hr' H
    exact ⟨v, H, fun h' _ K' k => by unfold vop; rw [hx]; exact f h' K' k⟩
  case h_12 op xt x hx =>
    split at H
    · rename_i hu
      obtain ⟨b, hb, H⟩ := asBool_out H
      exact ⟨_, H, fun h' _ K' k => by unfold vop; rw [hx]; simp only [hu, hb, asBool]; exact k⟩
    · rename_i hu
      obtain ⟨b, hb, H⟩ := asInt_out H
      exact ⟨_, H, fun h' _ K' k => by unfold vop; rw [hx]; simp only [hu, hb, asInt, if_true]; exact k⟩
    · rename_i n1 n2
      unfold isRead at hr; rw [hx] at hr; simp only at hr
      exact absurd hr (by simp)
  case h_13 s d x hx =>
    split at H
    · rename_i hu1 hu2
      obtain ⟨b, hb, H⟩ := asInt_out H
      exact ⟨_, H, fun h' _ K' k => by unfold vop; rw [hx]; simp only [hu1, hu2, hb, asInt, if_true]; exact k⟩
    · rename_i hu1 hu2
      obtain ⟨b, hb, H⟩ := asStr_out H
      exact ⟨_, H, fun h' _ K' k => by unfold vop; rw [hx]; simp only [hu1, hu2, hb, asStr]; exact k⟩
    · rename_i n1 n2
      unfold isRead at hr; rw [hx] at hr; simp only at hr
      exact absurd hr (by simp)
  case h_14 t x hx => unfold isRead at hr; rw [hx] at hr; simp at hr
  case h_15 fn first captured hx => exact ⟨_, H, fun h' _ K' k => by unfold vop; rw [hx]; exact k⟩
  case h_17 t l c hx => unfold isRead at hr; rw [hx] at hr; simp at hr
  case h_18 t x lo hi mx hx =>
    split at H
    · exact H.elim
    · rename_i hm
      obtain ⟨v, H, f⟩ := vslice_read H
      exact ⟨v, H, fun h' _ K' k => by unfold vop; rw [hx]; simp only [hm]; exact f (fun v => K' v h') k⟩
  case h_19 t x f hx =>
    split at H
    · rename_i fields hu
      split at H
      · rename_i fd hf
        split at H
        · rename_i hh
          obtain ⟨a, ha, H⟩ := asPtr_out H
          exact ⟨_, H, fun h' _ K' k => by unfold vop; rw [hx]; simp only [hu, hf, if_pos hh, ha, asPtr]; exact k⟩
        · exact H.elim
      · exact H.elim
    · exact H.elim
  case h_20 t x f hx =>
    split at H
    · rename_i fields hu
      split at H
      · rename_i fd hf
        obtain ⟨cs, ha, H⟩ := asAgg_out H
        unfold partH at H
        split at H
        · rename_i v hv
          split at H
          · rename_i hth
            exact ⟨_, H, fun h' _ K' k => by unfold vop; rw [hx]; simp only [hu, hf, ha, asAgg, partH, hv, if_pos hth]; exact k⟩
          · exact H.elim
        · exact H.elim
      · exact H.elim
    · exact H.elim
  case h_21 t x i hx =>
    split at H
    · rename_i elem hu
      obtain ⟨a, len, cap, ha, H⟩ := asSlice_out H
      obtain ⟨k, n, hi, h0, h1, H⟩ := asI_out H
      obtain ⟨ad, had, H⟩ := asPtr_out H
      cases had
      split at H
      · rename_i hth
        exact ⟨_, H, fun h' _ K' k => by unfold vop; rw [hx]; simp only [hu, ha, asSlice, hi, asI, asPtr, if_pos hth]; exact ⟨h0, h1, k⟩⟩
      · exact H.elim
    · rename_i len elem hu
      obtain ⟨a, ha, H⟩ := asPtr_out H
      obtain ⟨k, n, hi, h0, h1, H⟩ := asI_out H
      split at H
      · rename_i hth
        exact ⟨_, H, fun h' _ K' k => by unfold vop; rw [hx]; simp only [hu, ha, asPtr, hi, asI, if_pos hth]; exact ⟨h0, h1, k⟩⟩
      · exact H.elim
    · exact H.elim
  case h_22 t x i hx =>
    split at H
    · rename_i hu
      obtain ⟨s, ha, H⟩ := asStr_out H
      obtain ⟨k, n, hi, h0, h1, H⟩ := asI_out H
      exact ⟨_, H, fun h' _ K' k => by unfold vop; rw [hx]; simp only [hu, ha, asStr, hi, asI]; exact ⟨h0, h1, k⟩⟩
    · rename_i len elem hu
      obtain ⟨cs, ha, H⟩ := asAgg_out H
      obtain ⟨k, n, hi, h0, h1, H⟩ := asI_out H
      unfold partH at H
      split at H
      · rename_i v hv
        split at H
        · rename_i hth
          exact ⟨_, H, fun h' _ K' k => by unfold vop; rw [hx]; simp only [hu, ha, asAgg, hi, asI, partH, hv, if_pos hth]; exact ⟨h0, h1, k⟩⟩
        · exact H.elim
      · exact H.elim
    · exact H.elim
  case h_23 t x i ok hx => unfold isRead at hr; rw [hx] at hr; simp at hr
  case h_25 x i hx =>
    obtain ⟨vs, ha, H⟩ := asTup_out H
    unfold elemH at H
    split at H
    · rename_i v hv
      exact ⟨_, H, fun h' _ K' k => by unfold vop; rw [hx]; simp only [ha, asTup, elemH, hv]; exact k⟩
    · exact H.elim
  case h_26 b args argTypes hx =>
    have hb : b = .len := by
      cases b <;> first | rfl | exact absurd hr (by unfold isRead; rw [hx]; simp)
    subst hb
    unfold isRead at hr; rw [hx] at hr; simp only at hr
    split at hr
    · rename_i t x h1 h2
      unfold vbuiltin at H
      rw [h2] at H
      simp only [List.map_cons, List.map_nil, h1] at H
      split at H
      · rename_i e hu
        obtain ⟨a, n, c, ha, H⟩ := asSlice_out H
        exact ⟨_, H, fun h' _ K' k => by unfold vop; rw [hx]; simp only [vbuiltin, h2, List.map_cons, List.map_nil, h1, hu, ha, asSlice]; exact k⟩
      · rename_i hu
        obtain ⟨a, ha, H⟩ := asStr_out H
        exact ⟨_, H, fun h' _ K' k => by unfold vop; rw [hx]; simp only [vbuiltin, h2, List.map_cons, List.map_nil, h1, hu, ha, asStr]; exact k⟩
      · rename_i e1 e2 hu; rw [hu] at hr; simp at hr
      · rename_i n e hu
        exact ⟨_, H, fun h' _ K' k => by unfold vop; rw [hx]; simp only [vbuiltin, h2, List.map_cons, List.map_nil, h1, hu]; exact k⟩
      · exact H.elim
    · exact absurd hr (by simp)
  case h_27 f args argTypes hx => unfold isRead at hr; rw [hx] at hr; simp at hr
  case h_28 =>
    exfalso
    unfold isRead at hr
    split at hr <;> rename_i hx <;> first
      | (exact absurd hr (by decide))
      | solve_by_elim
end
end
section
section
variable {P : Program} {ops : Array Oper}
theorem asPtr_mono {v : Value} {F F' : Addr → Prop} (f : ∀ a, F a → F' a) (H : asPtr v F) : asPtr v F' := by obtain ⟨a, rfl, H2⟩ := asPtr_out H; exact f a H2
theorem asPtrO_mono {v : Value} {F F' : Option Addr → Prop} (f : ∀ a, F a → F' a) (H : asPtrO v F) : asPtrO v F' := by obtain ⟨a, rfl, H2⟩ := asPtrO_out H; exact f a H2
theorem asInt_mono {k : IntKind} {v : Value} {F F' : Int → Prop} (f : ∀ a, F a → F' a) (H : asInt k v F) : asInt k v F' := by obtain ⟨a, rfl, H2⟩ := asInt_out H; unfold asInt; simp only [if_true]; exact f a H2
theorem asI_mono {v : Value} {F F' : Int → Prop} (f : ∀ a, F a → F' a) (H : asI v F) : asI v F' := by obtain ⟨k, a, rfl, H2⟩ := asI_out H; exact f a H2
theorem asBool_mono {v : Value} {F F' : Bool → Prop} (f : ∀ a, F a → F' a) (H : asBool v F) : asBool v F' := by obtain ⟨a, rfl, H2⟩ := asBool_out H; exact f a H2
theorem asStr_mono {v : Value} {F F' : ByteArray → Prop} (f : ∀ a, F a → F' a) (H : asStr v F) : asStr v F' := by obtain ⟨a, rfl, H2⟩ := asStr_out H; exact f a H2
theorem asSlice_mono {v : Value} {F F' : Option Addr → Nat → Nat → Prop} (f : ∀ a b c, F a b c → F' a b c) (H : asSlice v F) : asSlice v F' := by obtain ⟨a, b, c, rfl, H2⟩ := asSlice_out H; exact f a b c H2
theorem asAgg_mono {v : Value} {F F' : Array Value → Prop} (f : ∀ a, F a → F' a) (H : asAgg v F) : asAgg v F' := by obtain ⟨a, rfl, H2⟩ := asAgg_out H; exact f a H2
theorem asTup_mono {v : Value} {F F' : Array Value → Prop} (f : ∀ a, F a → F' a) (H : asTup v F) : asTup v F' := by obtain ⟨a, rfl, H2⟩ := asTup_out H; exact f a H2
theorem asMap_mono {v : Value} {F F' : Option Nat → Prop} (f : ∀ a, F a → F' a) (H : asMap v F) : asMap v F' := by obtain ⟨a, rfl, H2⟩ := asMap_out H; exact f a H2
theorem asFnNil_mono {v : Value} {F F' : Bool → Prop} (f : ∀ a, F a → F' a) (H : asFnNil v F) : asFnNil v F' := by unfold asFnNil at *; split at H <;> first | exact f _ H | exact H.elim
theorem ifB_mono {b : Bool} {X Y X' Y' : Prop} (f : X → X') (g : Y → Y') (H : ifB b X Y) : ifB b X' Y' := by cases b <;> first | exact f H | exact g H
theorem ite_mono {c : Prop} [Decidable c] {X X' : Prop} (f : c → X → X') (H : if c then X else False) : if c then X' else False := by split <;> simp_all
theorem ite_mono' {c : Prop} [Decidable c] {X X' : Prop} (f : ¬c → X → X') (H : if c then False else X) : if c then False else X' := by split <;> simp_all
theorem cellsT_mono {t : TypeId} {v : Value} {F F' : List Value → Prop} (f : ∀ a, F a → F' a) (H : cellsT P t v F) : cellsT P t v F' := (cellsT_read H).2 _ (f _ (cellsT_read H).1)
theorem fillH_mono {place : Nat → Option (Nat × TypeId)} {parts : List (Nat × Value)} {cells : List Value} {F F' : List Value → Prop} (f : ∀ a, F a → F' a) (H : fillH P place cells parts F) : fillH P place cells parts F' := by
  obtain ⟨cs, h1, h2⟩ := fillH_read _ _ _ H; exact h2 _ (f _ h1)
theorem ldH_mono {h : Heap} {a : Addr} {F F' : Value → Prop} (f : ∀ v, F v → F' v) (H : ldH h a F) : ldH h a F' := by unfold ldH at *; split <;> simp_all
theorem ldN_mono {h : Heap} {a : Addr} (n : Nat) : ∀ {i : Nat} {acc : List Value} {F F' : List Value → Prop}, (∀ v, F v → F' v) → ldN h a i n acc F → ldN h a i n acc F' := by
  induction n with
  | zero => intro i acc F F' f H; exact f _ H
  | succ n ih => intro i acc F F' f H; exact ldH_mono (fun v => ih f) H
theorem stN_mono {a : Addr} (vs : List Value) : ∀ {h : Heap} {i : Nat} {F F' : Heap → Prop}, (∀ v, F v → F' v) → stN h a i vs F → stN h a i vs F' := by
  induction vs with
  | nil => intro h i F F' f H; exact f _ H
  | cons v vs ih => intro h i F F' f H; exact oneC_mono (fun ⟨a, b, c⟩ => ⟨a, b, ih f c⟩) H
theorem elemsH_mono {cs : Array Value} {F F' : List Value → Prop} (f : ∀ v, F v → F' v) : ∀ (n i : Nat) (acc : List Value), elemsH cs n i acc F → elemsH cs n i acc F' := by
  intro n
  induction n with
  | zero => intro i acc H; exact f _ H
  | succ n ih =>
    intro i acc H
    have H' : elemH cs i (fun v => elemsH cs n (i + 1) (v :: acc) F) := H
    show elemH cs i (fun v => elemsH cs n (i + 1) (v :: acc) F')
    unfold elemH at *
    split at H'
    · exact ih _ _ H'
    · exact H'.elim
theorem aggF_mono {n : Nat} {v : Value} {F F' : Value → Prop} (f : ∀ v, F v → F' v) (H : aggF n v F) : aggF n v F' := by
  unfold aggF at *
  split at H
  · refine asAgg_mono (fun cs H => ?_) H
    unfold sizeH at *
    split at H
    · exact elemsH_mono (fun _ => f _) _ _ _ H
    · exact H.elim
  · exact f _ H
theorem typedV_mono {P : Program} {t : TypeId} {v : Value} {F F' : Value → Prop} (f : ∀ v, F v → F' v) (H : typedV P t v F) : typedV P t v F' := by
  unfold typedV at *
  split
  · exact asBool_mono (fun _ => f _) (by simp_all)
  · exact asInt_mono (fun _ => f _) (by simp_all)
  · exact asStr_mono (fun _ => f _) (by simp_all)
  · exact asSlice_mono (fun _ _ _ => f _) (by simp_all)
  · exact asPtrO_mono (fun _ => f _) (by simp_all)
  · exact asMap_mono (fun _ => f _) (by simp_all)
  · exact aggF_mono f (by simp_all)
  · exact aggF_mono f (by simp_all)
  · split at H <;> first | exact f _ H | simp_all
theorem tyO_mono {P : Program} {o : Oper} {v : Value} {F F' : Value → Prop} (f : ∀ v, F v → F' v) (H : tyO P o v F) : tyO P o v F' := by
  unfold tyO at *
  split at H
  · exact f _ H
  · exact f _ H
  · exact typedV_mono f H
theorem callV_mono {v : Value} {args : Array Value} {h : Heap} {K K' : Value → Heap → Prop} (hk : ∀ v h', K v h' → K' v h') (H : callV P v args h K) : callV P v args h K' := by
  have ho : ∀ (w0 : World) e w, onH w0 K e w → onH w0 K' e w := by intro w0 e w x; cases e <;> first | exact x | exact ⟨hk _ _ x.1, x.2⟩
  unfold callV at *
  split at H
  · exact ⟨H.1, fun w hw => (H.2 w hw).mono (ho w)⟩
  · intro w hw
    obtain ⟨fn, t, a, b, h1, h2⟩ := H w hw
    exact ⟨fn, t, a, b, h1, h2.mono (ho w)⟩
  · exact H.elim
theorem extV_mono {v : Value} {args : Array Value} {h : Heap} {K K' : Value → Heap → Prop} (hk : ∀ v h', K v h' → K' v h') (H : extV P v args h K) : extV P v args h K' := by
  unfold extV at *
  split at H
  · exact hp_mono (fun nx h' x => by cases nx <;> first | exact hk _ _ x | exact x.elim) H
  · exact H.elim
theorem minmax_go_mono {f : Int → Int → Int} {k : IntKind} (ys : List Value) : ∀ {a : Int} {F F' : Int → Prop}, (∀ n, F n → F' n) → minmax.go f k a ys F → minmax.go f k a ys F' := by
  induction ys with
  | nil => intro a F F' g H; exact g _ H
  | cons y ys ih => intro a F F' g H; exact asInt_mono (fun b x => ih g x) H
theorem minmax_mono {f : Int → Int → Int} {t : TypeId} (xs : List Value) {F F' : Int → Prop} (g : ∀ n, F n → F' n) (H : minmax f P t xs F) : minmax f P t xs F' := by
  cases xs with
  | nil => exact H
  | cons x xs => cases xs with
    | nil =>
      simp only [minmax] at *
      split <;> rename_i hk <;> rw [hk] at H
      · exact asInt_mono g H
      · exact H
    | cons y ys =>
      simp only [minmax] at *
      split <;> rename_i hk <;> rw [hk] at H
      · exact asInt_mono (fun a x => minmax_go_mono _ g x) H
      · exact H
theorem opH_mono {ρ : Operand → Value} {o : Oper} {h : Heap} {K K' : Value → Heap → Prop} (hk : ∀ v h', K v h' → K' v h') (H : opH P ρ o h K) : opH P ρ o h K' := by
  refine hp_mono ?_ H
  intro nx h' x
  cases nx <;> first
    | exact hk _ _ x
    | exact x
    | (intro w hw
       refine (x w hw).mono ?_
       intro e w y; cases e <;> first | exact y | exact ⟨hk _ _ y.1, y.2⟩)
theorem intOp_mono {k : IntKind} {op : BinOp} {a b : Int} {G G' : Value → Prop} (g : ∀ v, G v → G' v) (H : intOp k op a b G) : intOp k op a b G' := by
  obtain ⟨v, h1, h2⟩ := intOp_read H; exact h2 _ (g _ h1)
theorem shOp_mono {k : IntKind} {op : BinOp} {a b : Int} {G G' : Value → Prop} (g : ∀ v, G v → G' v) (H : shOp k op a b G) : shOp k op a b G' := by
  obtain ⟨v, h1, h2⟩ := shOp_read H; exact h2 _ (g _ h1)
theorem eqvH_mono {t : TypeId} {x y : Value} {F F' : Bool → Prop} (g : ∀ v, F v → F' v) (H : eqvH P t x y F) : eqvH P t x y F' := by
  obtain ⟨v, h1, h2⟩ := eqvH_read H; exact h2 _ (g _ h1)
theorem vbin_mono {op : BinOp} {xt yt : TypeId} {x y : Operand} {ρ : Operand → Value} {o : Oper} {h : Heap} {K K' : Value → Heap → Prop} (hk : ∀ v h', K v h' → K' v h')
    (H : vbin P op xt yt x y ρ o h K) : vbin P op xt yt x y ρ o h K' := by
  unfold vbin at *
  split at H
  · split at H
    · split at H
      · exact asInt_mono (fun _ => asInt_mono fun _ => shOp_mono fun v => hk v _) H
      · exact H
    · split at H
      · exact asInt_mono (fun _ => asInt_mono fun _ => shOp_mono fun v => hk v _) H
      · exact H
    · exact asInt_mono (fun _ => asInt_mono fun _ => intOp_mono fun v => hk v _) H
  · split at H
    · exact asBool_mono (fun _ => asBool_mono fun _ => hk _ _) H
    · exact asBool_mono (fun _ => asBool_mono fun _ => hk _ _) H
    · exact H
  · split at H
    · exact asStr_mono (fun _ => asStr_mono fun _ => hk _ _) H
    · exact asStr_mono (fun _ => asStr_mono fun _ => hk _ _) H
    · exact asStr_mono (fun _ => asStr_mono fun _ x => ⟨x.1, hk _ _ x.2⟩) H
    · exact opH_mono hk H
  · split at H
    · exact asPtrO_mono (fun _ => hk _ _) H
    · exact asPtrO_mono (fun _ => hk _ _) H
    · exact asPtrO_mono (fun _ => asPtrO_mono fun _ => hp_mono hk) H
    · exact asPtrO_mono (fun _ => asPtrO_mono fun _ => hp_mono hk) H
    · exact opH_mono hk H
  · split at H
    · exact asSlice_mono (fun _ _ _ => hk _ _) H
    · exact asSlice_mono (fun _ _ _ => hk _ _) H
    · exact opH_mono hk H
  · split at H
    · exact asMap_mono (fun _ => hk _ _) H
    · exact asMap_mono (fun _ => hk _ _) H
    · exact opH_mono hk H
  · split at H
    · exact asFnNil_mono (fun _ => hk _ _) H
    · exact asFnNil_mono (fun _ => hk _ _) H
    · exact opH_mono hk H
  · split at H
    · exact eqvH_mono (fun _ => hk _ _) H
    · exact eqvH_mono (fun _ => hk _ _) H
    · exact H
  · split at H
    · exact eqvH_mono (fun _ => hk _ _) H
    · exact eqvH_mono (fun _ => hk _ _) H
    · exact H
  · exact opH_mono hk H
theorem vbuiltin_mono {b : Builtin} {argTypes : Array TypeId} {t : TypeId} {args : List Value} {ρ : Operand → Value} {o : Oper} {h : Heap} {K K' : Value → Heap → Prop} (hk : ∀ v h', K v h' → K' v h')
    (H : vbuiltin P b argTypes t args ρ o h K) : vbuiltin P b argTypes t args ρ o h K' := by
  unfold vbuiltin at *
  split at H
  · split at H
    · split at H
      · exact asSlice_mono (fun _ _ _ => hk _ _) H
      · exact asStr_mono (fun _ => hk _ _) H
      · refine asMap_mono (fun r x => ?_) H
        unfold mapAt at *
        cases r with
        | none => exact hk _ _ x
        | some r => simp only at *; split at x <;> first | exact hk _ _ x | exact x
      · exact hk _ _ H
      · exact H
    · exact H
  · split at H
    · split at H
      · exact asSlice_mono (fun _ _ _ => hk _ _) H
      · exact H
    · exact H
  · exact hp_mono hk H
  · exact hp_mono hk H
  · exact hp_mono hk H
  · exact hp_mono hk H
  · exact hp_mono hk H
  · exact hp_mono hk H
  · split at H
    · exact minmax_mono _ (fun _ => hk _ _) H
    · exact opH_mono hk H
  · split at H
    · exact minmax_mono _ (fun _ => hk _ _) H
    · exact opH_mono hk H
  · exact opH_mono hk H
theorem vslice_mono {t : TypeId} {x : Value} {lo hi mx : Option Value} {G G' : Value → Prop} (g : ∀ v, G v → G' v) (H : vslice P t x lo hi mx G) : vslice P t x lo hi mx G' := by
  obtain ⟨n, h1, h2⟩ := vslice_read H; exact h2 _ (g _ h1)
theorem vop_mono {ρ : Operand → Value} {o : Oper} {h : Heap} {K K' : Value → Heap → Prop} (hk : ∀ v h', K v h' → K' v h') (H : vop P ρ o h K) : vop P ρ o h K' := by
  unfold vop at *
  split at H
  case h_1 | h_2 | h_15 | h_16 => exact hk _ _ H
  case h_3 => exact asBool_mono (fun _ => ifB_mono (hk _ _) (hk _ _)) H
  case h_4 => split at H <;> first | exact hk _ _ H | exact H
  case h_5 => exact cellsT_mono (fun _ => hk _ _) H
  case h_6 =>
    refine ite_mono (fun _ x => ?_) H
    split at x
    · exact ite_mono' (fun _ => fillH_mono fun _ => hk _ _) x
    · exact ite_mono' (fun _ => fillH_mono fun _ => hk _ _) x
    · exact x
  case h_7 =>
    split at H
    · exact ite_mono (fun _ => fillH_mono fun _ => hk _ _) H
    · exact H
  case h_8 =>
    refine asPtr_mono (fun a => ite_mono fun _ x => ?_) H
    split at x <;> rename_i ha
    · rw [if_pos ha]; exact ldN_mono _ (fun _ => hk _ _) x
    · rw [if_neg ha]; exact ldH_mono (fun _ => hk _ _) x
  case h_9 => exact asPtr_mono (fun a => cellsT_mono fun cs => ite_mono fun _ => stN_mono _ fun _ => hk _ _) H
  case h_10 => unfold nilC at *; split at H <;> first | exact H | exact hk _ _ H
  case h_11 => exact vbin_mono hk H
  case h_12 =>
    split at H
    · exact asBool_mono (fun _ => hk _ _) H
    · exact asInt_mono (fun _ => hk _ _) H
    · exact opH_mono hk H
  case h_13 =>
    split at H
    · exact asInt_mono (fun _ => hk _ _) H
    · exact asStr_mono (fun _ => hk _ _) H
    · exact hp_mono hk H
  case h_14 => split at H <;> first | exact H | exact hk _ _ H
  case h_17 =>
    split at H
    · exact asI_mono (fun _ => asI_mono fun _ => ite_mono fun _ x => ⟨x.1, x.2.1, x.2.2.1, x.2.2.2.1, hk _ _ x.2.2.2.2⟩) H
    · exact H
  case h_18 => exact ite_mono' (fun _ => vslice_mono fun _ => hk _ _) H
  case h_19 =>
    split at H
    · split at H
      · exact ite_mono (fun _ => asPtr_mono fun _ => hk _ _) H
      · exact H
    · exact H
  case h_20 =>
    split at H
    · split at H
      · refine asAgg_mono (fun cs x => ?_) H
        unfold partH at *
        split at x
        · exact ite_mono (fun _ => hk _ _) x
        · exact x
      · exact H
    · exact H
  case h_21 =>
    split at H
    · exact asSlice_mono (fun a l c => asI_mono fun n x => ⟨x.1, x.2.1, asPtr_mono (fun _ => ite_mono fun _ => hk _ _) x.2.2⟩) H
    · exact asPtr_mono (fun a => asI_mono fun n x => ⟨x.1, x.2.1, ite_mono (fun _ => hk _ _) x.2.2⟩) H
    · exact H
  case h_22 =>
    split at H
    · exact asStr_mono (fun a => asI_mono fun n x => ⟨x.1, x.2.1, hk _ _ x.2.2⟩) H
    · refine asAgg_mono (fun a => asI_mono fun n x => ⟨x.1, x.2.1, ?_⟩) H
      have y := x.2.2
      unfold partH at *
      split at y
      · exact ite_mono (fun _ => hk _ _) y
      · exact y
    · exact H
  case h_23 => exact hp_mono hk H
  case h_24 => exact hp_mono (fun _ h' => hk _ _) H
  case h_25 => exact asTup_mono (fun vs x => by unfold elemH at *; split at x <;> first | exact hk _ _ x | exact x) H
  case h_26 => exact vbuiltin_mono hk H
  case h_27 =>
    split at H
    · exact extV_mono hk H
    · exact callV_mono hk H
  case h_28 => exact opH_mono hk H
def anyO (P : Program) (ops : Array Oper) (K : Env → Heap → Prop) : Nat → (Nat → Heap → Prop) → Array Bool → Env → Heap → Prop
  | 0, _, listed, ρ, h => Region.ready .any ops listed = [] ∧ K ρ h
  | n + 1, obl, listed, ρ, h => (Region.ready .any ops listed = [] → K ρ h) ∧
    ∀ i ∈ Region.ready .any ops listed, pstep P ops i ρ h fun ρ' h' => (h' = h ∨ obl i h') ∧ anyO P ops K n obl (listed.setIfInBounds i true) ρ' h'
theorem pstep_mono {i : Nat} {ρ : Env} {h : Heap} {K K' : Env → Heap → Prop} (hk : ∀ ρ h, K ρ h → K' ρ h) (H : pstep P ops i ρ h K) : pstep P ops i ρ h K' := by
  unfold pstep at *
  split
  · simp_all
  · rename_i o ho
    rw [ho] at H
    simp only at H
    split
    · rename_i hw; rw [if_pos hw] at H; exact vop_mono (fun v h' => hk _ _) H
    · rename_i hw; rw [if_neg hw] at H; exact hk _ _ H
theorem anyO_mono {K : Env → Heap → Prop} (n : Nat) : ∀ {obl obl' : Nat → Heap → Prop} {listed : Array Bool} {ρ : Env} {h : Heap}, (∀ i h, obl i h → obl' i h) → anyO P ops K n obl listed ρ h → anyO P ops K n obl' listed ρ h := by
  induction n with
  | zero => intro _ _ _ _ _ _ H; exact H
  | succ n ih => intro obl obl' listed ρ h hh H; exact ⟨H.1, fun i hi => pstep_mono (fun ρ h x => ⟨x.1.imp id (hh _ _), ih hh x.2⟩) (H.2 i hi)⟩
def Closed (ops : Array Oper) (listed : Array Bool) : Prop :=
  ∀ k o, listed.getD k false = true → ops[k]? = some o → ∀ e ∈ o.after, Region.binds .any e = true → listed.getD e.on false = true
theorem Closed.set {listed : Array Bool} {i : Nat} (hc : Closed ops listed) (hi : i ∈ Region.ready .any ops listed) : Closed ops (listed.setIfInBounds i true) := by
  intro k o hk ho e he hb
  by_cases hki : k = i
  · subst hki
    obtain ⟨_, o', ho', hall⟩ := mem_ready.1 hi
    rw [ho] at ho'; cases ho'
    exact getD_set_true (hall e he hb)
  · rw [getD_set_ne false (Ne.symm hki)] at hk
    exact getD_set_true (hc k o hk ho e he hb)
theorem waits_listed {listed : Array Bool} (hc : Closed ops listed) (n : Nat) : ∀ (k i : Nat), listed.getD k false = true → waitsB ops n k i = true → listed.getD i false = true := by
  induction n with
  | zero => intro k i _ h; simp [waitsB] at h
  | succ n ih =>
    intro k i hk h
    unfold waitsB at h
    split at h
    · cases h
    · rename_i o ho
      obtain ⟨e, he, hb⟩ := Array.any_eq_true'.1 h
      simp only [Bool.and_eq_true, Bool.or_eq_true, beq_iff_eq] at hb
      have h1 := hc k o hk ho e he hb.1
      rcases hb.2 with h2 | h2
      · rw [← h2]; exact h1
      · exact ih _ _ h1 h2
theorem waits_ready {listed : Array Bool} (hc : Closed ops listed) {n k i : Nat} (hk : k ∈ Region.ready .any ops listed) (hi : listed.getD i false = false) : waitsB ops n k i = false := by
  cases hw : waitsB ops n k i with
  | false => rfl
  | true =>
    exfalso
    cases n with
    | zero => simp [waitsB] at hw
    | succ n =>
      unfold waitsB at hw
      split at hw
      · cases hw
      · rename_i o ho
        obtain ⟨_, o', ho', hall⟩ := mem_ready.1 hk
        rw [ho] at ho'; cases ho'
        obtain ⟨e, he, hb⟩ := Array.any_eq_true'.1 hw
        simp only [Bool.and_eq_true, Bool.or_eq_true, beq_iff_eq] at hb
        have h1 := hall e he hb.1
        rcases hb.2 with h2 | h2
        · rw [h2, hi] at h1; cases h1
        · rw [waits_listed hc n _ _ h1 h2] at hi; cases hi
def HoldsIn (L : List (Addr × Value)) (h : Heap) : Prop := ∀ x ∈ L, cellAt h x.1 = some x.2
def YieldsL (P : Program) (ops : Array Oper) (L : List (Addr × Value)) (o : Oper) (v : Value) (ρ : Env) : Prop :=
  (wantE ops ρ o.guard = true ∧ RdAs P (evo ρ) o L v) ∨ (wantE ops ρ o.guard = false ∧ v = undefV)
theorem YieldsL.pstep {L : List (Addr × Value)} {o : Oper} {v : Value} {ρ : Env} {i : Nat} {h : Heap} {K : Env → Heap → Prop} (hy : YieldsL P ops L o v ρ) (hi : ops[i]? = some o) (hL : HoldsIn L h)
    (H : K (putE ρ o.dst v) h) : pstep P ops i ρ h K := by
  unfold Proofs.YtglgifgoojncpaaGreat.pstep; rw [hi]; simp only
  rcases hy with ⟨hw, hr⟩ | ⟨hw, rfl⟩
  · rw [if_pos hw]; exact hr h hL _ H
  · rw [if_neg (by simp [hw])]; exact H
theorem RdAs.put {L : List (Addr × Value)} {o : Oper} {v : Value} {ρ : Env} {d : Option Nat} {u : Value} (hp0 : plainOp o = true) (hd : ∀ j, d = some j → j ∉ o.looksAt ops)
    (hr : RdAs P (evo ρ) o L v) : RdAs P (evo (putE ρ d u)) o L v := fun h hL K hk => by rw [vop_put (ops := ops) hp0 hd]; exact hr h hL K hk
theorem YieldsL.put {L : List (Addr × Value)} {o : Oper} {v : Value} {ρ : Env} {d : Option Nat} {u : Value} (hp0 : plainOp o = true) (hd : ∀ j, d = some j → j ∉ o.looksAt ops)
    (hy : YieldsL P ops L o v ρ) : YieldsL P ops L o v (putE ρ d u) := by
  unfold YieldsL
  rw [wantE_put hd]
  exact hy.imp (fun ⟨a, b⟩ => ⟨a, b.put hp0 hd⟩) id
theorem pstep_put {L : List (Addr × Value)} {oi oj : Oper} {v : Value} {ρ : Env} {j : Nat} {h : Heap} {K : Env → Heap → Prop} (hj : ops[j]? = some oj) (hap : oi.apart ops oj = true)
    (hpi : plainOp oi = true) (hpj : plainOp oj = true) (hy : YieldsL P ops L oi v ρ) (H : pstep P ops j (putE ρ oi.dst v) h K) :
    pstep P ops j ρ h fun ρ' h' => YieldsL P ops L oi v ρ' ∧ K (putE ρ' oi.dst v) h' := by
  obtain ⟨h1, h2, h3⟩ := Oper.apart_spec hap
  unfold pstep at *
  rw [hj] at *
  simp only at H ⊢
  rw [wantE_put h1] at H
  split
  · rename_i hw
    rw [if_pos hw, vop_put (ops := ops) hpj h1] at H
    refine vop_mono (fun u h' x => ⟨hy.put hpi h3, ?_⟩) H
    rw [putE_comm ρ v u h2] at x; exact x
  · rename_i hw
    rw [if_neg hw] at H
    refine ⟨hy.put hpi h3, ?_⟩
    rw [putE_comm ρ v undefV h2] at H; exact H
theorem anyO_first {K : Env → Heap → Prop} {L : List (Addr × Value)} {i : Nat} {oi : Oper} {v : Value} (hi : ops[i]? = some oi) (hp0 : ∀ (j : Nat) (o : Oper), ops[j]? = some o → plainOp o = true) (fuel : Nat) :
    ∀ (obl : Nat → Heap → Prop) (listed : Array Bool) (ρ : Env) (h : Heap),
      (∀ j oj, ops[j]? = some oj → j ≠ i → listed.getD j true = false → (∀ e ∈ oj.after, Region.binds .any e = true → e.on ≠ i) → oi.apart ops oj = true) →
      Closed ops listed → i ∈ Region.ready .any ops listed → YieldsL P ops L oi v ρ → HoldsIn L h →
      anyO P ops K fuel (fun e h' => ((∀ m, waitsB ops m e i = false) → HoldsIn L h') ∧ obl e h') (listed.setIfInBounds i true) (putE ρ oi.dst v) h → anyO P ops K (fuel + 1) obl listed ρ h := by
  induction fuel with
  | zero =>
    intro obl listed ρ h _ hcl hr hy hL H
    refine ⟨fun e => (by rw [e] at hr; cases hr), fun j hj => ?_⟩
    by_cases hji : j = i
    · subst hji; exact hy.pstep hi hL ⟨.inl rfl, H⟩
    · have := ready_mono hj hji
      rw [H.1] at this
      cases this
  | succ fuel ih =>
    intro obl listed ρ h hfree hcl hr hy hL H
    refine ⟨fun e => (by rw [e] at hr; cases hr), fun j hj => ?_⟩
    by_cases hji : j = i
    · subst hji; exact hy.pstep hi hL ⟨.inl rfl, anyO_mono _ (fun _ _ x => x.2) H⟩
    · have h1 := H.2 j (ready_mono hj hji)
      obtain ⟨hjun, oj, hoj, hall⟩ := mem_ready.1 hj
      have hiun : listed.getD i false = false := by
        have h0 := (mem_ready.1 hr).1
        rcases Nat.lt_or_ge i listed.size with h' | h'
        · simp [h'] at h0 ⊢; exact h0
        · simp [Array.getElem?_eq_none h']
      have hnot : ∀ e ∈ oj.after, Region.binds .any e = true → e.on ≠ i := fun e he hb heq => by
        have h1 := hall e he hb
        rw [heq, hiun] at h1; cases h1
      have h2 := pstep_put hoj (hfree j oj hoj hji hjun hnot) (hp0 i oi hi) (hp0 j oj hoj) hy h1
      have hfree' : ∀ k ok, ops[k]? = some ok → k ≠ i → (listed.setIfInBounds j true).getD k true = false →
          (∀ e ∈ ok.after, Region.binds .any e = true → e.on ≠ i) → oi.apart ops ok = true := fun k ok hk hki hun hno => by
        refine hfree k ok hk hki ?_ hno
        by_cases hjk : j = k
        · subst hjk; exact hjun
        · rw [getD_set_ne true hjk] at hun; exact hun
      refine pstep_mono (fun ρ' h' x => ?_) h2
      obtain ⟨hy', hx, hany⟩ := x
      have hL' : HoldsIn L h' := by
        rcases hx with rfl | hx
        · exact hL
        · exact hx.1 (fun m => waits_ready hcl hj hiun)
      refine ⟨hx.imp id (fun x => x.2), ih obl (listed.setIfInBounds j true) ρ' h' hfree' (hcl.set hj) (ready_mono hr (Ne.symm hji)) hy' hL' ?_⟩
      rw [Array.setIfInBounds_comm _ _ hji]
      exact hany
end
end
end Go.Proofs.YtglgifgoojncpaaGreat
