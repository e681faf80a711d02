/- Part 1 of what the proofs of this seat rest on: see the last text of the claim. -/
import Derived.RangeFuncRecord
import Derived.RangeFuncIn
import Derived.OrdersIn
import Derived.KernelRfl
set_option linter.unusedSimpArgs false
set_option linter.unusedVariables false
set_option linter.ambiguousOpen false
set_option maxRecDepth 20000
namespace Go.Proofs.YtahpbclnkofhfaaGreat
section
abbrev Wa1:=Array Obj
abbrev Env:=Nat→Value
def Wa2 (h:Wa1) (a:Addr):Option Value:=
 match h[a.block]? with
 | some (.cells c _ _)=>if a.spot.isSome then none else c[a.off]?
 | _=>none
def Zr3 (h:Wa1) (r:Nat):Option (TypeId × Nat):=
 match h[r]? with
 | some (.cells c elem _)=>some (elem,c.size)
 | _=>none
def Wx3 (h:Wa1) (a:Addr):Bool:=
 match h[a.block]? with
 | some (.cells _ _ (lo,hi))=>lo≤a.off && a.off < hi
 | _=>false
def freezeAt (h:Wa1) (a:Addr) (n:Nat):Wa1:=
 if n=0 then h else
 h.modify a.block fun
  | .cells c elem (lo,hi)=>.cells c elem (if lo == hi then (a.off,a.off+n) else (min lo a.off,max hi (a.off+n)))
  | o=>o
def Zz6 (a:Addr) (v:Value):Obj→Obj
 | .cells c elem frozen=>.cells (if a.spot.isSome then c else c.setIfInBounds a.off v) elem frozen
 | o=>o
def setC (h:Wa1) (a:Addr) (v:Value):Wa1:=h.modify a.block (Zz6 a v)
def Kd (h h':Wa1):Prop:=h.size≤h'.size∧∀D:Nat,h[D]? = some (.deferred (some []))→h'[D]? = some (.deferred (some []))
def Wi5 (v:Value) (X:Prop):Prop:=match v with | .agg _ | .tuple _=>False | _=>X
def hp {α:Type} (P:Program):Sem α→(α→Wa1→Prop)→Wa1→Prop
 | .pure a,K,h=>K a h
 | .load _ a k,K,h=>match Wa2 h a with | some v=>hp P (k v) K h | none=>False
 | .store _ a v k,K,h=>Wi5 v ((∃u,Wa2 h a=some u)∧Wx3 h a=false∧hp P k K (setC h a v))
 | .new o k,K,h=>hp P (k h.size) K (h.push o)
 | .shape r k,K,h=>hp P (k (Zr3 h r)) K h
 | .freeze a n k,K,h=>hp P k K (freezeAt h a n)
 | .frozen a k,K,h=>hp P (k (Wx3 h a)) K h
 | .getObj r k,K,h=>match h[r]? with
  | some (.cells ..)=>False
  | some o=>hp P (k o) K h
  | none=>False
 | .setObj r o k,K,h=>match h[r]? with
  | some (.map ..) | some (.mapIter ..) | some (.stringIter ..)=>hp P k K (h.setIfInBounds r o)
  | _=>False
 | .choose q k,K,h=>∀t,hp P (k (if q.forced then 0 else q.cut t)) K h
 | .sys ..,_,_=>False
 | .program k,K,h=>hp P (k P) K h
 | .mark _ k,K,h=>hp P k K h
 | .halt _,_,_=>False
def Kw (w w':World):Prop:=Kd w.heap w'.heap∧w'.os=w.os∧w'.output=w.output
def onH (w0:World) (K:Value→Wa1→Prop):Ending→World→Prop
 | .returned v,w=>K v w.heap∧Kw w0 w
 | _,_=>False
def Zo0 (P:Program) (f:FuncId) (args:Array Value) (h:Wa1) (K:Value→Wa1→Prop):Prop:=
 ∀w:World,w.heap=h→CallsIn Fence.wide 0 P f args w (onH w K)
def Zo1 (P:Program) (f:FuncId):Prop:=∀args (w:World),(callFunc f args).run P w=.ok (.enter f args) w
def Wa5 (P:Program) (f:FuncId) (args:Array Value) (h:Wa1) (K:Value→Wa1→Prop):Prop:=
 Zo1 P f∧Zo0 P f args h K
def Zz7 (P:Program) (l:Nat) (args:Array Value) (h:Wa1) (K:Value→Wa1→Prop):Prop:=
 ∀w:World,w.heap=h→∃fn tmps assign body,(Instr.yield l args).run P w=.ok (.round l fn tmps assign body) w ∧
  RoundIn Fence.wide 0 P l fn tmps assign body w (onH w K)
def ZM8 (P:Program) (f:FuncId) (args:Array Value) (h:Wa1) (K:Value→Wa1→Prop):Prop:=
 hp P (callFunc f args) (λnx h'=>match nx with | .value v=>K v h' | _=>False) h
def Wu2 (P:Program) (v:Value) (args:Array Value) (h:Wa1) (K:Value→Wa1→Prop):Prop:=
 match v with
 | .func (.func f) first captured=>Wa5 P f (first ++ args ++ captured) h K
 | .func (.yield l) first _=>Zz7 P l (first ++ args) h K
 | _=>False
def Zy8 (P:Program) (v:Value) (args:Array Value) (h:Wa1) (K:Value→Wa1→Prop):Prop:=
 match v with
 | .func (.func f) first captured=>ZM8 P f (first ++ args ++ captured) h K
 | _=>False
def ZM9 (P:Program) (f:Operand):Bool:=
 match f with
 | .func g=>(match P.funcs[g]? with | some fn=>fn.body.isNone | none=>false)
 | _=>false
def Wd2 (v:Value) (K:Addr→Prop):Prop:=match v with | .pointer (some a)=>K a | _=>False
def Wb1 (v:Value) (K:Option Addr→Prop):Prop:=match v with | .pointer a=>K a | _=>False
def asInt (k:IntKind) (v:Value) (K:Int→Prop):Prop:=match v with | .int k' n=>if k' = k then K n else False | _=>False
def asI (v:Value) (K:Int→Prop):Prop:=match v with | .int _ n=>K n | _=>False
def asBool (v:Value) (K:Bool→Prop):Prop:=match v with | .bool b=>K b | _=>False
def Wu3 (v:Value) (K:ByteArray→Prop):Prop:=match v with | .string s=>K s | _=>False
def Wb5 (v:Value) (K:Option Addr→Nat→Nat→Prop):Prop:=match v with | .slice a l c=>K a l c | _=>False
def asAgg (v:Value) (K:Array Value→Prop):Prop:=match v with | .agg cs=>K cs | _=>False
def Wg5 (v:Value) (K:Array Value→Prop):Prop:=match v with | .tuple cs=>K cs | _=>False
def Wz9 (v:Value) (K:Option Nat→Prop):Prop:=match v with | .map r=>K r | _=>False
def Wj6 (v:Value) (K:Bool→Prop):Prop:=match v with | .nilFunc=>K true | .func ..=>K false | _=>False
def Wb8 (v:Value) (X:Prop):Prop:=match v with | .pointer none | .nilIface | .nilFunc=>False | .func (.method _) _ _=>False | _=>X
def ifB (b:Bool) (X Y:Prop):Prop:=match b with | true=>X | false=>Y
def ldH (h:Wa1) (a:Addr) (K:Value→Prop):Prop:=match Wa2 h a with | some v=>K v | none=>False
def ldN (h:Wa1) (a:Addr) (i:Nat):Nat→List Value→(List Value→Prop)→Prop
 | 0,acc,K=>K acc.reverse
 | n+1,acc,K=>ldH h (a.add i) λv=>ldN h a (i+1) n (v :: acc) K
def stH (h:Wa1) (a:Addr) (v:Value) (K:Wa1→Prop):Prop:=Wi5 v ((∃u,Wa2 h a=some u)∧Wx3 h a=false∧K (setC h a v))
def stN (h:Wa1) (a:Addr) (i:Nat):List Value→(Wa1→Prop)→Prop
 | [],K=>K h
 | v :: vs,K=>stH h (a.add i) v λh'=>stN h' a (i+1) vs K
def und (P:Program) (t:TypeId):TypeDesc:=(P.underlying t).getD .invalid
def siz (P:Program) (t:TypeId):Nat:=match P.info? t with | some i=>i.size | none=>0
def byt (P:Program) (t:TypeId):Nat:=match P.info? t with | some i=>i.bytes | none=>0
def zer (P:Program) (t:TypeId):Option Value:=(P.info? t).bind (·.zero)
def Wf8 (P:Program) (t:TypeId):Bool:=(P.info? t).isSome && (P.underlying t).isSome
def Zo2 (P:Program) (t:TypeId):Bool:=match und P t with | .struct _ | .array _ _=>true | _=>false
def Wt0 (P:Program) (t:TypeId):List Value:=match zer P t with | some (.agg cs)=>cs.toList | some v=>[v] | none=>[]
def Wc0 (vs:Array Value) (i:Nat) (K:Value→Prop):Prop:=match vs[i]? with | some v=>K v | none=>False
def We0 (cs:Array Value) (n:Nat) (X:Prop):Prop:=match Nat.beq cs.size n with | true=>X | false=>False
def Wz4 (cs:Array Value):Nat→Nat→List Value→(List Value→Prop)→Prop
 | 0,_,acc,F=>F acc.reverse
 | n+1,i,acc,F=>Wc0 cs i λv=>Wz4 cs n (i+1) (v :: acc) F
def Zr4 (n:Nat) (v:Value) (K:Value→Prop):Prop:=match Nat.ble n 64 with
 | true=>asAgg v λcs=>We0 cs n (Wz4 cs n 0 [] λus=>K (.agg us.toArray))
 | false=>K v
def WQ6 (P:Program) (t:TypeId) (v:Value) (K:Value→Prop):Prop:=
 match und P t with
 | .bool=>asBool v λb=>K (.bool b)
 | .int k=>asInt k v λn=>K (.int k n)
 | .string=>Wu3 v λs=>K (.string s)
 | .slice _=>Wb5 v λa l c=>K (.slice a l c)
 | .pointer _=>Wb1 v λa=>K (.pointer a)
 | .map _ _=>Wz9 v λr=>K (.map r)
 | .struct _=>Zr4 (siz P t) v K
 | .array _ _=>Zr4 (siz P t) v K
 | _=>K v
def Zr5 (n:Nat) (v:Value) (K:List Value→Prop):Prop:=match Nat.ble n 64 with
 | true=>asAgg v λcs=>We0 cs n (Wz4 cs n 0 [] K)
 | false=>asAgg v λcs=>K cs.toList
def WA0 (P:Program) (t:TypeId) (v:Value) (K:List Value→Prop):Prop:=
 if Zo2 P t then Zr5 (siz P t) v K else Wi5 v (K [v])
def Yk2 (f:Operand→Value) (a:Array Operand):Array Value:=(a.toList.map f).toArray
def Wr9 (cs:List Value) (off:Nat):List Value→List Value
 | []=>cs
 | v :: vs=>Wr9 (cs.set off v) (off+1) vs
def WO6 (P:Program) (place:Nat→Option (Nat × TypeId)):List Value→List (Nat × Value)→(List Value→Prop)→Prop
 | cells,[],K=>K cells
 | cells,(i,v) :: rest,K=>
  match place i with
  | none=>False
  | some (off,t)=>WA0 P t v λcs=>
   if cs.length=siz P t∧off+siz P t≤cells.length then WO6 P place (Wr9 cells off cs) rest K else False
def Zb0 (P:Program) (t:TypeId) (cs:Array Value) (off:Nat):Option Value:=
 if Zo2 P t then some (.agg (cs.extract off (off+siz P t))) else cs[off]?
def WY3 (P:Program) (t:TypeId) (cs:Array Value) (off:Nat) (K:Value→Prop):Prop:=match Zb0 P t cs off with | some v=>K v | none=>False
def WZ8 (s:ByteArray) (i:Nat):Int:=((s[i]?).map (λb=>(b.toNat:Int))).getD 0
def WI1 (P:Program) (t:TypeId) (cs:Array Value) (off:Nat):Option Value:=if Wf8 P t then Zb0 P t cs off else none
def Zo3:Option Bool→Option Bool→Option Bool
 | some b,some r=>some (b && r)
 | _,_=>none
def eqv (P:Program):(d:Nat)→TypeId→Value→Value→Option Bool
 | 0,_,_,_=>none
 | d+1,t,x,y=>
  match und P t,x,y with
  | .bool,.bool a,.bool b=>some (a == b)
  | .int _,.int k a,.int k' b=>if k=k' then some (a == b) else none
  | .string,.string a,.string b=>some (a == b)
  | .struct fields,.agg xs,.agg ys=>
   if P.stoodInHeld t then none else
   fields.toList.foldr (λf acc=>
    if f.name = "_" then none else
    match WI1 P f.type xs f.offset,WI1 P f.type ys f.offset with
    | some x,some y=>Zo3 (eqv P d f.type x y) acc
    | _,_=>none) (some true)
  | .array len elem,.agg xs,.agg ys=>
   if Wf8 P elem then
   (List.range' 0 len).foldr (λi acc=>
    match WI1 P elem xs (i*siz P elem),WI1 P elem ys (i*siz P elem) with
    | some x,some y=>Zo3 (eqv P d elem x y) acc
    | _,_=>none) (some true) else none
  | _,_,_=>none
def Yk1 (P:Program) (t:TypeId) (x y:Value) (K:Bool→Prop):Prop:=
 if P.eqGuardType P.depth t then False else
 asAgg x λ_=>
 match eqv P 10000 t x y with | some b=>K b | none=>False
def Wr5:Value:=.tuple #[]
def nxt (P:Program) (K:Value→Wa1→Prop):Next→Wa1→Prop
 | .value v,h=>K v h
 | .skip,h=>K Wr5 h
 | .enter f args,h=>Zo0 P f args h K
 | _,_=>False
def opH (P:Program) (ρ:Operand→Value) (o:Oper) (h:Wa1) (K:Value→Wa1→Prop):Prop:=hp P (execOp ρ o) (nxt P K) h
def ZN0 (P:Program) (src dst:TypeId) (v:Value) (h:Wa1) (K:Value→Wa1→Prop):Prop:=hp P (convert src dst v) K h
def Zz8 (P:Program) (op:BinOp) (t:TypeId) (a b:Option Addr) (h:Wa1) (K:Value→Wa1→Prop):Prop:=hp P (binOp op t (.pointer a) (.pointer b)) K h
def ZN1 (P:Program) (argTypes:Array TypeId) (t:TypeId) (args:Array Value) (h:Wa1) (K:Value→Wa1→Prop):Prop:=hp P (Builtin.unsafeSliceData_ argTypes t args) K h
def ZN2 (P:Program) (argTypes:Array TypeId) (t:TypeId) (args:Array Value) (h:Wa1) (K:Value→Wa1→Prop):Prop:=hp P (Builtin.clear_ argTypes t args) K h
def ZN3 (P:Program) (argTypes:Array TypeId) (t:TypeId) (args:Array Value) (h:Wa1) (K:Value→Wa1→Prop):Prop:=hp P (Builtin.unsafeString_ argTypes t args) K h
def ZG4:Operand→Bool | .const (.pointer none)=>true | _=>false
def ZG5:Operand→Bool | .const (.slice none _ _)=>true | _=>false
def ZH4:Operand→Bool | .const (.map none)=>true | _=>false
def ZG6:Operand→Bool | .const .nilFunc=>true | _=>false
def W89 (k:IntKind) (op:BinOp) (a b:Int) (K:Value→Prop):Prop:=
 match op with
 | .add=>K (.int k (k.wrap (a+b)))
 | .sub=>K (.int k (k.wrap (a - b)))
 | .mul=>K (.int k (k.wrap (a*b)))
 | .quo=>b≠0∧K (.int k (k.wrap (a.tdiv b)))
 | .rem=>b≠0∧K (.int k (a.tmod b))
 | .and=>K (.int k (k.wrap ((BitVec.ofInt k.bits a) &&& (BitVec.ofInt k.bits b)).toNat))
 | .or=>K (.int k (k.wrap ((BitVec.ofInt k.bits a) ||| (BitVec.ofInt k.bits b)).toNat))
 | .xor=>K (.int k (k.wrap ((BitVec.ofInt k.bits a) ^^^ (BitVec.ofInt k.bits b)).toNat))
 | .andNot=>K (.int k (k.wrap ((BitVec.ofInt k.bits a) &&& ~~~(BitVec.ofInt k.bits b)).toNat))
 | .eql=>K (.bool (a == b))
 | .neq=>K (.bool (a != b))
 | .lss=>K (.bool (decide (a < b)))
 | .leq=>K (.bool (decide (a≤b)))
 | .gtr=>K (.bool (decide (a > b)))
 | .geq=>K (.bool (decide (a ≥ b)))
 | _=>False
def Zo4 (k:IntKind) (op:BinOp) (a b:Int) (K:Value→Prop):Prop:=
 match op with
 | .shl=>0≤b∧K (.int k (k.wrap (a*2 ^ (min b.toNat k.bits))))
 | .shr=>0≤b∧K (.int k (a.fdiv (2 ^ (min b.toNat k.bits))))
 | _=>False
def Wt1 (P:Program) (t:TypeId):Option IntKind:=match und P t with | .int k=>some k | _=>none
def YP7 (P:Program) (op:BinOp) (xt yt:TypeId) (x y:Operand) (ρ:Operand→Value) (o:Oper) (h:Wa1) (K:Value→Wa1→Prop):Prop:=
 match und P xt with
 | .int k=>(match op with
  | .shl | .shr=>(match Wt1 P yt with
   | some k'=>asInt k (ρ x) λa=>asInt k' (ρ y) λb=>Zo4 k op a b λv=>K v h
   | none=>False)
  | _=>asInt k (ρ x) λa=>asInt k (ρ y) λb=>W89 k op a b λv=>K v h)
 | .bool=>(match op with
  | .eql=>asBool (ρ x) λa=>asBool (ρ y) λb=>K (.bool (a == b)) h
  | .neq=>asBool (ρ x) λa=>asBool (ρ y) λb=>K (.bool (!(a == b))) h
  | _=>False)
 | .string=>(match op with
  | .eql=>Wu3 (ρ x) λa=>Wu3 (ρ y) λb=>K (.bool (a.toList == b.toList)) h
  | .neq=>Wu3 (ρ x) λa=>Wu3 (ρ y) λb=>K (.bool (!(a.toList == b.toList))) h
  | .add=>Wu3 (ρ x) λa=>Wu3 (ρ y) λb=>((a.size+b.size:Nat):Int)≤9223372036854775807∧K (.string (a ++ b)) h
  | _=>opH P ρ o h K)
 | .pointer _=>(match op,ZG4 y with
  | .eql,true=>Wb1 (ρ x) λa=>K (.bool a.isNone) h
  | .neq,true=>Wb1 (ρ x) λa=>K (.bool (!a.isNone)) h
  | .eql,false=>Wb1 (ρ x) λa=>Wb1 (ρ y) λb=>Zz8 P .eql xt a b h K
  | .neq,false=>Wb1 (ρ x) λa=>Wb1 (ρ y) λb=>Zz8 P .neq xt a b h K
  | _,_=>opH P ρ o h K)
 | .slice _=>(match op,ZG5 y with
  | .eql,true=>Wb5 (ρ x) λa _ _=>K (.bool a.isNone) h
  | .neq,true=>Wb5 (ρ x) λa _ _=>K (.bool (!a.isNone)) h
  | _,_=>opH P ρ o h K)
 | .map _ _=>(match op,ZH4 y with
  | .eql,true=>Wz9 (ρ x) λa=>K (.bool a.isNone) h
  | .neq,true=>Wz9 (ρ x) λa=>K (.bool (!a.isNone)) h
  | _,_=>opH P ρ o h K)
 | .func _ _ _=>(match op,ZG6 y with
  | .eql,true=>Wj6 (ρ x) λb=>K (.bool b) h
  | .neq,true=>Wj6 (ρ x) λb=>K (.bool (!b)) h
  | _,_=>opH P ρ o h K)
 | .struct _ | .array _ _=>(match op with
  | .eql=>Yk1 P xt (ρ x) (ρ y) λb=>K (.bool b) h
  | .neq=>Yk1 P xt (ρ x) (ρ y) λb=>K (.bool (!b)) h
  | _=>False)
 | _=>opH P ρ o h K
def Wt2 (k:Option IntKind) (v:Option Value) (dflt most:Nat) (K:Nat→Prop):Prop:=
 match v with
 | none=>K dflt
 | some v=>match k with
  | none=>asI v λi=>0≤i∧i≤most∧K i.toNat
  | some k=>asInt k v λi=>0≤i∧i≤most∧K i.toNat
def YP8 (a:Option Addr) (l m n:Nat):Option Addr:=if m=l then a else a.map (·.add (l*n))
def YC6 (a:Addr) (l m n:Nat):Addr:=if m=l then a else a.add (l*n)
def WN4 (P:Program) (t:TypeId) (x:Value) (lo hi mx:Option Value) (K:Value→Prop):Prop:=
 match und P t with
 | .string=>if mx.isSome then False else Wu3 x λs=>
  Wt2 none hi s.size s.size λh=>Wt2 none lo 0 h λl=>K (.string (s.extract l h))
 | .slice e=>if Wf8 P e then Wb5 x λa len cap=>
  Wt2 none mx cap cap λm=>Wt2 none hi len m λh=>Wt2 none lo 0 h λl=>
   K (.slice (YP8 a l m (siz P e)) (h - l) (m - l)) else False
 | .array n e=>if Wf8 P e then Wd2 x λa=>
  Wt2 none mx n n λm=>Wt2 none hi n m λh=>Wt2 none lo 0 h λl=>
   K (.slice (some (YC6 a l m (siz P e))) (h - l) (m - l)) else False
 | _=>False
def Wq7 (P:Program) (elem:TypeId) (l c:Int) (h:Wa1) (K:Value→Wa1→Prop):Prop:=
 0≤l∧l≤c∧c≤9223372036854775807∧byt P elem*c≤2 ^ 48 ∧
  K (.slice (some ⟨h.size,0,none⟩) l.toNat c.toNat) (h.push (.cells ((List.replicate c.toNat (Wt0 P elem)).flatten.toArray) elem))
def Wu4 (P:Program) (argTypes:Array TypeId) (t:TypeId) (args:Array Value) (h:Wa1) (K:Value→Wa1→Prop):Prop:=
 hp P (Builtin.append_ argTypes t args) K h
def YC7 (P:Program) (argTypes:Array TypeId) (t:TypeId) (args:Array Value) (h:Wa1) (K:Value→Wa1→Prop):Prop:=
 hp P (Builtin.copy_ argTypes t args) K h
def Zr6 (h:Wa1) (r:Option Nat) (K:Array MapEntry→Nat→Prop):Prop:=
 match r with
 | none=>K #[] 0
 | some r=>match h[r]? with | some (.map es c)=>K es c | _=>False
def W90 (P:Program) (t:TypeId) (x i:Value) (ok:Bool) (h:Wa1) (K:Value→Wa1→Prop):Prop:=hp P (Instr.lookup t x i ok) K h
def Zb1 (P:Program) (t:TypeId) (x i v:Value) (h:Wa1) (K:Wa1→Prop):Prop:=hp P (Instr.mapUpdate t x i v) (λ_=>K) h
def Zb2 (P:Program) (argTypes:Array TypeId) (t:TypeId) (args:Array Value) (h:Wa1) (K:Value→Wa1→Prop):Prop:=
 hp P (Builtin.delete_ argTypes t args) K h
def Wk2 (f:Int→Int→Int) (P:Program) (t:TypeId):List Value→(Int→Prop)→Prop
 | [],_=>False
 | [x],K=>(match Wt1 P t with | some k=>asInt k x K | none=>False)
 | x :: xs,K=>(match Wt1 P t with | some k=>asInt k x λa=>go f k a xs K | none=>False)
where
 go (f:Int→Int→Int) (k:IntKind) (a:Int):List Value→(Int→Prop)→Prop
  | [],K=>K a
  | y :: ys,K=>asInt k y λb=>go f k (f a b) ys K
def WO7 (x y:Int):Int:=if y > x then y else x
def W91 (x y:Int):Int:=if y < x then y else x
def Wn7 (P:Program) (b:Builtin) (argTypes:Array TypeId) (t:TypeId) (args:List Value) (ρ:Operand→Value) (o:Oper) (h:Wa1) (K:Value→Wa1→Prop):Prop:=
 match b,args with
 | .len,[x]=>(match argTypes[0]? with
  | some t0=>(match und P t0 with
   | .slice _=>Wb5 x λ_ n _=>K (.int .i64 n) h
   | .string=>Wu3 x λs=>K (.int .i64 s.size) h
   | .map _ _=>Wz9 x λr=>Zr6 h r λes _=>K (.int .i64 es.size) h
   | .array n _=>K (.int .i64 n) h
   | _=>False)
  | none=>False)
 | .cap,[x]=>(match argTypes[0]? with
  | some t0=>(match und P t0 with
   | .slice _=>Wb5 x λ_ _ n=>K (.int .i64 n) h
   | _=>False)
  | none=>False)
 | .append,args=>Wu4 P argTypes t args.toArray h K
 | .copy,args=>YC7 P argTypes t args.toArray h K
 | .delete,args=>Zb2 P argTypes t args.toArray h K
 | .unsafeSliceData,args=>ZN1 P argTypes t args.toArray h K
 | .unsafeString,args=>ZN3 P argTypes t args.toArray h K
 | .clear,args=>ZN2 P argTypes t args.toArray h K
 | .max,args=>(match Wt1 P t with | some k=>Wk2 WO7 P t args λn=>K (.int k n) h | none=>opH P ρ o h K)
 | .min,args=>(match Wt1 P t with | some k=>Wk2 W91 P t args λn=>K (.int k n) h | none=>opH P ρ o h K)
 | _,_=>opH P ρ o h K
def vop (P:Program) (ρ:Operand→Value) (o:Oper) (h:Wa1) (K:Value→Wa1→Prop):Prop:=
 match o.op with
 | .move x | .assign x=>K (ρ x) h
 | .pick c a b=>asBool (ρ c) λc=>ifB c (K (ρ a) h) (K (ρ b) h)
 | .alloc t=>(match zer P t with
  | some z=>K (.pointer (some ⟨h.size,0,none⟩)) (h.push (.cells z.cells t))
  | none=>False)
 | .box t x=>WA0 P t (ρ x) λcs=>K (.pointer (some ⟨h.size,0,none⟩)) (h.push (.cells cs.toArray t))
 | .build t parts=>if (zer P t).isSome then (match und P t with
  | .struct fields=>if fields.all (λf=>Wf8 P f.type)=false then False else WO6 P (λi=>(fields[i]?).map λf=>(f.offset,f.type)) (Wt0 P t) (parts.toList.map λp=>(p.1,ρ p.2)) λcs=>K (.agg cs.toArray) h
  | .array _ elem=>if Wf8 P elem=false then False else WO6 P (λi=>some (i*siz P elem,elem)) (Wt0 P t) (parts.toList.map λp=>(p.1,ρ p.2)) λcs=>K (.agg cs.toArray) h
  | _=>False) else False
 | .buildSlice t len parts=>(match und P t with
  | .slice elem=>if Wf8 P elem∧len*siz P elem≤16777216∧(zer P elem).isSome∧(Wt0 P elem).length=siz P elem∧0 < siz P elem then
    WO6 P (λi=>some (i*siz P elem,elem)) (List.replicate len (Wt0 P elem)).flatten (parts.toList.map λp=>(p.1,ρ p.2))
     λcs=>K (.slice (some ⟨h.size,0,none⟩) len len) (h.push (.cells cs.toArray elem)) else False
  | _=>False)
 | .load t x=>Wd2 (ρ x) λa=>if Wf8 P t then (if Zo2 P t then ldN h a 0 (siz P t) [] (λcs=>K (.agg cs.toArray) h) else ldH h a λv=>K v h) else False
 | .store t x y=>Wd2 (ρ x) λa=>WA0 P t (ρ y) λcs=>if Wf8 P t∧cs.length=siz P t then stN h a 0 cs λh'=>K Wr5 h' else False
 | .nilCheck x=>Wb8 (ρ x) (K (ρ x) h)
 | .binOp op xt x y yt=>YP7 P op xt yt x y ρ o h K
 | .unOp op xt x=>(match op,und P xt with
  | .not,.bool=>asBool (ρ x) λb=>K (.bool (!b)) h
  | .neg,.int k=>asInt k (ρ x) λn=>K (.int k (k.wrap (0 - n))) h
  | _,_=>opH P ρ o h K)
 | .convert src dst x=>(match und P src,und P dst with
  | .int ks,.int k=>asInt ks (ρ x) λn=>K (.int k (k.wrap n)) h
  | .string,.string=>Wu3 (ρ x) λs=>K (.string s) h
  | _,_=>ZN0 P src dst (ρ x) h K)
 | .makeInterface t x=>(match und P t with | .interface _=>False | .invalid=>False | _=>K (.iface t (ρ x)) h)
 | .makeFunc fn first captured=>K (.func fn (Yk2 ρ first) (Yk2 ρ captured)) h
 | .makeMap _ none=>K (.map (some h.size)) (h.push (.map #[] 0))
 | .makeSlice t l c=>(match und P t with
  | .slice elem=>asI (ρ l) λl=>asI (ρ c) λc=>if Wf8 P elem∧(zer P elem).isSome∧(Wt0 P elem).length=siz P elem∧0 < siz P elem then Wq7 P elem l c h K else False
  | _=>False)
 | .slice t x lo hi mx=>if mx.isSome && hi.isNone then False else WN4 P t (ρ x) (lo.map ρ) (hi.map ρ) (mx.map ρ) λv=>K v h
 | .fieldAddr s x f=>(match und P s with
  | .struct fields=>(match fields[f]? with
   | some fd=>if Wf8 P fd.type∧siz P fd.type≠0 then Wd2 (ρ x) λa=>K (.pointer (some (a.add fd.offset))) h else False
   | none=>False)
  | _=>False)
 | .field t x f=>(match und P t with
  | .struct fields=>(match fields[f]? with
   | some fd=>asAgg (ρ x) λcs=>WY3 P fd.type cs fd.offset λv=>if Wf8 P fd.type then K v h else False
   | none=>False)
  | _=>False)
 | .indexAddr t x i=>(match und P t with
  | .slice elem=>Wb5 (ρ x) λa len _=>asI (ρ i) λi=>0≤i∧i < len∧Wd2 (.pointer a) λa=>if Wf8 P elem then K (.pointer (some (a.add (i.toNat*siz P elem)))) h else False
  | .array len elem=>Wd2 (ρ x) λa=>asI (ρ i) λi=>0≤i∧i < len∧(if Wf8 P elem then K (.pointer (some (a.add (i.toNat*siz P elem)))) h else False)
  | _=>False)
 | .index t x i=>(match und P t with
  | .string=>Wu3 (ρ x) λs=>asI (ρ i) λi=>0≤i∧i < s.size∧K (.int .u8 (WZ8 s i.toNat)) h
  | .array len elem=>asAgg (ρ x) λcs=>asI (ρ i) λi=>0≤i∧i < len∧WY3 P elem cs (i.toNat*siz P elem) λv=>if Wf8 P elem then K v h else False
  | _=>False)
 | .lookup t x i ok=>W90 P t (ρ x) (ρ i) ok h K
 | .mapUpdate t m k x=>Zb1 P t (ρ m) (ρ k) (ρ x) h λh'=>K Wr5 h'
 | .extract x i=>Wg5 (ρ x) λvs=>Wc0 vs i λv=>K v h
 | .call { callee:=.builtin b,args,argTypes }=>Wn7 P b argTypes o.type (args.toList.map ρ) ρ o h K
 | .call { callee:=.value f,args,.. }=>(match ZM9 P f with
  | true=>Zy8 P (ρ f) (Yk2 ρ args) h K
  | false=>Wu2 P (ρ f) (Yk2 ρ args) h K)
 | .panic _=>False
 | _=>opH P ρ o h K
theorem Wl5 {P:Prop} (h:P:=by (refine ⟨by ((with_reducible first | apply AdjR.pop | apply AdjR.allPc | apply AdjR.allS | apply AdjR.fin | apply AdjR.call | apply AdjR.all);(focus (refine Lo.adjR ?_ (by assumption);(with_reducible repeat' constructor)));try (first | decide | (refine .inr ?_;decide) | (refine .inl ?_;simp [fA];done) | (refine Lo.ne ?_ hne;(with_reducible repeat' constructor)))),?_⟩;first | (refine .inl ?_;(focus (refine Tch.act ?_;(with_reducible repeat' constructor)));done) | (refine .inr ?_;((with_reducible first | apply AdjR.ltCall r hne | apply AdjR.ltFin r hne | apply AdjR.ltPc r hne | apply AdjR.ltPop r hne);assumption;(focus (refine Lo.adjR ?_ (by assumption);(with_reducible repeat' constructor)));try (first | assumption | exact Wr4 _ _));simp +decide [fW,fA,hs];first | done | omega))):P:=h
theorem WY4 {P:Prop} (h:P:=by (refine ⟨by ((with_reducible first | apply AdjR.pop | apply AdjR.allPc | apply AdjR.allS | apply AdjR.fin | apply AdjR.call | apply AdjR.all);(focus (refine Lo.adjR ?_ (by assumption);(with_reducible repeat' constructor)));try (first | decide | (refine .inr ?_;decide) | (refine .inl ?_;simp [fA];done) | (refine Lo.ne ?_ hne;(with_reducible repeat' constructor)))),?_⟩;first | (refine .inl ?_;(focus (refine Tch.act ?_;(with_reducible repeat' constructor)));done) | (refine .inr ?_;((with_reducible first | apply AdjR.ltCall r hne | apply AdjR.ltFin r hne | apply AdjR.ltPc r hne | apply AdjR.ltPop r hne);assumption;(focus (refine Lo.adjR ?_ (by assumption);(with_reducible repeat' constructor)));try (first | assumption | exact Wr4 _ _));simp +decide [fW,fA,hs,ha];first | done | omega))):P:=h
theorem Yk3 {P:Prop} (h:P:=by ((with_reducible first | apply AdjR.pop | apply AdjR.allPc | apply AdjR.allS | apply AdjR.fin | apply AdjR.call | apply AdjR.all);(focus (refine Lo.adjR ?_ (by assumption);(with_reducible repeat' constructor)));try (first | decide | (refine .inr ?_;decide) | (refine .inl ?_;simp [fA];done) | (refine Lo.ne ?_ hne;(with_reducible repeat' constructor))))):P:=h
theorem W31 {P:Prop} (h:P:=by (focus (refine Lo.adjR ?_ (by assumption);(with_reducible repeat' constructor)))):P:=h
theorem YC8 {P:Prop} (h:P:=by ((try simp only [f_m,WE8,f_s,Wl8,Wo6,WJ7,WJ8,Yz1,Wv9,WH7,Wq6,Wz3,WH8]);refine .inr ⟨?_,?_⟩ <;> simp only [Wh2,Wi7,Ws5,WU2,Wy5,YH3,or_true,true_or,and_true,true_and] <;> omega)):P:=h
theorem YQ1 {P:Prop} (h:P:=by ((try simp only [WE8,f_s,Wl8,Wo6,WJ7,WJ8,Yz1,Wv9,Wq6]);refine .inr ⟨(by simp only [Wh2,Wi7];omega),.inl ⟨?_,?_,?_,?_,?_⟩⟩ <;> intros <;> (try simp +decide (disch:=first | decide | assumption | (simp only [Wh2,Wi7];assumption)) only [Ws5,WU2,Wy5,YH3,WP3,Wa8,g_s,Wh2,Wi7] at *) <;> omega)):P:=h
theorem Zb3 {P:Prop} (h:P:=by ((try simp only [WE8,f_s,Wl8,Wo6,WJ7,WJ8,Yz1,Wv9,Wq6]);exact Y43 (by simp only [Wh2,Wi7];assumption) (by simp only [Ws5,WU2];assumption) (.inr rfl))):P:=h
theorem ZG7 {P:Prop} (h:P:=by ((try simp only [WE8,f_s,Wl8,Wo6,WJ7,WJ8,Yz1,Wv9,Wq6]);refine Y43 (by simp only [Wh2,Wi7];assumption) (by simp only [Ws5,WU2];assumption) (by simp only [Wy5,YH3];omega))):P:=h
theorem ZL5 {P:Prop} (h:P:=by ((try simp only [WE8,f_s,Wl8,Wo6,WJ7,WJ8,Yz1]);refine WX5 (by simp only [Wh2,Wi7];assumption) (by simp only [Ws5,WU2];assumption) (by simp only [Wy5,YH3];omega) ?_;first | assumption | (simp +decide (disch:=decide) only [WP3,Wa8];assumption))):P:=h
theorem W92 {P:Prop} (h:P:=by ((try simp only [f_m,WE8,f_s,Wl8,Wo6,WJ7,WJ8,Yz1,Wv9,WH7,Wq6,Wz3,WH8]);refine Zx1 (by simp only [Wh2,Wi7];assumption) (by simp only [Ws5,WU2];assumption) ?_ ?_ ?_ <;> intros <;> (try simp +decide (disch:=first | decide | assumption | (simp only [Wh2,Wi7];assumption)) only [Ws5,WU2,Wy5,YH3,WP3,Wa8,g_s,Wh2,Wi7] at *) <;> omega)):P:=h
theorem Zb4 {P:Prop} (h:P:=by ((try simp only [f_m,WE8,f_s,Wl8,Wo6,WJ7,WJ8,Yz1,Wv9,WH7,Wq6,Wz3,WH8]);refine Zx2 (by simp only [Wh2,Wi7];assumption) (by simp only [Ws5,WU2];assumption) (by simp only [Wy5,YH3,or_true];first | done | omega))):P:=h
theorem ZH5 {P:Prop} (h:P:=by ((try simp only [f_m,WE8,f_s,Wl8,Wo6,WJ7,WJ8,Yz1,Wv9,WH7,Wq6,Wz3,WH8]);refine Zx3 (by simp only [Wh2,Wi7];assumption) (by simp only [Ws5,WU2];assumption) (by simp only [Wy5,YH3,or_true];first | done | omega))):P:=h
theorem ZH6 {P:Prop} (h:P:=by ((try simp only [f_m,WE8,f_s,Wl8,Wo6,WJ7,WJ8,Yz1,Wv9,WH7,Wq6,Wz3,WH8]);refine Zx4 (by simp only [Wh2,Wi7];assumption) (by simp only [Ws5,WU2];assumption) (by simp only [Wy5,YH3,or_true];first | done | omega))):P:=h
theorem Zz9 {P:Prop} (h:P:=by ((try simp only [f_m,WE8,f_s,Wl8,Wo6,WJ7,WJ8,Yz1,Wv9,WH7,Wq6,Wz3,WH8]);refine Zx5 (by simp only [Wh2,Wi7];assumption) (by simp only [Ws5,WU2];assumption) (by simp only [Wy5,YH3,or_true];first | done | omega))):P:=h
theorem ZH7 {P:Prop} (h:P:=by ((try simp only [f_m,WE8,f_s,Wl8,Wo6,WJ7,WJ8,Yz1,Wv9,WH7,Wq6,Wz3,WH8]);refine W82 (by simp only [Wh2,Wi7];assumption) (by simp only [Ws5,WU2];assumption) (by simp only [Wy5,YH3];omega) ?_;first | assumption | (simp +decide (disch:=decide) only [WP3,Wa8];assumption))):P:=h
theorem Zy9 {P:Prop} (h:P:=by ((try simp only [WE8,f_s,Wl8,Wo6,WJ7,WJ8,Yz1]);unfold Wx2;(try simp only [Ws5,WU2,Wy5,YH3,Wh2,Wi7]);omega)):P:=h
theorem Wr6 {P:Prop} (h:P:=by (focus (refine Lo.rest ?_ (by assumption);(with_reducible repeat' constructor)))):P:=h
theorem Wf5 {P:Prop} (h:P:=by (with_reducible repeat' (first | apply St.refl | assumption | apply St.load | apply St.store | apply St.cas | apply St.add | apply St.swing | apply St.swingA | apply St.swingM | apply St.drop1 | apply St.guard | apply St.next | apply St.lvl | apply St.dcas | apply St.dcss | apply St.gh | apply St.call | apply St.fin | apply St.s | apply St.pc | apply St.push | apply St.pop))):P:=h
theorem sb {P Q:Prop} (q:Q) (e:Q→P:=by intro q;try simp only [Wb8,bsx,Nat.reduceAdd,Int.reduceLE,Int.reduceLT,Int.reduceToNat];exact q):P:=e q
theorem sl {A P Q:Prop} (a:A) (q:Q) (e:A→Q→P:=by intro a q;try simp only [Wb8,bsx,Nat.reduceAdd,Int.reduceLE,Int.reduceLT,Int.reduceToNat,RunS.l a];exact q):P:=e a q
theorem ss {A P Q:Prop} (a:A) (q:Q) (e:A→Q→P:=by intro a q;try simp +decide only [Wb8,bsx,Nat.reduceAdd,Int.reduceLE,Int.reduceLT,Int.reduceToNat,rsx,g_s,Wa8,RunS.al a];exact q):P:=e a q
end
section
theorem Kd.refl (h:Wa1):Kd h h:=⟨Nat.le_refl _,λ_ x=>x⟩
theorem Kd.trans {h h' h'':Wa1} (a:Kd h h') (b:Kd h' h''):Kd h h'':=⟨Nat.le_trans a.1 b.1,λD x=>b.2 D (a.2 D x)⟩
theorem getElem?_setC (h:Wa1) (a:Addr) (v:Value) (b:Nat):(setC h a v)[b]? =
  if a.block=b then (h[b]?).map (Zz6 a v) else h[b]?:=by
 unfold setC;rw [Array.getElem?_modify]
theorem YQ2 (h:Wa1) (a:Addr) (v:Value):(setC h a v).size=h.size:=by unfold setC;simp
theorem Kd.setC (h:Wa1) (a:Addr) (v:Value):Kd h (setC h a v):=⟨by rw [YQ2];exact Nat.le_refl _,λD x=>by
 rw [getElem?_setC];split <;> simp [x,Zz6]⟩
theorem Kd.freezeAt (h:Wa1) (a:Addr) (n:Nat):Kd h (freezeAt h a n):=by
 unfold Proofs.YtahpbclnkofhfaaGreat.freezeAt;split
 ·exact Kd.refl _
 ·refine ⟨by simp,λD x=>?_⟩
  rw [Array.getElem?_modify];split <;> simp [x]
theorem Kd.push (h:Wa1) (o:Obj):Kd h (h.push o):=⟨by simp,λD x=>by
 have:D < h.size:=(Array.getElem?_eq_some_iff.1 x).1
 rw [Array.getElem?_push_lt this];exact x ▸ (Array.getElem?_eq_getElem this).symm⟩
theorem Kd.set {h:Wa1} {r:Nat} {o:Obj} (hr:h[r]?≠some (.deferred (some []))):Kd h (h.setIfInBounds r o):=⟨by simp,λD x=>by
 rw [Array.getElem?_setIfInBounds];split
 ·rename_i e;subst e;exact absurd x hr
 ·exact x⟩
section
variable {P:Program} {α β:Type}
theorem Zb5 (s:Sem α) (f:α→Sem β) (K:β→Wa1→Prop) (h:Wa1):hp P (s.bind f) K h=hp P s (λa=>hp P (f a) K) h:=by
 induction s generalizing h with
 | pure a=>rfl
 | load m a k ih=>simp only [Sem.bind,hp,ih]
 | store m a v k ih=>simp only [Sem.bind,hp,ih]
 | new o k ih=>simp only [Sem.bind,hp,ih]
 | shape r k ih=>simp only [Sem.bind,hp,ih]
 | freeze a n k ih=>simp only [Sem.bind,hp,ih]
 | frozen a k ih=>simp only [Sem.bind,hp,ih]
 | getObj r k ih=>simp only [Sem.bind,hp,ih]
 | setObj r o k ih=>simp only [Sem.bind,hp,ih]
 | choose q k ih=>simp only [Sem.bind,hp,ih]
 | sys c k ih=>simp only [Sem.bind,hp]
 | program k ih=>simp only [Sem.bind,hp,ih]
 | mark m k ih=>simp only [Sem.bind,hp,ih]
 | halt h=>simp only [Sem.bind,hp]
theorem Wa7 (s:Sem α) (f:α→Sem β) (K:β→Wa1→Prop) (h:Wa1):hp P (s >>= f) K h=hp P s (λa=>hp P (f a) K) h:=Zb5 s f K h
theorem Wc3 (a:α) (K:α→Wa1→Prop) (h:Wa1):hp P (pure a) K h=K a h:=rfl
theorem Ww0 {v:Value} {X Y:Prop} (hxy:X→Y) (hx:Wi5 v X):Wi5 v Y:=by
 unfold Wi5 at *;split <;> simp_all
theorem Yw0 {v:Value} {X:Prop} (hx:Wi5 v X):X:=by unfold Wi5 at hx;split at hx <;> simp_all
theorem Wj7 {s:Sem α} {K K':α→Wa1→Prop} (hk:∀a h,K a h→K' a h):∀ {h:Wa1},hp P s K h→hp P s K' h:=by
 induction s with
 | pure a=>intro h x;exact hk _ _ x
 | load m a k ih=>intro h x;simp only [hp] at x ⊢;split at x <;> simp_all
 | store m a v k ih=>intro h x;simp only [hp] at x ⊢;exact Ww0 (λ⟨a,b,c⟩=>⟨a,b,ih c⟩) x
 | new o k ih=>intro h x;exact ih _ x
 | shape r k ih=>intro h x;exact ih _ x
 | freeze a n k ih=>intro h x;exact ih x
 | frozen a k ih=>intro h x;exact ih _ x
 | getObj r k ih=>intro h x;simp only [hp] at x ⊢;split at x <;> simp_all
 | setObj r o k ih=>intro h x;simp only [hp] at x ⊢;split at x <;> simp_all
 | choose q k ih=>intro h x t;exact ih _ (x t)
 | sys c k ih=>intro h x;exact x.elim
 | program k ih=>intro h x;exact ih _ x
 | mark m k ih=>intro h x;exact ih x
 | halt h=>intro h x;exact x.elim
theorem Kw.refl (w:World):Kw w w:=⟨Kd.refl _,rfl,rfl⟩
theorem Kw.trans {a b c:World} (x:Kw a b) (y:Kw b c):Kw a c:=⟨x.1.trans y.1,y.2.1.trans x.2.1,y.2.2.trans x.2.2⟩
theorem ZA0 (s:Sem α):∀ {K:α→Wa1→Prop} {h:Wa1},hp P s K h→∀w:World,w.heap=h →
  ∃a w',s.run P w=.ok a w'∧K a w'.heap∧Kw w w':=by
 induction s with
 | pure a=>intro K h x w hw;subst hw;exact ⟨a,w,rfl,x,Kw.refl _⟩
 | load m a k ih=>
  intro K h x w hw;subst hw;simp only [hp] at x
  split at x
  ·rename_i v hv
   obtain ⟨b,w',h1,h2⟩:=ih v x w rfl
   refine ⟨b,w',?_,h2⟩
   have hv':w.cell? a=some v:=hv
   simp only [Sem.run,hv',h1]
  ·exact x.elim
 | store m a v k ih=>
  intro K h x w hw;subst hw;simp only [hp] at x
  obtain ⟨⟨u,hu⟩,hf,hk⟩:=Yw0 x
  obtain ⟨b,w',h1,h2,h3⟩:=ih hk (w.setCell a v) rfl
  refine ⟨b,w',?_,h2,Kw.trans (b:=w.setCell a v) ⟨Kd.setC _ _ _,rfl,rfl⟩ h3⟩
  have hu':w.cell? a=some u:=hu
  have hf':w.frozen? a=false:=hf
  have e:(w.setCell a v).heap=Proofs.YtahpbclnkofhfaaGreat.setC w.heap a v:=rfl
  cases v <;> first | exact x.elim | simp only [Sem.run,hu',hf',h1];rfl
 | new o k ih=>
  intro K h x w hw;subst hw
  obtain ⟨b,w',h1,h2,h3⟩:=ih _ x { w with heap:=w.heap.push o } rfl
  exact ⟨b,w',h1,h2,Kw.trans (b:={ w with heap:=w.heap.push o }) ⟨Kd.push _ _,rfl,rfl⟩ h3⟩
 | shape r k ih=>intro K h x w hw;subst hw;exact ih _ x w rfl
 | freeze a n k ih=>
  intro K h x w hw;subst hw
  have e:(w.freeze a n).heap=freezeAt w.heap a n:=by unfold World.freeze freezeAt;split <;> rfl
  obtain ⟨b,w',h1,h2,h3⟩:=ih x (w.freeze a n) e
  exact ⟨b,w',h1,h2,Kw.trans (b:=w.freeze a n) ⟨by rw [e];exact Kd.freezeAt _ _ _,by unfold World.freeze;split <;> rfl,by unfold World.freeze;split <;> rfl⟩ h3⟩
 | frozen a k ih=>intro K h x w hw;subst hw;exact ih _ x w rfl
 | getObj r k ih=>
  intro K h x w hw;subst hw;simp only [hp] at x
  split at x
  ·exact x.elim
  ·rename_i o hne hv
   obtain ⟨b,w',h1,h2⟩:=ih o x w rfl
   refine ⟨b,w',?_,h2⟩
   simp only [Sem.run,hv]
   cases o <;> first | exact (hne _ _ _ rfl).elim | exact h1
  ·exact x.elim
 | setObj r o k ih=>
  intro K h x w hw;subst hw;simp only [hp] at x
  split at x
  all_goals first | exact x.elim | (
   rename_i hv
   obtain ⟨b,w',h1,h2,h3⟩:=ih x { w with heap:=w.heap.setIfInBounds r o } rfl
   refine ⟨b,w',?_,h2,Kw.trans (b:={ w with heap:=w.heap.setIfInBounds r o }) ⟨Kd.set (by rw [hv];simp),rfl,rfl⟩ h3⟩
   simp only [Sem.run,hv];exact h1)
 | choose q k ih=>
  intro K h x w hw;subst hw
  by_cases hq:q.forced=true
  ·have x0:=x 0
   simp only [hq,if_true] at x0
   obtain ⟨b,w',h1,h2⟩:=ih _ x0 w rfl
   exact ⟨b,w',by simp only [Sem.run,hq,if_true];exact h1,h2⟩
  ·have x0:=x (w.tape w.drawn q)
   simp only [hq] at x0
   obtain ⟨b,w',h1,h2⟩:=ih _ x0 { w with drawn:=w.drawn+1 } rfl
   exact ⟨b,w',by simp only [Sem.run,hq];exact h1,h2⟩
 | sys c k ih=>intro K h x w hw;exact x.elim
 | program k ih=>intro K h x w hw;exact ih _ x w hw
 | mark m k ih=>intro K h x w hw;exact ih x w hw
 | halt h=>intro K h x w hw;exact x.elim
theorem Wi6 {t:TypeId} {i:TypeInfo} (hi:P.info? t=some i) (K:TypeInfo→Wa1→Prop) (h:Wa1):hp P (typeInfo t) K h=K i h:=by
 simp only [typeInfo,Wa7];simp [program,hp,hi,Wc3]
theorem Ww1 {t:TypeId} (h:Wf8 P t=true):∃i,P.info? t=some i:=by
 unfold Wf8 at h;rw [Bool.and_eq_true] at h;exact Option.isSome_iff_exists.1 h.1
theorem W93 {t:TypeId} (h:Wf8 P t=true):P.underlying t=some (und P t):=by
 unfold Wf8 at h;rw [Bool.and_eq_true] at h;obtain ⟨d,hd⟩:=Option.isSome_iff_exists.1 h.2;unfold und;rw [hd];rfl
theorem We6 {t:TypeId} (ht:Wf8 P t=true) (K:Nat→Wa1→Prop) (h:Wa1):hp P (sizeOf t) K h=K (siz P t) h:=by
 obtain ⟨i,hi⟩:=Ww1 ht
 simp only [sizeOf,Wa7,Wi6 hi,siz,hi];rfl
theorem Wd0 {t:TypeId} {d:TypeDesc} (hd:und P t=d) (hn:d≠.invalid):P.underlying t=some d:=by
 unfold und at hd;cases hu:P.underlying t with
 | none=>rw [hu] at hd;exact absurd hd.symm hn
 | some e=>rw [hu] at hd;simp at hd;rw [hd]
theorem Wb0 {t:TypeId} {d:TypeDesc} (hd:P.underlying t=some d) (K:TypeDesc→Wa1→Prop) (h:Wa1):hp P (underlying t) K h=K d h:=by
 simp only [underlying,Wa7];simp [program,hp,hd,Wc3]
theorem Yw1 {t:TypeId} {d:TypeDesc} (hd:P.underlying t=some d) (K:Bool→Wa1→Prop) (h:Wa1):hp P (isAgg t) K h=K (Zo2 P t) h:=by
 have hu:und P t=d:=by unfold und;rw [hd];rfl
 simp only [isAgg,Wa7,Wb0 hd,Zo2,hu]
 cases d <;> rfl
theorem Wh0 {t:TypeId} {z:Value} (hz:zer P t=some z) (K:Value→Wa1→Prop) (h:Wa1):hp P (zeroValue t) K h=K z h:=by
 unfold zer at hz
 cases hi:P.info? t with
 | none=>rw [hi] at hz;cases hz
 | some i=>
  rw [hi] at hz;simp at hz
  simp only [zeroValue,Wa7,Wi6 hi,hz];rfl
end
end
section
section
variable {P:Program} {ρ:Operand→Value} {h:Wa1} {K:Value→Wa1→Prop}
theorem Wh5 {v:Value} {F:Addr→Prop} (H:Wd2 v F):∃a,v=.pointer (some a)∧F a:=by unfold Wd2 at H;split at H <;> first | exact ⟨_,rfl,H⟩ | exact H.elim
theorem Wj2 {v:Value} {F:Option Addr→Prop} (H:Wb1 v F):∃a,v=.pointer a∧F a:=by unfold Wb1 at H;split at H <;> first | exact ⟨_,rfl,H⟩ | exact H.elim
theorem We3 {k:IntKind} {v:Value} {F:Int→Prop} (H:asInt k v F):∃n,v=.int k n∧F n:=by
 unfold asInt at H;split at H
 ·split at H
  ·rename_i e;subst e;exact ⟨_,rfl,H⟩
  ·exact H.elim
 ·exact H.elim
theorem Wr2 {v:Value} {F:Int→Prop} (H:asI v F):∃k n,v=.int k n∧F n:=by unfold asI at H;split at H <;> first | exact ⟨_,_,rfl,H⟩ | exact H.elim
theorem Wf2 {v:Value} {F:Bool→Prop} (H:asBool v F):∃b,v=.bool b∧F b:=by unfold asBool at H;split at H <;> first | exact ⟨_,rfl,H⟩ | exact H.elim
theorem We1 {v:Value} {F:ByteArray→Prop} (H:Wu3 v F):∃s,v=.string s∧F s:=by unfold Wu3 at H;split at H <;> first | exact ⟨_,rfl,H⟩ | exact H.elim
theorem Wf3 {v:Value} {F:Option Addr→Nat→Nat→Prop} (H:Wb5 v F):∃a l c,v=.slice a l c∧F a l c:=by unfold Wb5 at H;split at H <;> first | exact ⟨_,_,_,rfl,H⟩ | exact H.elim
theorem Wl6 {v:Value} {F:Array Value→Prop} (H:asAgg v F):∃a,v=.agg a∧F a:=by unfold asAgg at H;split at H <;> first | exact ⟨_,rfl,H⟩ | exact H.elim
theorem WQ7 {v:Value} {F:Array Value→Prop} (H:Wg5 v F):∃a,v=.tuple a∧F a:=by unfold Wg5 at H;split at H <;> first | exact ⟨_,rfl,H⟩ | exact H.elim
theorem WA1 {v:Value} {F:Option Nat→Prop} (H:Wz9 v F):∃a,v=.map a∧F a:=by unfold Wz9 at H;split at H <;> first | exact ⟨_,rfl,H⟩ | exact H.elim
theorem Wx4 {v:Value} {F:Bool→Prop} (H:Wj6 v F):(v=.nilFunc∧F true)∨(∃f a b,v=.func f a b∧F false):=by
 unfold Wj6 at H;split at H
 ·exact .inl ⟨rfl,H⟩
 ·exact .inr ⟨_,_,_,rfl,H⟩
 ·exact H.elim
theorem WK9 {v:Value} {X:Prop} (H:Wi5 v X):v.cells=#[v]∧X:=by unfold Wi5 at H;split at H <;> simp_all [Value.cells]
theorem WZ9 {cs:Array Value} {F:List Value→Prop}:∀(n i:Nat) (acc:List Value),Wz4 cs n i acc F→F (acc.reverse ++ (cs.toList.drop i).take n):=by
 intro n
 induction n with
 | zero=>intro i acc H;simpa using (show F acc.reverse from H)
 | succ n ih=>
  intro i acc H
  unfold Wz4 Wc0 at H
  split at H
  ·rename_i v hv
   have:=ih _ _ H
   rw [← Array.getElem?_toList] at hv
   obtain ⟨hlt,hv⟩:=List.getElem?_eq_some_iff.1 hv
   rw [List.drop_eq_getElem_cons hlt,hv]
   simpa using this
  ·exact H.elim
theorem YQ3 {cs:Array Value} {F:List Value→Prop}:∀(n i:Nat) (acc:List Value),i+n≤cs.size→F (acc.reverse ++ (cs.toList.drop i).take n)→Wz4 cs n i acc F:=by
 intro n
 induction n with
 | zero=>intro i acc _ H;show F acc.reverse;simpa using H
 | succ n ih=>
  intro i acc hi H
  have hlt:i < cs.toList.length:=by simp;omega
  show Wc0 cs i λv=>Wz4 cs n (i+1) (v :: acc) F
  unfold Wc0
  rw [← Array.getElem?_toList,List.getElem?_eq_getElem hlt]
  refine ih _ _ (by omega) ?_
  rw [List.drop_eq_getElem_cons hlt] at H
  simpa using H
theorem Yw2 {n:Nat} {v:Value} {F:List Value→Prop} (H:Zr5 n v F):F v.cells.toList∧∀F':List Value→Prop,F' v.cells.toList→Zr5 n v F':=by
 cases hb:Nat.ble n 64 with
 | true=>
  have e:∀F:List Value→Prop,Zr5 n v F=asAgg v λcs=>We0 cs n (Wz4 cs n 0 [] F):=λF=>by unfold Zr5;rw [hb]
  rw [e] at H
  obtain ⟨cs,rfl,H1⟩:=Wl6 H
  unfold We0 at H1
  split at H1
  ·rename_i hn
   have hn':=Nat.eq_of_beq_eq_true hn
   have h1:=WZ9 _ _ _ H1
   have e2:(cs.toList.drop 0).take n=cs.toList:=by rw [List.drop_zero,List.take_of_length_le (by simp [hn'])]
   rw [e2] at h1
   refine ⟨h1,λF' x=>?_⟩
   rw [e]
   show We0 cs n _
   unfold We0
   rw [hn]
   refine YQ3 n 0 [] (by omega) ?_
   rw [e2]
   exact x
  ·exact H1.elim
 | false=>
  have e:∀F:List Value→Prop,Zr5 n v F=asAgg v λcs=>F cs.toList:=λF=>by unfold Zr5;rw [hb]
  rw [e] at H
  obtain ⟨cs,rfl,H1⟩:=Wl6 H
  exact ⟨H1,λF' x=>by rw [e];exact x⟩
theorem WD0 {t:TypeId} {v:Value} {F:List Value→Prop} (H:WA0 P t v F):F v.cells.toList:=by
 unfold WA0 at H;split at H
 ·exact (Yw2 H).1
 ·obtain ⟨e,H⟩:=WK9 H;rw [e];exact H
theorem YQ4 {b:Bool} {X Y:Prop} (H:ifB b X Y):if b then X else Y:=by cases b <;> exact H
theorem WQ8 {a:Addr} {F:Value→Prop} (H:ldH h a F):∃v,Wa2 h a=some v∧F v:=by unfold ldH at H;split at H <;> first | exact ⟨_,‹_›,H⟩ | exact H.elim
theorem WY2 (s:Sem Value):hp P (do let x ← s;pure (Next.value x)) (nxt P K) h=hp P s K h:=by rw [Wa7];rfl
theorem ZL6 (s:Sem Unit):hp P (do s;pure Next.skip) (nxt P K) h=hp P s (λ_=>K Wr5) h:=by rw [Wa7];rfl
theorem Wf7 (a:Addr) (n:Nat):∀(i:Nat) (acc:List Value) (F:Array Value→Wa1→Prop),ldN h a i n acc (λcs=>F cs.toArray h) →
  hp P (loadCellsFrom a i n acc.reverse.toArray) F h:=by
 induction n with
 | zero=>intro i acc F H;exact H
 | succ n ih=>
  intro i acc F H
  obtain ⟨v,hv,H⟩:=WQ8 H
  have:=ih (i+1) (v :: acc) F H
  simp only [loadCellsFrom,Wa7,load,hp,hv]
  simpa using this
theorem Wn8 (a:Addr) (vs:List Value):∀(h:Wa1) (i:Nat) (F:Wa1→Prop),stN h a i vs F→hp P (storeCells a vs i) (λ_=>F) h:=by
 induction vs with
 | nil=>intro h i F H;exact H
 | cons v vs ih=>
  intro h i F H
  simp only [storeCells,Wa7,store,hp]
  exact Ww0 (λ⟨h1,h2,h3⟩=>⟨h1,h2,ih _ _ _ h3⟩) H
theorem W00 {t:TypeId} {a:Addr} (ht:Wf8 P t=true)
  (H:if Zo2 P t then ldN h a 0 (siz P t) [] (λcs=>K (.agg cs.toArray) h) else ldH h a λv=>K v h):hp P (loadVar t a) K h:=by
 simp only [loadVar,Wa7,Yw1 (W93 ht)]
 split at H
 ·simp only [*,if_true,Wa7,We6 ht]
  exact Wf7 a _ 0 [] (λcs h'=>K (.agg cs) h') H
 ·rename_i hn
  simp only [hn]
  obtain ⟨v,hv,H⟩:=WQ8 H
  simp only [load,hp,hv];simpa [load,hp,hv] using H
theorem Yk4 {t:TypeId} {a:Addr} {v:Value} {F:Wa1→Prop} (ht:Wf8 P t=true) (hs:v.cells.toList.length=siz P t)
  (H:stN h a 0 v.cells.toList F):hp P (storeVar t a v) (λ_=>F) h:=by
 simp only [storeVar,Wa7,We6 ht]
 rw [if_neg (by simpa using hs)]
 exact Wn8 a _ h 0 F H
theorem Yk5 {t:TypeId} {cs:Array Value} {off:Nat} {v:Value} (ht:Wf8 P t=true) (hv:Zb0 P t cs off=some v) (F:Value→Wa1→Prop):hp P (part t cs off) F h=F v h:=by
 unfold Zb0 at hv
 simp only [part,Wa7,Yw1 (W93 ht)]
 split at hv
 ·cases hv;simp only [*,if_true,Wa7,We6 ht];rfl
 ·rename_i hn;simp only [hn];simp [hv];rfl
theorem WN5 {α:Type} {c:Prop} [Decidable c] (a b:Sem α) (F:α→Wa1→Prop) (h:Wa1):hp P (if c then a else b) F h=if c then hp P a F h else hp P b F h:=by split <;> rfl
theorem WL0 (F:Program→Wa1→Prop) (h:Wa1):hp P program F h=F P h:=rfl
theorem YQ5 {x y:Option Bool} {b:Bool} (H:Zo3 x y=some b):∃p q,x=some p∧y=some q∧b=(p && q):=by
 unfold Zo3 at H;split at H
 ·simp at H;exact ⟨_,_,rfl,rfl,H.symm⟩
 ·cases H
theorem WP5 {t:TypeId} {cs:Array Value} {off:Nat} {v:Value} (hv:WI1 P t cs off=some v) (F:Value→Wa1→Prop) (h:Wa1):hp P (part t cs off) F h=F v h:=by
 unfold WI1 at hv;split at hv
 ·exact Yk5 ‹_› hv F
 ·cases hv
theorem W94 {ι:Type} (l:List ι) (ok:ι→Option Bool) (g:ι→Option Bool × Unit→Sem (ForInStep (Option Bool × Unit))) (G:Option Bool × Unit→Wa1→Prop) (h:Wa1) :
  ∀b,l.foldr (λi acc=>Zo3 (ok i) acc) (some true)=some b →
  (∀i s c,ok i=some c→∀(F:ForInStep (Option Bool × Unit)→Wa1→Prop),hp P (g i s) F h=F (if c then .yield (none,()) else .done (some false,())) h) →
  hp P (forIn l ((none,()):Option Bool × Unit) g) G h=if b then G (none,()) h else G (some false,()) h:=by
 induction l with
 | nil=>intro b H _;simp at H;subst H;simp [Wc3]
 | cons i l ih=>
  intro b H hf
  simp only [List.foldr_cons] at H
  obtain ⟨p,q,hp1,hq,rfl⟩:=YQ5 H
  simp only [List.forIn_cons,Wa7,hf i _ p hp1]
  cases p
  ·simp [Wc3]
  ·simp only [Bool.true_and,if_true]
   exact ih q hq hf
theorem ZA1 (d:Nat):∀(t:TypeId) (x y:Value) (b:Bool),eqv P d t x y=some b→∀(F:Bool→Wa1→Prop) (h:Wa1),hp P (Op.equalIn d t x y) F h=F b h:=by
 induction d with
 | zero=>intro t x y b H;simp [eqv] at H
 | succ d ih=>
  intro t x y b H F h
  unfold eqv at H
  split at H
  ·rename_i hu;simp only [Op.equalIn,Wa7,Wb0 (Wd0 hu (by simp))];simp at H;subst H;rfl
  ·rename_i hu;simp only [Op.equalIn,Wa7,Wb0 (Wd0 hu (by simp))]
   split at H <;> simp at H
   subst H;simp only [*,if_true];rfl
  ·rename_i hu;simp only [Op.equalIn,Wa7,Wb0 (Wd0 hu (by simp))];simp at H;subst H;rfl
  ·rename_i fields xs ys hu
   simp only [Op.equalIn,Wa7,Wb0 (Wd0 hu (by simp)),WL0]
   split at H
   ·cases H
   ·rename_i hst
    rw [if_neg hst]
    simp only [Wa7,← Array.forIn_toList]
    refine (W94 (P:=P) fields.toList (λf=>if f.name = "_" then none else match WI1 P f.type xs f.offset,WI1 P f.type ys f.offset with | some x,some y=>eqv P d f.type x y | _,_=>none) _ _ h b ?_ ?_).trans ?_
    ·refine Eq.trans ?_ H
     congr 1
     funext f acc
     by_cases hn:f.name = "_"
     ·simp [hn,Zo3]
     ·cases h2:WI1 P f.type xs f.offset <;> cases h3:WI1 P f.type ys f.offset <;> simp [hn,Zo3]
    ·intro f s c hc F'
     split at hc
     ·cases hc
     ·rename_i hn
      split at hc
      ·rename_i a e h1 h2
       simp only [ne_eq,hn,not_false_eq_true,if_true,Wa7,WP5 h1,WP5 h2,ih _ _ _ _ hc,WN5]
       cases c <;> rfl
      ·cases hc
    ·cases b <;> rfl
  ·rename_i len elem xs ys hu
   split at H
   ·rename_i hth
    simp only [Op.equalIn,Wa7,Wb0 (Wd0 hu (by simp)),WL0,We6 hth]
    rw [Std.Legacy.Range.forIn_eq_forIn_range']
    refine (W94 (P:=P) _ (λi=>match WI1 P elem xs (i*siz P elem),WI1 P elem ys (i*siz P elem) with | some x,some y=>eqv P d elem x y | _,_=>none) _ _ h b ?_ ?_).trans ?_
    ·refine Eq.trans ?_ H
     have e:(Std.Legacy.Range.size [:len])=len:=by simp [Std.Legacy.Range.size]
     rw [e]
     congr 1
     funext i acc
     cases h2:WI1 P elem xs (i*siz P elem) <;> cases h3:WI1 P elem ys (i*siz P elem) <;> simp [Zo3]
    ·intro i s c hc F'
     split at hc
     ·rename_i a e h1 h2
      simp only [Wa7,WP5 h1,WP5 h2,ih _ _ _ _ hc,WN5]
      cases c <;> rfl
     ·cases hc
    ·cases b <;> rfl
   ·cases H
  ·cases H
theorem Yw3 {t:TypeId} {x y:Value} {F:Bool→Prop} (H:Yk1 P t x y F):(∃b,hp P (Op.equal t x y)=(λG h=>G b h)∧F b)∧P.eqGuardType P.depth t=false∧∃xs,x=.agg xs:=by
 unfold Yk1 at H
 split at H
 ·exact H.elim
 ·rename_i hg
  obtain ⟨xs,rfl,H⟩:=Wl6 H
  split at H
  ·rename_i b hb
   exact ⟨⟨b,funext λG=>funext λh=>ZA1 10000 t _ y b hb G h,H⟩,by simpa using hg,_,rfl⟩
  ·exact H.elim
end
end
section
section
variable {P:Program} {ρ:Operand→Value} {h:Wa1} {K:Value→Wa1→Prop}
theorem Yk6 (vs:List Value):∀(cs:List Value) (off:Nat),
  (vs.zipIdx).foldl (λ(a:Array Value) (x:Value × Nat)=>a.setIfInBounds (off+x.2) x.1) cs.toArray=(Wr9 cs off vs).toArray:=by
 have key:∀(vs:List Value) (k:Nat) (cs:List Value) (off:Nat),
   (vs.zipIdx k).foldl (λ(a:Array Value) (x:Value × Nat)=>a.setIfInBounds (off+x.2) x.1) cs.toArray=(Wr9 cs (off+k) vs).toArray:=by
  intro vs
  induction vs with
  | nil=>intro k cs off;rfl
  | cons v vs ih=>
   intro k cs off
   simp only [List.zipIdx_cons,List.foldl_cons,Wr9,List.setIfInBounds_toArray]
   rw [ih (k+1)];rfl
 intro cs off;exact key vs 0 cs off
theorem WL1 {place:Nat→Option (Nat × TypeId)} (parts:List (Nat × Value)):∀(cells:List Value) (F:List Value→Prop),
  WO6 P place cells parts F→∃cs:List Value,Instr.fill (λi=>(place i).map λx=>(x.1,siz P x.2)) cells.toArray parts=some cs.toArray∧F cs:=by
 induction parts with
 | nil=>intro cells F H;exact ⟨cells,rfl,H⟩
 | cons p rest ih=>
  obtain ⟨i,v⟩:=p
  intro cells F H
  unfold WO6 at H
  split at H
  ·exact H.elim
  ·rename_i off t hp1
   have H:=WD0 H
   split at H
   ·rename_i hs
    obtain ⟨cs,h1,h2⟩:=ih _ _ H
    refine ⟨cs,?_,h2⟩
    unfold Instr.fill
    simp only [hp1,Option.map_some]
    have hs1:v.cells.size=siz P t:=by simpa using hs.1
    rw [if_neg (by simp [hs1];omega)]
    rw [← h1]
    congr 1
    have:=Yk6 v.cells.toList cells off
    rw [← this]
    rw [← Array.foldl_toList]
    simp [Array.toList_zipIdx]
   ·exact H.elim
theorem WI2 {t:TypeId} {z:Value} (hz:zer P t=some z):(Wt0 P t).toArray=z.cells:=by
 unfold Wt0;rw [hz];cases z <;> simp [Value.cells]
theorem Zo5 (z:List Value) (n:Nat) (hz:0 < z.length) :
  (Array.range (n*z.length)).map (λi=>z.toArray[i % z.toArray.size]!)=((List.replicate n z).flatten).toArray:=by
 apply Array.toList_inj.1
 simp only [Array.toList_map,Array.toList_range,List.size_toArray]
 induction n with
 | zero=>simp
 | succ n ih=>
  rw [Nat.succ_mul,List.range_add,List.map_append,ih,List.replicate_succ',List.flatten_append]
  congr 1
  simp only [List.map_map,List.flatten_cons,List.flatten_nil,List.append_nil]
  apply List.ext_getElem (by simp)
  intro i h1 h2
  simp at h1
  simp [Nat.mul_add_mod_of_lt,Nat.mod_eq_of_lt h1,h1,Nat.mul_comm n]
theorem WP6 {t:TypeId} (hz:(zer P t).isSome=true):∃z,zer P t=some z:=Option.isSome_iff_exists.1 hz
theorem Zb6 {k:IntKind} {op:BinOp} {a b:Int} (H:W89 k op a b λv=>K v h) (hs:op≠.shl∧op≠.shr) :
  hp P (binOp op 0 (.int k a) (.int k b)) K h:=by
 cases op <;> simp only [W89,binOp,Op.intArith,Op.intDiv,Op.intBits,Op.intCmp,ne_eq,not_true,if_false] at H ⊢ <;> first
  | exact H
  | (rw [if_neg H.1];exact H.2)
  | exact H.elim
  | (exact absurd rfl hs.1)
  | (exact absurd rfl hs.2)
theorem YQ6 {k:IntKind} {op:BinOp} {a b:Int} (t:TypeId) (hs:op≠.shl∧op≠.shr):binOp op t (.int k a) (.int k b)=binOp op 0 (.int k a) (.int k b):=by
 cases op <;> first | rfl | exact absurd rfl hs.1 | exact absurd rfl hs.2
end
end
section
section
variable {P:Program} {ρ:Operand→Value} {h:Wa1} {K:Value→Wa1→Prop}
theorem Wd5 {op:BinOp} {t:TypeId} {x y:Operand} {a b:Value} (F:Unit→Wa1→Prop)
  (hs:(op≠.eql∧op≠.neq)∨((∀xs,a≠.agg xs)∧a≠.nilIface)∨(P.eqGuardType P.depth t=false∧∃xs,a=.agg xs)):hp P (eqGuard op t x y a b) F h=F () h:=by
 unfold eqGuard
 rcases hs with ⟨h1,h2⟩ | ⟨h1,h2⟩ | ⟨h1,xs,rfl⟩
 ·cases op <;> first | rfl | exact absurd rfl h1 | exact absurd rfl h2
 ·cases op <;> first | rfl | (cases a <;> first | exact absurd rfl h2 | exact absurd rfl (h1 _) | rfl)
 ·cases op <;> first | rfl | (cases b <;> first | rfl | (simp [Wa7,WL0,h1,Wc3]))
theorem Wh1 {t:TypeId} {a b:Value} (ha:∀k n,a≠.int k n) (ha2:∀s,a≠.string s) (ha3:∀k n,a≠.float k n) (ha4:∀k n m,a≠.complex k n m) (F:Value→Wa1→Prop) :
  hp P (binOp .eql t a b) F h=hp P (Op.equal t a b) (λr h=>F (.bool r) h) h:=by
 cases a <;> first | exact absurd rfl (ha _ _) | exact absurd rfl (ha2 _) | exact absurd rfl (ha3 _ _) | exact absurd rfl (ha4 _ _ _) | (cases b <;> simp only [binOp,Wa7] <;> rfl)
theorem Wi2 {t:TypeId} {a b:Value} (ha:∀k n,a≠.int k n) (ha2:∀s,a≠.string s) (ha3:∀k n,a≠.float k n) (ha4:∀k n m,a≠.complex k n m) (F:Value→Wa1→Prop) :
  hp P (binOp .neq t a b) F h=hp P (Op.equal t a b) (λr h=>F (.bool (!r)) h) h:=by
 cases a <;> first | exact absurd rfl (ha _ _) | exact absurd rfl (ha2 _) | exact absurd rfl (ha3 _ _) | exact absurd rfl (ha4 _ _ _) | (cases b <;> simp only [binOp,Wa7] <;> rfl)
theorem Yw4 {y:Operand} (hy:ZG4 y=true) (hc:∀v,ρ (.const v)=v):ρ y=.pointer none:=by
 unfold ZG4 at hy;split at hy <;> first | exact hc _ | cases hy
theorem Yw5 {y:Operand} (hy:ZG5 y=true) (hc:∀v,ρ (.const v)=v):∃l c,ρ y=.slice none l c:=by
 unfold ZG5 at hy;split at hy <;> first | exact ⟨_,_,hc _⟩ | cases hy
theorem Yw6 {y:Operand} (hy:ZH4 y=true) (hc:∀v,ρ (.const v)=v):ρ y=.map none:=by
 unfold ZH4 at hy;split at hy <;> first | exact hc _ | cases hy
theorem Yw7 {y:Operand} (hy:ZG6 y=true) (hc:∀v,ρ (.const v)=v):ρ y=.nilFunc:=by
 unfold ZG6 at hy;split at hy <;> first | exact hc _ | cases hy
theorem Wg1 (t:TypeId) (x y:Value):Op.equal t x y=Op.equalIn (9999+1) t x y:=rfl
theorem W95 (d:Nat) {t:TypeId} {a b:Bool} (hu:P.underlying t=some .bool) (F:Bool→Wa1→Prop) (h:Wa1):hp P (Op.equalIn (d+1) t (.bool a) (.bool b)) F h=F (a == b) h:=by
 simp only [Op.equalIn,Wa7,Wb0 hu];rfl
theorem Yw8 (d:Nat) {t e:TypeId} {a:Option Addr} (hu:P.underlying t=some (.pointer e)) (F:Bool→Wa1→Prop) (h:Wa1):hp P (Op.equalIn (d+1) t (.pointer a) (.pointer none)) F h=F a.isNone h:=by
 cases a <;> simp only [Op.equalIn,Wa7,Wb0 hu] <;> rfl
theorem W01 (d:Nat) {t e:TypeId} {a:Option Addr} {l c l' c':Nat} (hu:P.underlying t=some (.slice e)) (F:Bool→Wa1→Prop) (h:Wa1):hp P (Op.equalIn (d+1) t (.slice a l c) (.slice none l' c')) F h=F a.isNone h:=by
 cases a <;> simp only [Op.equalIn,Wa7,Wb0 hu] <;> rfl
theorem Yw9 (d:Nat) {t e e':TypeId} {a:Option Nat} (hu:P.underlying t=some (.map e e')) (F:Bool→Wa1→Prop) (h:Wa1):hp P (Op.equalIn (d+1) t (.map a) (.map none)) F h=F a.isNone h:=by
 cases a <;> simp only [Op.equalIn,Wa7,Wb0 hu] <;> rfl
theorem Yx0 (d:Nat) {t:TypeId} {a b:Array TypeId} {c:Bool} (hu:P.underlying t=some (.func a b c)) (F:Bool→Wa1→Prop) (h:Wa1):hp P (Op.equalIn (d+1) t .nilFunc .nilFunc) F h=F true h:=by
 simp only [Op.equalIn,Wa7,Wb0 hu];rfl
theorem Yx1 (d:Nat) {t:TypeId} {a b:Array TypeId} {c:Bool} {f:Fn} {x y:Array Value} (hu:P.underlying t=some (.func a b c)) (F:Bool→Wa1→Prop) (h:Wa1):hp P (Op.equalIn (d+1) t (.func f x y) .nilFunc) F h=F false h:=by
 simp only [Op.equalIn,Wa7,Wb0 hu];rfl
theorem YC9 {op:BinOp} {xt yt:TypeId} {x y:Operand} {o:Oper} (ho:o.op=.binOp op xt x y yt) (hc:∀v,ρ (.const v)=v)
  (H:YP7 P op xt yt x y ρ o h K):hp P (execOp ρ o) (nxt P K) h:=by
 have e:execOp ρ o=(do let r ← (do eqGuard op xt x y (ρ x) (ρ y);binOp op xt (ρ x) (ρ y));pure (Next.value r)):=by unfold execOp;rw [ho]
 have toh:hp P (do eqGuard op xt x y (ρ x) (ρ y);binOp op xt (ρ x) (ρ y)) K h→hp P (execOp ρ o) (nxt P K) h:=λq=>by rw [e,WY2];exact q
 have fall:opH P ρ o h K→hp P (execOp ρ o) (nxt P K) h:=id
 unfold YP7 at H
 split at H
 ·rename_i k hk
  split at H
  ·split at H
   ·obtain ⟨a,ha,H⟩:=We3 H
    obtain ⟨b,hb,H⟩:=We3 H
    apply toh
    rw [ha,hb]
    simp only [Wa7]
    rw [Wd5 _ (.inl ⟨by simp,by simp⟩)]
    simp only [Zo4,binOp,Op.shift] at H ⊢
    rw [if_neg (by have:=H.1;omega)]
    exact H.2
   ·exact H.elim
  ·split at H
   ·obtain ⟨a,ha,H⟩:=We3 H
    obtain ⟨b,hb,H⟩:=We3 H
    apply toh
    rw [ha,hb]
    simp only [Wa7]
    rw [Wd5 _ (.inl ⟨by simp,by simp⟩)]
    simp only [Zo4,binOp,Op.shift] at H ⊢
    rw [if_neg (by have:=H.1;omega)]
    exact H.2
   ·exact H.elim
  ·rename_i n1 n2
   obtain ⟨a,ha,H⟩:=We3 H
   obtain ⟨b,hb,H⟩:=We3 H
   have hs:op≠.shl∧op≠.shr:=⟨n1,n2⟩
   apply toh
   rw [ha,hb]
   simp only [Wa7]
   rw [Wd5 _ (.inr (.inl ⟨by simp,by simp⟩)),YQ6 xt hs]
   exact Zb6 H hs
 ·rename_i hu
  split at H
  ·obtain ⟨a,ha,H⟩:=Wf2 H
   obtain ⟨b,hb,H⟩:=Wf2 H
   apply toh
   rw [ha,hb]
   simp only [Wa7]
   rw [Wd5 _ (.inr (.inl ⟨by simp,by simp⟩)),Wh1 (by simp) (by simp) (by simp) (by simp)]
   rw [Wg1,W95 _ (Wd0 hu (by simp))]
   exact H
  ·obtain ⟨a,ha,H⟩:=Wf2 H
   obtain ⟨b,hb,H⟩:=Wf2 H
   apply toh
   rw [ha,hb]
   simp only [Wa7]
   rw [Wd5 _ (.inr (.inl ⟨by simp,by simp⟩)),Wi2 (by simp) (by simp) (by simp) (by simp)]
   rw [Wg1,W95 _ (Wd0 hu (by simp))]
   exact H
  ·exact H.elim
 ·rename_i hu
  split at H
  ·obtain ⟨a,ha,H⟩:=We1 H
   obtain ⟨b,hb,H⟩:=We1 H
   apply toh
   rw [ha,hb]
   simp only [Wa7]
   rw [Wd5 _ (.inr (.inl ⟨by simp,by simp⟩))]
   exact H
  ·obtain ⟨a,ha,H⟩:=We1 H
   obtain ⟨b,hb,H⟩:=We1 H
   apply toh
   rw [ha,hb]
   simp only [Wa7]
   rw [Wd5 _ (.inr (.inl ⟨by simp,by simp⟩))]
   exact H
  ·obtain ⟨a,ha,H⟩:=We1 H
   obtain ⟨b,hb,H⟩:=We1 H
   apply toh
   rw [ha,hb]
   simp only [Wa7]
   rw [Wd5 _ (.inl ⟨by simp,by simp⟩)]
   simp only [binOp,Op.stringOp]
   rw [if_neg (by have:=H.1;have e:IntKind.i64.max=9223372036854775807:=(by decide);omega)]
   exact H.2
  ·exact fall H
 ·rename_i el hu
  split at H
  ·rename_i hn
   have hy:=Yw4 hn hc
   obtain ⟨a,ha,H⟩:=Wj2 H
   apply toh
   rw [ha,hy]
   simp only [Wa7]
   rw [Wd5 _ (.inr (.inl ⟨by simp,by simp⟩)),Wh1 (by simp) (by simp) (by simp) (by simp),Wg1,Yw8 _ (Wd0 hu (by simp))]
   exact H
  ·rename_i hn
   have hy:=Yw4 hn hc
   obtain ⟨a,ha,H⟩:=Wj2 H
   apply toh
   rw [ha,hy]
   simp only [Wa7]
   rw [Wd5 _ (.inr (.inl ⟨by simp,by simp⟩)),Wi2 (by simp) (by simp) (by simp) (by simp),Wg1,Yw8 _ (Wd0 hu (by simp))]
   exact H
  ·obtain ⟨a,ha,H⟩:=Wj2 H
   obtain ⟨b,hb,H⟩:=Wj2 H
   apply toh
   rw [ha,hb]
   simp only [Wa7]
   rw [Wd5 _ (.inr (.inl ⟨by simp,by simp⟩))]
   exact H
  ·obtain ⟨a,ha,H⟩:=Wj2 H
   obtain ⟨b,hb,H⟩:=Wj2 H
   apply toh
   rw [ha,hb]
   simp only [Wa7]
   rw [Wd5 _ (.inr (.inl ⟨by simp,by simp⟩))]
   exact H
  ·exact fall H
 ·rename_i el hu
  split at H
  ·rename_i hn
   obtain ⟨l0,c0,hy⟩:=Yw5 hn hc
   obtain ⟨a,l,c,ha,H⟩:=Wf3 H
   apply toh
   rw [ha,hy]
   simp only [Wa7]
   rw [Wd5 _ (.inr (.inl ⟨by simp,by simp⟩)),Wh1 (by simp) (by simp) (by simp) (by simp),Wg1,W01 _ (Wd0 hu (by simp))]
   exact H
  ·rename_i hn
   obtain ⟨l0,c0,hy⟩:=Yw5 hn hc
   obtain ⟨a,l,c,ha,H⟩:=Wf3 H
   apply toh
   rw [ha,hy]
   simp only [Wa7]
   rw [Wd5 _ (.inr (.inl ⟨by simp,by simp⟩)),Wi2 (by simp) (by simp) (by simp) (by simp),Wg1,W01 _ (Wd0 hu (by simp))]
   exact H
  ·exact fall H
 ·rename_i e1 e2 hu
  split at H
  ·rename_i hn
   have hy:=Yw6 hn hc
   obtain ⟨a,ha,H⟩:=WA1 H
   apply toh
   rw [ha,hy]
   simp only [Wa7]
   rw [Wd5 _ (.inr (.inl ⟨by simp,by simp⟩)),Wh1 (by simp) (by simp) (by simp) (by simp),Wg1,Yw9 _ (Wd0 hu (by simp))]
   exact H
  ·rename_i hn
   have hy:=Yw6 hn hc
   obtain ⟨a,ha,H⟩:=WA1 H
   apply toh
   rw [ha,hy]
   simp only [Wa7]
   rw [Wd5 _ (.inr (.inl ⟨by simp,by simp⟩)),Wi2 (by simp) (by simp) (by simp) (by simp),Wg1,Yw9 _ (Wd0 hu (by simp))]
   exact H
  ·exact fall H
 ·rename_i e1 e2 e3 hu
  split at H
  ·rename_i hn
   have hy:=Yw7 hn hc
   rcases Wx4 H with ⟨ha,H⟩ | ⟨f,a,b,ha,H⟩
   ·apply toh
    rw [ha,hy]
    simp only [Wa7]
    rw [Wd5 _ (.inr (.inl ⟨by simp,by simp⟩)),Wh1 (by simp) (by simp) (by simp) (by simp),Wg1,Yx0 _ (Wd0 hu (by simp))]
    exact H
   ·apply toh
    rw [ha,hy]
    simp only [Wa7]
    rw [Wd5 _ (.inr (.inl ⟨by simp,by simp⟩)),Wh1 (by simp) (by simp) (by simp) (by simp),Wg1,Yx1 _ (Wd0 hu (by simp))]
    exact H
  ·rename_i hn
   have hy:=Yw7 hn hc
   rcases Wx4 H with ⟨ha,H⟩ | ⟨f,a,b,ha,H⟩
   ·apply toh
    rw [ha,hy]
    simp only [Wa7]
    rw [Wd5 _ (.inr (.inl ⟨by simp,by simp⟩)),Wi2 (by simp) (by simp) (by simp) (by simp),Wg1,Yx0 _ (Wd0 hu (by simp))]
    exact H
   ·apply toh
    rw [ha,hy]
    simp only [Wa7]
    rw [Wd5 _ (.inr (.inl ⟨by simp,by simp⟩)),Wi2 (by simp) (by simp) (by simp) (by simp),Wg1,Yx1 _ (Wd0 hu (by simp))]
    exact H
  ·exact fall H
 ·rename_i hu
  split at H
  ·obtain ⟨⟨b,hb,H⟩,hg,xs,hx⟩:=Yw3 H
   apply toh
   rw [hx] at hb ⊢
   simp only [Wa7]
   rw [Wd5 _ (.inr (.inr ⟨hg,_,rfl⟩)),Wh1 (by simp) (by simp) (by simp) (by simp),hb]
   exact H
  ·obtain ⟨⟨b,hb,H⟩,hg,xs,hx⟩:=Yw3 H
   apply toh
   rw [hx] at hb ⊢
   simp only [Wa7]
   rw [Wd5 _ (.inr (.inr ⟨hg,_,rfl⟩)),Wi2 (by simp) (by simp) (by simp) (by simp),hb]
   exact H
  ·exact H.elim
 ·rename_i hu
  split at H
  ·obtain ⟨⟨b,hb,H⟩,hg,xs,hx⟩:=Yw3 H
   apply toh
   rw [hx] at hb ⊢
   simp only [Wa7]
   rw [Wd5 _ (.inr (.inr ⟨hg,_,rfl⟩)),Wh1 (by simp) (by simp) (by simp) (by simp),hb]
   exact H
  ·obtain ⟨⟨b,hb,H⟩,hg,xs,hx⟩:=Yw3 H
   apply toh
   rw [hx] at hb ⊢
   simp only [Wa7]
   rw [Wd5 _ (.inr (.inr ⟨hg,_,rfl⟩)),Wi2 (by simp) (by simp) (by simp) (by simp),hb]
   exact H
  ·exact H.elim
 ·exact fall H
end
end
section
section
variable {P:Program} {ρ:Operand→Value} {h:Wa1} {K:Value→Wa1→Prop}
theorem Ws0 {v:Value} {i:Int} {k:IntKind} {y:Nat} {code:BoundsCode} (hv:v=.int k i) (h0:0≤i) (h1:i≤y) (F:Nat→Wa1→Prop) :
  hp P (Instr.sliceBound v y code) F h=F i.toNat h:=by
 subst hv
 simp only [Instr.sliceBound,asIntOf,Wa7,Wc3]
 rw [if_pos ⟨h0,h1⟩];rfl
theorem Wp0 {v:Option Value} {d m:Nat} {F:Nat→Prop} (H:Wt2 none v d m F) :
  (v=none∧F d)∨∃k i,v=some (.int k i)∧0≤i∧i≤m∧F i.toNat:=by
 unfold Wt2 at H
 split at H
 ·exact .inl ⟨rfl,H⟩
 ·split at H
  ·obtain ⟨k,i,rfl,H⟩:=Wr2 H
   exact .inr ⟨_,_,rfl,H⟩
  ·cases ‹none=some _›
theorem Wv7 {isSlice:Bool} {len cap:Nat} {lo hi mx:Option Value} {F:Nat × Nat × Nat→Wa1→Prop} (hm:mx=none∨hi≠none)
  (H:Wt2 none mx cap cap λm=>Wt2 none hi len m λh'=>Wt2 none lo 0 h' λl=>F (l,h',m) h) :
  hp P (Instr.sliceBounds isSlice len cap lo hi mx) F h:=by
 rcases Wp0 H with ⟨rfl,H1⟩ | ⟨k,i,rfl,h0,h1,H1⟩
 ·rcases Wp0 H1 with ⟨rfl,H2⟩ | ⟨k,i,rfl,h0,h1,H2⟩
  ·rcases Wp0 H2 with ⟨rfl,H3⟩ | ⟨k,i,rfl,h0,h1,H3⟩
   ·exact H3
   ·simp only [Instr.sliceBounds,Wa7,Wc3,Ws0 rfl h0 h1];exact H3
  ·rcases Wp0 H2 with ⟨rfl,H3⟩ | ⟨k',i',rfl,h0',h1',H3⟩
   ·simp only [Instr.sliceBounds,Wa7,Wc3,Ws0 rfl h0 h1];exact H3
   ·simp only [Instr.sliceBounds,Wa7,Wc3,Ws0 rfl h0 h1,Ws0 rfl h0' h1'];exact H3
 ·rcases Wp0 H1 with ⟨rfl,H2⟩ | ⟨k2,i2,rfl,h02,h12,H2⟩
  ·rcases hm with hm | hm
   ·cases hm
   ·exact absurd rfl hm
  ·rcases Wp0 H2 with ⟨rfl,H3⟩ | ⟨k',i',rfl,h0',h1',H3⟩
   ·simp only [Instr.sliceBounds,Wa7,Wc3,Ws0 rfl h0 h1,Ws0 rfl h02 h12];exact H3
   ·simp only [Instr.sliceBounds,Wa7,Wc3,Ws0 rfl h0 h1,Ws0 rfl h02 h12,Ws0 rfl h0' h1'];exact H3
theorem YD0 {t:TypeId} {x:Value} {lo hi mx:Option Value} (hm:mx=none∨hi≠none) (H:WN4 P t x lo hi mx λv=>K v h) :
  hp P (Instr.sliceAt t x lo hi mx) K h:=by
 unfold WN4 at H
 split at H
 ·rename_i hu
  split at H
  ·exact H.elim
  ·rename_i hmx
   obtain ⟨s,rfl,H⟩:=We1 H
   simp only [Instr.sliceAt,Wa7,Wb0 (Wd0 hu (by simp)),Instr.slice]
   rw [if_neg hmx]
   simp only [Wa7,Wc3]
   refine Wv7 (.inl rfl) ?_
   exact H
 ·rename_i e hu
  split at H
  ·rename_i hth
   obtain ⟨a,len,cap,rfl,H⟩:=Wf3 H
   simp only [Instr.sliceAt,Wa7,Wb0 (Wd0 hu (by simp)),Instr.slice]
   refine Wv7 hm ?_
   simp only [Wa7,We6 hth,Wc3]
   exact H
  ·exact H.elim
 ·rename_i n e hu
  split at H
  ·rename_i hth
   obtain ⟨a,rfl,H⟩:=Wh5 H
   simp only [Instr.sliceAt,Wa7,Wb0 (Wd0 hu (by simp)),Instr.sureAddr,Wc3]
   refine Wv7 hm ?_
   simp only [Wa7,We6 hth,Wc3]
   exact H
  ·exact H.elim
 ·exact H.elim
theorem WD1 (n:Nat) (F:Unit→Wa1→Prop):hp P (askRoom n) F h=F () h:=by unfold askRoom;split <;> rfl
theorem W96 {n:Int} (h0:0≤n) (h1:n≤9223372036854775807):IntKind.i64.wrap n=n:=by
 have e1:((2:Int) ^ IntKind.i64.bits)=18446744073709551616:=by decide
 have e2:((2:Int) ^ (IntKind.i64.bits - 1))=9223372036854775808:=by decide
 unfold IntKind.wrap
 rw [e1,e2]
 have:n % 18446744073709551616=n:=by omega
 simp only [this]
 rw [if_neg (by simp;omega)]
theorem W97 {t elem:TypeId} {k1 k2:IntKind} {l c:Int} (hu:P.underlying t=some (.slice elem)) (hth:Wf8 P elem=true) (hz:(zer P elem).isSome=true)
  (hs:(Wt0 P elem).length=siz P elem) (hp0:0 < siz P elem) (H:Wq7 P elem l c h K):hp P (Instr.makeSlice t (.int k1 l) (.int k2 c)) K h:=by
 obtain ⟨h1,h2,h3,h4,H⟩:=H
 obtain ⟨i,hi⟩:=Ww1 hth
 obtain ⟨z,hz⟩:=WP6 hz
 have hb:byt P elem=i.bytes:=by unfold byt;rw [hi]
 rw [hb] at h4
 have w1:IntKind.i64.wrap l=l:=W96 h1 (by omega)
 have w2:IntKind.i64.wrap c=c:=W96 (by omega) h3
 simp only [Instr.makeSlice,Wa7,Wb0 hu,asInt,Go.asInt,asIntOf,Wc3,Wi6 hi,w1,w2]
 rw [if_neg (by
  simp only [Bool.or_eq_true,decide_eq_true_eq,not_or]
  refine ⟨⟨⟨by omega,?_⟩,by omega⟩,by omega⟩
  have:((2:Int) ^ 48)=281474976710656:=by decide
  rw [this] at h4
  rw [this]
  omega)]
 simp only [Wa7,WD1,We6 hth]
 by_cases hc0:c.toNat=0
 ·simp only [hc0,Nat.zero_mul,if_true,Wc3,newRow,newObj,Wa7,hp] at H ⊢
  have e:(Array.range 0).map (λx=>(#[]:Array Value)[x % (#[]:Array Value).size]!)=#[]:=by simp [Array.range]
  rw [e];simpa using H
 ·rw [if_neg (by intro e;rcases Nat.mul_eq_zero.1 e with e | e <;> omega)]
  simp only [Wa7,Wh0 hz,Wc3,← WI2 hz,newRow,newObj,hp]
  have:=Zo5 (Wt0 P elem) c.toNat (by omega)
  rw [hs] at this
  rw [this];exact H
end
end
section
section
variable {P:Program} {ρ:Operand→Value} {h:Wa1} {K:Value→Wa1→Prop}
def ZN4 (P:Program) (K:Value→Wa1→Prop) (h0:World):Next→World→Prop
 | .value v,w=>K v w.heap∧Kw h0 w
 | .skip,w=>K Wr5 w.heap∧Kw h0 w
 | .enter f args,w=>CallsIn Fence.wide 0 P f args w (onH h0 K)
 | .round l f tmps assign body,w=>RoundIn Fence.wide 0 P l f tmps assign body w (onH h0 K)
 | _,_=>False
def OpS (P:Program) (ρ:Operand→Value) (o:Oper) (h:Wa1) (K:Value→Wa1→Prop):Prop:=
 ∀w:World,w.heap=h→∃nx w',(execOp ρ o).run P w=.ok nx w'∧ZN4 P K w nx w'
theorem Zb7 {h0 h1:World} (hk:Kw h0 h1):∀e w,onH h1 K e w→onH h0 K e w:=by
 intro e w x
 cases e <;> first | exact x | exact ⟨x.1,hk.trans x.2⟩
theorem Wd6 {o:Oper} (H:hp P (execOp ρ o) (nxt P K) h):OpS P ρ o h K:=by
 intro w hw
 obtain ⟨nx,w',h1,h2,h3⟩:=ZA0 _ H w hw
 refine ⟨nx,w',h1,?_⟩
 cases nx <;> first
  | exact ⟨h2,h3⟩
  | exact (h2 w' rfl).mono (Zb7 h3)
  | exact h2.elim
theorem Wj3 {o:Oper} {b:Builtin} {args:Array Operand} {argTypes:Array TypeId} (ho:o.op=.call { callee:=.builtin b,args,argTypes }) (s:Sem Value)
  (hb:∀consts,builtin b argTypes o.type consts (args.map ρ)=(do let x ← s;pure (Next.value x))) (H:hp P s K h):hp P (execOp ρ o) (nxt P K) h:=by
 unfold execOp;rw [ho]
 simp only [resolve,Wa7,Wc3,invoke,hb]
 exact H
theorem W32 (f:Operand→Value) (a:Array Operand):Yk2 f a=a.map f:=by unfold Yk2;apply Array.toList_inj.1;simp
theorem YQ7 {f:Int→Int→Int} {m:Value→Value→Sem Value} (hm:∀k a b,m (.int k a) (.int k b)=pure (.int k (f a b))) {k:IntKind} (ys:List Value):∀(a:Int),
  Wk2.go f k a ys (λn=>K (.int k n) h)→hp P (ys.foldlM m (.int k a)) K h:=by
 induction ys with
 | nil=>intro a H;exact H
 | cons y ys ih=>
  intro a H
  obtain ⟨b,rfl,H2⟩:=We3 H
  simp only [List.foldlM_cons,Wa7,hm,Wc3]
  exact ih _ H2
theorem W98 {f:Int→Int→Int} {m:Value→Value→Sem Value} (hm:∀k a b,m (.int k a) (.int k b)=pure (.int k (f a b))) {t:TypeId} {k:IntKind} (hk:Wt1 P t=some k)
  (why:String) (xs:List Value) (H:Wk2 f P t xs λn=>K (.int k n) h):hp P (match xs with | []=>stuck why | x :: rest=>rest.foldlM m x) K h:=by
 cases xs with
 | nil=>exact H.elim
 | cons x xs=>cases xs with
  | nil=>
   simp only [Wk2,hk] at H
   obtain ⟨b,rfl,H2⟩:=We3 H
   exact H2
  | cons y ys=>
   simp only [Wk2,hk] at H
   obtain ⟨b,rfl,H2⟩:=We3 H
   exact YQ7 hm _ _ H2
theorem WY5 {o:Oper} {b:Builtin} {args:Array Operand} {argTypes:Array TypeId} (ho:o.op=.call { callee:=.builtin b,args,argTypes })
  (H:Wn7 P b argTypes o.type (args.toList.map ρ) ρ o h K):hp P (execOp ρ o) (nxt P K) h:=by
 have ea:args.map ρ=(args.toList.map ρ).toArray:=by rw [← W32];rfl
 unfold Wn7 at H
 split at H
 ·rename_i x hx
  refine Wj3 ho (Builtin.len_ argTypes o.type (args.map ρ)) (λ_=>rfl) ?_
  rw [ea,hx]
  split at H
  ·rename_i t0 h0
   simp only [Builtin.len_,h0]
   simp only [List.getElem?_toArray,List.getElem?_cons_zero]
   split at H
   ·rename_i e hu
    obtain ⟨a,n,c,rfl,H2⟩:=Wf3 H
    simp only [Wa7,Wb0 (Wd0 hu (by simp)),Wc3];exact H2
   ·rename_i hu
    obtain ⟨a,rfl,H2⟩:=We1 H
    simp only [Wa7,Wb0 (Wd0 hu (by simp)),Wc3];exact H2
   ·rename_i e1 e2 hu
    obtain ⟨r,rfl,H2⟩:=WA1 H
    simp only [Wa7,Wb0 (Wd0 hu (by simp)),Wc3]
    unfold Zr6 at H2
    cases r with
    | none=>exact H2
    | some r=>
     simp only at H2
     split at H2
     ·rename_i es c hr
      simp only [Wa7,getObj,hp,hr];exact H2
     ·exact H2.elim
   ·rename_i n e hu
    simp only [Wa7,Wb0 (Wd0 hu (by simp)),Wc3];exact H
   ·exact H.elim
  ·exact H.elim
 ·rename_i x hx
  refine Wj3 ho (Builtin.cap_ argTypes o.type (args.map ρ)) (λ_=>rfl) ?_
  rw [ea,hx]
  split at H
  ·rename_i t0 h0
   simp only [Builtin.cap_,h0]
   simp only [List.getElem?_toArray,List.getElem?_cons_zero]
   split at H
   ·rename_i e hu
    obtain ⟨a,n,c,rfl,H2⟩:=Wf3 H
    simp only [Wa7,Wb0 (Wd0 hu (by simp)),Wc3];exact H2
   ·exact H.elim
  ·exact H.elim
 ·rename_i xs
  refine Wj3 ho (Builtin.append_ argTypes o.type (args.map ρ)) (λ_=>rfl) ?_
  rw [ea];exact H
 ·refine Wj3 ho (Builtin.copy_ argTypes o.type (args.map ρ)) (λ_=>rfl) ?_
  rw [ea];exact H
 ·refine Wj3 ho (Builtin.delete_ argTypes o.type (args.map ρ)) (λ_=>rfl) ?_
  rw [ea];exact H
 ·refine Wj3 ho (Builtin.unsafeSliceData_ argTypes o.type (args.map ρ)) (λ_=>rfl) ?_
  rw [ea];exact H
 ·refine Wj3 ho (Builtin.unsafeString_ argTypes o.type (args.map ρ)) (λ_=>rfl) ?_
  rw [ea];exact H
 ·refine Wj3 ho (Builtin.clear_ argTypes o.type (args.map ρ)) (λ_=>rfl) ?_
  rw [ea];exact H
 ·split at H
  ·rename_i k hk
   refine Wj3 ho (Builtin.max_ argTypes o.type (args.map ρ)) (λ_=>rfl) ?_
   rw [ea]
   exact W98 (f:=WO7) (m:=Builtin.max2) (λ_ _ _=>rfl) hk _ _ H
  ·exact H
 ·split at H
  ·rename_i k hk
   refine Wj3 ho (Builtin.min_ argTypes o.type (args.map ρ)) (λ_=>rfl) ?_
   rw [ea]
   exact W98 (f:=W91) (m:=Builtin.min2) (λ_ _ _=>rfl) hk _ _ H
  ·exact H
 ·exact H
end
end
section
section
variable {P:Program} {ρ:Operand→Value} {h:Wa1} {K:Value→Wa1→Prop}
theorem Yk7 {o:Oper} {f:Operand} {args:Array Operand} {argTypes:Array TypeId} (ho:o.op=.call { callee:=.value f,args,argTypes })
  (H:Wu2 P (ρ f) (args.map ρ) h K):OpS P ρ o h K:=by
 intro w hw
 have e:execOp ρ o=(do let d ← Deferred.ofValue (ρ f) (args.map ρ);invoke d.target d.args):=by
  unfold execOp;rw [ho];rfl
 rw [e]
 unfold Wu2 at H
 split at H
 ·rename_i g first captured hf
  rw [hf]
  obtain ⟨he,hcall⟩:=H
  have hr:(do let d ← Deferred.ofValue (.func (.func g) first captured) (args.map ρ);invoke d.target d.args).run P w=.ok (.enter g (first ++ args.map ρ ++ captured)) w:=he _ w
  exact ⟨_,w,hr,hcall w hw⟩
 ·rename_i l first captured hf
  rw [hf]
  obtain ⟨fn,tmps,assign,body,hr,hround⟩:=H w hw
  exact ⟨_,w,hr,hround⟩
 ·exact H.elim
theorem YD1 {o:Oper} {f:Operand} {args:Array Operand} {argTypes:Array TypeId} (ho:o.op=.call { callee:=.value f,args,argTypes })
  (H:Zy8 P (ρ f) (args.map ρ) h K):OpS P ρ o h K:=by
 have e:execOp ρ o=(do let d ← Deferred.ofValue (ρ f) (args.map ρ);invoke d.target d.args):=by
  unfold execOp;rw [ho];rfl
 unfold Zy8 at H
 split at H
 ·rename_i g first captured hf
  refine Wd6 ?_
  rw [e,hf]
  show hp P (callFunc g (first ++ args.map ρ ++ captured)) (nxt P K) h
  refine Wj7 ?_ H
  intro nx h' x
  cases nx <;> first | exact x | exact x.elim
 ·exact H.elim
theorem W99 (o:Oper) (hc:∀v,ρ (.const v)=v) (H:vop P ρ o h K):OpS P ρ o h K:=by
 unfold vop at H
 split at H
 case h_1 x hx | h_2 x hx=>exact Wd6 (by unfold execOp;rw [hx];exact H)
 case h_3 c a b hx=>
  obtain ⟨t,ht,H⟩:=Wf2 H
  refine Wd6 ?_
  unfold execOp;rw [hx]
  simp only [ht,Go.asBool,Wa7,Wc3,nxt]
  have:=YQ4 H
  cases t <;> simpa using this
 case h_4 t hx=>
  refine Wd6 ?_
  unfold execOp;rw [hx]
  split at H
  ·rename_i z hz
   refine (WY2 _).mpr ?_
   simp only [Instr.alloc,Wa7,Wh0 hz,newVar,newRow,newObj,hp,Wc3]
   exact H
  ·exact H.elim
 case h_5 t x hx=>
  refine Wd6 ?_
  unfold execOp;rw [hx]
  have H:=WD0 H
  refine (WY2 _).mpr ?_
  simp only [Instr.box,newVar,newRow,newObj,Wa7,hp,Wc3]
  simpa using H
 case h_6 t parts hx=>
  refine Wd6 ?_
  unfold execOp;rw [hx]
  refine (WY2 _).mpr ?_
  split at H
  ·rename_i hz
   obtain ⟨z,hz⟩:=WP6 hz
   simp only [Instr.build,Wa7,Wh0 hz,← WI2 hz]
   split at H
   ·rename_i fields hu
    split at H
    ·exact H.elim
    ·rename_i hall
     simp only [Wb0 (Wd0 hu (by simp))]
     obtain ⟨cs,h1,h2⟩:=WL1 _ _ _ H
     have hpl:∀(fs:List Field),(∀f ∈ fs,Wf8 P f.type=true)→∀(G:List (Nat × Nat)→Wa1→Prop),
       hp P (fs.mapM λf=>do pure (f.offset,← sizeOf f.type)) G h=G (fs.map λf=>(f.offset,siz P f.type)) h:=by
      intro fs
      induction fs with
      | nil=>intro _ G;rfl
      | cons f fs ih=>
       intro hf G
       simp only [List.mapM_cons,Wa7,We6 (hf f (by simp)),Wc3,ih (λg hg=>hf g (by simp [hg])),List.map_cons]
     have hall2:∀f ∈ fields.toList,Wf8 P f.type=true:=by
      intro f hf
      have:fields.all (λf=>Wf8 P f.type)=true:=by simpa using hall
      rw [Array.all_eq_true'] at this
      exact this f (by simpa using hf)
     rw [Array.mapM_eq_mapM_toList]
     simp only [map_eq_pure_bind,Wa7,hpl fields.toList hall2,Wc3]
     have e:(λx:Nat=>((fields.toList.map λf=>(f.offset,siz P f.type)).toArray)[x]?)=(λi=>((fields[i]?).map λf=>(f.offset,f.type)).map λx=>(x.1,siz P x.2)):=by
      funext i;simp [Function.comp_def]
     have ep:(parts.map λx=>(x.1,ρ x.2)).toList=parts.toList.map λp=>(p.1,ρ p.2):=by simp
     rw [e,ep,h1]
     exact h2
   ·rename_i n elem hu
    split at H
    ·exact H.elim
    ·rename_i hth
     have hth:Wf8 P elem=true:=by simpa using hth
     simp only [Wb0 (Wd0 hu (by simp))]
     obtain ⟨cs,h1,h2⟩:=WL1 _ _ _ H
     simp only [Wa7,We6 hth]
     have ep:(parts.map λx=>(x.1,ρ x.2)).toList=parts.toList.map λp=>(p.1,ρ p.2):=by simp
     have e:(λi=>some (i*siz P elem,siz P elem))=(λi=>((λi=>some (i*siz P elem,elem)) i:Option (Nat × TypeId)).map λx=>(x.1,siz P x.2)):=by
      funext i;simp
     rw [e,ep,h1]
     exact h2
   ·exact H.elim
  ·exact H.elim
 case h_7 t len parts hx=>
  refine Wd6 ?_
  unfold execOp;rw [hx]
  refine (WY2 _).mpr ?_
  split at H
  ·rename_i elem hu
   split at H
   ·rename_i hh
    obtain ⟨hth,hle,hz,hl,h0⟩:=hh
    obtain ⟨z,hz⟩:=WP6 hz
    simp only [Instr.buildSlice,Wa7,Wb0 (Wd0 hu (by simp)),We6 hth]
    rw [if_neg (by omega)]
    obtain ⟨cs,h1,h2⟩:=WL1 _ _ _ H
    have ep:(parts.map λx=>(x.1,ρ x.2)).toList=parts.toList.map λp=>(p.1,ρ p.2):=by simp
    have e:(λi=>some (i*siz P elem,siz P elem))=(λi=>((λi=>some (i*siz P elem,elem)) i:Option (Nat × TypeId)).map λx=>(x.1,siz P x.2)):=by
     funext i;simp
    by_cases hl0:len=0
    ·subst hl0
     simp only [Nat.zero_mul,if_true,Wc3]
     have e0:∀zero:Array Value,(Array.range 0).map (λx=>zero[x % zero.size]!)=(([]:List Value)).toArray:=by intro z;simp [Array.range]
     simp only [List.replicate_zero,List.flatten_nil] at h1
     rw [Wa7,Wc3,e0,e,ep]
     simp only [Option.map_some] at h1 ⊢
     rw [h1]
     simp only [newRow,newObj,Wa7,hp,Wc3]
     exact h2
    ·rw [if_neg (by intro e;rcases Nat.mul_eq_zero.1 e with e | e <;> omega)]
     simp only [Wa7,Wh0 hz,Wc3,← WI2 hz]
     have:=Zo5 (Wt0 P elem) len (by omega)
     rw [hl] at this
     rw [this,e,ep,h1]
     simp only [newRow,newObj,Wa7,hp,Wc3]
     exact h2
   ·exact H.elim
  ·exact H.elim
 case h_8 t x hx=>
  refine Wd6 ?_
  unfold execOp;rw [hx]
  refine (WY2 _).mpr ?_
  obtain ⟨a,ha,H⟩:=Wh5 H
  split at H
  ·rename_i hth
   simp only [Instr.loadAt,ha,Instr.sureAddr,Wa7,Wc3]
   exact W00 hth H
  ·exact H.elim
 case h_9 t x y hx=>
  refine Wd6 ?_
  unfold execOp;rw [hx]
  refine (ZL6 _).mpr ?_
  obtain ⟨a,ha,H⟩:=Wh5 H
  have H:=WD0 H
  split at H
  ·rename_i hth
   simp only [Instr.storeAt,ha,Instr.sureAddr,Wa7,Wc3]
   exact Yk4 hth.1 hth.2 H
  ·exact H.elim
 case h_10 x hx=>
  refine Wd6 ?_
  unfold execOp;rw [hx]
  unfold Wb8 at H
  generalize hv:ρ x=v at H ⊢
  split at H <;> first
   | exact H.elim
   | skip
  rename_i n1 n2 n3 n4
  dsimp only
  rw [hv]
  cases v with
  | pointer a=>cases a with
   | none=>exact absurd rfl n1
   | some a=>exact H
  | nilIface=>exact absurd rfl n2
  | nilFunc=>exact absurd rfl n3
  | func f a b=>cases f with
   | method m=>exact absurd rfl (n4 _ _ _)
   | _=>exact H
  | _=>exact H
 case h_11 op xt x y yt hx=>exact Wd6 (YC9 hx hc H)
 case h_12 op xt x hx=>
  refine Wd6 ?_
  split at H
  ·obtain ⟨b,hb,H⟩:=Wf2 H
   unfold execOp;rw [hx]
   refine (WY2 _).mpr ?_
   rw [hb];exact H
  ·obtain ⟨b,hb,H⟩:=We3 H
   unfold execOp;rw [hx]
   refine (WY2 _).mpr ?_
   rw [hb];exact H
  ·exact H
 case h_13 src dst x hx=>
  refine Wd6 ?_
  split at H
  ·rename_i hu1 hu2
   obtain ⟨b,hb,H⟩:=We3 H
   unfold execOp;rw [hx]
   refine (WY2 _).mpr ?_
   simp only [convert,Wa7,Wb0 (Wd0 hu1 (by simp)),Wb0 (Wd0 hu2 (by simp)),hb]
   exact H
  ·rename_i hu1 hu2
   obtain ⟨b,hb,H⟩:=We1 H
   unfold execOp;rw [hx]
   refine (WY2 _).mpr ?_
   simp only [convert,Wa7,Wb0 (Wd0 hu1 (by simp)),Wb0 (Wd0 hu2 (by simp)),hb]
   exact H
  ·unfold execOp;rw [hx]
   exact (WY2 _).mpr H
 case h_14 t x hx=>
  refine Wd6 ?_
  unfold execOp;rw [hx]
  refine (WY2 _).mpr ?_
  split at H
  ·exact H.elim
  ·exact H.elim
  ·rename_i n1 n2
   have hu:=Wd0 (P:=P) (t:=t) rfl n2
   simp only [Instr.makeInterface,Wa7,Wb0 hu]
   exact H
 case h_15 fn first captured hx=>
  refine Wd6 ?_
  unfold execOp;rw [hx]
  refine (WY2 _).mpr ?_
  rw [W32,W32] at H
  exact H
 case h_16 t hx=>
  refine Wd6 ?_
  unfold execOp;rw [hx]
  refine (WY2 _).mpr ?_
  exact H
 case h_17 t l c hx=>
  refine Wd6 ?_
  unfold execOp;rw [hx]
  refine (WY2 _).mpr ?_
  split at H
  ·rename_i elem hu
   obtain ⟨k1,l',hl,H⟩:=Wr2 H
   obtain ⟨k2,c',hc',H⟩:=Wr2 H
   rw [hl,hc']
   split at H
   ·rename_i hh
    exact W97 (Wd0 hu (by simp)) hh.1 hh.2.1 hh.2.2.1 hh.2.2.2 H
   ·exact H.elim
  ·exact H.elim
 case h_18 t x lo hi mx hx=>
  refine Wd6 ?_
  unfold execOp;rw [hx]
  refine (WY2 _).mpr ?_
  split at H
  ·exact H.elim
  ·rename_i hm
   refine YD0 ?_ H
   cases mx <;> cases hi <;> simp_all
 case h_19 t x f hx=>
  refine Wd6 ?_
  unfold execOp;rw [hx]
  refine (WY2 _).mpr ?_
  split at H
  ·rename_i fields hu
   split at H
   ·rename_i fd hf
    split at H
    ·rename_i hh
     obtain ⟨a,ha,H⟩:=Wh5 H
     simp only [Instr.fieldAt,Wa7,Wb0 (Wd0 hu (by simp)),hf,ha,Instr.sureAddr,Wc3,fieldPlace,We6 hh.1]
     rw [if_neg hh.2];exact H
    ·exact H.elim
   ·exact H.elim
  ·exact H.elim
 case h_20 t x f hx=>
  refine Wd6 ?_
  unfold execOp;rw [hx]
  refine (WY2 _).mpr ?_
  split at H
  ·rename_i fields hu
   split at H
   ·rename_i fd hf
    obtain ⟨cs,ha,H⟩:=Wl6 H
    unfold WY3 at H
    split at H
    ·rename_i v hv
     split at H
     ·rename_i hth
      simp only [Instr.field,Wa7,Wb0 (Wd0 hu (by simp)),hf,ha,Go.asAgg,Wc3]
      rw [Yk5 hth hv];exact H
     ·exact H.elim
    ·exact H.elim
   ·exact H.elim
  ·exact H.elim
 case h_21 t x i hx=>
  refine Wd6 ?_
  unfold execOp;rw [hx]
  refine (WY2 _).mpr ?_
  split at H
  ·rename_i elem hu
   obtain ⟨a,len,cap,ha,H⟩:=Wf3 H
   obtain ⟨k,n,hi,h0,h1,H⟩:=Wr2 H
   obtain ⟨ad,had,H⟩:=Wh5 H
   cases had
   split at H
   ·rename_i hth
    simp only [Instr.indexAt,hi,asIntOf,Wa7,Wc3,Wb0 (Wd0 hu (by simp)),ha]
    rw [if_pos ⟨h0,h1⟩]
    simp only [Wa7,We6 hth,Wc3];exact H
   ·exact H.elim
  ·rename_i len elem hu
   obtain ⟨a,ha,H⟩:=Wh5 H
   obtain ⟨k,n,hi,h0,h1,H⟩:=Wr2 H
   split at H
   ·rename_i hth
    simp only [Instr.indexAt,hi,asIntOf,Wa7,Wc3,Wb0 (Wd0 hu (by simp)),ha,Instr.sureAddr]
    rw [if_pos ⟨h0,h1⟩]
    simp only [Wa7,We6 hth,Wc3];exact H
   ·exact H.elim
  ·exact H.elim
 case h_22 t x i hx=>
  refine Wd6 ?_
  unfold execOp;rw [hx]
  refine (WY2 _).mpr ?_
  split at H
  ·rename_i hu
   obtain ⟨s,ha,H⟩:=We1 H
   obtain ⟨k,n,hi,h0,h1,H⟩:=Wr2 H
   simp only [Instr.index,hi,asIntOf,Wa7,Wc3,Wb0 (Wd0 hu (by simp)),ha]
   have hs:n.toNat < s.size:=by omega
   unfold WZ8 at H
   simp only [h0,if_true]
   rw [getElem?_pos s n.toNat hs] at H ⊢
   exact H
  ·rename_i len elem hu
   obtain ⟨cs,ha,H⟩:=Wl6 H
   obtain ⟨k,n,hi,h0,h1,H⟩:=Wr2 H
   unfold WY3 at H
   split at H
   ·rename_i v hv
    split at H
    ·rename_i hth
     simp only [Instr.index,hi,asIntOf,Wa7,Wc3,Wb0 (Wd0 hu (by simp)),ha]
     rw [if_pos ⟨h0,h1⟩]
     simp only [Wa7,We6 hth]
     rw [Yk5 hth hv];exact H
    ·exact H.elim
   ·exact H.elim
  ·exact H.elim
 case h_23 t x i ok hx=>
  refine Wd6 ?_
  unfold execOp;rw [hx]
  exact (WY2 _).mpr H
 case h_24 t m k x hx=>
  refine Wd6 ?_
  unfold execOp;rw [hx]
  exact (ZL6 _).mpr H
 case h_25 x i hx=>
  refine Wd6 ?_
  unfold execOp;rw [hx]
  refine (WY2 _).mpr ?_
  obtain ⟨vs,ha,H⟩:=WQ7 H
  unfold Wc0 at H
  split at H
  ·rename_i v hv
   simp only [Instr.extract,ha,hv];exact H
  ·exact H.elim
 case h_26 b args argTypes hx=>exact Wd6 (WY5 hx H)
 case h_27 f args argTypes hx=>
  rw [W32] at H
  split at H
  ·exact YD1 hx H
  ·exact Yk7 hx H
 case h_28=>exact H.elim
 case h_29=>exact Wd6 H
end
end
section
def upd (ρ:Env) (d:Nat) (v:Value):Env:=λj=>cond (Nat.beq j d) v (ρ j)
def WI0 (ρ:Env) (d:Option Nat) (v:Value):Env:=match d with | some d=>upd ρ d v | none=>ρ
def evo (ρ:Env):Operand→Value
 | .tmp j=>ρ j
 | .const v=>v
 | .global g=>.pointer (some ⟨g,0,none⟩)
 | .func f=>.func (.func f) #[] #[]
def YQ8 (v:Value) (N:Prop) (F:Bool→Prop):Prop:=match v with | .bool b=>F b | _=>N
def WI3 (ops:Array Oper) (ρ:Env) (g:Option (Nat × Bool)) (yes no:Env→Prop):Prop:=
 match g with
 | none=>yes ρ
 | some (j,want)=>match (ops[j]?).bind (·.dst) with
  | none=>no ρ
  | some d=>YQ8 (ρ d) (no ρ) λb=>ifB b (cond want (yes (upd ρ d (.bool true))) (no (upd ρ d (.bool true)))) (cond want (no (upd ρ d (.bool false))) (yes (upd ρ d (.bool false))))
def tyO (P:Program) (o:Oper) (v:Value) (K:Value→Prop):Prop:=
 match o.op with
 | .alloc _ | .store ..=>K v
 | _=>WQ6 P o.type v K
def WY6 (P:Program) (ops:Array Oper):List Oper→Env→Wa1→(Env→Wa1→Prop)→Prop
 | [],ρ,h,K=>K ρ h
 | o :: rest,ρ,h,K=>WI3 ops ρ o.guard
  (λρ=>vop P (evo ρ) o h λv h'=>tyO P o v λv=>WY6 P ops rest (WI0 ρ o.dst v) h' K)
  (λρ=>WY6 P ops rest (WI0 ρ o.dst Wr5) h K)
def Wn9 (P:Program) (o:Oper):Bool:=
 match o.op with
 | .move _ | .assign _ | .pick .. | .load .. | .nilCheck _ | .makeFunc .. | .fieldAddr .. | .field .. | .indexAddr .. | .index .. | .extract .. | .slice ..=>true
 | .binOp op xt _ y _=>(match und P xt with
  | .int _ | .bool=>true
  | .string=>(match op with | .eql | .neq | .add=>true | _=>false)
  | .pointer _=>(match op with | .eql | .neq=>ZG4 y | _=>false)
  | .slice _=>(match op with | .eql | .neq=>ZG5 y | _=>false)
  | .func _ _ _=>(match op with | .eql | .neq=>ZG6 y | _=>false)
  | .struct _ | .array _ _=>true
  | _=>false)
 | .unOp op xt _=>(match op,und P xt with | .not,.bool=>true | .neg,.int _=>true | _,_=>false)
 | .convert s d _=>(match und P s,und P d with | .int _,.int _=>true | .string,.string=>true | _,_=>false)
 | .build ..=>true
 | .call { callee:=.builtin .len,argTypes,args }=>(match argTypes[0]?,args.toList with
  | some t,[_]=>(match und P t with | .slice _ | .string | .array _ _=>true | _=>false)
  | _,_=>false)
 | _=>false
def Wh6 (ops:Array Oper):Nat→Nat→Nat→Bool
 | 0,_,_=>false
 | n+1,e,i=>match ops[e]? with
  | none=>false
  | some o=>o.after.any λed=>Region.binds .any ed && (ed.on == i || Wh6 ops n ed.on i)
def WL2 (o:Oper):List Nat:=o.after.toList.filterMap λed=>match Region.binds .any ed with | true=>some ed.on | false=>none
def WN6 (ops:Array Oper) (i:Nat):Nat→List Nat→Nat→Bool
 | 0,_,_=>false
 | _+1,[],_=>false
 | n+1,e :: st,vis=>match Nat.testBit vis e with
  | true=>WN6 ops i n st vis
  | false=>match ops[e]? with
   | none=>WN6 ops i n st vis
   | some o=>match (WL2 o).any (Nat.beq i) with
    | true=>true
    | false=>WN6 ops i n (WL2 o ++ st) (Nat.lor vis (Nat.shiftLeft 1 e))
def ZA2 (ops:Array Oper) (e i:Nat):Bool:=WN6 ops i ((ops.size+2)*(ops.size+2)) [e] 0
abbrev ZA3:=List (Nat × List (Addr × Value))
def YQ9 (h:Wa1):List (Addr × Value)→Prop→Prop
 | [],X=>X
 | (a,u) :: L,X=>Wa2 h a=some u∧YQ9 h L X
def W02 (ops:Array Oper) (e:Nat) (h:Wa1):ZA3→Prop→Prop
 | [],X=>X
 | (i,L) :: r,X=>match ZA2 ops e i with | true=>W02 ops e h r X | false=>YQ9 h L (W02 ops e h r X)
def ZH8 (h:Wa1) (a:Addr) (i:Nat):Nat→List Value→List (Addr × Value)→(List Value→List (Addr × Value)→Prop)→Prop
 | 0,acc,L,K=>K acc.reverse L.reverse
 | n+1,acc,L,K=>ldH h (a.add i) λv=>ZH8 h a (i+1) n (v :: acc) ((a.add i,v) :: L) K
def ZH9 (P:Program) (ρ:Operand→Value) (o:Oper) (h:Wa1) (F:Value→List (Addr × Value)→Prop):Prop:=
 match o.op with
 | .load t x=>Wd2 (ρ x) λa=>if Wf8 P t then
  (if Zo2 P t then ZH8 h a 0 (siz P t) [] [] (λcs L=>F (.agg cs.toArray) L) else ldH h a λv=>F v [(a,v)]) else False
 | _=>vop P ρ o h λv _=>F v []
def Yx2 (P:Program) (ops:Array Oper) (listed:Array Bool):Option Nat:=
 (Region.ready .any ops listed).find? λi=>(match ops[i]? with | some o=>Wn9 P o | none=>false) && Region.free .any ops listed i
def ZI0 (l:List Nat) (F:Nat→Prop):Prop:=
 match l with
 | []=>True
 | [i]=>F i
 | i :: j :: l=>F i∧ZI0 (j :: l) F
def W33 (P:Program) (ops:Array Oper):Nat→Array Bool→ZA3→Env→Wa1→(Env→Wa1→Prop)→Prop
 | 0,listed,_,ρ,h,K=>match Region.ready .any ops listed with | []=>K ρ h | _=>False
 | n+1,listed,held,ρ,h,K=>
  match Yx2 P ops listed with
  | some i=>(match ops[i]? with
   | none=>False
   | some o=>WI3 ops ρ o.guard
    (λρ=>ZH9 P (evo ρ) o h λv L=>tyO P o v λv=>W33 P ops n (listed.setIfInBounds i true) (match L with | []=>held | _=>(i,L) :: held) (WI0 ρ o.dst v) h K)
    (λρ=>W33 P ops n (listed.setIfInBounds i true) held (WI0 ρ o.dst Wr5) h K))
  | none=>(match Region.ready .any ops listed with
   | []=>K ρ h
   | rs=>ZI0 rs λe=>(match ops[e]? with
    | none=>False
    | some o=>WI3 ops ρ o.guard
     (λρ=>vop P (evo ρ) o h λv h'=>tyO P o v λv=>W02 ops e h' held (W33 P ops n (listed.setIfInBounds e true) held (WI0 ρ o.dst v) h' K))
     (λρ=>W02 ops e h held (W33 P ops n (listed.setIfInBounds e true) held (WI0 ρ o.dst Wr5) h K))))
def WN7 (ops:Array Oper):List Nat:=ops.toList.filterMap (·.dst)
def ZI1 (o:Oper):Bool:=match o.op,o.dst with
 | .assign _,_=>true
 | .move (.tmp e),some d=>Nat.blt d e
 | _,_=>false
def Zr7 (ops:Array Oper):List Nat:=ops.toList.filterMap λo=>match ZI1 o with | true=>o.dst | false=>none
def Yk8 (ops:Array Oper):List Nat:=ops.toList.filterMap λo=>match o.op with | .pick ..=>o.dst | _=>none
def ZA4 (n:Nat):List Nat→List Nat
 | []=>[n]
 | m :: l=>if n < m then n :: m :: l else if n=m then m :: l else m :: ZA4 n l
def Wm7 (a b:List Nat):List Nat:=a.foldr ZA4 b
def WK8:Code→List Nat
 | .region _ ops _=>Wm7 (WN7 ops) []
 | .seq a b=>Wm7 (WK8 a) (WK8 b)
 | .cond c a b=>Wm7 (match c with | .tmp d=>[d] | _=>[]) (Wm7 (WK8 a) (WK8 b))
 | .block _ b | .loop b | .scope b=>WK8 b
 | .rangeFunc ..=>[]
 | _=>[]
def WP7:Code→List Nat
 | .region _ ops _=>Wm7 (Zr7 ops) []
 | .seq a b | .cond _ a b=>Wm7 (WP7 a) (WP7 b)
 | .block _ b | .loop b | .scope b=>WP7 b
 | _=>[]
def Wb6:Code→List Nat
 | .region _ ops _=>Wm7 (Yk8 ops) []
 | _=>[]
def Zr8 (ops:Array Oper):Bool:=ops.any λo=>o.guard.isSome
def ZA5 (id:Nat):Code→Nat
 | .seq a b | .cond _ a b=>ZA5 id a+ZA5 id b
 | .block _ b | .loop b | .scope b=>ZA5 id b
 | .rangeFunc _ _ _ b=>ZA5 id b
 | .exit j=>if j=id then 1 else 0
 | _=>0
def Zr9:Code→Nat
 | .region _ ops _=>if Zr8 ops then 2 else 1
 | .seq a b=>if Zr9 a=0 then 0 else Zr9 b
 | .cond _ a b=>Zr9 a+Zr9 b
 | .block id b=>Zr9 b+ZA5 id b
 | .loop _ | .exit _ | .ret | .goto _ | .refuse _=>0
 | .scope b=>Zr9 b
 | _=>1
def ZI2:Code→Bool
 | .skip | .exit _ | .ret=>true
 | .seq a b=>ZI2 a && ZI2 b
 | .region _ ops _=>ops.size≤2
 | _=>false
def Zs0 (K:Env→Wa1→Prop) (Q:Exit→Env→Wa1→Prop):Exit→Env→Wa1→Prop
 | .normal,ρ,h=>K ρ h
 | e,ρ,h=>Q e ρ h
def Zo6 (id:Nat) (Q:Exit→Env→Wa1→Prop):Exit→Env→Wa1→Prop
 | .exit j,ρ,h=>if j=id then Q .normal ρ h else Q (.exit j) ρ h
 | e,ρ,h=>Q e ρ h
def ZG8:Nat→(List Value→Prop)→Prop
 | 0,F=>F []
 | n+1,F=>∀v,ZG8 n λvs=>F (v :: vs)
def Zb8 (vars:List Nat) (vs:List Value) (j:Nat) (d:Value):Value:=
 match vars,vs with
 | x :: xs,v :: vs=>cond (Nat.beq j x) v (Zb8 xs vs j d)
 | _,_=>d
def ZG9 (j:Nat):List Nat→Bool
 | []=>false
 | x :: xs=>cond (Nat.beq j x) true (ZG9 j xs)
def Yx3 (ρ:Env) (ws vars:List Nat) (vs:List Value) (g:Env):Env:=λj=>Zb8 vars vs j (cond (ZG9 j ws) (g j) (ρ j))
def exI (F:(List Value→Wa1→Prop)→Prop):Prop:=∃I,F I
def exM (F:(List Value→Wa1→Nat)→Prop):Prop:=∃μ,F μ
def ZI3 (n:Nat) (A:(List Value→Wa1→Prop)→Prop) (B:List Value→Env→Wa1→Prop):Prop:=
 exI λJ=>A J∧ZG8 n λvs=>∀(g:Env) (h:Wa1),J vs h→B vs g h
def ZI4 (n:Nat) (vs0:List Value) (h0:Wa1) (B:(List Value→Wa1→Prop)→(List Value→Wa1→Nat)→List Value→Env→Wa1→Prop):Prop:=
 exI λI=>exM λμ=>I vs0 h0∧ZG8 n λvs=>∀(g:Env) (h:Wa1),I vs h→B I μ vs g h
def Yk9 (ρ:Env) (c:Operand) (b:Bool):Env:=match c with | .tmp d=>upd ρ d (.bool b) | _=>ρ
def Za5 (N M:Nat) (h1 h2:Wa1):Prop:=h1.size≤h2.size∧∀b,b < h1.size→(b < N∨M≤b)→h2[b]? = h1[b]?
def KeepMid (N M:Nat) (h1 h2:Wa1):Prop:=h1.size≤h2.size∧∀b,N≤b→b < M→h2[b]? = h1[b]?
def SameD (N:Nat) (h h':Wa1):Prop:=h'.size=h.size∧∀b:Nat,(b < N∨∀x,h[b]?≠some (.deferred x))→h'[b]? = h[b]?
theorem SameD.mono {N M:Nat} {h h':Wa1} (H:SameD N h h') (hM:M≤N):SameD M h h':=⟨H.1,λb hb=>H.2 b (hb.imp (λx=>Nat.lt_of_lt_of_le x hM) id)⟩
structure RangeOk {ε:Type} (N:Nat) (h:Wa1) (Ev:Wa1→Prop) (I:Nat→Nat→Wa1→Prop) (X:Nat→ε→Wa1→Prop):Prop where
 env:∀M k h',N≤M→M≤h'.size→I M k h'→Ev h'
 keepI:∀M k h1 h2,N≤M→M≤h1.size→I M k h1→Za5 N M h1 h2→I M k h2
 keepX:∀M e h1 h2,N≤M→M≤h1.size→X M e h1→Za5 N M h1 h2→X M e h2
 dI:∀M k h1 h2,SameD N h1 h2→I M k h1→I M k h2
 dX:∀M e h1 h2,SameD N h1 h2→X M e h1→X M e h2
 start:∀h1,h.size≤h1.size→(∀b,b < N→h1[b]? = h[b]?)→I h1.size 0 h1
def Zo7 (P:Program) (g:Value) (n:Nat) (xs:Nat→Array Value) (Ev:Wa1→Prop):Prop:=
 ∀(yf:Fn) (y1 y2:Array Value) (h:Wa1) (N:Nat) (I:Nat→Nat→Wa1→Prop) (X:Nat→Unit→Wa1→Prop),N≤h.size→Ev h→RangeOk N h Ev I X →
  (∀M k h',k < n→N≤M→h.size≤M→M≤h'.size→I M k h'→Wu2 P (.func yf y1 y2) (xs k) h' λv h''=>KeepMid N M h' h''∧((v=.bool true∧I M (k+1) h'')∨(v=.bool false∧X M () h''))) →
  Wu2 P g #[.func yf y1 y2] h λ_ h'=>∃M,N≤M∧h.size≤M∧M≤h'.size∧(I M n h'∨X M () h')
def WI4 (h:Wa1):List Obj→Wa1
 | []=>h
 | o :: os=>WI4 (h.push o) os
def ZI5:List Value→Prop→Prop
 | [],X=>X
 | v :: vs,X=>Wi5 v (ZI5 vs X)
def Yx4 (P:Program):List Oper→Env→Nat→(Env→List Obj→Prop)→Prop
 | [],ρ,_,F=>F ρ []
 | { op:=.assign x,dst:=d,type:=ty,guard:=none,.. } :: rest,ρ,n,F=>WQ6 P ty (evo ρ x) λv=>Yx4 P rest (WI0 ρ d v) n F
 | { op:=.alloc t,dst:=some d,guard:=none,.. } :: { op:=.store t' (.tmp d') y,dst:=none,guard:=none,.. } :: rest,ρ,n,F=>
  if t=t'∧d=d'∧Wf8 P t∧(zer P t).isSome∧(Wt0 P t).length=siz P t then
   WA0 P t (evo (upd ρ d (.pointer (some ⟨n,0,none⟩))) y) λcs=>if cs.length=siz P t then
    ZI5 cs (Yx4 P rest (upd ρ d (.pointer (some ⟨n,0,none⟩))) (n+1) λρ' os=>F ρ' (.cells cs.toArray t :: os)) else False
  else False
 | _,_,_,_=>False
def Ya0:Code→Option (List Oper)
 | .skip=>some []
 | .region _ ops false=>some ops.toList
 | _=>none
def YD2 (ρ:Env) (vs:Array Value):List Nat→Nat→Env
 | [],_=>ρ
 | p :: ps,i=>YD2 (upd ρ p (vs.getD i Wr5)) vs ps (i+1)
def fnV (v:Value):Prop:=match v with | .func (.func _) _ _=>True | _=>False
def YR0 (P:Program) (g:Value) (np:Nat) (h:Wa1) (B:(Exit→Wa1→Prop)→Array Value→Wa1→Prop) (D:Wa1→Prop) (E:Exit→Wa1→Prop):Prop:=
 ∃(n:Nat) (xs:Nat→Array Value) (Ev:Wa1→Prop) (I:Nat→Nat→Wa1→Prop) (X:Nat→Exit→Wa1→Prop),
  fnV g∧Zo7 P g n xs Ev∧(∀k,k < n→(xs k).size=np)∧Ev h∧RangeOk h.size h Ev I X ∧
  (∀M k h',k < n→h.size+2≤M→M≤h'.size→I M k h'→B (λe h''=>KeepMid h.size M h' h''∧(match e with | .normal=>I M (k+1) h'' | e=>X M e h'')) (xs k) h') ∧
  (∀M h',h.size+2≤M→M≤h'.size→I M n h'→D h') ∧
  (∀M e h',h.size+2≤M→M≤h'.size→X M e h'→E e h')
def eqE:Exit→Exit→Bool
 | .ret,.ret=>true
 | .exit i,.exit j=>Nat.beq i j
 | _,_=>false
def inE (e:Exit):List (Exit × (Wa1→Prop))→Prop
 | []=>False
 | p :: ps=>match eqE e p.1 with | true=>True | false=>inE e ps
def ZA6 (X:Exit→(Wa1→Prop)→Prop):List (Exit × (Wa1→Prop))→Prop
 | []=>True
 | p :: ps=>X p.1 p.2∧ZA6 X ps
def WQ9 (P:Program) (g:Value) (np:Nat) (h:Wa1) (B:(Exit→Wa1→Prop)→Array Value→Wa1→Prop) (D:Wa1→Prop) (Es:List (Exit × (Wa1→Prop))):Prop:=
 ∃(n:Nat) (xs:Nat→Array Value) (Ev:Wa1→Prop) (I:Nat→Nat→Wa1→Prop) (X:Nat→Exit→Wa1→Prop),
  fnV g∧Zo7 P g n xs Ev∧(∀k,k < n→(xs k).size=np)∧Ev h∧RangeOk h.size h Ev I X ∧
  (∀M k h',k < n→h.size+2≤M→M≤h'.size→I M k h'→B (λe h''=>KeepMid h.size M h' h''∧(match e with | .normal=>I M (k+1) h'' | e=>inE e Es∧X M e h'')) (xs k) h') ∧
  (∀M h',h.size+2≤M→M≤h'.size→I M n h'→D h') ∧
  ZA6 (λe F=>∀M h',h.size+2≤M→M≤h'.size→X M e h'→F h') Es
theorem ZA7 {a b:Exit} (h:eqE a b=true):a=b:=by
 cases a <;> cases b <;> simp [eqE] at h <;> first | rfl | (subst h;rfl) | exact h.elim
theorem YD3 {P:Program} {g:Value} {np:Nat} {h:Wa1} {B:(Exit→Wa1→Prop)→Array Value→Wa1→Prop} {D:Wa1→Prop} {E:Exit→Wa1→Prop} {es:List Exit}
  (H:WQ9 P g np h B D (es.map λe=>(e,E e))):YR0 P g np h B D E:=by
 obtain ⟨n,xs,Ev,I,X,h1,h2,h3,h4,h5,h6,h7,h8⟩:=H
 refine ⟨n,xs,Ev,I,λM e h'=>inE e (es.map λe=>(e,E e))∧X M e h',h1,h2,h3,h4,?_,h6,h7,?_⟩
 ·exact { env:=h5.env,keepI:=h5.keepI,keepX:=λM e a b c d e f=>⟨e.1,h5.keepX M _ a b c d e.2 f⟩,dI:=h5.dI,dX:=λM e a b c d=>⟨d.1,h5.dX M _ a b c d.2⟩,start:=h5.start }
 ·rintro M e h' hM hM' ⟨hi,hx⟩
  clear h6
  induction es with
  | nil=>exact hi.elim
  | cons e0 es ih=>
   simp only [List.map,inE,ZA6] at hi h8
   cases hq:eqE e e0 with
   | true=>have:=ZA7 hq;subst this;exact h8.1 M h' hM hM' hx
   | false=>rw [hq] at hi;exact ih h8.2 hi
def Zo8 (e:Exit):List Exit→Bool
 | []=>false
 | x :: xs=>eqE e x || Zo8 e xs
def ZI6 (a b:List Exit):List Exit:=a.foldr (λe l=>if Zo8 e l then l else e :: l) b
def WL3:Code→List Exit
 | .seq a b | .cond _ a b=>ZI6 (WL3 a) (WL3 b)
 | .block id b=>(WL3 b).filter λe=>!(eqE e (.exit id))
 | .loop b | .scope b=>WL3 b
 | .rangeFunc _ _ _ b=>WL3 b
 | .exit id=>[.exit id]
 | .ret=>[.ret]
 | _=>[]
def vc (P:Program):Code→(Exit→Env→Wa1→Prop)→Env→Wa1→Prop
 | .skip,Q,ρ,h=>Q .normal ρ h
 | .region _ ops false,Q,ρ,h=>WY6 P ops ops.toList ρ h (Q .normal)
 | .region _ ops true,Q,ρ,h=>W33 P ops ops.size (Array.replicate ops.size false) [] ρ h (Q .normal)
 | .seq a b,Q,ρ,h=>
  if Zr9 a≤1 || ZI2 b then vc P a (Zs0 (vc P b Q) Q) ρ h else
  ZI3 (Wm7 (WP7 a) (Wb6 a)).length
   (λJ=>vc P a (Zs0 (λρ' h'=>J ((Wm7 (WP7 a) (Wb6 a)).map ρ') h') Q) ρ h)
   (λvs g h'=>vc P b Q (Yx3 ρ (WK8 a) (Wm7 (WP7 a) (Wb6 a)) vs g) h')
 | .cond c x y,Q,ρ,h=>asBool (evo ρ c) λb=>ifB b (vc P x Q (Yk9 ρ c true) h) (vc P y Q (Yk9 ρ c false) h)
 | .block id b,Q,ρ,h=>vc P b (Zo6 id Q) ρ h
 | .loop b,Q,ρ,h=>ZI4 (WP7 b).length ((WP7 b).map ρ) h λI μ vs g h'=>
   vc P b (Zs0 (λρ' h''=>I ((WP7 b).map ρ') h''∧μ ((WP7 b).map ρ') h'' < μ vs h') Q) (Yx3 ρ (WK8 b) (WP7 b) vs g) h'
 | .rangeFunc g ps assign body,Q,ρ,h=>
  WQ9 P (evo ρ g) ps.size h
   (λK vs h'=>match Ya0 assign with
    | some ops=>Yx4 P ops (YD2 ρ vs ps.toList 0) h'.size λρ1 os=>vc P body (λe _ h''=>K e h'') ρ1 (WI4 h' os)
    | none=>False)
   (λh'=>Q .normal ρ h') ((WL3 body).map λe=>(e,λh'=>Q e ρ h'))
 | .exit id,Q,ρ,h=>Q (.exit id) ρ h
 | .ret,Q,ρ,h=>Q .ret ρ h
 | .label _,Q,ρ,h=>Q .normal ρ h
 | .scope b,Q,ρ,h=>vc P b Q ρ h
 | .goto _,_,_,_=>False
 | .refuse _,_,_,_=>False
end
section
def FW (r:Option Nat):Fence:={ fn:=λ_=>True,depth:=none,alive:=false,round:=r }
theorem YD4 {r:Option Nat} {P:Program} {f:FuncId} {args:Array Value} {w:World} {R:Ending→World→Prop} (h:CallsIn Fence.wide 0 P f args w R):CallsIn (FW r) 0 P f args w R:=h
theorem YD5 {r:Option Nat} {P:Program} {l:Nat} {f:FuncId} {t:Array Value} {x y:Code} {w:World} {R:Ending→World→Prop} (h:RoundIn Fence.wide 0 P l f t x y w R):RoundIn (FW r) 0 P l f t x y w R:=h
structure Rl (n:Nat) (t:Array Value) (ρ:Env):Prop where
 size:t.size=n
 get:∀j,t.getD j undef=ρ j
theorem Wx5 (ρ:Env) (d:Nat) (v:Value):upd ρ d v d=v:=by simp [upd]
theorem WF1 (ρ:Env) {d j:Nat} (v:Value) (h:j≠d):upd ρ d v j=ρ j:=by
 have:Nat.beq j d=false:=Bool.eq_false_iff.2 λe=>h (Nat.eq_of_beq_eq_true e)
 simp [upd,this]
theorem Yx5 {ρ:Env} {d:Nat} {v:Value} (h:ρ d=v):upd ρ d v=ρ:=by
 funext j;by_cases e:j=d
 ·subst e;rw [Wx5,h]
 ·rw [WF1 _ _ e]
section
variable {n:Nat} {t:Array Value} {ρ:Env} {a:Act}
theorem Rl.eval (h:Rl n a.tmps ρ):a.eval=evo ρ:=by
 funext x;cases x with
 | tmp j=>exact h.get j
 | _=>rfl
theorem Rl.put (h:Rl n a.tmps ρ) {d:Option Nat} (v:Value) (hd:∀j,d=some j→j < n):Rl n (a.put d v).tmps (WI0 ρ d v):=by
 cases d with
 | none=>exact h
 | some d=>
  refine ⟨by simp [Act.put,h.size],λj=>?_⟩
  have hlt:d < a.tmps.size:=by rw [h.size];exact hd d rfl
  simp only [Act.put,WI0]
  by_cases e:j=d
  ·subst e;rw [Wx5];simp [Array.getD_eq_getD_getElem?,hlt]
  ·rw [WF1 _ _ e,← h.get j]
   simp [Array.getD_eq_getD_getElem?,Array.getElem?_setIfInBounds_ne (Ne.symm e)]
theorem WD2 (d:Option Nat) (v:Value):(a.put d v).defers=a.defers:=by cases d <;> rfl
def Wz5 (ops:Array Oper) (ρ:Env) (j:Nat):Option Bool:=
 match (ops[j]?).bind (·.dst) with
 | none=>none
 | some d=>match ρ d with | .bool b=>some b | _=>none
def WL4 (ops:Array Oper) (ρ:Env) (g:Option (Nat × Bool)):Bool:=
 match g with
 | none=>true
 | some (j,want)=>Wz5 ops ρ j == some want
theorem YD6 {ops:Array Oper} (h:Rl n a.tmps ρ) (j:Nat):yielded ops a.tmps j=Wz5 ops ρ j:=by
 unfold yielded Wz5
 cases hd:(ops[j]?).bind (·.dst) with
 | none=>rfl
 | some d=>
  simp only [Option.bind_some]
  have:=h.get d
  cases hv:a.tmps[d]? with
  | none=>simp [Array.getD_eq_getD_getElem?,hv] at this;simp [← this,undef]
  | some v=>simp [Array.getD_eq_getD_getElem?,hv] at this;subst this;cases ρ d <;> rfl
theorem Ya1 {ops:Array Oper} {o:Oper} (h:Rl n a.tmps ρ):Region.wanted o (yielded ops a.tmps)=WL4 ops ρ o.guard:=by
 unfold Region.wanted WL4
 cases o.guard with
 | none=>rfl
 | some g=>obtain ⟨j,want⟩:=g;simp only [YD6 h]
theorem WL5 {ops:Array Oper} {g:Option (Nat × Bool)} {yes no:Env→Prop} (H:WI3 ops ρ g yes no):if WL4 ops ρ g then yes ρ else no ρ:=by
 unfold WI3 at H
 cases g with
 | none=>exact H
 | some g=>
  obtain ⟨j,want⟩:=g
  simp only at H
  cases hd:(ops[j]?).bind (·.dst) with
  | none=>
   rw [hd] at H
   have hy:Wz5 ops ρ j=none:=by unfold Wz5;rw [hd]
   simp only [WL4,hy];exact H
  | some d=>
   rw [hd] at H;simp only at H
   unfold YQ8 at H
   cases hv:ρ d with
   | bool b=>
    have hy:Wz5 ops ρ j=some b:=by unfold Wz5;rw [hd];simp only [hv]
    rw [hv] at H;simp only at H
    simp only [WL4,hy]
    cases b <;> cases want <;> simp [ifB] at H ⊢ <;> rw [Yx5 hv] at H <;> exact H
   | _=>
    have hy:Wz5 ops ρ j=none:=by unfold Wz5;rw [hd];simp only [hv]
    rw [hv] at H;simp only [WL4,hy];exact H
end
section
variable {P:Program} {n:Nat} {ρ:Env} {a:Act} {w:World} {h:Wa1} {K:Value→Wa1→Prop} {Q:Exit→Act→World→Prop} {r:Option Nat}
def Wp1 (o:Oper):Bool:=match o.op with | .defer _=>false | .select ..=>false | _=>true
def YD7 (n:Nat) (o:Oper):Bool:=Wp1 o && (match o.dst with | some d=>decide (d < n) | none=>true)
theorem WP8 {o:Oper} (ho:YD7 n o=true):∀d,o.dst=some d→d < n:=by
 intro d hd;unfold YD7 at ho;rw [hd] at ho;simp at ho;exact ho.2
theorem YD8 {o:Oper} (ho:YD7 n o=true):∀c,o.op≠.defer c:=by
 intro c hc;unfold YD7 Wp1 at ho;rw [hc] at ho;simp at ho
theorem YR1 {o:Oper} (H:OpS P (evo ρ) o h K) (hR:Rl n a.tmps ρ) (hw:w.heap=h) (ho:YD7 n o=true) {next:Act→World→Prop}
  (hnext:∀v w',K v w'.heap→Kw w w'→next (a.put o.dst v) w'):o.wpIn (FW r) 0 P a w next Q:=by
 refine ⟨λ_ _=>trivial,?_⟩
 rw [Oper.semAt_eq _ _ _ (YD8 ho),hR.eval]
 obtain ⟨nx,w',hrun,hn⟩:=H w hw
 rw [hrun]
 have hcall:∀ {e:Ending} {w'':World},onH w K e w''→(match e,w'' with
   | .returned v,w''=>next (a.put o.dst v) w''
   | .panicked chain,w''=>Q (.panic chain) a w''
   | .outgrown,_=>LetsOut Q):=by
  intro e w'' x
  cases e <;> first | exact hnext _ _ x.1 x.2 | exact x.elim
 cases nx <;> simp only [Oper.uponIn]
 case value v=>exact hnext _ _ hn.1 hn.2
 case skip=>exact hnext _ _ hn.1 hn.2
 case enter f args=>exact ⟨by simp [FW],(YD4 hn).mono λe w'' x=>hcall x⟩
 case round l f tmps assign body=>exact ⟨by simp [FW],(YD5 hn).mono λe w'' x=>hcall x⟩
 all_goals exact hn.elim
def SmT (ws:List Nat) (t t':Array Value):Prop:=∀j,j ∉ ws→t'.getD j undef=t.getD j undef
theorem SmT.refl (ws:List Nat) (t:Array Value):SmT ws t t:=λ_ _=>rfl
theorem SmT.trans {ws:List Nat} {a b c:Array Value} (h1:SmT ws a b) (h2:SmT ws b c):SmT ws a c:=λj hj=>(h2 j hj).trans (h1 j hj)
theorem SmT.mono {ws ws':List Nat} {a b:Array Value} (h:SmT ws a b) (hs:∀j ∈ ws,j ∈ ws'):SmT ws' a b:=λj hj=>h j (λx=>hj (hs j x))
theorem SmT.put {ws:List Nat} (a:Act) (d:Option Nat) (v:Value) (hd:∀j,d=some j→j ∈ ws):SmT ws a.tmps (a.put d v).tmps:=by
 intro j hj
 cases d with
 | none=>rfl
 | some d=>
  have:d≠j:=λe=>hj (by subst e;exact hd _ rfl)
  simp [Act.put,Array.getD_eq_getD_getElem?,Array.getElem?_setIfInBounds_ne this]
def pstep (P:Program) (ops:Array Oper) (i:Nat) (ρ:Env) (h:Wa1) (K:Env→Wa1→Prop):Prop:=
 match ops[i]? with
 | none=>K ρ h
 | some o=>if WL4 ops ρ o.guard then vop P (evo ρ) o h (λv h'=>K (WI0 ρ o.dst v) h') else K (WI0 ρ o.dst Wr5) h
theorem Ya2 {ops:Array Oper} {i:Nat} {K:Env→Wa1→Prop} (H:pstep P ops i ρ h K) (hR:Rl n a.tmps ρ) (hw:w.heap=h) (ho:∀o,ops[i]? = some o→YD7 n o=true)
  {ws:List Nat} (hws:∀o,ops[i]? = some o→∀d,o.dst=some d→d ∈ ws)
  {next:Act→World→Prop} (hnext:∀ρ' a' w',K ρ' w'.heap→Rl n a'.tmps ρ'→SmT ws a.tmps a'.tmps→a'.defers=a.defers→Kw w w'→next a' w'):wpOpIn (FW r) 0 P ops Q i next a w:=by
 unfold pstep at H
 unfold wpOpIn
 cases hi:ops[i]? with
 | none=>rw [hi] at H;subst hw;exact hnext ρ a w H hR (SmT.refl _ _) rfl (Kw.refl _)
 | some o=>
  rw [hi] at H
  simp only at H ⊢
  rw [Ya1 hR]
  split
  ·rename_i hwt
   rw [if_pos hwt] at H
   exact YR1 (W99 o (λ_=>rfl) H) hR hw (ho o hi) λv w' hk hkd=>hnext _ _ w' hk (hR.put v (WP8 (ho o hi))) (SmT.put _ _ _ (hws o hi)) (WD2 _ _) hkd
  ·rename_i hwt
   rw [if_neg hwt] at H
   subst hw
   exact ⟨λ_ _=>trivial,hnext _ _ w H (hR.put _ (WP8 (ho o hi))) (SmT.put _ _ _ (hws o hi)) (WD2 _ _) (Kw.refl _)⟩
theorem Yx6 {n:Nat} {v:Value} {F:Value→Prop} (H:Zr4 n v F):F v:=by
 unfold Zr4 at H
 split at H
 ·obtain ⟨cs,e,H⟩:=Wl6 H
  rw [e]
  unfold We0 at H
  split at H
  ·rename_i hn
   have:=WZ9 _ _ _ H
   have hn:=Nat.eq_of_beq_eq_true hn
   simp only [List.reverse_nil,List.nil_append,List.drop_zero] at this
   rw [List.take_of_length_le (by simp [hn])] at this
   exact this
  ·exact H.elim
 ·exact H
theorem YD9 {P:Program} {t:TypeId} {v:Value} {F:Value→Prop} (H:WQ6 P t v F):F v:=by
 unfold WQ6 at H
 split at H
 ·obtain ⟨_,e,H⟩:=Wf2 H;rw [e];exact H
 ·obtain ⟨_,e,H⟩:=We3 H;rw [e];exact H
 ·obtain ⟨_,e,H⟩:=We1 H;rw [e];exact H
 ·obtain ⟨_,_,_,e,H⟩:=Wf3 H;rw [e];exact H
 ·obtain ⟨_,e,H⟩:=Wj2 H;rw [e];exact H
 ·obtain ⟨_,e,H⟩:=WA1 H;rw [e];exact H
 ·exact Yx6 H
 ·exact Yx6 H
 ·exact H
theorem Yl0 {P:Program} {o:Oper} {v:Value} {F:Value→Prop} (H:tyO P o v F):F v:=by
 unfold tyO at H
 split at H
 ·exact H
 ·exact H
 ·exact YD9 H
def YR2 (P:Program) (ops:Array Oper) (i:Nat) (ρ:Env) (h:Wa1) (K:Env→Wa1→Prop):Prop:=
 match ops[i]? with
 | none=>K ρ h
 | some o=>if WL4 ops ρ o.guard then vop P (evo ρ) o h (λv h'=>tyO P o v λv=>K (WI0 ρ o.dst v) h') else K (WI0 ρ o.dst Wr5) h
theorem W34 {ops:Array Oper} {i:Nat} {K:Env→Wa1→Prop} (H:YR2 P ops i ρ h K) (hR:Rl n a.tmps ρ) (hw:w.heap=h) (ho:∀o,ops[i]? = some o→YD7 n o=true)
  {ws:List Nat} (hws:∀o,ops[i]? = some o→∀d,o.dst=some d→d ∈ ws)
  {next:Act→World→Prop} (hnext:∀ρ' a' w',K ρ' w'.heap→Rl n a'.tmps ρ'→SmT ws a.tmps a'.tmps→a'.defers=a.defers→Kw w w'→next a' w'):wpOpIn (FW r) 0 P ops Q i next a w:=by
 unfold YR2 at H
 unfold wpOpIn
 cases hi:ops[i]? with
 | none=>rw [hi] at H;subst hw;exact hnext ρ a w H hR (SmT.refl _ _) rfl (Kw.refl _)
 | some o=>
  rw [hi] at H
  simp only at H ⊢
  rw [Ya1 hR]
  split
  ·rename_i hwt
   rw [if_pos hwt] at H
   exact YR1 (W99 o (λ_=>rfl) H) hR hw (ho o hi) λv w' hk hkd=>hnext _ _ w' (Yl0 hk) (hR.put v (WP8 (ho o hi))) (SmT.put _ _ _ (hws o hi)) (WD2 _ _) hkd
  ·rename_i hwt
   rw [if_neg hwt] at H
   subst hw
   exact ⟨λ_ _=>trivial,hnext _ _ w H (hR.put _ (WP8 (ho o hi))) (SmT.put _ _ _ (hws o hi)) (WD2 _ _) (Kw.refl _)⟩
def Ya3 (n:Nat) (ops:Array Oper):Bool:=ops.toList.all (YD7 n)
theorem W35 {ops:Array Oper} (ho:Ya3 n ops=true) (i:Nat) (o:Oper) (hi:ops[i]? = some o):YD7 n o=true:=by
 unfold Ya3 at ho;rw [List.all_eq_true] at ho
 exact ho o (Array.mem_toList_iff.2 (Array.mem_of_getElem? hi))
theorem WI5 {ops:Array Oper} (ho:Ya3 n ops=true) {ws:List Nat} (hws:∀(i:Nat) (o:Oper),ops[i]? = some o→∀d,o.dst=some d→d ∈ ws) {K:Env→Wa1→Prop} (l:List Oper):∀(k:Nat),(∀j,l[j]? = ops[k+j]?)→∀(ρ:Env) (h:Wa1) (a:Act) (w:World),
  WY6 P ops l ρ h K→Rl n a.tmps ρ→w.heap=h →
  (∀ρ' a' w',K ρ' w'.heap→Rl n a'.tmps ρ'→SmT ws a.tmps a'.tmps→a'.defers=a.defers→Kw w w'→Q .normal a' w')→wpOpsIn (FW r) 0 P ops Q (List.range' k l.length) a w:=by
 induction l with
 | nil=>intro k _ ρ h a w H hR hw hQ;subst hw;exact hQ ρ a w H hR (SmT.refl _ _) rfl (Kw.refl _)
 | cons o l ih=>
  intro k hk ρ h a w H hR hw hQ
  have h0:ops[k]? = some o:=by simpa using (hk 0).symm
  have ih':=ih (k+1) (λj=>by have:=hk (j+1);simpa [Nat.add_assoc,Nat.add_comm 1 j] using this)
  simp only [List.length_cons,List.range'_succ,wpOpsIn_cons]
  have H:=WL5 H
  refine W34 (n:=n) (K:=λρ' h'=>WY6 P ops l ρ' h' K) ?_ hR hw (λo' ho'=>W35 ho k o' ho') (hws k) ?_
  ·unfold YR2;rw [h0];exact H
  ·intro ρ' a' w' hl hR' hs hd hkd
   refine ih' ρ' _ a' w' hl hR' rfl ?_
   intro ρ'' a'' w'' hK hR'' hs' hd' hkd'
   exact hQ ρ'' a'' w'' hK hR'' (hs.trans hs') (hd'.trans hd) (hkd.trans hkd')
end
end
section
section
variable {P:Program} {h:Wa1} {K:Value→Wa1→Prop}
theorem YR3 {ρ ρ':Operand→Value} {o:Oper} (hp0:Wp1 o=true) (hh:∀x ∈ o.op.operands,ρ x=ρ' x):opH P ρ o h K=opH P ρ' o h K:=by
 unfold opH
 rw [execOp_congr o (λcs b e=>by unfold Wp1 at hp0;rw [e] at hp0;simp at hp0) hh]
theorem YE0 {ρ ρ':Operand→Value} {op:BinOp} {xt yt:TypeId} {x y:Operand} {o:Oper} (hx:ρ x=ρ' x) (hy:ρ y=ρ' y) (ho:opH P ρ o h K=opH P ρ' o h K) :
  YP7 P op xt yt x y ρ o h K=YP7 P op xt yt x y ρ' o h K:=by
 unfold YP7;simp only [hx,hy,ho]
theorem YR4 {ρ ρ':Operand→Value} {o:Oper} (hp0:Wp1 o=true) (hh:∀x ∈ o.op.operands,ρ x=ρ' x):vop P ρ o h K=vop P ρ' o h K:=by
 have ho:=YR3 (P:=P) (h:=h) (K:=K) hp0 hh
 unfold vop
 split
 case h_1 x hx | h_2 x hx | h_5 t x hx | h_8 t x hx | h_10 x hx | h_12 op xt x hx | h_13 s d x hx | h_14 t x hx | h_19 t x f hx | h_20 t x f hx | h_25 x i hx=>
  rw [hx] at hh
  have e:ρ x=ρ' x:=hh x (by simp [Op.operands])
  simp only [e,ho]
 case h_3 c a b hx=>
  rw [hx] at hh
  have e1:ρ c=ρ' c:=hh c (by simp [Op.operands])
  have e2:ρ a=ρ' a:=hh a (by simp [Op.operands])
  have e3:ρ b=ρ' b:=hh b (by simp [Op.operands])
  simp only [e1,e2,e3]
 case h_4 | h_16=>rfl
 case h_6 t parts hx=>
  rw [hx] at hh
  have e:(parts.toList.map λp=>(p.1,ρ p.2))=(parts.toList.map λp=>(p.1,ρ' p.2)):=by
   apply List.map_congr_left
   intro p hp1
   have:ρ p.2=ρ' p.2:=hh p.2 (by simp only [Op.operands];simp;exact ⟨p.1,by simpa using hp1⟩)
   rw [this]
  simp only [e]
 case h_7 t len parts hx=>
  rw [hx] at hh
  have e:(parts.toList.map λp=>(p.1,ρ p.2))=(parts.toList.map λp=>(p.1,ρ' p.2)):=by
   apply List.map_congr_left
   intro p hp1
   have:ρ p.2=ρ' p.2:=hh p.2 (by simp only [Op.operands];simp;exact ⟨p.1,by simpa using hp1⟩)
   rw [this]
  simp only [e]
 case h_9 t x y hx=>
  rw [hx] at hh
  have e1:ρ x=ρ' x:=hh x (by simp [Op.operands])
  have e2:ρ y=ρ' y:=hh y (by simp [Op.operands])
  simp only [e1,e2]
 case h_11 op xt x y yt hx=>
  rw [hx] at hh
  have e1:ρ x=ρ' x:=hh x (by simp [Op.operands])
  have e2:ρ y=ρ' y:=hh y (by simp [Op.operands])
  exact YE0 e1 e2 ho
 case h_15 fn first captured hx=>
  rw [hx] at hh
  have e1:Yk2 ρ first=Yk2 ρ' first:=by unfold Yk2;congr 1;apply List.map_congr_left;intro x hx1;exact hh x (by simp [Op.operands,(Array.mem_toList_iff.1 hx1)])
  have e2:Yk2 ρ captured=Yk2 ρ' captured:=by unfold Yk2;congr 1;apply List.map_congr_left;intro x hx1;exact hh x (by simp [Op.operands,(Array.mem_toList_iff.1 hx1)])
  simp only [e1,e2]
 case h_17 t x y hx | h_21 t x y hx | h_22 t x y hx | h_23 t x y ok hx=>
  rw [hx] at hh
  have e1:ρ x=ρ' x:=hh x (by simp [Op.operands])
  have e2:ρ y=ρ' y:=hh y (by simp [Op.operands])
  simp only [e1,e2]
 case h_18 t x lo hi mx hx=>
  rw [hx] at hh
  have e1:ρ x=ρ' x:=hh x (by simp [Op.operands])
  have e2:lo.map ρ=lo.map ρ':=by cases lo with | none=>rfl | some l=>simp only [Option.map_some];rw [hh l (by simp [Op.operands])]
  have e3:hi.map ρ=hi.map ρ':=by cases hi with | none=>rfl | some l=>simp only [Option.map_some];rw [hh l (by simp [Op.operands])]
  have e4:mx.map ρ=mx.map ρ':=by cases mx with | none=>rfl | some l=>simp only [Option.map_some];rw [hh l (by simp [Op.operands])]
  simp only [e1,e2,e3,e4]
 case h_24 t m k x hx=>
  rw [hx] at hh
  have e1:ρ m=ρ' m:=hh m (by simp [Op.operands])
  have e2:ρ k=ρ' k:=hh k (by simp [Op.operands])
  have e3:ρ x=ρ' x:=hh x (by simp [Op.operands])
  simp only [e1,e2,e3]
 case h_26 b args argTypes hx=>
  rw [hx] at hh
  have e1:args.toList.map ρ=args.toList.map ρ':=by apply List.map_congr_left;intro x hx1;exact hh x (by simp [Op.operands,Call.operands,(Array.mem_toList_iff.1 hx1)])
  unfold Wn7
  simp only [e1,ho]
 case h_27 f args argTypes hx=>
  rw [hx] at hh
  have e1:Yk2 ρ args=Yk2 ρ' args:=by unfold Yk2;congr 1;apply List.map_congr_left;intro x hx1;exact hh x (by simp [Op.operands,Call.operands,(Array.mem_toList_iff.1 hx1)])
  have e2:ρ f=ρ' f:=hh f (by simp [Op.operands,Call.operands])
  simp only [e1,e2]
 case h_28=>rfl
 case h_29=>exact ho
theorem Zs1 {ρ:Env} {d:Option Nat} {v:Value} {x:Operand} (hx:∀j,d=some j→x≠.tmp j):evo (WI0 ρ d v) x=evo ρ x:=by
 cases d with
 | none=>rfl
 | some d=>cases x with
  | tmp j=>exact WF1 _ _ (λe=>hx d rfl (by rw [e]))
  | _=>rfl
theorem YR5 {ρ:Env} {ops:Array Oper} {o:Oper} {d:Option Nat} {v:Value} (hp0:Wp1 o=true) (hd:∀j,d=some j→j ∉ o.looksAt ops) :
  vop P (evo (WI0 ρ d v)) o h K=vop P (evo ρ) o h K:=by
 refine YR4 hp0 λx hx=>Zs1 λj hj e=>hd j hj ?_
 subst e
 unfold Oper.looksAt
 exact List.mem_append.2 (.inl (List.mem_filterMap.2 ⟨_,Array.mem_toList_iff.2 hx,rfl⟩))
theorem Ya4 {ρ:Env} {ops:Array Oper} {o:Oper} {d:Option Nat} {v:Value} (hd:∀j,d=some j→j ∉ o.looksAt ops) :
  WL4 ops (WI0 ρ d v) o.guard=WL4 ops ρ o.guard:=by
 unfold WL4
 cases hg:o.guard with
 | none=>rfl
 | some g=>
  obtain ⟨j,want⟩:=g
  have e:Wz5 ops (WI0 ρ d v) j=Wz5 ops ρ j:=by
   unfold Wz5
   cases hs:(ops[j]?).bind (·.dst) with
   | none=>rfl
   | some s=>
    simp only
    cases d with
    | none=>rfl
    | some d=>
     have:s≠d:=by
      intro e;subst e
      refine hd s rfl ?_
      unfold Oper.looksAt
      rw [hg];simp only [hs];simp
     rw [show WI0 ρ (some d) v s=ρ s from WF1 _ _ this]
  simp only [e]
theorem Ya5 (ρ:Env) {x y:Option Nat} (v u:Value) (hne:∀d,x=some d→y≠some d):WI0 (WI0 ρ x v) y u=WI0 (WI0 ρ y u) x v:=by
 cases x with
 | none=>rfl
 | some x=>cases y with
  | none=>rfl
  | some y=>
   have hxy:x≠y:=λe=>hne x rfl (by rw [e])
   funext j
   simp only [WI0]
   by_cases e1:j=x
   ·subst e1;rw [WF1 _ _ hxy,Wx5,Wx5]
   ·by_cases e2:j=y
    ·subst e2;rw [Wx5,WF1 _ _ e1,Wx5]
    ·rw [WF1 _ _ e2,WF1 _ _ e1,WF1 _ _ e1,WF1 _ _ e2]
end
end
section
section
variable {P:Program} {h:Wa1} {ρ:Operand→Value} {G:Value→Prop}
def RdAs (P:Program) (ρ:Operand→Value) (o:Oper) (L:List (Addr × Value)) (v:Value):Prop:=
 ∀h:Wa1,(∀x ∈ L,Wa2 h x.1=some x.2)→∀K:Value→Wa1→Prop,K v h→vop P ρ o h K
theorem W03 {k:IntKind} {op:BinOp} {a b:Int} (H:W89 k op a b G):∃v,G v∧∀G':Value→Prop,G' v→W89 k op a b G':=by
 cases op <;> simp only [W89] at H ⊢ <;> first
  | exact ⟨_,H,λ_ x=>x⟩
  | exact ⟨_,H.2,λ_ x=>⟨H.1,x⟩⟩
  | exact H.elim
theorem WR0 {k:IntKind} {op:BinOp} {a b:Int} (H:Zo4 k op a b G):∃v,G v∧∀G':Value→Prop,G' v→Zo4 k op a b G':=by
 cases op <;> simp only [Zo4] at H ⊢ <;> first
  | exact ⟨_,H.2,λ_ x=>⟨H.1,x⟩⟩
  | exact H.elim
theorem WA2 {t:TypeId} {x y:Value} {F:Bool→Prop} (H:Yk1 P t x y F):∃b,F b∧∀F':Bool→Prop,F' b→Yk1 P t x y F':=by
 unfold Yk1 at *
 split at H
 ·exact H.elim
 ·rename_i hg
  obtain ⟨a,rfl,H⟩:=Wl6 H
  split at H
  ·rename_i b hb
   exact ⟨b,H,λF' x=>by simp only [hg,asAgg,hb];simpa using x⟩
  ·exact H.elim
theorem Wm8 {v:Option Value} {d m:Nat} {F:Nat→Prop} (H:Wt2 none v d m F):∃n,F n∧∀F':Nat→Prop,F' n→Wt2 none v d m F':=by
 rcases Wp0 H with ⟨rfl,H1⟩ | ⟨k,i,rfl,h0,h1,H1⟩
 ·exact ⟨d,H1,λ_ x=>x⟩
 ·exact ⟨_,H1,λ_ x=>⟨h0,h1,x⟩⟩
theorem WR1 {t:TypeId} {x:Value} {lo hi mx:Option Value} (H:WN4 P t x lo hi mx G):∃v,G v∧∀G':Value→Prop,G' v→WN4 P t x lo hi mx G':=by
 unfold WN4 at *
 split at H
 ·split at H
  ·exact H.elim
  ·rename_i hm
   obtain ⟨s,rfl,H1⟩:=We1 H
   obtain ⟨a,H2,f1⟩:=Wm8 H1
   obtain ⟨b,H3,f2⟩:=Wm8 H2
   exact ⟨_,H3,λG' x=>by rw [if_neg hm];simp only [Wu3];apply f1;apply f2;exact x⟩
 ·split at H
  ·rename_i ht
   obtain ⟨a,len,cap,rfl,H1⟩:=Wf3 H
   obtain ⟨m,H2,f1⟩:=Wm8 H1
   obtain ⟨b,H3,f2⟩:=Wm8 H2
   obtain ⟨c,H4,f3⟩:=Wm8 H3
   exact ⟨_,H4,λG' x=>by simp only [ht,if_true,Wb5,Wd2];apply f1;apply f2;apply f3;exact x⟩
  ·exact H.elim
 ·split at H
  ·rename_i ht
   obtain ⟨a,rfl,H1⟩:=Wh5 H
   obtain ⟨m,H2,f1⟩:=Wm8 H1
   obtain ⟨b,H3,f2⟩:=Wm8 H2
   obtain ⟨c,H4,f3⟩:=Wm8 H3
   exact ⟨_,H4,λG' x=>by simp only [ht,if_true,Wb5,Wd2];apply f1;apply f2;apply f3;exact x⟩
  ·exact H.elim
 ·exact H.elim
theorem Wx6 {t:TypeId} {v:Value} {F:List Value→Prop} (H:WA0 P t v F):F v.cells.toList∧∀F':List Value→Prop,F' v.cells.toList→WA0 P t v F':=by
 refine ⟨WD0 H,λF' x=>?_⟩
 unfold WA0 at *
 split at H
 ·rename_i ht
  simp only [ht,if_true];exact (Yw2 H).2 _ x
 ·rename_i ht
  simp only [ht]
  have e:=(WK9 H).1
  rw [e] at x
  exact Ww0 (λ_=>by simpa using x) H
theorem WL6 {place:Nat→Option (Nat × TypeId)} (parts:List (Nat × Value)):∀(cells:List Value) (F:List Value→Prop),WO6 P place cells parts F →
  ∃cs,F cs∧∀F':List Value→Prop,F' cs→WO6 P place cells parts F':=by
 induction parts with
 | nil=>intro cells F H;exact ⟨cells,H,λ_ x=>x⟩
 | cons p rest ih=>
  obtain ⟨i,v⟩:=p
  intro cells F H
  unfold WO6 at H
  split at H
  ·exact H.elim
  ·rename_i off t hp1
   obtain ⟨H,f1⟩:=Wx6 H
   split at H
   ·rename_i hs
    obtain ⟨cs,h1,h2⟩:=ih _ _ H
    refine ⟨cs,h1,λF' x=>?_⟩
    unfold WO6
    simp only [hp1]
    exact f1 _ (by rw [if_pos hs];exact h2 _ x)
   ·exact H.elim
theorem YR6 {op:BinOp} {xt yt:TypeId} {x y:Operand} {o:Oper} (hr:Wn9 P { o with op:=.binOp op xt x y yt }=true) (H:YP7 P op xt yt x y ρ o h (λv _=>G v)) :
  ∃v,G v∧∀(h':Wa1) (K':Value→Wa1→Prop),K' v h'→YP7 P op xt yt x y ρ o h' K':=by
 unfold Wn9 at hr
 simp only at hr
 unfold YP7 at *
 cases hu:und P xt with
 | int k=>
  rw [hu] at H hr
  simp only at H ⊢
  split at H
  ·split at H
   ·obtain ⟨a,ha,H⟩:=We3 H
    obtain ⟨b,hb,H⟩:=We3 H
    obtain ⟨v,H,f⟩:=WR0 H
    exact ⟨v,H,λh' K' x=>by simp only [ha,hb,asInt,if_true];exact f (λv=>K' v h') x⟩
   ·exact H.elim
  ·split at H
   ·obtain ⟨a,ha,H⟩:=We3 H
    obtain ⟨b,hb,H⟩:=We3 H
    obtain ⟨v,H,f⟩:=WR0 H
    exact ⟨v,H,λh' K' x=>by simp only [ha,hb,asInt,if_true];exact f (λv=>K' v h') x⟩
   ·exact H.elim
  ·obtain ⟨a,ha,H⟩:=We3 H
   obtain ⟨b,hb,H⟩:=We3 H
   obtain ⟨v,H,f⟩:=W03 H
   exact ⟨v,H,λh' K' x=>by simp only [ha,hb,asInt,if_true];exact f (λv=>K' v h') x⟩
 | bool=>
  rw [hu] at H hr
  simp only at H ⊢
  split at H
  ·obtain ⟨a,ha,H⟩:=Wf2 H
   obtain ⟨b,hb,H⟩:=Wf2 H
   exact ⟨_,H,λh' K' x=>by simp only [ha,hb,asBool];exact x⟩
  ·obtain ⟨a,ha,H⟩:=Wf2 H
   obtain ⟨b,hb,H⟩:=Wf2 H
   exact ⟨_,H,λh' K' x=>by simp only [ha,hb,asBool];exact x⟩
  ·exact H.elim
 | string=>
  rw [hu] at H hr
  simp only at H hr ⊢
  split at H
  ·obtain ⟨a,ha,H⟩:=We1 H
   obtain ⟨b,hb,H⟩:=We1 H
   exact ⟨_,H,λh' K' x=>by simp only [ha,hb,Wu3];exact x⟩
  ·obtain ⟨a,ha,H⟩:=We1 H
   obtain ⟨b,hb,H⟩:=We1 H
   exact ⟨_,H,λh' K' x=>by simp only [ha,hb,Wu3];exact x⟩
  ·obtain ⟨a,ha,H⟩:=We1 H
   obtain ⟨b,hb,H⟩:=We1 H
   exact ⟨_,H.2,λh' K' x=>by simp only [ha,hb,Wu3];exact ⟨H.1,x⟩⟩
  ·split at hr <;> simp_all
 | pointer e=>
  rw [hu] at H hr
  simp only at H hr ⊢
  split at H
  ·obtain ⟨a,ha,H⟩:=Wj2 H
   exact ⟨_,H,λh' K' x=>by simp only [ha,Wb1];exact x⟩
  ·obtain ⟨a,ha,H⟩:=Wj2 H
   exact ⟨_,H,λh' K' x=>by simp only [ha,Wb1];exact x⟩
  ·simp_all
  ·simp_all
  ·split at hr <;> simp_all
 | slice e=>
  rw [hu] at H hr
  simp only at H hr ⊢
  split at H
  ·obtain ⟨a,l,c,ha,H⟩:=Wf3 H
   exact ⟨_,H,λh' K' x=>by simp only [ha,Wb5];exact x⟩
  ·obtain ⟨a,l,c,ha,H⟩:=Wf3 H
   exact ⟨_,H,λh' K' x=>by simp only [ha,Wb5];exact x⟩
  ·split at hr <;> simp_all
 | func e1 e2 e3=>
  rw [hu] at H hr
  simp only at H hr ⊢
  split at H
  ·rcases Wx4 H with ⟨ha,H⟩ | ⟨f,a,b,ha,H⟩
   ·exact ⟨_,H,λh' K' x=>by simp only [ha,Wj6];exact x⟩
   ·exact ⟨_,H,λh' K' x=>by simp only [ha,Wj6];exact x⟩
  ·rcases Wx4 H with ⟨ha,H⟩ | ⟨f,a,b,ha,H⟩
   ·exact ⟨_,H,λh' K' x=>by simp only [ha,Wj6];exact x⟩
   ·exact ⟨_,H,λh' K' x=>by simp only [ha,Wj6];exact x⟩
  ·split at hr <;> simp_all
 | struct fs=>
  rw [hu] at H hr
  simp only at H hr ⊢
  split at H
  ·obtain ⟨b,H,f⟩:=WA2 H
   exact ⟨_,H,λh' K' x=>f (λb=>K' (.bool b) h') x⟩
  ·obtain ⟨b,H,f⟩:=WA2 H
   exact ⟨_,H,λh' K' x=>f (λb=>K' (.bool (!b)) h') x⟩
  ·exact H.elim
 | array n e=>
  rw [hu] at H hr
  simp only at H hr ⊢
  split at H
  ·obtain ⟨b,H,f⟩:=WA2 H
   exact ⟨_,H,λh' K' x=>f (λb=>K' (.bool b) h') x⟩
  ·obtain ⟨b,H,f⟩:=WA2 H
   exact ⟨_,H,λh' K' x=>f (λb=>K' (.bool (!b)) h') x⟩
  ·exact H.elim
 | _=>rw [hu] at hr;simp at hr
theorem Zb9 {o:Oper} (hr:Wn9 P o=true) (hn:∀t x,o.op≠.load t x) (H:vop P ρ o h (λv _=>G v)):∃v,G v∧RdAs P ρ o [] v:=by
 unfold vop at H
 unfold RdAs
 split at H
 case h_1 x hx | h_2 x hx=>exact ⟨_,H,λh' _ K' k=>by unfold vop;rw [hx];exact k⟩
 case h_3 c a b hx=>
  obtain ⟨t,ht,H⟩:=Wf2 H
  refine ⟨if t then ρ a else ρ b,?_,λh' _ K' k=>?_⟩
  ·cases t <;> exact H
  ·unfold vop;rw [hx];simp only [ht,asBool];cases t <;> exact k
 case h_4 t hx | h_16 t hx=>unfold Wn9 at hr;rw [hx] at hr;simp at hr
 case h_5 t x hx | h_24 t m k x hx=>unfold Wn9 at hr;rw [hx] at hr;simp at hr
 case h_6 t parts hx=>
  split at H
  ·rename_i hz
   split at H
   ·rename_i fields hu
    split at H
    ·exact H.elim
    ·rename_i hall
     obtain ⟨cs,H,f⟩:=WL6 _ _ _ H
     refine ⟨_,H,λh' _ K' k=>?_⟩
     unfold vop;rw [hx];simp only [hz,if_true,hu,if_neg hall]
     exact f (λcs=>K' (.agg cs.toArray) h') k
   ·rename_i n elem hu
    split at H
    ·exact H.elim
    ·rename_i hall
     obtain ⟨cs,H,f⟩:=WL6 _ _ _ H
     refine ⟨_,H,λh' _ K' k=>?_⟩
     unfold vop;rw [hx];simp only [hz,if_true,hu,if_neg hall]
     exact f (λcs=>K' (.agg cs.toArray) h') k
   ·exact H.elim
  ·exact H.elim
 case h_7 t len parts hx=>unfold Wn9 at hr;rw [hx] at hr;simp at hr
 case h_8 t x hx=>exact absurd hx (hn _ _)
 case h_9 t x y hx=>unfold Wn9 at hr;rw [hx] at hr;simp at hr
 case h_10 x hx=>
  have e:∀X Y:Prop,Wb8 (ρ x) X→(Y→Wb8 (ρ x) Y)∧X:=by
   intro X Y q;unfold Wb8 at *;split at q <;> first | exact q.elim | exact ⟨λy=>y,q⟩
  exact ⟨_,(e _ True H).2,λh' _ K' k=>by unfold vop;rw [hx];exact (e _ _ H).1 k⟩
 case h_11 op xt x y yt hx=>
  have hr':Wn9 P { o with op:=.binOp op xt x y yt }=true:=by rw [← hx];exact hr
  obtain ⟨v,H,f⟩:=YR6 hr' H
  exact ⟨v,H,λh' _ K' k=>by unfold vop;rw [hx];exact f h' K' k⟩
 case h_12 op xt x hx=>
  split at H
  ·rename_i hu
   obtain ⟨b,hb,H⟩:=Wf2 H
   exact ⟨_,H,λh' _ K' k=>by unfold vop;rw [hx];simp only [hu,hb,asBool];exact k⟩
  ·rename_i hu
   obtain ⟨b,hb,H⟩:=We3 H
   exact ⟨_,H,λh' _ K' k=>by unfold vop;rw [hx];simp only [hu,hb,asInt,if_true];exact k⟩
  ·rename_i n1 n2
   unfold Wn9 at hr;rw [hx] at hr;simp only at hr
   exact absurd hr (by simp)
 case h_13 s d x hx=>
  split at H
  ·rename_i hu1 hu2
   obtain ⟨b,hb,H⟩:=We3 H
   exact ⟨_,H,λh' _ K' k=>by unfold vop;rw [hx];simp only [hu1,hu2,hb,asInt,if_true];exact k⟩
  ·rename_i hu1 hu2
   obtain ⟨b,hb,H⟩:=We1 H
   exact ⟨_,H,λh' _ K' k=>by unfold vop;rw [hx];simp only [hu1,hu2,hb,Wu3];exact k⟩
  ·rename_i n1 n2
   unfold Wn9 at hr;rw [hx] at hr;simp only at hr
   exact absurd hr (by simp)
 case h_14 t x hx=>unfold Wn9 at hr;rw [hx] at hr;simp at hr
 case h_15 fn first captured hx=>exact ⟨_,H,λh' _ K' k=>by unfold vop;rw [hx];exact k⟩
 case h_17 t l c hx=>unfold Wn9 at hr;rw [hx] at hr;simp at hr
 case h_18 t x lo hi mx hx=>
  split at H
  ·exact H.elim
  ·rename_i hm
   obtain ⟨v,H,f⟩:=WR1 H
   exact ⟨v,H,λh' _ K' k=>by unfold vop;rw [hx];simp only [hm];exact f (λv=>K' v h') k⟩
 case h_19 t x f hx=>
  split at H
  ·rename_i fields hu
   split at H
   ·rename_i fd hf
    split at H
    ·rename_i hh
     obtain ⟨a,ha,H⟩:=Wh5 H
     exact ⟨_,H,λh' _ K' k=>by unfold vop;rw [hx];simp only [hu,hf,if_pos hh,ha,Wd2];exact k⟩
    ·exact H.elim
   ·exact H.elim
  ·exact H.elim
 case h_20 t x f hx=>
  split at H
  ·rename_i fields hu
   split at H
   ·rename_i fd hf
    obtain ⟨cs,ha,H⟩:=Wl6 H
    unfold WY3 at H
    split at H
    ·rename_i v hv
     split at H
     ·rename_i hth
      exact ⟨_,H,λh' _ K' k=>by unfold vop;rw [hx];simp only [hu,hf,ha,asAgg,WY3,hv,if_pos hth];exact k⟩
     ·exact H.elim
    ·exact H.elim
   ·exact H.elim
  ·exact H.elim
 case h_21 t x i hx=>
  split at H
  ·rename_i elem hu
   obtain ⟨a,len,cap,ha,H⟩:=Wf3 H
   obtain ⟨k,n,hi,h0,h1,H⟩:=Wr2 H
   obtain ⟨ad,had,H⟩:=Wh5 H
   cases had
   split at H
   ·rename_i hth
    exact ⟨_,H,λh' _ K' k=>by unfold vop;rw [hx];simp only [hu,ha,Wb5,hi,asI,Wd2,if_pos hth];exact ⟨h0,h1,k⟩⟩
   ·exact H.elim
  ·rename_i len elem hu
   obtain ⟨a,ha,H⟩:=Wh5 H
   obtain ⟨k,n,hi,h0,h1,H⟩:=Wr2 H
   split at H
   ·rename_i hth
    exact ⟨_,H,λh' _ K' k=>by unfold vop;rw [hx];simp only [hu,ha,Wd2,hi,asI,if_pos hth];exact ⟨h0,h1,k⟩⟩
   ·exact H.elim
  ·exact H.elim
 case h_22 t x i hx=>
  split at H
  ·rename_i hu
   obtain ⟨s,ha,H⟩:=We1 H
   obtain ⟨k,n,hi,h0,h1,H⟩:=Wr2 H
   exact ⟨_,H,λh' _ K' k=>by unfold vop;rw [hx];simp only [hu,ha,Wu3,hi,asI];exact ⟨h0,h1,k⟩⟩
  ·rename_i len elem hu
   obtain ⟨cs,ha,H⟩:=Wl6 H
   obtain ⟨k,n,hi,h0,h1,H⟩:=Wr2 H
   unfold WY3 at H
   split at H
   ·rename_i v hv
    split at H
    ·rename_i hth
     exact ⟨_,H,λh' _ K' k=>by unfold vop;rw [hx];simp only [hu,ha,asAgg,hi,asI,WY3,hv,if_pos hth];exact ⟨h0,h1,k⟩⟩
    ·exact H.elim
   ·exact H.elim
  ·exact H.elim
 case h_23 t x i ok hx=>unfold Wn9 at hr;rw [hx] at hr;simp at hr
 case h_25 x i hx=>
  obtain ⟨vs,ha,H⟩:=WQ7 H
  unfold Wc0 at H
  split at H
  ·rename_i v hv
   exact ⟨_,H,λh' _ K' k=>by unfold vop;rw [hx];simp only [ha,Wg5,Wc0,hv];exact k⟩
  ·exact H.elim
 case h_26 b args argTypes hx=>
  have hb:b=.len:=by
   cases b <;> first | rfl | exact absurd hr (by unfold Wn9;rw [hx];simp)
  subst hb
  unfold Wn9 at hr;rw [hx] at hr;simp only at hr
  split at hr
  ·rename_i t x h1 h2
   unfold Wn7 at H
   rw [h2] at H
   simp only [List.map_cons,List.map_nil,h1] at H
   split at H
   ·rename_i e hu
    obtain ⟨a,n,c,ha,H⟩:=Wf3 H
    exact ⟨_,H,λh' _ K' k=>by unfold vop;rw [hx];simp only [Wn7,h2,List.map_cons,List.map_nil,h1,hu,ha,Wb5];exact k⟩
   ·rename_i hu
    obtain ⟨a,ha,H⟩:=We1 H
    exact ⟨_,H,λh' _ K' k=>by unfold vop;rw [hx];simp only [Wn7,h2,List.map_cons,List.map_nil,h1,hu,ha,Wu3];exact k⟩
   ·rename_i e1 e2 hu;rw [hu] at hr;simp at hr
   ·rename_i n e hu
    exact ⟨_,H,λh' _ K' k=>by unfold vop;rw [hx];simp only [Wn7,h2,List.map_cons,List.map_nil,h1,hu];exact k⟩
   ·exact H.elim
  ·exact absurd hr (by simp)
 case h_27 f args argTypes hx=>unfold Wn9 at hr;rw [hx] at hr;simp at hr
 case h_28=>exact H.elim
 case h_29=>
  exfalso
  unfold Wn9 at hr
  split at hr <;> rename_i hx <;> first
   | (exact absurd hr (by decide))
   | solve_by_elim
end
end
section
section
variable {P:Program} {ops:Array Oper}
theorem Ws6 {v:Value} {F F':Addr→Prop} (f:∀a,F a→F' a) (H:Wd2 v F):Wd2 v F':=by obtain ⟨a,rfl,H2⟩:=Wh5 H;exact f a H2
theorem Wm1 {v:Value} {F F':Option Addr→Prop} (f:∀a,F a→F' a) (H:Wb1 v F):Wb1 v F':=by obtain ⟨a,rfl,H2⟩:=Wj2 H;exact f a H2
theorem Wg7 {k:IntKind} {v:Value} {F F':Int→Prop} (f:∀a,F a→F' a) (H:asInt k v F):asInt k v F':=by obtain ⟨a,rfl,H2⟩:=We3 H;unfold asInt;simp only [if_true];exact f a H2
theorem WD3 {v:Value} {F F':Int→Prop} (f:∀a,F a→F' a) (H:asI v F):asI v F':=by obtain ⟨k,a,rfl,H2⟩:=Wr2 H;exact f a H2
theorem Wm2 {v:Value} {F F':Bool→Prop} (f:∀a,F a→F' a) (H:asBool v F):asBool v F':=by obtain ⟨a,rfl,H2⟩:=Wf2 H;exact f a H2
theorem Wj4 {v:Value} {F F':ByteArray→Prop} (f:∀a,F a→F' a) (H:Wu3 v F):Wu3 v F':=by obtain ⟨a,rfl,H2⟩:=We1 H;exact f a H2
theorem Wm9 {v:Value} {F F':Option Addr→Nat→Nat→Prop} (f:∀a b c,F a b c→F' a b c) (H:Wb5 v F):Wb5 v F':=by obtain ⟨a,b,c,rfl,H2⟩:=Wf3 H;exact f a b c H2
theorem WL7 {v:Value} {F F':Array Value→Prop} (f:∀a,F a→F' a) (H:asAgg v F):asAgg v F':=by obtain ⟨a,rfl,H2⟩:=Wl6 H;exact f a H2
theorem YE1 {v:Value} {F F':Array Value→Prop} (f:∀a,F a→F' a) (H:Wg5 v F):Wg5 v F':=by obtain ⟨a,rfl,H2⟩:=WQ7 H;exact f a H2
theorem WD4 {v:Value} {F F':Option Nat→Prop} (f:∀a,F a→F' a) (H:Wz9 v F):Wz9 v F':=by obtain ⟨a,rfl,H2⟩:=WA1 H;exact f a H2
theorem WN8 {v:Value} {F F':Bool→Prop} (f:∀a,F a→F' a) (H:Wj6 v F):Wj6 v F':=by unfold Wj6 at *;split at H <;> first | exact f _ H | exact H.elim
theorem Yx7 {b:Bool} {X Y X' Y':Prop} (f:X→X') (g:Y→Y') (H:ifB b X Y):ifB b X' Y':=by cases b <;> first | exact f H | exact g H
theorem Wo0 {c:Prop} [Decidable c] {X X':Prop} (f:c→X→X') (H:if c then X else False):if c then X' else False:=by split <;> simp_all
theorem WR2 {c:Prop} [Decidable c] {X X':Prop} (f:¬c→X→X') (H:if c then False else X):if c then False else X':=by split <;> simp_all
theorem WR3 {t:TypeId} {v:Value} {F F':List Value→Prop} (f:∀a,F a→F' a) (H:WA0 P t v F):WA0 P t v F':=(Wx6 H).2 _ (f _ (Wx6 H).1)
theorem WL8 {place:Nat→Option (Nat × TypeId)} {parts:List (Nat × Value)} {cells:List Value} {F F':List Value→Prop} (f:∀a,F a→F' a) (H:WO6 P place cells parts F):WO6 P place cells parts F':=by
 obtain ⟨cs,h1,h2⟩:=WL6 _ _ _ H;exact h2 _ (f _ h1)
theorem WI6 {h:Wa1} {a:Addr} {F F':Value→Prop} (f:∀v,F v→F' v) (H:ldH h a F):ldH h a F':=by unfold ldH at *;split <;> simp_all
theorem W36 {h:Wa1} {a:Addr} (n:Nat):∀ {i:Nat} {acc:List Value} {F F':List Value→Prop},(∀v,F v→F' v)→ldN h a i n acc F→ldN h a i n acc F':=by
 induction n with
 | zero=>intro i acc F F' f H;exact f _ H
 | succ n ih=>intro i acc F F' f H;exact WI6 (λv=>ih f) H
theorem Zc0 {a:Addr} (vs:List Value):∀ {h:Wa1} {i:Nat} {F F':Wa1→Prop},(∀v,F v→F' v)→stN h a i vs F→stN h a i vs F':=by
 induction vs with
 | nil=>intro h i F F' f H;exact f _ H
 | cons v vs ih=>intro h i F F' f H;exact Ww0 (λ⟨a,b,c⟩=>⟨a,b,ih f c⟩) H
theorem Yl1 {cs:Array Value} {F F':List Value→Prop} (f:∀v,F v→F' v):∀(n i:Nat) (acc:List Value),Wz4 cs n i acc F→Wz4 cs n i acc F':=by
 intro n
 induction n with
 | zero=>intro i acc H;exact f _ H
 | succ n ih=>
  intro i acc H
  have H':Wc0 cs i (λv=>Wz4 cs n (i+1) (v :: acc) F):=H
  show Wc0 cs i (λv=>Wz4 cs n (i+1) (v :: acc) F')
  unfold Wc0 at *
  split at H'
  ·exact ih _ _ H'
  ·exact H'.elim
theorem Ya6 {n:Nat} {v:Value} {F F':Value→Prop} (f:∀v,F v→F' v) (H:Zr4 n v F):Zr4 n v F':=by
 unfold Zr4 at *
 split at H
 ·refine WL7 (λcs H=>?_) H
  unfold We0 at *
  split at H
  ·exact Yl1 (λ_=>f _) _ _ _ H
  ·exact H.elim
 ·exact f _ H
theorem WR4 {P:Program} {t:TypeId} {v:Value} {F F':Value→Prop} (f:∀v,F v→F' v) (H:WQ6 P t v F):WQ6 P t v F':=by
 unfold WQ6 at *
 split
 ·exact Wm2 (λ_=>f _) (by simp_all)
 ·exact Wg7 (λ_=>f _) (by simp_all)
 ·exact Wj4 (λ_=>f _) (by simp_all)
 ·exact Wm9 (λ_ _ _=>f _) (by simp_all)
 ·exact Wm1 (λ_=>f _) (by simp_all)
 ·exact WD4 (λ_=>f _) (by simp_all)
 ·exact Ya6 f (by simp_all)
 ·exact Ya6 f (by simp_all)
 ·split at H <;> first | exact f _ H | simp_all
theorem Zc1 {P:Program} {o:Oper} {v:Value} {F F':Value→Prop} (f:∀v,F v→F' v) (H:tyO P o v F):tyO P o v F':=by
 unfold tyO at *
 split at H
 ·exact f _ H
 ·exact f _ H
 ·exact WR4 f H
theorem WL9 {v:Value} {args:Array Value} {h:Wa1} {K K':Value→Wa1→Prop} (hk:∀v h',K v h'→K' v h') (H:Wu2 P v args h K):Wu2 P v args h K':=by
 have ho:∀(w0:World) e w,onH w0 K e w→onH w0 K' e w:=by intro w0 e w x;cases e <;> first | exact x | exact ⟨hk _ _ x.1,x.2⟩
 unfold Wu2 at *
 split at H
 ·exact ⟨H.1,λw hw=>(H.2 w hw).mono (ho w)⟩
 ·intro w hw
  obtain ⟨fn,t,a,b,h1,h2⟩:=H w hw
  exact ⟨fn,t,a,b,h1,h2.mono (ho w)⟩
 ·exact H.elim
theorem YR7 {v:Value} {args:Array Value} {h:Wa1} {K K':Value→Wa1→Prop} (hk:∀v h',K v h'→K' v h') (H:Zy8 P v args h K):Zy8 P v args h K':=by
 unfold Zy8 at *
 split at H
 ·exact Wj7 (λnx h' x=>by cases nx <;> first | exact hk _ _ x | exact x.elim) H
 ·exact H.elim
theorem WY7 {f:Int→Int→Int} {k:IntKind} (ys:List Value):∀ {a:Int} {F F':Int→Prop},(∀n,F n→F' n)→Wk2.go f k a ys F→Wk2.go f k a ys F':=by
 induction ys with
 | nil=>intro a F F' g H;exact g _ H
 | cons y ys ih=>intro a F F' g H;exact Wg7 (λb x=>ih g x) H
theorem WR5 {f:Int→Int→Int} {t:TypeId} (xs:List Value) {F F':Int→Prop} (g:∀n,F n→F' n) (H:Wk2 f P t xs F):Wk2 f P t xs F':=by
 cases xs with
 | nil=>exact H
 | cons x xs=>cases xs with
  | nil=>
   simp only [Wk2] at *
   split <;> rename_i hk <;> rw [hk] at H
   ·exact Wg7 g H
   ·exact H
  | cons y ys=>
   simp only [Wk2] at *
   split <;> rename_i hk <;> rw [hk] at H
   ·exact Wg7 (λa x=>WY7 _ g x) H
   ·exact H
theorem Wo1 {ρ:Operand→Value} {o:Oper} {h:Wa1} {K K':Value→Wa1→Prop} (hk:∀v h',K v h'→K' v h') (H:opH P ρ o h K):opH P ρ o h K':=by
 refine Wj7 ?_ H
 intro nx h' x
 cases nx <;> first
  | exact hk _ _ x
  | exact x
  | (intro w hw;refine (x w hw).mono ?_;intro e w y;cases e <;> first | exact y | exact ⟨hk _ _ y.1,y.2⟩)
theorem YE2 {k:IntKind} {op:BinOp} {a b:Int} {G G':Value→Prop} (g:∀v,G v→G' v) (H:W89 k op a b G):W89 k op a b G':=by
 obtain ⟨v,h1,h2⟩:=W03 H;exact h2 _ (g _ h1)
theorem Ya7 {k:IntKind} {op:BinOp} {a b:Int} {G G':Value→Prop} (g:∀v,G v→G' v) (H:Zo4 k op a b G):Zo4 k op a b G':=by
 obtain ⟨v,h1,h2⟩:=WR0 H;exact h2 _ (g _ h1)
theorem WI7 {t:TypeId} {x y:Value} {F F':Bool→Prop} (g:∀v,F v→F' v) (H:Yk1 P t x y F):Yk1 P t x y F':=by
 obtain ⟨v,h1,h2⟩:=WA2 H;exact h2 _ (g _ h1)
theorem YR8 {op:BinOp} {xt yt:TypeId} {x y:Operand} {ρ:Operand→Value} {o:Oper} {h:Wa1} {K K':Value→Wa1→Prop} (hk:∀v h',K v h'→K' v h')
  (H:YP7 P op xt yt x y ρ o h K):YP7 P op xt yt x y ρ o h K':=by
 unfold YP7 at *
 split at H
 ·split at H
  ·split at H
   ·exact Wg7 (λ_=>Wg7 λ_=>Ya7 λv=>hk v _) H
   ·exact H
  ·split at H
   ·exact Wg7 (λ_=>Wg7 λ_=>Ya7 λv=>hk v _) H
   ·exact H
  ·exact Wg7 (λ_=>Wg7 λ_=>YE2 λv=>hk v _) H
 ·split at H
  ·exact Wm2 (λ_=>Wm2 λ_=>hk _ _) H
  ·exact Wm2 (λ_=>Wm2 λ_=>hk _ _) H
  ·exact H
 ·split at H
  ·exact Wj4 (λ_=>Wj4 λ_=>hk _ _) H
  ·exact Wj4 (λ_=>Wj4 λ_=>hk _ _) H
  ·exact Wj4 (λ_=>Wj4 λ_ x=>⟨x.1,hk _ _ x.2⟩) H
  ·exact Wo1 hk H
 ·split at H
  ·exact Wm1 (λ_=>hk _ _) H
  ·exact Wm1 (λ_=>hk _ _) H
  ·exact Wm1 (λ_=>Wm1 λ_=>Wj7 hk) H
  ·exact Wm1 (λ_=>Wm1 λ_=>Wj7 hk) H
  ·exact Wo1 hk H
 ·split at H
  ·exact Wm9 (λ_ _ _=>hk _ _) H
  ·exact Wm9 (λ_ _ _=>hk _ _) H
  ·exact Wo1 hk H
 ·split at H
  ·exact WD4 (λ_=>hk _ _) H
  ·exact WD4 (λ_=>hk _ _) H
  ·exact Wo1 hk H
 ·split at H
  ·exact WN8 (λ_=>hk _ _) H
  ·exact WN8 (λ_=>hk _ _) H
  ·exact Wo1 hk H
 ·split at H
  ·exact WI7 (λ_=>hk _ _) H
  ·exact WI7 (λ_=>hk _ _) H
  ·exact H
 ·split at H
  ·exact WI7 (λ_=>hk _ _) H
  ·exact WI7 (λ_=>hk _ _) H
  ·exact H
 ·exact Wo1 hk H
theorem W37 {b:Builtin} {argTypes:Array TypeId} {t:TypeId} {args:List Value} {ρ:Operand→Value} {o:Oper} {h:Wa1} {K K':Value→Wa1→Prop} (hk:∀v h',K v h'→K' v h')
  (H:Wn7 P b argTypes t args ρ o h K):Wn7 P b argTypes t args ρ o h K':=by
 unfold Wn7 at *
 split at H
 ·split at H
  ·split at H
   ·exact Wm9 (λ_ _ _=>hk _ _) H
   ·exact Wj4 (λ_=>hk _ _) H
   ·refine WD4 (λr x=>?_) H
    unfold Zr6 at *
    cases r with
    | none=>exact hk _ _ x
    | some r=>simp only at *;split at x <;> first | exact hk _ _ x | exact x
   ·exact hk _ _ H
   ·exact H
  ·exact H
 ·split at H
  ·split at H
   ·exact Wm9 (λ_ _ _=>hk _ _) H
   ·exact H
  ·exact H
 ·exact Wj7 hk H
 ·exact Wj7 hk H
 ·exact Wj7 hk H
 ·exact Wj7 hk H
 ·exact Wj7 hk H
 ·exact Wj7 hk H
 ·split at H
  ·exact WR5 _ (λ_=>hk _ _) H
  ·exact Wo1 hk H
 ·split at H
  ·exact WR5 _ (λ_=>hk _ _) H
  ·exact Wo1 hk H
 ·exact Wo1 hk H
theorem Yl2 {t:TypeId} {x:Value} {lo hi mx:Option Value} {G G':Value→Prop} (g:∀v,G v→G' v) (H:WN4 P t x lo hi mx G):WN4 P t x lo hi mx G':=by
 obtain ⟨n,h1,h2⟩:=WR1 H;exact h2 _ (g _ h1)
theorem WP9 {ρ:Operand→Value} {o:Oper} {h:Wa1} {K K':Value→Wa1→Prop} (hk:∀v h',K v h'→K' v h') (H:vop P ρ o h K):vop P ρ o h K':=by
 unfold vop at *
 split at H
 case h_1 | h_2 | h_15 | h_16=>exact hk _ _ H
 case h_3=>exact Wm2 (λ_=>Yx7 (hk _ _) (hk _ _)) H
 case h_4=>split at H <;> first | exact hk _ _ H | exact H
 case h_5=>exact WR3 (λ_=>hk _ _) H
 case h_6=>
  refine Wo0 (λ_ x=>?_) H
  split at x
  ·exact WR2 (λ_=>WL8 λ_=>hk _ _) x
  ·exact WR2 (λ_=>WL8 λ_=>hk _ _) x
  ·exact x
 case h_7=>
  split at H
  ·exact Wo0 (λ_=>WL8 λ_=>hk _ _) H
  ·exact H
 case h_8=>
  refine Ws6 (λa=>Wo0 λ_ x=>?_) H
  split at x <;> rename_i ha
  ·rw [if_pos ha];exact W36 _ (λ_=>hk _ _) x
  ·rw [if_neg ha];exact WI6 (λ_=>hk _ _) x
 case h_9=>exact Ws6 (λa=>WR3 λcs=>Wo0 λ_=>Zc0 _ λ_=>hk _ _) H
 case h_10=>unfold Wb8 at *;split at H <;> first | exact H | exact hk _ _ H
 case h_11=>exact YR8 hk H
 case h_12=>
  split at H
  ·exact Wm2 (λ_=>hk _ _) H
  ·exact Wg7 (λ_=>hk _ _) H
  ·exact Wo1 hk H
 case h_13=>
  split at H
  ·exact Wg7 (λ_=>hk _ _) H
  ·exact Wj4 (λ_=>hk _ _) H
  ·exact Wj7 hk H
 case h_14=>split at H <;> first | exact H | exact hk _ _ H
 case h_17=>
  split at H
  ·exact WD3 (λ_=>WD3 λ_=>Wo0 λ_ x=>⟨x.1,x.2.1,x.2.2.1,x.2.2.2.1,hk _ _ x.2.2.2.2⟩) H
  ·exact H
 case h_18=>exact WR2 (λ_=>Yl2 λ_=>hk _ _) H
 case h_19=>
  split at H
  ·split at H
   ·exact Wo0 (λ_=>Ws6 λ_=>hk _ _) H
   ·exact H
  ·exact H
 case h_20=>
  split at H
  ·split at H
   ·refine WL7 (λcs x=>?_) H
    unfold WY3 at *
    split at x
    ·exact Wo0 (λ_=>hk _ _) x
    ·exact x
   ·exact H
  ·exact H
 case h_21=>
  split at H
  ·exact Wm9 (λa l c=>WD3 λn x=>⟨x.1,x.2.1,Ws6 (λ_=>Wo0 λ_=>hk _ _) x.2.2⟩) H
  ·exact Ws6 (λa=>WD3 λn x=>⟨x.1,x.2.1,Wo0 (λ_=>hk _ _) x.2.2⟩) H
  ·exact H
 case h_22=>
  split at H
  ·exact Wj4 (λa=>WD3 λn x=>⟨x.1,x.2.1,hk _ _ x.2.2⟩) H
  ·refine WL7 (λa=>WD3 λn x=>⟨x.1,x.2.1,?_⟩) H
   have y:=x.2.2
   unfold WY3 at *
   split at y
   ·exact Wo0 (λ_=>hk _ _) y
   ·exact y
  ·exact H
 case h_23=>exact Wj7 hk H
 case h_24=>exact Wj7 (λ_ h'=>hk _ _) H
 case h_25=>exact YE1 (λvs x=>by unfold Wc0 at *;split at x <;> first | exact hk _ _ x | exact x) H
 case h_26=>exact W37 hk H
 case h_27=>
  split at H
  ·exact YR7 hk H
  ·exact WL9 hk H
 case h_28=>exact H.elim
 case h_29=>exact Wo1 hk H
def Zs2 (P:Program) (ops:Array Oper) (K:Env→Wa1→Prop):Nat→(Nat→Wa1→Prop)→Array Bool→Env→Wa1→Prop
 | 0,_,listed,ρ,h=>Region.ready .any ops listed = []∧K ρ h
 | n+1,obl,listed,ρ,h=>(Region.ready .any ops listed = []→K ρ h) ∧
  ∀i ∈ Region.ready .any ops listed,pstep P ops i ρ h λρ' h'=>(h' = h∨obl i h')∧Zs2 P ops K n obl (listed.setIfInBounds i true) ρ' h'
theorem W04 {i:Nat} {ρ:Env} {h:Wa1} {K K':Env→Wa1→Prop} (hk:∀ρ h,K ρ h→K' ρ h) (H:pstep P ops i ρ h K):pstep P ops i ρ h K':=by
 unfold pstep at *
 split
 ·simp_all
 ·rename_i o ho
  rw [ho] at H
  simp only at H
  split
  ·rename_i hw;rw [if_pos hw] at H;exact WP9 (λv h'=>hk _ _) H
  ·rename_i hw;rw [if_neg hw] at H;exact hk _ _ H
theorem WR6 {K:Env→Wa1→Prop} (n:Nat):∀ {obl obl':Nat→Wa1→Prop} {listed:Array Bool} {ρ:Env} {h:Wa1},(∀i h,obl i h→obl' i h)→Zs2 P ops K n obl listed ρ h→Zs2 P ops K n obl' listed ρ h:=by
 induction n with
 | zero=>intro _ _ _ _ _ _ H;exact H
 | succ n ih=>intro obl obl' listed ρ h hh H;exact ⟨H.1,λi hi=>W04 (λρ h x=>⟨x.1.imp id (hh _ _),ih hh x.2⟩) (H.2 i hi)⟩
def Closed (ops:Array Oper) (listed:Array Bool):Prop:=
 ∀k o,listed.getD k false=true→ops[k]? = some o→∀e ∈ o.after,Region.binds .any e=true→listed.getD e.on false=true
theorem Closed.set {listed:Array Bool} {i:Nat} (hc:Closed ops listed) (hi:i ∈ Region.ready .any ops listed):Closed ops (listed.setIfInBounds i true):=by
 intro k o hk ho e he hb
 by_cases hki:k=i
 ·subst hki
  obtain ⟨_,o',ho',hall⟩:=mem_ready.1 hi
  rw [ho] at ho';cases ho'
  exact getD_set_true (hall e he hb)
 ·rw [getD_set_ne false (Ne.symm hki)] at hk
  exact getD_set_true (hc k o hk ho e he hb)
theorem Ya8 {listed:Array Bool} (hc:Closed ops listed) (n:Nat):∀(k i:Nat),listed.getD k false=true→Wh6 ops n k i=true→listed.getD i false=true:=by
 induction n with
 | zero=>intro k i _ h;simp [Wh6] at h
 | succ n ih=>
  intro k i hk h
  unfold Wh6 at h
  split at h
  ·cases h
  ·rename_i o ho
   obtain ⟨e,he,hb⟩:=Array.any_eq_true'.1 h
   simp only [Bool.and_eq_true,Bool.or_eq_true,beq_iff_eq] at hb
   have h1:=hc k o hk ho e he hb.1
   rcases hb.2 with h2 | h2
   ·rw [← h2];exact h1
   ·exact ih _ _ h1 h2
theorem Yl3 {listed:Array Bool} (hc:Closed ops listed) {n k i:Nat} (hk:k ∈ Region.ready .any ops listed) (hi:listed.getD i false=false):Wh6 ops n k i=false:=by
 cases hw:Wh6 ops n k i with
 | false=>rfl
 | true=>
  exfalso
  cases n with
  | zero=>simp [Wh6] at hw
  | succ n=>
   unfold Wh6 at hw
   split at hw
   ·cases hw
   ·rename_i o ho
    obtain ⟨_,o',ho',hall⟩:=mem_ready.1 hk
    rw [ho] at ho';cases ho'
    obtain ⟨e,he,hb⟩:=Array.any_eq_true'.1 hw
    simp only [Bool.and_eq_true,Bool.or_eq_true,beq_iff_eq] at hb
    have h1:=hall e he hb.1
    rcases hb.2 with h2 | h2
    ·rw [h2,hi] at h1;cases h1
    ·rw [Ya8 hc n _ _ h1 h2] at hi;cases hi
def Wx7 (L:List (Addr × Value)) (h:Wa1):Prop:=∀x ∈ L,Wa2 h x.1=some x.2
def YieldsL (P:Program) (ops:Array Oper) (L:List (Addr × Value)) (o:Oper) (v:Value) (ρ:Env):Prop:=
 (WL4 ops ρ o.guard=true∧RdAs P (evo ρ) o L v)∨(WL4 ops ρ o.guard=false∧v=Wr5)
theorem YieldsL.pstep {L:List (Addr × Value)} {o:Oper} {v:Value} {ρ:Env} {i:Nat} {h:Wa1} {K:Env→Wa1→Prop} (hy:YieldsL P ops L o v ρ) (hi:ops[i]? = some o) (hL:Wx7 L h)
  (H:K (WI0 ρ o.dst v) h):pstep P ops i ρ h K:=by
 unfold Proofs.YtahpbclnkofhfaaGreat.pstep;rw [hi];simp only
 rcases hy with ⟨hw,hr⟩ | ⟨hw,rfl⟩
 ·rw [if_pos hw];exact hr h hL _ H
 ·rw [if_neg (by simp [hw])];exact H
theorem RdAs.put {L:List (Addr × Value)} {o:Oper} {v:Value} {ρ:Env} {d:Option Nat} {u:Value} (hp0:Wp1 o=true) (hd:∀j,d=some j→j ∉ o.looksAt ops)
 (hr:RdAs P (evo ρ) o L v):RdAs P (evo (WI0 ρ d u)) o L v:=λh hL K hk=>by rw [YR5 (ops:=ops) hp0 hd];exact hr h hL K hk
theorem YieldsL.put {L:List (Addr × Value)} {o:Oper} {v:Value} {ρ:Env} {d:Option Nat} {u:Value} (hp0:Wp1 o=true) (hd:∀j,d=some j→j ∉ o.looksAt ops)
  (hy:YieldsL P ops L o v ρ):YieldsL P ops L o v (WI0 ρ d u):=by
 unfold YieldsL
 rw [Ya4 hd]
 exact hy.imp (λ⟨a,b⟩=>⟨a,b.put hp0 hd⟩) id
theorem YR9 {L:List (Addr × Value)} {oi oj:Oper} {v:Value} {ρ:Env} {j:Nat} {h:Wa1} {K:Env→Wa1→Prop} (hj:ops[j]? = some oj) (hap:oi.apart ops oj=true)
  (hpi:Wp1 oi=true) (hpj:Wp1 oj=true) (hy:YieldsL P ops L oi v ρ) (H:pstep P ops j (WI0 ρ oi.dst v) h K) :
  pstep P ops j ρ h λρ' h'=>YieldsL P ops L oi v ρ'∧K (WI0 ρ' oi.dst v) h':=by
 obtain ⟨h1,h2,h3⟩:=Oper.apart_spec hap
 unfold pstep at *
 rw [hj] at *
 simp only at H ⊢
 rw [Ya4 h1] at H
 split
 ·rename_i hw
  rw [if_pos hw,YR5 (ops:=ops) hpj h1] at H
  refine WP9 (λu h' x=>⟨hy.put hpi h3,?_⟩) H
  rw [Ya5 ρ v u h2] at x;exact x
 ·rename_i hw
  rw [if_neg hw] at H
  refine ⟨hy.put hpi h3,?_⟩
  rw [Ya5 ρ v Wr5 h2] at H;exact H
theorem W05 {K:Env→Wa1→Prop} {L:List (Addr × Value)} {i:Nat} {oi:Oper} {v:Value} (hi:ops[i]? = some oi) (hp0:∀(j:Nat) (o:Oper),ops[j]? = some o→Wp1 o=true) (fuel:Nat) :
  ∀(obl:Nat→Wa1→Prop) (listed:Array Bool) (ρ:Env) (h:Wa1),
   (∀j oj,ops[j]? = some oj→j≠i→listed.getD j true=false→(∀e ∈ oj.after,Region.binds .any e=true→e.on≠i)→oi.apart ops oj=true) →
   Closed ops listed→i ∈ Region.ready .any ops listed→YieldsL P ops L oi v ρ→Wx7 L h →
   Zs2 P ops K fuel (λe h'=>((∀m,Wh6 ops m e i=false)→Wx7 L h')∧obl e h') (listed.setIfInBounds i true) (WI0 ρ oi.dst v) h→Zs2 P ops K (fuel+1) obl listed ρ h:=by
 induction fuel with
 | zero=>
  intro obl listed ρ h _ hcl hr hy hL H
  refine ⟨λe=>(by rw [e] at hr;cases hr),λj hj=>?_⟩
  by_cases hji:j=i
  ·subst hji;exact hy.pstep hi hL ⟨.inl rfl,H⟩
  ·have:=ready_mono hj hji
   rw [H.1] at this
   cases this
 | succ fuel ih=>
  intro obl listed ρ h hfree hcl hr hy hL H
  refine ⟨λe=>(by rw [e] at hr;cases hr),λj hj=>?_⟩
  by_cases hji:j=i
  ·subst hji;exact hy.pstep hi hL ⟨.inl rfl,WR6 _ (λ_ _ x=>x.2) H⟩
  ·have h1:=H.2 j (ready_mono hj hji)
   obtain ⟨hjun,oj,hoj,hall⟩:=mem_ready.1 hj
   have hiun:listed.getD i false=false:=by
    have h0:=(mem_ready.1 hr).1
    rcases Nat.lt_or_ge i listed.size with h' | h'
    ·simp [h'] at h0 ⊢;exact h0
    ·simp [Array.getElem?_eq_none h']
   have hnot:∀e ∈ oj.after,Region.binds .any e=true→e.on≠i:=λe he hb heq=>by
    have h1:=hall e he hb
    rw [heq,hiun] at h1;cases h1
   have h2:=YR9 hoj (hfree j oj hoj hji hjun hnot) (hp0 i oi hi) (hp0 j oj hoj) hy h1
   have hfree':∀k ok,ops[k]? = some ok→k≠i→(listed.setIfInBounds j true).getD k true=false →
     (∀e ∈ ok.after,Region.binds .any e=true→e.on≠i)→oi.apart ops ok=true:=λk ok hk hki hun hno=>by
    refine hfree k ok hk hki ?_ hno
    by_cases hjk:j=k
    ·subst hjk;exact hjun
    ·rw [getD_set_ne true hjk] at hun;exact hun
   refine W04 (λρ' h' x=>?_) h2
   obtain ⟨hy',hx,hany⟩:=x
   have hL':Wx7 L h':=by
    rcases hx with rfl | hx
    ·exact hL
    ·exact hx.1 (λm=>Yl3 hcl hj hiun)
   refine ⟨hx.imp id (λx=>x.2),ih obl (listed.setIfInBounds j true) ρ' h' hfree' (hcl.set hj) (ready_mono hr (Ne.symm hji)) hy' hL' ?_⟩
   rw [Array.setIfInBounds_comm _ _ hji]
   exact hany
end
end
section
section
variable {P:Program} {ops:Array Oper}
theorem Zc2 {h:Wa1} {a:Addr} (n:Nat):∀ {i:Nat} {acc:List Value} {L:List (Addr × Value)} {F:List Value→List (Addr × Value)→Prop},ZH8 h a i n acc L F →
  ∃cs L',F cs (L.reverse ++ L')∧Wx7 L' h∧∀h2,Wx7 L' h2→∀G:List Value→Prop,G cs→ldN h2 a i n acc G:=by
 induction n with
 | zero=>
  intro i acc L F H
  refine ⟨acc.reverse,[],?_,λx hx=>(by cases hx),λh2 _ G g=>g⟩
  have H2:F acc.reverse L.reverse:=H
  simpa using H2
 | succ n ih=>
  intro i acc L F H
  obtain ⟨v,hv,H⟩:=WQ8 H
  obtain ⟨cs,L',h1,h2,h3⟩:=ih H
  refine ⟨cs,(a.add i,v) :: L',by simpa using h1,?_,?_⟩
  ·intro x hx
   rcases List.mem_cons.1 hx with rfl | hx
   ·exact hv
   ·exact h2 x hx
  ·intro h4 hL G g
   have e:Wa2 h4 (a.add i)=some v:=hL (a.add i,v) (by simp)
   show ldH h4 (a.add i) _
   unfold ldH;rw [e]
   exact h3 h4 (λx hx=>hL x (by simp [hx])) G g
theorem Zc3 {ρ:Operand→Value} {o:Oper} {h:Wa1} {F:Value→List (Addr × Value)→Prop} (hr:Wn9 P o=true) (H:ZH9 P ρ o h F) :
  ∃v L,RdAs P ρ o L v∧Wx7 L h∧F v L:=by
 unfold ZH9 at H
 split at H
 ·rename_i t x hx
  obtain ⟨a,ha,H⟩:=Wh5 H
  split at H
  ·rename_i hth
   split at H
   ·rename_i hagg
    obtain ⟨cs,L',h1,h2,h3⟩:=Zc2 _ H
    refine ⟨_,L',?_,h2,by simpa using h1⟩
    intro h4 hL K hk
    unfold vop;rw [hx];simp only [ha,Wd2,if_pos hth,if_pos hagg]
    exact h3 h4 hL _ hk
   ·rename_i hagg
    obtain ⟨v,hv,H⟩:=WQ8 H
    refine ⟨v,[(a,v)],?_,λx hx=>by simp at hx;subst hx;exact hv,H⟩
    intro h4 hL K hk
    have e:Wa2 h4 a=some v:=hL (a,v) (by simp)
    unfold vop;rw [hx];simp only [ha,Wd2,if_pos hth,if_neg hagg,ldH,e]
    exact hk
  ·exact H.elim
 ·rename_i hn
  obtain ⟨v,h1,h2⟩:=Zb9 (G:=λv=>F v []) hr (λt x e=>hn t x e) H
  exact ⟨v,[],h2,λx hx=>(by cases hx),h1⟩
def Zc4 (ops:Array Oper) (held:ZA3) (e:Nat) (h:Wa1):Prop:=∀x ∈ held,(∀m,Wh6 ops m e x.1=false)→Wx7 x.2 h
theorem YE3 {h:Wa1} {X:Prop} (L:List (Addr × Value)) (H:YQ9 h L X):Wx7 L h∧X:=by
 induction L with
 | nil=>exact ⟨λx hx=>(by cases hx),H⟩
 | cons p L ih=>
  obtain ⟨h1,h2⟩:=ih H.2
  refine ⟨λx hx=>?_,h2⟩
  rcases List.mem_cons.1 hx with rfl | hx
  ·exact H.1
  ·exact h1 x hx
theorem YE4 {k j:Nat} {o:Oper} (ho:ops[k]? = some o) (hj:j ∈ WL2 o):∀(m e:Nat),Wh6 ops m e k=true→Wh6 ops (m+1) e j=true:=by
 have edge:Wh6 ops 1 k j=true:=by
  unfold WL2 at hj
  obtain ⟨ed,hed,he⟩:=List.mem_filterMap.1 hj
  unfold Wh6
  rw [ho]
  refine Array.any_eq_true'.2 ⟨ed,by simpa using hed,?_⟩
  cases hb:Region.binds .any ed with
  | false=>rw [hb] at he;cases he
  | true=>rw [hb] at he;cases he;simp
 have up:∀(m e i:Nat),Wh6 ops m e i=true→Wh6 ops (m+1) e i=true:=by
  intro m
  induction m with
  | zero=>intro e i h;simp [Wh6] at h
  | succ m ih=>
   intro e i h
   unfold Wh6 at h ⊢
   split at h
   ·cases h
   ·obtain ⟨ed,hed,hb⟩:=Array.any_eq_true'.1 h
    refine Array.any_eq_true'.2 ⟨ed,hed,?_⟩
    simp only [Bool.and_eq_true,Bool.or_eq_true] at hb ⊢
    exact ⟨hb.1,hb.2.imp id (ih _ _)⟩
 intro m
 induction m with
 | zero=>intro e h;simp [Wh6] at h
 | succ m ih=>
  intro e h
  unfold Wh6 at h ⊢
  split at h
  ·cases h
  ·obtain ⟨ed,hed,hb⟩:=Array.any_eq_true'.1 h
   refine Array.any_eq_true'.2 ⟨ed,hed,?_⟩
   simp only [Bool.and_eq_true,Bool.or_eq_true,beq_iff_eq] at hb ⊢
   refine ⟨hb.1,.inr ?_⟩
   rcases hb.2 with h2 | h2
   ·rw [h2]
    have:∀n,Wh6 ops (n+1) k j=true:=λn=>by
     induction n with
     | zero=>exact edge
     | succ n ih=>exact up _ _ _ ih
    exact this m
   ·exact ih _ h2
theorem W06 {e k j:Nat} {o:Oper} (ho:ops[k]? = some o) (hj:j ∈ WL2 o) (h:k=e∨∃m,Wh6 ops m e k=true):∃m,Wh6 ops m e j=true:=by
 rcases h with rfl | ⟨m,h⟩
 ·unfold WL2 at hj
  obtain ⟨ed,hed,he⟩:=List.mem_filterMap.1 hj
  refine ⟨1,?_⟩
  unfold Wh6
  rw [ho]
  refine Array.any_eq_true'.2 ⟨ed,by simpa using hed,?_⟩
  cases hb:Region.binds .any ed with
  | false=>rw [hb] at he;cases he
  | true=>rw [hb] at he;cases he;simp
 ·exact ⟨m+1,YE4 ho hj m e h⟩
theorem Ya9 {e i:Nat}:∀(n:Nat) (st:List Nat) (vis:Nat),(∀k ∈ st,k=e∨∃m,Wh6 ops m e k=true)→WN6 ops i n st vis=true→∃m,Wh6 ops m e i=true:=by
 intro n
 induction n with
 | zero=>intro st vis _ h;simp [WN6] at h
 | succ n ih=>
  intro st vis hst h
  cases st with
  | nil=>simp [WN6] at h
  | cons k st=>
   unfold WN6 at h
   have hst':∀k ∈ st,k=e∨∃m,Wh6 ops m e k=true:=λx hx=>hst x (by simp [hx])
   split at h
   ·exact ih _ _ hst' h
   ·split at h
    ·exact ih _ _ hst' h
    ·rename_i o ho
     have hk:=hst k (by simp)
     split at h
     ·rename_i ha
      obtain ⟨j,hj,hji⟩:=List.any_eq_true.1 ha
      obtain rfl:=Nat.eq_of_beq_eq_true hji
      exact W06 ho hj hk
     ·refine ih _ _ (λx hx=>?_) h
      rcases List.mem_append.1 hx with hx | hx
      ·exact .inr (W06 ho hx hk)
      ·exact hst' x hx
theorem W07 {e:Nat} {h:Wa1} {X:Prop} (held:ZA3) (H:W02 ops e h held X):Zc4 ops held e h∧X:=by
 induction held with
 | nil=>exact ⟨λx hx=>(by cases hx),H⟩
 | cons p held ih=>
  obtain ⟨i,L⟩:=p
  unfold W02 at H
  split at H
  ·rename_i hw
   obtain ⟨h1,h2⟩:=ih H
   refine ⟨λx hx hx2=>?_,h2⟩
   rcases List.mem_cons.1 hx with rfl | hx
   ·obtain ⟨m,hm⟩:=Ya9 _ _ _ (λk hk=>.inl (by simpa using hk)) hw
    rw [hx2 m] at hm;cases hm
   ·exact h1 x hx hx2
  ·obtain ⟨h0,H⟩:=YE3 _ H
   obtain ⟨h1,h2⟩:=ih H
   refine ⟨λx hx hx2=>?_,h2⟩
   rcases List.mem_cons.1 hx with rfl | hx
   ·exact h0
   ·exact h1 x hx hx2
theorem Yx8 {F:Nat→Prop}:∀(l:List Nat),ZI0 l F→∀i ∈ l,F i
 | [],_,i,hi=>by cases hi
 | [j],H,i,hi=>by simp at hi;subst hi;exact H
 | j :: k :: l,H,i,hi=>by
  rcases List.mem_cons.1 hi with rfl | hi
  ·exact H.1
  ·exact Yx8 (k :: l) H.2 i hi
theorem YE5 (hp0:∀(j:Nat) (o:Oper),ops[j]? = some o→Wp1 o=true) {K:Env→Wa1→Prop} (n:Nat):∀(listed:Array Bool) (held:ZA3) (ρ:Env) (h:Wa1),Closed ops listed →
  W33 P ops n listed held ρ h K→Zs2 P ops K n (Zc4 ops held) listed ρ h:=by
 induction n with
 | zero=>
  intro listed held ρ h hcl H
  unfold W33 at H
  split at H
  ·exact ⟨‹_›,H⟩
  ·exact H.elim
 | succ n ih=>
  intro listed held ρ h hcl H
  unfold W33 at H
  split at H
  ·rename_i i hi
   split at H
   ·exact H.elim
   ·rename_i o ho
    unfold Yx2 at hi
    have hmem:=List.mem_of_find?_eq_some hi
    have hpr:=List.find?_some hi
    rw [ho] at hpr
    simp only [Bool.and_eq_true] at hpr
    have H:=WL5 H
    have hfr:=Region.free_spec ho hpr.2
    split at H
    ·rename_i hw
     obtain ⟨v,L,h1,h2,h3⟩:=Zc3 hpr.1 H
     refine W05 (L:=L) ho hp0 n (Zc4 ops held) listed ρ h hfr hcl hmem (.inl ⟨hw,h1⟩) h2 ?_
     refine WR6 _ ?_ (ih _ _ _ _ (hcl.set hmem) (Yl0 h3))
     intro e h' hob
     refine ⟨λhwt=>?_,λx hx hx2=>?_⟩
     ·cases L with
      | nil=>exact λx hx=>(by cases hx)
      | cons p L=>exact hob (i,p :: L) (by simp) hwt
     ·cases L with
      | nil=>exact hob x hx hx2
      | cons p L=>exact hob x (by simp [hx]) hx2
    ·rename_i hw
     refine W05 (L:=[]) ho hp0 n (Zc4 ops held) listed ρ h hfr hcl hmem (.inr ⟨by simpa using hw,rfl⟩) (λx hx=>by cases hx) ?_
     refine WR6 _ ?_ (ih _ _ _ _ (hcl.set hmem) H)
     intro e h' hob
     exact ⟨λ_ x hx=>(by cases hx),hob⟩
  ·split at H
   ·rename_i hr
    exact ⟨λ_=>H,λi hi=>by rw [hr] at hi;cases hi⟩
   ·rename_i hne
    refine ⟨λhr=>absurd hr (by simpa using hne),λe he=>?_⟩
    have H:=Yx8 _ H e he
    split at H
    ·exact H.elim
    ·rename_i o ho
     have H:=WL5 H
     unfold pstep;rw [ho];simp only
     split at H
     ·rename_i hw
      rw [if_pos hw]
      refine WP9 (λv h' x=>?_) H
      obtain ⟨h1,h2⟩:=W07 _ (Yl0 x)
      exact ⟨.inr h1,ih _ _ _ _ (hcl.set he) h2⟩
     ·rename_i hw
      rw [if_neg hw]
      obtain ⟨h1,h2⟩:=W07 _ H
      exact ⟨.inl trivial,ih _ _ _ _ (hcl.set he) h2⟩
theorem Yb0 {n:Nat} {r:Option Nat} {Q:Exit→Act→World→Prop} (ho:Ya3 n ops=true) {ws:List Nat} (hws:∀(i:Nat) (o:Oper),ops[i]? = some o→∀d,o.dst=some d→d ∈ ws) {K:Env→Wa1→Prop} (m:Nat):∀(obl:Nat→Wa1→Prop) (listed:Array Bool) (ρ:Env) (h:Wa1) (a:Act) (w:World),
  Zs2 P ops K m obl listed ρ h→Rl n a.tmps ρ→w.heap=h→(∀ρ' a' w',K ρ' w'.heap→Rl n a'.tmps ρ'→SmT ws a.tmps a'.tmps→a'.defers=a.defers→Kw w w'→Q .normal a' w') →
  wpAnyIn (FW r) 0 P .any ops Q m listed a w:=by
 induction m with
 | zero=>intro obl listed ρ h a w H hR hw hQ;subst hw;exact ⟨H.1,hQ _ _ _ H.2 hR (SmT.refl _ _) rfl (Kw.refl _)⟩
 | succ m ih=>
  intro obl listed ρ h a w H hR hw hQ
  refine ⟨λhr=>by subst hw;exact hQ _ _ _ (H.1 hr) hR (SmT.refl _ _) rfl (Kw.refl _),λi hi=>?_⟩
  refine Ya2 (n:=n) (H.2 i hi) hR hw (λo' ho'=>W35 ho i o' ho') (hws i) ?_
  intro ρ' a' w' x hR' hs hd hkd
  exact ih _ _ ρ' _ a' w' x.2 hR' rfl λρ'' a'' w'' hK hR'' hs' hd' hkd'=>hQ ρ'' a'' w'' hK hR'' (hs.trans hs') (hd'.trans hd) (hkd.trans hkd')
theorem Yl4 {n:Nat} (ho:Ya3 n ops=true) (j:Nat) (o:Oper) (hj:ops[j]? = some o):Wp1 o=true:=by
 have:=W35 ho j o hj
 unfold YD7 at this;simp at this;exact this.1
theorem YE6 {n:Nat} {r:Option Nat} {id:Nat} {Q:Exit→Act→World→Prop} {ρ:Env} {h:Wa1} {a:Act} {w:World} (hm:P.follows .mixedOrders=true) (ho:Ya3 n ops=true) {ws:List Nat} (hws:∀(i:Nat) (o:Oper),ops[i]? = some o→∀d,o.dst=some d→d ∈ ws) {K:Env→Wa1→Prop}
  (H:W33 P ops ops.size (Array.replicate ops.size false) [] ρ h K) (hR:Rl n a.tmps ρ) (hw:w.heap=h)
  (hQ:∀ρ' a' w',K ρ' w'.heap→Rl n a'.tmps ρ'→SmT ws a.tmps a'.tmps→a'.defers=a.defers→Kw w w'→Q .normal a' w'):(Code.region id ops true).wpIn (FW r) 0 P Q a w:=by
 refine wpIn_region_any hm ?_
 have hcl:Closed ops (Array.replicate ops.size false):=by
  intro k o hk ho e he hb
  rw [getD_replicate_false'] at hk;cases hk
 exact Yb0 ho hws _ _ _ ρ h a _ (YE5 (Yl4 ho) _ _ _ _ _ hcl H) hR hw hQ
where
 getD_replicate_false' (m j:Nat):(Array.replicate m false).getD j false=false:=by
  simp [Array.getD_eq_getD_getElem?,Array.getElem?_replicate];split <;> rfl
end
end
end Go.Proofs.YtahpbclnkofhfaaGreat
